/- Package picture: Pnm, and the same of valiseref16, as a whole. -/
import Derived.Test.YtflchmhhmkkooaaVPictE
namespace Go.Proofs.YtflchmhhmkkooaaV
open Go Go.RowKit
section
variable {b : Value} {xs : List Int} {w : World}
theorem toks_at {tk : Nat → Nat → Option (Int × Nat)} (hb : ∀ {j a v b}, a ≤ xs.length → tk j a = some (v, b) → b ≤ xs.length) (h2 : 2 ≤ xs.length) : ∀ {j : Nat} {l : List Int} {a : Nat}, toks tk j = some (l, a) → a ≤ xs.length
  | 0, l, a, h => by simp [toks] at h; omega
  | j + 1, l, a, h => by
    simp only [toks, Option.bind_eq_some_iff, Option.map_eq_some_iff, Prod.mk.injEq] at h
    obtain ⟨⟨l1, a1⟩, h1, ⟨v, q⟩, h2', rfl, rfl⟩ := h
    exact hb (toks_at hb h2 h1) h2'
theorem tokR_at {a b : Nat} {v : Int} (ha : a ≤ xs.length) (h : tokR xs a = some (v, b)) : b ≤ xs.length ∧ 0 ≤ v ∧ v < 1000000 := by
  unfold tokR at h
  split at h
  · cases h
  · split at h
    · cases h
    · rename_i h1 h2
      injection h with h; injection h with e1 e2
      have hk := (blankL_bd (xs := xs) (f := xs.length + 1 - a) ha).2
      have hk' : (blankI xs a).2 ≤ xs.length := hk
      have hr := runL_bd (xs := xs) (f := 6) (v := 0) hk'
      have hv := runL_rng (xs := xs) (f := 6) (a := (blankI xs a).2) (v := 0) (m := 1) (by omega) (by omega)
      unfold numRR at h2 e1 e2
      split at h2
      · exact absurd (show (-1 : Int) < 0 by omega) h2
      · rename_i hc
        rw [if_neg hc] at e1 e2
        dsimp only at e1 e2
        rw [Int.toNat_natCast] at e2
        subst e1; subst e2
        have e6 : (1 : Int) * ((10 ^ 6 : Nat) : Int) = 1000000 := by decide
        omega
theorem tokP_at {a b : Nat} {v m : Int} (ha : a ≤ xs.length) (h : tokP xs m a = some (v, b)) : b ≤ xs.length ∧ 1 ≤ v ∧ v ≤ m := ⟨(tokR_at ha (tok_iff.1 h).1).1, (tok_iff.1 h).2⟩
theorem rd_idx (i : Nat) : rd xs ((i : Nat) : Int) = xs.getD i 0 := by simp [rd]
/-- The cells of three numbers, told so far. -/
def arP (l : List Int) : List Value := [.int .i64 (l.getD 0 0), .int .i64 (l.getD 1 0), .int .i64 (l.getD 2 0)]
theorem arP_set {l : List Int} {j : Nat} {v : Int} (hl : l.length = j) (hj : j < 3) : (arP l).set j (.int .i64 v) = arP (l ++ [v]) := by
  have : j = 0 ∨ j = 1 ∨ j = 2 := by omega
  unfold arP
  rcases this with rfl | rfl | rfl
  · obtain rfl : l = [] := List.eq_nil_of_length_eq_zero hl
    rfl
  · obtain ⟨a, rfl⟩ := List.length_eq_one_iff.1 hl
    rfl
  · obtain ⟨a, b, rfl⟩ : ∃ a b, l = [a, b] := by
      match l, hl with
      | [a, b], _ => exact ⟨a, b, rfl⟩
    rfl
theorem toks_step {tk : Nat → Nat → Option (Int × Nat)} {j : Nat} {l : List Int} {a : Nat} (h : toks tk j = some (l, a)) : toks tk (j + 1) = (tk j a).map fun q => (l ++ [q.1], q.2) := by rw [toks, h]; rfl
theorem toks_no {tk : Nat → Nat → Option (Int × Nat)} {j : Nat} {l : List Int} {a : Nat} (h : toks tk j = some (l, a)) (hj : j < 3) (hn : tk j a = none) : toks tk 3 = none := by
  have h1 : toks tk (j + 1) = none := by rw [toks_step h, hn]; rfl
  have := toks_up h1 (2 - j)
  rwa [show j + 1 + (2 - j) = 3 by omega] at this
theorem toks_yes {tk : Nat → Nat → Option (Int × Nat)} {j : Nat} {l : List Int} {a c : Nat} {v : Int} (h : toks tk j = some (l, a)) (hn : tk j a = some (v, c)) : toks tk (j + 1) = some (l ++ [v], c) := by rw [toks_step h, hn]; rfl
theorem hdP_t (h : hdP xs = true) : 2 ≤ xs.length ∧ rd xs 0 = 80 ∧ (rd xs 1 = 53 ∨ rd xs 1 = 54) := of_decide_eq_true h
theorem rPnm_any (hb : Nm .u8 w b xs) (hl : xs.length ≤ 1000000000) : Calls P n_valiseref16_Pnm #[b] w (PicE w (pnmR xs)) := by
  have bad : ∀ {w1 : World} {F : List It} {ad : Addr} {cs : List Value}, Fr w w1 F → ∀ (i : Nat), F[i]? = some (sIt ad cs) → cs.length = 5 → pnmR xs = no →
      gStore P t_api_Picture (.pointer (some ad)) (.agg #[.int .i64 0, .int .i64 0, .int .i64 0, .int .i64 0, .int .i64 0]) w1 fun ww => gLoad P t_api_Picture (.part (.agg [.int .i64, .int .i64, .int .i64, .int .i64, .int .i64])) (.pointer (some ad)) ww fun (r0_0 : Int) (r0_1 : Int) (r0_2 : Int) (r0_3 : Int) (r0_4 : Int) => PicE w (pnmR xs) (.returned (.tuple #[.agg #[.int .i64 r0_0, .int .i64 r0_1, .int .i64 r0_2, .int .i64 r0_3, .int .i64 r0_4], .bool false])) ww :=
    fun f i hi hc hno => fPicEnd (r := no) f i hi hc (by rw [hno])
  have nohd : hdP xs = false → pnmR xs = no := fun h => by unfold pnmR; rw [h, if_neg (by simp)]
  refine of_valiseref16_Pnm (fPicNew (Fr.start w) fun t2 w1 f1 => ⟨fun w' => hdP xs = true ∧ Fr w w' [sIt t2 Pc.z.c], ?_, ?_⟩)
  · have hbw := hb.ev f1.old
    refine gLen_nm hb (gIf_ndec (fun h2 => gIdx_nm hbw (by omega) (by omega) fun a1 c1 _ => gLoad_i c1 (gIf_nneq (fun e80 => gIdx_nm hbw (by omega) (by omega) fun a2 c2 _ => gLoad_i c2 (gIf_neq (fun n53 => gIdx_nm hbw (by omega) (by omega) fun a3 c3 _ => gLoad_i c3 (gIf_neq (fun n54 => bad f1 0 rfl rfl (nohd (decide_eq_false (by omega)))) (fun e54 => ⟨decide_eq_true (by omega), f1⟩))) (fun e53 => ⟨decide_eq_true (by omega), f1⟩))) (fun n80 => bad f1 0 rfl rfl (nohd (decide_eq_false (by omega)))))) (fun h2 => bad f1 0 rfl rfl (nohd (decide_eq_false (by omega)))))
  rintro _ w5 ⟨hd, f5⟩
  obtain ⟨h2, e80, e5⟩ := hdP_t hd
  have hpl := plP_rng xs
  refine fPicNew f5 fun p4 w6 f6 => fPicSet f6 0 rfl rfl fun w7 f7 => ⟨fun w' => Fr w w' [sIt p4 (Pc.mk 0 0 (plP xs) 0 0).c, sIt t2 Pc.z.c], ?_, ?_⟩
  · have hbw := hb.ev f7.old
    refine gIdx_nm hbw (by omega) (by omega) fun a1 c1 _ => gLoad_i c1 (gIf_eq (fun e54 => fStore f7 0 2 rfl fun w8 f8 => ?_) (fun n54 => ?_))
    · have : plP xs = 3 := by unfold plP; rw [if_pos e54]
      rw [this]; exact f8
    · have : plP xs = 1 := by unfold plP; rw [if_neg n54]
      rw [this]; exact f7
  rintro _ w9 f9
  refine fAlloc (z := .agg #[.int .i64 0, .int .i64 0, .int .i64 0]) f9 (by kernel_rfl) fun v5 w10 f10 => ⟨fun at1 i w' => ∃ (j : Nat) (l : List Int) (a : Nat), at1 = a ∧ i = j ∧ j ≤ 3 ∧ toks (tkR xs) j = some (l, a) ∧ Fr w w' [sIt v5 (arP l), sIt p4 (Pc.mk 0 0 (plP xs) 0 0).c, sIt t2 Pc.z.c], fun _ i _ => 3 - i.toNat, ⟨0, [], 2, rfl, rfl, by omega, rfl, f10⟩, ?_⟩
  rintro _ at1 i w11 ⟨j, l, a, rfl, rfl, hj, ht, f11⟩
  have hbw := hb.ev f11.old
  have hal : a ≤ xs.length := toks_at (fun ha h => (tokR_at ha h).1) h2 ht
  have hll := toks_len ht
  have nott : toks (tkR xs) 3 = none → pnmR xs = no := fun h => by unfold pnmR; rw [hd, if_pos rfl, h]
  refine gIf_dec (fun hlt => ?_) (fun hge => ?_)
  · refine gCall_i0 (rwhite_any hbw hl hal) (gIf_dec (fun hneg => ?_) (fun hneg => ?_))
    · exact bad f11 2 rfl rfl (nott (toks_no ht (by omega) (by show tokR xs a = none; unfold tokR; rw [if_pos hneg])))
    · have hw : whiteR xs a = ((blankI xs a).2 : Int) := by
        unfold whiteR at hneg ⊢
        split at hneg
        · rename_i hc; rw [if_pos hc]
        · omega
      have hk : (blankI xs a).2 ≤ xs.length := (blankL_bd (xs := xs) (f := xs.length + 1 - a) hal).2
      rw [hw]
      refine gCall_of (rnumber_any hbw hl hk) ?_
      rintro _ _ ⟨rfl, rfl⟩
      refine ⟨_, _, rfl, ?_⟩
      refine gIdx_ar1 3 j rfl (by omega) ?_
      refine fStore f11 0 j rfl (hj := by show j < 3; omega) fun w15 f15 => gIf_dec (fun hn2 => ?_) (fun hn2 => ?_)
      · exact bad f15 2 rfl rfl (nott (toks_no ht (by omega) (by show tokR xs a = none; unfold tokR; rw [if_neg hneg, if_pos hn2])))
      · have htk : tkR xs j a = some ((numRR xs (blankI xs a).2).1, (numRR xs (blankI xs a).2).2.toNat) := by show tokR xs a = _; unfold tokR; rw [if_neg hneg, if_neg hn2]
        rw [i64_id (n := (j : Int) + 1) (by omega) (by omega)]
        refine ⟨⟨j + 1, _, _, by omega, rfl, by omega, toks_yes ht htk, ?_⟩, by dsimp only; omega⟩
        rw [← arP_set hll (by omega)]
        exact f15
  · obtain rfl : j = 3 := by omega
    have hends : pnmR xs = endPR xs l a := by unfold pnmR; rw [hd, if_pos rfl, ht]
    have nend : ¬ (a < xs.length ∧ whiteB (rd xs a) = true ∧ 1 ≤ l.getD 2 0 ∧ l.getD 2 0 ≤ 255) → pnmR xs = no := fun h => by rw [hends]; unfold endPR; rw [if_neg h]
    refine ⟨fun w' => (a < xs.length ∧ whiteB (rd xs a) = true ∧ 1 ≤ l.getD 2 0 ∧ l.getD 2 0 ≤ 255) ∧ Fr w w' [sIt v5 (arP l), sIt p4 (Pc.mk 0 0 (plP xs) 0 0).c, sIt t2 Pc.z.c], ?_, ?_⟩
    · refine gLen_nm hb (gIf_ndec (fun hlt => gIdx_nm hbw (by omega) (by omega) fun a1 c1 _ => gLoad_i c1 (gCall_b0 rblank_any ?_)) (fun hge => bad f11 2 rfl rfl (nend (by omega))))
      cases hw : whiteB (rd xs a) with
      | false => exact gIf_nnf (bad f11 2 rfl rfl (nend (by rw [hw]; simp)))
      | true =>
        refine gIf_nn (gIdx_ar1 3 2 rfl (by omega) (fLoad_i f11 0 2 rfl rfl (gIf_ndec (fun g1 => gIdx_ar1 3 2 rfl (by omega) (fLoad_i f11 0 2 rfl rfl (gIf_dec (fun g2 => bad f11 2 rfl rfl (nend (by omega))) (fun g2 => ⟨⟨by omega, rfl, by omega, by omega⟩, f11⟩)))) (fun g1 => bad f11 2 rfl rfl (nend (by omega))))))
    · rintro _ w22 ⟨hc, f22⟩
      have hends2 : pnmR xs = if fitsP (pcP xs l a) xs.length then (pcP xs l a, true) else no := by rw [hends]; unfold endPR; rw [if_pos hc]
      have hv : ∀ i, i < 3 → 0 ≤ l.getD i 0 ∧ l.getD i 0 < 1000000 := by
        have : ∀ {j : Nat} {l : List Int} {a : Nat}, toks (tkR xs) j = some (l, a) → ∀ i, i < j → 0 ≤ l.getD i 0 ∧ l.getD i 0 < 1000000 := by
          intro j
          induction j with
          | zero => intro l a _ i hi; omega
          | succ j ih =>
            intro l a h i hi
            simp only [toks, Option.bind_eq_some_iff, Option.map_eq_some_iff, Prod.mk.injEq] at h
            obtain ⟨⟨l1, a1⟩, h1, ⟨v, q⟩, h2', rfl, rfl⟩ := h
            have hl1 := toks_len h1
            dsimp only at *
            by_cases e : i < j
            · rw [getD_app_l (by omega)]; exact ih h1 i e
            · obtain rfl : i = j := by omega
              rw [getD_app_r (by omega), hl1, Nat.sub_self]
              exact (tokR_at (toks_at (fun ha h => (tokR_at ha h).1) h2 h1) h2').2
        exact this ht
      have v0 := hv 0 (by omega)
      have hst : 0 ≤ l.getD 0 0 * plP xs ∧ l.getD 0 0 * plP xs ≤ 3000000 := by rcases hpl with e | e <;> rw [e] <;> omega
      refine ⟨fun w' => w'.cell? (v5.add 0) = some (.int .i64 (l.getD 0 0)) ∧ w'.cell? (v5.add 1) = some (.int .i64 (l.getD 1 0)), ⟨f22.drew.cell 0 0 rfl rfl, f22.drew.cell 0 1 rfl rfl⟩, gIdx_ar1 3 0 rfl (by omega) (gLoadB_i (fun _ h => h.1) (gIdx_ar1 3 1 rfl (by omega) (gLoadB_i (fun _ h => h.2) (fStore f22.drew 1 0 rfl fun w23 f23 => ⟨⟨f23.cell 0 0 rfl rfl, f23.cell 0 1 rfl rfl⟩, fStore f23 1 1 rfl fun w24 f24 => ⟨⟨f24.cell 0 0 rfl rfl, f24.cell 0 1 rfl rfl⟩, fStore f24 1 4 rfl fun w25 f25 => ⟨⟨f25.cell 0 0 rfl rfl, f25.cell 0 1 rfl rfl⟩, ?_⟩⟩⟩))))⟩
      refine fLoad_i f25 1 0 rfl rfl (fLoad_i f25 1 2 rfl rfl (fStore f25 1 3 rfl fun w26 f26 => ?_))
      rw [i64_id (n := l.getD 0 0 * plP xs) (by omega) (by omega), show i64 ((a : Int) + 1) = ((a + 1 : Nat) : Int) by rw [i64_id (by omega) (by omega)]; omega] at f26
      refine fPic (pcP xs l a) f26 1 rfl (gLen_nm hb ?_)
      refine gCall_b (rfits_any (by exact ⟨hst.1, by have := hst.2; show l.getD 0 0 * plP xs ≤ _; omega⟩) (by show (0 : Int) ≤ ((a + 1 : Nat) : Int) ∧ ((a + 1 : Nat) : Int) ≤ 1000000000000; omega) (by omega)) fun w27 h27 => ?_
      have f27 := f26.ev h27
      change gIf (!(fitsP (pcP xs l a) xs.length)) _ _
      cases hf : fitsP (pcP xs l a) xs.length with
      | false => exact gIf_nf (bad f27 2 rfl rfl (by rw [hends2, hf]; rfl))
      | true =>
        refine gIf_nt (fPic (pcP xs l a) f27 1 rfl (fPicEnd (r := (pcP xs l a, true)) f27 2 rfl rfl ?_))
        rw [hends2, hf]; rfl
end
end Go.Proofs.YtflchmhhmkkooaaV
