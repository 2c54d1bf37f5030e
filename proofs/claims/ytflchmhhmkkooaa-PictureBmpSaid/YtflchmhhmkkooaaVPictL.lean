/- The laws PictureParses, PictureWithin. -/
import Derived.Test.YtflchmhhmkkooaaVPictI
import Derived.Test.YtflchmhhmkkooaaVHelpOwn
namespace Go.Proofs.YtflchmhhmkkooaaV
open Go Go.RowKit
theorem awake_end {w0 w : World} (h : Ev w0 w) : gCall P n_valiselaw16_awake shB #[] w fun t ww => Holds w0 (.returned (.bool t)) ww := gCall_b awake_any fun _ h2 => ⟨rfl, h.trans h2⟩
theorem PictureParses_law {b : Value} {xs : List Int} {w : World} (hb : Nm .u8 w b xs) : Calls P n_valiselaw16_PictureParses #[b] w (Holds w) := by
  refine of_valiselaw16_PictureParses (gLen_nm hb (gIf_dec (fun _ => awake_end (Ch.refl _ w)) (fun hl => ?_)))
  refine gCall_v (Own_byte_any hb (by omega) (by decide)) fun i1 w1 ⟨h1, hi1⟩ => ?_
  have hb1 := hb.ev h1
  have hi := hi1.nm
  refine gCall_pic (Bmp_any hi (by omega)) fun w2 h2 => fPicNew ((Fr.start w1).ev h2) fun p w3 f3 => fPicSet f3 0 rfl rfl fun w4 f4 => ?_
  refine gCall_pic (rBmp_any (hb1.ev f4.old) (by omega)) fun w5 h5 => fPicNew (f4.ev h5) fun q w6 f6 => fPicSet f6 0 rfl rfl fun w7 f7 => ?_
  refine gCall_pic (Pnm_any (hi.ev f7.old) (by omega)) fun w8 h8 => fPicNew (f7.ev h8) fun r w9 f9 => fPicSet f9 0 rfl rfl fun w10 f10 => ?_
  refine gCall_pic (rPnm_any (hb1.ev f10.old) (by omega)) fun w11 h11 => fPicNew (f10.ev h11) fun s w12 f12 => fPicSet f12 0 rfl rfl fun w13 f13 => ?_
  refine gCall_pic (Parse_any (hi.ev f13.old) (by omega)) fun w14 h14 => fPicNew (f13.ev h14) fun t w15 f15 => fPicSet f15 0 rfl rfl fun w16 f16 => ?_
  refine gCall_pic (rParse_any (hb1.ev f16.old) (by omega)) fun w17 h17 => fPicNew (f16.ev h17) fun u w18 f18 => fPicSet f18 0 rfl rfl fun w19 f19 => ?_
  refine gCall_b awake_any fun w20 h20 => gIf_t ?_
  have f20 := f19.ev h20
  refine fPic (bmpP xs).1 f20 5 rfl (fPic (bmpP xs).1 f20 4 rfl (gEq_pic _ _ (gIf_dec (fun _ => gEq_bool (gIf_b (fun _ => ?_) (fun h => by simp at h))) (fun h => (h rfl).elim))))
  refine fPic (pnmP xs).1 f20 3 rfl (fPic (pnmR xs).1 f20 2 rfl (gEq_pic _ _ (gIf_dec (fun _ => gEq_bool (gIf_b (fun _ => ?_) (fun h => by rw [pnm_eq] at h; simp at h))) (fun h => (h (by rw [pnm_eq])).elim))))
  refine fPic (parseP xs).1 f20 1 rfl (fPic (parseP xs).1 f20 0 rfl (gEq_pic _ _ (gIf_dec (fun _ => gEq_bool (gIf_b (fun _ => ?_) (fun h => by simp at h))) (fun h => (h rfl).elim))))
  exact gCall_b (Kept_byte_any (hi1.ev f20.old) (hb1.ev f20.old) (by omega)) fun w21 h21 => ⟨rfl, h1.trans (f20.old.trans h21)⟩
/-- What is told lies within. -/
def InP (p : Pc) (n : Int) : Prop := 1 ≤ p.wd ∧ p.wd ≤ 32768 ∧ 1 ≤ p.ht ∧ p.ht ≤ 32768 ∧ (p.pl = 1 ∨ p.pl = 3) ∧ p.wd * p.pl ≤ p.st ∧ p.st < p.wd * p.pl + 4 ∧ 2 ≤ p.fr ∧ p.fr + p.st * p.ht ≤ n
theorem right_in {p : Pc} {n : Int} (h : (rightP p n).2 = true) : rightP p n = (p, true) ∧ p.fr + p.st * p.ht ≤ n := by
  unfold rightP at h ⊢
  split
  · rename_i hc; rw [if_pos hc] at h; cases h
  · exact ⟨rfl, by omega⟩
theorem right_out {p : Pc} {n : Int} (h : (rightP p n).2 = false) : rightP p n = no := by
  unfold rightP at h ⊢
  split
  · rfl
  · rename_i hc; rw [if_neg hc] at h; cases h
theorem bmp_in {xs : List Int} (hx : inR .u8 xs) : ((bmpP xs).2 = true → InP (bmpP xs).1 xs.length) ∧ ((bmpP xs).2 = false → (bmpP xs).1 = Pc.z) := by
  unfold bmpP
  split
  · split
    · exact ⟨fun h => (by cases h), fun _ => rfl⟩
    · rename_i hd hbad
      refine ⟨fun h => ?_, fun h => by rw [right_out h]; rfl⟩
      obtain ⟨h1, h2⟩ := right_in h
      rw [h1]
      have hc : ¬ _ := fun hh => hbad (decide_eq_true hh)
      have r28 := fld_rng hx 28 2 (by omega)
      unfold InP
      have hpl : fld xs 28 2 / 8 = 3 ∨ fld xs 28 2 / 8 = 1 := by omega
      have hm : 1 ≤ fld xs 18 4 * (fld xs 28 2 / 8) ∧ fld xs 18 4 * (fld xs 28 2 / 8) ≤ 98304 := by rcases hpl with e | e <;> rw [e] <;> omega
      refine ⟨?_, ?_, ?_, ?_, ?_, ?_, ?_, ?_, h2⟩ <;> unfold pcB <;> dsimp only <;> omega
  · exact ⟨fun h => (by cases h), fun _ => rfl⟩
theorem pnm_in {xs : List Int} : ((pnmP xs).2 = true → InP (pnmP xs).1 xs.length) ∧ ((pnmP xs).2 = false → (pnmP xs).1 = Pc.z) := by
  unfold pnmP
  split
  · split
    · rename_i l a ht
      have tb := (toks_iff.1 ht).2
      have b0 : 1 ≤ l.getD 0 0 ∧ l.getD 0 0 ≤ 32768 := tb 0 (by omega)
      have b1 : 1 ≤ l.getD 1 0 ∧ l.getD 1 0 ≤ 32768 := tb 1 (by omega)
      have ha : 2 ≤ a := by
        have mono : ∀ {j : Nat} {l : List Int} {a : Nat}, toks (tkP xs) j = some (l, a) → 1 ≤ a := by
          intro j
          cases j with
          | zero => intro l a h; simp [toks] at h; omega
          | succ j =>
            intro l a h
            simp only [toks, Option.bind_eq_some_iff, Option.map_eq_some_iff, Prod.mk.injEq] at h
            obtain ⟨⟨l1, a1⟩, h1, ⟨v, q⟩, h2', _, rfl⟩ := h
            dsimp only at *
            have h2' : tokP xs (moP j) a1 = some (v, q) := h2'
            unfold tokP at h2'
            split at h2'
            · rename_i hc
              injection h2' with h2'
              have : (numPI xs (blankI xs a1).2 (moP j)).2 ≥ (blankI xs a1).2 := by
                unfold numPI; split
                · dsimp only; omega
                · split <;> dsimp only <;> omega
              rw [h2'] at this; dsimp only at this; omega
            · cases h2'
        -- the third step starts behind the second
        rw [show toks (tkP xs) 3 = (toks (tkP xs) 2).bind fun p => (tkP xs 2 p.2).map fun q => (p.1 ++ [q.1], q.2) from rfl] at ht
        simp only [Option.bind_eq_some_iff, Option.map_eq_some_iff, Prod.mk.injEq] at ht
        obtain ⟨⟨l2, a2⟩, h2, ⟨v, q⟩, h2', _, rfl⟩ := ht
        dsimp only at *
        have := mono h2
        have h2' : tokP xs (moP 2) a2 = some (v, q) := h2'
        unfold tokP at h2'
        split at h2'
        · rename_i hc
          injection h2' with h2'
          have : (numPI xs (blankI xs a2).2 (moP 2)).2 ≥ (blankI xs a2).2 := by
            unfold numPI; split
            · dsimp only; omega
            · split <;> dsimp only <;> omega
          rw [h2'] at this; dsimp only at this; omega
        · cases h2'
      unfold endP
      split
      · refine ⟨fun h => ?_, fun h => by rw [right_out h]; rfl⟩
        obtain ⟨h1, h2⟩ := right_in h
        rw [h1]
        unfold InP
        have hpl := plP_rng xs
        refine ⟨b0.1, b0.2, b1.1, b1.2, hpl, ?_, ?_, ?_, h2⟩ <;> unfold pcP <;> dsimp only <;> omega
      · exact ⟨fun h => (by cases h), fun _ => rfl⟩
    · exact ⟨fun h => (by cases h), fun _ => rfl⟩
  · exact ⟨fun h => (by cases h), fun _ => rfl⟩
theorem parse_in {xs : List Int} (hx : inR .u8 xs) : ((parseP xs).2 = true → InP (parseP xs).1 xs.length) ∧ ((parseP xs).2 = false → (parseP xs).1 = Pc.z) := by
  unfold parseP
  split
  · rename_i h; exact ⟨fun _ => (bmp_in hx).1 h, fun h => (by cases h)⟩
  · exact pnm_in
theorem PictureWithin_law {b : Value} {xs : List Int} {w : World} (hb : Nm .u8 w b xs) : Calls P n_valiselaw16_PictureWithin #[b] w (Holds w) := by
  refine of_valiselaw16_PictureWithin (gLen_nm hb (gIf_dec (fun _ => awake_end (Ch.refl _ w)) (fun hl => ?_)))
  obtain ⟨hin, hout⟩ := parse_in hb.2
  refine gCall_pic (Parse_any hb (by omega)) fun w2 h2 => fPicNew ((Fr.start w).ev h2) fun p3 w3 f3 => fPicSet f3 0 rfl rfl fun w4 f4 => ?_
  generalize parseP xs = r at *
  obtain ⟨p, ok⟩ := r
  dsimp only at *
  refine ⟨fun w' => ok = true ∧ Fr w w' [sIt p3 p.c], gCall_b awake_any fun w5 h5 => gIf_nn (gIf_nb (fun h => gCall_b awake_any fun w6 h6 => gIf_t (fPic p ((f4.ev h5).ev h6) 0 rfl (gEq_pic p ⟨0, 0, 0, 0, 0⟩ ⟨?_, ((f4.ev h5).ev h6).old⟩))) (fun h => ⟨h, f4.ev h5⟩)), ?_⟩
  · rw [hout h]; rfl
  rintro _ w8 ⟨hok, f8⟩
  obtain ⟨c1, c2, c3, c4, c5, c6, c7, c8, c9⟩ := hin hok
  have p1 : 1 ≤ p.wd * p.pl ∧ p.wd * p.pl ≤ 98304 := by rcases c5 with e | e <;> rw [e] <;> omega
  have p2 : 0 ≤ p.st * p.ht ∧ p.st * p.ht ≤ 98308 * 32768 := ⟨Int.mul_nonneg (by omega) (by omega), Int.mul_le_mul (by omega) (by omega) (by omega) (by omega)⟩
  have fin : gLoad P t_int (shI .i64) (.pointer (some (Addr.add p3 3))) w8 fun (t46 : Int) => gLoad P t_int (shI .i64) (.pointer (some (Addr.add p3 0))) w8 fun (t48 : Int) => gLoad P t_int (shI .i64) (.pointer (some (Addr.add p3 2))) w8 fun (t50 : Int) => gIf (decide (t46 ≥ (i64 (t48 * t50)))) (gLoad P t_int (shI .i64) (.pointer (some (Addr.add p3 3))) w8 fun (t56 : Int) => gLoad P t_int (shI .i64) (.pointer (some (Addr.add p3 0))) w8 fun (t58 : Int) => gLoad P t_int (shI .i64) (.pointer (some (Addr.add p3 2))) w8 fun (t60 : Int) => gIf (decide (t56 < (i64 ((i64 (t58 * t60)) + 4)))) (gLoad P t_int (shI .i64) (.pointer (some (Addr.add p3 4))) w8 fun (t67 : Int) => gIf (decide (t67 ≥ 2)) (gLoad P t_int (shI .i64) (.pointer (some (Addr.add p3 4))) w8 fun (t72 : Int) => gLoad P t_int (shI .i64) (.pointer (some (Addr.add p3 3))) w8 fun (t74 : Int) => gLoad P t_int (shI .i64) (.pointer (some (Addr.add p3 1))) w8 fun (t76 : Int) => gLen P t_sl_uint8 b fun (t80 : Nat) => (Holds w) (.returned (.bool (decide ((i64 (t72 + (i64 (t74 * t76)))) ≤ (t80 : Int))))) w8) (Holds w (.returned (.bool false)) w8)) (Holds w (.returned (.bool false)) w8)) (Holds w (.returned (.bool false)) w8) := by
    refine fLoad_i (n := p.st) f8 0 3 rfl rfl (fLoad_i (n := p.wd) f8 0 0 rfl rfl (fLoad_i (n := p.pl) f8 0 2 rfl rfl ?_))
    rw [i64_id (n := p.wd * p.pl) (by omega) (by omega)]
    refine gIf_dec (fun _ => fLoad_i (n := p.st) f8 0 3 rfl rfl (fLoad_i (n := p.wd) f8 0 0 rfl rfl (fLoad_i (n := p.pl) f8 0 2 rfl rfl ?_))) (fun h => by omega)
    rw [i64_id (n := p.wd * p.pl) (by omega) (by omega), i64_id (n := p.wd * p.pl + 4) (by omega) (by omega)]
    refine gIf_dec (fun _ => fLoad_i (n := p.fr) f8 0 4 rfl rfl (gIf_dec (fun _ => fLoad_i (n := p.fr) f8 0 4 rfl rfl (fLoad_i (n := p.st) f8 0 3 rfl rfl (fLoad_i (n := p.ht) f8 0 1 rfl rfl (gLen_nm hb ?_)))) (fun h => by omega))) (fun h => by omega)
    rw [i64_id (n := p.st * p.ht) (by omega) (by omega), i64_id (n := p.fr + p.st * p.ht) (by omega) (by omega)]
    exact ⟨by rw [decide_eq_true c9], f8.old⟩
  refine fLoad_i (n := p.wd) f8 0 0 rfl rfl (gIf_dec (fun _ => fLoad_i (n := p.ht) f8 0 1 rfl rfl (gIf_dec (fun _ => fLoad_i (n := p.pl) f8 0 2 rfl rfl (gIf_neqq (fun n1 => fLoad_i (n := p.pl) f8 0 2 rfl rfl (gIf_eq (fun _ => fin) (fun h => by omega))) (fun e1 => fin))) (fun h => by omega))) (fun h => by omega))
end Go.Proofs.YtflchmhhmkkooaaV
