/- Package valiseref16: Bmp; Parse of both; awake of valiselaw16. -/
import Derived.Test.YtflchmhhmkkooaaVPictH
namespace Go.Proofs.YtflchmhhmkkooaaV
open Go Go.RowKit
section
variable {b : Value} {xs : List Int} {w : World}
theorem rlittle_any (at' n : Nat) (hb : Nm .u8 w b xs) (hl : xs.length ≤ 1000000000) (h : at' + n ≤ xs.length) (hn : n ≤ 4) : Calls P n_valiseref16_little #[b, .int .i64 (at' : Int), .int .i64 (n : Int)] w (fun e w' => e = .returned (.int .i64 (fld xs at' n)) ∧ Ev w w') := by
  refine of_valiseref16_little ?_
  rw [show i64 ((at' : Int) + (n : Int)) = ((at' + n : Nat) : Int) by rw [i64_id (by omega) (by omega)]; omega]
  refine gSlice_nm hb at' (at' + n) (.inr ⟨_, rfl⟩) (.inr ⟨_, rfl⟩) (by omega) h fun hs => ?_
  rw [Nat.add_sub_cancel_left] at hs
  have hlen : ((xs.drop at').take n).length = n := by rw [List.length_take, List.length_drop]; omega
  refine frNew (Fr.start w) hs (by omega) fun ad y w1 f1 => gCall_i (rrLittle_any (f1.rd (a := 0) (er := 0) 0 1 rfl rfl (by decide) (by omega) (by omega))) fun w2 h2 => ?_
  have hr : rawR ((xs.drop at').take n) 0 0 (if 8 < (n : Int) then 8 else n) = ((xs.drop at').take n, n, 0) := by
    rw [if_neg (show ¬ (8 : Int) < (n : Int) by omega), rawR_in (by omega), List.drop_zero, List.take_take, Nat.min_self, Nat.zero_add]
  rw [hr] at h2 ⊢
  have r := fld_rng hb.2 at' n hn
  dsimp only
  rw [show leN ((xs.drop at').take n) = fld xs at' n from rfl, i64_id (by omega) (by omega)]
  exact ⟨rfl, (f1.rs 0 rfl h2).old⟩
def badR (xs : List Int) : Bool := decide (fld xs 10 4 < 54 ∨ fld xs 14 4 < 40 ∨ fld xs 26 2 ≠ 1 ∨ (fld xs 28 2 ≠ 24 ∧ fld xs 28 2 ≠ 8) ∨ fld xs 30 4 ≠ 0)
theorem rBmp_any (hb : Nm .u8 w b xs) (hl : xs.length ≤ 1000000000) : Calls P n_valiseref16_Bmp #[b] w (PicE w (bmpP xs)) := by
  have bad : ∀ {w1 : World} {F : List It} {ad : Addr} {cs : List Value}, Fr w w1 F → ∀ (i : Nat), F[i]? = some (sIt ad cs) → cs.length = 5 → bmpP xs = no →
      gStore P t_api_Picture (.pointer (some ad)) (.agg #[.int .i64 0, .int .i64 0, .int .i64 0, .int .i64 0, .int .i64 0]) w1 fun ww => gLoad P t_api_Picture (.part (.agg [.int .i64, .int .i64, .int .i64, .int .i64, .int .i64])) (.pointer (some ad)) ww fun (r0_0 : Int) (r0_1 : Int) (r0_2 : Int) (r0_3 : Int) (r0_4 : Int) => PicE w (bmpP xs) (.returned (.tuple #[.agg #[.int .i64 r0_0, .int .i64 r0_1, .int .i64 r0_2, .int .i64 r0_3, .int .i64 r0_4], .bool false])) ww :=
    fun f i hi hc hno => fPicEnd (r := no) f i hi hc (by rw [hno])
  have nohd : ¬ (54 ≤ xs.length ∧ rd xs 0 = 66 ∧ rd xs 1 = 77) → bmpP xs = no := fun h => by unfold bmpP hdB; rw [decide_eq_false h, if_neg (by simp)]
  refine of_valiseref16_Bmp (fPicNew (Fr.start w) fun t2 w1 f1 => ⟨fun w' => (54 ≤ xs.length ∧ rd xs 0 = 66 ∧ rd xs 1 = 77) ∧ Fr w w' [sIt t2 Pc.z.c], gLen_nm hb (gIf_ndec (fun h54 => gIdx_nm (hb.ev f1.old) (by omega) (by omega) fun a1 c1 _ => gLoad_i c1 (gIf_nneq (fun e66 => gIdx_nm (hb.ev f1.old) (by omega) (by omega) fun a2 c2 _ => gLoad_i c2 (gIf_neq (fun n77 => bad f1 0 rfl rfl (nohd (by omega))) (fun e77 => ⟨⟨by omega, e66, e77⟩, f1⟩))) (fun n66 => bad f1 0 rfl rfl (nohd (by omega))))) (fun h54 => bad f1 0 rfl rfl (nohd (by omega)))), ?_⟩)
  rintro _ w5 ⟨hd, f5⟩
  have h54 := hd.1
  have hdt : hdB xs = true := decide_eq_true hd
  have hx := hb.2
  have r10 := fld_rng hx 10 4 (by omega)
  have r14 := fld_rng hx 14 4 (by omega)
  have r18 := fld_rng hx 18 4 (by omega)
  have r22' := fld_rng hx 22 4 (by omega)
  have r28 := fld_rng hx 28 2 (by omega)
  have r22 := i32_rg (fld xs 22 4)
  refine gCall_i (rlittle_any 10 4 (hb.ev f5.old) hl (by omega) (by omega)) fun w6 h6 => ?_
  have f6 := f5.ev h6
  refine gCall_i (rlittle_any 18 4 (hb.ev f6.old) hl (by omega) (by omega)) fun w7 h7 => ?_
  have f7 := f6.ev h7
  refine gCall_i (rlittle_any 22 4 (hb.ev f7.old) hl (by omega) (by omega)) fun w8 h8 => ?_
  have f8 := f7.ev h8
  have eh : (if i64 (0 - i64 (i32 (u32 (fld xs 22 4)))) > i64 (i32 (u32 (fld xs 22 4))) then i64 (0 - i64 (i32 (u32 (fld xs 22 4)))) else i64 (i32 (u32 (fld xs 22 4)))) = hB xs := by
    rw [show u32 (fld xs 22 4) = fld xs 22 4 by rw [u32_def]; omega, i64_id (n := i32 (fld xs 22 4)) (by omega) (by omega), i64_id (n := 0 - i32 (fld xs 22 4)) (by omega) (by omega)]
    unfold hB
    split <;> split <;> omega
  refine fPicNew f8 fun p4 w9 f9 => fPicSet f9 0 rfl rfl fun w10 f10 => fLoad_i f10 0 1 rfl rfl (fLoad_i f10 0 1 rfl rfl ?_)
  rw [eh]
  refine fStore f10 0 1 rfl fun w11 f11 => ?_
  refine gCall_i (rlittle_any 28 2 (hb.ev f11.old) hl (by omega) (by omega)) fun w12 h12 => ?_
  have f12 := f11.ev h12
  have hpl : ∃ pl : Int, pl = if fld xs 28 2 = 8 then 1 else 3 := ⟨_, rfl⟩
  obtain ⟨pl, hpl⟩ := hpl
  refine ⟨fun w' => Fr w w' [sIt p4 (Pc.mk (fld xs 18 4) (hB xs) pl 0 (fld xs 10 4)).c, sIt t2 Pc.z.c], gIf_eq (fun e8 => fStore f12 0 2 rfl fun w13 f13 => ?_) (fun n8 => ?_), ?_⟩
  · rw [if_pos e8] at hpl; subst hpl; exact f13
  · rw [if_neg n8] at hpl; subst hpl; exact f12
  rintro _ w14 f14
  refine ⟨fun w' => badR xs = false ∧ Fr w w' [sIt p4 (Pc.mk (fld xs 18 4) (hB xs) pl 0 (fld xs 10 4)).c, sIt t2 Pc.z.c], ⟨fun t w' => t = badR xs ∧ Fr w w' [sIt p4 (Pc.mk (fld xs 18 4) (hB xs) pl 0 (fld xs 10 4)).c, sIt t2 Pc.z.c], ?_, ?_⟩, ?_⟩
  · have tr : ∀ {c : Prop} {w' : World}, Fr w w' [sIt p4 (Pc.mk (fld xs 18 4) (hB xs) pl 0 (fld xs 10 4)).c, sIt t2 Pc.z.c] → c → (c → (fld xs 10 4 < 54 ∨ fld xs 14 4 < 40 ∨ fld xs 26 2 ≠ 1 ∨ (fld xs 28 2 ≠ 24 ∧ fld xs 28 2 ≠ 8) ∨ fld xs 30 4 ≠ 0)) → true = badR xs ∧ Fr w w' [sIt p4 (Pc.mk (fld xs 18 4) (hB xs) pl 0 (fld xs 10 4)).c, sIt t2 Pc.z.c] := fun f hc h => ⟨(decide_eq_true (h hc)).symm, f⟩
    refine fLoad_i (n := fld xs 10 4) f14 0 4 rfl rfl (gIf_ndec (fun c1 => gCall_i (rlittle_any 14 4 (hb.ev f14.old) hl (by omega) (by omega)) fun w15 h15 => gIf_ndec (fun c2 => ?_) (fun c2 => tr (f14.ev h15) c2 fun h => .inr (.inl h))) (fun c1 => tr f14 c1 fun h => .inl h))
    have f15 := f14.ev h15
    refine gCall_i (rlittle_any 26 2 (hb.ev f15.old) hl (by omega) (by omega)) fun w16 h16 => gIf_nneq (fun c5 => ?_) (fun c5 => tr (f15.ev h16) c5 fun h => .inr (.inr (.inl h)))
    have f16 := f15.ev h16
    have fin : (fld xs 28 2 = 24 ∨ fld xs 28 2 = 8) → ∀ w', Ev w16 w' → (fld xs 30 4 != 0) = badR xs ∧ Fr w w' [sIt p4 (Pc.mk (fld xs 18 4) (hB xs) pl 0 (fld xs 10 4)).c, sIt t2 Pc.z.c] := fun h w' he => by
      refine ⟨?_, f16.ev he⟩
      unfold badR
      by_cases c6 : fld xs 30 4 = 0
      · rw [decide_eq_false (by omega)]; simp [c6]
      · rw [decide_eq_true (by omega)]; simp [c6]
    exact gIf_neq (fun c6 => gIf_nneq (fun c7 => gCall_i (rlittle_any 30 4 (hb.ev f16.old) hl (by omega) (by omega)) fun w17 h17 => fin (.inr c7) _ h17) (fun c7 => tr f16 (And.intro c6 c7) fun h => .inr (.inr (.inr (.inl h))))) (fun c6 => gCall_i (rlittle_any 30 4 (hb.ev f16.old) hl (by omega) (by omega)) fun w17 h17 => fin (.inl c6) _ h17)
  · rintro _ _ w19 ⟨rfl, f19⟩
    refine gIf_b (fun h => bad f19 1 rfl rfl ?_) (fun h => ⟨h, f19⟩)
    have hc := of_decide_eq_true h
    unfold bmpP; rw [hdt, if_pos rfl, if_pos (by unfold badB; rw [decide_eq_true]; omega)]
  rintro _ w21 ⟨hok, f21⟩
  have hc := of_decide_eq_false hok
  have hpd : pl = fld xs 28 2 / 8 := by rw [hpl]; split <;> omega
  have hm : 0 ≤ fld xs 18 4 * (fld xs 28 2 / 8) ∧ fld xs 18 4 * (fld xs 28 2 / 8) ≤ 13000000000 := by
    have : fld xs 28 2 / 8 = 3 ∨ fld xs 28 2 / 8 = 1 := by omega
    rcases this with e | e <;> rw [e] <;> omega
  subst hpd
  refine fLoad_i f21 0 0 rfl rfl (fLoad_i f21 0 2 rfl rfl ?_)
  show gStore P t_int (.pointer (some (Addr.add p4 3))) (.int .i64 (i64 (i64 (Int.tdiv (i64 (i64 (fld xs 18 4 * (fld xs 28 2 / 8)) + 3)) 4) * 4))) _ _
  rw [i64_id (n := fld xs 18 4 * (fld xs 28 2 / 8)) (by omega) (by omega), i64_id (n := fld xs 18 4 * (fld xs 28 2 / 8) + 3) (by omega) (by omega), Int.tdiv_eq_ediv_of_nonneg (by omega), i64_id (n := (fld xs 18 4 * (fld xs 28 2 / 8) + 3) / 4) (by omega) (by omega), i64_id (n := (fld xs 18 4 * (fld xs 28 2 / 8) + 3) / 4 * 4) (by omega) (by omega)]
  refine fStore f21 0 3 rfl fun w22 f22 => fPic (pcB xs) f22 0 rfl (gLen_nm hb (gCall_b (rfits_any (by unfold pcB; dsimp only; omega) (by unfold pcB; dsimp only; omega) (by omega)) fun w23 h23 => ?_))
  have f23 := f22.ev h23
  change gIf (!(fitsP (pcB xs) xs.length)) _ _
  have hbm : bmpP xs = if fitsP (pcB xs) xs.length then (pcB xs, true) else no := by
    unfold bmpP
    rw [hdt, if_pos rfl]
    by_cases hs : (1 ≤ fld xs 18 4 ∧ fld xs 18 4 ≤ 32768) ∧ (1 ≤ hB xs ∧ hB xs ≤ 32768)
    · rw [if_neg (by unfold badB; rw [decide_eq_false (by omega)]; simp)]
      exact (fits_right hs.1 hs.2 (by unfold pcB; dsimp only; omega)).symm
    · rw [if_pos (by unfold badB; rw [decide_eq_true (by omega)]), if_neg]
      unfold fitsP pcB
      rw [decide_eq_false (by dsimp only; omega)]; simp
  refine gIf_nb (fun hf => bad f23 1 rfl rfl (by rw [hbm, hf]; rfl)) (fun hf => fPic (pcB xs) f23 0 rfl (fPicEnd (r := (pcB xs, true)) f23 1 rfl rfl (by rw [hbm, hf]; rfl)))
def parseP (xs : List Int) : Pc × Bool := if (bmpP xs).2 = true then ((bmpP xs).1, true) else pnmP xs
theorem Parse_any (hb : Nm .u8 w b xs) (hl : xs.length ≤ 1000000000) : Calls P n_picture_Parse #[b] w (PicE w (parseP xs)) := by
  refine of_picture_Parse (fPicNew (Fr.start w) fun t2 w1 f1 => gCall_pic (Bmp_any (hb.ev f1.old) hl) fun w2 h2 => fPicNew (f1.ev h2) fun p4 w3 f3 => fPicSet f3 0 rfl rfl fun w4 f4 => gIf_b (fun h => fPic (bmpP xs).1 f4 0 rfl (fPicEnd (r := ((bmpP xs).1, true)) f4 1 rfl rfl ?_)) (fun h => gCall_pic (Pnm_any (hb.ev f4.old) hl) fun w6 h6 => fPicEnd (f4.ev h6) 1 rfl rfl ?_))
  · unfold parseP; rw [if_pos h]
  · unfold parseP; rw [if_neg (by rw [h]; simp)]
theorem rParse_any (hb : Nm .u8 w b xs) (hl : xs.length ≤ 1000000000) : Calls P n_valiseref16_Parse #[b] w (PicE w (parseP xs)) := by
  refine of_valiseref16_Parse (fPicNew (Fr.start w) fun t2 w1 f1 => gCall_pic (rBmp_any (hb.ev f1.old) hl) fun w2 h2 => fPicNew (f1.ev h2) fun p4 w3 f3 => fPicSet f3 0 rfl rfl fun w4 f4 => gIf_b (fun h => fPic (bmpP xs).1 f4 0 rfl (fPicEnd (r := ((bmpP xs).1, true)) f4 1 rfl rfl ?_)) (fun h => gCall_pic (rPnm_any (hb.ev f4.old) hl) fun w6 h6 => fPicEnd (f4.ev h6) 1 rfl rfl ?_))
  · unfold parseP; rw [if_pos h]
  · unfold parseP; rw [if_neg (by rw [h]; simp), pnm_eq]
/-- Two pictures, held against each other. -/
theorem gEq_pic {K : Bool → Prop} (p q : Pc) (hk : K (decide (p = q))) : gEq P .eql t_api_Picture (.agg #[.int .i64 p.wd, .int .i64 p.ht, .int .i64 p.pl, .int .i64 p.st, .int .i64 p.fr]) (.agg #[.int .i64 q.wd, .int .i64 q.ht, .int .i64 q.pl, .int .i64 q.st, .int .i64 q.fr]) K := by
  refine gEq_ints [p.wd, p.ht, p.pl, p.st, p.fr] [q.wd, q.ht, q.pl, q.st, q.fr] rfl rfl rfl ?_ (by kernel_rfl)
  rwa [decide_eq_decide.2 (show ([p.wd, p.ht, p.pl, p.st, p.fr] = [q.wd, q.ht, q.pl, q.st, q.fr]) ↔ p = q by obtain ⟨a, b, c, d, e⟩ := p; obtain ⟨a2, b2, c2, d2, e2⟩ := q; simp)]
theorem awake_any {w : World} : Calls P n_valiselaw16_awake #[] w (fun e w' => e = .returned (.bool true) ∧ Ev w w') := by
  have hin : inR .u8 [80, 53, 32, 49, 32, 49, 32, 50, 53, 53, 32, 120] := by
    intro x hx
    have : ∀ x ∈ ([80, 53, 32, 49, 32, 49, 32, 50, 53, 53, 32, 120] : List Int), IntKind.u8.min ≤ x ∧ x ≤ IntKind.u8.max := by decide
    exact this x hx
  have hp : pnmP [80, 53, 32, 49, 32, 49, 32, 50, 53, 53, 32, 120] = (⟨1, 1, 1, 1, 11⟩, true) := by decide +kernel
  refine of_valiselaw16_awake (fLitC [80, 53, 32, 49, 32, 49, 32, 50, 53, 53, 32, 120] (Fr.start w) rfl rfl hin fun v w2 f2 => ?_)
  have hN : Nm .u8 w2 v [80, 53, 32, 49, 32, 49, 32, 50, 53, 53, 32, 120] := Cn.nm (f2.get 0 rfl)
  refine gCall_pic (Pnm_any hN (by decide)) fun w3 h3 => fPicNew (f2.ev h3) fun p1 w4 f4 => fPicSet f4 0 rfl rfl fun w5 f5 => ?_
  have f5 : Fr w w5 [sIt p1 (pnmP [80, 53, 32, 49, 32, 49, 32, 50, 53, 53, 32, 120]).1.c, cIt (elOf P t_sl_uint8) v [80, 53, 32, 49, 32, 49, 32, 50, 53, 53, 32, 120]] := f5
  rw [hp] at f5 ⊢
  refine gIf_t (fPic ⟨1, 1, 1, 1, 11⟩ f5 0 rfl (gEq_pic ⟨1, 1, 1, 1, 11⟩ ⟨1, 1, 1, 1, 11⟩ ⟨?_, f5.old⟩))
  rw [decide_eq_true rfl]
end
end Go.Proofs.YtflchmhhmkkooaaV
