/- The law PictureSays. -/
import Derived.Test.YtflchmhhmkkooaaVPictM
namespace Go.Proofs.YtflchmhhmkkooaaV
open Go Go.RowKit
/-- Bytes that are put behind, one by one. -/
theorem white4 {x : Int} (h : 0 ≤ x ∧ x < 4) : whiteB (rd [32, 9, 10, 13] x) = true ∧ 0 ≤ rd [32, 9, 10, 13] x ∧ rd [32, 9, 10, 13] x < 256 := by
  have : x = 0 ∨ x = 1 ∨ x = 2 ∨ x = 3 := by omega
  rcases this with rfl | rfl | rfl | rfl <;> decide
theorem Says_end {w w1 : World} {b : Value} {bs : List Int} {p : Addr} {q : Pc} {F : List It} {n : Int} (f : Fr w w1 (oIt .u8 eB b bs :: sIt p q.c :: F)) (hl : bs.length ≤ 1000000000) (hp : pnmP bs = rightP q bs.length) (hb1 : 1 ≤ q.st * q.ht ∧ q.st * q.ht ≤ 1000000) (hn : (bs.length : Int) = q.fr + n ∨ (n ≤ 0 ∧ (bs.length : Int) = q.fr)) (hfr : 0 ≤ q.fr ∧ q.fr ≤ 1000000) :
    gCall P n_picture_Pnm (.tup [.agg [.int .i64, .int .i64, .int .i64, .int .i64, .int .i64], .one .bool]) #[b] w1 fun (t134_1 : Int) (t134_2 : Int) (t134_3 : Int) (t134_4 : Int) (t134_5 : Int) (t134_6 : Bool) ww36 => gAlloc P t_api_Picture ww36 fun (q20 : Addr) ww37 => gStore P t_api_Picture (.pointer (some q20)) (.agg #[.int .i64 t134_1, .int .i64 t134_2, .int .i64 t134_3, .int .i64 t134_4, .int .i64 t134_5]) ww37 fun ww38 => gLoad P t_int (shI .i64) (.pointer (some (Addr.add p 3))) ww38 fun (t139 : Int) => gIf (decide (n < (i64 (t139 * q.ht)))) (gCall P n_valiselaw16_awake shB #[] ww38 fun (t143 : Bool) ww39 => gIf t143 (gIf (!t134_6) (gLoad P t_api_Picture (.part (.agg [.int .i64, .int .i64, .int .i64, .int .i64, .int .i64])) (.pointer (some q20)) ww39 fun (t149_1 : Int) (t149_2 : Int) (t149_3 : Int) (t149_4 : Int) (t149_5 : Int) => gEq P .eql t_api_Picture (.agg #[.int .i64 t149_1, .int .i64 t149_2, .int .i64 t149_3, .int .i64 t149_4, .int .i64 t149_5]) (.agg #[.int .i64 0, .int .i64 0, .int .i64 0, .int .i64 0, .int .i64 0]) fun (t151 : Bool) => (Holds w) (.returned (.bool t151)) ww39) ((Holds w) (.returned (.bool false)) ww39)) ((Holds w) (.returned (.bool false)) ww39)) (gCall P n_valiselaw16_awake shB #[] ww38 fun (t153 : Bool) ww40 => gIf t153 (gIf t134_6 (gLoad P t_api_Picture (.part (.agg [.int .i64, .int .i64, .int .i64, .int .i64, .int .i64])) (.pointer (some p)) ww40 fun (t158_1 : Int) (t158_2 : Int) (t158_3 : Int) (t158_4 : Int) (t158_5 : Int) => gLoad P t_api_Picture (.part (.agg [.int .i64, .int .i64, .int .i64, .int .i64, .int .i64])) (.pointer (some q20)) ww40 fun (t159_1 : Int) (t159_2 : Int) (t159_3 : Int) (t159_4 : Int) (t159_5 : Int) => gEq P .eql t_api_Picture (.agg #[.int .i64 t158_1, .int .i64 t158_2, .int .i64 t158_3, .int .i64 t158_4, .int .i64 t158_5]) (.agg #[.int .i64 t159_1, .int .i64 t159_2, .int .i64 t159_3, .int .i64 t159_4, .int .i64 t159_5]) fun (t160 : Bool) => (Holds w) (.returned (.bool t160)) ww40) ((Holds w) (.returned (.bool false)) ww40)) ((Holds w) (.returned (.bool false)) ww40)) := by
  refine gCall_pic (Pnm_any (f.nm 0 rfl) hl) fun w2 h2 => fPicNew (f.ev h2) fun q2 w3 f3 => fPicSet f3 0 rfl rfl fun w4 f4 => fLoad_i (n := q.st) f4 2 3 rfl rfl ?_
  rw [i64_id (n := q.st * q.ht) (by omega) (by omega)]
  have f4 : Fr w w4 (sIt q2 (pnmP bs).1.c :: oIt .u8 eB b bs :: sIt p q.c :: F) := f4
  rw [hp] at f4 ⊢
  refine gIf_dec (fun hlt => ?_) (fun hge => ?_)
  · have hr : rightP q bs.length = no := by unfold rightP; rw [if_pos (by omega)]
    rw [hr] at f4 ⊢
    refine gCall_b awake_any fun w5 h5 => gIf_t (gIf_nf (fPic Pc.z (f4.ev h5) 0 rfl (gEq_pic Pc.z ⟨0, 0, 0, 0, 0⟩ ⟨?_, (f4.ev h5).old⟩)))
    rw [decide_eq_true (show Pc.z = ⟨0, 0, 0, 0, 0⟩ from rfl)]
  · have hr : rightP q bs.length = (q, true) := by unfold rightP; rw [if_neg (by omega)]
    rw [hr] at f4 ⊢
    refine gCall_b awake_any fun w5 h5 => gIf_t (gIf_t (fPic q (f4.ev h5) 2 rfl (fPic q (f4.ev h5) 0 rfl (gEq_pic q q ⟨?_, (f4.ev h5).old⟩))))
    rw [decide_eq_true rfl]
theorem PictureSays_law {width height missing : Int} {colour : Bool} {white : Value} {ws0 : List Int} {remark : ByteArray} {w : World} (_ : IntKind.i64.min ≤ width ∧ width ≤ IntKind.i64.max) (_ : IntKind.i64.min ≤ height ∧ height ≤ IntKind.i64.max) (hwh : Nm .u8 w white ws0) (_ : remark.size ≤ maxLen) (_ : IntKind.i64.min ≤ missing ∧ missing ≤ IntKind.i64.max) :
    Calls P n_valiselaw16_PictureSays #[.int .i64 width, .int .i64 height, .bool colour, white, .string remark, .int .i64 missing] w (Holds w) := by
  refine of_valiselaw16_PictureSays ?_
  obtain ⟨W, hW, eW⟩ := tmod_nat width (m := 20) (by decide) (by decide)
  obtain ⟨H, hH, eH⟩ := tmod_nat height (m := 20) (by decide) (by decide)
  obtain ⟨M, hM, eM⟩ := tmod_nat missing (m := 3) (by decide) (by decide)
  rw [eW, eH, eM, show i64 (1 + (W : Int)) = ((W + 1 : Nat) : Int) by rw [i64_id (by omega) (by omega)]; omega, show i64 (1 + (H : Int)) = ((H + 1 : Nat) : Int) by rw [i64_id (by omega) (by omega)]; omega]
  refine fLit_n [32] (Fr.start w) rfl rfl (fun x hx => by simp at hx; subst hx; decide) fun g0 w1 f1 => ?_
  refine ⟨fun g w' => ∃ ws : List Int, (∀ c ∈ ws, whiteB c = true) ∧ ws.length ≤ 7 ∧ Fr w w' [oIt .u8 eB g ws], ⟨fun g i w' => ∃ (j : Nat) (ws : List Int), i = j ∧ j ≤ 6 ∧ (∀ c ∈ ws, whiteB c = true) ∧ ws.length = j + 1 ∧ Fr w w' [oIt .u8 eB g ws], fun _ i _ => 7 - i.toNat, ⟨0, [32], rfl, by omega, (fun c hc => by simp at hc; subst hc; decide), rfl, f1⟩, ?_⟩, ?_⟩
  · rintro _ g i w2 ⟨j, ws, rfl, hj, hws, hwl, f2⟩
    refine ⟨fun w' => (j < ws0.length ∧ j < 6) ∧ Fr w w' [oIt .u8 eB g ws], gLen_nm hwh (gIf_dec (fun h1 => gIf_dec (fun h2 => ⟨⟨by omega, by omega⟩, f2⟩) (fun h2 => ⟨ws, hws, by omega, f2⟩)) (fun h1 => ⟨ws, hws, by omega, f2⟩)), ?_⟩
    rintro _ w3 ⟨⟨h1, h2⟩, f3⟩
    refine fLit_n [32, 9, 10, 13] f3 rfl rfl (fun x hx => by simp at hx; rcases hx with rfl | rfl | rfl | rfl <;> decide) fun t w4 f4 => gIdx_nm (hwh.ev f4.old) (by omega) (by omega) fun a1 c1 _ => gLoad_i c1 ?_
    have hc := rd_u8 hwh.2 j
    rw [Int.tmod_eq_emod_of_nonneg hc.1]
    have hx : 0 ≤ rd ws0 j % 4 ∧ rd ws0 j % 4 < 4 := by omega
    have h4 := white4 hx
    refine gIdx_nm (f4.nm 0 rfl) hx.1 hx.2 fun a2 c2 _ => gLoad_i c2 ?_
    refine fAppB rfl (f4.drop 0) h4.2 (by omega) fun g2 w5 f5 => ?_
    rw [i64_id (n := (j : Int) + 1) (by omega) (by omega)]
    refine ⟨⟨j + 1, _, rfl, by omega, fun c hc => ?_, by simp [hwl], f5⟩, by dsimp only; omega⟩
    rcases List.mem_append.1 hc with hc | hc
    · exact hws c hc
    · simp at hc; subst hc; exact h4.1
  rintro _ g w2 ⟨ws, hws, hwl, f2⟩
  refine gIf_dec (fun _ => awake_end f2.old) (fun hrs => ?_)
  refine fAppB rfl f2 (by decide) (by omega) fun g3 w3 f3 => ?_
  refine ⟨fun g i w' => ∃ (j : Nat) (rem : List Int), i = j ∧ j ≤ remark.size ∧ (∀ c ∈ rem, c ≠ 10) ∧ rem.length ≤ j ∧ Fr w w' [oIt .u8 eB g (ws ++ [35] ++ rem)], fun _ i _ => remark.size - i.toNat, ⟨0, [], rfl, by omega, by simp, by simp, by simpa using f3⟩, ?_⟩
  rintro _ g4 i w4 ⟨j, rem, rfl, hj, hrem, hrl, f4⟩
  have hglen : (ws ++ [35] ++ rem).length = ws.length + 1 + rem.length := by simp; omega
  refine gIf_dec (fun hlt => gIndex_s rfl (by omega) (gIf_neq (fun n10 => gIndex_s rfl (by omega) ?_) (fun e10 => ?_))) (fun hge => ?_)
  · have hc := rd_u8 (sOf_u8 remark) j
    refine fAppB rfl f4 hc (by omega) fun g5 w5 f5 => ?_
    rw [i64_id (n := (j : Int) + 1) (by omega) (by omega)]
    refine ⟨⟨j + 1, rem ++ [rd (sOf remark) j], rfl, by omega, fun c hc => ?_, by simp; omega, by simpa using f5⟩, by dsimp only; omega⟩
    rcases List.mem_append.1 hc with hc | hc
    · exact hrem c hc
    · simp at hc; subst hc; exact n10
  · rw [i64_id (n := (j : Int) + 1) (by omega) (by omega)]
    exact ⟨⟨j + 1, rem, rfl, by omega, hrem, by omega, f4⟩, by dsimp only; omega⟩
  refine fAppB rfl f4 (by decide) (by omega) fun g5 w5 f5 => ?_
  have hg : ws ++ [35] ++ rem ++ [10] = ws ++ (35 :: (rem ++ [10])) := by simp
  have hgl : (ws ++ [35] ++ rem ++ [10]).length ≤ 59 := by simp; omega
  have hgne : ws ++ [35] ++ rem ++ [10] ≠ [] := by simp
  generalize hgg : ws ++ [35] ++ rem ++ [10] = gap at *
  refine fPicNew f5 fun p w6 f6 => fPicSet f6 0 rfl rfl fun w7 f7 => fLitC [80, 53] f7 rfl rfl (fun x hx => by simp at hx; rcases hx with rfl | rfl <;> decide) fun b0 w8 f8 => ?_
  obtain ⟨cc, hcc⟩ : ∃ cc : Int, cc = if colour then 54 else 53 := ⟨_, rfl⟩
  obtain ⟨pl, hpl⟩ : ∃ pl : Int, pl = if cc = 54 then 3 else 1 := ⟨_, rfl⟩
  have hcc2 : cc = 53 ∨ cc = 54 := by rw [hcc]; split <;> simp
  have hpl2 : pl = 1 ∨ pl = 3 := by rw [hpl]; split <;> simp
  refine ⟨fun w' => Fr w w' [cIt eB b0 [80, cc], sIt p (Pc.mk ((W + 1 : Nat) : Int) ((H + 1 : Nat) : Int) pl 0 0).c, oIt .u8 eB g5 gap], gIf_b (fun hc => fSetC f8 0 rfl 1 rfl (by decide) (by decide) fun w9 f9 => fStore f9 1 2 rfl fun w10 f10 => ?_) (fun hc => ?_), ?_⟩
  · rw [hc, if_pos rfl] at hcc; subst hcc; rw [if_pos rfl] at hpl; subst hpl; exact f10
  · rw [hc, if_neg (by simp)] at hcc; subst hcc; rw [if_neg (by decide)] at hpl; subst hpl; exact f8
  rintro _ w11 f11
  have lW := digL_len 1 (n := W + 1) (by omega)
  have lH := digL_len 1 (n := H + 1) (by omega)
  refine fAppC f11 0 rfl (f11.nm 2 rfl) hgne (by simp; omega) fun b1 w12 f12 => ?_
  refine gCall_of (Digits_any (W + 1) (by omega)) ?_
  rintro _ w13 ⟨rfl, h13⟩
  have s1 : (bsOf (digL (W + 1))).size = (digL (W + 1)).length := bsOf_size _
  have s2 : (bsOf (digL (H + 1))).size = (digL (H + 1)).length := bsOf_size _
  refine ⟨_, rfl, fAppS (f12.ev h13) 0 rfl (by simp [s1]; omega) fun b2 w14 f14 => ?_⟩
  rw [sOf_bsOf (digL_u8 _)] at f14
  refine fApp f14 0 rfl (f14.nm 3 rfl) (by simp; omega) fun b3 w15 f15 => ?_
  refine gCall_of (Digits_any (H + 1) (by omega)) ?_
  rintro _ w16 ⟨rfl, h16⟩
  refine ⟨_, rfl, fAppS (f15.ev h16) 0 rfl (by simp [s2]; omega) fun b4 w17 f17 => ?_⟩
  rw [sOf_bsOf (digL_u8 _)] at f17
  refine fApp f17 0 rfl (f17.nm 3 rfl) (by simp; omega) fun b5 w18 f18 => fAppS f18 0 rfl (by simp [show (ByteArray.mk #[50, 53, 53, 32]).size = 4 from rfl]; omega) fun b6 w19 f19 => ?_
  rw [show sOf (ByteArray.mk #[50, 53, 53, 32]) = [50, 53, 53, 32] from rfl] at f19
  have f19 : Fr w w19 [oIt .u8 eB b6 ([80, cc] ++ gap ++ digL (W + 1) ++ gap ++ digL (H + 1) ++ gap ++ [50, 53, 53, 32]), cIt eB b0 [80, cc], sIt p (Pc.mk ((W + 1 : Nat) : Int) ((H + 1 : Nat) : Int) pl 0 0).c, oIt .u8 eB g5 gap] := f19
  generalize hhd : [80, cc] ++ gap ++ digL (W + 1) ++ gap ++ digL (H + 1) ++ gap ++ [50, 53, 53, 32] = hd at *
  have hhl : hd.length ≤ 200 := by rw [← hhd]; simp; omega
  refine fLoad_i (n := pl) f19 2 2 rfl rfl (gLen_nm (f19.nm 0 rfl) ?_)
  have hst : 1 ≤ ((W + 1 : Nat) : Int) * pl ∧ ((W + 1 : Nat) : Int) * pl ≤ 60 := by rcases hpl2 with e | e <;> rw [e] <;> omega
  have hsh : 1 ≤ ((W + 1 : Nat) : Int) * pl * ((H + 1 : Nat) : Int) ∧ ((W + 1 : Nat) : Int) * pl * ((H + 1 : Nat) : Int) ≤ 60 * 20 := ⟨by have := Int.mul_le_mul hst.1 (show (1 : Int) ≤ ((H + 1 : Nat) : Int) by omega) (by omega) (by omega); omega, Int.mul_le_mul hst.2 (by omega) (by omega) (by omega)⟩
  rw [i64_id (n := ((W + 1 : Nat) : Int) * pl) (by omega) (by omega)]
  refine fStore f19 2 3 rfl fun w20 f20 => fStore f20 2 4 rfl fun w21 f21 => fLoad_i (n := ((W + 1 : Nat) : Int) * pl) f21 2 3 rfl rfl ?_
  rw [i64_id (n := ((W + 1 : Nat) : Int) * pl * ((H + 1 : Nat) : Int)) (by omega) (by omega), i64_id (n := ((W + 1 : Nat) : Int) * pl * ((H + 1 : Nat) : Int) - (M : Int)) (by omega) (by omega)]
  have f21 : Fr w w21 [oIt .u8 eB b6 hd, cIt eB b0 [80, cc], sIt p (Pc.mk ((W + 1 : Nat) : Int) ((H + 1 : Nat) : Int) pl (((W + 1 : Nat) : Int) * pl) (hd.length : Int)).c, oIt .u8 eB g5 gap] := f21
  have f21 := f21.drop 1
  obtain ⟨N, hN⟩ : ∃ N : Int, N = ((W + 1 : Nat) : Int) * pl * ((H + 1 : Nat) : Int) - (M : Int) := ⟨_, rfl⟩
  rw [← hN]
  refine ⟨fun b i w' => ∃ (j : Nat) (px : List Int), i = j ∧ ((j : Int) ≤ N ∨ j = 0) ∧ px.length = j ∧ Fr w w' [oIt .u8 eB b (hd ++ px), sIt p (Pc.mk ((W + 1 : Nat) : Int) ((H + 1 : Nat) : Int) pl (((W + 1 : Nat) : Int) * pl) (hd.length : Int)).c, oIt .u8 eB g5 gap], fun _ i _ => (N - i).toNat, ⟨0, [], rfl, .inr rfl, rfl, by simpa using f21⟩, ?_⟩
  rintro _ b7 i w22 ⟨j, px, rfl, hjN, hpx, f22⟩
  refine gIf_dec (fun hlt => ?_) (fun hge => ?_)
  · have hu : 0 ≤ u8 (j : Int) ∧ u8 (j : Int) < 256 := by rw [u8_def]; omega
    refine fAppB rfl f22 hu (by simp; omega) fun b8 w23 f23 => ?_
    rw [i64_id (n := (j : Int) + 1) (by omega) (by omega)]
    exact ⟨⟨j + 1, px ++ [u8 (j : Int)], rfl, .inl (by omega), by simp [hpx], by simpa using f23⟩, by dsimp only; omega⟩
  · have hsays := says_end (px := px) hws hrem hcc2 (W := W + 1) (H := H + 1) (by omega) (by omega) (hg ▸ rfl) hhd.symm
    rw [← hpl] at hsays
    have hend := Says_end (n := N) f22 (by simp; omega) hsays (by dsimp only; omega) (by dsimp only; simp; omega) (by dsimp only; omega)
    exact hend
end Go.Proofs.YtflchmhhmkkooaaV
