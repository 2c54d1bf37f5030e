/- The law PictureBmp. -/
import Derived.Test.YtflchmhhmkkooaaVPictL
import Derived.Test.YtflchmhhmkkooaaVBase2
namespace Go.Proofs.YtflchmhhmkkooaaV
open Go Go.RowKit
theorem leN_byte (v : Int) (h0 : 0 ≤ v) : ∀ k : Nat, leN (littleB v k) = v % ((2 ^ (8 * k) : Nat) : Int)
  | 0 => by simp [littleB, leN]
  | k + 1 => by
    have happ : ∀ (l : List Int) (c : Int), leN (l ++ [c]) = leN l + c * ((2 ^ (8 * l.length) : Nat) : Int) := by
      intro l
      induction l with
      | nil => intro c; simp [leN]
      | cons a l ih =>
        intro c
        rw [List.cons_append, leN, ih, leN, List.length_cons, show 8 * (l.length + 1) = 8 * l.length + 8 by omega, Nat.pow_add]
        have e : ((2 ^ (8 * l.length) * 2 ^ 8 : Nat) : Int) = ((2 ^ (8 * l.length) : Nat) : Int) * 256 := by rw [Int.natCast_mul]; rfl
        rw [e, Int.mul_add]; ac_rfl
    rw [littleB, happ, leN_byte v h0 k, littleB_len]
    unfold byteAt
    obtain ⟨n, rfl⟩ := Int.eq_ofNat_of_zero_le h0
    have hp : 2 ^ (8 * (k + 1)) = 2 ^ (8 * k) * 256 := by rw [show 8 * (k + 1) = 8 * k + 8 by omega, Nat.pow_add]
    rw [hp]
    have := Nat.mod_mul (a := 2 ^ (8 * k)) (b := 256) (x := n)
    have e2 : ((n % (2 ^ (8 * k) * 256) : Nat) : Int) = (n : Int) % ((2 ^ (8 * k) * 256 : Nat) : Int) := Int.natCast_emod _ _
    rw [← e2, this]
    simp only [Int.natCast_add, Int.natCast_mul, Int.natCast_emod, Int.natCast_ediv]
    rw [Int.mul_comm (((2 ^ (8 * k) : Nat) : Int))]
    rfl
theorem fld_app {xs zs : List Int} {a n : Nat} {v : Int} (h0 : 0 ≤ v) (hv : v < ((2 ^ (8 * n) : Nat) : Int)) (h : xs.drop a = littleB v n ++ zs) : fld xs a n = v := by
  unfold fld
  rw [h, List.take_left' (littleB_len v n), leN_byte v h0, Int.emod_eq_of_lt h0 hv]
theorem drop_app' {xs ys zs : List Int} {a : Nat} (h : xs.drop a = ys ++ zs) : xs.drop (a + ys.length) = zs := by rw [← List.drop_drop, h, List.drop_left]
theorem bmp_says {W H G : Nat} {pl hi : Int} {zs px : List Int} (hW : 1 ≤ W ∧ W ≤ 20) (hH : 1 ≤ H ∧ H ≤ 20) (hG : G ≤ 29) (hpl : pl = 1 ∨ pl = 3) (hhi : hi = H ∨ hi = 4294967296 - (H : Int)) (hz : zs = List.replicate (24 + G) 0) {hd : List Int}
    (hhd : hd = [66, 77, 0, 0, 0, 0, 0, 0, 0, 0] ++ littleB (54 + (G : Int)) 4 ++ littleB 40 4 ++ littleB W 4 ++ littleB hi 4 ++ littleB 1 2 ++ littleB (8 * pl) 2 ++ zs) :
    hd.length = 54 + G ∧ bmpP (hd ++ px) = rightP ⟨W, H, pl, (W * pl + 3) / 4 * 4, 54 + (G : Int)⟩ (hd ++ px).length := by
  have hlen : hd.length = 54 + G := by rw [hhd, hz]; simp [littleB_len]; omega
  refine ⟨hlen, ?_⟩
  have hxs : hd ++ px = [66, 77, 0, 0, 0, 0, 0, 0, 0, 0] ++ (littleB (54 + (G : Int)) 4 ++ (littleB 40 4 ++ (littleB W 4 ++ (littleB hi 4 ++ (littleB 1 2 ++ (littleB (8 * pl) 2 ++ (littleB 0 4 ++ (List.replicate (20 + G) 0 ++ px)))))))) := by
    rw [hhd, hz, show 24 + G = 4 + (20 + G) by omega, ← List.replicate_append_replicate, show List.replicate 4 (0 : Int) = littleB 0 4 by decide]; simp
  have hxl : (hd ++ px).length = 54 + G + px.length := by rw [List.length_append, hlen]
  generalize hd ++ px = xs at *
  have d0 : xs.drop 10 = littleB (54 + (G : Int)) 4 ++ (littleB 40 4 ++ (littleB W 4 ++ (littleB hi 4 ++ (littleB 1 2 ++ (littleB (8 * pl) 2 ++ (littleB 0 4 ++ (List.replicate (20 + G) 0 ++ px))))))) := by rw [hxs]; rfl
  have d1 := drop_app' d0
  have d2 := drop_app' d1
  have d3 := drop_app' d2
  have d4 := drop_app' d3
  have d5 := drop_app' d4
  have d6 := drop_app' d5
  simp only [littleB_len] at d1 d2 d3 d4 d5 d6
  have q0 : fld xs 10 4 = 54 + (G : Int) := fld_app (by omega) (by show _ < ((4294967296 : Nat) : Int); omega) d0
  have q1 : fld xs 14 4 = 40 := fld_app (by omega) (by decide) d1
  have q2 : fld xs 18 4 = (W : Int) := fld_app (by omega) (by show _ < ((4294967296 : Nat) : Int); omega) d2
  have q3 : fld xs 22 4 = hi := fld_app (by omega) (by show _ < ((4294967296 : Nat) : Int); omega) d3
  have q4 : fld xs 26 2 = 1 := fld_app (by omega) (by decide) d4
  have q5 : fld xs 28 2 = 8 * pl := fld_app (by omega) (by show _ < ((65536 : Nat) : Int); omega) d5
  have q6 : fld xs 30 4 = 0 := fld_app (by omega) (by decide) d6
  have hh : hB xs = (H : Int) := by
    unfold hB; rw [q3, i32_def]
    rcases hhi with rfl | rfl
    · rw [if_neg (by omega)]; omega
    · rw [if_pos (by omega)]; omega
  have hd0 : hdB xs = true := decide_eq_true ⟨by omega, by rw [hxs]; rfl, by rw [hxs]; rfl⟩
  unfold bmpP
  rw [hd0, if_pos rfl, if_neg]
  · unfold pcB
    rw [q0, q2, q5, hh, show 8 * pl / 8 = pl by omega]
  · unfold badB
    rw [decide_eq_false (by rw [q0, q1, q2, q4, q5, q6, hh]; omega)]; simp
theorem Bmp_end {w w1 : World} {b : Value} {bs : List Int} {p : Addr} {q : Pc} {F : List It} {n : Int} (f : Fr w w1 (oIt .u8 eB b bs :: sIt p q.c :: F)) (hl : bs.length ≤ 1000000000) (hp : bmpP bs = rightP q bs.length) (hb1 : 1 ≤ q.st * q.ht ∧ q.st * q.ht ≤ 1000000) (hn : (bs.length : Int) = q.fr + n) :
    gCall P n_picture_Bmp (.tup [.agg [.int .i64, .int .i64, .int .i64, .int .i64, .int .i64], .one .bool]) #[b] w1 fun (t134_1 : Int) (t134_2 : Int) (t134_3 : Int) (t134_4 : Int) (t134_5 : Int) (t134_6 : Bool) ww36 => gAlloc P t_api_Picture ww36 fun (q20 : Addr) ww37 => gStore P t_api_Picture (.pointer (some q20)) (.agg #[.int .i64 t134_1, .int .i64 t134_2, .int .i64 t134_3, .int .i64 t134_4, .int .i64 t134_5]) ww37 fun ww38 => gLoad P t_int (shI .i64) (.pointer (some (Addr.add p 3))) ww38 fun (t139 : Int) => gIf (decide (n < (i64 (t139 * q.ht)))) (gCall P n_valiselaw16_awake shB #[] ww38 fun (t143 : Bool) ww39 => gIf t143 (gIf (!t134_6) (gLoad P t_api_Picture (.part (.agg [.int .i64, .int .i64, .int .i64, .int .i64, .int .i64])) (.pointer (some q20)) ww39 fun (t149_1 : Int) (t149_2 : Int) (t149_3 : Int) (t149_4 : Int) (t149_5 : Int) => gEq P .eql t_api_Picture (.agg #[.int .i64 t149_1, .int .i64 t149_2, .int .i64 t149_3, .int .i64 t149_4, .int .i64 t149_5]) (.agg #[.int .i64 0, .int .i64 0, .int .i64 0, .int .i64 0, .int .i64 0]) fun (t151 : Bool) => (Holds w) (.returned (.bool t151)) ww39) ((Holds w) (.returned (.bool false)) ww39)) ((Holds w) (.returned (.bool false)) ww39)) (gCall P n_valiselaw16_awake shB #[] ww38 fun (t153 : Bool) ww40 => gIf t153 (gIf t134_6 (gLoad P t_api_Picture (.part (.agg [.int .i64, .int .i64, .int .i64, .int .i64, .int .i64])) (.pointer (some p)) ww40 fun (t158_1 : Int) (t158_2 : Int) (t158_3 : Int) (t158_4 : Int) (t158_5 : Int) => gLoad P t_api_Picture (.part (.agg [.int .i64, .int .i64, .int .i64, .int .i64, .int .i64])) (.pointer (some q20)) ww40 fun (t159_1 : Int) (t159_2 : Int) (t159_3 : Int) (t159_4 : Int) (t159_5 : Int) => gEq P .eql t_api_Picture (.agg #[.int .i64 t158_1, .int .i64 t158_2, .int .i64 t158_3, .int .i64 t158_4, .int .i64 t158_5]) (.agg #[.int .i64 t159_1, .int .i64 t159_2, .int .i64 t159_3, .int .i64 t159_4, .int .i64 t159_5]) fun (t160 : Bool) => (Holds w) (.returned (.bool t160)) ww40) ((Holds w) (.returned (.bool false)) ww40)) ((Holds w) (.returned (.bool false)) ww40)) := by
  refine gCall_pic (Bmp_any (f.nm 0 rfl) hl) fun w2 h2 => fPicNew (f.ev h2) fun q2 w3 f3 => fPicSet f3 0 rfl rfl fun w4 f4 => fLoad_i (n := q.st) f4 2 3 rfl rfl ?_
  rw [i64_id (n := q.st * q.ht) (by omega) (by omega)]
  have f4 : Fr w w4 (sIt q2 (bmpP bs).1.c :: oIt .u8 eB b bs :: sIt p q.c :: F) := f4
  rw [hp] at f4 ⊢
  refine gIf_dec (fun hlt => ?_) (fun hge => ?_)
  · have hr : rightP q bs.length = no := by unfold rightP; rw [if_pos (by omega)]
    rw [hr] at f4 ⊢
    refine gCall_b awake_any fun w5 h5 => gIf_t (gIf_nf (fPic Pc.z (f4.ev h5) 0 rfl (gEq_pic Pc.z ⟨0, 0, 0, 0, 0⟩ ⟨?_, (f4.ev h5).old⟩)))
    rw [decide_eq_true (show Pc.z = ⟨0, 0, 0, 0, 0⟩ from rfl)]
  · have hr : rightP q bs.length = (q, true) := by unfold rightP; rw [if_neg (by omega)]
    rw [hr] at f4 ⊢
    refine gCall_b awake_any fun w5 h5 => gIf_t (gIf_t (fPic q (f4.ev h5) 2 rfl (fPic q (f4.ev h5) 0 rfl (gEq_pic q q ⟨?_, (f4.ev h5).old⟩))))
    rw [decide_eq_true rfl]
theorem u64_i64_id {n : Int} (h0 : 0 ≤ n) (h1 : n ≤ 9223372036854775807) : u64 (i64 n) = n := by rw [i64_id (by omega) h1, u64_def]; omega
theorem PictureBmp_law {width height gap missing : Int} {colour below : Bool} {w : World} (_ : IntKind.i64.min ≤ width ∧ width ≤ IntKind.i64.max) (_ : IntKind.i64.min ≤ height ∧ height ≤ IntKind.i64.max) (_ : IntKind.i64.min ≤ gap ∧ gap ≤ IntKind.i64.max) (_ : IntKind.i64.min ≤ missing ∧ missing ≤ IntKind.i64.max) :
    Calls P n_valiselaw16_PictureBmp #[.int .i64 width, .int .i64 height, .bool colour, .bool below, .int .i64 gap, .int .i64 missing] w (Holds w) := by
  refine of_valiselaw16_PictureBmp ?_
  obtain ⟨W, hW, eW⟩ := tmod_nat width (m := 20) (by decide) (by decide)
  obtain ⟨H, hH, eH⟩ := tmod_nat height (m := 20) (by decide) (by decide)
  obtain ⟨G, hG, eG⟩ := tmod_nat gap (m := 30) (by decide) (by decide)
  obtain ⟨M, hM, eM⟩ := tmod_nat missing (m := 3) (by decide) (by decide)
  rw [eW, eH, eG, eM, show i64 (1 + (W : Int)) = ((W + 1 : Nat) : Int) by rw [i64_id (by omega) (by omega)]; omega, show i64 (1 + (H : Int)) = ((H + 1 : Nat) : Int) by rw [i64_id (by omega) (by omega)]; omega, i64_id (n := 54 + (G : Int)) (by omega) (by omega)]
  obtain ⟨pl, hpl⟩ : ∃ pl : Int, pl = if colour then 3 else 1 := ⟨_, rfl⟩
  have hpl2 : pl = 1 ∨ pl = 3 := by rw [hpl]; split <;> simp
  refine fPicNew (Fr.start w) fun p w1 f1 => fPicSet f1 0 rfl rfl fun w2 f2 => ⟨fun w' => Fr w w' [sIt p (Pc.mk ((W + 1 : Nat) : Int) ((H + 1 : Nat) : Int) pl 0 (54 + (G : Int))).c], gIf_b (fun hc => fStore f2 0 2 rfl fun w3 f3 => ?_) (fun hc => ?_), ?_⟩
  · rw [hc, if_pos rfl] at hpl; subst hpl; exact f3
  · rw [hc, if_neg (by simp)] at hpl; subst hpl; exact f2
  rintro _ w4 f4
  have hst : 1 ≤ ((W + 1 : Nat) : Int) * pl ∧ ((W + 1 : Nat) : Int) * pl ≤ 60 := by rcases hpl2 with e | e <;> rw [e] <;> omega
  refine fLoad_i (n := pl) f4 0 2 rfl rfl ?_
  rw [i64_id (n := ((W + 1 : Nat) : Int) * pl) (by omega) (by omega), i64_id (n := ((W + 1 : Nat) : Int) * pl + 3) (by omega) (by omega), Int.tdiv_eq_ediv_of_nonneg (by omega), i64_id (n := (((W + 1 : Nat) : Int) * pl + 3) / 4) (by omega) (by omega), i64_id (n := (((W + 1 : Nat) : Int) * pl + 3) / 4 * 4) (by omega) (by omega)]
  obtain ⟨st, hstd⟩ : ∃ st : Int, st = (((W + 1 : Nat) : Int) * pl + 3) / 4 * 4 := ⟨_, rfl⟩
  rw [← hstd]
  refine fStore f4 0 3 rfl fun w5 f5 => ?_
  obtain ⟨hi, hhi⟩ : ∃ hi : Int, hi = if below then 4294967296 - ((H + 1 : Nat) : Int) else ((H + 1 : Nat) : Int) := ⟨_, rfl⟩
  have hhi2 : hi = ((H + 1 : Nat) : Int) ∨ hi = 4294967296 - ((H + 1 : Nat) : Int) := by rw [hhi]; split <;> simp
  refine ⟨fun h w' => hi = h ∧ w5 = w', gIf_b (fun hc => ⟨?_, rfl⟩) (fun hc => ⟨?_, rfl⟩), ?_⟩
  · rw [hhi, hc, if_pos rfl]; exact (u64_i64_id (by omega) (by omega)).symm
  · rw [hhi, hc, if_neg (by simp)]
    have e : u64 (((H + 1 : Nat) : Int)) = ((H + 1 : Nat) : Int) := by rw [u64_def]; omega
    exact e.symm
  rintro _ _ _ ⟨rfl, rfl⟩
  have c4 : clN 4 = 4 := by decide
  have c2 : clN 2 = 2 := by decide
  refine fLitC [66, 77, 0, 0, 0, 0, 0, 0, 0, 0] f5 rfl rfl (fun x hx => by simp at hx; rcases hx with rfl | rfl | rfl <;> decide) fun b0 w8 f8 => fLoad_i (n := 54 + (G : Int)) f8 1 4 rfl rfl ?_
  rw [show u64 (54 + (G : Int)) = 54 + (G : Int) by rw [u64_def]; omega]
  refine fCallB f8 (rfLittle_any (by omega)) fun l1 w9 f9 => ?_
  rw [c4] at f9
  refine fAppC f9 1 rfl (f9.nm 0 rfl) (fun h => by have := congrArg List.length h; rw [littleB_len] at this; simp at this) (by simp [littleB_len]) fun b1 w10 f10 => ?_
  have f10 : Fr w w10 [oIt .u8 eB b1 _, _, _, _] := f10
  have f10 := (f10.drop 1).drop 1
  refine fAppL f10 (rfLittle_any (by omega)) (by simp [littleB_len, c4]) fun b2 w11 f11 => ?_
  rw [show u64 ((W + 1 : Nat) : Int) = ((W + 1 : Nat) : Int) by rw [u64_def]; omega]
  refine fAppL f11 (rfLittle_any (by omega)) (by simp [littleB_len, c4]) fun b3 w12 f12 => ?_
  refine fAppL f12 (rfLittle_any (by omega)) (by simp [littleB_len, c4]) fun b4 w13 f13 => ?_
  refine fAppL f13 (rfLittle_any (by omega)) (by simp [littleB_len, c4, c2]) fun b5 w14 f14 => ?_
  refine fLoad_i (n := pl) f14 1 2 rfl rfl ?_
  rw [show u64 (i64 (8 * pl)) = 8 * pl by rw [i64_id (by omega) (by omega), u64_def]; omega]
  refine fAppL f14 (rfLittle_any (by omega)) (by simp [littleB_len, c4, c2]) fun b6 w15 f15 => ?_
  rw [c4, c2] at f15
  generalize hh0 : [66, 77, 0, 0, 0, 0, 0, 0, 0, 0] ++ littleB (54 + (G : Int)) 4 ++ littleB 40 4 ++ littleB ((W + 1 : Nat) : Int) 4 ++ littleB hi 4 ++ littleB 1 2 ++ littleB (8 * pl) 2 = h0 at f15
  have h0l : h0.length = 30 := by rw [← hh0]; simp [littleB_len]
  have hsh : 1 ≤ st * ((H + 1 : Nat) : Int) ∧ st * ((H + 1 : Nat) : Int) ≤ 64 * 20 := ⟨by have := Int.mul_le_mul (show (1 : Int) ≤ st by omega) (show (1 : Int) ≤ ((H + 1 : Nat) : Int) by omega) (by omega) (by omega); omega, Int.mul_le_mul (by omega) (by omega) (by omega) (by omega)⟩
  have h4 : 4 ≤ st * ((H + 1 : Nat) : Int) := by have := Int.mul_le_mul (show (4 : Int) ≤ st by omega) (show (1 : Int) ≤ ((H + 1 : Nat) : Int) by omega) (by omega) (by omega); omega
  refine ⟨fun b w' => ∃ z : Nat, z ≤ 24 + G ∧ Fr w w' [oIt .u8 eB b (h0 ++ List.replicate z 0), sIt p (Pc.mk ((W + 1 : Nat) : Int) ((H + 1 : Nat) : Int) pl st (54 + (G : Int))).c], fun b _ => 54 + G - slenV b, ⟨0, by omega, by simp only [List.replicate_zero, List.append_nil]; exact f15⟩, ?_⟩
  rintro _ b7 w16 ⟨z, hz, f16⟩
  have hl16 : (h0 ++ List.replicate z (0 : Int)).length = 30 + z := by simp [h0l]
  refine gLen_nm (f16.nm 0 rfl) (gIf_dec (fun hlt => ?_) (fun hge => ?_))
  · refine fAppB rfl f16 (by decide) (by omega) fun b8 w17 f17 => ?_
    have f17 : Fr w w17 [oIt .u8 eB b8 (h0 ++ List.replicate (z + 1) 0), sIt p (Pc.mk ((W + 1 : Nat) : Int) ((H + 1 : Nat) : Int) pl st (54 + (G : Int))).c] := by rw [List.replicate_succ', ← List.append_assoc]; exact f17
    refine ⟨⟨z + 1, by omega, f17⟩, ?_⟩
    dsimp only
    rw [(f17.nm 0 rfl).slen, (f16.nm 0 rfl).slen]
    simp [h0l] at hlt ⊢; omega
  obtain rfl : z = 24 + G := by omega
  refine fLoad_i (n := st) f16 1 3 rfl rfl ?_
  rw [i64_id (n := st * ((H + 1 : Nat) : Int)) (by omega) (by omega), i64_id (n := st * ((H + 1 : Nat) : Int) - (M : Int)) (by omega) (by omega)]
  obtain ⟨N, hN⟩ : ∃ N : Nat, (N : Int) = st * ((H + 1 : Nat) : Int) - (M : Int) := ⟨(st * ((H + 1 : Nat) : Int) - (M : Int)).toNat, by omega⟩
  rw [← hN]
  refine ⟨fun b i w' => ∃ (j : Nat) (px : List Int), i = j ∧ j ≤ N ∧ px.length = j ∧ Fr w w' [oIt .u8 eB b (h0 ++ List.replicate (24 + G) 0 ++ px), sIt p (Pc.mk ((W + 1 : Nat) : Int) ((H + 1 : Nat) : Int) pl st (54 + (G : Int))).c], fun _ i _ => N - i.toNat, ⟨0, [], rfl, by omega, rfl, by rw [List.append_nil]; exact f16⟩, ?_⟩
  rintro _ b9 i w18 ⟨j, px, rfl, hj, hpx, f18⟩
  obtain ⟨s1, s2⟩ := bmp_says (px := px) (W := W + 1) (H := H + 1) (G := G) (pl := pl) (hi := hi) (by omega) (by omega) (by omega) hpl2 hhi2 rfl (hd := h0 ++ List.replicate (24 + G) 0) (by rw [← hh0])
  refine gIf_dec (fun hlt => ?_) (fun hge => ?_)
  · have hu : 0 ≤ u8 (j : Int) ∧ u8 (j : Int) < 256 := by rw [u8_def]; omega
    refine fAppB rfl f18 hu (by rw [List.length_append, s1]; omega) fun b10 w19 f19 => ?_
    rw [i64_id (n := (j : Int) + 1) (by omega) (by omega)]
    exact ⟨⟨j + 1, px ++ [u8 (j : Int)], rfl, by omega, by simp [hpx], by rw [← List.append_assoc]; exact f19⟩, by dsimp only; omega⟩
  · obtain rfl : j = N := by omega
    rw [← hstd] at s2
    have hend := Bmp_end (n := (j : Int)) f18 (by rw [List.length_append, s1]; omega) s2 (by dsimp only; omega) (by rw [List.length_append, s1]; dsimp only; omega)
    exact hend
end Go.Proofs.YtflchmhhmkkooaaV
