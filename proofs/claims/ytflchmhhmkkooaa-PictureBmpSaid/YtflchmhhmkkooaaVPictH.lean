/- Package picture: Bmp, and the same of valiseref16. -/
import Derived.Test.YtflchmhhmkkooaaVPictG
import Derived.Test.YtflchmhhmkkooaaVRef02A
namespace Go.Proofs.YtflchmhhmkkooaaV
open Go Go.RowKit
def fld (xs : List Int) (at' n : Nat) : Int := leN ((xs.drop at').take n)
def hB (xs : List Int) : Int := if i32 (fld xs 22 4) < 0 then -(i32 (fld xs 22 4)) else i32 (fld xs 22 4)
def badB (xs : List Int) : Bool := decide (fld xs 10 4 < 54 ∨ fld xs 14 4 < 40 ∨ ¬ (1 ≤ fld xs 18 4 ∧ fld xs 18 4 ≤ 32768) ∨ ¬ (1 ≤ hB xs ∧ hB xs ≤ 32768) ∨ fld xs 26 2 ≠ 1 ∨ (fld xs 28 2 ≠ 24 ∧ fld xs 28 2 ≠ 8) ∨ fld xs 30 4 ≠ 0)
def pcB (xs : List Int) : Pc := ⟨fld xs 18 4, hB xs, fld xs 28 2 / 8, (fld xs 18 4 * (fld xs 28 2 / 8) + 3) / 4 * 4, fld xs 10 4⟩
def hdB (xs : List Int) : Bool := decide (54 ≤ xs.length ∧ rd xs 0 = 66 ∧ rd xs 1 = 77)
def bmpP (xs : List Int) : Pc × Bool := if hdB xs = true then (if badB xs = true then no else rightP (pcB xs) xs.length) else no
theorem fld_rng {xs : List Int} (hx : inR .u8 xs) (at' n : Nat) (hn : n ≤ 4) : 0 ≤ fld xs at' n ∧ fld xs at' n < 4294967296 := by
  have h := leN_bd ((hx.drop at').take n)
  have hp : ((2 ^ (8 * ((xs.drop at').take n).length) : Nat) : Int) ≤ ((4294967296 : Nat) : Int) :=
    Int.ofNat_le.2 (Nat.le_trans (Nat.pow_le_pow_right (by decide) (show 8 * ((xs.drop at').take n).length ≤ 32 by rw [List.length_take]; omega)) (by decide))
  exact ⟨h.1, Int.lt_of_lt_of_le h.2 hp⟩
theorem rawR_in {ys : List Int} {a n : Nat} (h : a + n ≤ ys.length) : rawR ys a 0 n = ((ys.drop a).take n, a + n, 0) := by
  unfold rawR
  by_cases h0 : n = 0
  · subst h0; simp
  · rw [if_neg (by omega), if_neg (by omega), Int.toNat_natCast]
section
variable {w0 w : World} {F : List It} {b : Value} {xs : List Int}
theorem little_any {p ad : Addr} {y : Value} {a : Nat} {er n : Int} {w : World} (hp : w.cell? (p.add 0) = some (.pointer (some ad))) (h : Rd w ad y xs a er) : Calls P n_picture_parser_little #[.pointer (some p), .int .i64 n] w (fun e w' => e = .returned (.int .i64 (i64 (leN (rawR xs a er (if 8 < n then 8 else n)).1))) ∧ RS w w' ad y xs (rawR xs a er (if 8 < n then 8 else n)).2.1 (rawR xs a er (if 8 < n then 8 else n)).2.2) :=
  of_picture_parser_little (gNil_some (gLoad_p hp (gCall_i (rLittle_any h) fun w1 h1 => ⟨rfl, h1⟩)))
theorem fLit44 {p ad t2 : Addr} {y : Value} {cs : List Value} {K : Int → World → Prop} (a n q : Nat) (hq : 10 + a = q) (hn : n ≤ 4) (hx : inR .u8 xs) (hl : 54 ≤ xs.length) (h : Fr w0 w [sIt p [.pointer (some ad)], sIt ad [y, .int .i64 a, .int .i64 0], oIt .u8 eB y ((xs.drop 10).take 44), sIt t2 cs]) (ha : a + n ≤ 44)
    (hk : ∀ w', Fr w0 w' [sIt p [.pointer (some ad)], sIt ad [y, .int .i64 ((a + n : Nat) : Int), .int .i64 0], oIt .u8 eB y ((xs.drop 10).take 44), sIt t2 cs] → K (fld xs q n) w') : gCall P n_picture_parser_little (shI .i64) #[.pointer (some p), .int .i64 (n : Int)] w K := by
  subst hq
  have hlen : ((xs.drop 10).take 44).length = 44 := by rw [List.length_take, List.length_drop]; omega
  refine gCall_i (little_any (h.cell 0 0 rfl rfl) (h.rd 1 2 rfl rfl (by decide) (by rw [hlen]; omega) (by rw [hlen]; omega))) fun w' h' => ?_
  rw [if_neg (show ¬ (8 : Int) < (n : Int) by omega), rawR_in (by rw [hlen]; omega)] at h' ⊢
  have e : (((xs.drop 10).take 44).drop a).take n = (xs.drop (10 + a)).take n := by
    rw [List.drop_take, List.take_take, List.drop_drop, Nat.min_eq_left (by omega)]
  have r := fld_rng hx (10 + a) n hn
  dsimp only
  rw [e, show leN ((xs.drop (10 + a)).take n) = fld xs (10 + a) n from rfl, i64_id (by omega) (by omega)]
  exact hk w' (h.rs 1 rfl h')
theorem side_any {n : Int} {w : World} : Calls P n_picture_side #[.int .i64 n] w (fun e w' => e = .returned (.bool (decide (1 ≤ n ∧ n ≤ 32768))) ∧ w' = w) := by
  refine of_picture_side (gIf_dec (fun h => ⟨?_, rfl⟩) (fun h => ⟨?_, rfl⟩))
  · congr 2; exact decide_eq_decide.2 ⟨fun h2 => ⟨h, h2⟩, fun h2 => h2.2⟩
  · rw [decide_eq_false (fun h2 => h h2.1)]
theorem take2 (h : 2 ≤ xs.length) {c d : Int} : xs.take 2 = [c, d] ↔ rd xs 0 = c ∧ rd xs 1 = d := by
  match xs, h with
  | a :: a2 :: r, _ => simp [rd]
theorem i32_rg (n : Int) : -2147483648 ≤ i32 n ∧ i32 n ≤ 2147483647 := by rw [i32_def]; omega
theorem Bmp_any (hb : Nm .u8 w b xs) (hl : xs.length ≤ 1000000000) : Calls P n_picture_Bmp #[b] w (PicE w (bmpP xs)) := by
  have bad : ∀ {w1 : World} {F : List It} {ad : Addr} {cs : List Value}, Fr w w1 F → ∀ (i : Nat), F[i]? = some (sIt ad cs) → cs.length = 5 → bmpP xs = no →
      gStore P t_api_Picture (.pointer (some ad)) (.agg #[.int .i64 0, .int .i64 0, .int .i64 0, .int .i64 0, .int .i64 0]) w1 fun ww => gLoad P t_api_Picture (.part (.agg [.int .i64, .int .i64, .int .i64, .int .i64, .int .i64])) (.pointer (some ad)) ww fun (r0_0 : Int) (r0_1 : Int) (r0_2 : Int) (r0_3 : Int) (r0_4 : Int) => PicE w (bmpP xs) (.returned (.tuple #[.agg #[.int .i64 r0_0, .int .i64 r0_1, .int .i64 r0_2, .int .i64 r0_3, .int .i64 r0_4], .bool false])) ww :=
    fun f i hi hc hno => fPicEnd (r := no) f i hi hc (by rw [hno])
  have nohd : ¬ (54 ≤ xs.length ∧ rd xs 0 = 66 ∧ rd xs 1 = 77) → bmpP xs = no := fun h => by unfold bmpP hdB; rw [decide_eq_false h, if_neg (by simp)]
  refine of_picture_Bmp (fPicNew (Fr.start w) fun t2 w1 f1 => ⟨fun w' => (54 ≤ xs.length ∧ rd xs 0 = 66 ∧ rd xs 1 = 77) ∧ Fr w w' [sIt t2 Pc.z.c], gLen_nm hb (gIf_ndec (fun h54 => ?_) (fun h54 => bad f1 0 rfl rfl (nohd (by omega)))), ?_⟩)
  · refine gSlice_nm (hb.ev f1.old) 0 2 (.inl ⟨rfl, rfl⟩) (.inr ⟨_, rfl⟩) (by omega) (by omega) fun hs => gConv_bs hs ?_
    have e2 : (ByteArray.mk #[66, 77]) = bsOf [66, 77] := by decide
    have hr2 : inR .u8 [66, 77] := fun x hx => by simp at hx; rcases hx with rfl | rfl <;> decide
    rw [e2, bsOf_eq hs.2 hr2]
    simp only [List.drop_zero, Nat.sub_zero]
    refine gIf_ndec (fun hne => bad f1 0 rfl rfl (nohd fun h => hne ((take2 (by omega)).2 h.2))) (fun he => ⟨?_, f1⟩)
    have := (take2 (by omega)).1 he
    omega
  rintro _ w5 ⟨hd, f5⟩
  have h54 := hd.1
  have hdt : hdB xs = true := decide_eq_true hd
  have hx := hb.2
  refine gSlice_nm (hb.ev f5.old) 10 54 (.inr ⟨_, rfl⟩) (.inr ⟨_, rfl⟩) (by omega) (by omega) fun hs => ?_
  have hlen : ((xs.drop 10).take 44).length = 44 := by rw [List.length_take, List.length_drop]; omega
  refine fNew f5 hs (by rw [hlen]; omega) fun ad y w6 f6 => fBox f6 fun p w7 f7 => ?_
  refine fLit44 0 4 10 rfl (by omega) hx h54 f7 (by omega) fun w8 f8 => fLit44 4 4 14 rfl (by omega) hx h54 f8 (by omega) fun w9 f9 => fLit44 8 4 18 rfl (by omega) hx h54 f9 (by omega) fun w10 f10 => fLit44 12 4 22 rfl (by omega) hx h54 f10 (by omega) fun w11 f11 => fLit44 16 2 26 rfl (by omega) hx h54 f11 (by omega) fun w12 f12 => fLit44 18 2 28 rfl (by omega) hx h54 f12 (by omega) fun w13 f13 => fLit44 20 4 30 rfl (by omega) hx h54 f13 (by omega) fun w14 f14 => ?_
  have f14 := ((f14.drop 0).drop 0).drop 0
  have r10 := fld_rng hx 10 4 (by omega)
  have r14 := fld_rng hx 14 4 (by omega)
  have r18 := fld_rng hx 18 4 (by omega)
  have r28 := fld_rng hx 28 2 (by omega)
  have r22 := i32_rg (fld xs 22 4)
  have hyes : badB xs = true → bmpP xs = no := fun h => by unfold bmpP; rw [hdt, if_pos rfl, if_pos h]
  show ∃ J1 : Int → World → Prop, _
  refine ⟨fun h w' => h = hB xs ∧ w14 = w', ?_, ?_⟩
  · show gIf (decide (i64 (i32 (fld xs 22 4)) < 0)) _ _
    rw [i64_id (n := i32 (fld xs 22 4)) (by omega) (by omega)]
    refine gIf_dec (fun h => ⟨?_, rfl⟩) (fun h => ⟨?_, rfl⟩)
    · unfold hB; rw [if_pos h, i64_id (by omega) (by omega)]; omega
    · unfold hB; rw [if_neg h]
  rintro _ _ _ ⟨rfl, rfl⟩
  refine ⟨fun w' => badB xs = false ∧ w14 = w', ⟨fun t w' => t = badB xs ∧ w14 = w', ?_, ?_⟩, ?_⟩
  · have tr : ∀ {c : Prop}, c → (c → (fld xs 10 4 < 54 ∨ fld xs 14 4 < 40 ∨ ¬ (1 ≤ fld xs 18 4 ∧ fld xs 18 4 ≤ 32768) ∨ ¬ (1 ≤ hB xs ∧ hB xs ≤ 32768) ∨ fld xs 26 2 ≠ 1 ∨ (fld xs 28 2 ≠ 24 ∧ fld xs 28 2 ≠ 8) ∨ fld xs 30 4 ≠ 0)) → true = badB xs ∧ w14 = w14 := fun hc h => ⟨(decide_eq_true (h hc)).symm, rfl⟩
    refine gIf_ndec (fun c1 => gIf_ndec (fun c2 => gCall_b0 side_any (gIf_nndec (fun c3 => gCall_b0 side_any (gIf_nndec (fun c4 => gIf_nneq (fun c5 => ?_) (fun c5 => tr c5 fun h => .inr (.inr (.inr (.inr (.inl h)))))) (fun c4 => tr c4 fun h => .inr (.inr (.inr (.inl h)))))) (fun c3 => tr c3 fun h => .inr (.inr (.inl h))))) (fun c2 => tr c2 fun h => .inr (.inl h))) (fun c1 => tr c1 fun h => .inl h)
    have fin : (fld xs 28 2 = 24 ∨ fld xs 28 2 = 8) → (fld xs 30 4 != 0) = badB xs ∧ w14 = w14 := fun h => by
      refine ⟨?_, rfl⟩
      unfold badB
      by_cases c6 : fld xs 30 4 = 0
      · rw [decide_eq_false (by omega)]; simp [c6]
      · rw [decide_eq_true (by omega)]; simp [c6]
    exact gIf_neq (fun c6 => gIf_nneq (fun c7 => fin (.inr c7)) (fun c7 => tr (And.intro c6 c7) fun h => .inr (.inr (.inr (.inr (.inr (.inl h))))))) (fun c6 => fin (.inl c6))
  · rintro _ _ _ ⟨rfl, rfl⟩
    refine gIf_b (fun h => bad f14 0 rfl rfl (hyes h)) (fun h => ⟨h, rfl⟩)
  rintro _ _ ⟨hok, rfl⟩
  have hc := of_decide_eq_false hok
  have hfin : bmpP xs = rightP (pcB xs) xs.length := by unfold bmpP; rw [hdt, if_pos rfl, if_neg (by rw [hok]; simp)]
  have e41 : i64 (Int.tdiv (fld xs 28 2) 8) = fld xs 28 2 / 8 := by rw [Int.tdiv_eq_ediv_of_nonneg (by omega), i64_id (by omega) (by omega)]
  have hpl : fld xs 28 2 / 8 = 3 ∨ fld xs 28 2 / 8 = 1 := by omega
  have hm : 1 ≤ fld xs 18 4 * (fld xs 28 2 / 8) ∧ fld xs 18 4 * (fld xs 28 2 / 8) ≤ 98304 := by rcases hpl with e | e <;> rw [e] <;> omega
  refine fPicNew f14 fun p12 w21 f21 => ?_
  show gStore P t_api_Picture (.pointer (some p12)) (.agg #[.int .i64 (fld xs 18 4), .int .i64 (hB xs), .int .i64 (i64 (Int.tdiv (fld xs 28 2) 8)), .int .i64 0, .int .i64 (fld xs 10 4)]) _ _
  rw [e41]
  refine fPicSet f21 0 rfl rfl fun w22 f22 => fLoad_i f22 0 2 rfl rfl ?_
  show gStore P t_int (.pointer (some (Addr.add p12 3))) (.int .i64 (i64 (i64 (Int.tdiv (i64 (i64 (fld xs 18 4 * (fld xs 28 2 / 8)) + 3)) 4) * 4))) _ _
  rw [i64_id (n := fld xs 18 4 * (fld xs 28 2 / 8)) (by omega) (by omega), i64_id (n := fld xs 18 4 * (fld xs 28 2 / 8) + 3) (by omega) (by omega), Int.tdiv_eq_ediv_of_nonneg (by omega), i64_id (n := (fld xs 18 4 * (fld xs 28 2 / 8) + 3) / 4) (by omega) (by omega), i64_id (n := (fld xs 18 4 * (fld xs 28 2 / 8) + 3) / 4 * 4) (by omega) (by omega)]
  refine fStore f22 0 3 rfl fun w23 f23 => fPic (pcB xs) f23 0 rfl (gLen_nm hb ?_)
  have hsh : 0 ≤ (pcB xs).st * (pcB xs).ht ∧ (pcB xs).st * (pcB xs).ht ≤ 100000 * 32768 := ⟨Int.mul_nonneg (by unfold pcB; dsimp only; omega) (by unfold pcB; dsimp only; omega), Int.mul_le_mul (by unfold pcB; dsimp only; omega) (by unfold pcB; dsimp only; omega) (by unfold pcB; dsimp only; omega) (by omega)⟩
  refine gCall_pic (right_any hsh.1 (by omega) (by unfold pcB; dsimp only; omega) (by unfold pcB; dsimp only; omega)) fun w24 h24 => ?_
  exact fPicEnd (f23.ev h24) 1 rfl rfl (by rw [hfin])
end
end Go.Proofs.YtflchmhhmkkooaaV
