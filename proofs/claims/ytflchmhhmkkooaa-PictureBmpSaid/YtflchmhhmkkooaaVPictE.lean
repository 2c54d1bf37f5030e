/- Package picture: Pnm, and the same of valiseref16. -/
import Derived.Test.YtflchmhhmkkooaaVPictD
namespace Go.Proofs.YtflchmhhmkkooaaV
open Go Go.RowKit
def PicE (w : World) (r : Pc × Bool) (e : Ending) (w' : World) : Prop := e = .returned (.tuple #[.agg r.1.c.toArray, .bool r.2]) ∧ Ev w w'
theorem gCall_pic {f : FuncId} {args : Array Value} {w : World} {r : Pc × Bool} {K : Int → Int → Int → Int → Int → Bool → World → Prop} (h : Calls P f args w (PicE w r)) (hk : ∀ w', Ev w w' → K r.1.wd r.1.ht r.1.pl r.1.st r.1.fr r.2 w') :
    gCall P f (.tup [.agg [.int .i64, .int .i64, .int .i64, .int .i64, .int .i64], .one .bool]) args w K :=
  gCall_of h fun _ w' ⟨h1, h2⟩ => ⟨_, _, _, _, _, _, h1, hk w' h2⟩
section
variable {w0 w : World} {F : List It}
theorem fPic {ad : Addr} {K : Int → Int → Int → Int → Int → Prop} (p : Pc) (h : Fr w0 w F) (i : Nat) (hi : F[i]? = some (sIt ad p.c)) (hk : K p.wd p.ht p.pl p.st p.fr) : gLoad P t_api_Picture (.part (.agg [.int .i64, .int .i64, .int .i64, .int .i64, .int .i64])) (.pointer (some ad)) w K :=
  fLoadA h i hi hk rfl (by kernel_rfl)
theorem fPicNew {K : Addr → World → Prop} (h : Fr w0 w F) (hk : ∀ ad w', Fr w0 w' (sIt ad Pc.z.c :: F) → K ad w') : gAlloc P t_api_Picture w K :=
  fAlloc (z := .agg #[.int .i64 0, .int .i64 0, .int .i64 0, .int .i64 0, .int .i64 0]) h (by kernel_rfl) hk
theorem fPicSet {ad : Addr} {a b c d e : Int} {cs : List Value} {K : World → Prop} (h : Fr w0 w F) (i : Nat) (hi : F[i]? = some (sIt ad cs)) (hl : cs.length = 5) (hk : ∀ w', Fr w0 w' (F.set i (sIt ad (Pc.mk a b c d e).c)) → K w') : gStore P t_api_Picture (.pointer (some ad)) (.agg #[.int .i64 a, .int .i64 b, .int .i64 c, .int .i64 d, .int .i64 e]) w K :=
  fStoreA h i hi hk (by rw [hl]; rfl)
/-- The result of a function of two: stored, and read again. -/
theorem fPicEnd {ad : Addr} {r : Pc × Bool} {cs : List Value} (h : Fr w0 w F) (i : Nat) (hi : F[i]? = some (sIt ad cs)) (hl : cs.length = 5) {R : Ending → World → Prop} (hR : R = PicE w0 r) :
    gStore P t_api_Picture (.pointer (some ad)) (.agg #[.int .i64 r.1.wd, .int .i64 r.1.ht, .int .i64 r.1.pl, .int .i64 r.1.st, .int .i64 r.1.fr]) w fun ww => gLoad P t_api_Picture (.part (.agg [.int .i64, .int .i64, .int .i64, .int .i64, .int .i64])) (.pointer (some ad)) ww fun (r0_0 : Int) (r0_1 : Int) (r0_2 : Int) (r0_3 : Int) (r0_4 : Int) => R (.returned (.tuple #[.agg #[.int .i64 r0_0, .int .i64 r0_1, .int .i64 r0_2, .int .i64 r0_3, .int .i64 r0_4], .bool r.2])) ww := by
  subst hR
  refine fPicSet h i hi hl fun w3 f3 => fPic r.1 f3 i ?_ ⟨rfl, f3.old⟩
  have hlt := (List.getElem?_eq_some_iff.1 hi).1
  rw [List.getElem?_set_self hlt]
end
theorem right_any {a b c d e n : Int} {w : World} (h1 : 0 ≤ d * b) (h2 : d * b ≤ 1000000000000) (h3 : 0 ≤ e) (h4 : e ≤ 1000000000000) : Calls P n_picture_right #[.agg #[.int .i64 a, .int .i64 b, .int .i64 c, .int .i64 d, .int .i64 e], .int .i64 n] w (PicE w (rightP ⟨a, b, c, d, e⟩ n)) := by
  refine of_picture_right (fBox (Fr.start w) fun p w1 f1 => fPicNew f1 fun t w2 f2 => fLoad_i f2 1 4 rfl rfl (fLoad_i f2 1 3 rfl rfl (fLoad_i f2 1 1 rfl rfl ?_)))
  rw [i64_id (n := d * b) (by omega) (by omega), i64_id (n := e + d * b) (by omega) (by omega)]
  unfold rightP
  refine gIf_dec (fun h => ?_) (fun h => ?_)
  · rw [if_pos h]; exact fPicEnd (r := no) f2 0 rfl rfl rfl
  · rw [if_neg h]; exact fPic ⟨a, b, c, d, e⟩ f2 1 rfl (fPicEnd (r := (⟨a, b, c, d, e⟩, true)) f2 0 rfl rfl rfl)
theorem rfits_any {a b c d e n : Int} {w : World} (h1 : 0 ≤ d ∧ d ≤ 100000000000) (h3 : 0 ≤ e ∧ e ≤ 1000000000000) (hn : 0 ≤ n ∧ n ≤ 1000000000000) : Calls P n_valiseref16_fits #[.agg #[.int .i64 a, .int .i64 b, .int .i64 c, .int .i64 d, .int .i64 e], .int .i64 n] w (fun r w' => r = .returned (.bool (fitsP ⟨a, b, c, d, e⟩ n)) ∧ Ev w w') := by
  have hno : ∀ {w1 : World}, Ev w w1 → ¬ (1 ≤ a ∧ a ≤ 32768 ∧ 1 ≤ b ∧ b ≤ 32768 ∧ e ≤ n ∧ d * b ≤ n - e) → (fun (r : Ending) w' => r = .returned (.bool (fitsP ⟨a, b, c, d, e⟩ n)) ∧ Ev w w') (.returned (.bool false)) w1 := fun he h => ⟨by unfold fitsP; rw [decide_eq_false h], he⟩
  refine of_valiseref16_fits (fBox (Fr.start w) fun p w1 f1 => fLoad_i f1 0 0 rfl rfl (gIf_dec (fun h1 => fLoad_i f1 0 0 rfl rfl (gIf_dec (fun h2 => fLoad_i f1 0 1 rfl rfl (gIf_dec (fun h3 => fLoad_i f1 0 1 rfl rfl (gIf_dec (fun h4 => fLoad_i f1 0 4 rfl rfl (gIf_dec (fun h5 => fLoad_i f1 0 3 rfl rfl (fLoad_i f1 0 1 rfl rfl (fLoad_i f1 0 4 rfl rfl ?_))) (fun _ => hno f1.old (by omega)))) (fun _ => hno f1.old (by omega)))) (fun _ => hno f1.old (by omega)))) (fun _ => hno f1.old (by omega)))) (fun _ => hno f1.old (by omega))))
  have p1 : 0 ≤ d * b := Int.mul_nonneg (by omega) (by omega)
  have p2 : d * b ≤ 100000000000 * 32768 := Int.mul_le_mul (by omega) (by omega) (by omega) (by omega)
  rw [i64_id (n := d * b) (by omega) (by omega), i64_id (n := n - e) (by omega) (by omega)]
  refine ⟨?_, f1.old⟩
  unfold fitsP
  congr 2
  exact decide_eq_decide.2 ⟨fun h => ⟨h1, h2, h3, h4, h5, h⟩, fun h => h.2.2.2.2.2⟩
section
variable {b : Value} {xs : List Int} {w : World}
theorem rwhite_any {a : Nat} (hb : Nm .u8 w b xs) (hl : xs.length ≤ 1000000000) (ha : a ≤ xs.length) : Calls P n_valiseref16_white #[b, .int .i64 (a : Int)] w (fun e w' => e = .returned (.int .i64 (whiteR xs a)) ∧ w' = w) := by
  refine of_valiseref16_white ⟨fun i w' => ∃ j f : Nat, i = j ∧ a ≤ j ∧ j ≤ xs.length ∧ xs.length < f + j ∧ blankL xs f j = blankI xs a ∧ w = w', fun i _ => xs.length - i.toNat, ⟨a, xs.length + 1 - a, rfl, Nat.le_refl _, ha, by omega, rfl, rfl⟩, ?_⟩
  rintro _ i _ ⟨j, f, rfl, haj, hj, hf, hbl, rfl⟩
  obtain ⟨f, rfl⟩ : ∃ g, f = g + 1 := ⟨f - 1, by omega⟩
  rw [blankL] at hbl
  refine gLen_nm hb (gIf_dec (fun hlt => ?_) (fun hge => ?_))
  · rw [if_pos (show j < xs.length by omega)] at hbl
    refine gIdx_nm hb (by omega) hlt fun a1 c1 _ => gLoad_i c1 (gCall_b0 rblank_any ?_)
    rw [i64_id (n := (j : Int) + 1) (by omega) (by omega)]
    cases hw : whiteB (rd xs j) with
    | true =>
      rw [hw, if_pos rfl] at hbl
      exact gIf_t ⟨⟨j + 1, f, rfl, by omega, by omega, by omega, hbl, rfl⟩, by dsimp only; omega⟩
    | false =>
      rw [hw, if_neg (by simp)] at hbl
      refine gIf_f (gIdx_nm hb (by omega) hlt fun a2 c2 _ => gLoad_i c2 (gIf_eq (fun e35 => ?_) (fun n35 => ?_)))
      · rw [if_pos e35] at hbl
        refine ⟨fun i w' => ∃ j2 : Nat, i = j2 ∧ j ≤ j2 ∧ j2 ≤ xs.length ∧ nlI xs j2 = nlI xs j ∧ w = w', fun i _ => xs.length - i.toNat, ⟨j, rfl, by omega, hj, rfl, rfl⟩, ?_⟩
        rintro _ i2 _ ⟨j2, rfl, hjj, hj2, hn, rfl⟩
        rw [← hn] at hbl
        refine gLen_nm hb (gIf_dec (fun hlt2 => ?_) (fun hge2 => ?_))
        · refine gIdx_nm hb (by omega) hlt2 fun a3 c3 _ => gLoad_i c3 (gIf_neq (fun n10 => ?_) (fun e10 => ?_))
          · rw [i64_id (n := (j2 : Int) + 1) (by omega) (by omega)]
            rw [nlI_step (by omega), if_neg n10] at hn
            exact ⟨⟨j2 + 1, rfl, by omega, by omega, hn, rfl⟩, by dsimp only; omega⟩
          · rw [nlI_step (by omega), if_pos e10] at hbl
            refine gLen_nm hb (gIf_eq (fun e => by omega) (fun _ => ?_))
            rw [i64_id (n := (j2 : Int) + 1) (by omega) (by omega)]
            exact ⟨⟨j2 + 1, f, rfl, by omega, by omega, by omega, hbl, rfl⟩, by dsimp only; omega⟩
        · have hnn : nlI xs j2 = none := by unfold nlI; rw [show xs.length - j2 = 0 by omega]; rfl
          rw [hnn] at hbl
          refine gLen_nm hb (gIf_eq (fun e => ?_) (fun e => by omega))
          unfold whiteR; rw [← hbl, if_neg (by simp)]; exact ⟨rfl, rfl⟩
      · rw [if_neg n35] at hbl
        unfold whiteR
        rw [← hbl]
        refine gIf_eq (fun e => ?_) (fun e => ?_)
        · rw [if_neg (by dsimp only; omega)]; exact ⟨rfl, rfl⟩
        · rw [if_pos ⟨rfl, by dsimp only; omega, by dsimp only; omega⟩]; exact ⟨rfl, rfl⟩
  · rw [if_neg (show ¬ j < xs.length by omega)] at hbl
    unfold whiteR; rw [← hbl, if_neg (by dsimp only; omega)]; exact ⟨rfl, rfl⟩
theorem rnumber_any {a : Nat} (hb : Nm .u8 w b xs) (hl : xs.length ≤ 1000000000) (ha : a ≤ xs.length) : Calls P n_valiseref16_number #[b, .int .i64 (a : Int)] w (fun e w' => e = .returned (.tuple #[.int .i64 (numRR xs a).1, .int .i64 (numRR xs a).2]) ∧ w' = w) := by
  refine of_valiseref16_number ⟨fun at1 v n w' => ∃ k : Nat, at1 = ((a + k : Nat) : Int) ∧ n = k ∧ runL xs 6 a 0 = (k, v) ∧ w = w', ⟨fun at1 v n w' => ∃ k : Nat, at1 = ((a + k : Nat) : Int) ∧ n = k ∧ k ≤ 6 ∧ 0 ≤ v ∧ v < ((10 ^ k : Nat) : Int) ∧ a + k ≤ xs.length ∧ runL xs 6 a 0 = (k + (runL xs (6 - k) (a + k) v).1, (runL xs (6 - k) (a + k) v).2) ∧ w = w', fun at1 _ _ _ => xs.length - at1.toNat, ⟨0, rfl, rfl, by omega, by omega, by decide, ha, by simp, rfl⟩, ?_⟩, ?_⟩
  · rintro _ at1 v n _ ⟨k, rfl, rfl, hk, hv0, hv1, hak, hr, rfl⟩
    have stop : ¬ (k < 6 ∧ a + k < xs.length ∧ digB (rd xs ((a + k : Nat) : Int)) = true) → runL xs 6 a 0 = (k, v) := fun hn => by
      rw [hr]
      by_cases h6 : k < 6
      · rw [show 6 - k = (5 - k) + 1 by omega, runL, if_neg (fun h => hn ⟨h6, h.1, h.2⟩)]; rfl
      · rw [show 6 - k = 0 by omega]; rfl
    refine ⟨fun w' => (k < 6 ∧ a + k < xs.length ∧ digB (rd xs ((a + k : Nat) : Int)) = true) ∧ w = w', gLen_nm hb (gIf_dec (fun hlt => gIdx_nm hb (by omega) hlt fun a1 c1 _ => gLoad_i c1 (gIf_dec (fun h48 => gIdx_nm hb (by omega) hlt fun a2 c2 _ => gLoad_i c2 (gIf_dec (fun h57 => gIf_dec (fun h6 => ⟨⟨by omega, by omega, digB_iff.2 ⟨h48, h57⟩⟩, rfl⟩) (fun h6 => ⟨k, rfl, rfl, stop (by omega), rfl⟩)) (fun h57 => ⟨k, rfl, rfl, stop (fun h => h57 (digB_iff.1 h.2.2).2), rfl⟩))) (fun h48 => ⟨k, rfl, rfl, stop (fun h => h48 (digB_iff.1 h.2.2).1), rfl⟩))) (fun hge => ⟨k, rfl, rfl, stop (by omega), rfl⟩)), ?_⟩
    rintro _ _ ⟨⟨h6, hlt, hd⟩, rfl⟩
    refine gIdx_nm hb (by omega) (by omega) fun a1 c1 _ => gLoad_i c1 ?_
    have hd' := digB_iff.1 hd
    have hp : ((10 ^ (k + 1) : Nat) : Int) = ((10 ^ k : Nat) : Int) * 10 := by rw [Nat.pow_succ, Int.natCast_mul]; rfl
    have hq : ((10 ^ k : Nat) : Int) ≤ ((100000 : Nat) : Int) := Int.ofNat_le.2 (Nat.le_trans (Nat.pow_le_pow_right (by decide) (show k ≤ 5 by omega)) (by decide))
    rw [u8_id (n := rd xs ((a + k : Nat) : Int) - 48) (by omega) (by omega), i64_id (n := rd xs ((a + k : Nat) : Int) - 48) (by omega) (by omega), i64_id (n := 10 * v) (by omega) (by omega), i64_id (n := 10 * v + _) (by omega) (by omega), i64_id (n := (k : Int) + 1) (by omega) (by omega),
      show i64 (((a + k : Nat) : Int) + 1) = ((a + (k + 1) : Nat) : Int) by rw [i64_id (by omega) (by omega)]; omega]
    refine ⟨⟨k + 1, rfl, by omega, by omega, by omega, by rw [hp]; omega, by omega, ?_, rfl⟩, by dsimp only; omega⟩
    rw [hr, show 6 - k = (5 - k) + 1 by omega, runL, if_pos ⟨hlt, hd⟩, show 6 - (k + 1) = 5 - k by omega, show a + (k + 1) = a + k + 1 by omega]
    dsimp only
    congr 1; omega
  · rintro _ at1 v n _ ⟨k, rfl, rfl, hr, rfl⟩
    unfold numRR
    rw [hr]
    refine gIf_ndec (fun h1 => gIf_dec (fun h5 => ?_) (fun h5 => ?_)) (fun h1 => ?_)
    · rw [if_pos (by dsimp only; omega)]; exact ⟨rfl, rfl⟩
    · rw [if_neg (by dsimp only; omega)]; exact ⟨rfl, rfl⟩
    · rw [if_pos (by dsimp only; omega)]; exact ⟨rfl, rfl⟩
end
end Go.Proofs.YtflchmhhmkkooaaV
