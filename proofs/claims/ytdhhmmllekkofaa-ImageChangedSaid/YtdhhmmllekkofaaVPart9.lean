import Derived.Test.YtdhhmmllekkofaaVPart8
/- Package picture: Pnm, and the same of valiseref16. -/
namespace Go.Proofs.YtdhhmmllekkofaaV
open Go Go.RowKit
def PicE (w : World) (r : Pc × Bool) (e : Ending) (w' : World) : Prop := e = .returned (.tuple #[.agg r.1.c.toArray, .bool r.2]) ∧ Ev w w'
theorem gCall_pic {f : FuncId} {args : Array Value} {w : World} {r : Pc × Bool} {K : Int → Int → Int → Int → Int → Bool → World → Prop} (h : Calls P f args w (PicE w r)) (hk : ∀ w', Ev w w' → K r.1.wd r.1.ht r.1.pl r.1.st r.1.fr r.2 w') :
    gCall P f (.tup [.agg [.int .i64, .int .i64, .int .i64, .int .i64, .int .i64], .one .bool]) args w K :=
  gCall_of h fun _ w' ⟨h1, h2⟩ => ⟨_, _, _, _, _, _, h1, hk w' h2⟩
section
variable {w0 w : World} {F : List It}
theorem fPic {ad : Addr} {K : Int → Int → Int → Int → Int → Prop} (p : Pc) (h : Fr w0 w F) (i : Nat) (hi : F[i]? = some (sIt ad p.c)) (hk : K p.wd p.ht p.pl p.st p.fr) : gLoad P t_api_Picture (.part (.agg [.int .i64, .int .i64, .int .i64, .int .i64, .int .i64])) (.pointer (some ad)) w K :=
  fLoadA h i hi hk rfl (by kernel_rfl)
theorem fPicNew {K : Addr → World → Prop} (h : Fr w0 w F) (hk : ∀ ad w', Fr w0 w' (sIt ad Pc.z.c :: F) → K ad w') : gAlloc P t_api_Picture w K :=
  fAlloc (z := .agg #[.int .i64 0, .int .i64 0, .int .i64 0, .int .i64 0, .int .i64 0]) h (by kernel_rfl) hk
theorem fPicSet {ad : Addr} {a b c d e : Int} {cs : List Value} {K : World → Prop} (h : Fr w0 w F) (i : Nat) (hi : F[i]? = some (sIt ad cs)) (hl : cs.length = 5) (hk : ∀ w', Fr w0 w' (F.set i (sIt ad (Pc.mk a b c d e).c)) → K w') : gStore P t_api_Picture (.pointer (some ad)) (.agg #[.int .i64 a, .int .i64 b, .int .i64 c, .int .i64 d, .int .i64 e]) w K :=
  fStoreA h i hi hk (by rw [hl]; rfl)
/-- The result of a function of two: stored, and read again. -/
theorem fPicEnd {ad : Addr} {r : Pc × Bool} {cs : List Value} (h : Fr w0 w F) (i : Nat) (hi : F[i]? = some (sIt ad cs)) (hl : cs.length = 5) {R : Ending → World → Prop} (hR : R = PicE w0 r) :
    gStore P t_api_Picture (.pointer (some ad)) (.agg #[.int .i64 r.1.wd, .int .i64 r.1.ht, .int .i64 r.1.pl, .int .i64 r.1.st, .int .i64 r.1.fr]) w fun ww => gLoad P t_api_Picture (.part (.agg [.int .i64, .int .i64, .int .i64, .int .i64, .int .i64])) (.pointer (some ad)) ww fun (r0_0 : Int) (r0_1 : Int) (r0_2 : Int) (r0_3 : Int) (r0_4 : Int) => R (.returned (.tuple #[.agg #[.int .i64 r0_0, .int .i64 r0_1, .int .i64 r0_2, .int .i64 r0_3, .int .i64 r0_4], .bool r.2])) ww := by
  subst hR
  refine fPicSet h i hi hl fun w3 f3 => fPic r.1 f3 i ?_ ⟨rfl, f3.old⟩
  have hlt := (List.getElem?_eq_some_iff.1 hi).1
  rw [List.getElem?_set_self hlt]
end
theorem rightPc_any {a b c d e n : Int} {w : World} (h1 : 0 ≤ d * b) (h2 : d * b ≤ 1000000000000) (h3 : 0 ≤ e) (h4 : e ≤ 1000000000000) : Calls P n_picture_right #[.agg #[.int .i64 a, .int .i64 b, .int .i64 c, .int .i64 d, .int .i64 e], .int .i64 n] w (PicE w (rightP ⟨a, b, c, d, e⟩ n)) := by
  refine of_picture_right (fBox (Fr.start w) fun p w1 f1 => fPicNew f1 fun t w2 f2 => fLoad_i f2 1 4 rfl rfl (fLoad_i f2 1 3 rfl rfl (fLoad_i f2 1 1 rfl rfl ?_)))
  rw [i64_id (n := d * b) (by omega) (by omega), i64_id (n := e + d * b) (by omega) (by omega)]
  unfold rightP
  refine gIf_dec (fun h => ?_) (fun h => ?_)
  · rw [if_pos h]; exact fPicEnd (r := no) f2 0 rfl rfl rfl
  · rw [if_neg h]; exact fPic ⟨a, b, c, d, e⟩ f2 1 rfl (fPicEnd (r := (⟨a, b, c, d, e⟩, true)) f2 0 rfl rfl rfl)
theorem rfits_any {a b c d e n : Int} {w : World} (h1 : 0 ≤ d ∧ d ≤ 100000000000) (h3 : 0 ≤ e ∧ e ≤ 1000000000000) (hn : 0 ≤ n ∧ n ≤ 1000000000000) : Calls P n_valiseref16_fits #[.agg #[.int .i64 a, .int .i64 b, .int .i64 c, .int .i64 d, .int .i64 e], .int .i64 n] w (fun r w' => r = .returned (.bool (fitsP ⟨a, b, c, d, e⟩ n)) ∧ Ev w w') := by
  have hno : ∀ {w1 : World}, Ev w w1 → ¬ (1 ≤ a ∧ a ≤ 32768 ∧ 1 ≤ b ∧ b ≤ 32768 ∧ e ≤ n ∧ d * b ≤ n - e) → (fun (r : Ending) w' => r = .returned (.bool (fitsP ⟨a, b, c, d, e⟩ n)) ∧ Ev w w') (.returned (.bool false)) w1 := fun he h => ⟨by unfold fitsP; rw [decide_eq_false h], he⟩
  refine of_valiseref16_fits (fBox (Fr.start w) fun p w1 f1 => fLoad_i f1 0 0 rfl rfl (gIf_dec (fun h1 => fLoad_i f1 0 0 rfl rfl (gIf_dec (fun h2 => fLoad_i f1 0 1 rfl rfl (gIf_dec (fun h3 => fLoad_i f1 0 1 rfl rfl (gIf_dec (fun h4 => fLoad_i f1 0 4 rfl rfl (gIf_dec (fun h5 => fLoad_i f1 0 3 rfl rfl (fLoad_i f1 0 1 rfl rfl (fLoad_i f1 0 4 rfl rfl ?_))) (fun _ => hno f1.old (by omega)))) (fun _ => hno f1.old (by omega)))) (fun _ => hno f1.old (by omega)))) (fun _ => hno f1.old (by omega)))) (fun _ => hno f1.old (by omega))))
  have p1 : 0 ≤ d * b := Int.mul_nonneg (by omega) (by omega)
  have p2 : d * b ≤ 100000000000 * 32768 := Int.mul_le_mul (by omega) (by omega) (by omega) (by omega)
  rw [i64_id (n := d * b) (by omega) (by omega), i64_id (n := n - e) (by omega) (by omega)]
  refine ⟨?_, f1.old⟩
  unfold fitsP
  congr 2
  exact decide_eq_decide.2 ⟨fun h => ⟨h1, h2, h3, h4, h5, h⟩, fun h => h.2.2.2.2.2⟩
section
variable {b : Value} {xs : List Int} {w : World}
theorem rwhite_any {a : Nat} (hb : Nm .u8 w b xs) (hl : xs.length ≤ 1000000000) (ha : a ≤ xs.length) : Calls P n_valiseref16_white #[b, .int .i64 (a : Int)] w (fun e w' => e = .returned (.int .i64 (whiteR xs a)) ∧ w' = w) := by
  refine of_valiseref16_white ⟨fun i w' => ∃ j f : Nat, i = j ∧ a ≤ j ∧ j ≤ xs.length ∧ xs.length < f + j ∧ blankL xs f j = blankI xs a ∧ w = w', fun i _ => xs.length - i.toNat, ⟨a, xs.length + 1 - a, rfl, Nat.le_refl _, ha, by omega, rfl, rfl⟩, ?_⟩
  rintro _ i _ ⟨j, f, rfl, haj, hj, hf, hbl, rfl⟩
  obtain ⟨f, rfl⟩ : ∃ g, f = g + 1 := ⟨f - 1, by omega⟩
  rw [blankL] at hbl
  refine gLen_nm hb (gIf_dec (fun hlt => ?_) (fun hge => ?_))
  · rw [if_pos (show j < xs.length by omega)] at hbl
    refine gIdx_nm hb (by omega) hlt fun a1 c1 _ => gLoad_i c1 (gCall_b0 rblank_any ?_)
    rw [i64_id (n := (j : Int) + 1) (by omega) (by omega)]
    cases hw : whiteB (rd xs j) with
    | true =>
      rw [hw, if_pos rfl] at hbl
      exact gIf_t ⟨⟨j + 1, f, rfl, by omega, by omega, by omega, hbl, rfl⟩, by dsimp only; omega⟩
    | false =>
      rw [hw, if_neg (by simp)] at hbl
      refine gIf_f (gIdx_nm hb (by omega) hlt fun a2 c2 _ => gLoad_i c2 (gIf_eq (fun e35 => ?_) (fun n35 => ?_)))
      · rw [if_pos e35] at hbl
        refine ⟨fun i w' => ∃ j2 : Nat, i = j2 ∧ j ≤ j2 ∧ j2 ≤ xs.length ∧ nlI xs j2 = nlI xs j ∧ w = w', fun i _ => xs.length - i.toNat, ⟨j, rfl, by omega, hj, rfl, rfl⟩, ?_⟩
        rintro _ i2 _ ⟨j2, rfl, hjj, hj2, hn, rfl⟩
        rw [← hn] at hbl
        refine gLen_nm hb (gIf_dec (fun hlt2 => ?_) (fun hge2 => ?_))
        · refine gIdx_nm hb (by omega) hlt2 fun a3 c3 _ => gLoad_i c3 (gIf_neq (fun n10 => ?_) (fun e10 => ?_))
          · rw [i64_id (n := (j2 : Int) + 1) (by omega) (by omega)]
            rw [nlI_step (by omega), if_neg n10] at hn
            exact ⟨⟨j2 + 1, rfl, by omega, by omega, hn, rfl⟩, by dsimp only; omega⟩
          · rw [nlI_step (by omega), if_pos e10] at hbl
            refine gLen_nm hb (gIf_eq (fun e => by omega) (fun _ => ?_))
            rw [i64_id (n := (j2 : Int) + 1) (by omega) (by omega)]
            exact ⟨⟨j2 + 1, f, rfl, by omega, by omega, by omega, hbl, rfl⟩, by dsimp only; omega⟩
        · have hnn : nlI xs j2 = none := by unfold nlI; rw [show xs.length - j2 = 0 by omega]; rfl
          rw [hnn] at hbl
          refine gLen_nm hb (gIf_eq (fun e => ?_) (fun e => by omega))
          unfold whiteR; rw [← hbl, if_neg (by simp)]; exact ⟨rfl, rfl⟩
      · rw [if_neg n35] at hbl
        unfold whiteR
        rw [← hbl]
        refine gIf_eq (fun e => ?_) (fun e => ?_)
        · rw [if_neg (by dsimp only; omega)]; exact ⟨rfl, rfl⟩
        · rw [if_pos ⟨rfl, by dsimp only; omega, by dsimp only; omega⟩]; exact ⟨rfl, rfl⟩
  · rw [if_neg (show ¬ j < xs.length by omega)] at hbl
    unfold whiteR; rw [← hbl, if_neg (by dsimp only; omega)]; exact ⟨rfl, rfl⟩
theorem rnumber_any {a : Nat} (hb : Nm .u8 w b xs) (hl : xs.length ≤ 1000000000) (ha : a ≤ xs.length) : Calls P n_valiseref16_number #[b, .int .i64 (a : Int)] w (fun e w' => e = .returned (.tuple #[.int .i64 (numRR xs a).1, .int .i64 (numRR xs a).2]) ∧ w' = w) := by
  refine of_valiseref16_number ⟨fun at1 v n w' => ∃ k : Nat, at1 = ((a + k : Nat) : Int) ∧ n = k ∧ runL xs 6 a 0 = (k, v) ∧ w = w', ⟨fun at1 v n w' => ∃ k : Nat, at1 = ((a + k : Nat) : Int) ∧ n = k ∧ k ≤ 6 ∧ 0 ≤ v ∧ v < ((10 ^ k : Nat) : Int) ∧ a + k ≤ xs.length ∧ runL xs 6 a 0 = (k + (runL xs (6 - k) (a + k) v).1, (runL xs (6 - k) (a + k) v).2) ∧ w = w', fun at1 _ _ _ => xs.length - at1.toNat, ⟨0, rfl, rfl, by omega, by omega, by decide, ha, by simp, rfl⟩, ?_⟩, ?_⟩
  · rintro _ at1 v n _ ⟨k, rfl, rfl, hk, hv0, hv1, hak, hr, rfl⟩
    have stop : ¬ (k < 6 ∧ a + k < xs.length ∧ digB (rd xs ((a + k : Nat) : Int)) = true) → runL xs 6 a 0 = (k, v) := fun hn => by
      rw [hr]
      by_cases h6 : k < 6
      · rw [show 6 - k = (5 - k) + 1 by omega, runL, if_neg (fun h => hn ⟨h6, h.1, h.2⟩)]; rfl
      · rw [show 6 - k = 0 by omega]; rfl
    refine ⟨fun w' => (k < 6 ∧ a + k < xs.length ∧ digB (rd xs ((a + k : Nat) : Int)) = true) ∧ w = w', gLen_nm hb (gIf_dec (fun hlt => gIdx_nm hb (by omega) hlt fun a1 c1 _ => gLoad_i c1 (gIf_dec (fun h48 => gIdx_nm hb (by omega) hlt fun a2 c2 _ => gLoad_i c2 (gIf_dec (fun h57 => gIf_dec (fun h6 => ⟨⟨by omega, by omega, digB_iff.2 ⟨h48, h57⟩⟩, rfl⟩) (fun h6 => ⟨k, rfl, rfl, stop (by omega), rfl⟩)) (fun h57 => ⟨k, rfl, rfl, stop (fun h => h57 (digB_iff.1 h.2.2).2), rfl⟩))) (fun h48 => ⟨k, rfl, rfl, stop (fun h => h48 (digB_iff.1 h.2.2).1), rfl⟩))) (fun hge => ⟨k, rfl, rfl, stop (by omega), rfl⟩)), ?_⟩
    rintro _ _ ⟨⟨h6, hlt, hd⟩, rfl⟩
    refine gIdx_nm hb (by omega) (by omega) fun a1 c1 _ => gLoad_i c1 ?_
    have hd' := digB_iff.1 hd
    have hp : ((10 ^ (k + 1) : Nat) : Int) = ((10 ^ k : Nat) : Int) * 10 := by rw [Nat.pow_succ, Int.natCast_mul]; rfl
    have hq : ((10 ^ k : Nat) : Int) ≤ ((100000 : Nat) : Int) := Int.ofNat_le.2 (Nat.le_trans (Nat.pow_le_pow_right (by decide) (show k ≤ 5 by omega)) (by decide))
    rw [u8_id (n := rd xs ((a + k : Nat) : Int) - 48) (by omega) (by omega), i64_id (n := rd xs ((a + k : Nat) : Int) - 48) (by omega) (by omega), i64_id (n := 10 * v) (by omega) (by omega), i64_id (n := 10 * v + _) (by omega) (by omega), i64_id (n := (k : Int) + 1) (by omega) (by omega),
      show i64 (((a + k : Nat) : Int) + 1) = ((a + (k + 1) : Nat) : Int) by rw [i64_id (by omega) (by omega)]; omega]
    refine ⟨⟨k + 1, rfl, by omega, by omega, by omega, by rw [hp]; omega, by omega, ?_, rfl⟩, by dsimp only; omega⟩
    rw [hr, show 6 - k = (5 - k) + 1 by omega, runL, if_pos ⟨hlt, hd⟩, show 6 - (k + 1) = 5 - k by omega, show a + (k + 1) = a + k + 1 by omega]
    dsimp only
    congr 1; omega
  · rintro _ at1 v n _ ⟨k, rfl, rfl, hr, rfl⟩
    unfold numRR
    rw [hr]
    refine gIf_ndec (fun h1 => gIf_dec (fun h5 => ?_) (fun h5 => ?_)) (fun h1 => ?_)
    · rw [if_pos (by dsimp only; omega)]; exact ⟨rfl, rfl⟩
    · rw [if_neg (by dsimp only; omega)]; exact ⟨rfl, rfl⟩
    · rw [if_pos (by dsimp only; omega)]; exact ⟨rfl, rfl⟩
end
end Go.Proofs.YtdhhmmllekkofaaV

/- Package picture: Pnm, and the same of valiseref16, as a whole. -/
namespace Go.Proofs.YtdhhmmllekkofaaV
open Go Go.RowKit
section
variable {b : Value} {xs : List Int} {w : World}
theorem toks_at {tk : Nat → Nat → Option (Int × Nat)} (hb : ∀ {j a v b}, a ≤ xs.length → tk j a = some (v, b) → b ≤ xs.length) (h2 : 2 ≤ xs.length) : ∀ {j : Nat} {l : List Int} {a : Nat}, toks tk j = some (l, a) → a ≤ xs.length
  | 0, l, a, h => by simp [toks] at h; omega
  | j + 1, l, a, h => by
    simp only [toks, Option.bind_eq_some_iff, Option.map_eq_some_iff, Prod.mk.injEq] at h
    obtain ⟨⟨l1, a1⟩, h1, ⟨v, q⟩, h2', rfl, rfl⟩ := h
    exact hb (toks_at hb h2 h1) h2'
theorem tokR_at {a b : Nat} {v : Int} (ha : a ≤ xs.length) (h : tokR xs a = some (v, b)) : b ≤ xs.length ∧ 0 ≤ v ∧ v < 1000000 := by
  unfold tokR at h
  split at h
  · cases h
  · split at h
    · cases h
    · rename_i h1 h2
      injection h with h; injection h with e1 e2
      have hk := (blankL_bd (xs := xs) (f := xs.length + 1 - a) ha).2
      have hk' : (blankI xs a).2 ≤ xs.length := hk
      have hr := runL_bd (xs := xs) (f := 6) (v := 0) hk'
      have hv := runL_rng (xs := xs) (f := 6) (a := (blankI xs a).2) (v := 0) (m := 1) (by omega) (by omega)
      unfold numRR at h2 e1 e2
      split at h2
      · exact absurd (show (-1 : Int) < 0 by omega) h2
      · rename_i hc
        rw [if_neg hc] at e1 e2
        dsimp only at e1 e2
        rw [Int.toNat_natCast] at e2
        subst e1; subst e2
        have e6 : (1 : Int) * ((10 ^ 6 : Nat) : Int) = 1000000 := by decide
        omega
theorem tokP_at {a b : Nat} {v m : Int} (ha : a ≤ xs.length) (h : tokP xs m a = some (v, b)) : b ≤ xs.length ∧ 1 ≤ v ∧ v ≤ m := ⟨(tokR_at ha (tok_iff.1 h).1).1, (tok_iff.1 h).2⟩
theorem rd_idx (i : Nat) : rd xs ((i : Nat) : Int) = xs.getD i 0 := by simp [rd]
/-- The cells of three numbers, told so far. -/
def arP (l : List Int) : List Value := [.int .i64 (l.getD 0 0), .int .i64 (l.getD 1 0), .int .i64 (l.getD 2 0)]
theorem arP_set {l : List Int} {j : Nat} {v : Int} (hl : l.length = j) (hj : j < 3) : (arP l).set j (.int .i64 v) = arP (l ++ [v]) := by
  have : j = 0 ∨ j = 1 ∨ j = 2 := by omega
  unfold arP
  rcases this with rfl | rfl | rfl
  · obtain rfl : l = [] := List.eq_nil_of_length_eq_zero hl
    rfl
  · obtain ⟨a, rfl⟩ := List.length_eq_one_iff.1 hl
    rfl
  · obtain ⟨a, b, rfl⟩ : ∃ a b, l = [a, b] := by
      match l, hl with
      | [a, b], _ => exact ⟨a, b, rfl⟩
    rfl
theorem toks_step {tk : Nat → Nat → Option (Int × Nat)} {j : Nat} {l : List Int} {a : Nat} (h : toks tk j = some (l, a)) : toks tk (j + 1) = (tk j a).map fun q => (l ++ [q.1], q.2) := by rw [toks, h]; rfl
theorem toks_no {tk : Nat → Nat → Option (Int × Nat)} {j : Nat} {l : List Int} {a : Nat} (h : toks tk j = some (l, a)) (hj : j < 3) (hn : tk j a = none) : toks tk 3 = none := by
  have h1 : toks tk (j + 1) = none := by rw [toks_step h, hn]; rfl
  have := toks_up h1 (2 - j)
  rwa [show j + 1 + (2 - j) = 3 by omega] at this
theorem toks_yes {tk : Nat → Nat → Option (Int × Nat)} {j : Nat} {l : List Int} {a c : Nat} {v : Int} (h : toks tk j = some (l, a)) (hn : tk j a = some (v, c)) : toks tk (j + 1) = some (l ++ [v], c) := by rw [toks_step h, hn]; rfl
theorem hdP_t (h : hdP xs = true) : 2 ≤ xs.length ∧ rd xs 0 = 80 ∧ (rd xs 1 = 53 ∨ rd xs 1 = 54) := of_decide_eq_true h
theorem rPnm_any (hb : Nm .u8 w b xs) (hl : xs.length ≤ 1000000000) : Calls P n_valiseref16_Pnm #[b] w (PicE w (pnmR xs)) := by
  have bad : ∀ {w1 : World} {F : List It} {ad : Addr} {cs : List Value}, Fr w w1 F → ∀ (i : Nat), F[i]? = some (sIt ad cs) → cs.length = 5 → pnmR xs = no →
      gStore P t_api_Picture (.pointer (some ad)) (.agg #[.int .i64 0, .int .i64 0, .int .i64 0, .int .i64 0, .int .i64 0]) w1 fun ww => gLoad P t_api_Picture (.part (.agg [.int .i64, .int .i64, .int .i64, .int .i64, .int .i64])) (.pointer (some ad)) ww fun (r0_0 : Int) (r0_1 : Int) (r0_2 : Int) (r0_3 : Int) (r0_4 : Int) => PicE w (pnmR xs) (.returned (.tuple #[.agg #[.int .i64 r0_0, .int .i64 r0_1, .int .i64 r0_2, .int .i64 r0_3, .int .i64 r0_4], .bool false])) ww :=
    fun f i hi hc hno => fPicEnd (r := no) f i hi hc (by rw [hno])
  have nohd : hdP xs = false → pnmR xs = no := fun h => by unfold pnmR; rw [h, if_neg (by simp)]
  refine of_valiseref16_Pnm (fPicNew (Fr.start w) fun t2 w1 f1 => ⟨fun w' => hdP xs = true ∧ Fr w w' [sIt t2 Pc.z.c], ?_, ?_⟩)
  · have hbw := hb.ev f1.old
    refine gLen_nm hb (gIf_ndec (fun h2 => gIdx_nm hbw (by omega) (by omega) fun a1 c1 _ => gLoad_i c1 (gIf_nneq (fun e80 => gIdx_nm hbw (by omega) (by omega) fun a2 c2 _ => gLoad_i c2 (gIf_neq (fun n53 => gIdx_nm hbw (by omega) (by omega) fun a3 c3 _ => gLoad_i c3 (gIf_neq (fun n54 => bad f1 0 rfl rfl (nohd (decide_eq_false (by omega)))) (fun e54 => ⟨decide_eq_true (by omega), f1⟩))) (fun e53 => ⟨decide_eq_true (by omega), f1⟩))) (fun n80 => bad f1 0 rfl rfl (nohd (decide_eq_false (by omega)))))) (fun h2 => bad f1 0 rfl rfl (nohd (decide_eq_false (by omega)))))
  rintro _ w5 ⟨hd, f5⟩
  obtain ⟨h2, e80, e5⟩ := hdP_t hd
  have hpl := plP_rng xs
  refine fPicNew f5 fun p4 w6 f6 => fPicSet f6 0 rfl rfl fun w7 f7 => ⟨fun w' => Fr w w' [sIt p4 (Pc.mk 0 0 (plP xs) 0 0).c, sIt t2 Pc.z.c], ?_, ?_⟩
  · have hbw := hb.ev f7.old
    refine gIdx_nm hbw (by omega) (by omega) fun a1 c1 _ => gLoad_i c1 (gIf_eq (fun e54 => fStore f7 0 2 rfl fun w8 f8 => ?_) (fun n54 => ?_))
    · have : plP xs = 3 := by unfold plP; rw [if_pos e54]
      rw [this]; exact f8
    · have : plP xs = 1 := by unfold plP; rw [if_neg n54]
      rw [this]; exact f7
  rintro _ w9 f9
  refine fAlloc (z := .agg #[.int .i64 0, .int .i64 0, .int .i64 0]) f9 (by kernel_rfl) fun v5 w10 f10 => ⟨fun at1 i w' => ∃ (j : Nat) (l : List Int) (a : Nat), at1 = a ∧ i = j ∧ j ≤ 3 ∧ toks (tkR xs) j = some (l, a) ∧ Fr w w' [sIt v5 (arP l), sIt p4 (Pc.mk 0 0 (plP xs) 0 0).c, sIt t2 Pc.z.c], fun _ i _ => 3 - i.toNat, ⟨0, [], 2, rfl, rfl, by omega, rfl, f10⟩, ?_⟩
  rintro _ at1 i w11 ⟨j, l, a, rfl, rfl, hj, ht, f11⟩
  have hbw := hb.ev f11.old
  have hal : a ≤ xs.length := toks_at (fun ha h => (tokR_at ha h).1) h2 ht
  have hll := toks_len ht
  have nott : toks (tkR xs) 3 = none → pnmR xs = no := fun h => by unfold pnmR; rw [hd, if_pos rfl, h]
  refine gIf_dec (fun hlt => ?_) (fun hge => ?_)
  · refine gCall_i0 (rwhite_any hbw hl hal) (gIf_dec (fun hneg => ?_) (fun hneg => ?_))
    · exact bad f11 2 rfl rfl (nott (toks_no ht (by omega) (by show tokR xs a = none; unfold tokR; rw [if_pos hneg])))
    · have hw : whiteR xs a = ((blankI xs a).2 : Int) := by
        unfold whiteR at hneg ⊢
        split at hneg
        · rename_i hc; rw [if_pos hc]
        · omega
      have hk : (blankI xs a).2 ≤ xs.length := (blankL_bd (xs := xs) (f := xs.length + 1 - a) hal).2
      rw [hw]
      refine gCall_of (rnumber_any hbw hl hk) ?_
      rintro _ _ ⟨rfl, rfl⟩
      refine ⟨_, _, rfl, ?_⟩
      refine gIdx_ar1 3 j rfl (by omega) ?_
      refine fStore f11 0 j rfl (hj := by show j < 3; omega) fun w15 f15 => gIf_dec (fun hn2 => ?_) (fun hn2 => ?_)
      · exact bad f15 2 rfl rfl (nott (toks_no ht (by omega) (by show tokR xs a = none; unfold tokR; rw [if_neg hneg, if_pos hn2])))
      · have htk : tkR xs j a = some ((numRR xs (blankI xs a).2).1, (numRR xs (blankI xs a).2).2.toNat) := by show tokR xs a = _; unfold tokR; rw [if_neg hneg, if_neg hn2]
        rw [i64_id (n := (j : Int) + 1) (by omega) (by omega)]
        refine ⟨⟨j + 1, _, _, by omega, rfl, by omega, toks_yes ht htk, ?_⟩, by dsimp only; omega⟩
        rw [← arP_set hll (by omega)]
        exact f15
  · obtain rfl : j = 3 := by omega
    have hends : pnmR xs = endPR xs l a := by unfold pnmR; rw [hd, if_pos rfl, ht]
    have nend : ¬ (a < xs.length ∧ whiteB (rd xs a) = true ∧ 1 ≤ l.getD 2 0 ∧ l.getD 2 0 ≤ 255) → pnmR xs = no := fun h => by rw [hends]; unfold endPR; rw [if_neg h]
    refine ⟨fun w' => (a < xs.length ∧ whiteB (rd xs a) = true ∧ 1 ≤ l.getD 2 0 ∧ l.getD 2 0 ≤ 255) ∧ Fr w w' [sIt v5 (arP l), sIt p4 (Pc.mk 0 0 (plP xs) 0 0).c, sIt t2 Pc.z.c], ?_, ?_⟩
    · refine gLen_nm hb (gIf_ndec (fun hlt => gIdx_nm hbw (by omega) (by omega) fun a1 c1 _ => gLoad_i c1 (gCall_b0 rblank_any ?_)) (fun hge => bad f11 2 rfl rfl (nend (by omega))))
      cases hw : whiteB (rd xs a) with
      | false => exact gIf_nnf (bad f11 2 rfl rfl (nend (by rw [hw]; simp)))
      | true =>
        refine gIf_nn (gIdx_ar1 3 2 rfl (by omega) (fLoad_i f11 0 2 rfl rfl (gIf_ndec (fun g1 => gIdx_ar1 3 2 rfl (by omega) (fLoad_i f11 0 2 rfl rfl (gIf_dec (fun g2 => bad f11 2 rfl rfl (nend (by omega))) (fun g2 => ⟨⟨by omega, rfl, by omega, by omega⟩, f11⟩)))) (fun g1 => bad f11 2 rfl rfl (nend (by omega))))))
    · rintro _ w22 ⟨hc, f22⟩
      have hends2 : pnmR xs = if fitsP (pcP xs l a) xs.length then (pcP xs l a, true) else no := by rw [hends]; unfold endPR; rw [if_pos hc]
      have hv : ∀ i, i < 3 → 0 ≤ l.getD i 0 ∧ l.getD i 0 < 1000000 := by
        have : ∀ {j : Nat} {l : List Int} {a : Nat}, toks (tkR xs) j = some (l, a) → ∀ i, i < j → 0 ≤ l.getD i 0 ∧ l.getD i 0 < 1000000 := by
          intro j
          induction j with
          | zero => intro l a _ i hi; omega
          | succ j ih =>
            intro l a h i hi
            simp only [toks, Option.bind_eq_some_iff, Option.map_eq_some_iff, Prod.mk.injEq] at h
            obtain ⟨⟨l1, a1⟩, h1, ⟨v, q⟩, h2', rfl, rfl⟩ := h
            have hl1 := toks_len h1
            dsimp only at *
            by_cases e : i < j
            · rw [getD_app_l (by omega)]; exact ih h1 i e
            · obtain rfl : i = j := by omega
              rw [getD_app_r (by omega), hl1, Nat.sub_self]
              exact (tokR_at (toks_at (fun ha h => (tokR_at ha h).1) h2 h1) h2').2
        exact this ht
      have v0 := hv 0 (by omega)
      have hst : 0 ≤ l.getD 0 0 * plP xs ∧ l.getD 0 0 * plP xs ≤ 3000000 := by rcases hpl with e | e <;> rw [e] <;> omega
      refine ⟨fun w' => w'.cell? (v5.add 0) = some (.int .i64 (l.getD 0 0)) ∧ w'.cell? (v5.add 1) = some (.int .i64 (l.getD 1 0)), ⟨f22.drew.cell 0 0 rfl rfl, f22.drew.cell 0 1 rfl rfl⟩, gIdx_ar1 3 0 rfl (by omega) (gLoadB_i (fun _ h => h.1) (gIdx_ar1 3 1 rfl (by omega) (gLoadB_i (fun _ h => h.2) (fStore f22.drew 1 0 rfl fun w23 f23 => ⟨⟨f23.cell 0 0 rfl rfl, f23.cell 0 1 rfl rfl⟩, fStore f23 1 1 rfl fun w24 f24 => ⟨⟨f24.cell 0 0 rfl rfl, f24.cell 0 1 rfl rfl⟩, fStore f24 1 4 rfl fun w25 f25 => ⟨⟨f25.cell 0 0 rfl rfl, f25.cell 0 1 rfl rfl⟩, ?_⟩⟩⟩))))⟩
      refine fLoad_i f25 1 0 rfl rfl (fLoad_i f25 1 2 rfl rfl (fStore f25 1 3 rfl fun w26 f26 => ?_))
      rw [i64_id (n := l.getD 0 0 * plP xs) (by omega) (by omega), show i64 ((a : Int) + 1) = ((a + 1 : Nat) : Int) by rw [i64_id (by omega) (by omega)]; omega] at f26
      refine fPic (pcP xs l a) f26 1 rfl (gLen_nm hb ?_)
      refine gCall_b (rfits_any (by exact ⟨hst.1, by have := hst.2; show l.getD 0 0 * plP xs ≤ _; omega⟩) (by show (0 : Int) ≤ ((a + 1 : Nat) : Int) ∧ ((a + 1 : Nat) : Int) ≤ 1000000000000; omega) (by omega)) fun w27 h27 => ?_
      have f27 := f26.ev h27
      change gIf (!(fitsP (pcP xs l a) xs.length)) _ _
      cases hf : fitsP (pcP xs l a) xs.length with
      | false => exact gIf_nf (bad f27 2 rfl rfl (by rw [hends2, hf]; rfl))
      | true =>
        refine gIf_nt (fPic (pcP xs l a) f27 1 rfl (fPicEnd (r := (pcP xs l a, true)) f27 2 rfl rfl ?_))
        rw [hends2, hf]; rfl
end
end Go.Proofs.YtdhhmmllekkofaaV

/- Package picture: Pnm. -/
namespace Go.Proofs.YtdhhmmllekkofaaV
open Go Go.RowKit
section
variable {b : Value} {xs : List Int} {w : World}
theorem Fr.sg {w0 w : World} {F : List It} {ad : Addr} {a : Nat} (h : Fr w0 w F) (i : Nat) (hi : F[i]? = some (sIt ad [b, .int .i64 a])) (hb : Nm .u8 w0 b xs) (ha : a ≤ xs.length) (hl : xs.length ≤ 1000000000) : SG w ad b xs a :=
  ⟨h.get i hi, hb.ev h.old, fun hx hg => by
    have h1 := (h.ft i hi (k := ad.block) rfl).1
    have h2 := hb.old hx hg
    omega, ha, hl⟩
theorem Fr.gs {w0 w w' : World} {F : List It} {ad : Addr} {a a2 : Nat} (h : Fr w0 w F) (i : Nat) (hi : F[i]? = some (sIt ad [b, .int .i64 a])) (g : GS w w' ad b xs a2) : Fr w0 w' (F.set i (sIt ad [b, .int .i64 a2])) :=
  h.upd i hi g.2 (fun k _ hh => .inl hh.1) g.1.1 fun k hk => .inl hk
theorem numPI_at {a : Nat} {m : Int} (ha : a ≤ xs.length) : (numPI xs a m).2 ≤ xs.length ∧ 0 ≤ (numPI xs a m).1 := by
  have hr := runL_bd (xs := xs) (f := 6) (v := 0) ha
  have hn := runL_nn (xs := xs) (f := 6) (a := a) (v := 0) (by omega)
  unfold numPI
  split
  · exact ⟨by dsimp only; omega, by dsimp only; omega⟩
  · split
    · exact ⟨by dsimp only; omega, by dsimp only; omega⟩
    · exact ⟨by dsimp only; omega, hn⟩
def qP (j : Nat) : Nat := if j < 2 then j else 4
theorem qP_rng (j : Nat) : qP j < 5 := by unfold qP; split <;> omega
/-- The picture's cells, told so far. -/
def pcsP (pl : Int) (l : List Int) : List Value := (Pc.mk (l.getD 0 0) (l.getD 1 0) pl 0 (l.getD 2 0)).c
theorem pcsP_set {l : List Int} {j : Nat} {pl v : Int} (hl : l.length = j) (hj : j < 3) : (pcsP pl l).set (qP j) (.int .i64 v) = pcsP pl (l ++ [v]) := by
  have : j = 0 ∨ j = 1 ∨ j = 2 := by omega
  unfold pcsP
  rcases this with rfl | rfl | rfl
  · obtain rfl : l = [] := List.eq_nil_of_length_eq_zero hl
    rfl
  · obtain ⟨a, rfl⟩ := List.length_eq_one_iff.1 hl
    rfl
  · obtain ⟨a, b, rfl⟩ : ∃ a b, l = [a, b] := by
      match l, hl with
      | [a, b], _ => exact ⟨a, b, rfl⟩
    rfl
/-- What is asked for, three times. -/
def litP (p4 : Addr) : List Value := [.pointer (some (p4.add 0)), .int .i64 32768, .pointer (some (p4.add 1)), .int .i64 32768, .pointer (some (p4.add 4)), .int .i64 255]
theorem litP_at {p4 : Addr} {j : Nat} (hj : j < 3) : (litP p4)[j * 2 + 0]? = some (.pointer (some (p4.add (qP j)))) ∧ (litP p4)[j * 2 + 1]? = some (.int .i64 (moP j)) := by
  have : j = 0 ∨ j = 1 ∨ j = 2 := by omega
  rcases this with rfl | rfl | rfl <;> exact ⟨rfl, rfl⟩
theorem Pnm_any (hb : Nm .u8 w b xs) (hl : xs.length ≤ 1000000000) : Calls P n_picture_Pnm #[b] w (PicE w (pnmP xs)) := by
  have bad : ∀ {w1 : World} {F : List It} {ad : Addr} {cs : List Value}, Fr w w1 F → ∀ (i : Nat), F[i]? = some (sIt ad cs) → cs.length = 5 → pnmP xs = no →
      gStore P t_api_Picture (.pointer (some ad)) (.agg #[.int .i64 0, .int .i64 0, .int .i64 0, .int .i64 0, .int .i64 0]) w1 fun ww => gLoad P t_api_Picture (.part (.agg [.int .i64, .int .i64, .int .i64, .int .i64, .int .i64])) (.pointer (some ad)) ww fun (r0_0 : Int) (r0_1 : Int) (r0_2 : Int) (r0_3 : Int) (r0_4 : Int) => PicE w (pnmP xs) (.returned (.tuple #[.agg #[.int .i64 r0_0, .int .i64 r0_1, .int .i64 r0_2, .int .i64 r0_3, .int .i64 r0_4], .bool false])) ww :=
    fun f i hi hc hno => fPicEnd (r := no) f i hi hc (by rw [hno])
  have nohd : hdP xs = false → pnmP xs = no := fun h => by unfold pnmP; rw [h, if_neg (by simp)]
  refine of_picture_Pnm (fPicNew (Fr.start w) fun t2 w1 f1 => fPicNew f1 fun p4 w2 f2 => fPicSet f2 0 rfl rfl fun w3 f3 => ⟨fun w' => hdP xs = true ∧ Fr w w' [sIt p4 (Pc.mk 0 0 (plP xs) 0 0).c, sIt t2 Pc.z.c], ⟨fun t w' => t = !hdP xs ∧ w3 = w', ?_, ?_⟩, ?_⟩)
  · have hbw := hb.ev f3.old
    have n1 : ∀ {t : Bool}, t = true → ¬ (2 ≤ xs.length ∧ rd xs 0 = 80 ∧ (rd xs 1 = 53 ∨ rd xs 1 = 54)) → t = !hdP xs := fun ht h => by rw [ht, hdP, decide_eq_false h]; rfl
    have n2 : ∀ {t : Bool}, t = false → (2 ≤ xs.length ∧ rd xs 0 = 80 ∧ (rd xs 1 = 53 ∨ rd xs 1 = 54)) → t = !hdP xs := fun ht h => by rw [ht, hdP, decide_eq_true h]; rfl
    refine gLen_nm hb (gIf_ndec (fun h2 => gIdx_nm hbw (by omega) (by omega) fun a1 c1 _ => gLoad_i c1 (gIf_nneq (fun e80 => gIdx_nm hbw (by omega) (by omega) fun a2 c2 _ => gLoad_i c2 (gIf_neq (fun n53 => gIdx_nm hbw (by omega) (by omega) fun a3 c3 _ => gLoad_i c3 ⟨?_, rfl⟩) (fun e53 => ⟨n2 rfl (by omega), rfl⟩))) (fun n80 => ⟨n1 rfl (by omega), rfl⟩))) (fun h2 => ⟨n1 rfl (by omega), rfl⟩))
    by_cases e54 : rd xs 1 = 54
    · exact n2 (by simp [e54]) (by omega)
    · exact n1 (by simp [e54]) (by omega)
  · rintro _ _ _ ⟨rfl, rfl⟩
    have hbw := hb.ev f3.old
    cases hd : hdP xs with
    | false => exact gIf_nf (bad f3 1 rfl rfl (nohd hd))
    | true =>
      obtain ⟨h2, e80, e5⟩ := hdP_t hd
      refine gIf_nt (gIdx_nm hbw (by omega) (by omega) fun a1 c1 _ => gLoad_i c1 (gIf_eq (fun e54 => fStore f3 0 2 rfl fun w8 f8 => ⟨rfl, ?_⟩) (fun n54 => ⟨rfl, ?_⟩)))
      · have : plP xs = 3 := by unfold plP; rw [if_pos e54]
        rw [this]; exact f8
      · have : plP xs = 1 := by unfold plP; rw [if_neg n54]
        rw [this]; exact f3
  rintro _ w7 ⟨hd, f7⟩
  obtain ⟨h2, e80, e5⟩ := hdP_t hd
  have hpl := plP_rng xs
  refine ⟨hb.one, fBox f7 fun t40 w8 f8 => fLit_sz 2 [[.pointer (some (p4.add 0)), .int .i64 32768], [.pointer (some (p4.add 1)), .int .i64 32768], [.pointer (some (p4.add 4)), .int .i64 255]] f8 rfl rfl (by simp) (fun lt w9 f9 => gLen_sl ⟨fun t49 w' => ∃ (j : Nat) (l : List Int) (a : Nat), t49 = j ∧ j ≤ 3 ∧ toks (tkP xs) j = some (l, a) ∧ Fr w w' [sIt lt (litP p4), sIt t40 [b, .int .i64 a], sIt p4 (pcsP (plP xs) l), sIt t2 Pc.z.c], fun i _ => 3 - i.toNat, ⟨0, [], 2, rfl, by omega, rfl, f9⟩, ?_⟩) (hz := by decide +kernel)⟩
  rintro _ i w10 ⟨j, l, a, rfl, hj, ht, f10⟩
  have hbw := hb.ev f10.old
  have hal : a ≤ xs.length := toks_at (fun ha h => (tokP_at ha h).1) h2 ht
  have hll := toks_len ht
  have nott : toks (tkP xs) 3 = none → pnmP xs = no := fun h => by unfold pnmP; rw [hd, if_pos rfl, h]
  refine gIf_dec (fun hlt => ?_) (fun hge => ?_)
  · have hj3 : j < 3 := by omega
    have hlj := litP_at (p4 := p4) hj3
    refine gIdx_lit (sz := 2) j rfl hj3 (gLoad_agg [.pointer (some (p4.add (qP j))), .int .i64 (moP j)] (fun q u hq => ?_) ?_ rfl (by kernel_rfl))
    · rw [Addr.add2']
      match q, hq with
      | 0, hq => injection hq with hq; subst hq; exact f10.cell 0 _ rfl hlj.1
      | 1, hq => injection hq with hq; subst hq; exact f10.cell 0 _ rfl hlj.2
      | q + 2, hq => simp at hq
    show gAlloc _ _ _ _
    refine fAlloc (z := .agg #[.pointer none, .int .i64 0]) f10 (by kernel_rfl) fun x7 w11 f11 => fStoreA f11 0 rfl fun w12 f12 => ?_
    have hk : (blankI xs a).2 ≤ xs.length := (blankL_bd (xs := xs) (f := xs.length + 1 - a) hal).2
    refine gCall_b (blank_any (f12.sg 2 rfl hb hal hl)) fun w13 h13 => ?_
    have f13 := f12.gs 2 rfl h13
    refine gIf_of (fun hbt => ?_) (fun hbt => ?_)
    · refine bad f13 4 rfl rfl (nott (toks_no ht hj3 ?_))
      show tokP xs (moP j) a = none
      unfold tokP
      rw [if_neg]
      rintro ⟨q1, q2, _⟩
      rw [q1, decide_eq_true q2] at hbt; cases hbt
    have hbt2 : (blankI xs a).1 = true ∧ (blankI xs a).2 > a := by simpa using hbt
    have n13 := numPI_at (m := moP j) hk
    refine ⟨fun w' => w'.cell? (x7.add 0) = some (.pointer (some (p4.add (qP j)))) ∧ w'.cell? (x7.add 1) = some (.int .i64 (moP j)), ⟨f13.drew.cell 0 0 rfl rfl, f13.drew.cell 0 1 rfl rfl⟩, gLoadB_p (fun _ h => h.1) (gLoadB_i (fun _ h => h.2) (gCall_i (number_any (f13.drew.sg 2 rfl hb hk hl)) fun w15 h15 => ?_))⟩
    have f15 := f13.drew.gs 2 rfl h15
    refine ⟨⟨f15.cell 0 0 rfl rfl, f15.cell 0 1 rfl rfl⟩, gNil_some (fStore f15 3 (qP j) rfl (hj := by show qP j < 5; exact qP_rng j) fun w16 f16 => ⟨⟨f16.cell 0 0 rfl rfl, f16.cell 0 1 rfl rfl⟩, fLoad_p f16 0 0 rfl rfl (gNil_some ?_)⟩)⟩
    have hset : (pcsP (plP xs) l).set (qP j) (.int .i64 (numPI xs (blankI xs a).2 (moP j)).1) = pcsP (plP xs) (l ++ [(numPI xs (blankI xs a).2 (moP j)).1]) := pcsP_set hll hj3
    have hat : ((pcsP (plP xs) l).set (qP j) (.int .i64 (numPI xs (blankI xs a).2 (moP j)).1))[qP j]? = some (.int .i64 (numPI xs (blankI xs a).2 (moP j)).1) := List.getElem?_set_self (by show qP j < 5; exact qP_rng j)
    refine fLoad_i f16 3 (qP j) rfl hat (gIf_eq (fun e0 => ?_) (fun n0 => ?_))
    · refine bad f16 4 rfl rfl (nott (toks_no ht hj3 ?_))
      show tokP xs (moP j) a = none
      unfold tokP
      rw [if_neg]
      rintro ⟨_, _, q3⟩; exact q3 e0
    · rw [i64_id (n := (j : Int) + 1) (by omega) (by omega)]
      refine ⟨⟨j + 1, _, _, rfl, hj3, toks_yes ht (v := (numPI xs (blankI xs a).2 (moP j)).1) (c := (numPI xs (blankI xs a).2 (moP j)).2) ?_, ?_⟩, by dsimp only; omega⟩
      · show tokP xs (moP j) a = _
        unfold tokP
        rw [if_pos ⟨hbt2.1, hbt2.2, n0⟩]
      · rw [← hset]
        exact f16.drop 0
  · obtain rfl : j = 3 := by omega
    have hends : pnmP xs = endP xs l a := by unfold pnmP; rw [hd, if_pos rfl, ht]
    have tb := (toks_iff.1 ht).2
    have b0 : 1 ≤ l.getD 0 0 ∧ l.getD 0 0 ≤ 32768 := tb 0 (by omega)
    have b1 : 1 ≤ l.getD 1 0 ∧ l.getD 1 0 ≤ 32768 := tb 1 (by omega)
    refine gCall_b (is_any (pf := whiteB) (by kernel_rfl) white_any (f10.sg 1 rfl hb hal hl)) fun w18 h18 => ?_
    have f18 := f10.ev h18
    by_cases hc : a < xs.length ∧ whiteB (rd xs a) = true
    · rw [decide_eq_true hc.1, hc.2]
      have hst : 0 ≤ l.getD 0 0 * plP xs ∧ l.getD 0 0 * plP xs ≤ 98304 := by rcases hpl with e | e <;> rw [e] <;> omega
      have hsh : 0 ≤ l.getD 0 0 * plP xs * l.getD 1 0 ∧ l.getD 0 0 * plP xs * l.getD 1 0 ≤ 98304 * 32768 := ⟨Int.mul_nonneg hst.1 (by omega), Int.mul_le_mul hst.2 b1.2 (by omega) (by omega)⟩
      refine gIf_nt ⟨fun w' => w'.cell? (t40.add 1) = some (.int .i64 (a : Int)) ∧ w'.cell? (p4.add 0) = some (.int .i64 (l.getD 0 0)) ∧ w'.cell? (p4.add 2) = some (.int .i64 (plP xs)), ⟨f18.drew.cell 1 1 rfl rfl, f18.drew.cell 2 0 rfl rfl, f18.drew.cell 2 2 rfl rfl⟩, gNil_some (gLoadB_i (fun _ h => h.1) (gLoadB_i (fun _ h => h.2.1) (gLoadB_i (fun _ h => h.2.2) (fStore f18.drew 2 4 rfl fun w20 f20 => ⟨⟨f20.cell 1 1 rfl rfl, f20.cell 2 0 rfl rfl, f20.cell 2 2 rfl rfl⟩, fStore f20 2 3 rfl fun w21 f21 => ⟨⟨f21.cell 1 1 rfl rfl, f21.cell 2 0 rfl rfl, f21.cell 2 2 rfl rfl⟩, ?_⟩⟩))))⟩
      rw [i64_id (n := l.getD 0 0 * plP xs) (by omega) (by omega), show i64 ((a : Int) + 1) = ((a + 1 : Nat) : Int) by rw [i64_id (by omega) (by omega)]; omega] at f21
      refine fPic (pcP xs l a) f21 2 rfl (gLen_nm hb (gCall_pic (rightPc_any (a := (pcP xs l a).wd) (b := (pcP xs l a).ht) (c := (pcP xs l a).pl) (d := (pcP xs l a).st) (e := (pcP xs l a).fr) hsh.1 (by have := hsh.2; show l.getD 0 0 * plP xs * l.getD 1 0 ≤ _; omega) (by show (0 : Int) ≤ ((a + 1 : Nat) : Int); omega) (by show ((a + 1 : Nat) : Int) ≤ 1000000000000; omega)) fun w22 h22 => ?_))
      have f22 := f21.ev h22
      refine fPicEnd f22 3 rfl rfl ?_
      rw [hends]; unfold endP; rw [if_pos hc]
    · have hcf : (decide (a < xs.length) && whiteB (rd xs a)) = false := by
        rw [Bool.eq_false_iff]; intro hh; rw [Bool.and_eq_true, decide_eq_true_eq] at hh; exact hc hh
      rw [hcf]
      exact gIf_nf (bad f18 3 rfl rfl (by rw [hends]; unfold endP; rw [if_neg hc]))
end
end Go.Proofs.YtdhhmmllekkofaaV

/- Package valiseref02: Little, New, Raw, Little of a reader. -/
namespace Go.Proofs.YtdhhmmllekkofaaV
open Go Go.RowKit
theorem byteAt_u8 (v : Int) (k : Nat) : 0 ≤ byteAt v k ∧ byteAt v k < 256 := by unfold byteAt; omega
section
variable {w0 w : World} {F : List It} {xs : List Int} {ad : Addr} {y : Value} {a : Nat} {er : Int}
/-- A reader that is new: its struct, and its bytes. -/
theorem Fr.rd (h : Fr w0 w F) (i j : Nat) (hi : F[i]? = some (sIt ad [y, .int .i64 a, .int .i64 er])) (hj : F[j]? = some (oIt .u8 eB y xs)) (hn : i ≠ j) (ha : a ≤ xs.length) (hl : xs.length ≤ 10000000000) : Rd w ad y xs a er :=
  ⟨h.get i hi, h.nm j hj, fun hg => h.apart hi hj hn ad.block rfl hg, ha, hl⟩
theorem Fr.rs {w' : World} {a2 : Nat} {er2 : Int} (h : Fr w0 w F) (i : Nat) (hi : F[i]? = some (sIt ad [y, .int .i64 a, .int .i64 er])) (g : RS w w' ad y xs a2 er2) : Fr w0 w' (F.set i (sIt ad [y, .int .i64 a2, .int .i64 er2])) :=
  h.upd i hi g.2 (fun k _ hh => .inl hh.1) g.1.1 fun k hk => .inl hk
/-- What New hands back. -/
def NewR (w : World) (xs : List Int) (e : Ending) (w' : World) : Prop := ∃ ad y, e = .returned (.pointer (some ad)) ∧ ∀ {w0 F}, Fr w0 w F → Fr w0 w' (sIt ad [y, .int .i64 0, .int .i64 0] :: oIt .u8 eB y xs :: F)
theorem nNew_any {b : Value} {w : World} (hb : Nm .u8 w b xs) (hl : xs.length ≤ 10000000000) : Calls P n_num_New #[b] w (NewR w xs) := by
  refine of_num_New (gApp_on (ON.nil .u8 eB w w.heap.size) hb (by simp; omega) (Nat.le_refl _) fun y w1 hy hc hm => ⟨hy.one, gBox_of fun ad w2 h2 had hs hS => ?_⟩)
  have h1 : Ev w w1 := hc.mono fun _ _ _ hh => by cases hh
  exact ⟨ad, y, rfl, fun f => (f.newO h1 (by simpa using hy)).new h2 hS fun k hk => by have hk : k = ad.block := hk; subst had; dsimp only at hk; omega⟩
theorem rrNew_any {b : Value} {w : World} (hb : Nm .u8 w b xs) (hl : xs.length ≤ 10000000000) : Calls P n_valiseref02_New #[b] w (NewR w xs) := by
  refine of_valiseref02_New (gApp_on (ON.nil .u8 eB w w.heap.size) hb (by simp; omega) (Nat.le_refl _) fun y w1 hy hc hm => ⟨hy.one, gBox_of fun ad w2 h2 had hs hS => ?_⟩)
  have h1 : Ev w w1 := hc.mono fun _ _ _ hh => by cases hh
  exact ⟨ad, y, rfl, fun f => (f.newO h1 (by simpa using hy)).new h2 hS fun k hk => by have hk : k = ad.block := hk; subst had; dsimp only at hk; omega⟩
theorem fNew {b : Value} {K : Option Addr → World → Prop} (h : Fr w0 w F) (hb : Nm .u8 w b xs) (hl : xs.length ≤ 10000000000) (hk : ∀ ad y w', Fr w0 w' (sIt ad [y, .int .i64 0, .int .i64 0] :: oIt .u8 eB y xs :: F) → K (some ad) w') : gCall P n_num_New shP #[b] w K :=
  gCall_of (nNew_any hb hl) fun _ w' ⟨ad, y, h1, h2⟩ => ⟨some ad, h1, hk ad y w' (h2 h)⟩
theorem frNew {b : Value} {K : Option Addr → World → Prop} (h : Fr w0 w F) (hb : Nm .u8 w b xs) (hl : xs.length ≤ 10000000000) (hk : ∀ ad y w', Fr w0 w' (sIt ad [y, .int .i64 0, .int .i64 0] :: oIt .u8 eB y xs :: F) → K (some ad) w') : gCall P n_valiseref02_New shP #[b] w K :=
  gCall_of (rrNew_any hb hl) fun _ w' ⟨ad, y, h1, h2⟩ => ⟨some ad, h1, hk ad y w' (h2 h)⟩
theorem rrRaw_any {b : Value} {n : Int} {w : World} (h : Rd w ad b xs a er) (hn : n ≤ 9223372036854775807) : Calls P n_valiseref02_Reader_Raw #[.pointer (some ad), .int .i64 n] w (RawE w ad b xs (rawR xs a er n)) := by
  have hal := h.2.2.2.1
  have hxl := h.2.2.2.2
  refine of_valiseref02_Reader_Raw (gNil_some (gLoad_i (h.1.cell (j := 2) rfl) (gIf_neq (fun hne => ?_) (fun he => ?_))))
  · unfold rawR; rw [if_pos (.inl hne)]; exact ⟨_, rfl, h.step, ON.nil _ _ _ _⟩
  subst he
  refine gNil_some (gLoadB_v (at1 (h.1.cell (j := 0) rfl)) (gLen_nm h.2.1 (gNil_some (gLoadB_i (at1 (h.1.cell (j := 1) rfl)) ?_))))
  rw [i64_id (n := (xs.length : Int) - a) (by omega) (by omega)]
  have hraw : rawR xs a 0 n = if (if 0 > n then 0 else n) > (xs.length : Int) - a then ([], a, 3) else ((xs.drop a).take (if 0 > n then 0 else n).toNat, a + (if 0 > n then 0 else n).toNat, 0) := by
    unfold rawR
    by_cases hn0 : n ≤ 0
    · rw [if_pos (.inr hn0)]
      have : (if 0 > n then 0 else n) = 0 := by split <;> omega
      rw [this, if_neg (by omega)]; simp
    · rw [if_neg (by omega), if_neg (show ¬ 0 > n by omega)]
  rw [hraw]
  have hm0 : 0 ≤ (if 0 > n then 0 else n) := by split <;> omega
  generalize (if 0 > n then 0 else n) = m at *
  refine gIf_dec (fun hg => ?_) (fun hle => ?_)
  · rw [if_pos hg]
    refine gNil_some (gStore_st h.drew.1 (j := 2) (by simp) rfl rfl fun w2 h2 _ hS2 => ⟨_, rfl, ?_, ON.nil _ _ _ _⟩)
    exact RS.pre (Ev.drew0 w) (h.drew.set (j := 2) (a2 := a) (er2 := 3) (by decide) h2 hS2 rfl hal)
  · rw [if_neg hle]
    obtain ⟨m, rfl⟩ : ∃ q : Nat, m = q := ⟨m.toNat, by omega⟩
    rw [Int.toNat_natCast]
    refine gNil_some (gLoad_i (h.drew.1.cell (j := 1) rfl) (gNil_some (gStore_st h.drew.1 (j := 1) (by simp) rfl rfl fun w2 h2 hs2 hS2 => ?_)))
    have hRS : RS w w2 ad b xs (a + m) 0 := RS.pre (Ev.drew0 w) <| h.drew.set (j := 1) (a2 := a + m) (er2 := 0) (by decide) h2 hS2 (by rw [i64_id (by omega) (by omega)]; rfl) (by omega)
    have hR := hRS.1.drew
    refine ⟨fun w' => Rd w' ad b xs (a + m) 0, hR, gNil_some (gLoadB_v (fun w' h => h.1.cell (j := 0) rfl) (gNil_some (gLoadB_i (fun w' h => h.1.cell (j := 1) rfl) (gNil_some (gLoadB_i (fun w' h => h.1.cell (j := 1) rfl) ?_)))))⟩
    rw [show i64 (((a + m : Nat) : Int) - (m : Int)) = (a : Int) by rw [i64_id (by omega) (by omega)]; omega]
    refine gSlice_nm hR.2.1 a (a + m) (.inr ⟨_, rfl⟩) (.inr ⟨_, rfl⟩) (by omega) (by omega) fun hs => ?_
    rw [Nat.add_sub_cancel_left] at hs
    refine gApp_on (ON.nil .u8 eB w2.drew w.heap.size) hs (by rw [List.length_take, List.length_drop]; simp; omega) (Nat.le_of_eq hs2.symm) fun y w3 hy hc hm => ?_
    have h3 : Ev w2.drew w3 := hc.mono fun _ _ _ hh => by cases hh
    exact ⟨hR.ev h3, y, rfl, RS.ev hRS ((Ev.drew0 w2).trans h3), by simpa using hy⟩
theorem shl8 {v : Int} (h0 : 0 ≤ v) (h : v < 72057594037927936) : iShl .u64 v 8 = v * ((2 ^ 8 : Nat) : Int) := by
  have e64 : ((2 ^ IntKind.u64.bits : Nat) : Int) = 18446744073709551616 := rfl
  have e8 : ((2 ^ 8 : Nat) : Int) = 256 := rfl
  have := iShl_u (k := .u64) (n := 8) rfl (by decide) h0
  rw [e64, e8, Int.emod_eq_of_lt (by omega) (by omega)] at this
  exact this
theorem leN_drop {ys : List Int} {j : Nat} (hj : j < ys.length) : leN (ys.drop j) = rd ys j + 256 * leN (ys.drop (j + 1)) := by
  rw [List.drop_eq_getElem_cons hj, leN, rd_nat ys j hj]
theorem rrLittle_any {b : Value} {n : Int} {w : World} (h : Rd w ad b xs a er) : Calls P n_valiseref02_Reader_Little #[.pointer (some ad), .int .i64 n] w (U64E w ad b xs (leN (rawR xs a er (if 8 < n then 8 else n)).1) (rawR xs a er (if 8 < n then 8 else n))) := by
  have hn8 : (if 8 < n then 8 else n) ≤ 8 := by split <;> omega
  refine of_valiseref02_Reader_Little ?_
  generalize (if 8 < n then 8 else n) = m at *
  refine gCall_of (rrRaw_any h (by omega)) ?_
  have hlen := rawR_len (xs := xs) (a := a) (er := er) (n := m) (m := 8) (by omega)
  rintro _ w1 ⟨y, rfl, h1, hy⟩
  generalize rawR xs a er m = r at *
  refine ⟨y, rfl, gLen_nm hy.nm ⟨fun v i w' => ∃ j : Nat, i = (j : Int) - 1 ∧ j ≤ r.1.length ∧ v = leN (r.1.drop j) ∧ w1 = w', fun _ i _ => (i + 1).toNat, ⟨r.1.length, by rw [i64_id (by omega) (by omega)], Nat.le_refl _, by rw [List.drop_of_length_le (Nat.le_refl _)]; rfl, rfl⟩, ?_⟩⟩
  rintro _ v i _ ⟨j, rfl, hj, rfl, rfl⟩
  refine gIf_dec (fun hlt => gIdx_nm hy.nm (by omega) (by omega) fun a1 c1 _ => gLoad_i c1 ?_) (fun hge => ?_)
  · obtain ⟨j, rfl⟩ : ∃ q, j = q + 1 := ⟨j - 1, by omega⟩
    rw [show ((j + 1 : Nat) : Int) - 1 = j by omega]
    have hc := rd_u8 hy.2 j
    have hb := leN_bd (hy.2.drop (j + 1))
    have hp : ((2 ^ (8 * (r.1.drop (j + 1)).length) : Nat) : Int) ≤ ((72057594037927936 : Nat) : Int) := by
      rw [List.length_drop]
      exact Int.ofNat_le.2 (Nat.le_trans (Nat.pow_le_pow_right (by decide) (show 8 * (r.1.length - (j + 1)) ≤ 56 by omega)) (by decide))
    have e64 : ((2 ^ IntKind.u64.bits : Nat) : Int) = 18446744073709551616 := rfl
    have e8 : ((2 ^ 8 : Nat) : Int) = 256 := rfl
    rw [shl8 hb.1 (Int.lt_of_lt_of_le hb.2 hp), show u64 (rd r.1 j) = rd r.1 j by rw [u64_def]; omega, iOr_add' (m := 8) rfl hc.1 (by rw [e8]; omega) hb.1 (by rw [e8, e64]; omega), e8, i64_id (n := (j : Int) - 1) (by omega) (by omega)]
    refine ⟨⟨j, rfl, by omega, ?_, rfl⟩, by dsimp only; omega⟩
    rw [leN_drop (j := j) (by omega), Int.mul_comm 256]
  · obtain rfl : j = 0 := by omega
    exact ⟨rfl, h1⟩
end
end Go.Proofs.YtdhhmmllekkofaaV

/- Package picture: Bmp, and the same of valiseref16. -/
namespace Go.Proofs.YtdhhmmllekkofaaV
open Go Go.RowKit
def fld (xs : List Int) (at' n : Nat) : Int := leN ((xs.drop at').take n)
def hB (xs : List Int) : Int := if i32 (fld xs 22 4) < 0 then -(i32 (fld xs 22 4)) else i32 (fld xs 22 4)
def badB (xs : List Int) : Bool := decide (fld xs 10 4 < 54 ∨ fld xs 14 4 < 40 ∨ ¬ (1 ≤ fld xs 18 4 ∧ fld xs 18 4 ≤ 32768) ∨ ¬ (1 ≤ hB xs ∧ hB xs ≤ 32768) ∨ fld xs 26 2 ≠ 1 ∨ (fld xs 28 2 ≠ 24 ∧ fld xs 28 2 ≠ 8) ∨ fld xs 30 4 ≠ 0)
def pcB (xs : List Int) : Pc := ⟨fld xs 18 4, hB xs, fld xs 28 2 / 8, (fld xs 18 4 * (fld xs 28 2 / 8) + 3) / 4 * 4, fld xs 10 4⟩
def hdB (xs : List Int) : Bool := decide (54 ≤ xs.length ∧ rd xs 0 = 66 ∧ rd xs 1 = 77)
def bmpP (xs : List Int) : Pc × Bool := if hdB xs = true then (if badB xs = true then no else rightP (pcB xs) xs.length) else no
theorem fld_rng {xs : List Int} (hx : inR .u8 xs) (at' n : Nat) (hn : n ≤ 4) : 0 ≤ fld xs at' n ∧ fld xs at' n < 4294967296 := by
  have h := leN_bd ((hx.drop at').take n)
  have hp : ((2 ^ (8 * ((xs.drop at').take n).length) : Nat) : Int) ≤ ((4294967296 : Nat) : Int) :=
    Int.ofNat_le.2 (Nat.le_trans (Nat.pow_le_pow_right (by decide) (show 8 * ((xs.drop at').take n).length ≤ 32 by rw [List.length_take]; omega)) (by decide))
  exact ⟨h.1, Int.lt_of_lt_of_le h.2 hp⟩
theorem rawR_in {ys : List Int} {a n : Nat} (h : a + n ≤ ys.length) : rawR ys a 0 n = ((ys.drop a).take n, a + n, 0) := by
  unfold rawR
  by_cases h0 : n = 0
  · subst h0; simp
  · rw [if_neg (by omega), if_neg (by omega), Int.toNat_natCast]
section
variable {w0 w : World} {F : List It} {b : Value} {xs : List Int}
theorem little_any {p ad : Addr} {y : Value} {a : Nat} {er n : Int} {w : World} (hp : w.cell? (p.add 0) = some (.pointer (some ad))) (h : Rd w ad y xs a er) : Calls P n_picture_parser_little #[.pointer (some p), .int .i64 n] w (fun e w' => e = .returned (.int .i64 (i64 (leN (rawR xs a er (if 8 < n then 8 else n)).1))) ∧ RS w w' ad y xs (rawR xs a er (if 8 < n then 8 else n)).2.1 (rawR xs a er (if 8 < n then 8 else n)).2.2) :=
  of_picture_parser_little (gNil_some (gLoad_p hp (gCall_i (rLittle_any h) fun w1 h1 => ⟨rfl, h1⟩)))
theorem fLit44 {p ad t2 : Addr} {y : Value} {cs : List Value} {K : Int → World → Prop} (a n q : Nat) (hq : 10 + a = q) (hn : n ≤ 4) (hx : inR .u8 xs) (hl : 54 ≤ xs.length) (h : Fr w0 w [sIt p [.pointer (some ad)], sIt ad [y, .int .i64 a, .int .i64 0], oIt .u8 eB y ((xs.drop 10).take 44), sIt t2 cs]) (ha : a + n ≤ 44)
    (hk : ∀ w', Fr w0 w' [sIt p [.pointer (some ad)], sIt ad [y, .int .i64 ((a + n : Nat) : Int), .int .i64 0], oIt .u8 eB y ((xs.drop 10).take 44), sIt t2 cs] → K (fld xs q n) w') : gCall P n_picture_parser_little (shI .i64) #[.pointer (some p), .int .i64 (n : Int)] w K := by
  subst hq
  have hlen : ((xs.drop 10).take 44).length = 44 := by rw [List.length_take, List.length_drop]; omega
  refine gCall_i (little_any (h.cell 0 0 rfl rfl) (h.rd 1 2 rfl rfl (by decide) (by rw [hlen]; omega) (by rw [hlen]; omega))) fun w' h' => ?_
  rw [if_neg (show ¬ (8 : Int) < (n : Int) by omega), rawR_in (by rw [hlen]; omega)] at h' ⊢
  have e : (((xs.drop 10).take 44).drop a).take n = (xs.drop (10 + a)).take n := by
    rw [List.drop_take, List.take_take, List.drop_drop, Nat.min_eq_left (by omega)]
  have r := fld_rng hx (10 + a) n hn
  dsimp only
  rw [e, show leN ((xs.drop (10 + a)).take n) = fld xs (10 + a) n from rfl, i64_id (by omega) (by omega)]
  exact hk w' (h.rs 1 rfl h')
theorem side_any {n : Int} {w : World} : Calls P n_picture_side #[.int .i64 n] w (fun e w' => e = .returned (.bool (decide (1 ≤ n ∧ n ≤ 32768))) ∧ w' = w) := by
  refine of_picture_side (gIf_dec (fun h => ⟨?_, rfl⟩) (fun h => ⟨?_, rfl⟩))
  · congr 2; exact decide_eq_decide.2 ⟨fun h2 => ⟨h, h2⟩, fun h2 => h2.2⟩
  · rw [decide_eq_false (fun h2 => h h2.1)]
theorem take2 (h : 2 ≤ xs.length) {c d : Int} : xs.take 2 = [c, d] ↔ rd xs 0 = c ∧ rd xs 1 = d := by
  match xs, h with
  | a :: a2 :: r, _ => simp [rd]
theorem i32_rg (n : Int) : -2147483648 ≤ i32 n ∧ i32 n ≤ 2147483647 := by rw [i32_def]; omega
theorem Bmp_any (hb : Nm .u8 w b xs) (hl : xs.length ≤ 1000000000) : Calls P n_picture_Bmp #[b] w (PicE w (bmpP xs)) := by
  have bad : ∀ {w1 : World} {F : List It} {ad : Addr} {cs : List Value}, Fr w w1 F → ∀ (i : Nat), F[i]? = some (sIt ad cs) → cs.length = 5 → bmpP xs = no →
      gStore P t_api_Picture (.pointer (some ad)) (.agg #[.int .i64 0, .int .i64 0, .int .i64 0, .int .i64 0, .int .i64 0]) w1 fun ww => gLoad P t_api_Picture (.part (.agg [.int .i64, .int .i64, .int .i64, .int .i64, .int .i64])) (.pointer (some ad)) ww fun (r0_0 : Int) (r0_1 : Int) (r0_2 : Int) (r0_3 : Int) (r0_4 : Int) => PicE w (bmpP xs) (.returned (.tuple #[.agg #[.int .i64 r0_0, .int .i64 r0_1, .int .i64 r0_2, .int .i64 r0_3, .int .i64 r0_4], .bool false])) ww :=
    fun f i hi hc hno => fPicEnd (r := no) f i hi hc (by rw [hno])
  have nohd : ¬ (54 ≤ xs.length ∧ rd xs 0 = 66 ∧ rd xs 1 = 77) → bmpP xs = no := fun h => by unfold bmpP hdB; rw [decide_eq_false h, if_neg (by simp)]
  refine of_picture_Bmp (fPicNew (Fr.start w) fun t2 w1 f1 => ⟨fun w' => (54 ≤ xs.length ∧ rd xs 0 = 66 ∧ rd xs 1 = 77) ∧ Fr w w' [sIt t2 Pc.z.c], gLen_nm hb (gIf_ndec (fun h54 => ?_) (fun h54 => bad f1 0 rfl rfl (nohd (by omega)))), ?_⟩)
  · refine gSlice_nm (hb.ev f1.old) 0 2 (.inl ⟨rfl, rfl⟩) (.inr ⟨_, rfl⟩) (by omega) (by omega) fun hs => gConv_bs hs ?_
    have e2 : (ByteArray.mk #[66, 77]) = bsOf [66, 77] := by decide
    have hr2 : inR .u8 [66, 77] := fun x hx => by simp at hx; rcases hx with rfl | rfl <;> decide
    rw [e2, bsOf_eq hs.2 hr2]
    simp only [List.drop_zero, Nat.sub_zero]
    refine gIf_ndec (fun hne => bad f1 0 rfl rfl (nohd fun h => hne ((take2 (by omega)).2 h.2))) (fun he => ⟨?_, f1⟩)
    have := (take2 (by omega)).1 he
    omega
  rintro _ w5 ⟨hd, f5⟩
  have h54 := hd.1
  have hdt : hdB xs = true := decide_eq_true hd
  have hx := hb.2
  refine gSlice_nm (hb.ev f5.old) 10 54 (.inr ⟨_, rfl⟩) (.inr ⟨_, rfl⟩) (by omega) (by omega) fun hs => ?_
  have hlen : ((xs.drop 10).take 44).length = 44 := by rw [List.length_take, List.length_drop]; omega
  refine fNew f5 hs (by rw [hlen]; omega) fun ad y w6 f6 => fBox f6 fun p w7 f7 => ?_
  refine fLit44 0 4 10 rfl (by omega) hx h54 f7 (by omega) fun w8 f8 => fLit44 4 4 14 rfl (by omega) hx h54 f8 (by omega) fun w9 f9 => fLit44 8 4 18 rfl (by omega) hx h54 f9 (by omega) fun w10 f10 => fLit44 12 4 22 rfl (by omega) hx h54 f10 (by omega) fun w11 f11 => fLit44 16 2 26 rfl (by omega) hx h54 f11 (by omega) fun w12 f12 => fLit44 18 2 28 rfl (by omega) hx h54 f12 (by omega) fun w13 f13 => fLit44 20 4 30 rfl (by omega) hx h54 f13 (by omega) fun w14 f14 => ?_
  have f14 := ((f14.drop 0).drop 0).drop 0
  have r10 := fld_rng hx 10 4 (by omega)
  have r14 := fld_rng hx 14 4 (by omega)
  have r18 := fld_rng hx 18 4 (by omega)
  have r28 := fld_rng hx 28 2 (by omega)
  have r22 := i32_rg (fld xs 22 4)
  have hyes : badB xs = true → bmpP xs = no := fun h => by unfold bmpP; rw [hdt, if_pos rfl, if_pos h]
  show ∃ J1 : Int → World → Prop, _
  refine ⟨fun h w' => h = hB xs ∧ w14 = w', ?_, ?_⟩
  · show gIf (decide (i64 (i32 (fld xs 22 4)) < 0)) _ _
    rw [i64_id (n := i32 (fld xs 22 4)) (by omega) (by omega)]
    refine gIf_dec (fun h => ⟨?_, rfl⟩) (fun h => ⟨?_, rfl⟩)
    · unfold hB; rw [if_pos h, i64_id (by omega) (by omega)]; omega
    · unfold hB; rw [if_neg h]
  rintro _ _ _ ⟨rfl, rfl⟩
  refine ⟨fun w' => badB xs = false ∧ w14 = w', ⟨fun t w' => t = badB xs ∧ w14 = w', ?_, ?_⟩, ?_⟩
  · have tr : ∀ {c : Prop}, c → (c → (fld xs 10 4 < 54 ∨ fld xs 14 4 < 40 ∨ ¬ (1 ≤ fld xs 18 4 ∧ fld xs 18 4 ≤ 32768) ∨ ¬ (1 ≤ hB xs ∧ hB xs ≤ 32768) ∨ fld xs 26 2 ≠ 1 ∨ (fld xs 28 2 ≠ 24 ∧ fld xs 28 2 ≠ 8) ∨ fld xs 30 4 ≠ 0)) → true = badB xs ∧ w14 = w14 := fun hc h => ⟨(decide_eq_true (h hc)).symm, rfl⟩
    refine gIf_ndec (fun c1 => gIf_ndec (fun c2 => gCall_b0 side_any (gIf_nndec (fun c3 => gCall_b0 side_any (gIf_nndec (fun c4 => gIf_nneq (fun c5 => ?_) (fun c5 => tr c5 fun h => .inr (.inr (.inr (.inr (.inl h)))))) (fun c4 => tr c4 fun h => .inr (.inr (.inr (.inl h)))))) (fun c3 => tr c3 fun h => .inr (.inr (.inl h))))) (fun c2 => tr c2 fun h => .inr (.inl h))) (fun c1 => tr c1 fun h => .inl h)
    have fin : (fld xs 28 2 = 24 ∨ fld xs 28 2 = 8) → (fld xs 30 4 != 0) = badB xs ∧ w14 = w14 := fun h => by
      refine ⟨?_, rfl⟩
      unfold badB
      by_cases c6 : fld xs 30 4 = 0
      · rw [decide_eq_false (by omega)]; simp [c6]
      · rw [decide_eq_true (by omega)]; simp [c6]
    exact gIf_neq (fun c6 => gIf_nneq (fun c7 => fin (.inr c7)) (fun c7 => tr (And.intro c6 c7) fun h => .inr (.inr (.inr (.inr (.inr (.inl h))))))) (fun c6 => fin (.inl c6))
  · rintro _ _ _ ⟨rfl, rfl⟩
    refine gIf_b (fun h => bad f14 0 rfl rfl (hyes h)) (fun h => ⟨h, rfl⟩)
  rintro _ _ ⟨hok, rfl⟩
  have hc := of_decide_eq_false hok
  have hfin : bmpP xs = rightP (pcB xs) xs.length := by unfold bmpP; rw [hdt, if_pos rfl, if_neg (by rw [hok]; simp)]
  have e41 : i64 (Int.tdiv (fld xs 28 2) 8) = fld xs 28 2 / 8 := by rw [Int.tdiv_eq_ediv_of_nonneg (by omega), i64_id (by omega) (by omega)]
  have hpl : fld xs 28 2 / 8 = 3 ∨ fld xs 28 2 / 8 = 1 := by omega
  have hm : 1 ≤ fld xs 18 4 * (fld xs 28 2 / 8) ∧ fld xs 18 4 * (fld xs 28 2 / 8) ≤ 98304 := by rcases hpl with e | e <;> rw [e] <;> omega
  refine fPicNew f14 fun p12 w21 f21 => ?_
  show gStore P t_api_Picture (.pointer (some p12)) (.agg #[.int .i64 (fld xs 18 4), .int .i64 (hB xs), .int .i64 (i64 (Int.tdiv (fld xs 28 2) 8)), .int .i64 0, .int .i64 (fld xs 10 4)]) _ _
  rw [e41]
  refine fPicSet f21 0 rfl rfl fun w22 f22 => fLoad_i f22 0 2 rfl rfl ?_
  show gStore P t_int (.pointer (some (Addr.add p12 3))) (.int .i64 (i64 (i64 (Int.tdiv (i64 (i64 (fld xs 18 4 * (fld xs 28 2 / 8)) + 3)) 4) * 4))) _ _
  rw [i64_id (n := fld xs 18 4 * (fld xs 28 2 / 8)) (by omega) (by omega), i64_id (n := fld xs 18 4 * (fld xs 28 2 / 8) + 3) (by omega) (by omega), Int.tdiv_eq_ediv_of_nonneg (by omega), i64_id (n := (fld xs 18 4 * (fld xs 28 2 / 8) + 3) / 4) (by omega) (by omega), i64_id (n := (fld xs 18 4 * (fld xs 28 2 / 8) + 3) / 4 * 4) (by omega) (by omega)]
  refine fStore f22 0 3 rfl fun w23 f23 => fPic (pcB xs) f23 0 rfl (gLen_nm hb ?_)
  have hsh : 0 ≤ (pcB xs).st * (pcB xs).ht ∧ (pcB xs).st * (pcB xs).ht ≤ 100000 * 32768 := ⟨Int.mul_nonneg (by unfold pcB; dsimp only; omega) (by unfold pcB; dsimp only; omega), Int.mul_le_mul (by unfold pcB; dsimp only; omega) (by unfold pcB; dsimp only; omega) (by unfold pcB; dsimp only; omega) (by omega)⟩
  refine gCall_pic (rightPc_any hsh.1 (by omega) (by unfold pcB; dsimp only; omega) (by unfold pcB; dsimp only; omega)) fun w24 h24 => ?_
  exact fPicEnd (f23.ev h24) 1 rfl rfl (by rw [hfin])
end
end Go.Proofs.YtdhhmmllekkofaaV

/- Package valiseref16: Bmp; Parse of both; awake of valiselaw16. -/
namespace Go.Proofs.YtdhhmmllekkofaaV
open Go Go.RowKit
section
variable {b : Value} {xs : List Int} {w : World}
theorem rlittle_any (at' n : Nat) (hb : Nm .u8 w b xs) (hl : xs.length ≤ 1000000000) (h : at' + n ≤ xs.length) (hn : n ≤ 4) : Calls P n_valiseref16_little #[b, .int .i64 (at' : Int), .int .i64 (n : Int)] w (fun e w' => e = .returned (.int .i64 (fld xs at' n)) ∧ Ev w w') := by
  refine of_valiseref16_little ?_
  rw [show i64 ((at' : Int) + (n : Int)) = ((at' + n : Nat) : Int) by rw [i64_id (by omega) (by omega)]; omega]
  refine gSlice_nm hb at' (at' + n) (.inr ⟨_, rfl⟩) (.inr ⟨_, rfl⟩) (by omega) h fun hs => ?_
  rw [Nat.add_sub_cancel_left] at hs
  have hlen : ((xs.drop at').take n).length = n := by rw [List.length_take, List.length_drop]; omega
  refine frNew (Fr.start w) hs (by omega) fun ad y w1 f1 => gCall_i (rrLittle_any (f1.rd (a := 0) (er := 0) 0 1 rfl rfl (by decide) (by omega) (by omega))) fun w2 h2 => ?_
  have hr : rawR ((xs.drop at').take n) 0 0 (if 8 < (n : Int) then 8 else n) = ((xs.drop at').take n, n, 0) := by
    rw [if_neg (show ¬ (8 : Int) < (n : Int) by omega), rawR_in (by omega), List.drop_zero, List.take_take, Nat.min_self, Nat.zero_add]
  rw [hr] at h2 ⊢
  have r := fld_rng hb.2 at' n hn
  dsimp only
  rw [show leN ((xs.drop at').take n) = fld xs at' n from rfl, i64_id (by omega) (by omega)]
  exact ⟨rfl, (f1.rs 0 rfl h2).old⟩
def badR (xs : List Int) : Bool := decide (fld xs 10 4 < 54 ∨ fld xs 14 4 < 40 ∨ fld xs 26 2 ≠ 1 ∨ (fld xs 28 2 ≠ 24 ∧ fld xs 28 2 ≠ 8) ∨ fld xs 30 4 ≠ 0)
theorem rBmp_any (hb : Nm .u8 w b xs) (hl : xs.length ≤ 1000000000) : Calls P n_valiseref16_Bmp #[b] w (PicE w (bmpP xs)) := by
  have bad : ∀ {w1 : World} {F : List It} {ad : Addr} {cs : List Value}, Fr w w1 F → ∀ (i : Nat), F[i]? = some (sIt ad cs) → cs.length = 5 → bmpP xs = no →
      gStore P t_api_Picture (.pointer (some ad)) (.agg #[.int .i64 0, .int .i64 0, .int .i64 0, .int .i64 0, .int .i64 0]) w1 fun ww => gLoad P t_api_Picture (.part (.agg [.int .i64, .int .i64, .int .i64, .int .i64, .int .i64])) (.pointer (some ad)) ww fun (r0_0 : Int) (r0_1 : Int) (r0_2 : Int) (r0_3 : Int) (r0_4 : Int) => PicE w (bmpP xs) (.returned (.tuple #[.agg #[.int .i64 r0_0, .int .i64 r0_1, .int .i64 r0_2, .int .i64 r0_3, .int .i64 r0_4], .bool false])) ww :=
    fun f i hi hc hno => fPicEnd (r := no) f i hi hc (by rw [hno])
  have nohd : ¬ (54 ≤ xs.length ∧ rd xs 0 = 66 ∧ rd xs 1 = 77) → bmpP xs = no := fun h => by unfold bmpP hdB; rw [decide_eq_false h, if_neg (by simp)]
  refine of_valiseref16_Bmp (fPicNew (Fr.start w) fun t2 w1 f1 => ⟨fun w' => (54 ≤ xs.length ∧ rd xs 0 = 66 ∧ rd xs 1 = 77) ∧ Fr w w' [sIt t2 Pc.z.c], gLen_nm hb (gIf_ndec (fun h54 => gIdx_nm (hb.ev f1.old) (by omega) (by omega) fun a1 c1 _ => gLoad_i c1 (gIf_nneq (fun e66 => gIdx_nm (hb.ev f1.old) (by omega) (by omega) fun a2 c2 _ => gLoad_i c2 (gIf_neq (fun n77 => bad f1 0 rfl rfl (nohd (by omega))) (fun e77 => ⟨⟨by omega, e66, e77⟩, f1⟩))) (fun n66 => bad f1 0 rfl rfl (nohd (by omega))))) (fun h54 => bad f1 0 rfl rfl (nohd (by omega)))), ?_⟩)
  rintro _ w5 ⟨hd, f5⟩
  have h54 := hd.1
  have hdt : hdB xs = true := decide_eq_true hd
  have hx := hb.2
  have r10 := fld_rng hx 10 4 (by omega)
  have r14 := fld_rng hx 14 4 (by omega)
  have r18 := fld_rng hx 18 4 (by omega)
  have r22' := fld_rng hx 22 4 (by omega)
  have r28 := fld_rng hx 28 2 (by omega)
  have r22 := i32_rg (fld xs 22 4)
  refine gCall_i (rlittle_any 10 4 (hb.ev f5.old) hl (by omega) (by omega)) fun w6 h6 => ?_
  have f6 := f5.ev h6
  refine gCall_i (rlittle_any 18 4 (hb.ev f6.old) hl (by omega) (by omega)) fun w7 h7 => ?_
  have f7 := f6.ev h7
  refine gCall_i (rlittle_any 22 4 (hb.ev f7.old) hl (by omega) (by omega)) fun w8 h8 => ?_
  have f8 := f7.ev h8
  have eh : (if i64 (0 - i64 (i32 (u32 (fld xs 22 4)))) > i64 (i32 (u32 (fld xs 22 4))) then i64 (0 - i64 (i32 (u32 (fld xs 22 4)))) else i64 (i32 (u32 (fld xs 22 4)))) = hB xs := by
    rw [show u32 (fld xs 22 4) = fld xs 22 4 by rw [u32_def]; omega, i64_id (n := i32 (fld xs 22 4)) (by omega) (by omega), i64_id (n := 0 - i32 (fld xs 22 4)) (by omega) (by omega)]
    unfold hB
    split <;> split <;> omega
  refine fPicNew f8 fun p4 w9 f9 => fPicSet f9 0 rfl rfl fun w10 f10 => fLoad_i f10 0 1 rfl rfl (fLoad_i f10 0 1 rfl rfl ?_)
  rw [eh]
  refine fStore f10 0 1 rfl fun w11 f11 => ?_
  refine gCall_i (rlittle_any 28 2 (hb.ev f11.old) hl (by omega) (by omega)) fun w12 h12 => ?_
  have f12 := f11.ev h12
  have hpl : ∃ pl : Int, pl = if fld xs 28 2 = 8 then 1 else 3 := ⟨_, rfl⟩
  obtain ⟨pl, hpl⟩ := hpl
  refine ⟨fun w' => Fr w w' [sIt p4 (Pc.mk (fld xs 18 4) (hB xs) pl 0 (fld xs 10 4)).c, sIt t2 Pc.z.c], gIf_eq (fun e8 => fStore f12 0 2 rfl fun w13 f13 => ?_) (fun n8 => ?_), ?_⟩
  · rw [if_pos e8] at hpl; subst hpl; exact f13
  · rw [if_neg n8] at hpl; subst hpl; exact f12
  rintro _ w14 f14
  refine ⟨fun w' => badR xs = false ∧ Fr w w' [sIt p4 (Pc.mk (fld xs 18 4) (hB xs) pl 0 (fld xs 10 4)).c, sIt t2 Pc.z.c], ⟨fun t w' => t = badR xs ∧ Fr w w' [sIt p4 (Pc.mk (fld xs 18 4) (hB xs) pl 0 (fld xs 10 4)).c, sIt t2 Pc.z.c], ?_, ?_⟩, ?_⟩
  · have tr : ∀ {c : Prop} {w' : World}, Fr w w' [sIt p4 (Pc.mk (fld xs 18 4) (hB xs) pl 0 (fld xs 10 4)).c, sIt t2 Pc.z.c] → c → (c → (fld xs 10 4 < 54 ∨ fld xs 14 4 < 40 ∨ fld xs 26 2 ≠ 1 ∨ (fld xs 28 2 ≠ 24 ∧ fld xs 28 2 ≠ 8) ∨ fld xs 30 4 ≠ 0)) → true = badR xs ∧ Fr w w' [sIt p4 (Pc.mk (fld xs 18 4) (hB xs) pl 0 (fld xs 10 4)).c, sIt t2 Pc.z.c] := fun f hc h => ⟨(decide_eq_true (h hc)).symm, f⟩
    refine fLoad_i (n := fld xs 10 4) f14 0 4 rfl rfl (gIf_ndec (fun c1 => gCall_i (rlittle_any 14 4 (hb.ev f14.old) hl (by omega) (by omega)) fun w15 h15 => gIf_ndec (fun c2 => ?_) (fun c2 => tr (f14.ev h15) c2 fun h => .inr (.inl h))) (fun c1 => tr f14 c1 fun h => .inl h))
    have f15 := f14.ev h15
    refine gCall_i (rlittle_any 26 2 (hb.ev f15.old) hl (by omega) (by omega)) fun w16 h16 => gIf_nneq (fun c5 => ?_) (fun c5 => tr (f15.ev h16) c5 fun h => .inr (.inr (.inl h)))
    have f16 := f15.ev h16
    have fin : (fld xs 28 2 = 24 ∨ fld xs 28 2 = 8) → ∀ w', Ev w16 w' → (fld xs 30 4 != 0) = badR xs ∧ Fr w w' [sIt p4 (Pc.mk (fld xs 18 4) (hB xs) pl 0 (fld xs 10 4)).c, sIt t2 Pc.z.c] := fun h w' he => by
      refine ⟨?_, f16.ev he⟩
      unfold badR
      by_cases c6 : fld xs 30 4 = 0
      · rw [decide_eq_false (by omega)]; simp [c6]
      · rw [decide_eq_true (by omega)]; simp [c6]
    exact gIf_neq (fun c6 => gIf_nneq (fun c7 => gCall_i (rlittle_any 30 4 (hb.ev f16.old) hl (by omega) (by omega)) fun w17 h17 => fin (.inr c7) _ h17) (fun c7 => tr f16 (And.intro c6 c7) fun h => .inr (.inr (.inr (.inl h))))) (fun c6 => gCall_i (rlittle_any 30 4 (hb.ev f16.old) hl (by omega) (by omega)) fun w17 h17 => fin (.inl c6) _ h17)
  · rintro _ _ w19 ⟨rfl, f19⟩
    refine gIf_b (fun h => bad f19 1 rfl rfl ?_) (fun h => ⟨h, f19⟩)
    have hc := of_decide_eq_true h
    unfold bmpP; rw [hdt, if_pos rfl, if_pos (by unfold badB; rw [decide_eq_true]; omega)]
  rintro _ w21 ⟨hok, f21⟩
  have hc := of_decide_eq_false hok
  have hpd : pl = fld xs 28 2 / 8 := by rw [hpl]; split <;> omega
  have hm : 0 ≤ fld xs 18 4 * (fld xs 28 2 / 8) ∧ fld xs 18 4 * (fld xs 28 2 / 8) ≤ 13000000000 := by
    have : fld xs 28 2 / 8 = 3 ∨ fld xs 28 2 / 8 = 1 := by omega
    rcases this with e | e <;> rw [e] <;> omega
  subst hpd
  refine fLoad_i f21 0 0 rfl rfl (fLoad_i f21 0 2 rfl rfl ?_)
  show gStore P t_int (.pointer (some (Addr.add p4 3))) (.int .i64 (i64 (i64 (Int.tdiv (i64 (i64 (fld xs 18 4 * (fld xs 28 2 / 8)) + 3)) 4) * 4))) _ _
  rw [i64_id (n := fld xs 18 4 * (fld xs 28 2 / 8)) (by omega) (by omega), i64_id (n := fld xs 18 4 * (fld xs 28 2 / 8) + 3) (by omega) (by omega), Int.tdiv_eq_ediv_of_nonneg (by omega), i64_id (n := (fld xs 18 4 * (fld xs 28 2 / 8) + 3) / 4) (by omega) (by omega), i64_id (n := (fld xs 18 4 * (fld xs 28 2 / 8) + 3) / 4 * 4) (by omega) (by omega)]
  refine fStore f21 0 3 rfl fun w22 f22 => fPic (pcB xs) f22 0 rfl (gLen_nm hb (gCall_b (rfits_any (by unfold pcB; dsimp only; omega) (by unfold pcB; dsimp only; omega) (by omega)) fun w23 h23 => ?_))
  have f23 := f22.ev h23
  change gIf (!(fitsP (pcB xs) xs.length)) _ _
  have hbm : bmpP xs = if fitsP (pcB xs) xs.length then (pcB xs, true) else no := by
    unfold bmpP
    rw [hdt, if_pos rfl]
    by_cases hs : (1 ≤ fld xs 18 4 ∧ fld xs 18 4 ≤ 32768) ∧ (1 ≤ hB xs ∧ hB xs ≤ 32768)
    · rw [if_neg (by unfold badB; rw [decide_eq_false (by omega)]; simp)]
      exact (fits_right hs.1 hs.2 (by unfold pcB; dsimp only; omega)).symm
    · rw [if_pos (by unfold badB; rw [decide_eq_true (by omega)]), if_neg]
      unfold fitsP pcB
      rw [decide_eq_false (by dsimp only; omega)]; simp
  refine gIf_nb (fun hf => bad f23 1 rfl rfl (by rw [hbm, hf]; rfl)) (fun hf => fPic (pcB xs) f23 0 rfl (fPicEnd (r := (pcB xs, true)) f23 1 rfl rfl (by rw [hbm, hf]; rfl)))
def parseP (xs : List Int) : Pc × Bool := if (bmpP xs).2 = true then ((bmpP xs).1, true) else pnmP xs
theorem Parse_any (hb : Nm .u8 w b xs) (hl : xs.length ≤ 1000000000) : Calls P n_picture_Parse #[b] w (PicE w (parseP xs)) := by
  refine of_picture_Parse (fPicNew (Fr.start w) fun t2 w1 f1 => gCall_pic (Bmp_any (hb.ev f1.old) hl) fun w2 h2 => fPicNew (f1.ev h2) fun p4 w3 f3 => fPicSet f3 0 rfl rfl fun w4 f4 => gIf_b (fun h => fPic (bmpP xs).1 f4 0 rfl (fPicEnd (r := ((bmpP xs).1, true)) f4 1 rfl rfl ?_)) (fun h => gCall_pic (Pnm_any (hb.ev f4.old) hl) fun w6 h6 => fPicEnd (f4.ev h6) 1 rfl rfl ?_))
  · unfold parseP; rw [if_pos h]
  · unfold parseP; rw [if_neg (by rw [h]; simp)]
theorem rParse_any (hb : Nm .u8 w b xs) (hl : xs.length ≤ 1000000000) : Calls P n_valiseref16_Parse #[b] w (PicE w (parseP xs)) := by
  refine of_valiseref16_Parse (fPicNew (Fr.start w) fun t2 w1 f1 => gCall_pic (rBmp_any (hb.ev f1.old) hl) fun w2 h2 => fPicNew (f1.ev h2) fun p4 w3 f3 => fPicSet f3 0 rfl rfl fun w4 f4 => gIf_b (fun h => fPic (bmpP xs).1 f4 0 rfl (fPicEnd (r := ((bmpP xs).1, true)) f4 1 rfl rfl ?_)) (fun h => gCall_pic (rPnm_any (hb.ev f4.old) hl) fun w6 h6 => fPicEnd (f4.ev h6) 1 rfl rfl ?_))
  · unfold parseP; rw [if_pos h]
  · unfold parseP; rw [if_neg (by rw [h]; simp), pnm_eq]
/-- Two pictures, held against each other. -/
theorem gEq_pic {K : Bool → Prop} (p q : Pc) (hk : K (decide (p = q))) : gEq P .eql t_api_Picture (.agg #[.int .i64 p.wd, .int .i64 p.ht, .int .i64 p.pl, .int .i64 p.st, .int .i64 p.fr]) (.agg #[.int .i64 q.wd, .int .i64 q.ht, .int .i64 q.pl, .int .i64 q.st, .int .i64 q.fr]) K := by
  refine gEq_ints [p.wd, p.ht, p.pl, p.st, p.fr] [q.wd, q.ht, q.pl, q.st, q.fr] rfl rfl rfl ?_ (by kernel_rfl)
  rwa [decide_eq_decide.2 (show ([p.wd, p.ht, p.pl, p.st, p.fr] = [q.wd, q.ht, q.pl, q.st, q.fr]) ↔ p = q by obtain ⟨a, b, c, d, e⟩ := p; obtain ⟨a2, b2, c2, d2, e2⟩ := q; simp)]
end
end Go.Proofs.YtdhhmmllekkofaaV

/- Package valisehelp: Own, Kept, Plain, Same of @T@. -/
namespace Go.Proofs.YtdhhmmllekkofaaV
open Go Go.RowKit
theorem Own_byte_on {l : Value} {xs : List Int} {f : Int} {w : World} (h : Nm .u8 w l xs) (hl : xs.length ≤ 1000000000) (hf : IntKind.u8.min ≤ f ∧ f ≤ IntKind.u8.max) :
    Calls P n_valisehelp_Own_byte #[l, .int .u8 f] w (fun e w' => ∃ v, e = .returned v ∧ Ev w w' ∧ Owd .u8 w' v xs f ∧ ON .u8 (elOf P t_sl_uint8) w' w.heap.size v xs) := by
  refine of_valisehelp_Own_byte (gLen_nm h ?_)
  rw [show i64 ((xs.length : Int) + 3) = ((xs.length + 3 : Nat) : Int) from i64_id (by omega) (by omega)]
  refine gMake_cap (k := .u8) (by omega) fun w1 h1 hs1 hF => ?_
  generalize hg : w.heap.size = g at *
  have hz : (List.replicate (xs.length + 3) (0 : Int)).length = xs.length + 3 := by simp
  refine gApp_room (n := 0) hF hz (h.ev h1) (by omega) fun w2 h2 hs2 hF2 => gLen_nm h ?_
  rw [show i64 ((xs.length : Int) + 3) = ((xs.length + 3 : Nat) : Int) from i64_id (by omega) (by omega), Nat.zero_add]
  rw [Nat.zero_add] at hF2
  have e0 : List.replicate (xs.length + 3) (0 : Int) = List.replicate xs.length 0 ++ [0, 0, 0] := List.replicate_append_replicate.symm
  have eF : List.take 0 (List.replicate (xs.length + 3) (0 : Int)) ++ xs ++ List.drop xs.length (List.replicate (xs.length + 3) 0) = xs ++ [0, 0, 0] := by
    rw [e0, List.drop_append_of_le_length (by simp), List.drop_of_length_le (by simp)]; simp
  rw [eF] at hF2
  refine gSlice_any (sz := 1) (l := 0) (h := xs.length + 3) (.inl ⟨rfl, rfl⟩) (.inr ⟨_, rfl⟩) (by omega) (by omega) ?_ (by kernel_rfl)
  rw [subV_z (by omega)]
  have hO := hF2.on (xs.length + 3) (by simp)
  rw [List.take_of_length_le (by simp)] at hO
  have e2 : (xs ++ [(0 : Int), 0, 0]).length = xs.length + 3 := by simp
  rw [e2] at hO
  have hev : Ev w w2 := h1.new h2 fun n i hh => by rw [hh]; omega
  refine gLen_nm h ⟨fun i w3 => ∃ j : Nat, i = ((xs.length + j : Nat) : Int) ∧ j ≤ 3 ∧ Ev w w3 ∧ ON .u8 (elOf P t_sl_uint8) w3 g (.slice (some ⟨g, 0, none⟩) (xs.length + 3) (xs.length + 3)) (xs ++ (List.replicate j f ++ List.replicate (3 - j) 0)), fun i _ => xs.length + 3 - i.toNat, ⟨0, by omega, by omega, hev, hO⟩, ?_⟩
  rintro _ i w3 ⟨j, rfl, hj, h3, hO3⟩
  have hln : (xs ++ (List.replicate j f ++ List.replicate (3 - j) (0 : Int))).length = xs.length + 3 := by simp; omega
  refine gLen_nm hO3.nm (gIf_dec (fun hlt => ?_) (fun hge => ?_))
  · rw [hln] at hlt
    refine gIdx_on hO3 (by omega) (by rw [hln]; omega) fun ad hs _ => gStore_on hO3 hs (by omega) (by rw [hln]; omega) hf fun w4 h4 _ hO4 => ?_
    rw [show i64 (((xs.length + j : Nat) : Int) + 1) = ((xs.length + (j + 1) : Nat) : Int) by rw [i64_id (by omega) (by omega)]; omega]
    refine ⟨⟨j + 1, rfl, by omega, h3.new h4 fun n i hh => ?_, ?_⟩, by dsimp only; omega⟩
    · have : n = g := by simpa [Value.ownBlock] using hh.symm
      omega
    · have e3 : (xs ++ (List.replicate j f ++ List.replicate (3 - j) (0 : Int))).set (xs.length + j) f = xs ++ (List.replicate (j + 1) f ++ List.replicate (3 - (j + 1)) 0) := by
        rw [List.set_append_right _ _ (by omega), show xs.length + j - xs.length = j by omega, List.set_append_right _ _ (by simp), List.length_replicate, Nat.sub_self, show 3 - j = (3 - (j + 1)) + 1 by omega, List.replicate_succ, List.set_cons_zero, List.replicate_succ']
        simp
      rw [Int.toNat_natCast, e3] at hO4
      exact hO4
  · rw [hln] at hge
    obtain rfl : j = 3 := by omega
    refine ⟨_, rfl, h3, ⟨some ⟨g, 0, none⟩, xs.length + 3, rfl, Nat.le_refl _, hO3.nm⟩, ?_⟩
    have := hO3.pre xs.length (by omega)
    rw [List.take_left] at this
    exact this
theorem Own_byte_any {l : Value} {xs : List Int} {f : Int} {w : World} (h : Nm .u8 w l xs) (hl : xs.length ≤ 1000000000) (hf : IntKind.u8.min ≤ f ∧ f ≤ IntKind.u8.max) :
    Calls P n_valisehelp_Own_byte #[l, .int .u8 f] w (fun e w' => ∃ v, e = .returned v ∧ Ev w w' ∧ Owd .u8 w' v xs f) :=
  (Own_byte_on h hl hf).mono fun _ _ ⟨v, h1, h2, h3, _⟩ => ⟨v, h1, h2, h3⟩
theorem Same_byte_any {a b : Value} {xs ys : List Int} {w : World} (ha : Nm .u8 w a xs) (hb : Nm .u8 w b ys) (hl : xs.length ≤ 1000000000) :
    Calls P n_valisehelp_Same_byte #[a, b, .func (.func n_valisehelp_Plain_byte_1) #[] #[]] w (fun e w' => e = .returned (.bool (decide (xs = ys))) ∧ Ev w w') := by
  refine of_valisehelp_Same_byte (gLen_nm ha (gLen_nm hb (gIf_neq (fun hne => ⟨by rw [decide_eq_false fun h => hne (by rw [h])], Ch.refl _ w⟩) (fun heq => ?_))))
  have hle : xs.length = ys.length := by omega
  refine ⟨fun i w' => ∃ j : Nat, i = j ∧ j ≤ xs.length ∧ (∀ q, q < j → rd xs q = rd ys q) ∧ Ev w w', fun i _ => xs.length - i.toNat, ⟨0, rfl, by omega, by omega, Ch.refl _ w⟩, ?_⟩
  rintro _ i w1 ⟨j, rfl, hj, hq, h1⟩
  refine gLen_nm ha (gIf_dec (fun hlt => ?_) (fun hge => ⟨?_, h1⟩))
  · refine ⟨fun w' => w' = w1.drew, rfl, gIdx_nm (ha.ev h1) (by omega) (by omega) fun a1 c1 _ => gLoadB_i (at1 c1) (gIdx_nm (hb.ev h1) (by omega) (by omega) fun a2 c2 _ => gLoadB_i (at1 c2) (gCallV_of rfl (by kernel_rfl) (of_valisehelp_Plain_byte_1 (R := fun e w' => e = .returned (.bool (rd xs j == rd ys j)) ∧ w' = w1.drew) ⟨rfl, rfl⟩) ?_))⟩
    rintro _ _ ⟨rfl, rfl⟩
    refine ⟨_, rfl, rfl, ?_⟩
    refine gIf_neqq (fun hne => ⟨?_, h1.drew⟩) (fun he => ?_)
    · rw [decide_eq_false fun h => hne (by rw [h])]
    · rw [i64_id (n := (j : Int) + 1) (by omega) (by omega)]
      refine ⟨⟨j + 1, by omega, by omega, fun q hq' => ?_, h1.drew⟩, by dsimp only; omega⟩
      rcases Nat.lt_or_ge q j with h | h
      · exact hq q h
      · have : q = j := by omega
        subst this; exact he
  · rw [decide_eq_true]
    refine List.ext_getElem hle fun q h1 h2 => ?_
    rw [← rd_nat xs q h1, ← rd_nat ys q h2]; exact hq q (by omega)
theorem Plain_byte_any {a b : Value} {xs ys : List Int} {w : World} (ha : Nm .u8 w a xs) (hb : Nm .u8 w b ys) (hl : xs.length ≤ 1000000000) :
    Calls P n_valisehelp_Plain_byte #[a, b] w (fun e w' => e = .returned (.bool (decide (xs = ys))) ∧ Ev w w') :=
  of_valisehelp_Plain_byte (gCall_of (Same_byte_any ha hb hl) fun _ _ ⟨h1, h2⟩ => ⟨_, h1, rfl, h2⟩)
theorem Kept_byte_any {o l : Value} {xs : List Int} {f : Int} {w : World} (ho : Owd .u8 w o xs f) (h : Nm .u8 w l xs) (hl : xs.length ≤ 1000000000) :
    Calls P n_valisehelp_Kept_byte #[o, l, .int .u8 f] w (fun e w' => e = .returned (.bool true) ∧ Ev w w') := by
  have hn := ho.nm
  obtain ⟨a, c, rfl, hc, hN⟩ := ho
  have e3 : i64 ((xs.length : Int) + 3) = ((xs.length + 3 : Nat) : Int) := i64_id (by omega) (by omega)
  refine of_valisehelp_Kept_byte ⟨fun w' => Ev w w', gCall_of (Plain_byte_any hn h hl) ?_, ?_⟩
  · rintro _ w1 ⟨rfl, h1⟩
    refine ⟨_, rfl, ?_⟩
    rw [decide_eq_true rfl]
    refine gIf_nn (gCap_sl (gLen_nm h ?_))
    rw [e3]
    exact gIf_dec (fun hlt => by omega) (fun _ => h1)
  · rintro _ w2 h2
    refine gLen_nm h ?_
    rw [e3]
    refine gSlice_any (sz := 1) (l := 0) (h := xs.length + 3) (.inl ⟨rfl, rfl⟩) (.inr ⟨_, rfl⟩) (by omega) hc ?_ (by kernel_rfl)
    rw [subV_z (by omega)]
    have hN2 := hN.ev h2
    have hln : (xs ++ [f, f, f]).length = xs.length + 3 := by simp
    refine gLen_nm h ⟨fun i w3 => ∃ j : Nat, i = ((xs.length + j : Nat) : Int) ∧ j ≤ 3 ∧ w3 = w2, fun i _ => xs.length + 3 - i.toNat, ⟨0, by omega, by omega, rfl⟩, ?_⟩
    rintro _ i _ ⟨j, rfl, hj, rfl⟩
    refine gLen_nm hN2 (gIf_dec (fun hlt => ?_) (fun hge => ⟨rfl, h2⟩))
    rw [hln] at hlt
    refine gIdx_nm hN2 (by omega) (by rw [hln]; omega) fun ad c1 _ => gLoad_i c1 (gIf_neq (fun hne => (hne ?_).elim) (fun _ => ?_))
    · rw [rd, Int.toNat_natCast, List.getD_eq_getElem?_getD, List.getElem?_append_right (by omega), show xs.length + j - xs.length = j by omega]
      have : j = 0 ∨ j = 1 ∨ j = 2 := by omega
      rcases this with rfl | rfl | rfl <;> rfl
    · rw [show i64 (((xs.length + j : Nat) : Int) + 1) = ((xs.length + (j + 1) : Nat) : Int) by rw [i64_id (by omega) (by omega)]; omega]
      exact ⟨⟨j + 1, rfl, by omega, rfl⟩, by dsimp only; omega⟩
end Go.Proofs.YtdhhmmllekkofaaV

/- The laws PictureParses, PictureWithin. -/
namespace Go.Proofs.YtdhhmmllekkofaaV
open Go Go.RowKit
/-- What is told lies within. -/
def InP (p : Pc) (n : Int) : Prop := 1 ≤ p.wd ∧ p.wd ≤ 32768 ∧ 1 ≤ p.ht ∧ p.ht ≤ 32768 ∧ (p.pl = 1 ∨ p.pl = 3) ∧ p.wd * p.pl ≤ p.st ∧ p.st < p.wd * p.pl + 4 ∧ 2 ≤ p.fr ∧ p.fr + p.st * p.ht ≤ n
theorem right_in {p : Pc} {n : Int} (h : (rightP p n).2 = true) : rightP p n = (p, true) ∧ p.fr + p.st * p.ht ≤ n := by
  unfold rightP at h ⊢
  split
  · rename_i hc; rw [if_pos hc] at h; cases h
  · exact ⟨rfl, by omega⟩
theorem right_out {p : Pc} {n : Int} (h : (rightP p n).2 = false) : rightP p n = no := by
  unfold rightP at h ⊢
  split
  · rfl
  · rename_i hc; rw [if_neg hc] at h; cases h
theorem bmp_in {xs : List Int} (hx : inR .u8 xs) : ((bmpP xs).2 = true → InP (bmpP xs).1 xs.length) ∧ ((bmpP xs).2 = false → (bmpP xs).1 = Pc.z) := by
  unfold bmpP
  split
  · split
    · exact ⟨fun h => (by cases h), fun _ => rfl⟩
    · rename_i hd hbad
      refine ⟨fun h => ?_, fun h => by rw [right_out h]; rfl⟩
      obtain ⟨h1, h2⟩ := right_in h
      rw [h1]
      have hc : ¬ _ := fun hh => hbad (decide_eq_true hh)
      have r28 := fld_rng hx 28 2 (by omega)
      unfold InP
      have hpl : fld xs 28 2 / 8 = 3 ∨ fld xs 28 2 / 8 = 1 := by omega
      have hm : 1 ≤ fld xs 18 4 * (fld xs 28 2 / 8) ∧ fld xs 18 4 * (fld xs 28 2 / 8) ≤ 98304 := by rcases hpl with e | e <;> rw [e] <;> omega
      refine ⟨?_, ?_, ?_, ?_, ?_, ?_, ?_, ?_, h2⟩ <;> unfold pcB <;> dsimp only <;> omega
  · exact ⟨fun h => (by cases h), fun _ => rfl⟩
theorem pnm_in {xs : List Int} : ((pnmP xs).2 = true → InP (pnmP xs).1 xs.length) ∧ ((pnmP xs).2 = false → (pnmP xs).1 = Pc.z) := by
  unfold pnmP
  split
  · split
    · rename_i l a ht
      have tb := (toks_iff.1 ht).2
      have b0 : 1 ≤ l.getD 0 0 ∧ l.getD 0 0 ≤ 32768 := tb 0 (by omega)
      have b1 : 1 ≤ l.getD 1 0 ∧ l.getD 1 0 ≤ 32768 := tb 1 (by omega)
      have ha : 2 ≤ a := by
        have mono : ∀ {j : Nat} {l : List Int} {a : Nat}, toks (tkP xs) j = some (l, a) → 1 ≤ a := by
          intro j
          cases j with
          | zero => intro l a h; simp [toks] at h; omega
          | succ j =>
            intro l a h
            simp only [toks, Option.bind_eq_some_iff, Option.map_eq_some_iff, Prod.mk.injEq] at h
            obtain ⟨⟨l1, a1⟩, h1, ⟨v, q⟩, h2', _, rfl⟩ := h
            dsimp only at *
            have h2' : tokP xs (moP j) a1 = some (v, q) := h2'
            unfold tokP at h2'
            split at h2'
            · rename_i hc
              injection h2' with h2'
              have : (numPI xs (blankI xs a1).2 (moP j)).2 ≥ (blankI xs a1).2 := by
                unfold numPI; split
                · dsimp only; omega
                · split <;> dsimp only <;> omega
              rw [h2'] at this; dsimp only at this; omega
            · cases h2'
        -- the third step starts behind the second
        rw [show toks (tkP xs) 3 = (toks (tkP xs) 2).bind fun p => (tkP xs 2 p.2).map fun q => (p.1 ++ [q.1], q.2) from rfl] at ht
        simp only [Option.bind_eq_some_iff, Option.map_eq_some_iff, Prod.mk.injEq] at ht
        obtain ⟨⟨l2, a2⟩, h2, ⟨v, q⟩, h2', _, rfl⟩ := ht
        dsimp only at *
        have := mono h2
        have h2' : tokP xs (moP 2) a2 = some (v, q) := h2'
        unfold tokP at h2'
        split at h2'
        · rename_i hc
          injection h2' with h2'
          have : (numPI xs (blankI xs a2).2 (moP 2)).2 ≥ (blankI xs a2).2 := by
            unfold numPI; split
            · dsimp only; omega
            · split <;> dsimp only <;> omega
          rw [h2'] at this; dsimp only at this; omega
        · cases h2'
      unfold endP
      split
      · refine ⟨fun h => ?_, fun h => by rw [right_out h]; rfl⟩
        obtain ⟨h1, h2⟩ := right_in h
        rw [h1]
        unfold InP
        have hpl := plP_rng xs
        refine ⟨b0.1, b0.2, b1.1, b1.2, hpl, ?_, ?_, ?_, h2⟩ <;> unfold pcP <;> dsimp only <;> omega
      · exact ⟨fun h => (by cases h), fun _ => rfl⟩
    · exact ⟨fun h => (by cases h), fun _ => rfl⟩
  · exact ⟨fun h => (by cases h), fun _ => rfl⟩
theorem parse_in {xs : List Int} (hx : inR .u8 xs) : ((parseP xs).2 = true → InP (parseP xs).1 xs.length) ∧ ((parseP xs).2 = false → (parseP xs).1 = Pc.z) := by
  unfold parseP
  split
  · rename_i h; exact ⟨fun _ => (bmp_in hx).1 h, fun h => (by cases h)⟩
  · exact pnm_in
end Go.Proofs.YtdhhmmllekkofaaV
