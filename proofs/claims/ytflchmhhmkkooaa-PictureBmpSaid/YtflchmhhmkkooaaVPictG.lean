/- Package picture: Pnm. -/
import Derived.Test.YtflchmhhmkkooaaVPictF
namespace Go.Proofs.YtflchmhhmkkooaaV
open Go Go.RowKit
section
variable {b : Value} {xs : List Int} {w : World}
theorem Fr.sg {w0 w : World} {F : List It} {ad : Addr} {a : Nat} (h : Fr w0 w F) (i : Nat) (hi : F[i]? = some (sIt ad [b, .int .i64 a])) (hb : Nm .u8 w0 b xs) (ha : a ≤ xs.length) (hl : xs.length ≤ 1000000000) : SG w ad b xs a :=
  ⟨h.get i hi, hb.ev h.old, fun hx hg => by
    have h1 := (h.ft i hi (k := ad.block) rfl).1
    have h2 := hb.old hx hg
    omega, ha, hl⟩
theorem Fr.gs {w0 w w' : World} {F : List It} {ad : Addr} {a a2 : Nat} (h : Fr w0 w F) (i : Nat) (hi : F[i]? = some (sIt ad [b, .int .i64 a])) (g : GS w w' ad b xs a2) : Fr w0 w' (F.set i (sIt ad [b, .int .i64 a2])) :=
  h.upd i hi g.2 (fun k _ hh => .inl hh.1) g.1.1 fun k hk => .inl hk
theorem numPI_at {a : Nat} {m : Int} (ha : a ≤ xs.length) : (numPI xs a m).2 ≤ xs.length ∧ 0 ≤ (numPI xs a m).1 := by
  have hr := runL_bd (xs := xs) (f := 6) (v := 0) ha
  have hn := runL_nn (xs := xs) (f := 6) (a := a) (v := 0) (by omega)
  unfold numPI
  split
  · exact ⟨by dsimp only; omega, by dsimp only; omega⟩
  · split
    · exact ⟨by dsimp only; omega, by dsimp only; omega⟩
    · exact ⟨by dsimp only; omega, hn⟩
def qP (j : Nat) : Nat := if j < 2 then j else 4
theorem qP_rng (j : Nat) : qP j < 5 := by unfold qP; split <;> omega
/-- The picture's cells, told so far. -/
def pcsP (pl : Int) (l : List Int) : List Value := (Pc.mk (l.getD 0 0) (l.getD 1 0) pl 0 (l.getD 2 0)).c
theorem pcsP_set {l : List Int} {j : Nat} {pl v : Int} (hl : l.length = j) (hj : j < 3) : (pcsP pl l).set (qP j) (.int .i64 v) = pcsP pl (l ++ [v]) := by
  have : j = 0 ∨ j = 1 ∨ j = 2 := by omega
  unfold pcsP
  rcases this with rfl | rfl | rfl
  · obtain rfl : l = [] := List.eq_nil_of_length_eq_zero hl
    rfl
  · obtain ⟨a, rfl⟩ := List.length_eq_one_iff.1 hl
    rfl
  · obtain ⟨a, b, rfl⟩ : ∃ a b, l = [a, b] := by
      match l, hl with
      | [a, b], _ => exact ⟨a, b, rfl⟩
    rfl
/-- What is asked for, three times. -/
def litP (p4 : Addr) : List Value := [.pointer (some (p4.add 0)), .int .i64 32768, .pointer (some (p4.add 1)), .int .i64 32768, .pointer (some (p4.add 4)), .int .i64 255]
theorem litP_at {p4 : Addr} {j : Nat} (hj : j < 3) : (litP p4)[j * 2 + 0]? = some (.pointer (some (p4.add (qP j)))) ∧ (litP p4)[j * 2 + 1]? = some (.int .i64 (moP j)) := by
  have : j = 0 ∨ j = 1 ∨ j = 2 := by omega
  rcases this with rfl | rfl | rfl <;> exact ⟨rfl, rfl⟩
theorem Pnm_any (hb : Nm .u8 w b xs) (hl : xs.length ≤ 1000000000) : Calls P n_picture_Pnm #[b] w (PicE w (pnmP xs)) := by
  have bad : ∀ {w1 : World} {F : List It} {ad : Addr} {cs : List Value}, Fr w w1 F → ∀ (i : Nat), F[i]? = some (sIt ad cs) → cs.length = 5 → pnmP xs = no →
      gStore P t_api_Picture (.pointer (some ad)) (.agg #[.int .i64 0, .int .i64 0, .int .i64 0, .int .i64 0, .int .i64 0]) w1 fun ww => gLoad P t_api_Picture (.part (.agg [.int .i64, .int .i64, .int .i64, .int .i64, .int .i64])) (.pointer (some ad)) ww fun (r0_0 : Int) (r0_1 : Int) (r0_2 : Int) (r0_3 : Int) (r0_4 : Int) => PicE w (pnmP xs) (.returned (.tuple #[.agg #[.int .i64 r0_0, .int .i64 r0_1, .int .i64 r0_2, .int .i64 r0_3, .int .i64 r0_4], .bool false])) ww :=
    fun f i hi hc hno => fPicEnd (r := no) f i hi hc (by rw [hno])
  have nohd : hdP xs = false → pnmP xs = no := fun h => by unfold pnmP; rw [h, if_neg (by simp)]
  refine of_picture_Pnm (fPicNew (Fr.start w) fun t2 w1 f1 => fPicNew f1 fun p4 w2 f2 => fPicSet f2 0 rfl rfl fun w3 f3 => ⟨fun w' => hdP xs = true ∧ Fr w w' [sIt p4 (Pc.mk 0 0 (plP xs) 0 0).c, sIt t2 Pc.z.c], ⟨fun t w' => t = !hdP xs ∧ w3 = w', ?_, ?_⟩, ?_⟩)
  · have hbw := hb.ev f3.old
    have n1 : ∀ {t : Bool}, t = true → ¬ (2 ≤ xs.length ∧ rd xs 0 = 80 ∧ (rd xs 1 = 53 ∨ rd xs 1 = 54)) → t = !hdP xs := fun ht h => by rw [ht, hdP, decide_eq_false h]; rfl
    have n2 : ∀ {t : Bool}, t = false → (2 ≤ xs.length ∧ rd xs 0 = 80 ∧ (rd xs 1 = 53 ∨ rd xs 1 = 54)) → t = !hdP xs := fun ht h => by rw [ht, hdP, decide_eq_true h]; rfl
    refine gLen_nm hb (gIf_ndec (fun h2 => gIdx_nm hbw (by omega) (by omega) fun a1 c1 _ => gLoad_i c1 (gIf_nneq (fun e80 => gIdx_nm hbw (by omega) (by omega) fun a2 c2 _ => gLoad_i c2 (gIf_neq (fun n53 => gIdx_nm hbw (by omega) (by omega) fun a3 c3 _ => gLoad_i c3 ⟨?_, rfl⟩) (fun e53 => ⟨n2 rfl (by omega), rfl⟩))) (fun n80 => ⟨n1 rfl (by omega), rfl⟩))) (fun h2 => ⟨n1 rfl (by omega), rfl⟩))
    by_cases e54 : rd xs 1 = 54
    · exact n2 (by simp [e54]) (by omega)
    · exact n1 (by simp [e54]) (by omega)
  · rintro _ _ _ ⟨rfl, rfl⟩
    have hbw := hb.ev f3.old
    cases hd : hdP xs with
    | false => exact gIf_nf (bad f3 1 rfl rfl (nohd hd))
    | true =>
      obtain ⟨h2, e80, e5⟩ := hdP_t hd
      refine gIf_nt (gIdx_nm hbw (by omega) (by omega) fun a1 c1 _ => gLoad_i c1 (gIf_eq (fun e54 => fStore f3 0 2 rfl fun w8 f8 => ⟨rfl, ?_⟩) (fun n54 => ⟨rfl, ?_⟩)))
      · have : plP xs = 3 := by unfold plP; rw [if_pos e54]
        rw [this]; exact f8
      · have : plP xs = 1 := by unfold plP; rw [if_neg n54]
        rw [this]; exact f3
  rintro _ w7 ⟨hd, f7⟩
  obtain ⟨h2, e80, e5⟩ := hdP_t hd
  have hpl := plP_rng xs
  refine ⟨hb.one, fBox f7 fun t40 w8 f8 => fLit_sz 2 [[.pointer (some (p4.add 0)), .int .i64 32768], [.pointer (some (p4.add 1)), .int .i64 32768], [.pointer (some (p4.add 4)), .int .i64 255]] f8 rfl rfl (by simp) (fun lt w9 f9 => gLen_sl ⟨fun t49 w' => ∃ (j : Nat) (l : List Int) (a : Nat), t49 = j ∧ j ≤ 3 ∧ toks (tkP xs) j = some (l, a) ∧ Fr w w' [sIt lt (litP p4), sIt t40 [b, .int .i64 a], sIt p4 (pcsP (plP xs) l), sIt t2 Pc.z.c], fun i _ => 3 - i.toNat, ⟨0, [], 2, rfl, by omega, rfl, f9⟩, ?_⟩) (hz := by decide +kernel)⟩
  rintro _ i w10 ⟨j, l, a, rfl, hj, ht, f10⟩
  have hbw := hb.ev f10.old
  have hal : a ≤ xs.length := toks_at (fun ha h => (tokP_at ha h).1) h2 ht
  have hll := toks_len ht
  have nott : toks (tkP xs) 3 = none → pnmP xs = no := fun h => by unfold pnmP; rw [hd, if_pos rfl, h]
  refine gIf_dec (fun hlt => ?_) (fun hge => ?_)
  · have hj3 : j < 3 := by omega
    have hlj := litP_at (p4 := p4) hj3
    refine gIdx_lit (sz := 2) j rfl hj3 (gLoad_agg [.pointer (some (p4.add (qP j))), .int .i64 (moP j)] (fun q u hq => ?_) ?_ rfl (by kernel_rfl))
    · rw [Addr.add2']
      match q, hq with
      | 0, hq => injection hq with hq; subst hq; exact f10.cell 0 _ rfl hlj.1
      | 1, hq => injection hq with hq; subst hq; exact f10.cell 0 _ rfl hlj.2
      | q + 2, hq => simp at hq
    show gAlloc _ _ _ _
    refine fAlloc (z := .agg #[.pointer none, .int .i64 0]) f10 (by kernel_rfl) fun x7 w11 f11 => fStoreA f11 0 rfl fun w12 f12 => ?_
    have hk : (blankI xs a).2 ≤ xs.length := (blankL_bd (xs := xs) (f := xs.length + 1 - a) hal).2
    refine gCall_b (blank_any (f12.sg 2 rfl hb hal hl)) fun w13 h13 => ?_
    have f13 := f12.gs 2 rfl h13
    refine gIf_of (fun hbt => ?_) (fun hbt => ?_)
    · refine bad f13 4 rfl rfl (nott (toks_no ht hj3 ?_))
      show tokP xs (moP j) a = none
      unfold tokP
      rw [if_neg]
      rintro ⟨q1, q2, _⟩
      rw [q1, decide_eq_true q2] at hbt; cases hbt
    have hbt2 : (blankI xs a).1 = true ∧ (blankI xs a).2 > a := by simpa using hbt
    have n13 := numPI_at (m := moP j) hk
    refine ⟨fun w' => w'.cell? (x7.add 0) = some (.pointer (some (p4.add (qP j)))) ∧ w'.cell? (x7.add 1) = some (.int .i64 (moP j)), ⟨f13.drew.cell 0 0 rfl rfl, f13.drew.cell 0 1 rfl rfl⟩, gLoadB_p (fun _ h => h.1) (gLoadB_i (fun _ h => h.2) (gCall_i (number_any (f13.drew.sg 2 rfl hb hk hl)) fun w15 h15 => ?_))⟩
    have f15 := f13.drew.gs 2 rfl h15
    refine ⟨⟨f15.cell 0 0 rfl rfl, f15.cell 0 1 rfl rfl⟩, gNil_some (fStore f15 3 (qP j) rfl (hj := by show qP j < 5; exact qP_rng j) fun w16 f16 => ⟨⟨f16.cell 0 0 rfl rfl, f16.cell 0 1 rfl rfl⟩, fLoad_p f16 0 0 rfl rfl (gNil_some ?_)⟩)⟩
    have hset : (pcsP (plP xs) l).set (qP j) (.int .i64 (numPI xs (blankI xs a).2 (moP j)).1) = pcsP (plP xs) (l ++ [(numPI xs (blankI xs a).2 (moP j)).1]) := pcsP_set hll hj3
    have hat : ((pcsP (plP xs) l).set (qP j) (.int .i64 (numPI xs (blankI xs a).2 (moP j)).1))[qP j]? = some (.int .i64 (numPI xs (blankI xs a).2 (moP j)).1) := List.getElem?_set_self (by show qP j < 5; exact qP_rng j)
    refine fLoad_i f16 3 (qP j) rfl hat (gIf_eq (fun e0 => ?_) (fun n0 => ?_))
    · refine bad f16 4 rfl rfl (nott (toks_no ht hj3 ?_))
      show tokP xs (moP j) a = none
      unfold tokP
      rw [if_neg]
      rintro ⟨_, _, q3⟩; exact q3 e0
    · rw [i64_id (n := (j : Int) + 1) (by omega) (by omega)]
      refine ⟨⟨j + 1, _, _, rfl, hj3, toks_yes ht (v := (numPI xs (blankI xs a).2 (moP j)).1) (c := (numPI xs (blankI xs a).2 (moP j)).2) ?_, ?_⟩, by dsimp only; omega⟩
      · show tokP xs (moP j) a = _
        unfold tokP
        rw [if_pos ⟨hbt2.1, hbt2.2, n0⟩]
      · rw [← hset]
        exact f16.drop 0
  · obtain rfl : j = 3 := by omega
    have hends : pnmP xs = endP xs l a := by unfold pnmP; rw [hd, if_pos rfl, ht]
    have tb := (toks_iff.1 ht).2
    have b0 : 1 ≤ l.getD 0 0 ∧ l.getD 0 0 ≤ 32768 := tb 0 (by omega)
    have b1 : 1 ≤ l.getD 1 0 ∧ l.getD 1 0 ≤ 32768 := tb 1 (by omega)
    refine gCall_b (is_any (pf := whiteB) (by kernel_rfl) white_any (f10.sg 1 rfl hb hal hl)) fun w18 h18 => ?_
    have f18 := f10.ev h18
    by_cases hc : a < xs.length ∧ whiteB (rd xs a) = true
    · rw [decide_eq_true hc.1, hc.2]
      have hst : 0 ≤ l.getD 0 0 * plP xs ∧ l.getD 0 0 * plP xs ≤ 98304 := by rcases hpl with e | e <;> rw [e] <;> omega
      have hsh : 0 ≤ l.getD 0 0 * plP xs * l.getD 1 0 ∧ l.getD 0 0 * plP xs * l.getD 1 0 ≤ 98304 * 32768 := ⟨Int.mul_nonneg hst.1 (by omega), Int.mul_le_mul hst.2 b1.2 (by omega) (by omega)⟩
      refine gIf_nt ⟨fun w' => w'.cell? (t40.add 1) = some (.int .i64 (a : Int)) ∧ w'.cell? (p4.add 0) = some (.int .i64 (l.getD 0 0)) ∧ w'.cell? (p4.add 2) = some (.int .i64 (plP xs)), ⟨f18.drew.cell 1 1 rfl rfl, f18.drew.cell 2 0 rfl rfl, f18.drew.cell 2 2 rfl rfl⟩, gNil_some (gLoadB_i (fun _ h => h.1) (gLoadB_i (fun _ h => h.2.1) (gLoadB_i (fun _ h => h.2.2) (fStore f18.drew 2 4 rfl fun w20 f20 => ⟨⟨f20.cell 1 1 rfl rfl, f20.cell 2 0 rfl rfl, f20.cell 2 2 rfl rfl⟩, fStore f20 2 3 rfl fun w21 f21 => ⟨⟨f21.cell 1 1 rfl rfl, f21.cell 2 0 rfl rfl, f21.cell 2 2 rfl rfl⟩, ?_⟩⟩))))⟩
      rw [i64_id (n := l.getD 0 0 * plP xs) (by omega) (by omega), show i64 ((a : Int) + 1) = ((a + 1 : Nat) : Int) by rw [i64_id (by omega) (by omega)]; omega] at f21
      refine fPic (pcP xs l a) f21 2 rfl (gLen_nm hb (gCall_pic (right_any (a := (pcP xs l a).wd) (b := (pcP xs l a).ht) (c := (pcP xs l a).pl) (d := (pcP xs l a).st) (e := (pcP xs l a).fr) hsh.1 (by have := hsh.2; show l.getD 0 0 * plP xs * l.getD 1 0 ≤ _; omega) (by show (0 : Int) ≤ ((a + 1 : Nat) : Int); omega) (by show ((a + 1 : Nat) : Int) ≤ 1000000000000; omega)) fun w22 h22 => ?_))
      have f22 := f21.ev h22
      refine fPicEnd f22 3 rfl rfl ?_
      rw [hends]; unfold endP; rw [if_pos hc]
    · have hcf : (decide (a < xs.length) && whiteB (rd xs a)) = false := by
        rw [Bool.eq_false_iff]; intro hh; rw [Bool.and_eq_true, decide_eq_true_eq] at hh; exact hc hh
      rw [hcf]
      exact gIf_nf (bad f18 3 rfl rfl (by rw [hends]; unfold endP; rw [if_neg hc]))
end
end Go.Proofs.YtflchmhhmkkooaaV
