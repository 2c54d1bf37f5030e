import Derived.Lib.Bytealg
import Derived.Test.YtilpoinhfiajcaaGreatDoorVPart13
set_option linter.unusedVariables false
set_option linter.unusedSimpArgs false
/- Package colour: Turn, Back. -/
namespace Go.Proofs.YtilpoinhfiajcaaGreatDoorV
open Go Go.RowKit
section
variable {w0 w w' : World} {F : List It}
/-- The first i are turned. -/
def turnTo (g : List Int → Nat → Int) (xs : List Int) (i : Nat) : List Int := tab xs.length (fun q => if q < i then g xs q else rd xs q)
theorem turnTo_0 (g : List Int → Nat → Int) (xs : List Int) : turnTo g xs 0 = xs := by
  unfold turnTo
  rw [tab_ext (g := fun i => rd xs (i : Int)) (fun i _ => by rw [if_neg (by omega)])]
  exact tab_rd xs
theorem turnTo_len (g : List Int → Nat → Int) (xs : List Int) (i : Nat) : (turnTo g xs i).length = xs.length := tab_len _ _
theorem rd_turnTo {g : List Int → Nat → Int} {xs : List Int} {i q : Nat} (hq : q < xs.length) (h : i ≤ q) : rd (turnTo g xs i) (q : Int) = rd xs q := by
  unfold turnTo; rw [rd_tab hq, if_neg (by omega)]
theorem turnTo_end {g : List Int → Nat → Int} {xs : List Int} {i : Nat} (hi : i % 3 = 0) (h : xs.length < i + 3) (hg : ∀ q, ¬ q / 3 * 3 + 3 ≤ xs.length → g xs q = rd xs q) : turnTo g xs i = tab xs.length (g xs) :=
  tab_ext fun q hq => by
    split
    · rfl
    · rw [hg q (by omega)]
theorem turnTo_step {g : List Int → Nat → Int} {xs : List Int} {i : Nat} (hi : i % 3 = 0) (h : i + 3 ≤ xs.length) {a c : Int} (ha : g xs i = a) (hb : g xs (i + 1) = rd xs ((i + 1 : Nat) : Int)) (hc : g xs (i + 2) = c) : ((turnTo g xs i).set i a).set (i + 2) c = turnTo g xs (i + 3) := by
  unfold turnTo
  rw [tab_set (by omega), tab_set (by omega)]
  refine tab_ext fun q hq => ?_
  by_cases h2 : q = i + 2
  · subst h2; rw [if_pos rfl, if_pos (by omega), hc]
  · rw [if_neg h2]
    by_cases h0 : q = i
    · subst h0; rw [if_pos rfl, if_pos (by omega), ha]
    · rw [if_neg h0]
      by_cases h1 : q = i + 1
      · subst h1; rw [if_neg (by omega), if_pos (by omega), hb]
      · by_cases hlt : q < i
        · rw [if_pos hlt, if_pos (by omega)]
        · rw [if_neg hlt, if_neg (by omega)]
theorem Turn_any {b : Value} {xs : List Int} (hb : Nm .u8 w b xs) (hl : xs.length ≤ 1000000000) : Calls P n_colour_Turn #[b] w (NewB w (turnL xs)) := by
  refine of_colour_Turn (fApp0 (Fr.start w) hb (by omega) fun t9 w1 f1 => ?_)
  refine ⟨fun i w' => ∃ j : Nat, i = (j : Int) ∧ j % 3 = 0 ∧ j ≤ xs.length ∧ Fr w w' [oIt .u8 eB t9 (turnTo turnAt xs j)], fun i _ => (xs.length - i).toNat, ⟨0, rfl, rfl, Nat.zero_le _, by rw [turnTo_0]; exact f1⟩, ?_⟩
  rintro _ i w2 ⟨j, rfl, hj3, hjl, f2⟩
  have hn := f2.nm 0 rfl
  have hln := turnTo_len turnAt xs j
  refine gLen_nm hn ?_
  rw [hln, i64_id (n := (j : Int) + 3) (by omega) (by omega), i64_id (n := (j : Int) + 1) (by omega) (by omega), i64_id (n := (j : Int) + 2) (by omega) (by omega)]
  refine gIf_dec (fun hle => ?_) (fun hgt => ?_)
  · have hle' : j + 3 ≤ xs.length := by omega
    refine gGetB hn (by omega) (by omega) (fun _ => evDrew) (gGetB hn (by omega) (by omega) (fun _ => evDrew) (gGetB hn (by omega) (by omega) (fun _ => evDrew) ?_))
    rw [show (j : Int) + 1 = ((j + 1 : Nat) : Int) by omega, show (j : Int) + 2 = ((j + 2 : Nat) : Int) by omega, rd_turnTo (by omega) (Nat.le_refl _), rd_turnTo (by omega) (by omega), rd_turnTo (by omega) (by omega)]
    have r0 := rd_u8 hb.2 (j : Int)
    have r1 := rd_u8 hb.2 ((j + 1 : Nat) : Int)
    have r2 := rd_u8 hb.2 ((j + 2 : Nat) : Int)
    rw [i64_id (n := rd xs (j : Int)) (by omega) (by omega), i64_id (n := rd xs ((j + 1 : Nat) : Int)) (by omega) (by omega), i64_id (n := rd xs ((j + 2 : Nat) : Int)) (by omega) (by omega), i64_id (n := rd xs (j : Int) - rd xs ((j + 1 : Nat) : Int)) (by omega) (by omega), i64_id (n := rd xs ((j + 2 : Nat) : Int) - rd xs ((j + 1 : Nat) : Int)) (by omega) (by omega)]
    refine fSetO (j := j) f2.drew 0 rfl rfl (by omega) (u8i (u8_rg _)) fun w3 f3 => fSetO (j := j + 2) f3 0 rfl rfl (by rw [List.length_set]; omega) (u8i (u8_rg _)) fun w4 f4 => ?_
    have ha : turnAt xs j = u8 (rd xs (j : Int) - rd xs ((j + 1 : Nat) : Int)) := by unfold turnAt; rw [if_pos (by omega), if_neg (by omega), show j / 3 * 3 + 1 = j + 1 by omega]
    have hb' : turnAt xs (j + 1) = rd xs ((j + 1 : Nat) : Int) := by unfold turnAt; rw [if_pos (by omega), if_pos (by omega)]
    have hc : turnAt xs (j + 2) = u8 (rd xs ((j + 2 : Nat) : Int) - rd xs ((j + 1 : Nat) : Int)) := by unfold turnAt; rw [if_pos (by omega), if_neg (by omega), show (j + 2) / 3 * 3 + 1 = j + 1 by omega]
    have hst := turnTo_step hj3 hle' ha hb' hc
    have f4 : Fr w w4 [oIt .u8 eB t9 (((turnTo turnAt xs j).set j (u8 (rd xs (j : Int) - rd xs ((j + 1 : Nat) : Int)))).set (j + 2) (u8 (rd xs ((j + 2 : Nat) : Int) - rd xs ((j + 1 : Nat) : Int))))] := f4
    rw [hst] at f4
    exact ⟨⟨j + 3, by omega, by omega, hle', f4⟩, by dsimp only; omega⟩
  · rw [turnTo_end hj3 (by omega) (fun q hq => by unfold turnAt; rw [if_neg hq])] at f2
    exact ⟨t9, rfl, f2.old, f2.on 0 rfl⟩
theorem Back_any {b : Value} {xs : List Int} (hb : Nm .u8 w b xs) (hl : xs.length ≤ 1000000000) : Calls P n_colour_Back #[b] w (NewB w (backL xs)) := by
  refine of_colour_Back (fApp0 (Fr.start w) hb (by omega) fun t9 w1 f1 => ?_)
  refine ⟨fun i w' => ∃ j : Nat, i = (j : Int) ∧ j % 3 = 0 ∧ j ≤ xs.length ∧ Fr w w' [oIt .u8 eB t9 (turnTo backAt xs j)], fun i _ => (xs.length - i).toNat, ⟨0, rfl, rfl, Nat.zero_le _, by rw [turnTo_0]; exact f1⟩, ?_⟩
  rintro _ i w2 ⟨j, rfl, hj3, hjl, f2⟩
  have hn := f2.nm 0 rfl
  have hln := turnTo_len backAt xs j
  refine gLen_nm hn ?_
  rw [hln, i64_id (n := (j : Int) + 3) (by omega) (by omega), i64_id (n := (j : Int) + 1) (by omega) (by omega), i64_id (n := (j : Int) + 2) (by omega) (by omega)]
  refine gIf_dec (fun hle => ?_) (fun hgt => ?_)
  · have hle' : j + 3 ≤ xs.length := by omega
    refine gGetB hn (by omega) (by omega) (fun _ => evDrew) (gGetB hn (by omega) (by omega) (fun _ => evDrew) (gGetB hn (by omega) (by omega) (fun _ => evDrew) ?_))
    rw [show (j : Int) + 1 = ((j + 1 : Nat) : Int) by omega, show (j : Int) + 2 = ((j + 2 : Nat) : Int) by omega, rd_turnTo (by omega) (Nat.le_refl _), rd_turnTo (by omega) (by omega), rd_turnTo (by omega) (by omega)]
    have r0 := rd_u8 hb.2 (j : Int)
    have r1 := rd_u8 hb.2 ((j + 1 : Nat) : Int)
    have r2 := rd_u8 hb.2 ((j + 2 : Nat) : Int)
    rw [i64_id (n := rd xs (j : Int)) (by omega) (by omega), i64_id (n := rd xs ((j + 1 : Nat) : Int)) (by omega) (by omega), i64_id (n := rd xs ((j + 2 : Nat) : Int)) (by omega) (by omega), i64_id (n := rd xs (j : Int) + rd xs ((j + 1 : Nat) : Int)) (by omega) (by omega), i64_id (n := rd xs ((j + 2 : Nat) : Int) + rd xs ((j + 1 : Nat) : Int)) (by omega) (by omega)]
    refine fSetO (j := j) f2.drew 0 rfl rfl (by omega) (u8i (u8_rg _)) fun w3 f3 => fSetO (j := j + 2) f3 0 rfl rfl (by rw [List.length_set]; omega) (u8i (u8_rg _)) fun w4 f4 => ?_
    have ha : backAt xs j = u8 (rd xs (j : Int) + rd xs ((j + 1 : Nat) : Int)) := by unfold backAt; rw [if_pos (by omega), if_neg (by omega), show j / 3 * 3 + 1 = j + 1 by omega]
    have hb' : backAt xs (j + 1) = rd xs ((j + 1 : Nat) : Int) := by unfold backAt; rw [if_pos (by omega), if_pos (by omega)]
    have hc : backAt xs (j + 2) = u8 (rd xs ((j + 2 : Nat) : Int) + rd xs ((j + 1 : Nat) : Int)) := by unfold backAt; rw [if_pos (by omega), if_neg (by omega), show (j + 2) / 3 * 3 + 1 = j + 1 by omega]
    have hst := turnTo_step hj3 hle' ha hb' hc
    have f4 : Fr w w4 [oIt .u8 eB t9 (((turnTo backAt xs j).set j (u8 (rd xs (j : Int) + rd xs ((j + 1 : Nat) : Int)))).set (j + 2) (u8 (rd xs ((j + 2 : Nat) : Int) + rd xs ((j + 1 : Nat) : Int))))] := f4
    rw [hst] at f4
    exact ⟨⟨j + 3, by omega, by omega, hle', f4⟩, by dsimp only; omega⟩
  · rw [turnTo_end hj3 (by omega) (fun q hq => by unfold backAt; rw [if_neg hq])] at f2
    exact ⟨t9, rfl, f2.old, f2.on 0 rfl⟩
end
end Go.Proofs.YtilpoinhfiajcaaGreatDoorV

/- What is packed is unpacked: no program in sight. -/
namespace Go.Proofs.YtilpoinhfiajcaaGreatDoorV
open Go Go.RowKit
section
variable {xs : List Int} {F Wd H L S : Nat}
theorem packN_eq : packN xs F Wd H L S = numsB [xs.length, F, Wd, H, L, S] ++ (xs.take F ++ (applyN (pixN xs F S (Wd * L) L H) (Wd * L) L H ++ (besN xs F S (Wd * L) H ++ xs.drop (F + S * H)))) := by
  unfold packN numsB; simp
end
/-- The picture's measures, as they are. -/
theorem inP_nat {p : Pc} {n : Nat} (h : InP p n) : ∃ F Wd H L S : Nat, p = ⟨Wd, H, L, S, F⟩ ∧ 1 ≤ Wd ∧ Wd ≤ 32768 ∧ 1 ≤ H ∧ H ≤ 32768 ∧ (L = 1 ∨ L = 3) ∧ Wd * L ≤ S ∧ F + S * H ≤ n := by
  obtain ⟨a1, a2, a3, a4, a5, a6, a7, a8, a9⟩ := h
  obtain ⟨wd, ht, pl, st, fr⟩ := p
  simp only at *
  have hst : 0 ≤ st := Int.le_trans (Int.mul_nonneg (by omega) (by omega)) a6
  refine ⟨fr.toNat, wd.toNat, ht.toNat, pl.toNat, st.toNat, ?_, by omega, by omega, by omega, by omega, by omega, ?_, ?_⟩
  · congr 1 <;> omega
  · have : ((wd.toNat * pl.toNat : Nat) : Int) = wd * pl := by rw [Int.natCast_mul, Int.toNat_of_nonneg (by omega), Int.toNat_of_nonneg (by omega)]
    omega
  · have : ((st.toNat * ht.toNat : Nat) : Int) = st * ht := by rw [Int.natCast_mul, Int.toNat_of_nonneg (by omega), Int.toNat_of_nonneg (by omega)]
    omega
end Go.Proofs.YtilpoinhfiajcaaGreatDoorV

/- Package image: the packer's measures; Pack. -/
namespace Go.Proofs.YtilpoinhfiajcaaGreatDoorV
open Go Go.RowKit
/-- A packer's five numbers. -/
def pkC (F Wd H L S : Nat) : List Value := [.int .i64 Wd, .int .i64 H, .int .i64 L, .int .i64 S, .int .i64 F]
section
variable {w0 w w' : World} {G : List It} {F Wd H L S : Nat} {ad : Addr}
theorem add0 (ad : Addr) (n : Nat) : Addr.add (Addr.add ad 0) n = ad.add n := by rw [Addr.add_zero']
theorem wide_any (h : St w ad (pkC F Wd H L S)) (hb : Wd * L ≤ 1000000000000) : Calls P n_image_packer_wide #[.pointer (some ad)] w (fun e w' => e = .returned (.int .i64 ((Wd * L : Nat) : Int)) ∧ Ev w w') := by
  refine of_image_packer_wide (gNil_some ?_)
  rw [add0]
  refine gLoadB_i (at1 (h.cell (j := 0) rfl)) (gNil_some ?_)
  rw [add0]
  refine gLoadB_i (at1 (h.cell (j := 2) rfl)) ⟨?_, Ev.drew0 w⟩
  rw [← Int.natCast_mul, i64_id (by omega) (by omega)]
theorem end_any (h : St w ad (pkC F Wd H L S)) (hb : F + S * H ≤ 4000000000000000000) : Calls P n_image_packer_end #[.pointer (some ad)] w (fun e w' => e = .returned (.int .i64 ((F + S * H : Nat) : Int)) ∧ Ev w w') := by
  refine of_image_packer_end (gNil_some ?_)
  rw [add0]
  refine gLoadB_i (at1 (h.cell (j := 4) rfl)) (gNil_some ?_)
  rw [add0]
  refine gLoadB_i (at1 (h.cell (j := 3) rfl)) (gNil_some ?_)
  rw [add0]
  refine gLoadB_i (at1 (h.cell (j := 1) rfl)) ⟨?_, Ev.drew0 w⟩
  rw [← Int.natCast_mul, i64_id (n := ((S * H : Nat) : Int)) (by omega) (by omega), ← Int.natCast_add, i64_id (by omega) (by omega)]
theorem turn_any {b : Value} {xs : List Int} (h : St w ad (pkC F Wd H L S)) (hb : Nm .u8 w b xs) (hl : xs.length ≤ 1000000000) : Calls P n_image_packer_turn #[.pointer (some ad), b] w (fun e w' => ∃ v, e = .returned v ∧ Ev w w' ∧ Nm .u8 w' v (turnP L xs)) := by
  refine of_image_packer_turn (gNil_some ?_)
  rw [add0]
  refine gLoad_i (h.cell (j := 2) rfl) (gIf_eq (fun h3 => ?_) (fun h3 => ?_))
  · have : L = 3 := by omega
    subst this
    exact gCall_v (Q := fun v w' => Ev w w' ∧ ON .u8 eB w' w.heap.size v (turnL xs)) (Turn_any hb hl) fun v w' ⟨h1, h2⟩ => ⟨v, rfl, h1, h2.nm⟩
  · refine ⟨b, rfl, Ch.refl _ w, ?_⟩
    unfold turnP; rw [if_neg (by omega)]; exact hb
theorem pback_any {b : Value} {xs : List Int} (h : St w ad (pkC F Wd H L S)) (hb : Nm .u8 w b xs) (hl : xs.length ≤ 1000000000) : Calls P n_image_packer_back #[.pointer (some ad), b] w (fun e w' => ∃ v, e = .returned v ∧ Ev w w' ∧ Nm .u8 w' v (backP L xs)) := by
  refine of_image_packer_back (gNil_some ?_)
  rw [add0]
  refine gLoad_i (h.cell (j := 2) rfl) (gIf_eq (fun h3 => ?_) (fun h3 => ?_))
  · have : L = 3 := by omega
    subst this
    exact gCall_v (Q := fun v w' => Ev w w' ∧ ON .u8 eB w' w.heap.size v (backL xs)) (Back_any hb hl) fun v w' ⟨h1, h2⟩ => ⟨v, rfl, h1, h2.nm⟩
  · refine ⟨b, rfl, Ch.refl _ w, ?_⟩
    unfold backP; rw [if_neg (by omega)]; exact hb
theorem applyOk_of {n W L : Nat} (h1 : 1 ≤ W) (h2 : W ≤ 1048576) (h3 : 1 ≤ L) (h4 : L ≤ 4) (h5 : n * W ≤ 1048576) : applyOk (n * W) W L = true := by
  have e1 : ((n * W : Nat) : Int) % (W : Int) = 0 := by
    have : ((n * W : Nat) : Int) % (W : Int) = ((n * W % W : Nat) : Int) := by rw [Int.natCast_emod]
    rw [Nat.mul_mod_left] at this; exact this
  simp only [applyOk, rightI, Bool.and_eq_true, decide_eq_true_eq]
  refine ⟨⟨⟨⟨⟨?_, ?_⟩, ?_⟩, ?_⟩, e1⟩, h5⟩ <;> omega
theorem Pack_any {b : Value} {xs : List Int} (hb : Nm .u8 w b xs) (hl : xs.length ≤ 1000000000) : Calls P n_image_Pack #[b] w (TupB w (packI xs)) := by
  refine of_image_Pack (gCall_pic (Parse_any hb hl) fun w1 h1 => fPicNew ((Fr.start w).ev h1) fun x4 w2 f2 => fPicSet f2 0 rfl rfl fun w3 f3 => ?_)
  have f3 : Fr w w3 [sIt x4 (parseP xs).1.c] := f3
  have hin := (parse_in hb.2).1
  have nope : ∀ {w'}, Ev w w' → ¬ ((parseP xs).2 = true ∧ xs.length ≤ 1048576) → TupB w (packI xs) (.returned (.tuple #[.slice none 0 0, .bool false])) w' := fun he hn => by
    unfold packI; rw [if_neg hn]
    exact ⟨_, rfl, he, ON.nil _ _ _ _⟩
  refine ⟨fun w' => ((parseP xs).2 = true ∧ xs.length ≤ 1048576) ∧ Fr w w' [sIt x4 (parseP xs).1.c], gIf_nnb (fun ht => gLen_nm (hb.ev f3.old) (gIf_dec (fun hgt => nope f3.old (by omega)) (fun hle => ⟨⟨ht, by omega⟩, f3⟩))) (fun hf => nope f3.old (by rw [hf]; simp)), ?_⟩
  rintro _ w4 ⟨⟨ht, hle⟩, f4⟩
  obtain ⟨F, Wd, H, L, S, hp, a1, a2, a3, a4, a5, a6, a7⟩ := inP_nat (hin ht)
  have hpk : packI xs = (packN xs F Wd H L S, true) := by
    unfold packI packP; rw [if_pos ⟨ht, hle⟩, hp]; simp
  rw [hp] at f4
  have hS : S ≤ S * H := Nat.le_mul_of_pos_right _ (by omega)
  have hW : Wd ≤ Wd * L := Nat.le_mul_of_pos_right _ (by omega)
  have hWL : Wd * L ≤ 32768 * 3 := Nat.mul_le_mul a2 (by omega)
  have hH : H ≤ S * H := Nat.le_mul_of_pos_left _ (by omega)
  refine fPic ⟨Wd, H, L, S, F⟩ f4 0 rfl (fBox f4 fun t29 w5 f5 => fNewW f5 fun o7 v7 w6 f6 => ?_)
  have f6 : Fr w w6 [wIt eB o7 v7 [], sIt t29 (pkC F Wd H L S), sIt x4 (Pc.mk Wd H L S F).c] := f6
  have hB : ∀ {w' : World} {F' : List It} (i : Nat), Fr w w' F' → F'[i]? = some (sIt t29 (pkC F Wd H L S)) → ∀ (j : Nat) (u : Value), (pkC F Wd H L S)[j]? = some u → w'.cell? (t29.add j) = some u := fun i f hi j u hj => f.cell i j hi hj
  have hSt : ∀ {w' : World} {F' : List It} (i : Nat), Fr w w' F' → F'[i]? = some (sIt t29 (pkC F Wd H L S)) → St w' t29 (pkC F Wd H L S) := fun i f hi => f.get i hi
  refine ⟨fun w' => ∀ (j : Nat) (u : Value), (pkC F Wd H L S)[j]? = some u → w'.cell? (t29.add j) = some u, hB 1 f6.drew rfl, gLen_nm (hb.ev f6.old) (gNil_some ?_)⟩
  rw [add0]
  refine gLoadB_i (fun w' hw => hw 4 _ rfl) (gNil_some ?_)
  rw [add0]
  refine gLoadB_i (fun w' hw => hw 0 _ rfl) (gNil_some ?_)
  rw [add0]
  refine gLoadB_i (fun w' hw => hw 1 _ rfl) (gNil_some ?_)
  rw [add0]
  refine gLoadB_i (fun w' hw => hw 2 _ rfl) (gNil_some ?_)
  rw [add0]
  refine gLoadB_i (fun w' hw => hw 3 _ rfl) ?_
  obtain ⟨qs, hqs⟩ : ∃ qs : List Nat, qs = [xs.length, F, Wd, H, L, S] := ⟨_, rfl⟩
  have hqb : ∀ q ∈ qs, q ≤ 1048576 := fun q hq => by
    rw [hqs] at hq
    simp only [List.mem_cons, List.not_mem_nil, or_false] at hq
    rcases hq with rfl | rfl | rfl | rfl | rfl | rfl <;> omega
  have hqi : inR .i64 (qs.map (fun (q : Nat) => (q : Int))) := fun x hx => by
    obtain ⟨q, hq, rfl⟩ := List.mem_map.1 hx
    have := hqb q hq
    simp [IntKind.min, IntKind.max, IntKind.signed, IntKind.bits]; omega
  have hql : qs.length = 6 := by rw [hqs]; rfl
  refine fLit_n (qs.map (fun (q : Nat) => (q : Int))) f6.drew (by rw [hqs]; rfl) (by rw [List.length_map]; exact hql) hqi fun t57 w7 f7 => ⟨hB 2 f7 rfl, gLen_nm (f7.nm 0 rfl) ?_⟩
  rw [List.length_map, hql]
  refine ⟨fun i w' => ∃ (k : Nat) (v' : Value), i = (k : Int) ∧ k ≤ 6 ∧ Fr w w' [oIt .i64 (elOf P t_sl_int) t57 (qs.map (fun (q : Nat) => (q : Int))), wIt eB o7 v' (numsB (qs.take k)), sIt t29 (pkC F Wd H L S), sIt x4 (Pc.mk Wd H L S F).c], fun i _ => (6 - i).toNat, ⟨0, v7, rfl, by omega, f7⟩, ?_⟩
  rintro _ i w8 ⟨k, v8, rfl, hk, f8⟩
  have hnl : ∀ k, k ≤ 6 → (numsB (qs.take k)).length ≤ 100 := fun k hk => by
    have : ∀ l : List Nat, (∀ q ∈ l, q ≤ 1048576) → (numsB l).length ≤ 10 * l.length := fun l => by
      induction l with
      | nil => intro _; simp [numsB]
      | cons q l ih =>
        intro h
        have h1 := ih fun r hr => h r (by simp [hr])
        have h2 := numB_len64 (n := q) (by have := h q (by simp); omega)
        have e : numsB (q :: l) = numB q ++ numsB l := by simp [numsB]
        rw [e, List.length_append, List.length_cons]; omega
    have h1 := this (qs.take k) fun q hq => hqb q (List.mem_of_mem_take hq)
    rw [List.length_take, hql] at h1
    omega
  refine gIf_dec (fun hlt => ?_) (fun hge => ?_)
  · have hk6 : k < qs.length := by omega
    have hqk := hqb qs[k] (List.getElem_mem hk6)
    refine gGet (f8.nm 0 rfl) (by omega) (by rw [List.length_map]; omega) ?_
    have hrd : rd (qs.map (fun (q : Nat) => (q : Int))) (k : Int) = ((qs[k] : Nat) : Int) := by rw [rd_nat _ k (by rw [List.length_map]; exact hk6), List.getElem_map]
    rw [hrd, show u64 ((qs[k] : Nat) : Int) = ((qs[k] : Nat) : Int) by rw [u64_def]; omega]
    refine fNum f8 1 rfl (by omega) (by have := hnl k hk; omega) fun v9 w9 f9 => ?_
    rw [Int.toNat_natCast, ← numsB_snoc, ← List.take_succ_eq_append_getElem hk6] at f9
    exact ⟨⟨k + 1, v9, by rw [i64_id (by omega) (by omega)]; omega, by omega, f9⟩, by dsimp only; rw [i64_id (by omega) (by omega)]; omega⟩
  have hk6 : k = 6 := by omega
  subst hk6
  rw [List.take_of_length_le (by omega)] at f8
  have hnl6 := hnl 6 (Nat.le_refl _)
  rw [List.take_of_length_le (by omega)] at hnl6
  have f8 : Fr w w8 [wIt eB o7 v8 (numsB qs), sIt t29 (pkC F Wd H L S)] := f8.picks [1, 2] (by decide)
  refine gNil_some ?_
  rw [add0]
  refine gLoad_i (hB 1 f8 rfl 4 _ rfl) ?_
  obtain ⟨W, hWe⟩ : ∃ W, W = Wd * L := ⟨_, rfl⟩
  rw [← hWe] at hWL hW a6
  refine ⟨fun px bs at' w' => ∃ i : Nat, at' = ((F + i * S : Nat) : Int) ∧ i ≤ H ∧ Fr w w' [oIt .u8 eB px (pixN xs F S W L i), oIt .u8 eB bs (besN xs F S W i), wIt eB o7 v8 (numsB qs), sIt t29 (pkC F Wd H L S)], fun _ _ at' _ => (F + S * H - at').toNat, ⟨0, by simp, Nat.zero_le _, (f8.nil0 .u8 eB).nil0 .u8 eB⟩, ?_⟩
  rintro _ px bs _ w10 ⟨i, rfl, hi, f10⟩
  refine gCall_i (end_any (hSt 3 f10 rfl) (by omega)) fun w11 h11 => ?_
  have f11 := f10.ev h11
  have hpl := pixN_len (L := L) a7 a6 hi
  have hbl := besN_len a7 a6 hi
  have hiS : i * S ≤ S * H := by rw [Nat.mul_comm S H]; exact Nat.mul_le_mul_right _ hi
  have hiW : i * W ≤ i * S := Nat.mul_le_mul_left _ a6
  have hiG : i * (S - W) ≤ i * S := Nat.mul_le_mul_left _ (Nat.sub_le _ _)
  refine gIf_dec (fun hlt => ?_) (fun hge => ?_)
  · have hiH : i < H := by
      refine Decidable.byContradiction fun hn => ?_
      have : i = H := by omega
      subst this
      rw [Nat.mul_comm] at hlt; omega
    have hrb := row_bd a7 hiH
    have hsucc : (i + 1) * S = i * S + S := by rw [Nat.add_mul, Nat.one_mul]
    refine gCall_i (wide_any (hSt 3 f11 rfl) (by omega)) fun w12 h12 => ?_
    have f12 := f11.ev h12
    rw [← hWe, ← Int.natCast_add, i64_id (n := ((F + i * S + W : Nat) : Int)) (by omega) (by omega)]
    refine gSlice_nm (hb.ev f12.old) (F + i * S) (F + i * S + W) (.inr ⟨_, rfl⟩) (.inr ⟨_, rfl⟩) (by omega) (by omega) fun hs => ?_
    rw [Nat.add_sub_cancel_left] at hs
    refine gCall_v (turn_any (hSt 3 f12 rfl) hs (by rw [List.length_take, List.length_drop]; omega)) fun t92 w13 ⟨h13, hn13⟩ => ?_
    have f13 := f12.ev h13
    have hrl := rowX_len a7 a6 hiH
    refine fApp f13 0 rfl hn13 (by rw [turnP_len, hpl]; show (_ + (rowX xs F S W i).length) * 8 ≤ _; omega) fun t93 w14 f14 => ?_
    have f14 : Fr w w14 [oIt .u8 eB t93 (pixN xs F S W L (i + 1)), oIt .u8 eB bs (besN xs F S W i), wIt eB o7 v8 (numsB qs), sIt t29 (pkC F Wd H L S)] := f14
    refine ⟨fun w' => ∀ (j : Nat) (u : Value), (pkC F Wd H L S)[j]? = some u → w'.cell? (t29.add j) = some u, hB 3 f14.drew rfl, gNil_some ?_⟩
    rw [add0]
    refine gLoadB_i (fun w' hw => hw 3 _ rfl) (gCall_i (wide_any (hSt 3 f14.drew rfl) (by omega)) fun w15 h15 => ?_)
    have f15 := f14.drew.ev h15
    rw [← hWe, ← Int.natCast_add, ← Int.natCast_add, i64_id (n := ((F + i * S + W : Nat) : Int)) (by omega) (by omega), i64_id (n := ((F + i * S + S : Nat) : Int)) (by omega) (by omega)]
    refine ⟨hB 3 f15 rfl, gSlice_nm (hb.ev f15.old) (F + i * S + W) (F + i * S + S) (.inr ⟨_, rfl⟩) (.inr ⟨_, rfl⟩) (by omega) (by omega) fun hs2 => ?_⟩
    rw [show F + i * S + S - (F + i * S + W) = S - W by omega] at hs2
    have hgl := gapX_len a7 a6 hiH
    refine fApp f15 1 rfl hs2 (by rw [hbl]; show (_ + (gapX xs F S W i).length) * 8 ≤ _; omega) fun t108 w16 f16 => ⟨hB 3 f16 rfl, gNil_some ?_⟩
    rw [add0]
    refine gLoad_i (hB 3 f16 rfl 3 _ rfl) ?_
    refine ⟨⟨i + 1, ?_, hiH, f16⟩, ?_⟩
    · rw [← Int.natCast_add, i64_id (by omega) (by omega), hsucc]; congr 1; omega
    · dsimp only
      rw [← Int.natCast_add, i64_id (by omega) (by omega)]; omega
  have hiH : i = H := by
    refine Decidable.byContradiction fun hn => hge ?_
    have := row_bd a7 (show i < H by omega)
    have hsh : F + (i + 1) * S ≤ F + S * H := by rw [Nat.mul_comm S H]; exact Nat.add_le_add_left (Nat.mul_le_mul_right _ (by omega)) _
    rw [Nat.add_mul, Nat.one_mul] at hsh
    omega
  subst hiH
  have hswh : i * W ≤ S * i := by rw [Nat.mul_comm S i]; exact hiW
  refine ⟨fun w' => ∀ (j : Nat) (u : Value), (pkC F Wd i L S)[j]? = some u → w'.cell? (t29.add j) = some u, hB 3 f11.drew rfl, gNil_some ?_⟩
  rw [add0]
  refine gLoadB_i (fun w' hw => hw 2 _ rfl) (gCall_i (wide_any (hSt 3 f11.drew rfl) (by omega)) fun w17 h17 => ⟨hB 3 (f11.drew.ev h17) rfl, ?_⟩)
  have f17 := f11.drew.ev h17
  rw [← hWe]
  have hok : applyOk (pixN xs F S W L i).length W L = true := by rw [hpl]; exact applyOk_of (by omega) (by omega) (by omega) (by omega) (by omega)
  refine gCall_of (Apply_any (f17.nm 0 rfl) (by rw [hpl]; omega) (by omega)) ?_
  rintro _ w18 ⟨h18, hr⟩
  rw [hok, if_pos rfl, Int.toNat_natCast, hpl, Nat.mul_div_cancel _ (by omega)] at hr
  obtain ⟨v118, rfl, hon⟩ := hr
  have f18 := f17.newO h18 hon
  refine ⟨_, _, rfl, hB 4 f18 rfl, gIf_neq (fun h => (h rfl).elim) (fun _ => ⟨fun w' => ∀ (j : Nat) (u : Value), (pkC F Wd i L S)[j]? = some u → w'.cell? (t29.add j) = some u, hB 4 f18.drew rfl, gNil_some ?_⟩)⟩
  rw [add0]
  refine gLoadB_i (fun w' hw => hw 4 _ rfl) (gSlice_nm (hb.ev f18.drew.old) 0 F (.inl ⟨rfl, rfl⟩) (.inr ⟨_, rfl⟩) (Nat.zero_le _) (by omega) fun hs1 => gCall_i (end_any (hSt 4 f18.drew rfl) (by omega)) fun w19 h19 => ⟨hB 4 (f18.drew.ev h19) rfl, ?_⟩)
  have f19 := f18.drew.ev h19
  rw [Nat.sub_zero, List.drop_zero] at hs1
  refine gSlice_nm (hb.ev f19.old) (F + S * i) xs.length (.inr ⟨_, rfl⟩) (.inl ⟨rfl, rfl⟩) a7 (Nat.le_refl _) fun hs2 => ?_
  rw [List.take_of_length_le (by rw [List.length_drop]; exact Nat.le_refl _)] at hs2
  have hs1' := hs1.ev h19
  have hA := f19.nm 0 rfl
  have hBs := f19.nm 2 rfl
  refine fLitV [_, v118, bs, _] f19 rfl rfl (fun v hv => ?_) fun t136 w20 f20 => ⟨hB 5 f20 rfl, ?_⟩
  · simp only [List.mem_cons, List.not_mem_nil, or_false] at hv
    rcases hv with rfl | rfl | rfl | rfl
    · exact hs1.one
    · exact hA.one
    · exact hBs.one
    · exact hs2.one
  have hal := applyN_len (p := (L : Int)) hpl (Nat.le_refl i)
  have hfl : [xs.take F, applyN (pixN xs F S W L i) W L i, besN xs F S W i, xs.drop (F + S * i)].flatten.length ≤ 10000000 := by
    simp only [List.flatten_cons, List.flatten_nil, List.length_append, List.append_nil, hal, hbl, List.length_take, List.length_drop]
    have : i * (W + 1) = i * W + i := Nat.mul_succ i W
    omega
  refine fRawW (yss := [xs.take F, applyN (pixN xs F S W L i) W L i, besN xs F S W i, xs.drop (F + S * i)]) f20 4 rfl (fun w' f' => NL.of (f'.sl 0 rfl) rfl fun j u ys hu hy => ?_) (by omega) (by simp) fun v21 w21 f21 => ⟨hB 5 f21 rfl, ?_⟩
  · have ho : Ev w w' := f'.old
    rcases j with _ | _ | _ | _ | j
    · simp at hu hy; subst hu; subst hy
      have := (hb.ev ho).sub 0 F (Nat.zero_le _) (by omega)
      rw [Nat.sub_zero, List.drop_zero] at this; exact this
    · simp at hu hy; subst hu; subst hy; exact f'.nm 1 rfl
    · simp at hu hy; subst hu; subst hy; exact f'.nm 3 rfl
    · simp at hu hy; subst hu; subst hy
      have := (hb.ev ho).sub (F + S * i) xs.length a7 (Nat.le_refl _)
      rw [List.take_of_length_le (by rw [List.length_drop]; exact Nat.le_refl _)] at this; exact this
    · simp at hu
  refine fBytesW f21 4 rfl (by rw [List.length_append]; omega) fun t138 w22 f22 => ?_
  refine ⟨t138, ?_, f22.old, ?_⟩
  · rw [hpk]
  · rw [hpk]
    have := f22.on 0 rfl
    rw [show packN xs F Wd i L S = numsB qs ++ [xs.take F, applyN (pixN xs F S W L i) W L i, besN xs F S W i, xs.drop (F + S * i)].flatten by rw [packN_eq, ← hqs, ← hWe]; simp]
    exact this
end
end Go.Proofs.YtilpoinhfiajcaaGreatDoorV

/- Package image: Unpack. -/
namespace Go.Proofs.YtilpoinhfiajcaaGreatDoorV
open Go Go.RowKit
section
variable {w0 w w' : World} {G : List It}
theorem Unpack_any {x : Value} {xs : List Int} {most : Int} (hb : Nm .u8 w x xs) (hl : xs.length ≤ 1000000000) : Calls P n_image_Unpack #[x, .int .i64 most] w (TupE w (unpackI xs most)) := by
  have hx := hb.2
  refine of_image_Unpack (fNewR (Fr.start w) hb (by omega) fun ad y w1 f1 => fAlloc (z := .agg (Array.replicate 6 (.int .i64 0))) f1 (by kernel_rfl) fun l7 w2 f2 => ?_)
  have f2 : Fr w w2 [sIt l7 (((numsN xs 0).1 ++ List.replicate (6 - 0) 0).map (.int .i64)), sIt ad [y, .int .i64 ((numsN xs 0).2.1), .int .i64 (numsN xs 0).2.2], oIt .u8 eB y xs] := f2
  have f2 : Fr w w2 [sIt ad [y, .int .i64 ((numsN xs 0).2.1), .int .i64 (numsN xs 0).2.2], oIt .u8 eB y xs, sIt l7 (((numsN xs 0).1 ++ List.replicate (6 - 0) 0).map (.int .i64))] := f2.picks [1, 2, 0] (by decide)
  refine ⟨fun i w' => ∃ k : Nat, i = (k : Int) ∧ k ≤ 6 ∧ Fr w w' [sIt ad [y, .int .i64 ((numsN xs k).2.1), .int .i64 (numsN xs k).2.2], oIt .u8 eB y xs, sIt l7 (((numsN xs k).1 ++ List.replicate (6 - k) 0).map (.int .i64))], fun i _ => (6 - i).toNat, ⟨0, rfl, by omega, f2⟩, ?_⟩
  rintro _ i w3 ⟨k, rfl, hk, f3⟩
  refine gIf_dec (fun hlt => ?_) (fun hge => ?_)
  · have hk6 : k < 6 := by omega
    refine fNumR f3 (numsN_at xs k) (by omega) fun w4 f4 => gIdx_ar1 6 k rfl hk6 ?_
    have hr := cap40_rng (numR_rng (xs := xs) (a := (numsN xs k).2.1) (er := (numsN xs k).2.2) (most := 18446744073709551615) hx).1
    have hc : i64 (if 1099511627776 < (numR xs (numsN xs k).2.1 (numsN xs k).2.2 18446744073709551615).1 then 1099511627776 else (numR xs (numsN xs k).2.1 (numsN xs k).2.2 18446744073709551615).1) = cap40 (numR xs (numsN xs k).2.1 (numsN xs k).2.2 18446744073709551615).1 := by
      show i64 (cap40 _) = _; rw [i64_id (by omega) (by omega)]
    rw [hc]
    refine fStore f4 2 k rfl (fun w5 f5 => ?_) (by rw [List.length_map, List.length_append, numsN_len, List.length_replicate]; omega)
    rw [half6 (numsN_len xs k) hk6] at f5
    exact ⟨⟨k + 1, by rw [i64_id (by omega) (by omega)]; omega, by omega, f5⟩, by dsimp only; rw [i64_id (by omega) (by omega)]; omega⟩
  have hk6 : k = 6 := by omega
  subst hk6
  have hal := numsN_at xs 6
  have hnl := numsN_len xs 6
  have hrg := numsN_rng hx 6
  obtain ⟨a6, ha6⟩ : ∃ a6, a6 = (numsN xs 6).2.1 := ⟨_, rfl⟩
  obtain ⟨er6, he6⟩ : ∃ er6, er6 = (numsN xs 6).2.2 := ⟨_, rfl⟩
  rw [← ha6] at hal
  rw [← ha6, ← he6, show List.replicate (6 - 6) (0 : Int) = [] from rfl, List.append_nil] at f3
  refine fErrR f3 hal (by omega) (gIf_neq (fun hne => ?_) (fun heq => ?_))
  · have hU : unpackI xs most = ([], er6) := by unfold unpackI; dsimp only; rw [← he6, if_pos hne]
    rw [hU]; exact ⟨_, rfl, f3.old, ON.nil _ _ _ _⟩
  subst heq
  obtain ⟨l, hlq⟩ : ∃ l : List Int, l = (numsN xs 6).1 := ⟨_, rfl⟩
  rw [← hlq] at hnl hrg f3
  have hnat : ∀ j : Nat, j < 6 → ∃ q : Nat, rd l (j : Int) = (q : Int) ∧ q ≤ 1099511627776 := fun j hj => by
    have := hrg _ (rd_mem (xs := l) (i := (j : Int)) (by omega) (by omega))
    exact ⟨(rd l (j : Int)).toNat, by omega, by omega⟩
  obtain ⟨n, hn, bn⟩ := hnat 0 (by omega)
  obtain ⟨F, hF, bF⟩ := hnat 1 (by omega)
  obtain ⟨Wd, hWd, bWd⟩ := hnat 2 (by omega)
  obtain ⟨H, hH, bH⟩ := hnat 3 (by omega)
  obtain ⟨L, hL, bL⟩ := hnat 4 (by omega)
  obtain ⟨S, hS, bS⟩ := hnat 5 (by omega)
  have hU : unpackI xs most = if (n : Int) > (if 0 > most then 0 else most) ∨ (n : Int) > 1048576 then ([], 5) else if badIm n F Wd H L S = true then ([], 4) else bodyI xs a6 n F Wd H L S := by
    unfold unpackI; dsimp only
    rw [← he6, if_neg (show ¬ ((0 : Int) ≠ 0) from fun h => h rfl), ← hlq, ← ha6]
    rw [show rd l 0 = (n : Int) from hn, show rd l 1 = (F : Int) from hF, show rd l 2 = (Wd : Int) from hWd, show rd l 3 = (H : Int) from hH, show rd l 4 = (L : Int) from hL, show rd l 5 = (S : Int) from hS]
  have ld : ∀ {j : Nat} {q : Nat} {K : Int → Prop}, j < 6 → rd l (j : Int) = (q : Int) → K (q : Int) → gIdx P t_ar6_int (.pointer (some l7)) (.int .i64 (j : Int)) fun t38 => gLoad P t_int (shI .i64) (.pointer (some t38)) w3 K := fun {j q K} hj hq hk =>
    gIdx_ar1 6 j rfl hj (fLoad_i (n := (q : Int)) f3 2 j rfl (by rw [← hq]; exact rd_mg (k := .i64) (xs := l) (by omega)) hk)
  refine ld (j := 0) (by omega) hn (ld (j := 1) (by omega) hF (ld (j := 2) (by omega) hWd (ld (j := 3) (by omega) hH (ld (j := 4) (by omega) hL (ld (j := 5) (by omega) hS (fBox f3 fun t52 w7 f7 => ?_))))))
  have f7 : Fr w w7 [sIt t52 (pkC F Wd H L S), sIt ad [y, .int .i64 a6, .int .i64 0], oIt .u8 eB y xs, sIt l7 (l.map (.int .i64))] := f7
  have f7 : Fr w w7 [sIt ad [y, .int .i64 a6, .int .i64 0], oIt .u8 eB y xs, sIt t52 (pkC F Wd H L S)] := f7.picks [1, 2, 0] (by decide)
  have hB : ∀ {w' : World} {F' : List It} (i : Nat), Fr w w' F' → F'[i]? = some (sIt t52 (pkC F Wd H L S)) → ∀ (j : Nat) (u : Value), (pkC F Wd H L S)[j]? = some u → w'.cell? (t52.add j) = some u := fun i f hi j u hj => f.cell i j hi hj
  have hSt : ∀ {w' : World} {F' : List It} (i : Nat), Fr w w' F' → F'[i]? = some (sIt t52 (pkC F Wd H L S)) → St w' t52 (pkC F Wd H L S) := fun i f hi => f.get i hi
  have err : ∀ {w'} (e : Int), Ev w w' → unpackI xs most = ([], e) → TupE w (unpackI xs most) (.returned (.tuple #[.slice none 0 0, .int .i64 e])) w' := fun e he hu => by rw [hu]; exact ⟨_, rfl, he, ON.nil _ _ _ _⟩
  refine ⟨fun w' => ¬ ((n : Int) > (if 0 > most then 0 else most) ∨ (n : Int) > 1048576) ∧ badIm n F Wd H L S = false ∧ Fr w w' [sIt ad [y, .int .i64 a6, .int .i64 0], oIt .u8 eB y xs, sIt t52 (pkC F Wd H L S)], ⟨fun t w' => t = decide ((n : Int) > (if 0 > most then 0 else most) ∨ (n : Int) > 1048576) ∧ Fr w w' [sIt ad [y, .int .i64 a6, .int .i64 0], oIt .u8 eB y xs, sIt t52 (pkC F Wd H L S)], ?_, ?_⟩, ?_⟩
  · refine gIf_ndec (fun h => ⟨?_, f7⟩) (fun h => ⟨?_, f7⟩)
    · rw [decide_eq_decide]; exact ⟨.inr, fun hh => hh.resolve_left h⟩
    · rw [decide_eq_true (.inl h)]
  · rintro _ t w8 ⟨rfl, f8⟩
    refine gIf_dec (fun h => err 5 f8.old (by rw [hU, if_pos h])) (fun hnb => ?_)
    have hbad : ((F : Int) > n ∨ (Wd : Int) < 1 ∨ (Wd : Int) > n ∨ (H : Int) < 1 ∨ (H : Int) > n ∨ (L : Int) < 1 ∨ (L : Int) > 3 ∨ (S : Int) < (Wd : Int) * L ∨ (S : Int) > n ∨ (F : Int) + S * H > n) → true = badIm n F Wd H L S := fun h => (decide_eq_true h).symm
    refine ⟨fun t w' => t = badIm n F Wd H L S ∧ Fr w w' [sIt ad [y, .int .i64 a6, .int .i64 0], oIt .u8 eB y xs, sIt t52 (pkC F Wd H L S)], ⟨fun w' => ∀ (j : Nat) (u : Value), (pkC F Wd H L S)[j]? = some u → w'.cell? (t52.add j) = some u, hB 2 f8.drew rfl, gNil_some ?_⟩, ?_⟩
    · rw [add0]
      refine gLoadB_i (fun w' hw => hw 4 _ rfl) (gIf_ndec (fun h1 => gNil_some ?_) (fun h => ⟨hbad (by omega), f8.drew⟩))
      rw [add0]
      refine gLoadB_i (fun w' hw => hw 0 _ rfl) (gIf_ndec (fun h2 => gNil_some ?_) (fun h => ⟨hbad (by omega), f8.drew⟩))
      rw [add0]
      refine gLoadB_i (fun w' hw => hw 0 _ rfl) (gIf_ndec (fun h3 => gNil_some ?_) (fun h => ⟨hbad (by omega), f8.drew⟩))
      rw [add0]
      refine gLoadB_i (fun w' hw => hw 1 _ rfl) (gIf_ndec (fun h4 => gNil_some ?_) (fun h => ⟨hbad (by omega), f8.drew⟩))
      rw [add0]
      refine gLoadB_i (fun w' hw => hw 1 _ rfl) (gIf_ndec (fun h5 => gNil_some ?_) (fun h => ⟨hbad (by omega), f8.drew⟩))
      rw [add0]
      refine gLoadB_i (fun w' hw => hw 2 _ rfl) (gIf_ndec (fun h6 => gNil_some ?_) (fun h => ⟨hbad (by omega), f8.drew⟩))
      rw [add0]
      refine gLoadB_i (fun w' hw => hw 2 _ rfl) (gIf_ndec (fun h7 => gNil_some ?_) (fun h => ⟨hbad (by omega), f8.drew⟩))
      rw [add0]
      have hWL : Wd * L ≤ n * 3 := Nat.mul_le_mul (by omega) (by omega)
      have hSH : S * H ≤ 1099511627776 * 1048576 := Nat.mul_le_mul bS (by omega)
      refine gLoadB_i (fun w' hw => hw 3 _ rfl) (gCall_i (wide_any (hSt 2 f8.drew rfl) (by omega)) fun w9 h9 => ⟨hB 2 (f8.drew.ev h9) rfl, gIf_ndec (fun h8 => gNil_some ?_) (fun h => ⟨hbad (by rw [← Int.natCast_mul]; omega), f8.drew.ev h9⟩)⟩)
      rw [add0]
      refine gLoadB_i (fun w' hw => hw 3 _ rfl) (gIf_ndec (fun h10 => gCall_i (end_any (hSt 2 (f8.drew.ev h9) rfl) (by omega)) fun w10 h11 => ⟨hB 2 ((f8.drew.ev h9).ev h11) rfl, ?_, (f8.drew.ev h9).ev h11⟩) (fun h => ⟨hbad (by omega), f8.drew.ev h9⟩))
      unfold badIm
      rw [decide_eq_decide, ← Int.natCast_mul, ← Int.natCast_mul]
      omega
    · rintro _ t w11 ⟨rfl, f11⟩
      refine gIf_b (fun hb1 => err 4 f11.old (by rw [hU, if_neg hnb, if_pos hb1])) (fun hb0 => ⟨hnb, hb0, f11⟩)
  rintro _ w12 ⟨hnb, hb0, f12⟩
  have hU2 : unpackI xs most = bodyI xs a6 n F Wd H L S := by rw [hU, if_neg hnb, if_neg (by rw [hb0]; decide)]
  obtain ⟨b1, b2, b3, b4, b5, b6, b7, b8, b9, b10⟩ := badIm_f hb0
  obtain ⟨W, hW⟩ : ∃ W, W = Wd * L := ⟨_, rfl⟩
  have eWL : (Wd : Int) * (L : Int) = (W : Int) := by rw [hW, Int.natCast_mul]
  have eSH : (S : Int) * (H : Int) = ((S * H : Nat) : Int) := by rw [Int.natCast_mul]
  rw [eWL] at b8
  rw [eSH] at b10
  have hWge : Wd ≤ W := by rw [hW]; exact Nat.le_mul_of_pos_right _ (by omega)
  have hHW : H * (W + 1) ≤ 1048576 * 1048577 := Nat.mul_le_mul (by omega) (by omega)
  have hHG : H * (S - W) ≤ 1048576 * 1048576 := Nat.mul_le_mul (by omega) (by omega)
  obtain ⟨Gp, hGp⟩ : ∃ Gp, Gp = S - W := ⟨_, rfl⟩
  rw [← hGp] at hHG
  have e2 : (H : Int) * ((W : Int) + 1) = ((H * (W + 1) : Nat) : Int) := by rw [Int.natCast_mul]; rfl
  have e3 : (H : Int) * ((S : Int) - (W : Int)) = ((H * Gp : Nat) : Int) := by rw [Int.natCast_mul, hGp, Int.natCast_sub (by omega)]
  have e4 : (n : Int) - ((F : Int) + ((S * H : Nat) : Int)) = ((n - (F + S * H) : Nat) : Int) := by omega
  -- the four parts
  obtain ⟨r1, hr1⟩ : ∃ r1, r1 = rawR xs a6 0 (F : Int) := ⟨_, rfl⟩
  obtain ⟨r2, hr2⟩ : ∃ r2, r2 = rawR xs r1.2.1 r1.2.2 ((H * (W + 1) : Nat) : Int) := ⟨_, rfl⟩
  obtain ⟨r3, hr3⟩ : ∃ r3, r3 = rawR xs r2.2.1 r2.2.2 ((H * Gp : Nat) : Int) := ⟨_, rfl⟩
  obtain ⟨r4, hr4⟩ : ∃ r4, r4 = rawR xs r3.2.1 r3.2.2 ((n - (F + S * H) : Nat) : Int) := ⟨_, rfl⟩
  have g1 : r1.2.1 ≤ xs.length := by rw [hr1]; exact rawR_le hal
  have g2 : r2.2.1 ≤ xs.length := by rw [hr2]; exact rawR_le g1
  have g3 : r3.2.1 ≤ xs.length := by rw [hr3]; exact rawR_le g2
  have g4 : r4.2.1 ≤ xs.length := by rw [hr4]; exact rawR_le g3
  have hU3 : unpackI xs most = if endR xs.length r4.2.1 r4.2.2 ≠ 0 then ([], endR xs.length r4.2.1 r4.2.2)
      else if undoOk r2.1.length (W : Int) L = true ∧ kindsOk r2.1 W (r2.1.length / (W + 1)) = true then
        (r1.1 ++ outN (undoN r2.1 W L (r2.1.length / (W + 1))) r3.1 W Gp L (r2.1.length / (W + 1)) ++ r4.1, 0) else ([], 4) := by
    rw [hU2]
    unfold bodyI
    dsimp only
    rw [eWL, eSH, e2, e3, e4, ← hr1, ← hr2, ← hr3, ← hr4, Int.toNat_natCast, Int.toNat_natCast, show ((S : Int) - (W : Int)).toNat = Gp by omega]
  refine gNil_some ?_
  rw [add0]
  refine gLoad_i (hB 2 f12 rfl 4 _ rfl) (fRawR f12 hal (by omega) (by omega) fun t151 w13 f13 => ?_)
  rw [← hr1] at f13
  refine ⟨fun w' => ∀ (j : Nat) (u : Value), (pkC F Wd H L S)[j]? = some u → w'.cell? (t52.add j) = some u, hB 3 f13.drew rfl, gNil_some ?_⟩
  rw [add0]
  refine gLoadB_i (fun w' hw => hw 1 _ rfl) (gCall_i (wide_any (hSt 3 f13.drew rfl) (by omega)) fun w14 h14 => ⟨hB 3 (f13.drew.ev h14) rfl, ?_⟩)
  have f14 := f13.drew.ev h14
  rw [← hW, i64_id (n := (W : Int) + 1) (by omega) (by omega), e2, i64_id (n := ((H * (W + 1) : Nat) : Int)) (by omega) (by omega)]
  refine fRawR f14 g1 (by omega) (by omega) fun t162 w15 f15 => ⟨?_, ?_⟩
  · exact hB 4 f15 rfl
  rw [← hr2] at f15
  refine ⟨fun w' => ∀ (j : Nat) (u : Value), (pkC F Wd H L S)[j]? = some u → w'.cell? (t52.add j) = some u, hB 4 f15.drew rfl, gNil_some ?_⟩
  rw [add0]
  refine gLoadB_i (fun w' hw => hw 1 _ rfl) (gNil_some ?_)
  rw [add0]
  refine gLoadB_i (fun w' hw => hw 3 _ rfl) (gCall_i (wide_any (hSt 4 f15.drew rfl) (by omega)) fun w16 h16 => ⟨hB 4 (f15.drew.ev h16) rfl, ?_⟩)
  have f16 := f15.drew.ev h16
  rw [← hW, i64_id (n := (S : Int) - (W : Int)) (by omega) (by omega), e3, i64_id (n := ((H * Gp : Nat) : Int)) (by omega) (by omega)]
  refine fRawR f16 g2 (by omega) (by omega) fun t178 w17 f17 => ⟨?_, ?_⟩
  · exact hB 5 f17 rfl
  rw [← hr3] at f17
  refine gCall_i (end_any (hSt 5 f17 rfl) (by omega)) fun w18 h18 => ?_
  have f18 := f17.ev h18
  rw [show (n : Int) - ((F + S * H : Nat) : Int) = ((n - (F + S * H) : Nat) : Int) by omega, i64_id (n := ((n - (F + S * H) : Nat) : Int)) (by omega) (by omega)]
  refine fRawR f18 g3 (by omega) (by omega) fun t184 w19 f19 => ?_
  rw [← hr4] at f19
  refine fEndR f19 g4 (by omega) fun w20 h20 => ?_
  have f20 := f19.ev h20
  refine gIf_neq (fun hne => err _ f20.old (by rw [hU3, if_pos hne])) (fun hend => ?_)
  have h40 : r4.2.2 = 0 := by
    refine Decidable.byContradiction fun hn' => hn' ?_
    unfold endR at hend; rw [if_pos hn'] at hend; exact hend
  obtain ⟨m4, k4⟩ := rawR_0 (n := ((n - (F + S * H) : Nat) : Int)) (by omega) (hr4 ▸ h40)
  obtain ⟨m3, k3⟩ := rawR_0 (n := ((H * Gp : Nat) : Int)) (by omega) (hr3 ▸ k4)
  obtain ⟨m2, k2⟩ := rawR_0 (n := ((H * (W + 1) : Nat) : Int)) (by omega) (hr2 ▸ k3)
  obtain ⟨m1, _⟩ := rawR_0 (n := (F : Int)) (by omega) (hr1 ▸ k2)
  rw [← hr4, Int.toNat_natCast] at m4
  rw [← hr3, Int.toNat_natCast] at m3
  rw [← hr2, Int.toNat_natCast] at m2
  rw [← hr1, Int.toNat_natCast] at m1
  have l2 : r2.1.length ≤ xs.length := by rw [hr2]; exact rawR_lx
  have hdiv : H * (W + 1) / (W + 1) = H := Nat.mul_div_cancel _ (by omega)
  rw [if_neg (fun h => h hend), m2, hdiv] at hU3
  have f20 : Fr w w20 [oIt .u8 eB t184 r4.1, oIt .u8 eB t178 r3.1, oIt .u8 eB t162 r2.1, oIt .u8 eB t151 r1.1, sIt t52 (pkC F Wd H L S)] := f20.picks [2, 3, 4, 5, 6] (by decide)
  refine ⟨fun w' => ∀ (j : Nat) (u : Value), (pkC F Wd H L S)[j]? = some u → w'.cell? (t52.add j) = some u, hB 4 f20.drew rfl, gNil_some ?_⟩
  rw [add0]
  refine gLoadB_i (fun w' hw => hw 2 _ rfl) (gCall_i (wide_any (hSt 4 f20.drew rfl) (by omega)) fun w21 h21 => ⟨hB 4 (f20.drew.ev h21) rfl, ?_⟩)
  have f21 := f20.drew.ev h21
  rw [← hW]
  refine gCall_of (Undo_any (f21.nm 2 rfl) (by omega) (by omega)) ?_
  intro e22 w22 hu22
  unfold UndoE at hu22
  rw [m2, Int.toNat_natCast, hdiv] at hu22
  by_cases hok : undoOk (H * (W + 1)) (W : Int) L = true
  · rw [if_pos hok] at hu22
    by_cases hkk : kindsOk r2.1 W H = true
    · rw [if_pos hkk] at hu22
      rw [if_pos ⟨hok, hkk⟩] at hU3
      obtain ⟨h22, v199, rfl, hon⟩ := hu22
      have hpxl := undoN_len r2.1 W L H
      have hUl : ∀ k, k ≤ H → (outN (undoN r2.1 W L H) r3.1 W Gp L k).length = k * (W + Gp) := fun k hk => outN_len hpxl m3 hk
      generalize undoN r2.1 W L H = pix at hon hpxl hU3 hUl
      have f22 := f21.newO h22 hon
      have f22 : Fr w w22 [oIt .u8 eB t151 r1.1, oIt .u8 eB v199 pix, oIt .u8 eB t178 r3.1, oIt .u8 eB t184 r4.1, sIt t52 (pkC F Wd H L S)] := f22.picks [4, 0, 2, 1, 5] (by decide)
      refine ⟨_, _, rfl, hB 4 f22 rfl, gIf_neq (fun h => (h rfl).elim) (fun _ => gCall_i (wide_any (hSt 4 f22 rfl) (by omega)) fun w23 h23 => ?_)⟩
      have f23 := f22.ev h23
      rw [← hW]
      refine ⟨fun bs px out w' => ∃ i : Nat, i ≤ H ∧ (∀ {w''}, Nm .u8 w'' v199 pix → Nm .u8 w'' px (pix.drop (i * W))) ∧ (∀ {w''}, Nm .u8 w'' t178 r3.1 → Nm .u8 w'' bs (r3.1.drop (i * Gp))) ∧ Fr w w' [oIt .u8 eB out (r1.1 ++ outN pix r3.1 W Gp L i), oIt .u8 eB v199 pix, oIt .u8 eB t178 r3.1, oIt .u8 eB t184 r4.1, sIt t52 (pkC F Wd H L S)], fun _ px _ _ => slenV px, ?_, ?_⟩
      · refine ⟨0, Nat.zero_le _, fun h => by simpa using h, fun h => by simpa using h, ?_⟩
        rw [outN, List.append_nil]; exact f23
      rintro _ bs px out w24 ⟨i, hi, hpx, hbs, f24⟩
      have npx := hpx (f24.nm 1 rfl)
      have nbs := hbs (f24.nm 2 rfl)
      have hsl := npx.slen
      have hiW : i * W ≤ H * W := Nat.mul_le_mul_right _ hi
      have hiG : i * Gp ≤ H * Gp := Nat.mul_le_mul_right _ hi
      refine gLen_nm npx ?_
      rw [List.length_drop, hpxl] at hsl ⊢
      refine gIf_dec (fun hlt => ?_) (fun hge => ?_)
      · have hiH : i < H := by
          refine Decidable.byContradiction fun hn' => ?_
          have : i = H := by omega
          subst this; simp at hlt
        have b1 : (i + 1) * W ≤ H * W := Nat.mul_le_mul_right _ hiH
        have b2 : (i + 1) * Gp ≤ H * Gp := Nat.mul_le_mul_right _ hiH
        have c1 : (i + 1) * W = i * W + W := by rw [Nat.add_mul, Nat.one_mul]
        have c2 : (i + 1) * Gp = i * Gp + Gp := by rw [Nat.add_mul, Nat.one_mul]
        have hout := hUl i hi
        have hiWG : i * (W + Gp) ≤ H * (W + Gp) := Nat.mul_le_mul_right _ hi
        have hHWG : H * (W + Gp) = H * W + H * Gp := Nat.mul_add _ _ _
        have hHW1 : H * (W + 1) = H * W + H := Nat.mul_succ _ _
        refine ⟨fun w' => ∀ (j : Nat) (u : Value), (pkC F Wd H L S)[j]? = some u → w'.cell? (t52.add j) = some u, hB 4 f24.drew rfl, ?_⟩
        refine gSlice_nm npx 0 W (.inl ⟨rfl, rfl⟩) (.inr ⟨_, rfl⟩) (Nat.zero_le _) (by rw [List.length_drop, hpxl]; omega) fun hs1 => gNil_some ?_
        rw [Nat.sub_zero, List.drop_zero] at hs1
        rw [add0]
        refine gLoadB_i (fun w' hw => hw 3 _ rfl) ?_
        rw [show i64 ((S : Int) - (W : Int)) = (Gp : Int) by rw [i64_id (by omega) (by omega)]; omega]
        refine gSlice_nm nbs 0 Gp (.inl ⟨rfl, rfl⟩) (.inr ⟨_, rfl⟩) (Nat.zero_le _) (by rw [List.length_drop, m3]; omega) fun hs2 => ?_
        rw [Nat.sub_zero, List.drop_zero] at hs2
        refine gCall_v (pback_any (hSt 4 f24.drew rfl) (hs1.ev (Ev.drew0 _)) (by rw [List.length_take, List.length_drop, hpxl]; omega)) fun t218 w25 ⟨h25, hn25⟩ => ⟨hB 4 (f24.drew.ev h25) rfl, ?_⟩
        have f25 := f24.drew.ev h25
        refine fApp f25 0 rfl hn25 (by rw [List.length_append, hout, backP_len, List.length_take, List.length_drop, hpxl]; omega) fun t219 w26 f26 => ⟨hB 4 f26 rfl, ?_⟩
        have hs2' : Nm .u8 w26 (subV 1 bs 0 Gp) ((r3.1.drop (i * Gp)).take Gp) := by
          have := (hbs (f26.nm 2 rfl)).sub 0 Gp (Nat.zero_le _) (by rw [List.length_drop, m3]; omega)
          rwa [Nat.sub_zero, List.drop_zero] at this
        refine fApp f26 0 rfl hs2' (by rw [List.length_append, List.length_append, hout, backP_len, List.length_take, List.length_drop, hpxl, List.length_take, List.length_drop, m3]; omega) fun t229 w27 f27 => ⟨hB 4 f27 rfl, gNil_some ?_⟩
        rw [add0]
        refine gLoad_i (hB 4 f27 rfl 3 _ rfl) ?_
        rw [show i64 ((S : Int) - (W : Int)) = (Gp : Int) by rw [i64_id (by omega) (by omega)]; omega]
        have nbs27 := hbs (f27.nm 2 rfl)
        have npx27 := hpx (f27.nm 1 rfl)
        refine gSlice_nm nbs27 Gp (r3.1.drop (i * Gp)).length (.inr ⟨_, rfl⟩) (.inl ⟨rfl, rfl⟩) (by rw [List.length_drop, m3]; omega) (Nat.le_refl _) fun _ => gSlice_nm npx27 W (pix.drop (i * W)).length (.inr ⟨_, rfl⟩) (.inl ⟨rfl, rfl⟩) (by rw [List.length_drop, hpxl]; omega) (Nat.le_refl _) fun hpx2 => ?_
        have hout2 : r1.1 ++ outN pix r3.1 W Gp L (i + 1) = r1.1 ++ outN pix r3.1 W Gp L i ++ backP L ((pix.drop (i * W)).take W) ++ (r3.1.drop (i * Gp)).take Gp := by rw [outN]; simp
        refine ⟨⟨i + 1, hiH, fun {w''} h => ?_, fun {w''} h => ?_, by rw [hout2]; exact f27⟩, ?_⟩
        · have := (hpx h).sub W (pix.drop (i * W)).length (by rw [List.length_drop, hpxl]; omega) (Nat.le_refl _)
          rw [List.take_of_length_le (by rw [List.length_drop]; exact Nat.le_refl _), List.drop_drop, ← c1] at this; exact this
        · have := (hbs h).sub Gp (r3.1.drop (i * Gp)).length (by rw [List.length_drop, m3]; omega) (Nat.le_refl _)
          rw [List.take_of_length_le (by rw [List.length_drop]; exact Nat.le_refl _), List.drop_drop, ← c2] at this; exact this
        · dsimp only
          rw [hpx2.slen, hsl, List.length_take, List.length_drop, List.length_drop, hpxl]; omega
      · have hiH : i = H := by
          refine Decidable.byContradiction fun hn' => hge ?_
          have b1 : (i + 1) * W ≤ H * W := Nat.mul_le_mul_right _ (by omega)
          rw [Nat.add_mul, Nat.one_mul] at b1; omega
        subst hiH
        have hout := hUl i (Nat.le_refl _)
        have hHWG : i * (W + Gp) = i * W + i * Gp := Nat.mul_add _ _ _
        have hHW1 : i * (W + 1) = i * W + i := Nat.mul_succ _ _
        refine fApp f24 0 rfl (f24.nm 3 rfl) (by rw [List.length_append, hout]; omega) fun t241 w28 f28 => ?_
        rw [hU3]
        exact ⟨t241, rfl, f28.old, f28.on 0 rfl⟩
    · rw [if_neg hkk] at hu22
      obtain ⟨h22, rfl⟩ := hu22
      refine ⟨_, _, rfl, hB 4 (f21.ev h22) rfl, gIf_neq (fun _ => err 4 (f21.ev h22).old (by rw [hU3, if_neg (fun h => hkk h.2)])) (fun h => by cases h)⟩
  · rw [if_neg hok] at hu22
    obtain ⟨h22, rfl⟩ := hu22
    refine ⟨_, _, rfl, hB 4 (f21.ev h22) rfl, gIf_neq (fun _ => err 4 (f21.ev h22).old (by rw [hU3, if_neg (fun h => hok h.1)])) (fun h => by cases h)⟩
end
end Go.Proofs.YtilpoinhfiajcaaGreatDoorV

/- Package table: Score, Width, Delta, Undelta; the same of valiseref20. -/
namespace Go.Proofs.YtilpoinhfiajcaaGreatDoorV
open Go Go.RowKit
/-- At how many places up to j a byte is the one a width ahead. -/
def scoreN (xs : List Int) (W : Nat) : Nat → Int
  | 0 => 0
  | j + 1 => scoreN xs W j + (if W ≤ j ∧ rd xs (j : Int) = rd xs ((j - W : Nat) : Int) then 1 else 0)
theorem scoreN_bd (xs : List Int) (W : Nat) : ∀ j, 0 ≤ scoreN xs W j ∧ scoreN xs W j ≤ j
  | 0 => by simp [scoreN]
  | j + 1 => by have := scoreN_bd xs W j; rw [scoreN]; split <;> omega
theorem scoreN_low (xs : List Int) (W : Nat) : ∀ j, j ≤ W → scoreN xs W j = 0
  | 0, _ => rfl
  | j + 1, h => by rw [scoreN, scoreN_low xs W j (by omega), if_neg (by omega)]; rfl
def scoreI (xs : List Int) (width : Int) : Int := if width < 1 then 0 else scoreN xs width.toNat xs.length
theorem Score_any {b : Value} {xs : List Int} {width : Int} {w : World} (hb : Nm .u8 w b xs) (hl : xs.length ≤ 1000000000) (hw : width ≤ 9223372036854775807) : Calls P n_table_Score #[b, .int .i64 width] w (fun e w' => e = .returned (.int .i64 (scoreI xs width)) ∧ Ev w w') := by
  refine of_table_Score (gIf_dec (fun h => ⟨by unfold scoreI; rw [if_pos h], Ch.refl _ w⟩) (fun h => ?_))
  obtain ⟨W, rfl⟩ : ∃ W : Nat, width = W := ⟨width.toNat, by omega⟩
  unfold scoreI
  rw [if_neg h, Int.toNat_natCast]
  refine ⟨fun n i w' => ∃ j : Nat, i = j ∧ W ≤ j ∧ n = scoreN xs W (min j xs.length) ∧ Ev w w', fun _ i _ => xs.length - i.toNat, ⟨W, rfl, by omega, (scoreN_low xs W _ (by omega)).symm, Ch.refl _ w⟩, ?_⟩
  rintro _ n i w1 ⟨j, rfl, hj, rfl, h1⟩
  refine gLen_nm hb (gIf_dec (fun hlt => ?_) (fun hge => ⟨by rw [Nat.min_eq_right (by omega)], h1⟩))
  rw [Nat.min_eq_left (by omega)]
  have hs := scoreN_bd xs W j
  rw [show i64 ((j : Int) - W) = ((j - W : Nat) : Int) by rw [i64_id (by omega) (by omega)]; omega, i64_id (n := (j : Int) + 1) (by omega) (by omega), i64_id (n := scoreN xs W j + 1) (by omega) (by omega)]
  refine gIdx_nm (hb.ev h1) (by omega) hlt fun a1 c1 _ => gLoadB_i (at1 c1) (gIdx_nm (hb.ev h1) (by omega) (by omega) fun a2 c2 _ => gLoadB_i (at1 c2) (gIf_eq (fun e => ⟨⟨j + 1, rfl, by omega, ?_, h1.drew⟩, by dsimp only; omega⟩) (fun e => ⟨⟨j + 1, rfl, by omega, ?_, h1.drew⟩, by dsimp only; omega⟩)))
  · rw [Nat.min_eq_left (by omega), scoreN, if_pos ⟨hj, e⟩]
  · rw [Nat.min_eq_left (by omega), scoreN, if_neg (fun hh => e hh.2), Int.add_zero]
theorem rScore_any {b : Value} {xs : List Int} {width : Int} {w : World} (hb : Nm .u8 w b xs) (hl : xs.length ≤ 1000000000) (hw : width ≤ 9223372036854775807) : Calls P n_valiseref20_Score #[b, .int .i64 width] w (fun e w' => e = .returned (.int .i64 (scoreI xs width)) ∧ Ev w w') := by
  refine of_valiseref20_Score ⟨fun n i w' => ∃ j : Nat, i = j ∧ 1 ≤ j ∧ width ≤ j ∧ n = (if width < 1 then 0 else scoreN xs width.toNat (min j xs.length)) ∧ Ev w w', fun _ i _ => xs.length - i.toNat, ⟨(if 1 > width then 1 else width).toNat, ?_, ?_, ?_, ?_, Ch.refl _ w⟩, ?_⟩
  · split <;> omega
  · split <;> omega
  · split <;> omega
  · split
    · rfl
    · rw [scoreN_low]; omega
  rintro _ n i w1 ⟨j, rfl, hj1, hj, rfl, h1⟩
  unfold scoreI
  refine ⟨fun w' => j < xs.length ∧ 1 ≤ width ∧ w' = w1, gLen_nm hb (gIf_dec (fun hlt => gIf_dec (fun h1' => ⟨by omega, h1', rfl⟩) (fun hn => ⟨by rw [if_pos (by omega), if_pos (by omega)], h1⟩)) (fun hge => ⟨by rw [Nat.min_eq_right (by omega)], h1⟩)), ?_⟩
  rintro _ _ ⟨hlt, hw1, rfl⟩
  rename_i w1
  obtain ⟨W, rfl⟩ : ∃ W : Nat, width = W := ⟨width.toNat, by omega⟩
  rw [if_neg (by omega), Int.toNat_natCast, Nat.min_eq_left (by omega)]
  have hs := scoreN_bd xs W j
  rw [show i64 ((j : Int) - W) = ((j - W : Nat) : Int) by rw [i64_id (by omega) (by omega)]; omega, i64_id (n := (j : Int) + 1) (by omega) (by omega), i64_id (n := scoreN xs W j + 1) (by omega) (by omega)]
  refine gIdx_nm (hb.ev h1) (by omega) (by omega) fun a1 c1 _ => gLoadB_i (at1 c1) (gIdx_nm (hb.ev h1) (by omega) (by omega) fun a2 c2 _ => gLoadB_i (at1 c2) (gIf_eq (fun e => ⟨⟨j + 1, rfl, by omega, by omega, ?_, h1.drew⟩, by dsimp only; omega⟩) (fun e => ⟨⟨j + 1, rfl, by omega, by omega, ?_, h1.drew⟩, by dsimp only; omega⟩)))
  · rw [if_neg (show ¬ (W : Int) < 1 by omega), Nat.min_eq_left (by omega), scoreN, if_pos ⟨by omega, e⟩]
  · rw [if_neg (show ¬ (W : Int) < 1 by omega), Nat.min_eq_left (by omega), scoreN, if_neg (fun hh => e hh.2), Int.add_zero]
/-- The best width of those below W, and its score; none: 0 and half the length. -/
def widN (xs : List Int) : Nat → Int × Int
  | 0 => (0, (xs.length : Int) / 2)
  | W + 1 => if 2 ≤ W ∧ 4 * W ≤ xs.length ∧ scoreI xs W > (widN xs W).2 then (W, scoreI xs W) else widN xs W
def widI (xs : List Int) : Int := (widN xs 17).1
theorem scoreI_bd (xs : List Int) (W : Int) : 0 ≤ scoreI xs W ∧ scoreI xs W ≤ xs.length := by
  unfold scoreI; split
  · omega
  · exact scoreN_bd _ _ _
theorem widN_short (xs : List Int) (W : Nat) (h : xs.length < 4 * W) : ∀ d, (widN xs (W + d)).1 = (widN xs W).1
  | 0 => rfl
  | d + 1 => by
    have := widN_short xs W h d
    rw [← Nat.add_assoc, widN, if_neg (by omega), this]
theorem widN_low (xs : List Int) : widN xs 2 = (0, (xs.length : Int) / 2) := by simp [widN]
theorem Width_any {b : Value} {xs : List Int} {w : World} (hb : Nm .u8 w b xs) (hl : xs.length ≤ 1000000000) : Calls P n_table_Width #[b] w (fun e w' => e = .returned (.int .i64 (widI xs)) ∧ Ev w w') := by
  refine of_table_Width (gLen_nm hb ?_)
  rw [show i64 (Int.tdiv (xs.length : Int) 2) = (xs.length : Int) / 2 by rw [Int.tdiv_eq_ediv_of_nonneg (by omega), i64_id (by omega) (by omega)]]
  refine ⟨fun best most i w' => ∃ W : Nat, i = W ∧ 2 ≤ W ∧ W ≤ 17 ∧ (best, most) = widN xs W ∧ Ev w w', fun _ _ i _ => 17 - i.toNat, ⟨2, rfl, by omega, by omega, (widN_low xs).symm, Ch.refl _ w⟩, ?_⟩
  rintro _ best most i w1 ⟨W, rfl, hW2, hW, hwd, h1⟩
  have hb1 : best = (widN xs W).1 := congrArg Prod.fst hwd
  have hb2 : most = (widN xs W).2 := congrArg Prod.snd hwd
  refine gIf_dec (fun hle => gLen_nm hb ?_) (fun hgt => ⟨?_, h1⟩)
  · rw [i64_id (n := 4 * (W : Int)) (by omega) (by omega), i64_id (n := (W : Int) + 1) (by omega) (by omega)]
    refine gIf_dec (fun hfit => gCall_i (Score_any (hb.ev h1) hl (by omega)) fun w2 h2 => gIf_dec (fun hs => ⟨⟨W + 1, rfl, by omega, by omega, ?_, h1.trans h2⟩, by dsimp only; omega⟩) (fun hs => ⟨⟨W + 1, rfl, by omega, by omega, ?_, h1.trans h2⟩, by dsimp only; omega⟩)) (fun hno => ⟨?_, h1⟩)
    · rw [widN, if_pos ⟨hW2, by omega, by rw [← hb2]; exact hs⟩]
    · rw [widN, if_neg (fun hh => hs (by rw [hb2]; exact hh.2.2))]; exact hwd
    · obtain ⟨d, hd⟩ : ∃ d, 17 = W + d := ⟨17 - W, by omega⟩
      rw [widI, hd, widN_short xs W (by omega), hb1]
  · obtain rfl : W = 17 := by omega
    rw [hb1]; rfl
/-- valiseref20's top: 0 where none is. -/
def topOf (xs : List Int) (r : Int × Int) : Int := if r.1 = 0 then 0 else r.2
theorem widN_inv (xs : List Int) : ∀ W, 2 ≤ W → ((widN xs W).1 = 0 ∧ (widN xs W).2 = (xs.length : Int) / 2) ∨ (2 ≤ (widN xs W).1 ∧ (widN xs W).2 > (xs.length : Int) / 2)
  | W + 1, h => by
    by_cases h2 : W = 1
    · subst h2; rw [widN_low]; exact .inl ⟨rfl, rfl⟩
    · have ih := widN_inv xs W (by omega)
      rw [widN]
      split
      · rename_i hh
        refine .inr ⟨by dsimp only; omega, ?_⟩
        dsimp only
        rcases ih with h | h <;> omega
      · exact ih
theorem rWidth_any {b : Value} {xs : List Int} {w : World} (hb : Nm .u8 w b xs) (hl : xs.length ≤ 1000000000) : Calls P n_valiseref20_Width #[b] w (fun e w' => e = .returned (.int .i64 (widI xs)) ∧ Ev w w') := by
  refine of_valiseref20_Width ⟨fun best top i w' => ∃ W : Nat, i = W ∧ 2 ≤ W ∧ W ≤ 17 ∧ best = (widN xs W).1 ∧ top = topOf xs (widN xs W) ∧ Ev w w', fun _ _ i _ => 17 - i.toNat, ⟨2, rfl, by omega, by omega, by rw [widN_low], by rw [widN_low]; rfl, Ch.refl _ w⟩, ?_⟩
  rintro _ best top i w1 ⟨W, rfl, hW2, hW, rfl, rfl, h1⟩
  have hinv := widN_inv xs W hW2
  have hsc := scoreI_bd xs W
  refine gIf_dec (fun hle => ?_) (fun hgt => ⟨?_, h1⟩)
  · rw [i64_id (n := 4 * (W : Int)) (by omega) (by omega), i64_id (n := (W : Int) + 1) (by omega) (by omega)]
    refine ⟨fun bb tt w' => bb = (widN xs (W + 1)).1 ∧ tt = topOf xs (widN xs (W + 1)) ∧ Ev w w', gLen_nm hb (gIf_dec (fun hfit => gCall_i (rScore_any (hb.ev h1) hl (by omega)) fun w2 h2 => gLen_nm hb ?_) (fun hno => ?_)), ?_⟩
    · rw [i64_id (n := 2 * scoreI xs W) (by omega) (by omega)]
      refine gIf_dec (fun hs => gCall_i (rScore_any ((hb.ev h1).ev h2) hl (by omega)) fun w3 h3 => gIf_dec (fun ht => gCall_i (rScore_any (((hb.ev h1).ev h2).ev h3) hl (by omega)) fun w4 h4 => ?_) (fun ht => ?_)) (fun hs => ?_)
      · have hc : scoreI xs W > (widN xs W).2 := by
          unfold topOf at ht
          rcases hinv with h | h
          · omega
          · rw [if_neg (by omega)] at ht; omega
        rw [widN, if_pos ⟨hW2, by omega, hc⟩]
        exact ⟨rfl, by unfold topOf; rw [if_neg (by dsimp only; omega)], h1.trans (h2.trans (h3.trans h4))⟩
      · have hc : ¬ scoreI xs W > (widN xs W).2 := by
          unfold topOf at ht
          rcases hinv with h | h
          · rw [if_pos h.1] at ht; omega
          · rw [if_neg (by omega)] at ht; omega
        rw [widN, if_neg (fun hh => hc hh.2.2)]
        exact ⟨rfl, rfl, h1.trans (h2.trans h3)⟩
      · have hc : ¬ scoreI xs W > (widN xs W).2 := by rcases hinv with h | h <;> omega
        rw [widN, if_neg (fun hh => hc hh.2.2)]
        exact ⟨rfl, rfl, h1.trans h2⟩
    · rw [widN, if_neg (fun hh => hno (by omega))]; exact ⟨rfl, rfl, h1⟩
    · rintro _ bb tt w5 ⟨rfl, rfl, h5⟩
      exact ⟨⟨W + 1, rfl, by omega, by omega, rfl, rfl, h5⟩, by dsimp only; omega⟩
  · obtain rfl : W = 17 := by omega
    rfl
def wOf (width : Int) : Nat := (if 1 > width then 1 else width).toNat
theorem wOf_pos (width : Int) : 1 ≤ wOf width := by unfold wOf; split <;> omega
theorem wOf_eq (width : Int) : (if 1 > width then 1 else width) = (wOf width : Int) := by unfold wOf; split <;> omega
def deltaL (xs : List Int) (W : Nat) : List Int := tab xs.length fun i => if i < W then rd xs i else (rd xs i - rd xs ((i - W : Nat) : Int)) % 256
def undAt (xs : List Int) (W i : Nat) : Int := if h : i < W ∨ W = 0 then rd xs i else (rd xs i + undAt xs W (i - W)) % 256
def undeltaL (xs : List Int) (W : Nat) : List Int := tab xs.length fun i => undAt xs W i
theorem Delta_any {b : Value} {xs : List Int} {width : Int} {w : World} (hb : Nm .u8 w b xs) (hl : xs.length ≤ 1000000000) (hw : width ≤ 9223372036854775807) : Calls P n_table_Delta #[b, .int .i64 width] w (NewB w (deltaL xs (wOf width))) := by
  refine of_table_Delta (gApp_on (ON.nil .u8 eB w w.heap.size) hb (by simp; omega) (Nat.le_refl _) fun v w1 hO hc hm => ?_)
  have h1 : Ev w w1 := hc.mono fun _ _ _ hh => by cases hh
  have hW := wOf_pos width
  have hWw : (wOf width : Int) ≤ 9223372036854775807 := by unfold wOf; split <;> omega
  rw [wOf_eq]
  generalize wOf width = W at *
  rw [List.nil_append] at hO
  refine ⟨fun i w' => ∃ j : Nat, i = j ∧ W ≤ j ∧ Ev w w' ∧ ON .u8 eB w' w.heap.size v (tab xs.length fun i => if i < W then rd xs i else if i < j then (rd xs i - rd xs ((i - W : Nat) : Int)) % 256 else rd xs i), fun i _ => xs.length - i.toNat, ⟨W, rfl, by omega, h1, ?_⟩, ?_⟩
  · have : (tab xs.length fun i => if i < W then rd xs i else if i < W then (rd xs i - rd xs ((i - W : Nat) : Int)) % 256 else rd xs i) = xs := by
      conv => rhs; rw [← tab_rd xs]
      exact tab_ext fun i _ => by split <;> simp_all
    rw [this]; exact hO
  rintro _ i w2 ⟨j, rfl, hj, h2, hO2⟩
  refine gLen_nm hb (gIf_dec (fun hlt => ?_) (fun hge => ⟨v, rfl, h2, ?_⟩))
  · rw [show i64 ((j : Int) - W) = ((j - W : Nat) : Int) by rw [i64_id (by omega) (by omega)]; omega, i64_id (n := (j : Int) + 1) (by omega) (by omega)]
    refine ⟨fun _ => True, fun w' => w' = w2.drew, ⟨trivial, rfl⟩, gIdx_nm (hb.ev h2.drew) (by omega) hlt fun a1 c1 _ => gLoadB_i (fun w' h => by subst h; exact c1) (gIdx_nm (hb.ev h2.drew) (by omega) (by omega) fun a2 c2 _ => gLoadB_i (fun w' h => by subst h; exact c2) ?_)⟩
    have r1 := rd_u8 hb.2 j
    have r2 := rd_u8 hb.2 ((j - W : Nat) : Int)
    rw [i64_id (n := rd xs j) (by omega) (by omega), i64_id (n := rd xs ((j - W : Nat) : Int)) (by omega) (by omega), i64_id (n := rd xs j - rd xs ((j - W : Nat) : Int)) (by omega) (by omega), u8_def]
    refine gIdx_on hO2.drew (by omega) (by rw [tab_len]; omega) fun a3 s3 _ => gStore_on hO2.drew s3 (by omega) (by rw [tab_len]; omega) (u8i (by omega)) fun w3 h3 _ hO3 => ⟨trivial, ⟨j + 1, rfl, by omega, h2.drew.new h3 fun g _ hg => (hO2.base hg).1, ?_⟩, by dsimp only; omega⟩
    rw [Int.toNat_natCast, tab_set (by omega)] at hO3
    rw [show (tab xs.length fun i => if i < W then rd xs i else if i < j + 1 then (rd xs i - rd xs ((i - W : Nat) : Int)) % 256 else rd xs i) = tab xs.length fun q => if q = j then (rd xs j - rd xs ((j - W : Nat) : Int)) % 256 else if q < W then rd xs q else if q < j then (rd xs q - rd xs ((q - W : Nat) : Int)) % 256 else rd xs q from tab_ext fun q _ => by
      by_cases e : q = j
      · subst e; rw [if_pos rfl, if_neg (by omega), if_pos (by omega)]
      · rw [if_neg e]
        by_cases e2 : q < W
        · rw [if_pos e2, if_pos e2]
        · rw [if_neg e2, if_neg e2]
          by_cases e3 : q < j
          · rw [if_pos e3, if_pos (by omega)]
          · rw [if_neg e3, if_neg (by omega)]]
    exact hO3
  · unfold deltaL
    rw [show (tab xs.length fun i => if i < W then rd xs i else (rd xs i - rd xs ((i - W : Nat) : Int)) % 256) = tab xs.length fun i => if i < W then rd xs i else if i < j then (rd xs i - rd xs ((i - W : Nat) : Int)) % 256 else rd xs i from tab_ext fun q hq => by
      by_cases e2 : q < W
      · rw [if_pos e2, if_pos e2]
      · rw [if_neg e2, if_neg e2, if_pos (by omega)]]
    exact hO2
theorem Undelta_any {b : Value} {xs : List Int} {width : Int} {w : World} (hb : Nm .u8 w b xs) (hl : xs.length ≤ 1000000000) (hw : width ≤ 9223372036854775807) : Calls P n_table_Undelta #[b, .int .i64 width] w (NewB w (undeltaL xs (wOf width))) := by
  refine of_table_Undelta (gApp_on (ON.nil .u8 eB w w.heap.size) hb (by simp; omega) (Nat.le_refl _) fun v w1 hO hc hm => ?_)
  have h1 : Ev w w1 := hc.mono fun _ _ _ hh => by cases hh
  have hW := wOf_pos width
  have hWw : (wOf width : Int) ≤ 9223372036854775807 := by unfold wOf; split <;> omega
  rw [wOf_eq]
  generalize wOf width = W at *
  rw [List.nil_append] at hO
  refine ⟨fun i w' => ∃ j : Nat, i = j ∧ W ≤ j ∧ Ev w w' ∧ ON .u8 eB w' w.heap.size v (tab xs.length fun i => if i < j then undAt xs W i else rd xs i), fun i _ => xs.length - i.toNat, ⟨W, rfl, by omega, h1, ?_⟩, ?_⟩
  · have : (tab xs.length fun i => if i < W then undAt xs W i else rd xs i) = xs := by
      conv => rhs; rw [← tab_rd xs]
      exact tab_ext fun i _ => by
        split
        · rename_i h; rw [undAt, dif_pos (.inl h)]
        · rfl
    rw [this]; exact hO
  rintro _ i w2 ⟨j, rfl, hj, h2, hO2⟩
  refine gLen_nm hb (gIf_dec (fun hlt => ?_) (fun hge => ⟨v, rfl, h2, ?_⟩))
  · rw [show i64 ((j : Int) - W) = ((j - W : Nat) : Int) by rw [i64_id (by omega) (by omega)]; omega, i64_id (n := (j : Int) + 1) (by omega) (by omega)]
    have hrd : rd (tab xs.length fun i => if i < j then undAt xs W i else rd xs i) ((j - W : Nat) : Int) = undAt xs W (j - W) := by rw [rd_tab (by omega), if_pos (by omega)]
    have hun : undAt xs W j = (rd xs j + undAt xs W (j - W)) % 256 := by rw [undAt, dif_neg (by omega)]
    refine ⟨fun _ => True, fun w' => w' = w2.drew, ⟨trivial, rfl⟩, gIdx_nm (hb.ev h2.drew) (by omega) hlt fun a1 c1 _ => gLoadB_i (fun w' h => by subst h; exact c1) (gIdx_nm hO2.drew.nm (by omega) (by rw [tab_len]; omega) fun a2 c2 _ => gLoadB_i (fun w' h => by subst h; exact c2) ?_)⟩
    have r1 := rd_u8 hb.2 j
    have r2 := rd_u8 hO2.2 ((j - W : Nat) : Int)
    rw [hrd] at r2 ⊢
    rw [i64_id (n := rd xs j) (by omega) (by omega), i64_id (n := undAt xs W (j - W)) (by omega) (by omega), i64_id (n := rd xs j + undAt xs W (j - W)) (by omega) (by omega), u8_def]
    refine gIdx_on hO2.drew (by omega) (by rw [tab_len]; omega) fun a3 s3 _ => gStore_on hO2.drew s3 (by omega) (by rw [tab_len]; omega) (u8i (by omega)) fun w3 h3 _ hO3 => ⟨trivial, ⟨j + 1, rfl, by omega, h2.drew.new h3 fun g _ hg => (hO2.base hg).1, ?_⟩, by dsimp only; omega⟩
    rw [Int.toNat_natCast, tab_set (by omega), ← hun] at hO3
    rw [show (tab xs.length fun i => if i < j + 1 then undAt xs W i else rd xs i) = tab xs.length fun q => if q = j then undAt xs W j else if q < j then undAt xs W q else rd xs q from tab_ext fun q _ => by
      by_cases e : q = j
      · subst e; rw [if_pos rfl, if_pos (by omega)]
      · rw [if_neg e]
        by_cases e3 : q < j
        · rw [if_pos e3, if_pos (by omega)]
        · rw [if_neg e3, if_neg (by omega)]]
    exact hO3
  · unfold undeltaL
    rw [show (tab xs.length fun i => undAt xs W i) = tab xs.length fun i => if i < j then undAt xs W i else rd xs i from tab_ext fun q hq => by rw [if_pos (by omega)]]
    exact hO2
end Go.Proofs.YtilpoinhfiajcaaGreatDoorV

/- Package colour: Apart and Together. -/
namespace Go.Proofs.YtilpoinhfiajcaaGreatDoorV
open Go Go.RowKit
def cl16 (n : Int) : Nat := (if (if 16 < n then 16 else n) > 1 then (if 16 < n then 16 else n) else 1).toNat
theorem cl16_eq (n : Int) : (if (if 16 < n then 16 else n) > 1 then (if 16 < n then 16 else n) else 1) = (cl16 n : Int) := by unfold cl16; split <;> split <;> omega
theorem cl16_bd (n : Int) : 1 ≤ cl16 n ∧ cl16 n ≤ 16 := by unfold cl16; split <;> split <;> omega
def apAt (xs : List Int) (n m q : Nat) : Int := if q < n * m then rd xs ((q % m * n + q / m : Nat) : Int) else rd xs q
def toAt (xs : List Int) (n m q : Nat) : Int := if q < n * m then rd xs ((q % n * m + q / n : Nat) : Int) else rd xs q
def apartL (xs : List Int) (n : Nat) : List Int := tab xs.length (apAt xs n (xs.length / n))
def togetherL (xs : List Int) (n : Nat) : List Int := tab xs.length (toAt xs n (xs.length / n))
theorem apartL_len (xs : List Int) (n : Nat) : (apartL xs n).length = xs.length := tab_len _ _
theorem togetherL_len (xs : List Int) (n : Nat) : (togetherL xs n).length = xs.length := tab_len _ _
theorem grid {n m i k : Nat} (hi : i < m) (hk : k < n) : i * n + k < n * m ∧ (i * n + k) % n = k ∧ (i * n + k) / n = i := by
  have h1 : (i + 1) * n ≤ m * n := Nat.mul_le_mul_right _ hi
  rw [Nat.succ_mul, Nat.mul_comm m n] at h1
  refine ⟨by omega, ?_, ?_⟩
  · rw [Nat.mul_comm, Nat.mul_add_mod, Nat.mod_eq_of_lt hk]
  · rw [Nat.mul_comm, Nat.mul_add_div (by omega), Nat.div_eq_of_lt hk]; omega
theorem quo_nat {a n : Nat} (ha : a ≤ 1000000000) : IntKind.wrap .i64 (Int.tdiv (a : Int) (n : Int)) = ((a / n : Nat) : Int) := by
  rw [Int.tdiv_eq_ediv_of_nonneg (by omega)]
  have h1 : a / n ≤ a := Nat.div_le_self _ _
  have : ((a / n : Nat) : Int) = (a : Int) / n := by rw [Int.natCast_ediv]
  rw [← this]; clear this; generalize a / n = t at h1 ⊢; exact i64_id (by omega) (by omega)
theorem Apart_any {b : Value} {xs : List Int} {n : Int} {w : World} (hb : Nm .u8 w b xs) (hl : xs.length ≤ 1000000000) : Calls P n_colour_Apart #[b, .int .i64 n] w (NewB w (apartL xs (cl16 n))) := by
  refine of_colour_Apart (gLen_nm hb ?_)
  rw [cl16_eq]
  have hn := cl16_bd n
  generalize cl16 n = N at hn
  refine gBin_quo (by omega) ?_
  rw [quo_nat hl]
  unfold apartL
  have hm := Nat.div_mul_le_self xs.length N
  rw [Nat.mul_comm] at hm
  have hmle : xs.length / N ≤ xs.length := Nat.div_le_self _ _
  generalize xs.length / N = M at *
  refine gApp_on (ON.nil .u8 eB w w.heap.size) hb (by simp; omega) (Nat.le_refl _) fun v w1 hO hc hmv => ?_
  have h1 : Ev w w1 := hc.mono fun _ _ _ hh => by cases hh
  rw [List.nil_append] at hO
  have t0 : ∀ c, c = 0 → (tab xs.length fun q => if q < c then apAt xs N M q else rd xs q) = xs := fun c hc => by
    subst hc
    conv => rhs; rw [← tab_rd xs]
    exact tab_ext fun q _ => by rw [if_neg (by omega)]
  refine ⟨fun k w' => ∃ K : Nat, k = K ∧ K ≤ N ∧ Ev w w' ∧ ON .u8 eB w' w.heap.size v (tab xs.length fun q => if q < K * M then apAt xs N M q else rd xs q), fun k _ => N - k.toNat, ⟨0, rfl, by omega, h1, by rw [t0 _ (by simp)]; exact hO⟩, ?_⟩
  rintro _ k w2 ⟨K, rfl, hK, h2, hO2⟩
  refine gIf_dec (fun hlt => ?_) (fun hge => ⟨v, rfl, h2, ?_⟩)
  · have hKN : K < N := by omega
    refine ⟨fun i w' => ∃ I : Nat, i = I ∧ I ≤ M ∧ Ev w w' ∧ ON .u8 eB w' w.heap.size v (tab xs.length fun q => if q < K * M + I then apAt xs N M q else rd xs q), fun i _ => M - i.toNat, ⟨0, rfl, by omega, h2, hO2⟩, ?_⟩
    rintro _ i w3 ⟨I, rfl, hI, h3, hO3⟩
    refine gIf_dec (fun hil => ?_) (fun hig => ?_)
    · obtain ⟨g1, g2, g3⟩ := grid (n := N) (m := M) (i := I) (k := K) (by omega) hKN
      obtain ⟨g4, g5, g6⟩ := grid (n := M) (m := N) (i := K) (k := I) hKN (by omega)
      rw [Nat.mul_comm M N] at g4
      have hIN : I * N ≤ 1000000000 := by omega
      have hKM : K * M ≤ 1000000000 := by omega
      rw [show i64 ((I : Int) * (N : Int)) = ((I * N : Nat) : Int) by rw [← Int.natCast_mul]; exact i64_id (by omega) (by omega), show i64 (((I * N : Nat) : Int) + K) = ((I * N + K : Nat) : Int) by rw [i64_id (by omega) (by omega)]; omega,
        show i64 ((K : Int) * (M : Int)) = ((K * M : Nat) : Int) by rw [← Int.natCast_mul]; exact i64_id (by omega) (by omega), show i64 (((K * M : Nat) : Int) + I) = ((K * M + I : Nat) : Int) by rw [i64_id (by omega) (by omega)]; omega, i64_id (n := (I : Int) + 1) (by omega) (by omega)]
      refine gIdx_nm (hb.ev h3) (by omega) (by omega) fun a1 c1 _ => gLoad_i c1 (gIdx_on hO3 (by omega) (by rw [tab_len]; omega) fun a2 s2 _ => gStore_on hO3 s2 (by omega) (by rw [tab_len]; omega) (u8i (rd_u8 hb.2 _)) fun w4 h4 _ hO4 => ⟨⟨I + 1, by omega, by omega, h3.new h4 fun g _ hg => (hO3.base hg).1, ?_⟩, by dsimp only; omega⟩)
      rw [Int.toNat_natCast, tab_set (by omega)] at hO4
      rw [show (tab xs.length fun q => if q < K * M + (I + 1) then apAt xs N M q else rd xs q) = tab xs.length fun q => if q = K * M + I then rd xs ((I * N + K : Nat) : Int) else if q < K * M + I then apAt xs N M q else rd xs q from tab_ext fun q hq => by
        by_cases e : q = K * M + I
        · subst e
          rw [if_pos rfl, if_pos (by omega), apAt, if_pos g4, g5, g6]
        · rw [if_neg e]
          by_cases e3 : q < K * M + I
          · rw [if_pos e3, if_pos (by omega)]
          · rw [if_neg e3, if_neg (by omega)]]
      exact hO4
    · have : I = M := by omega
      subst this
      rw [i64_id (n := (K : Int) + 1) (by omega) (by omega)]
      exact ⟨⟨K + 1, by omega, by omega, h3, by rw [Nat.succ_mul]; exact hO3⟩, by dsimp only; omega⟩
  · have : K = N := by omega
    subst this
    rw [show tab xs.length (apAt xs K M) = tab xs.length fun q => if q < K * M then apAt xs K M q else rd xs q from tab_ext fun q hq => by
      by_cases e : q < K * M
      · rw [if_pos e]
      · rw [if_neg e, apAt, if_neg e]]
    exact hO2
theorem Together_any {b : Value} {xs : List Int} {n : Int} {w : World} (hb : Nm .u8 w b xs) (hl : xs.length ≤ 1000000000) : Calls P n_colour_Together #[b, .int .i64 n] w (NewB w (togetherL xs (cl16 n))) := by
  refine of_colour_Together (gLen_nm hb ?_)
  rw [cl16_eq]
  have hn := cl16_bd n
  generalize cl16 n = N at hn
  refine gBin_quo (by omega) ?_
  rw [quo_nat hl]
  unfold togetherL
  have hm := Nat.div_mul_le_self xs.length N
  rw [Nat.mul_comm] at hm
  have hmle : xs.length / N ≤ xs.length := Nat.div_le_self _ _
  generalize xs.length / N = M at *
  refine gApp_on (ON.nil .u8 eB w w.heap.size) hb (by simp; omega) (Nat.le_refl _) fun v w1 hO hc hmv => ?_
  have h1 : Ev w w1 := hc.mono fun _ _ _ hh => by cases hh
  rw [List.nil_append] at hO
  refine ⟨fun k w' => ∃ K : Nat, k = K ∧ K ≤ N ∧ Ev w w' ∧ ON .u8 eB w' w.heap.size v (tab xs.length fun q => if q < N * M ∧ q % N < K then toAt xs N M q else rd xs q), fun k _ => N - k.toNat, ⟨0, rfl, by omega, h1, ?_⟩, ?_⟩
  · rw [show (tab xs.length fun q => if q < N * M ∧ q % N < 0 then toAt xs N M q else rd xs q) = xs by
      conv => rhs; rw [← tab_rd xs]
      exact tab_ext fun q _ => by rw [if_neg (by omega)]]
    exact hO
  rintro _ k w2 ⟨K, rfl, hK, h2, hO2⟩
  refine gIf_dec (fun hlt => ?_) (fun hge => ⟨v, rfl, h2, ?_⟩)
  · have hKN : K < N := by omega
    refine ⟨fun i w' => ∃ I : Nat, i = I ∧ I ≤ M ∧ Ev w w' ∧ ON .u8 eB w' w.heap.size v (tab xs.length fun q => if q < N * M ∧ (q % N < K ∨ q % N = K ∧ q / N < I) then toAt xs N M q else rd xs q), fun i _ => M - i.toNat, ⟨0, rfl, by omega, h2, ?_⟩, ?_⟩
    · rw [show (tab xs.length fun q => if q < N * M ∧ (q % N < K ∨ q % N = K ∧ q / N < 0) then toAt xs N M q else rd xs q) = tab xs.length fun q => if q < N * M ∧ q % N < K then toAt xs N M q else rd xs q from tab_ext fun q _ => by
        by_cases e : q < N * M ∧ q % N < K
        · rw [if_pos e, if_pos ⟨e.1, .inl e.2⟩]
        · rw [if_neg e, if_neg (fun hh => hh.2.elim (fun h => e ⟨hh.1, h⟩) (fun h => Nat.not_lt_zero _ h.2))]]
      exact hO2
    rintro _ i w3 ⟨I, rfl, hI, h3, hO3⟩
    refine gIf_dec (fun hil => ?_) (fun hig => ?_)
    · obtain ⟨g1, g2, g3⟩ := grid (n := N) (m := M) (i := I) (k := K) (by omega) hKN
      obtain ⟨g4, g5, g6⟩ := grid (n := M) (m := N) (i := K) (k := I) hKN (by omega)
      rw [Nat.mul_comm M N] at g4
      have hIN : I * N ≤ 1000000000 := by omega
      have hKM : K * M ≤ 1000000000 := by omega
      rw [show i64 ((I : Int) * (N : Int)) = ((I * N : Nat) : Int) by rw [← Int.natCast_mul]; exact i64_id (by omega) (by omega), show i64 (((I * N : Nat) : Int) + K) = ((I * N + K : Nat) : Int) by rw [i64_id (by omega) (by omega)]; omega,
        show i64 ((K : Int) * (M : Int)) = ((K * M : Nat) : Int) by rw [← Int.natCast_mul]; exact i64_id (by omega) (by omega), show i64 (((K * M : Nat) : Int) + I) = ((K * M + I : Nat) : Int) by rw [i64_id (by omega) (by omega)]; omega, i64_id (n := (I : Int) + 1) (by omega) (by omega)]
      refine gIdx_nm (hb.ev h3) (by omega) (by omega) fun a1 c1 _ => gLoad_i c1 (gIdx_on hO3 (by omega) (by rw [tab_len]; omega) fun a2 s2 _ => gStore_on hO3 s2 (by omega) (by rw [tab_len]; omega) (u8i (rd_u8 hb.2 _)) fun w4 h4 _ hO4 => ⟨⟨I + 1, by omega, by omega, h3.new h4 fun g _ hg => (hO3.base hg).1, ?_⟩, by dsimp only; omega⟩)
      rw [Int.toNat_natCast, tab_set (by omega)] at hO4
      rw [show (tab xs.length fun q => if q < N * M ∧ (q % N < K ∨ q % N = K ∧ q / N < I + 1) then toAt xs N M q else rd xs q) = tab xs.length fun q => if q = I * N + K then rd xs ((K * M + I : Nat) : Int) else if q < N * M ∧ (q % N < K ∨ q % N = K ∧ q / N < I) then toAt xs N M q else rd xs q from tab_ext fun q hq => by
        by_cases e : q = I * N + K
        · subst e
          rw [if_pos rfl, if_pos ⟨g1, .inr ⟨g2, by omega⟩⟩, toAt, if_pos g1, g2, g3]
        · rw [if_neg e]
          by_cases e3 : q < N * M ∧ (q % N < K ∨ q % N = K ∧ q / N < I)
          · rw [if_pos e3, if_pos ⟨e3.1, e3.2.elim .inl fun h => .inr ⟨h.1, by omega⟩⟩]
          · have : ¬ (q < N * M ∧ (q % N < K ∨ q % N = K ∧ q / N < I + 1)) := fun hh => e3 ⟨hh.1, hh.2.elim .inl fun h => .inr ⟨h.1, by
              have hd := Nat.div_add_mod q N
              rcases Nat.lt_or_ge (q / N) I with h4 | h4
              · exact h4
              · exfalso
                have : q / N = I := by omega
                rw [this, h.1, Nat.mul_comm] at hd
                exact e hd.symm⟩⟩
            rw [if_neg e3, if_neg this]]
      exact hO4
    · have : I = M := by omega
      subst this
      rw [i64_id (n := (K : Int) + 1) (by omega) (by omega)]
      refine ⟨⟨K + 1, by omega, by omega, h3, ?_⟩, by dsimp only; omega⟩
      rw [show (tab xs.length fun q => if q < N * I ∧ q % N < K + 1 then toAt xs N I q else rd xs q) = tab xs.length fun q => if q < N * I ∧ (q % N < K ∨ q % N = K ∧ q / N < I) then toAt xs N I q else rd xs q from tab_ext fun q hq => by
        by_cases e : q < N * I ∧ q % N < K + 1
        · have hd : q / N < I := by rw [Nat.div_lt_iff_lt_mul (by omega), Nat.mul_comm]; exact e.1
          have : q % N < K ∨ q % N = K ∧ q / N < I := by
            rcases Nat.lt_or_ge (q % N) K with h | h
            · exact .inl h
            · exact .inr ⟨by omega, hd⟩
          rw [if_pos e, if_pos ⟨e.1, this⟩]
        · rw [if_neg e, if_neg (fun hh => e ⟨hh.1, by rcases hh.2 with h | h <;> omega⟩)]]
      exact hO3
  · have : K = N := by omega
    subst this
    rw [show tab xs.length (toAt xs K M) = tab xs.length fun q => if q < K * M ∧ q % K < K then toAt xs K M q else rd xs q from tab_ext fun q hq => by
      have hk := Nat.mod_lt q (show K > 0 by omega)
      by_cases e : q < K * M
      · rw [if_pos ⟨e, hk⟩]
      · rw [if_neg (fun hh => e hh.1), toAt, if_neg e]]
    exact hO2
end Go.Proofs.YtilpoinhfiajcaaGreatDoorV

/- The law NumBack. -/
namespace Go.Proofs.YtilpoinhfiajcaaGreatDoorV
open Go Go.RowKit

/-- A reader in memory that is new since w0. -/
def FR (w0 w : World) (ad : Addr) (xs : List Int) (a : Nat) (er : Int) : Prop := ∃ b, Rd w ad b xs a er ∧ Ev w0 w ∧ w0.heap.size ≤ ad.block
theorem FR.to {w0 w w' : World} {ad : Addr} {b : Value} {xs : List Int} {a : Nat} {er : Int} (h1 : Ev w0 w) (h2 : w0.heap.size ≤ ad.block) (h : RS w w' ad b xs a er) : FR w0 w' ad xs a er :=
  ⟨b, h.1, h1.new h.2 fun n i hh => by rw [hh.1]; exact h2, h2⟩
theorem FR.ev {w0 w w' : World} {ad : Addr} {xs : List Int} {a : Nat} {er : Int} (h : FR w0 w ad xs a er) (he : Ev w w') : FR w0 w' ad xs a er := by
  obtain ⟨b, h1, h2, h3⟩ := h; exact ⟨b, h1.ev he, h2.trans he, h3⟩
theorem FR.old {w0 w : World} {ad : Addr} {xs : List Int} {a : Nat} {er : Int} (h : FR w0 w ad xs a er) : Ev w0 w := by obtain ⟨_, _, h, _⟩ := h; exact h
theorem FR.u8 {w0 w : World} {ad : Addr} {xs : List Int} {a : Nat} {er : Int} (h : FR w0 w ad xs a er) : inR .u8 xs := by obtain ⟨_, h, _⟩ := h; exact h.2.1.2
theorem FWr.old {w0 w : World} {ad : Addr} {xs : List Int} (h : FWr w0 w ad xs) : Ev w0 w := by obtain ⟨_, _, h, _⟩ := h; exact h
end Go.Proofs.YtilpoinhfiajcaaGreatDoorV

/- Package table: Pack and Unpack; the law TableBack. -/
namespace Go.Proofs.YtilpoinhfiajcaaGreatDoorV
open Go Go.RowKit
theorem widI_bd (xs : List Int) : widI xs = 0 ∨ (2 ≤ widI xs ∧ widI xs ≤ 16 ∧ 4 * widI xs ≤ xs.length) := by
  have : ∀ W, (widN xs W).1 = 0 ∨ (2 ≤ (widN xs W).1 ∧ (widN xs W).1 < W ∧ 4 * (widN xs W).1 ≤ xs.length) := by
    intro W
    induction W with
    | zero => simp [widN]
    | succ W ih =>
      rw [widN]; split
      · exact .inr ⟨by dsimp only; omega, by dsimp only; omega, by dsimp only; omega⟩
      · rcases ih with h | h
        · exact .inl h
        · exact .inr ⟨h.1, by omega, h.2.2⟩
  have h := this 17
  unfold widI; omega
def packOk (xs : List Int) : Bool := decide (widI xs ≠ 0) && decide (xs.length ≤ 1048576)
def packL (xs : List Int) : List Int := numB (widI xs).toNat ++ numB xs.length ++ apartL (deltaL xs (wOf (widI xs))) (cl16 (widI xs))
theorem deltaL_len (xs : List Int) (W : Nat) : (deltaL xs W).length = xs.length := tab_len _ _
def PackE (w : World) (xs : List Int) (e : Ending) (w' : World) : Prop := Ev w w' ∧ if packOk xs then ∃ v, e = .returned (.tuple #[v, .bool true]) ∧ ON .u8 eB w' w.heap.size v (packL xs) else e = .returned (.tuple #[.slice none 0 0, .bool false])
theorem tPack_any {b : Value} {xs : List Int} {w : World} (hb : Nm .u8 w b xs) (hl : xs.length ≤ 1000000000) : Calls P n_table_Pack #[b] w (PackE w xs) := by
  refine of_table_Pack (gCall_i (Width_any hb hl) fun w1 h1 => ?_)
  have hwb := widI_bd xs
  refine ⟨fun w' => packOk xs = true ∧ w' = w1, gIf_neqq (fun hne => gLen_nm hb (gIf_dec (fun hg => ⟨h1, ?_⟩) (fun hle => ⟨?_, rfl⟩))) (fun h0 => ⟨h1, ?_⟩), ?_⟩
  · rw [if_neg (by simp [packOk]; omega)]
  · simp [packOk, hne]; omega
  · rw [if_neg (by simp [packOk, h0])]
  rintro _ _ ⟨hok, rfl⟩
  have hok2 : widI xs ≠ 0 ∧ xs.length ≤ 1048576 := by simpa [packOk] using hok
  have hw2 : 2 ≤ widI xs ∧ widI xs ≤ 16 := by omega
  have fin : ∀ {z : Value} {w' : World}, Ev w w' → ON .u8 eB w' w.heap.size z (packL xs) → PackE w xs (.returned (.tuple #[z, .bool true])) w' := fun {z w'} a b => ⟨a, by rw [if_pos hok]; exact ⟨z, rfl, b⟩⟩
  have l1 := numB_len64 (n := (widI xs).toNat) (by omega)
  have l2 := numB_len64 (n := xs.length) (by omega)
  rename_i w1
  refine newW (Ch.refl _ w1) fun ad w2 h2 => ?_
  rw [show u64 (widI xs) = widI xs by rw [u64_def]; omega]
  refine lNum h2 (by omega) (by simp) fun w3 h3 => gLen_nm hb ?_
  rw [show u64 (xs.length : Int) = xs.length by rw [u64_def]; omega]
  refine lNum h3 (by omega) (by rw [List.nil_append]; omega) fun w4 h4 => ?_
  obtain ⟨v, hv, e4, ha4, hv4⟩ := h4
  rw [List.nil_append, Int.toNat_natCast] at hv
  refine gCall_v (Delta_any (hb.ev (h1.trans e4)) hl (by omega)) fun d w5 ⟨h5, od⟩ => gCall_v (Apart_any od.nm (by rw [deltaL_len]; exact hl)) fun y w6 ⟨h6, oy⟩ => ?_
  have e46 : Ev w4 w6 := h5.trans h6
  have hlt4 : ∀ {g i : Nat}, Ft ad v g i → g < w4.heap.size := fun hf => hv.lt hf
  refine raw1_any (hv.ev e46) (oy.nm.stab fun g i hg _ hf => ?_) (by rw [List.length_append, apartL_len, deltaL_len]; omega) fun v2 w7 hW => ?_
  · have := (oy.base hg).1; have := hlt4 (i := i) hf; have := h5.size; omega
  have hF : FWr w1 w7 ad _ := FWr.to (e4.trans e46) ha4 hv4 ⟨v2, hW⟩
  refine lBytes hF (by rw [List.length_append, List.length_append, apartL_len, deltaL_len]; omega) fun z w8 h8 oz => fin (h1.trans (hF.old.trans h8)) (oz.low ?_)
  exact Nat.le_trans h1.size (hF.old.size)
/-- What Unpack tells. -/
def unpackT (x : List Int) (most : Int) : List Int × Int :=
  let p := numR x 0 0 18446744073709551615
  let q := numR x p.2.1 p.2.2 18446744073709551615
  if q.2.2 ≠ 0 then ([], q.2.2)
  else if p.1 < 2 ∨ p.1 > 16 then ([], 4)
  else if q.1 > (if 0 > most then 0 else most) ∨ q.1 > 1048576 then ([], 5)
  else if (x.length : Int) - q.2.1 ≠ q.1 then ([], 4)
  else (undeltaL (togetherL (rawR x q.2.1 0 q.1).1 (cl16 p.1)) (wOf p.1), 0)
theorem tUnpack_any {x : Value} {xs : List Int} {most : Int} {w : World} (hx : Nm .u8 w x xs) (hl : xs.length ≤ 1000000000) (hm : most ≤ 9223372036854775807) : Calls P n_table_Unpack #[x, .int .i64 most] w (TupE w (unpackT xs most)) := by
  refine of_table_Unpack (gCall_of (rNew_any hx (by omega)) ?_)
  rintro _ w1 ⟨ad, y, rfl, h1, had, hR⟩
  refine ⟨some ad, rfl, gAlloc_of (z := .agg #[.pointer none]) (by kernel_rfl) fun u6 w2 h2 hu6 _ hS => gStore_agg0 hS (by simp [Value.cells]) (by simp; rfl) (fun w3 h3 _ hS3 => ?_) (by kernel_rfl)⟩
  have e3 : Ev w1 w3 := h2.new h3 fun n i hh => by rw [hh.1, hu6]; exact Nat.le_refl _
  have hub : u6.block = w1.heap.size := by rw [hu6]
  have hadlt := hR.1.lt
  have hSu : St w3 u6 [.pointer (some ad)] := hS3
  have hR3 := hR.ev e3
  -- a step of the reader leaves the struct
  have keep : ∀ {wa wb : World} {a : Nat} {er : Int}, St wa u6 [.pointer (some ad)] → RS wa wb ad y xs a er → St wb u6 [.pointer (some ad)] := fun h hs => h.ch hs.2 fun _ _ hh => by have := hh.1; omega
  have p1 := numR_rng (xs := xs) (a := 0) (er := 0) (most := 18446744073709551615) hx.2
  unfold unpackT
  refine ⟨fun w' => St w' u6 [.pointer (some ad)], hSu.drew, ?_⟩
  rw [Addr.add_zero']
  have c0 : ∀ {w' : World}, St w' u6 [.pointer (some ad)] → w'.cell? u6 = some (.pointer (some ad)) := fun h => by have := h.cell (j := 0) rfl; rwa [Addr.add_zero'] at this
  refine gLoadB_p (fun w' h => c0 h) (gLoadB_p (fun w' h => c0 h) (gCall_i (rNum_any hR3.drew) fun w4 h4 => ?_))
  dsimp only
  generalize numR xs 0 0 18446744073709551615 = p at *
  have p2 := numR_rng (xs := xs) (a := p.2.1) (er := p.2.2) (most := 18446744073709551615) hx.2
  have hS4 := keep hSu.drew h4
  refine ⟨hS4, gCall_i (rNum_any h4.1) fun w5 h5 => ?_⟩
  generalize numR xs p.2.1 p.2.2 18446744073709551615 = q at *
  have hS5 := keep hS4 h5
  have e5 : RS w3.drew w5 ad y xs q.2.1 q.2.2 := h4.trans h5
  have f5 : Ev w w5 := Ev.new (h1.trans e3).drew e5.2 fun n i hh => by rw [hh.1]; exact had
  refine ⟨hS5, fun w' => (q.2.2 = 0 ∧ ¬ (p.1 < 2 ∨ p.1 > 16) ∧ ¬ (q.1 > (if 0 > most then 0 else most) ∨ q.1 > 1048576) ∧ ¬ ((xs.length : Int) - q.2.1 ≠ q.1)) ∧ Rd w' ad y xs q.2.1 q.2.2 ∧ St w' u6 [.pointer (some ad)] ∧ Ev w w', ?_, ?_⟩
  · refine gLoad_p (c0 hS5) (gCall_i0 (rErr_any e5.1) (gIf_neq (fun hne => gLoad_p (c0 hS5) (gCall_i0 (rErr_any e5.1) ?_)) (fun he => ?_)))
    · rw [if_pos hne]; exact ⟨_, rfl, f5, ON.nil _ _ _ _⟩
    rw [if_neg (by omega)]
    refine ⟨fun t w' => t = decide (p.1 < 2 ∨ p.1 > 16) ∧ w' = w5, gIf_ndec (fun h => ⟨by simp only [h, false_or], rfl⟩) (fun h => ⟨by simp [h], rfl⟩), ?_⟩
    rintro _ t _ ⟨rfl, rfl⟩
    refine gIf_dec (fun h => ?_) (fun hw => ?_)
    · rw [if_pos h]; exact ⟨_, rfl, f5, ON.nil _ _ _ _⟩
    rw [if_neg hw]
    have hm0 : 0 ≤ (if 0 > most then 0 else most) ∧ (if 0 > most then 0 else most) ≤ 9223372036854775807 := by split <;> omega
    generalize (if 0 > most then 0 else most) = mm at *
    rw [show u64 mm = mm by rw [u64_def]; omega]
    refine gIf_ndec (fun h1' => gIf_dec (fun h2' => ?_) (fun h2' => ?_)) (fun h1' => ?_)
    · rw [if_pos (.inr h2')]; exact ⟨_, rfl, f5, ON.nil _ _ _ _⟩
    · have hno : ¬ (q.1 > mm ∨ q.1 > 1048576) := fun h => h.elim h1' h2'
      rw [if_neg hno]
      have hat := e5.1.2.2.2.1
      refine gLoad_p (c0 hS5) (gCall_i (rLeft_any e5.1) fun w6 h6 => ?_)
      rw [show u64 ((xs.length : Int) - q.2.1) = (xs.length : Int) - q.2.1 by rw [u64_def]; omega]
      refine gIf_neq (fun hne => ?_) (fun heq => ?_)
      · rw [if_pos hne]; exact ⟨_, rfl, f5.trans h6, ON.nil _ _ _ _⟩
      · exact ⟨⟨he, hw, hno, fun h => h heq⟩, e5.1.ev h6, hS5.ev h6, f5.trans h6⟩
    · rw [if_pos (.inl h1')]; exact ⟨_, rfl, f5, ON.nil _ _ _ _⟩
  · rintro _ w10 ⟨⟨he, hw, hno, hne⟩, hR10, hS10, h10⟩
    rw [if_neg (by omega), if_neg hw, if_neg hno, if_neg hne]
    have hq : q.1 ≤ 1048576 := by omega
    rw [i64_id (n := q.1) (by omega) (by omega), i64_id (n := p.1) (by omega) (by omega)]
    refine gLoad_p (c0 hS10) (gCall_of (rRaw_any hR10 (by omega)) ?_)
    rw [he]
    have hrl := rawR_len (xs := xs) (a := q.2.1) (er := 0) (n := q.1) (m := q.1.toNat) (by omega)
    generalize rawR xs q.2.1 0 q.1 = r at *
    rintro _ w11 ⟨z, rfl, h11, oz⟩
    have f11 : Ev w w11 := h10.new h11.2 fun n i hh => by rw [hh.1]; exact had
    refine ⟨z, rfl, gCall_v (Together_any oz.nm (by omega)) fun t w12 ⟨h12, ot⟩ => gCall_v (Undelta_any ot.nm (by rw [togetherL_len]; omega) (by omega)) fun u w13 ⟨h13, ou⟩ => ⟨u, rfl, f11.trans (h12.trans h13), ou.low ?_⟩⟩
    exact (f11.trans h12).size
end Go.Proofs.YtilpoinhfiajcaaGreatDoorV

/- Strings: parts of them, Index, Contains, Count at one byte, Split. -/
namespace Go.Proofs.YtilpoinhfiajcaaGreatDoorV
open Go Go.RowKit
def mkS (l : List UInt8) : ByteArray := ⟨l.toArray⟩
theorem mkS_data (l : List UInt8) : (mkS l).data.toList = l := by simp [mkS]
theorem mkS_size (l : List UInt8) : (mkS l).size = l.length := by show l.toArray.size = _; simp
theorem tl_mk (l : List UInt8) : (mkS l).toList = l := by rw [ByteArray.toList_eq]; simp [mkS]
section
variable {P : Program} {w : World}
end
/-- A slice of strings. -/
def Ss (w : World) (v : Value) (ss : List ByteArray) : Prop := Sl w 1 v ss.length (ss.map .string)
theorem Ss.ev {w w' : World} {v : Value} {ss : List ByteArray} (h : Ss w v ss) (he : Ev w w') : Ss w' v ss := Sl.ev h he
section
variable {w : World}
end
end Go.Proofs.YtilpoinhfiajcaaGreatDoorV
