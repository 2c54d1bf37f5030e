/- Package sha: a block is taken. -/
import Derived.Test.YtealfhjchlkiiaaVArr
namespace Go.Proofs.YtealfhjchlkiiaaV
open Go Go.RowKit
theorem len8 {α : Type} {xs : List α} (h : xs.length = 8) : ∃ a b c d e f g k, xs = [a, b, c, d, e, f, g, k] := by
  match xs, h with
  | [a, b, c, d, e, f, g, k], _ => exact ⟨a, b, c, d, e, f, g, k, rfl⟩
def turnF (v : Int) (n : Nat) : Int := iOr .u32 (iShl .u32 v ((32 - n : Nat) : Int)) (iShr .u32 v (n : Int))
def w16 (bs : List Int) (i : Nat) : Int := iOr .u32 (iOr .u32 (iOr .u32 (iShl .u32 (rd bs ((4 * i : Nat) : Int)) 24) (iShl .u32 (rd bs ((4 * i + 1 : Nat) : Int)) 16)) (iShl .u32 (rd bs ((4 * i + 2 : Nat) : Int)) 8)) (rd bs ((4 * i + 3 : Nat) : Int))
def extF (ws : List Int) (i : Nat) : Int :=
  let x := rd ws ((i - 15 : Nat) : Int)
  let y := rd ws ((i - 2 : Nat) : Int)
  u32 (u32 (u32 (rd ws ((i - 16 : Nat) : Int) + rd ws ((i - 7 : Nat) : Int)) + iXor .u32 (iXor .u32 (turnF x 7) (turnF x 18)) (iShr .u32 x 3)) + iXor .u32 (iXor .u32 (turnF y 17) (turnF y 19)) (iShr .u32 y 10))
/-- The numbers of a block's rounds. -/
def schF (bs : List Int) : Nat → List Int
  | 0 => []
  | k + 1 => schF bs k ++ [if k < 16 then w16 bs k else extF (schF bs k) k]
def roundF : List Int → Int → Int → List Int
  | [a, b, c, d, e, f, g, h], k, w =>
    let t := u32 (u32 (u32 (u32 (h + iXor .u32 (iXor .u32 (turnF e 6) (turnF e 11)) (turnF e 25)) + iXor .u32 (iAnd .u32 e f) (iAnd .u32 (iXor .u32 4294967295 e) g)) + k) + w)
    [u32 (t + u32 (iXor .u32 (iXor .u32 (turnF a 2) (turnF a 13)) (turnF a 22) + iXor .u32 (iXor .u32 (iAnd .u32 a b) (iAnd .u32 a c)) (iAnd .u32 b c))), a, b, c, u32 (d + t), e, f, g]
  | l, _, _ => l
def rndsF (ks ws hs : List Int) : Nat → List Int
  | 0 => hs
  | j + 1 => roundF (rndsF ks ws hs j) (rd ks (j : Int)) (rd ws (j : Int))
/-- The state behind a block. -/
def cmpF (ks hs bs : List Int) : List Int := List.zipWith (fun x y => u32 (x + y)) hs (rndsF ks (schF bs 64) hs 64)
theorem schF_len (bs : List Int) : ∀ k, (schF bs k).length = k
  | 0 => rfl
  | k + 1 => by simp [schF, schF_len bs k]
theorem roundF_len {hs : List Int} (h : hs.length = 8) (k w : Int) : (roundF hs k w).length = 8 := by
  obtain ⟨a, b, c, d, e, f, g, i, rfl⟩ := len8 h; rfl
theorem rndsF_len (ks ws : List Int) {hs : List Int} (h : hs.length = 8) : ∀ j, (rndsF ks ws hs j).length = 8
  | 0 => h
  | j + 1 => roundF_len (rndsF_len ks ws h j) _ _
theorem cmpF_len (ks bs : List Int) {hs : List Int} (h : hs.length = 8) : (cmpF ks hs bs).length = 8 := by
  unfold cmpF; rw [List.length_zipWith, h, rndsF_len _ _ h]; rfl
theorem iOr_rng (a b : Int) : 0 ≤ iOr .u32 a b ∧ iOr .u32 a b < 4294967296 := by unfold iOr; show 0 ≤ u32 _ ∧ u32 _ < _; rw [u32_def]; omega
theorem iXor_rng (a b : Int) : 0 ≤ iXor .u32 a b ∧ iXor .u32 a b < 4294967296 := by unfold iXor; show 0 ≤ u32 _ ∧ u32 _ < _; rw [u32_def]; omega
theorem u32_rng' (a : Int) : 0 ≤ u32 a ∧ u32 a < 4294967296 := by rw [u32_def]; omega
theorem rd_pad {xs ys : List Int} {i : Nat} (h : i < xs.length) : rd (xs ++ ys) (i : Int) = rd xs (i : Int) := by
  unfold rd; rw [Int.toNat_natCast, List.getD_eq_getElem?_getD, List.getD_eq_getElem?_getD, List.getElem?_append_left h]
theorem set_pad {xs : List Int} {k n : Nat} (hk : xs.length = k) (hn : k < n) (x : Int) : (xs ++ List.replicate (n - k) 0).set k x = xs ++ [x] ++ List.replicate (n - (k + 1)) 0 := by
  rw [List.set_append_right _ _ (by omega), show n - k = (n - (k + 1)) + 1 by omega, List.replicate_succ, hk, Nat.sub_self, List.set_cons_zero, List.append_assoc]; rfl
theorem rd_mapget {k : IntKind} {xs : List Int} {j : Nat} (h : j < xs.length) : (xs.map (Value.int k))[j]? = some (.int k (rd xs (j : Int))) := by
  rw [List.getElem?_map, List.getElem?_eq_getElem h, rd_nat xs j h]; rfl
theorem turn_any {v : Int} {n : Nat} {w : World} (h1 : 1 ≤ n) (h2 : n ≤ 31) : Calls P n_sha_turn #[.int .u32 v, .int .i64 n] w (fun e w' => e = .returned (.int .u32 (turnF v n)) ∧ w' = w) := by
  have ek : iAnd .u64 (u64 (i64 (0 - (n : Int)))) 31 = ((32 - n : Nat) : Int) := by
    rw [i64_id (by omega) (by omega)]
    have hu := u64_def (0 - (n : Int))
    have := iAnd_mask (k := .u64) (a := u64 (0 - (n : Int))) (m := 5) (n := 31) rfl (by omega) (by rw [show (2 : Int) ^ IntKind.u64.bits = 18446744073709551616 by decide]; omega) rfl (by decide)
    rw [show ((31 : Nat) : Int) = 31 from rfl, show ((2 ^ 5 : Nat) : Int) = 32 from rfl] at this
    rw [this, hu]; omega
  refine of_sha_turn (gCall_i0 (n := turnF v n) (of_math_bits_RotateLeft32 ?_) ⟨rfl, rfl⟩)
  rw [ek]
  refine gBin_shl (by omega) (gBin_shr (by rw [u64_def]; omega) ⟨?_, rfl⟩)
  unfold turnF
  rw [show u64 (32 - ((32 - n : Nat) : Int)) = (n : Int) by rw [u64_def]; omega]
theorem zero64 : (Value.agg (Array.replicate 64 (.int .u32 0))).cells.toList = List.replicate 64 (.int .u32 0) := Array.toList_replicate
theorem take_any {ad ka : Addr} {b : Value} {hs ks bs : List Int} {w : World} (hS : St w ad (hs.map (.int .u32))) (hl : hs.length = 8) (hK : St w ka (ks.map (.int .u32))) (hkl : ks.length = 64) (hb : Nm .u8 w b bs) (hbl : bs.length = 64) :
    Calls P n_sha_state_take #[.pointer (some ad), b, .pointer (some ka)] w (fun e w' => e = .returned (.tuple #[]) ∧ Ch (Rg ad 8) w w' ∧ St w' ad ((cmpF ks hs bs).map (.int .u32))) := by
  refine of_sha_state_take (fAlloc (z := .agg (Array.replicate 64 (.int .u32 0))) (Fr.start w) (by kernel_rfl) fun w6 w1 f1 => ?_)
  rw [zero64] at f1
  have e0 : List.replicate 64 (Value.int .u32 0) = ((schF bs 0 ++ List.replicate (64 - 0) 0).map (.int .u32)) := by rw [schF, List.nil_append, List.map_replicate]
  rw [e0] at f1
  refine ⟨fun i w' => ∃ j : Nat, i = j ∧ j ≤ 16 ∧ Fr w w' [sIt w6 ((schF bs j ++ List.replicate (64 - j) 0).map (.int .u32))], fun i _ => 16 - i.toNat, ⟨0, rfl, by omega, f1⟩, ?_⟩
  rintro _ i w2 ⟨j, rfl, hj, f2⟩
  have hjl := schF_len bs j
  refine gIf_dec (fun hlt => ?_) (fun hge => ?_)
  · have hlt' : j < 16 := by omega
    have e4 : i64 (4 * (j : Int)) = ((4 * j : Nat) : Int) := by rw [i64_id (by omega) (by omega)]; omega
    rw [e4, show i64 (((4 * j : Nat) : Int) + 1) = ((4 * j + 1 : Nat) : Int) by rw [i64_id (by omega) (by omega)]; omega, show i64 (((4 * j : Nat) : Int) + 2) = ((4 * j + 2 : Nat) : Int) by rw [i64_id (by omega) (by omega)]; omega, show i64 (((4 * j : Nat) : Int) + 3) = ((4 * j + 3 : Nat) : Int) by rw [i64_id (by omega) (by omega)]; omega, i64_id (n := (j : Int) + 1) (by omega) (by omega)]
    have hb2 := hb.ev f2.old
    have hby : ∀ q : Int, u32 (rd bs q) = rd bs q := fun q => by have := rd_u8 hb.2 q; rw [u32_def]; omega
    refine ⟨fun _ => True, fun w' => w' = w2.drew, ⟨trivial, rfl⟩, gIdx_nm hb2 (by omega) (by omega) fun a1 c1 _ => gLoadB_i (at1 c1) (gIdx_nm hb2 (by omega) (by omega) fun a2 c2 _ => gLoadB_i (at1 c2) (gIdx_nm hb2 (by omega) (by omega) fun a3 c3 _ => gLoadB_i (at1 c3) (gIdx_nm hb2 (by omega) (by omega) fun a4 c4 _ => gLoadB_i (at1 c4) (gIdx_ar1 64 j rfl (by omega) ?_))))⟩
    rw [hby, hby, hby, hby]
    refine fStore f2.drew 0 j rfl (fun w3 f3 => ⟨trivial, ⟨j + 1, by omega, by omega, ?_⟩, by dsimp only; omega⟩) (by simp [hjl]; omega)
    have e : (schF bs (j + 1) ++ List.replicate (64 - (j + 1)) 0).map (Value.int .u32) = ((schF bs j ++ List.replicate (64 - j) 0).map (Value.int .u32)).set j (.int .u32 (w16 bs j)) := by
      rw [← List.map_set, set_pad hjl (by omega), schF, if_pos hlt']
    rw [e]; exact f3
  have hj16 : j = 16 := by omega
  subst hj16
  refine ⟨fun i w' => ∃ j : Nat, i = j ∧ 16 ≤ j ∧ j ≤ 64 ∧ Fr w w' [sIt w6 ((schF bs j ++ List.replicate (64 - j) 0).map (.int .u32))], fun i _ => 64 - i.toNat, ?_, ?_⟩
  · exact ⟨16, rfl, by omega, by omega, f2⟩
  rintro _ i w3 ⟨j, rfl, hj16, hj, f3⟩
  have hjl := schF_len bs j
  have hpl : (schF bs j ++ List.replicate (64 - j) 0).length = 64 := by simp [hjl]; omega
  refine gIf_dec (fun hlt => ?_) (fun hge => ?_)
  · have hlt' : j < 64 := by omega
    have cell : ∀ {q : Nat}, q < j → w3.cell? (w6.add q) = some (.int .u32 (rd (schF bs j) (q : Int))) := fun {q} hq => by
      refine f3.cell 0 q rfl ?_
      rw [rd_mapget (by omega), rd_pad (by omega)]
    rw [show i64 ((j : Int) - 15) = ((j - 15 : Nat) : Int) by rw [i64_id (by omega) (by omega)]; omega, show i64 ((j : Int) - 2) = ((j - 2 : Nat) : Int) by rw [i64_id (by omega) (by omega)]; omega, show i64 ((j : Int) - 16) = ((j - 16 : Nat) : Int) by rw [i64_id (by omega) (by omega)]; omega, show i64 ((j : Int) - 7) = ((j - 7 : Nat) : Int) by rw [i64_id (by omega) (by omega)]; omega, i64_id (n := (j : Int) + 1) (by omega) (by omega)]
    refine gIdx_ar1 64 (j - 15) rfl (by omega) (gLoadB_i (at1 (cell (by omega))) (gIdx_ar1 64 (j - 2) rfl (by omega) (gLoadB_i (at1 (cell (by omega))) ?_)))
    refine ⟨fun _ => True, fun w' => w' = w3.drew.drew, ⟨trivial, rfl⟩, gIdx_ar1 64 (j - 16) rfl (by omega) (gLoadB_i (at1 (w := w3.drew) (cell (q := j - 16) (by omega))) (gIdx_ar1 64 (j - 7) rfl (by omega) (gLoadB_i (at1 (w := w3.drew) (cell (q := j - 7) (by omega))) ?_)))⟩
    refine gCall_i0 (turn_any (n := 7) (by decide) (by decide)) ⟨⟨trivial, rfl⟩, gCall_i0 (turn_any (n := 18) (by decide) (by decide)) ⟨⟨trivial, rfl⟩, gCall_i0 (turn_any (n := 17) (by decide) (by decide)) ⟨⟨trivial, rfl⟩, gCall_i0 (turn_any (n := 19) (by decide) (by decide)) ⟨⟨trivial, rfl⟩, gIdx_ar1 64 j rfl (by omega) ?_⟩⟩⟩⟩
    refine fStore f3.drew.drew 0 j rfl (fun w4 f4 => ⟨trivial, ⟨j + 1, by omega, by omega, by omega, ?_⟩, by dsimp only; omega⟩) (by rw [List.length_map, hpl]; omega)
    have e : (schF bs (j + 1) ++ List.replicate (64 - (j + 1)) 0).map (Value.int .u32) = ((schF bs j ++ List.replicate (64 - j) 0).map (Value.int .u32)).set j (.int .u32 (extF (schF bs j) j)) := by
      rw [← List.map_set, set_pad hjl (by omega), schF, if_neg (by omega)]
    rw [e]; exact f4
  have hj64 : j = 64 := by omega
  subst hj64
  rw [Nat.sub_self, List.replicate_zero, List.append_nil] at f3
  obtain ⟨a0, a1, a2, a3, a4, a5, a6, a7, rfl⟩ := len8 hl
  have hS3 := hS.ev f3.old
  have hwl := schF_len bs 64
  refine gNil_some (gLoad_agg ([a0, a1, a2, a3, a4, a5, a6, a7].map (Value.int .u32)) (fun j u hj => by rw [Addr.add_zero']; exact hS3.cell hj) ?_ rfl (by kernel_rfl))
  show gAlloc P t_ar8_uint32 w3 _
  refine fAlloc (z := .agg #[.int .u32 0, .int .u32 0, .int .u32 0, .int .u32 0, .int .u32 0, .int .u32 0, .int .u32 0, .int .u32 0]) f3 (by kernel_rfl) fun h11 w4 f4 => ?_
  refine fStoreA f4 0 rfl fun w5 f5 => ?_
  refine ⟨fun i w' => ∃ (j : Nat), i = j ∧ j ≤ 64 ∧ Fr w w' [sIt h11 ((rndsF ks (schF bs 64) [a0, a1, a2, a3, a4, a5, a6, a7] j).map (.int .u32)), sIt w6 ((schF bs 64).map (.int .u32))], fun i _ => 64 - i.toNat, ?_, ?_⟩
  · exact ⟨0, rfl, by omega, f5⟩
  · rintro _ i w7 ⟨j, rfl, hj, f7⟩
    have hrl := rndsF_len ks (schF bs 64) (hs := [a0, a1, a2, a3, a4, a5, a6, a7]) rfl j
    obtain ⟨a, b', c, d, e, f, g, h, hr⟩ := len8 hrl
    rw [hr] at f7
    refine gIf_dec (fun hlt => ?_) (fun hge => ?_)
    · have hlt' : j < 64 := by omega
      have hK7 := hK.ev f7.old
      have cs : ∀ {q : Nat} {x : Int}, ([a, b', c, d, e, f, g, h].map (Value.int .u32))[q]? = some (.int .u32 x) → w7.cell? (h11.add q) = some (.int .u32 x) := fun hq => f7.cell 0 _ rfl hq
      have cw : w7.cell? (w6.add j) = some (.int .u32 (rd (schF bs 64) (j : Int))) := f7.cell 1 j rfl (rd_mapget (by omega))
      have ck : w7.cell? (ka.add j) = some (.int .u32 (rd ks (j : Int))) := hK7.cell (rd_mapget (by omega))
      rw [i64_id (n := (j : Int) + 1) (by omega) (by omega)]
      refine gIdx_ar1 8 0 rfl (by decide) (gLoadB_i (at1 (cs (q := 0) rfl)) (gIdx_ar1 8 4 rfl (by decide) (gLoadB_i (at1 (cs (q := 4) rfl)) ⟨fun w' => w' = w7.drew.drew, rfl, ?_⟩)))
      refine gIdx_ar1 8 7 rfl (by decide) (gLoadB_i (at1 (w := w7.drew) (cs (q := 7) rfl)) (gIdx_ar1 8 5 rfl (by decide) (gLoadB_i (at1 (w := w7.drew) (cs (q := 5) rfl)) (gIdx_ar1 8 6 rfl (by decide) (gLoadB_i (at1 (w := w7.drew) (cs (q := 6) rfl)) ?_)))))
      refine gNil_some (gIdx_ar1 64 j rfl hlt' (gLoadB_i (at1 (w := w7.drew) ck) (gIdx_ar1 64 j rfl hlt' (gLoadB_i (at1 (w := w7.drew) cw) ?_))))
      refine gCall_i0 (turn_any (n := 6) (by decide) (by decide)) ⟨rfl, gCall_i0 (turn_any (n := 11) (by decide) (by decide)) ⟨rfl, gCall_i0 (turn_any (n := 25) (by decide) (by decide)) ⟨rfl, fun w' => w' = w7.drew.drew.drew, rfl, ?_⟩⟩⟩
      refine gIdx_ar1 8 1 rfl (by decide) (gLoadB_i (at1 (w := w7.drew.drew) (cs (q := 1) rfl)) (gIdx_ar1 8 2 rfl (by decide) (gLoadB_i (at1 (w := w7.drew.drew) (cs (q := 2) rfl)) (gIdx_ar1 8 1 rfl (by decide) (gLoadB_i (at1 (w := w7.drew.drew) (cs (q := 1) rfl)) (gIdx_ar1 8 2 rfl (by decide) (gLoadB_i (at1 (w := w7.drew.drew) (cs (q := 2) rfl)) ?_)))))))
      refine gCall_i0 (turn_any (n := 2) (by decide) (by decide)) ⟨rfl, gCall_i0 (turn_any (n := 13) (by decide) (by decide)) ⟨rfl, gCall_i0 (turn_any (n := 22) (by decide) (by decide)) ⟨rfl, ?_⟩⟩⟩
      refine gIdx_ar1 8 0 rfl (by decide) (gLoad_i (cs (q := 0) rfl) (gIdx_ar1 8 1 rfl (by decide) (gLoad_i (cs (q := 1) rfl) (gIdx_ar1 8 2 rfl (by decide) (gLoad_i (cs (q := 2) rfl) (gIdx_ar1 8 3 rfl (by decide) (gLoad_i (cs (q := 3) rfl) ?_)))))))
      refine gIdx_ar1 8 4 rfl (by decide) (gLoad_i (cs (q := 4) rfl) (gIdx_ar1 8 5 rfl (by decide) (gLoad_i (cs (q := 5) rfl) (gIdx_ar1 8 6 rfl (by decide) (gLoad_i (cs (q := 6) rfl) ?_)))))
      refine fStoreA f7.drew.drew.drew 0 rfl fun w8 f8 => ?_
      refine ⟨⟨j + 1, by omega, by omega, ?_⟩, by dsimp only; omega⟩
      rw [rndsF, hr]
      exact f8
    · have hj64 : j = 64 := by omega
      subst hj64
      refine gLoad_agg ([a, b', c, d, e, f, g, h].map (Value.int .u32)) (fun j u hj => f7.cell 0 j rfl hj) ?_ rfl (by kernel_rfl)
      have hcmp : cmpF ks [a0, a1, a2, a3, a4, a5, a6, a7] bs = List.zipWith (fun x y => u32 (x + y)) [a0, a1, a2, a3, a4, a5, a6, a7] [a, b', c, d, e, f, g, h] := by unfold cmpF; rw [hr]
      have hcl : (cmpF ks [a0, a1, a2, a3, a4, a5, a6, a7] bs).length = 8 := cmpF_len _ _ rfl
      refine ⟨fun i w' => ∃ j : Nat, i = j ∧ j ≤ 8 ∧ Ch (Rg ad 8) w w' ∧ St w' ad (((cmpF ks [a0, a1, a2, a3, a4, a5, a6, a7] bs).take j ++ [a0, a1, a2, a3, a4, a5, a6, a7].drop j).map (.int .u32)), fun i _ => 8 - i.toNat, ?_, ?_⟩
      · exact ⟨0, rfl, by omega, f7.old.mono fun _ _ _ h => h.elim, hS.ev f7.old⟩
      rintro _ i w9 ⟨j, rfl, hj, h9, s9⟩
      refine gIf_dec (fun hlt => ?_) (fun hge => ?_)
      · have hlt' : j < 8 := by omega
        rw [i64_id (n := (j : Int) + 1) (by omega) (by omega)]
        have htl : ((cmpF ks [a0, a1, a2, a3, a4, a5, a6, a7] bs).take j).length = j := by rw [List.length_take]; omega
        have hxs : (((cmpF ks [a0, a1, a2, a3, a4, a5, a6, a7] bs).take j ++ [a0, a1, a2, a3, a4, a5, a6, a7].drop j)).length = 8 := by rw [List.length_append, htl, List.length_drop]; show j + (8 - j) = 8; omega
        have hrdj : rd ((cmpF ks [a0, a1, a2, a3, a4, a5, a6, a7] bs).take j ++ [a0, a1, a2, a3, a4, a5, a6, a7].drop j) (j : Int) = rd [a0, a1, a2, a3, a4, a5, a6, a7] (j : Int) := by
          unfold rd
          rw [Int.toNat_natCast, List.getD_eq_getElem?_getD, List.getD_eq_getElem?_getD, List.getElem?_append_right (by omega), htl, Nat.sub_self, List.getElem?_drop, Nat.add_zero]
        have hnew : rd (cmpF ks [a0, a1, a2, a3, a4, a5, a6, a7] bs) (j : Int) = u32 (rd [a0, a1, a2, a3, a4, a5, a6, a7] (j : Int) + rd [a, b', c, d, e, f, g, h] (j : Int)) := by
          rw [hcmp]
          have : j = 0 ∨ j = 1 ∨ j = 2 ∨ j = 3 ∨ j = 4 ∨ j = 5 ∨ j = 6 ∨ j = 7 := by omega
          rcases this with rfl | rfl | rfl | rfl | rfl | rfl | rfl | rfl <;> rfl
        have hcell := s9.cell (rd_mapget (k := .u32) (j := j) (by rw [hxs]; exact hlt'))
        rw [hrdj] at hcell
        refine gIndex_arr (xs := [a, b', c, d, e, f, g, h]) 8 j rfl rfl rfl hlt' ⟨fun _ => True, trivial, gNil_some ?_⟩
        rw [Addr.add_zero']
        refine gIdx_ar1 8 j rfl hlt' (gNil_some (gLoad_i (w := w9.drew) hcell ⟨trivial, ?_⟩))
        rw [Addr.add_zero']
        refine gIdx_ar1 8 j rfl hlt' ?_
        refine gStore_st s9.drew (j := j) (by rw [List.length_map, hxs]; exact hlt') rfl rfl fun w10 h10 _ s10 => ⟨trivial, ⟨j + 1, by omega, by omega, ?_, ?_⟩, by dsimp only; omega⟩
        · refine Ch.trans h9.drew h10 fun n i _ hh => ?_
          have h0 := s9.1
          have e1 := hh.1; have e2 := hh.2
          rw [Addr.add_none h0] at e1 e2
          exact ⟨e1, by dsimp only at e2; omega, by dsimp only at e2; omega⟩
        · rw [← hnew, ← List.map_set] at s10
          have eset : ((cmpF ks [a0, a1, a2, a3, a4, a5, a6, a7] bs).take j ++ [a0, a1, a2, a3, a4, a5, a6, a7].drop j).set j (rd (cmpF ks [a0, a1, a2, a3, a4, a5, a6, a7] bs) (j : Int)) = (cmpF ks [a0, a1, a2, a3, a4, a5, a6, a7] bs).take (j + 1) ++ [a0, a1, a2, a3, a4, a5, a6, a7].drop (j + 1) := by
            rw [List.set_append_right _ _ (by omega), htl, Nat.sub_self, List.take_succ_eq_append_getElem (by omega), List.append_assoc, ← rd_nat _ j (by omega), List.drop_eq_getElem_cons (l := [a0, a1, a2, a3, a4, a5, a6, a7]) (i := j) hlt', List.set_cons_zero]; rfl
          rw [eset] at s10; exact s10
      · have : j = 8 := by omega
        subst this
        rw [List.take_of_length_le (by omega), List.drop_of_length_le (by simp), List.append_nil] at s9
        exact ⟨rfl, h9, s9⟩
end Go.Proofs.YtealfhjchlkiiaaV
