/- Package sha: primes, roots, the state at first, the numbers of the rounds, New. -/
import Derived.Test.YtealfhjchlkiiaaVShaA
namespace Go.Proofs.YtealfhjchlkiiaaV
open Go Go.RowKit
def stepP (v : Int) (l : List Int) : List Int := match l.all (fun p => decide (v % p ≠ 0)) with
  | true => l ++ [v]
  | false => l
def prF : Nat → List Int
  | 0 => []
  | k + 1 => stepP ((k + 2 : Nat) : Int) (prF k)
def primesF (n : Nat) : List Int := (prF 310).take n
theorem stepP_pre (v : Int) (l : List Int) : ∃ r, stepP v l = l ++ r ∧ r.length ≤ 1 ∧ ∀ x ∈ r, x = v := by
  unfold stepP
  split
  · exact ⟨[v], rfl, by simp, by simp⟩
  · exact ⟨[], by simp, by simp, by simp⟩
theorem prF_pre (k : Nat) : ∀ d, ∃ r, prF (k + d) = prF k ++ r
  | 0 => ⟨[], by simp⟩
  | d + 1 => by
    obtain ⟨r, hr⟩ := prF_pre k d
    obtain ⟨s, hs, _⟩ := stepP_pre ((k + d + 2 : Nat) : Int) (prF (k + d))
    exact ⟨r ++ s, by rw [show k + (d + 1) = (k + d) + 1 from rfl, prF, hs, hr, List.append_assoc]⟩
theorem prF_rng : ∀ k, ∀ x ∈ prF k, 2 ≤ x ∧ x ≤ k + 1
  | 0, x, hx => by cases hx
  | k + 1, x, hx => by
    obtain ⟨s, hs, _, hv⟩ := stepP_pre ((k + 2 : Nat) : Int) (prF k)
    rw [prF, hs] at hx
    rcases List.mem_append.1 hx with hx | hx
    · have := prF_rng k x hx; omega
    · have := hv x hx; omega
theorem prF_310 : (prF 310).length = 64 := by decide +kernel
theorem prF_take {k n : Nat} (hk : k ≤ 310) (h : (prF k).length = n) : prF k = primesF n := by
  obtain ⟨r, hr⟩ := prF_pre k (310 - k)
  rw [show k + (310 - k) = 310 by omega] at hr
  unfold primesF
  rw [hr, List.take_left' h]
theorem primesF_in {n : Nat} : inR .u64 (primesF n) := fun x hx => by
  have := prF_rng 310 x (List.mem_of_mem_take hx)
  simp [IntKind.min, IntKind.max, IntKind.signed, IntKind.bits]; omega
theorem primesF_len {n : Nat} (h : n ≤ 64) : (primesF n).length = n := by unfold primesF; rw [List.length_take, prF_310]; omega
theorem all_take {p : Int → Bool} {xs : List Int} {j : Nat} (h : j < xs.length) : (xs.take (j + 1)).all p = ((xs.take j).all p && p (rd xs (j : Int))) := by
  rw [List.take_succ_eq_append_getElem h, List.all_append, ← rd_nat xs j h]; simp
noncomputable abbrev e64 : TypeId := elOf P t_sl_uint64
theorem primes_any {n : Nat} {w : World} (h1 : 1 ≤ n) (hn : n ≤ 64) : Calls P n_sha_primes #[.int .i64 n] w (fun e w' => ∃ v, e = .returned v ∧ Ev w w' ∧ ON .u64 e64 w' w.heap.size v (primesF n)) := by
  refine of_sha_primes ⟨fun l v w' => ∃ k : Nat, v = ((k + 2 : Nat) : Int) ∧ k ≤ 310 ∧ (prF k).length ≤ n ∧ Fr w w' [oIt .u64 e64 l (prF k)], fun _ v _ => 400 - v.toNat, ⟨0, rfl, by omega, by simp [prF], (Fr.start w).nil0 _ _⟩, ?_⟩
  rintro _ l _ w1 ⟨k, rfl, hk, hkn, f1⟩
  have hrng := prF_rng k
  have hN := f1.nm 0 rfl
  refine gLen_nm hN (gIf_dec (fun hlt => gLen_nm hN ?_) (fun hge => ?_))
  · have hk310 : k < 310 := by
      rcases Nat.lt_or_ge k 310 with h | h
      · exact h
      · have : k = 310 := by omega
        subst this; rw [prF_310] at hlt; omega
    refine ⟨fun b i w' => ∃ j : Nat, i = j ∧ j ≤ (prF k).length ∧ b = ((prF k).take j).all (fun p => decide (((k + 2 : Nat) : Int) % p ≠ 0)) ∧ w' = w1, fun _ i _ => (prF k).length - i.toNat, ⟨0, rfl, by omega, rfl, rfl⟩, ?_⟩
    rintro _ _ i _ ⟨j, rfl, hj, rfl, rfl⟩
    rename_i w1
    refine gIf_dec (fun hlt2 => ?_) (fun hge2 => ?_)
    · have hlt2' : j < (prF k).length := by omega
      have hx := hrng _ (rd_mem (xs := prF k) (i := (j : Int)) (by omega) hlt2)
      have hall := all_take (p := fun p => decide (((k + 2 : Nat) : Int) % p ≠ 0)) hlt2'
      rw [i64_id (n := (j : Int) + 1) (by omega) (by omega)]
      refine gIdx_nm hN (by omega) hlt2 fun ad c _ => gLoad_i c (gIf_b (fun hb => gBin_rem (by omega) ⟨⟨j + 1, by omega, by omega, ?_, rfl⟩, by dsimp only; omega⟩) (fun hb => ⟨⟨j + 1, by omega, by omega, ?_, rfl⟩, by dsimp only; omega⟩))
      · rw [hall, hb, Bool.true_and, Int.tmod_eq_emod_of_nonneg (by omega)]
        by_cases h0 : ((k + 2 : Nat) : Int) % rd (prF k) (j : Int) = 0
        · rw [h0]; rfl
        · rw [decide_eq_true h0]; simpa using h0
      · rw [hall, hb]; rfl
    · have : j = (prF k).length := by omega
      subst this
      rw [List.take_length]
      have hst : prF (k + 1) = stepP ((k + 2 : Nat) : Int) (prF k) := rfl
      unfold stepP at hst
      rw [show u64 (((k + 2 : Nat) : Int) + 1) = ((k + 1 + 2 : Nat) : Int) by rw [u64_def]; omega]
      refine gIf_b (fun hb => ?_) (fun hb => ?_)
      · rw [hb] at hst
        refine fLit_n [((k + 2 : Nat) : Int)] f1 rfl rfl (fun x hx => by rw [List.mem_singleton.1 hx]; simp [IntKind.min, IntKind.max, IntKind.signed, IntKind.bits]; omega) fun t w2 f2 => fApp f2 1 rfl (f2.nm 0 rfl) (by simp; omega) fun l2 w3 f3 => ?_
        refine ⟨⟨k + 1, rfl, by omega, ?_, ?_⟩, by dsimp only; omega⟩
        · rw [hst, List.length_append, List.length_singleton]; omega
        · rw [hst]; exact f3.drop 0
      · rw [hb] at hst
        refine ⟨⟨k + 1, rfl, by omega, ?_, ?_⟩, by dsimp only; omega⟩
        · rw [hst]; exact hkn
        · rw [hst]; exact f1
  · have hl : (prF k).length = n := by omega
    rw [← prF_take hk hl]
    exact ⟨l, rfl, f1.old, f1.on 0 rfl⟩
/-! ### Roots -/
def mulH (x y : Int) : Int := u64 ((u64 ((u64 ((iShr .u64 x 32) * (iShr .u64 y 32))) + (iShr .u64 (u64 ((u64 ((iShr .u64 x 32) * (iAnd .u64 y 4294967295))) + (iShr .u64 (u64 ((iAnd .u64 x 4294967295) * (iAnd .u64 y 4294967295))) 32))) 32))) + (iShr .u64 (u64 ((iAnd .u64 (u64 ((u64 ((iShr .u64 x 32) * (iAnd .u64 y 4294967295))) + (iShr .u64 (u64 ((iAnd .u64 x 4294967295) * (iAnd .u64 y 4294967295))) 32))) 4294967295) + (u64 ((iAnd .u64 x 4294967295) * (iShr .u64 y 32))))) 32))
def mulL (x y : Int) : Int := u64 (x * y)
theorem mulH_nn (x y : Int) : 0 ≤ mulH x y := by unfold mulH; rw [u64_def]; omega
theorem mulL_nn (x y : Int) : 0 ≤ mulL x y := by unfold mulL; rw [u64_def]; omega
theorem Mul64_any {x y : Int} {w : World} : Calls P n_math_bits_Mul64 #[.int .u64 x, .int .u64 y] w (fun e w' => e = .returned (.tuple #[.int .u64 (mulH x y), .int .u64 (mulL x y)]) ∧ w' = w) := of_math_bits_Mul64 ⟨rfl, rfl⟩
theorem gCall_2 {f : FuncId} {args : Array Value} {k k' : IntKind} {a b : Int} {w : World} {K : Int → Int → World → Prop} (h : Calls P f args w fun e w' => e = .returned (.tuple #[.int k a, .int k' b]) ∧ w' = w) (hk : K a b w) : gCall P f (.tup [.one (.int k), .one (.int k')]) args w K :=
  gCall_of h fun _ w' ⟨h1, h2⟩ => ⟨a, b, h1, by subst h2; exact hk⟩
def pw2 (hi lo p : Int) : Bool := if hi < p then true else if hi = p then decide (lo = 0) else false
def pw3 (hi mid lo p : Int) : Bool := if hi < iShr .u64 p 32 then true else if hi = iShr .u64 p 32 then (if mid < iShl .u64 p 32 then true else if mid = iShl .u64 p 32 then decide (lo = 0) else false) else false
def pwF (w p : Int) (deg : Nat) : Bool :=
  let mid := mulH w w
  let low := mulL w w
  if deg = 3 then
    let m := mulH low w + mulL mid w
    pw3 (u64 (mulH mid w + m / 18446744073709551616)) (m % 18446744073709551616) (mulL low w) p
  else pw2 mid low p
theorem power_any {x p : Int} {deg : Nat} {w : World} (hd : deg = 2 ∨ deg = 3) : Calls P n_sha_power #[.int .u64 x, .int .u64 p, .int .i64 deg] w (fun e w' => e = .returned (.bool (pwF x p deg)) ∧ w' = w) := by
  unfold pwF
  dsimp only
  refine of_sha_power (gCall_2 Mul64_any (gIf_eq (fun h3 => gCall_2 Mul64_any (gCall_2 Mul64_any ?_)) (fun h3 => gIf_t ?_)))
  · have hd3 : deg = 3 := by omega
    rw [if_pos hd3]
    have hr := run_add64 (P := P) (mulH (mulL x x) x) (mulL (mulH x x) x) 0 (mulH_nn _ _) (mulL_nn _ _) (by decide) (by decide) w
    refine ⟨_, _, w, run_ext (by kernel_rfl) (by kernel_rfl) hr, ?_⟩
    rw [Int.add_zero]
    unfold pw3
    refine gIf_ndec (fun h1 => ?_) (fun h1 => ⟨by rw [if_pos h1], rfl⟩)
    rw [if_neg h1]
    refine gIf_eq (fun h2 => ?_) (fun h2 => ⟨by rw [if_neg h2], rfl⟩)
    rw [if_pos h2]
    refine gIf_ndec (fun h4 => ?_) (fun h4 => ⟨by rw [if_pos h4], rfl⟩)
    rw [if_neg h4]
    refine gIf_eq (fun h5 => ⟨by rw [if_pos h5]; rfl, rfl⟩) (fun h5 => ⟨by rw [if_neg h5], rfl⟩)
  · rw [if_neg (by omega)]
    unfold pw2
    refine gIf_ndec (fun h1 => ?_) (fun h1 => ⟨by rw [if_pos h1], rfl⟩)
    rw [if_neg h1]
    exact gIf_eq (fun h5 => ⟨by rw [if_pos h5]; rfl, rfl⟩) (fun h5 => ⟨by rw [if_neg h5], rfl⟩)
def rootS (p : Int) (deg : Nat) : Nat → Int
  | 0 => 0
  | j + 1 =>
    let v := rootS p deg j
    let x := iOr .u64 v (iShl .u64 1 ((35 - j : Nat) : Int))
    match pwF x p deg with
    | true => x
    | false => v
def rootF (p : Int) (deg : Nat) : Int := u32 (rootS p deg 36)
theorem root_any {p : Int} {deg : Nat} {w : World} (hd : deg = 2 ∨ deg = 3) : Calls P n_sha_root #[.int .u64 p, .int .i64 deg] w (fun e w' => e = .returned (.int .u32 (rootF p deg)) ∧ w' = w) := by
  refine of_sha_root ⟨fun v k w' => ∃ j : Nat, k = 35 - (j : Int) ∧ j ≤ 36 ∧ v = rootS p deg j ∧ w' = w, fun _ k _ => (k + 1).toNat, ⟨0, rfl, by omega, rfl, rfl⟩, ?_⟩
  rintro _ _ k _ ⟨j, rfl, hj, rfl, rfl⟩
  refine gIf_dec (fun hge => ?_) (fun hlt => ?_)
  · rw [show (35 : Int) - (j : Int) = ((35 - j : Nat) : Int) by omega]
    refine gBin_shl (by omega) (gCall_b0 (power_any hd) ?_)
    rw [i64_id (n := ((35 - j : Nat) : Int) - 1) (by omega) (by omega)]
    refine gIf_b (fun hb => ⟨⟨j + 1, by omega, by omega, ?_, rfl⟩, by dsimp only; omega⟩) (fun hb => ⟨⟨j + 1, by omega, by omega, ?_, rfl⟩, by dsimp only; omega⟩) <;> (rw [rootS]; rw [hb])
  · have : j = 36 := by omega
    subst this
    exact ⟨rfl, rfl⟩
def h0F : List Int := (primesF 8).map (rootF · 2)
def kF : List Int := (primesF 64).map (rootF · 3)
theorem h0F_len : h0F.length = 8 := by unfold h0F; rw [List.length_map, primesF_len (by decide)]
theorem kF_len : kF.length = 64 := by unfold kF; rw [List.length_map, primesF_len (by decide)]
theorem take_all {xs : List Int} {n : Nat} (h : xs.length = n) : xs.take n = xs := by subst h; exact List.take_length
theorem h0F_take : h0F.take 8 = h0F := take_all h0F_len
theorem kF_take : kF.take 64 = kF := take_all kF_len
theorem take_mapS {f : Int → Int} {xs : List Int} {j : Nat} (h : j < xs.length) : ((xs.map f).take j ++ List.replicate (xs.length - j) 0).set j (f (rd xs (j : Int))) = (xs.map f).take (j + 1) ++ List.replicate (xs.length - (j + 1)) 0 := by
  have hl : ((xs.map f).take j).length = j := by rw [List.length_take, List.length_map]; omega
  rw [set_pad hl h, List.take_succ_eq_append_getElem (by rw [List.length_map]; exact h), List.getElem_map, ← rd_nat xs j h]
theorem h0F_step {j : Nat} (h : j < 8) : (h0F.take j ++ List.replicate (8 - j) 0).set j (rootF (rd (primesF 8) (j : Int)) 2) = h0F.take (j + 1) ++ List.replicate (8 - (j + 1)) 0 := by
  have e := take_mapS (f := (rootF · 2)) (xs := primesF 8) (j := j) (by rw [primesF_len (by decide)]; exact h)
  rw [primesF_len (n := 8) (by decide)] at e
  exact e
theorem kF_step {j : Nat} (h : j < 64) : (kF.take j ++ List.replicate (64 - j) 0).set j (rootF (rd (primesF 64) (j : Int)) 3) = kF.take (j + 1) ++ List.replicate (64 - (j + 1)) 0 := by
  have e := take_mapS (f := (rootF · 3)) (xs := primesF 64) (j := j) (by rw [primesF_len (by decide)]; exact h)
  rw [primesF_len (n := 64) (by decide)] at e
  exact e
theorem first_any {w : World} : Calls P n_sha_first #[] w (fun e w' => e = .returned (.agg (h0F.map (.int .u32)).toArray) ∧ Ev w w') := by
  have hpl := primesF_len (n := 8) (by decide)
  refine of_sha_first (fAlloc (z := .agg #[.int .u32 0, .int .u32 0, .int .u32 0, .int .u32 0, .int .u32 0, .int .u32 0, .int .u32 0, .int .u32 0]) (Fr.start w) (by kernel_rfl) fun t0 w1 f1 => fAlloc (z := .agg #[.int .u32 0, .int .u32 0, .int .u32 0, .int .u32 0, .int .u32 0, .int .u32 0, .int .u32 0, .int .u32 0]) f1 (by kernel_rfl) fun s1 w2 f2 => gCall_v (primes_any (n := 8) (by decide) (by decide)) fun pv w3 ⟨h3, o3⟩ => ?_)
  have f3 := f2.newO h3 o3
  have hN := f3.nm 0 rfl
  refine gLen_nm hN ?_
  rw [hpl]
  refine ⟨fun i w' => ∃ j : Nat, i = j ∧ j ≤ 8 ∧ Fr w w' [oIt .u64 e64 pv (primesF 8), sIt s1 (((h0F.take j) ++ List.replicate (8 - j) 0).map (.int .u32)), sIt t0 [.int .u32 0, .int .u32 0, .int .u32 0, .int .u32 0, .int .u32 0, .int .u32 0, .int .u32 0, .int .u32 0]], fun i _ => 8 - i.toNat, ?_, ?_⟩
  · exact ⟨0, rfl, by omega, f3⟩
  rintro _ i w4 ⟨j, rfl, hj, f4⟩
  refine gIf_dec (fun hlt => ?_) (fun hge => ?_)
  · have hlt' : j < 8 := by omega
    rw [i64_id (n := (j : Int) + 1) (by omega) (by omega)]
    refine gIdx_nm (f4.nm 0 rfl) (by omega) (by rw [hpl]; exact hlt) fun ad c _ => gLoad_i c (gCall_i0 (root_any (deg := 2) (.inl rfl)) ?_)
    rw [Addr.add_zero' s1]
    refine gIdx_ar1 8 j rfl hlt' (fStore f4 1 j rfl (fun w5 f5 => ⟨⟨j + 1, by omega, by omega, ?_⟩, by dsimp only; omega⟩) (by simp; have := h0F_len; omega))
    have e2 : ((h0F.take (j + 1)) ++ List.replicate (8 - (j + 1)) 0).map (Value.int .u32) = (((h0F.take j) ++ List.replicate (8 - j) 0).map (Value.int .u32)).set j (.int .u32 (rootF (rd (primesF 8) (j : Int)) 2)) := by
      rw [← List.map_set, h0F_step hlt']
    rw [e2]; exact f5
  · have : j = 8 := by omega
    subst this
    rw [h0F_take, Nat.sub_self, List.replicate_zero, List.append_nil] at f4
    obtain ⟨a, b, c, d, e, f, g, h, hh⟩ := len8 h0F_len
    rw [hh] at f4 ⊢
    exact fLoadA f4 1 rfl (fStoreA f4 2 rfl fun w5 f5 => fLoadA f5 2 rfl ⟨rfl, f5.old⟩)
theorem zero64u : (Value.agg (Array.replicate 64 (.int .u32 0))).cells.toList = List.replicate 64 (.int .u32 0) := Array.toList_replicate
theorem constants_any {w : World} : Calls P n_sha_constants #[] w (fun e w' => e = .returned (.agg (kF.map (.int .u32)).toArray) ∧ Ev w w') := by
  have hpl := primesF_len (n := 64) (by decide)
  have hkl := kF_len
  refine of_sha_constants (fAlloc (z := .agg (Array.replicate 64 (.int .u32 0))) (Fr.start w) (by kernel_rfl) fun t0 w1 f1 => fAlloc (z := .agg (Array.replicate 64 (.int .u32 0))) f1 (by kernel_rfl) fun s1 w2 f2 => gCall_v (primes_any (n := 64) (by decide) (by decide)) fun pv w3 ⟨h3, o3⟩ => ?_)
  rw [zero64u] at f2
  have e0 : List.replicate 64 (Value.int .u32 0) = (((kF.take 0) ++ List.replicate (64 - 0) 0).map (.int .u32)) := by rw [List.take_zero, List.nil_append, List.map_replicate]
  have f3 := f2.newO h3 o3
  have hN := f3.nm 0 rfl
  refine gLen_nm hN ?_
  rw [hpl]
  refine ⟨fun i w' => ∃ j : Nat, i = j ∧ j ≤ 64 ∧ Fr w w' [oIt .u64 e64 pv (primesF 64), sIt s1 (((kF.take j) ++ List.replicate (64 - j) 0).map (.int .u32)), sIt t0 (List.replicate 64 (.int .u32 0))], fun i _ => 64 - i.toNat, ?_, ?_⟩
  · refine ⟨0, rfl, by omega, ?_⟩
    rw [← e0]; exact f3
  rintro _ i w4 ⟨j, rfl, hj, f4⟩
  refine gIf_dec (fun hlt => ?_) (fun hge => ?_)
  · have hlt' : j < 64 := by omega
    rw [i64_id (n := (j : Int) + 1) (by omega) (by omega)]
    refine gIdx_nm (f4.nm 0 rfl) (by omega) (by rw [hpl]; exact hlt) fun ad c _ => gLoad_i c (gCall_i0 (root_any (deg := 3) (.inr rfl)) ?_)
    refine gIdx_ar1 64 j rfl hlt' (fStore f4 1 j rfl (fun w5 f5 => ⟨⟨j + 1, by omega, by omega, ?_⟩, by dsimp only; omega⟩) (by simp; omega))
    have e2 : ((kF.take (j + 1)) ++ List.replicate (64 - (j + 1)) 0).map (Value.int .u32) = (((kF.take j) ++ List.replicate (64 - j) 0).map (Value.int .u32)).set j (.int .u32 (rootF (rd (primesF 64) (j : Int)) 3)) := by
      rw [← List.map_set, kF_step hlt']
    rw [e2]; exact f5
  · have : j = 64 := by omega
    subst this
    rw [kF_take, Nat.sub_self, List.replicate_zero, List.append_nil] at f4
    have h64 : (kF.map (Value.int .u32)).length = 64 := by rw [List.length_map, hkl]
    refine fLoadArr f4 1 rfl ?_ (by rw [h64]; kernel_rfl)
    refine fStoreA f4 2 rfl (fun w5 f5 => ?_) (by simp [hkl]) (by simp [Value.oneCell']) (by rw [List.size_toArray, h64]; kernel_rfl)
    refine fLoadArr f5 2 rfl ⟨?_, f5.old⟩ (by simp only [List.length_map, hkl]; kernel_rfl)
    simp
end Go.Proofs.YtealfhjchlkiiaaV
