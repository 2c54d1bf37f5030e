/- Package rice: numbers as bits; which numbers bits are. No program in sight. -/
import Derived.Test.YtnhlnpjfnoabcaaVBitsD
import Derived.Test.YtnhlnpjfnoabcaaVNumB
import Derived.Test.YtnhlnpjfnoabcaaVBase2
namespace Go.Proofs.YtnhlnpjfnoabcaaV
open Go Go.RowKit
/-- The bytes of bits. -/
noncomputable def pkB (bs : List Int) : List Int := open Classical in if h : ∃ xs, inR .u8 xs ∧ Packs xs bs then h.choose else []
theorem pkB_eq {xs bs : List Int} (h1 : inR .u8 xs) (h2 : Packs xs bs) : pkB bs = xs := by
  have h : ∃ xs, inR .u8 xs ∧ Packs xs bs := ⟨xs, h1, h2⟩
  unfold pkB
  rw [dif_pos h]
  exact h.choose_spec.2.uniq h.choose_spec.1 h1 h2
/-- A number in bits. -/
def numL (v : Int) (k : Nat) : List Int := if foldI v / ((2 ^ k : Nat) : Int) < 24 then List.replicate (foldI v / ((2 ^ k : Nat) : Int)).toNat 1 ++ [0] ++ bitsL (foldI v) k else List.replicate 24 1 ++ bitsL (foldI v) 32
def costN (v : Int) (k : Nat) : Int := if foldI v / ((2 ^ k : Nat) : Int) < 24 then foldI v / ((2 ^ k : Nat) : Int) + 1 + k else 56
def costL (k : Nat) : List Int → Int
  | [] => 0
  | v :: l => costN v k + costL k l
theorem foldI_nn (v : Int) : 0 ≤ foldI v := by unfold foldI; split <;> omega
theorem foldI32 {v : Int} (h : -2147483648 ≤ v ∧ v ≤ 2147483647) : 0 ≤ foldI v ∧ foldI v < 4294967296 := by unfold foldI; split <;> omega
theorem fdiv_nn (v : Int) (k : Nat) : 0 ≤ foldI v / ((2 ^ k : Nat) : Int) := Int.ediv_nonneg (foldI_nn v) (Int.natCast_nonneg _)
theorem costN_bd (v : Int) {k : Nat} (hk : k ≤ 24) : 0 ≤ costN v k ∧ costN v k ≤ 56 := by
  have := fdiv_nn v k
  unfold costN; split <;> omega
theorem costL_bd {k : Nat} (hk : k ≤ 24) : ∀ l : List Int, 0 ≤ costL k l ∧ costL k l ≤ 56 * l.length
  | [] => by simp [costL]
  | v :: l => by
    have h1 := costN_bd v hk
    have h2 := costL_bd hk l
    simp only [costL, List.length_cons]; omega
theorem costL_app (k : Nat) (v : Int) : ∀ l : List Int, costL k (l ++ [v]) = costL k l + costN v k
  | [] => by simp [costL]
  | u :: l => by simp only [List.cons_append, costL, costL_app k v l]; omega
theorem numL_len (v : Int) (k : Nat) : ((numL v k).length : Int) = costN v k := by
  have := fdiv_nn v k
  unfold numL costN
  generalize foldI v / ((2 ^ k : Nat) : Int) = q at *
  split <;> simp [bitsL_len] <;> omega
def bestU (l : List Int) : Nat → Nat
  | 0 => 0
  | k + 1 => if costL (k + 1) l < costL (bestU l k) l then k + 1 else bestU l k
theorem bestU_le (l : List Int) : ∀ k, bestU l k ≤ k
  | 0 => Nat.le_refl _
  | k + 1 => by
    have := bestU_le l k
    unfold bestU; split <;> omega
theorem bestU_is (l : List Int) : ∀ k j, j ≤ k → costL (bestU l k) l ≤ costL j l ∧ (j < bestU l k → costL (bestU l k) l < costL j l)
  | 0, j, h => by
    obtain rfl : j = 0 := by omega
    exact ⟨Int.le_refl _, fun h => by simp [bestU] at h⟩
  | k + 1, j, h => by
    have hb := bestU_le l k
    unfold bestU
    split
    · rename_i hc
      by_cases hj : j = k + 1
      · subst hj; exact ⟨Int.le_refl _, fun h => by omega⟩
      · have := (bestU_is l k j (by omega)).1
        exact ⟨by omega, fun _ => by omega⟩
    · rename_i hc
      by_cases hj : j = k + 1
      · subst hj; exact ⟨by omega, fun h => by omega⟩
      · exact bestU_is l k j (by omega)
def bestL (l : List Int) : Nat := bestU l 24
theorem bestL_le (l : List Int) : bestL l ≤ 24 := bestU_le l 24
/-- The numbers of a part of 64. -/
def part64 (l : List Int) (j : Nat) : List Int := (l.drop (j * 64)).take 64
def kOf (l : List Int) (i : Nat) : Nat := bestL (part64 l (i / 64))
theorem kOf_le (l : List Int) (i : Nat) : kOf l i ≤ 24 := bestL_le _
def piece (l : List Int) (i : Nat) : List Int := (if i % 64 = 0 then bitsL (kOf l i) 5 else []) ++ numL (rd l i) (kOf l i)
def packTo (l : List Int) : Nat → List Int
  | 0 => []
  | m + 1 => packTo l m ++ piece l m
theorem piece_len (l : List Int) (i : Nat) : (piece l i).length ≤ 56 + (if i % 64 = 0 then 5 else 0) := by
  have h1 := numL_len (rd l i) (kOf l i)
  have h2 := costN_bd (rd l i) (kOf_le l i)
  unfold piece
  rw [List.length_append]
  split <;> simp [bitsL_len] <;> omega
theorem packTo_len (l : List Int) : ∀ m, (packTo l m).length ≤ 56 * m + 5 * ((m + 63) / 64)
  | 0 => by simp [packTo]
  | m + 1 => by
    have h1 := piece_len l m
    have h2 := packTo_len l m
    rw [packTo, List.length_append]
    split at h1 <;> omega
def numsTo (p : List Int) (k : Nat) : Nat → List Int
  | 0 => []
  | t + 1 => numsTo p k t ++ numL (rd p t) k
theorem rd_part {l : List Int} {j t : Nat} (ht : t < 64) : rd (part64 l j) t = rd l ((64 * j + t : Nat) : Int) := by
  unfold rd part64
  rw [Int.toNat_natCast, Int.toNat_natCast, List.getD_eq_getElem?_getD, List.getD_eq_getElem?_getD, List.getElem?_take, if_pos ht, List.getElem?_drop]
  congr 2; omega
theorem packTo_in (l : List Int) (j : Nat) : ∀ t, t < 64 → packTo l (64 * j + (t + 1)) = packTo l (64 * j) ++ bitsL (bestL (part64 l j)) 5 ++ numsTo (part64 l j) (bestL (part64 l j)) (t + 1)
  | 0, h => by
    rw [show 64 * j + (0 + 1) = 64 * j + 1 from rfl, packTo]
    unfold piece kOf
    rw [if_pos (by omega), show 64 * j / 64 = j by omega]
    simp only [numsTo, List.nil_append]
    rw [rd_part (by omega)]; simp
  | t + 1, h => by
    rw [show 64 * j + (t + 1 + 1) = (64 * j + (t + 1)) + 1 from rfl, packTo, packTo_in l j t (by omega)]
    unfold piece kOf
    rw [if_neg (by omega), show (64 * j + (t + 1)) / 64 = j by omega, List.nil_append]
    show _ = _ ++ (numsTo _ _ (t + 1) ++ numL (rd (part64 l j) ((t + 1 : Nat) : Int)) _)
    rw [rd_part (by omega)]; simp
/-! ### Reading -/
def unf (u : Int) : Int := i32 (unfoldI u)
def nextV (xs : List Int) (a : Nat) (er : Int) (k : Nat) : Int × Nat × Int :=
  let q := unaryR xs a er 24
  if q.1 = 24 then (unf (bitsR xs q.2.1 q.2.2 32).1, (bitsR xs q.2.1 q.2.2 32).2) else (unf (iOr .u32 (iShl .u32 q.1 k) (bitsR xs q.2.1 q.2.2 k).1), (bitsR xs q.2.1 q.2.2 k).2)
def headK (xs : List Int) (i k a : Nat) : Int × Nat × Int := if i % 64 = 0 then bitsR xs a 0 5 else ((k : Int), a, 0)
def stepR (xs : List Int) (i k a : Nat) : Option (Int × Nat × Nat) :=
  let r := headK xs i k a
  let q := nextV xs r.2.1 r.2.2 (min r.1.toNat 24)
  if q.2.2 ≠ 0 then none else some (q.1, r.1.toNat, q.2.1)
def readN (lim : Bool) (xs : List Int) : Nat → Nat → Nat → Nat → Option (List Int)
  | 0, _, _, _ => some []
  | f + 1, i, k, a => match stepR xs i k a with
    | none => none
    | some (v, k', a') => if lim = true ∧ 24 < k' then none else (readN lim xs f (i + 1) k' a').map (v :: ·)
noncomputable def unpE (lim : Bool) (xs : List Int) (n : Int) : List Int × Int :=
  if n < 0 then ([], 1) else if n > 1048576 then ([], 5) else match readN lim xs n.toNat 0 0 0 with
    | none => ([], 4)
    | some l => if pkB (packTo l l.length) = xs then (l, 0) else ([], 4)
def hasAt (xs : List Int) (a : Nat) (bs : List Int) : Prop := a + bs.length ≤ 8 * xs.length ∧ ∀ k, k < bs.length → bitAt xs (a + k) = bs.getD k 0
theorem hasAt.left {xs : List Int} {a : Nat} {bs cs : List Int} (h : hasAt xs a (bs ++ cs)) : hasAt xs a bs := by
  obtain ⟨h1, h2⟩ := h
  rw [List.length_append] at h1 h2
  refine ⟨by omega, fun k hk => ?_⟩
  rw [h2 k (by omega), List.getD_eq_getElem?_getD, List.getD_eq_getElem?_getD, List.getElem?_append_left hk]
theorem hasAt.right {xs : List Int} {a : Nat} {bs cs : List Int} (h : hasAt xs a (bs ++ cs)) : hasAt xs (a + bs.length) cs := by
  obtain ⟨h1, h2⟩ := h
  rw [List.length_append] at h1 h2
  refine ⟨by omega, fun k hk => ?_⟩
  rw [Nat.add_assoc, h2 (bs.length + k) (by omega), List.getD_eq_getElem?_getD, List.getD_eq_getElem?_getD, List.getElem?_append_right (by omega), Nat.add_sub_cancel_left]
theorem bitsL_get (v : Int) : ∀ n j, j < n → (bitsL v n).getD j 0 = v / ((2 ^ (n - 1 - j) : Nat) : Int) % 2
  | 0, j, h => by omega
  | n + 1, 0, _ => by simp [bitsL]
  | n + 1, j + 1, h => by
    rw [bitsL, List.getD_cons_succ, bitsL_get v n j (by omega), show n + 1 - 1 - (j + 1) = n - 1 - j by omega]
theorem bitsVal_at {xs : List Int} {a n : Nat} {v : Nat} (h : hasAt xs a (bitsL v n)) : ∀ j, j ≤ n → bitsVal xs a j = ((v / 2 ^ (n - j) % 2 ^ j : Nat) : Int)
  | 0, _ => by simp [bitsVal, Nat.mod_one]
  | j + 1, hj => by
    rw [bitsVal, bitsVal_at h j (by omega), h.2 j (by rw [bitsL_len]; omega), bitsL_get _ _ _ (by omega), show n - 1 - j = n - (j + 1) by omega]
    have e1 : v / 2 ^ (n - j) = v / 2 ^ (n - (j + 1)) / 2 := by
      rw [Nat.div_div_eq_div_mul, show n - j = (n - (j + 1)) + 1 by omega, Nat.pow_succ]
    rw [← Int.natCast_ediv, e1, Nat.pow_succ, Nat.mul_comm (2 ^ j) 2, Nat.mod_mul]
    generalize v / 2 ^ (n - (j + 1)) = u
    generalize u / 2 % 2 ^ j = q
    omega
theorem bitsR_at {xs : List Int} {a n : Nat} {v : Nat} (h : hasAt xs a (bitsL v n)) (hn : n ≤ 32) : bitsR xs a 0 n = (((v % 2 ^ n : Nat) : Int), a + n, 0) := by
  have h1 := h.1
  rw [bitsL_len] at h1
  have hc : cl32 (n : Int) = n := by unfold cl32; split <;> omega
  unfold bitsR
  rw [if_neg (by simp), hc, if_neg (by omega), bitsVal_at h n (Nat.le_refl _), Nat.sub_self, Nat.pow_zero, Nat.div_one]
theorem uL_lt {xs : List Int} {a : Nat} {most : Int} : ∀ (q n f : Nat), (∀ k, k < q → bitAt xs (a + n + k) = 1) → bitAt xs (a + n + q) = 0 → a + n + q < 8 * xs.length → ((n + q : Nat) : Int) < most → q < f → uL xs a most f n = (((n + q : Nat) : Int), a + (n + q) + 1, 0)
  | 0, n, f + 1, h1, h0, hl, hm, hf => by
    rw [uL, if_neg (by omega), if_neg (by omega), if_pos (by simpa using h0)]; rfl
  | q + 1, n, f + 1, h1, h0, hl, hm, hf => by
    rw [uL, if_neg (by omega), if_neg (by omega), if_neg (by rw [show a + n = a + n + 0 from rfl, h1 0 (by omega)]; decide)]
    rw [uL_lt q (n + 1) f (fun k hk => by rw [show a + (n + 1) + k = a + n + (k + 1) by omega]; exact h1 (k + 1) (by omega)) (by rw [show a + (n + 1) + q = a + n + (q + 1) by omega]; exact h0) (by omega) (by omega) (by omega)]
    rw [show n + 1 + q = n + (q + 1) by omega]
theorem uL_eq {xs : List Int} {a : Nat} {most : Int} : ∀ (q n f : Nat), (∀ k, k < q → bitAt xs (a + n + k) = 1) → a + n + q ≤ 8 * xs.length → ((n + q : Nat) : Int) = most → q < f → uL xs a most f n = (((n + q : Nat) : Int), a + (n + q), 0)
  | 0, n, f + 1, h1, hl, hm, hf => by
    rw [uL, if_pos (by omega)]; rfl
  | q + 1, n, f + 1, h1, hl, hm, hf => by
    rw [uL, if_neg (by omega), if_neg (by omega), if_neg (by rw [show a + n = a + n + 0 from rfl, h1 0 (by omega)]; decide)]
    rw [uL_eq q (n + 1) f (fun k hk => by rw [show a + (n + 1) + k = a + n + (k + 1) by omega]; exact h1 (k + 1) (by omega)) (by omega) (by omega) (by omega)]
    rw [show n + 1 + q = n + (q + 1) by omega]
theorem uL_rng (xs : List Int) (a : Nat) {most : Int} (hm : 0 ≤ most) : ∀ (f n : Nat), (n : Int) ≤ most → 0 ≤ (uL xs a most f n).1 ∧ (uL xs a most f n).1 ≤ most
  | 0, n, h => by simp [uL, hm]
  | f + 1, n, h => by
    unfold uL
    split
    · exact ⟨Int.natCast_nonneg _, h⟩
    · split
      · exact ⟨by simp, hm⟩
      · split
        · exact ⟨Int.natCast_nonneg _, h⟩
        · exact uL_rng xs a hm f (n + 1) (by omega)
theorem unaryR_rng (xs : List Int) (a : Nat) (er : Int) : 0 ≤ (unaryR xs a er 24).1 ∧ (unaryR xs a er 24).1 ≤ 24 := by
  unfold unaryR
  split
  · simp
  · exact uL_rng xs a (by decide) _ 0 (by decide)
theorem rep_get (q k : Nat) (r : List Int) (h : k < q) : (List.replicate q (1 : Int) ++ r).getD k 0 = 1 := by
  rw [List.getD_eq_getElem?_getD, List.getElem?_append_left (by simpa using h), List.getElem?_replicate, if_pos h]; rfl
theorem unaryR_lt {xs : List Int} {a q : Nat} (h : hasAt xs a (List.replicate q 1 ++ [0])) (hq : q < 24) : unaryR xs a 0 24 = ((q : Int), a + q + 1, 0) := by
  have h1 := h.1
  simp at h1
  unfold unaryR
  rw [if_neg (by simp), uL_lt q 0 _ (fun k hk => by rw [Nat.add_zero, h.2 k (by simp; omega), rep_get q k _ hk]) ?_ (by omega) (by omega) (by omega), Nat.zero_add]
  · rw [Nat.add_zero, h.2 q (by simp), List.getD_eq_getElem?_getD, List.getElem?_append_right (by simp), List.length_replicate, Nat.sub_self]; rfl
theorem unaryR_eq {xs : List Int} {a : Nat} (h : hasAt xs a (List.replicate 24 1)) : unaryR xs a 0 24 = (24, a + 24, 0) := by
  have h1 := h.1
  simp at h1
  unfold unaryR
  rw [if_neg (by simp), uL_eq 24 0 _ (fun k hk => ?_) (by omega) (by omega) (by omega)]
  · rfl
  · rw [Nat.add_zero, h.2 k (by simp; omega), ← List.append_nil (List.replicate 24 (1 : Int)), rep_get 24 k _ hk]
theorem i32_id {v : Int} (h : -2147483648 ≤ v ∧ v ≤ 2147483647) : i32 v = v := by rw [i32_def]; omega
theorem unf_fold {v : Int} (h : -2147483648 ≤ v ∧ v ≤ 2147483647) : unf (foldI v) = v := by unfold unf; rw [unfold_fold, i32_id h]
theorem nextV_at {xs : List Int} {a k : Nat} {v : Int} (hk : k ≤ 24) (hv : -2147483648 ≤ v ∧ v ≤ 2147483647) (h : hasAt xs a (numL v k)) : nextV xs a 0 k = (v, a + (numL v k).length, 0) := by
  have hf := foldI32 hv
  obtain ⟨u, hu⟩ := Int.eq_ofNat_of_zero_le hf.1
  have hlen := numL_len v k
  unfold costN at hlen
  unfold numL at h
  unfold nextV
  by_cases hc : foldI v / ((2 ^ k : Nat) : Int) < 24
  · rw [if_pos hc] at h hlen
    rw [hu] at h hc hlen
    have e1 : ((u : Nat) : Int) / ((2 ^ k : Nat) : Int) = ((u / 2 ^ k : Nat) : Int) := (Int.natCast_ediv _ _).symm
    rw [e1] at h hc hlen
    rw [Int.toNat_natCast] at h
    have hr := h.right
    simp only [List.length_append, List.length_replicate, List.length_cons, List.length_nil] at hr
    rw [unaryR_lt h.left (by omega)]
    dsimp only
    rw [if_neg (by omega), show a + u / 2 ^ k + 1 = a + (u / 2 ^ k + (0 + 1)) by omega, bitsR_at hr (by omega)]
    dsimp only
    have hp : (0 : Nat) < 2 ^ k := Nat.pow_pos (by decide)
    have hm : u % 2 ^ k < 2 ^ k := Nat.mod_lt _ hp
    have hd : u / 2 ^ k * 2 ^ k + u % 2 ^ k = u := Nat.div_add_mod' _ _
    have e2 : ((u / 2 ^ k : Nat) : Int) * ((2 ^ k : Nat) : Int) = ((u / 2 ^ k * 2 ^ k : Nat) : Int) := (Int.natCast_mul _ _).symm
    have e3 : iShl .u32 ((u / 2 ^ k : Nat) : Int) k = ((u / 2 ^ k : Nat) : Int) * ((2 ^ k : Nat) : Int) := by
      rw [iShl_u rfl (by have : IntKind.u32.bits = 32 := rfl; omega) (Int.natCast_nonneg _), bits32, Int.emod_eq_of_lt (by omega) (by rw [e2]; show _ < (4294967296 : Int); omega)]
    rw [e3, iOr_add' rfl (by omega) (by omega) (Int.natCast_nonneg _) (by rw [e2, bits32]; show _ < (4294967296 : Int); omega), e2]
    refine Prod.ext ?_ (Prod.ext ?_ rfl)
    · show unf _ = v
      rw [show (((u % 2 ^ k : Nat) : Int) + ((u / 2 ^ k * 2 ^ k : Nat) : Int)) = foldI v by rw [hu]; omega, unf_fold hv]
    · dsimp only; omega
  · rw [if_neg hc] at h hlen
    have hr := h.right
    rw [List.length_replicate] at hr
    rw [unaryR_eq h.left]
    dsimp only
    rw [if_pos rfl]
    rw [hu] at hr
    have e3 := bitsR_at hr (by omega)
    rw [show ((32 : Nat) : Int) = 32 from rfl] at e3
    rw [e3]
    refine Prod.ext ?_ (Prod.ext ?_ rfl)
    · show unf _ = v
      rw [Nat.mod_eq_of_lt (by show u < 4294967296; omega), ← hu, unf_fold hv]
    · dsimp only; omega
theorem headK_at {xs : List Int} {l : List Int} {i k a : Nat} (h : hasAt xs a (piece l i)) (hk : i % 64 ≠ 0 → k = kOf l i) : headK xs i k a = ((kOf l i : Int), a + (if i % 64 = 0 then bitsL (kOf l i) 5 else []).length, 0) := by
  unfold headK
  have hle := kOf_le l i
  split
  · rename_i h0
    unfold piece at h
    rw [if_pos h0] at h
    have := bitsR_at h.left (by omega)
    rw [show ((5 : Nat) : Int) = 5 from rfl] at this
    rw [this, bitsL_len, Nat.mod_eq_of_lt (by omega)]
  · rename_i h0
    rw [hk h0]; rfl
theorem stepR_at {xs : List Int} {l : List Int} {i k a : Nat} (hv : -2147483648 ≤ rd l i ∧ rd l i ≤ 2147483647) (h : hasAt xs a (piece l i)) (hk : i % 64 ≠ 0 → k = kOf l i) : stepR xs i k a = some (rd l i, kOf l i, a + (piece l i).length) := by
  have hle := kOf_le l i
  unfold stepR
  rw [headK_at h hk]
  dsimp only
  rw [Int.toNat_natCast, Nat.min_eq_left hle, nextV_at hle hv h.right]
  dsimp only
  rw [if_neg (by simp)]
  unfold piece
  rw [List.length_append, Nat.add_assoc]
theorem hasAt.to {xs : List Int} {l : List Int} {n : Nat} (h : hasAt xs 0 (packTo l n)) : ∀ i, i < n → hasAt xs (packTo l i).length (piece l i) := by
  induction n with
  | zero => intro i hi; omega
  | succ n ih =>
    intro i hi
    rw [packTo] at h
    by_cases e : i = n
    · subst e
      have := h.right
      rwa [Nat.zero_add] at this
    · exact ih h.left i (by omega)
/-- What was packed is read. -/
theorem readN_at {lim : Bool} {xs : List Int} {l : List Int} (hr : ∀ i : Nat, -2147483648 ≤ rd l i ∧ rd l i ≤ 2147483647) (h : hasAt xs 0 (packTo l l.length)) : ∀ (f i k : Nat), i + f = l.length → (i % 64 ≠ 0 → k = kOf l i) → readN lim xs f i k (packTo l i).length = some (l.drop i)
  | 0, i, k, hi, _ => by rw [readN, List.drop_of_length_le (by omega)]
  | f + 1, i, k, hi, hk => by
    have hle := kOf_le l i
    rw [readN, stepR_at (hr i) (h.to i (by omega)) hk]
    dsimp only
    rw [if_neg (by omega), ← List.length_append]
    have := readN_at (lim := lim) hr h f (i + 1) (kOf l i) (by omega) (fun hne => by unfold kOf; rw [show (i + 1) / 64 = i / 64 by omega])
    rw [packTo] at this
    rw [this, drop_rd (a := i) (by omega)]; rfl
theorem readN_len {lim : Bool} {xs : List Int} : ∀ (f i k a : Nat) {l : List Int}, readN lim xs f i k a = some l → l.length = f
  | 0, i, k, a, l, h => by injection h with h; subst h; rfl
  | f + 1, i, k, a, l, h => by
    rw [readN] at h
    split at h
    · cases h
    · split at h
      · cases h
      · rw [Option.map_eq_some_iff] at h
        obtain ⟨r, hr, rfl⟩ := h
        rw [List.length_cons, readN_len f _ _ _ hr]
theorem i32_rng' (n : Int) : -2147483648 ≤ i32 n ∧ i32 n ≤ 2147483647 := by rw [i32_def]; omega
theorem nextV_rng (xs : List Int) (a : Nat) (er : Int) (k : Nat) : -2147483648 ≤ (nextV xs a er k).1 ∧ (nextV xs a er k).1 ≤ 2147483647 := by
  unfold nextV
  dsimp only
  split <;> exact i32_rng' _
theorem readN_in {lim : Bool} {xs : List Int} : ∀ (f i k a : Nat) {l : List Int}, readN lim xs f i k a = some l → ∀ x ∈ l, -2147483648 ≤ x ∧ x ≤ 2147483647
  | 0, i, k, a, l, h => by injection h with h; subst h; intro x hx; cases hx
  | f + 1, i, k, a, l, h => by
    rw [readN] at h
    split at h
    · cases h
    · rename_i v k' a' hs
      split at h
      · cases h
      · rw [Option.map_eq_some_iff] at h
        obtain ⟨r, hr, rfl⟩ := h
        intro x hx
        rcases List.mem_cons.1 hx with rfl | hx
        · unfold stepR at hs
          dsimp only at hs
          split at hs
          · cases hs
          · injection hs with hs
            injection hs with hs _
            rw [← hs]; exact nextV_rng _ _ _ _
        · exact readN_in f _ _ _ hr x hx
theorem rd_in {l : List Int} (h : ∀ x ∈ l, -2147483648 ≤ x ∧ x ≤ 2147483647) (i : Nat) : -2147483648 ≤ rd l i ∧ rd l i ≤ 2147483647 := by
  by_cases hi : i < l.length
  · exact h _ (rd_mem (by omega) (by omega))
  · unfold rd; rw [Int.toNat_natCast, List.getD_eq_getElem?_getD, List.getElem?_eq_none (by omega)]; decide
theorem Packs.has {xs bs : List Int} (h : Packs xs bs) : hasAt xs 0 bs := ⟨by have := h.1; omega, fun k hk => by rw [Nat.zero_add]; exact h.2 k (by have := h.1; omega)⟩
/-- With parameters beyond the most, or without them: the same numbers. -/
theorem unpE_same {xs : List Int} (hp : ∀ l : List Int, l.length ≤ 1048576 → (∀ x ∈ l, -2147483648 ≤ x ∧ x ≤ 2147483647) → Packs (pkB (packTo l l.length)) (packTo l l.length)) (n : Int) : unpE true xs n = unpE false xs n := by
  unfold unpE
  split
  · rfl
  split
  · rfl
  rename_i h1 h2
  have key : ∀ {l : List Int}, readN false xs n.toNat 0 0 0 = some l → pkB (packTo l l.length) = xs → readN true xs n.toNat 0 0 0 = some l := fun {l} hl he => by
    have hlen := readN_len _ _ _ _ hl
    have hin := readN_in _ _ _ _ hl
    have hP := hp l (by omega) hin
    rw [he] at hP
    have := readN_at (lim := true) (rd_in hin) hP.has l.length 0 0 (by omega) (fun h => by omega)
    rwa [hlen] at this
  have mono : ∀ (f i k a : Nat) {l : List Int}, readN true xs f i k a = some l → readN false xs f i k a = some l := by
    intro f
    induction f with
    | zero => intro i k a l h; exact h
    | succ f ih =>
      intro i k a l h
      rw [readN] at h ⊢
      split at h
      · cases h
      · split at h
        · cases h
        · rw [if_neg (by simp)]
          rw [Option.map_eq_some_iff] at h ⊢
          obtain ⟨r, hr, rfl⟩ := h
          exact ⟨r, ih _ _ _ hr, rfl⟩
  cases ht : readN true xs n.toNat 0 0 0 with
  | some l => rw [mono _ _ _ _ ht]
  | none =>
    cases hf : readN false xs n.toNat 0 0 0 with
    | none => rfl
    | some l =>
      dsimp only
      rw [if_neg fun he => by rw [key hf he] at ht; cases ht]
end Go.Proofs.YtnhlnpjfnoabcaaV
