import Derived.Test.YtdhhmmllekkofaaVPart9
/- Packages colour and image, plain. -/
namespace Go.Proofs.YtdhhmmllekkofaaV
open Go Go.RowKit
/-! ### Colours -/
def turnAt (xs : List Int) (q : Nat) : Int := if q / 3 * 3 + 3 ≤ xs.length then (if q % 3 = 1 then rd xs q else u8 (rd xs q - rd xs ((q / 3 * 3 + 1 : Nat) : Int))) else rd xs q
def backAt (xs : List Int) (q : Nat) : Int := if q / 3 * 3 + 3 ≤ xs.length then (if q % 3 = 1 then rd xs q else u8 (rd xs q + rd xs ((q / 3 * 3 + 1 : Nat) : Int))) else rd xs q
def turnL (xs : List Int) : List Int := tab xs.length (turnAt xs)
def backL (xs : List Int) : List Int := tab xs.length (backAt xs)
theorem turnL_len (xs : List Int) : (turnL xs).length = xs.length := tab_len _ _
theorem backL_len (xs : List Int) : (backL xs).length = xs.length := tab_len _ _
theorem u8_rg (n : Int) : 0 ≤ u8 n ∧ u8 n < 256 := by rw [u8_def]; omega
theorem turnAt_rg {xs : List Int} (h : inR .u8 xs) (q : Nat) : 0 ≤ turnAt xs q ∧ turnAt xs q < 256 := by
  have := rd_u8 h q
  unfold turnAt; split
  · split
    · exact this
    · exact u8_rg _
  · exact this
theorem backAt_rg {xs : List Int} (h : inR .u8 xs) (q : Nat) : 0 ≤ backAt xs q ∧ backAt xs q < 256 := by
  have := rd_u8 h q
  unfold backAt; split
  · split
    · exact this
    · exact u8_rg _
  · exact this
theorem turnL_in {xs : List Int} (h : inR .u8 xs) : inR .u8 (turnL xs) := tab_in fun i _ => u8i (turnAt_rg h i)
theorem backL_in {xs : List Int} (h : inR .u8 xs) : inR .u8 (backL xs) := tab_in fun i _ => u8i (backAt_rg h i)
theorem back_turn {xs : List Int} (h : inR .u8 xs) : backL (turnL xs) = xs := by
  have e : backL (turnL xs) = tab xs.length (fun i => rd xs (i : Int)) := by
    unfold backL
    rw [turnL_len]
    refine tab_ext fun q hq => ?_
    have hr : ∀ {i : Nat}, i < xs.length → rd (turnL xs) (i : Int) = turnAt xs i := fun hi => rd_tab hi
    unfold backAt
    rw [turnL_len]
    by_cases h3 : q / 3 * 3 + 3 ≤ xs.length
    · rw [if_pos h3]
      by_cases h1 : q % 3 = 1
      · rw [if_pos h1, hr hq]; unfold turnAt; rw [if_pos h3, if_pos h1]
      · have hg : (q / 3 * 3 + 1) / 3 * 3 + 3 ≤ xs.length := by omega
        have hgv : turnAt xs (q / 3 * 3 + 1) = rd xs ((q / 3 * 3 + 1 : Nat) : Int) := by unfold turnAt; rw [if_pos hg, if_pos (by omega)]
        have hqv : turnAt xs q = u8 (rd xs q - rd xs ((q / 3 * 3 + 1 : Nat) : Int)) := by unfold turnAt; rw [if_pos h3, if_neg h1]
        rw [if_neg h1, hr hq, hr (by omega), hgv, hqv]
        have h1 := rd_u8 h q
        rw [u8_def, u8_def]; omega
    · rw [if_neg h3, hr hq]; unfold turnAt; rw [if_neg h3]
  rw [e, tab_rd]
def turnP (L : Nat) (xs : List Int) : List Int := if L = 3 then turnL xs else xs
def backP (L : Nat) (xs : List Int) : List Int := if L = 3 then backL xs else xs
theorem turnP_len (L : Nat) (xs : List Int) : (turnP L xs).length = xs.length := by unfold turnP; split <;> simp [turnL_len]
theorem backP_len (L : Nat) (xs : List Int) : (backP L xs).length = xs.length := by unfold backP; split <;> simp [backL_len]
theorem turnP_in {L : Nat} {xs : List Int} (h : inR .u8 xs) : inR .u8 (turnP L xs) := by unfold turnP; split; exact turnL_in h; exact h
theorem back_turnP {L : Nat} {xs : List Int} (h : inR .u8 xs) : backP L (turnP L xs) = xs := by unfold backP turnP; split; exact back_turn h; rfl
/-! ### Rows -/
def rowX (xs : List Int) (F S W i : Nat) : List Int := (xs.drop (F + i * S)).take W
def gapX (xs : List Int) (F S W i : Nat) : List Int := (xs.drop (F + i * S + W)).take (S - W)
def pixN (xs : List Int) (F S W L : Nat) : Nat → List Int
  | 0 => []
  | i + 1 => pixN xs F S W L i ++ turnP L (rowX xs F S W i)
def besN (xs : List Int) (F S W : Nat) : Nat → List Int
  | 0 => []
  | i + 1 => besN xs F S W i ++ gapX xs F S W i
def outN (pix bes : List Int) (W G L : Nat) : Nat → List Int
  | 0 => []
  | i + 1 => outN pix bes W G L i ++ backP L ((pix.drop (i * W)).take W) ++ (bes.drop (i * G)).take G
section
variable {xs : List Int} {F S W L H : Nat}
theorem row_bd (h : F + S * H ≤ xs.length) {i : Nat} (hi : i < H) : F + i * S + S ≤ xs.length := by
  have : (i + 1) * S ≤ H * S := Nat.mul_le_mul_right _ hi
  rw [Nat.add_mul, Nat.one_mul, Nat.mul_comm H S] at this; omega
theorem rowX_len (h : F + S * H ≤ xs.length) (hw : W ≤ S) {i : Nat} (hi : i < H) : (rowX xs F S W i).length = W := by
  have := row_bd h hi
  unfold rowX; rw [List.length_take, List.length_drop]; omega
theorem gapX_len (h : F + S * H ≤ xs.length) (hw : W ≤ S) {i : Nat} (hi : i < H) : (gapX xs F S W i).length = S - W := by
  have := row_bd h hi
  unfold gapX; rw [List.length_take, List.length_drop]; omega
theorem pixN_len (h : F + S * H ≤ xs.length) (hw : W ≤ S) : ∀ {i}, i ≤ H → (pixN xs F S W L i).length = i * W
  | 0, _ => by simp [pixN]
  | i + 1, hi => by rw [pixN, List.length_append, pixN_len h hw (show i ≤ H by omega), turnP_len, rowX_len h hw (show i < H by omega), Nat.add_mul, Nat.one_mul]
theorem besN_len (h : F + S * H ≤ xs.length) (hw : W ≤ S) : ∀ {i}, i ≤ H → (besN xs F S W i).length = i * (S - W)
  | 0, _ => by simp [besN]
  | i + 1, hi => by rw [besN, List.length_append, besN_len h hw (show i ≤ H by omega), gapX_len h hw (show i < H by omega), Nat.add_mul, Nat.one_mul]
theorem pixN_in (hx : inR .u8 xs) : ∀ i, inR .u8 (pixN xs F S W L i)
  | 0 => fun _ h => by cases h
  | i + 1 => (pixN_in hx i).append (turnP_in ((hx.drop _).take _))
theorem pixN_row (h : F + S * H ≤ xs.length) (hw : W ≤ S) {j : Nat} : ∀ {i}, i ≤ H → j < i → ((pixN xs F S W L i).drop (j * W)).take W = turnP L (rowX xs F S W j)
  | 0, _, hj => by omega
  | i + 1, hi, hj => by
    have hl := pixN_len (L := L) h hw (show i ≤ H by omega)
    rw [pixN]
    by_cases e : j = i
    · subst e
      rw [← hl, List.drop_left, List.take_of_length_le (by rw [turnP_len, rowX_len h hw (show j < H by omega)]; exact Nat.le_refl _)]
    · have hb : (j + 1) * W ≤ i * W := Nat.mul_le_mul_right _ (by omega)
      rw [Nat.add_mul, Nat.one_mul] at hb
      rw [List.drop_append_of_le_length (by omega), List.take_append_of_le_length (by rw [List.length_drop]; omega)]
      exact pixN_row h hw (by omega) (by omega)
theorem besN_row (h : F + S * H ≤ xs.length) (hw : W ≤ S) {j : Nat} : ∀ {i}, i ≤ H → j < i → ((besN xs F S W i).drop (j * (S - W))).take (S - W) = gapX xs F S W j
  | 0, _, hj => by omega
  | i + 1, hi, hj => by
    have hl := besN_len h hw (show i ≤ H by omega)
    rw [besN]
    by_cases e : j = i
    · subst e
      rw [← hl, List.drop_left, List.take_of_length_le (by rw [gapX_len h hw (show j < H by omega)]; exact Nat.le_refl _)]
    · have hb : (j + 1) * (S - W) ≤ i * (S - W) := Nat.mul_le_mul_right _ (by omega)
      rw [Nat.add_mul, Nat.one_mul] at hb
      rw [List.drop_append_of_le_length (by omega), List.take_append_of_le_length (by rw [List.length_drop]; omega)]
      exact besN_row h hw (by omega) (by omega)
theorem rowgap (h : F + S * H ≤ xs.length) (hw : W ≤ S) {i : Nat} (hi : i < H) : xs.take (F + i * S) ++ rowX xs F S W i ++ gapX xs F S W i = xs.take (F + (i + 1) * S) := by
  have hb := row_bd h hi
  unfold rowX gapX
  have tk : ∀ a b : Nat, xs.take a ++ (xs.drop a).take b = xs.take (a + b) := fun a b => List.take_add.symm
  have e1 : xs.take (F + i * S) ++ (xs.drop (F + i * S)).take W = xs.take (F + i * S + W) := tk _ _
  have e2 : xs.take (F + i * S + W) ++ (xs.drop (F + i * S + W)).take (S - W) = xs.take (F + i * S + W + (S - W)) := tk _ _
  rw [e1, e2]
  congr 1
  rw [Nat.add_mul, Nat.one_mul]; omega
theorem out_all (hx : inR .u8 xs) (h : F + S * H ≤ xs.length) (hw : W ≤ S) : ∀ {i}, i ≤ H → xs.take F ++ outN (pixN xs F S W L H) (besN xs F S W H) W (S - W) L i = xs.take (F + i * S)
  | 0, _ => by simp [outN]
  | i + 1, hi => by
    rw [outN, pixN_row h hw (Nat.le_refl _) (by omega), besN_row h hw (Nat.le_refl _) (by omega), show backP L (turnP L (rowX xs F S W i)) = rowX xs F S W i from back_turnP ((hx.drop _).take _), ← List.append_assoc, ← List.append_assoc, out_all hx h hw (show i ≤ H by omega)]
    exact rowgap h hw (by omega)
theorem outN_len {pix bes : List Int} {G : Nat} : ∀ {i}, pix.length = i * W → bes.length = i * G → ∀ {k}, k ≤ i → (outN pix bes W G L k).length = k * (W + G) := fun {i} hp hb {k} => by
  induction k with
  | zero => intro _; simp [outN]
  | succ k ih =>
    intro hk
    have h1 : (k + 1) * W ≤ i * W := Nat.mul_le_mul_right _ hk
    have h2 : (k + 1) * G ≤ i * G := Nat.mul_le_mul_right _ hk
    rw [Nat.add_mul, Nat.one_mul] at h1 h2
    rw [outN, List.length_append, List.length_append, ih (by omega), backP_len, List.length_take, List.length_take, List.length_drop, List.length_drop, Nat.add_mul k 1, Nat.one_mul]
    omega
end
/-! ### The pack -/
def packN (xs : List Int) (F Wd H L S : Nat) : List Int :=
  (numB xs.length ++ numB F ++ numB Wd ++ numB H ++ numB L ++ numB S) ++ (xs.take F ++ applyN (pixN xs F S (Wd * L) L H) (Wd * L) L H ++ besN xs F S (Wd * L) H ++ xs.drop (F + S * H))
def packP (xs : List Int) (p : Pc) : List Int := packN xs p.fr.toNat p.wd.toNat p.ht.toNat p.pl.toNat p.st.toNat
def packI (xs : List Int) : List Int × Bool := if (parseP xs).2 = true ∧ xs.length ≤ 1048576 then (packP xs (parseP xs).1, true) else ([], false)
def cap40 (v : Int) : Int := if 1099511627776 < v then 1099511627776 else v
def numsN (xs : List Int) : Nat → List Int × Nat × Int
  | 0 => ([], 0, 0)
  | k + 1 => ((numsN xs k).1 ++ [cap40 (numR xs (numsN xs k).2.1 (numsN xs k).2.2 18446744073709551615).1], (numR xs (numsN xs k).2.1 (numsN xs k).2.2 18446744073709551615).2)
def badIm (size F Wd H L S : Int) : Bool := decide (F > size ∨ Wd < 1 ∨ Wd > size ∨ H < 1 ∨ H > size ∨ L < 1 ∨ L > 3 ∨ S < Wd * L ∨ S > size ∨ F + S * H > size)
/-- What stands behind the measures. -/
def bodyI (xs : List Int) (a : Nat) (size F Wd H L S : Int) : List Int × Int :=
  let r1 := rawR xs a 0 F
  let r2 := rawR xs r1.2.1 r1.2.2 (H * (Wd * L + 1))
  let r3 := rawR xs r2.2.1 r2.2.2 (H * (S - Wd * L))
  let r4 := rawR xs r3.2.1 r3.2.2 (size - (F + S * H))
  if endR xs.length r4.2.1 r4.2.2 ≠ 0 then ([], endR xs.length r4.2.1 r4.2.2)
  else if undoOk r2.1.length (Wd * L) L = true ∧ kindsOk r2.1 (Wd * L).toNat (r2.1.length / ((Wd * L).toNat + 1)) = true then
    (r1.1 ++ outN (undoN r2.1 (Wd * L).toNat L (r2.1.length / ((Wd * L).toNat + 1))) r3.1 (Wd * L).toNat (S - Wd * L).toNat L.toNat (r2.1.length / ((Wd * L).toNat + 1)) ++ r4.1, 0)
  else ([], 4)
def unpackI (xs : List Int) (most : Int) : List Int × Int :=
  let s := numsN xs 6
  if s.2.2 ≠ 0 then ([], s.2.2)
  else if rd s.1 0 > (if 0 > most then 0 else most) ∨ rd s.1 0 > 1048576 then ([], 5)
  else if badIm (rd s.1 0) (rd s.1 1) (rd s.1 2) (rd s.1 3) (rd s.1 4) (rd s.1 5) = true then ([], 4)
  else bodyI xs s.2.1 (rd s.1 0) (rd s.1 1) (rd s.1 2) (rd s.1 3) (rd s.1 4) (rd s.1 5)
theorem numsN_len (xs : List Int) : ∀ k, (numsN xs k).1.length = k
  | 0 => rfl
  | k + 1 => by rw [numsN, List.length_append, numsN_len]; rfl
theorem lookL_er {xs : List Int} {a : Nat} : ∀ (f n : Nat) (v : Int), (lookL xs a f n v).2.2 = 0 ∨ (lookL xs a f n v).2.2 = 3 ∨ (lookL xs a f n v).2.2 = 4
  | 0, _, _ => .inr (.inr rfl)
  | f + 1, n, v => by
    unfold lookL
    split
    · exact .inr (.inl rfl)
    · split
      · exact .inr (.inr rfl)
      · split
        · split
          · exact .inr (.inr rfl)
          · exact .inl rfl
        · exact lookL_er f _ _
def ErR (e : Int) : Prop := e = 0 ∨ e = 3 ∨ e = 4
theorem numR_er {xs : List Int} {a : Nat} {er m : Int} (h : ErR er) : ErR (numR xs a er m).2.2 := by
  unfold numR
  split
  · exact h
  · split
    · exact .inr (.inr rfl)
    · split
      · exact lookL_er 10 0 0
      · exact .inl rfl
theorem numsN_er (xs : List Int) : ∀ k, ErR (numsN xs k).2.2
  | 0 => .inl rfl
  | k + 1 => by rw [numsN]; exact numR_er (numsN_er xs k)
theorem rawR_erR {xs : List Int} {a : Nat} {er n : Int} (h : ErR er) : ErR (rawR xs a er n).2.2 := by
  unfold rawR
  split
  · exact h
  · split
    · exact .inr (.inl rfl)
    · exact .inl rfl
theorem endR_er {n a : Nat} {er : Int} (h : ErR er) : ErR (endR n a er) := by
  unfold endR
  split
  · exact h
  · split
    · exact .inr (.inr rfl)
    · exact .inl rfl
theorem rawR_0 {xs : List Int} {a : Nat} {er n : Int} (hn : 0 ≤ n) (h : (rawR xs a er n).2.2 = 0) : (rawR xs a er n).1.length = n.toNat ∧ er = 0 := by
  have he := rawR_er h
  subst he
  unfold rawR at h ⊢
  by_cases h0 : n ≤ 0
  · rw [if_pos (.inr h0)]; exact ⟨by simp; omega, rfl⟩
  · rw [if_neg (by omega)] at h ⊢
    split at h
    · cases h
    · rename_i hle
      rw [if_neg hle]
      exact ⟨by rw [List.length_take, List.length_drop]; omega, rfl⟩
theorem badIm_f {size F Wd H L S : Int} (h : badIm size F Wd H L S = false) : F ≤ size ∧ 1 ≤ Wd ∧ Wd ≤ size ∧ 1 ≤ H ∧ H ≤ size ∧ 1 ≤ L ∧ L ≤ 3 ∧ Wd * L ≤ S ∧ S ≤ size ∧ F + S * H ≤ size := by
  unfold badIm at h
  have := of_decide_eq_false h
  omega
/-- What is unpacked is no longer than it may be; or there is an error. -/
theorem body_total {xs : List Int} {a : Nat} {size F Wd H L S : Int} (hF : 0 ≤ F) (hb : badIm size F Wd H L S = false) : ((bodyI xs a size F Wd H L S).2 = 0 ∧ ((bodyI xs a size F Wd H L S).1.length : Int) = size) ∨ ((bodyI xs a size F Wd H L S).1 = [] ∧ ((bodyI xs a size F Wd H L S).2 = 3 ∨ (bodyI xs a size F Wd H L S).2 = 4)) := by
  obtain ⟨b1, b2, b3, b4, b5, b6, b7, b8, b9, b10⟩ := badIm_f hb
  unfold bodyI
  dsimp only
  have hWL : 1 ≤ Wd * L := by
    have := Int.mul_le_mul b2 b6 (by omega) (by omega); simpa using this
  have hn2 : 0 ≤ H * (Wd * L + 1) := Int.mul_nonneg (by omega) (by omega)
  have hn3 : 0 ≤ H * (S - Wd * L) := Int.mul_nonneg (by omega) (by omega)
  have er1 : ErR (rawR xs a 0 F).2.2 := rawR_erR (.inl rfl)
  have er2 : ErR (rawR xs (rawR xs a 0 F).2.1 (rawR xs a 0 F).2.2 (H * (Wd * L + 1))).2.2 := rawR_erR er1
  have l1 := @rawR_0 xs a 0 F hF
  have l2 := @rawR_0 xs (rawR xs a 0 F).2.1 (rawR xs a 0 F).2.2 _ hn2
  generalize rawR xs a 0 F = r1 at er1 er2 l1 l2 ⊢
  generalize rawR xs r1.2.1 r1.2.2 (H * (Wd * L + 1)) = r2 at er2 l2 ⊢
  have er3 : ErR (rawR xs r2.2.1 r2.2.2 (H * (S - Wd * L))).2.2 := rawR_erR er2
  have l3 := @rawR_0 xs r2.2.1 r2.2.2 _ hn3
  generalize rawR xs r2.2.1 r2.2.2 (H * (S - Wd * L)) = r3 at er3 l3 ⊢
  have er4 : ErR (rawR xs r3.2.1 r3.2.2 (size - (F + S * H))).2.2 := rawR_erR er3
  have l4 := @rawR_0 xs r3.2.1 r3.2.2 (size - (F + S * H)) (by omega)
  generalize rawR xs r3.2.1 r3.2.2 (size - (F + S * H)) = r4 at er4 l4 ⊢
  have ere : ErR (endR xs.length r4.2.1 r4.2.2) := endR_er er4
  by_cases he : endR xs.length r4.2.1 r4.2.2 ≠ 0
  · rw [if_pos he]
    exact .inr ⟨rfl, ere.resolve_left he⟩
  · rw [if_neg he]
    have he0 : r4.2.2 = 0 := by
      refine Decidable.byContradiction fun hn => he ?_
      unfold endR; rw [if_pos hn]; exact hn
    by_cases hk : undoOk r2.1.length (Wd * L) L = true ∧ kindsOk r2.1 (Wd * L).toNat (r2.1.length / ((Wd * L).toNat + 1)) = true
    · rw [if_pos hk]
      refine .inl ⟨rfl, ?_⟩
      obtain ⟨m4, k4⟩ := l4 he0
      obtain ⟨m3, k3⟩ := l3 k4
      obtain ⟨m2, k2⟩ := l2 k3
      obtain ⟨m1, _⟩ := l1 k2
      obtain ⟨W, hW⟩ : ∃ W : Nat, Wd * L = (W : Int) := ⟨(Wd * L).toNat, by omega⟩
      obtain ⟨Hn, hH⟩ : ∃ Hn : Nat, H = (Hn : Int) := ⟨H.toNat, by omega⟩
      obtain ⟨G, hG⟩ : ∃ G : Nat, S - Wd * L = (G : Int) := ⟨(S - Wd * L).toNat, by omega⟩
      rw [hW] at m2 hG ⊢
      rw [hH] at m2 m3
      rw [hW, hG] at m3
      rw [hG]
      have e2 : ((Hn : Int) * ((W : Int) + 1)).toNat = Hn * (W + 1) := by
        have : ((Hn : Int) * ((W : Int) + 1)) = ((Hn * (W + 1) : Nat) : Int) := by rw [Int.natCast_mul]; rfl
        rw [this, Int.toNat_natCast]
      have e3 : ((Hn : Int) * (G : Int)).toNat = Hn * G := by rw [← Int.natCast_mul, Int.toNat_natCast]
      rw [e2] at m2
      rw [e3] at m3
      rw [Int.toNat_natCast, Int.toNat_natCast, m2, Nat.mul_div_cancel _ (by omega), List.length_append, List.length_append, outN_len (i := Hn) (undoN_len _ _ _ _) m3 (Nat.le_refl _), m1, m4]
      have hS : S = (W : Int) + (G : Int) := by omega
      have hSH : S * H = ((Hn * (W + G) : Nat) : Int) := by rw [hS, hH, Int.natCast_mul, Int.mul_comm]; rfl
      rw [hSH] at b10 ⊢
      omega
    · rw [if_neg hk]; exact .inr ⟨rfl, .inr rfl⟩
theorem unpack_total (xs : List Int) (most : Int) (hxs : inR .u8 xs) : ((unpackI xs most).2 = 0 ∧ ((unpackI xs most).1.length : Int) ≤ (if 0 > most then 0 else most) ∧ (unpackI xs most).1.length ≤ 1048576) ∨ ((unpackI xs most).1 = [] ∧ ((unpackI xs most).2 = 3 ∨ (unpackI xs most).2 = 4 ∨ (unpackI xs most).2 = 5)) := by
  unfold unpackI
  dsimp only
  generalize (if 0 > most then 0 else most) = mx
  by_cases h : (numsN xs 6).2.2 ≠ 0
  · rw [if_pos h]
    refine .inr ⟨rfl, ?_⟩
    rcases numsN_er xs 6 with h1 | h1 | h1
    · exact absurd h1 h
    · exact .inl h1
    · exact .inr (.inl h1)
  · rw [if_neg h]
    by_cases h5 : rd (numsN xs 6).1 0 > mx ∨ rd (numsN xs 6).1 0 > 1048576
    · rw [if_pos h5]; exact .inr ⟨rfl, .inr (.inr rfl)⟩
    · rw [if_neg h5]
      by_cases hbad : badIm (rd (numsN xs 6).1 0) (rd (numsN xs 6).1 1) (rd (numsN xs 6).1 2) (rd (numsN xs 6).1 3) (rd (numsN xs 6).1 4) (rd (numsN xs 6).1 5) = true
      · rw [if_pos hbad]; exact .inr ⟨rfl, .inr (.inl rfl)⟩
      · rw [if_neg hbad]
        have hnn : ∀ k, ∀ x ∈ (numsN xs k).1, 0 ≤ x := fun k => by
          induction k with
          | zero => intro x hx; cases hx
          | succ k ih =>
            intro x hx
            rw [numsN] at hx
            rcases List.mem_append.1 hx with hx | hx
            · exact ih x hx
            · simp at hx; subst hx
              have := (numR_rng (xs := xs) (a := (numsN xs k).2.1) (er := (numsN xs k).2.2) (most := 18446744073709551615) hxs).1
              unfold cap40; split <;> omega
        have hF : 0 ≤ rd (numsN xs 6).1 1 := hnn 6 _ (rd_mem (by decide) (by rw [numsN_len]; decide))
        rcases body_total (xs := xs) (a := (numsN xs 6).2.1) hF (Bool.eq_false_iff.2 hbad) with ⟨h1, h2⟩ | ⟨h1, h2⟩
        · exact .inl ⟨h1, by omega, by omega⟩
        · exact .inr ⟨h1, by omega⟩
end Go.Proofs.YtdhhmmllekkofaaV

/- Package colour: Turn, Back. -/
namespace Go.Proofs.YtdhhmmllekkofaaV
open Go Go.RowKit
section
variable {w0 w w' : World} {F : List It}
/-- The first i are turned. -/
def turnTo (g : List Int → Nat → Int) (xs : List Int) (i : Nat) : List Int := tab xs.length (fun q => if q < i then g xs q else rd xs q)
theorem turnTo_0 (g : List Int → Nat → Int) (xs : List Int) : turnTo g xs 0 = xs := by
  unfold turnTo
  rw [tab_ext (g := fun i => rd xs (i : Int)) (fun i _ => by rw [if_neg (by omega)])]
  exact tab_rd xs
theorem turnTo_len (g : List Int → Nat → Int) (xs : List Int) (i : Nat) : (turnTo g xs i).length = xs.length := tab_len _ _
theorem rd_turnTo {g : List Int → Nat → Int} {xs : List Int} {i q : Nat} (hq : q < xs.length) (h : i ≤ q) : rd (turnTo g xs i) (q : Int) = rd xs q := by
  unfold turnTo; rw [rd_tab hq, if_neg (by omega)]
theorem turnTo_end {g : List Int → Nat → Int} {xs : List Int} {i : Nat} (hi : i % 3 = 0) (h : xs.length < i + 3) (hg : ∀ q, ¬ q / 3 * 3 + 3 ≤ xs.length → g xs q = rd xs q) : turnTo g xs i = tab xs.length (g xs) :=
  tab_ext fun q hq => by
    split
    · rfl
    · rw [hg q (by omega)]
theorem turnTo_step {g : List Int → Nat → Int} {xs : List Int} {i : Nat} (hi : i % 3 = 0) (h : i + 3 ≤ xs.length) {a c : Int} (ha : g xs i = a) (hb : g xs (i + 1) = rd xs ((i + 1 : Nat) : Int)) (hc : g xs (i + 2) = c) : ((turnTo g xs i).set i a).set (i + 2) c = turnTo g xs (i + 3) := by
  unfold turnTo
  rw [tab_set (by omega), tab_set (by omega)]
  refine tab_ext fun q hq => ?_
  by_cases h2 : q = i + 2
  · subst h2; rw [if_pos rfl, if_pos (by omega), hc]
  · rw [if_neg h2]
    by_cases h0 : q = i
    · subst h0; rw [if_pos rfl, if_pos (by omega), ha]
    · rw [if_neg h0]
      by_cases h1 : q = i + 1
      · subst h1; rw [if_neg (by omega), if_pos (by omega), hb]
      · by_cases hlt : q < i
        · rw [if_pos hlt, if_pos (by omega)]
        · rw [if_neg hlt, if_neg (by omega)]
theorem Turn_any {b : Value} {xs : List Int} (hb : Nm .u8 w b xs) (hl : xs.length ≤ 1000000000) : Calls P n_colour_Turn #[b] w (NewB w (turnL xs)) := by
  refine of_colour_Turn (fApp0 (Fr.start w) hb (by omega) fun t9 w1 f1 => ?_)
  refine ⟨fun i w' => ∃ j : Nat, i = (j : Int) ∧ j % 3 = 0 ∧ j ≤ xs.length ∧ Fr w w' [oIt .u8 eB t9 (turnTo turnAt xs j)], fun i _ => (xs.length - i).toNat, ⟨0, rfl, rfl, Nat.zero_le _, by rw [turnTo_0]; exact f1⟩, ?_⟩
  rintro _ i w2 ⟨j, rfl, hj3, hjl, f2⟩
  have hn := f2.nm 0 rfl
  have hln := turnTo_len turnAt xs j
  refine gLen_nm hn ?_
  rw [hln, i64_id (n := (j : Int) + 3) (by omega) (by omega), i64_id (n := (j : Int) + 1) (by omega) (by omega), i64_id (n := (j : Int) + 2) (by omega) (by omega)]
  refine gIf_dec (fun hle => ?_) (fun hgt => ?_)
  · have hle' : j + 3 ≤ xs.length := by omega
    refine gGetB hn (by omega) (by omega) (fun _ => evDrew) (gGetB hn (by omega) (by omega) (fun _ => evDrew) (gGetB hn (by omega) (by omega) (fun _ => evDrew) ?_))
    rw [show (j : Int) + 1 = ((j + 1 : Nat) : Int) by omega, show (j : Int) + 2 = ((j + 2 : Nat) : Int) by omega, rd_turnTo (by omega) (Nat.le_refl _), rd_turnTo (by omega) (by omega), rd_turnTo (by omega) (by omega)]
    have r0 := rd_u8 hb.2 (j : Int)
    have r1 := rd_u8 hb.2 ((j + 1 : Nat) : Int)
    have r2 := rd_u8 hb.2 ((j + 2 : Nat) : Int)
    rw [i64_id (n := rd xs (j : Int)) (by omega) (by omega), i64_id (n := rd xs ((j + 1 : Nat) : Int)) (by omega) (by omega), i64_id (n := rd xs ((j + 2 : Nat) : Int)) (by omega) (by omega), i64_id (n := rd xs (j : Int) - rd xs ((j + 1 : Nat) : Int)) (by omega) (by omega), i64_id (n := rd xs ((j + 2 : Nat) : Int) - rd xs ((j + 1 : Nat) : Int)) (by omega) (by omega)]
    refine fSetO (j := j) f2.drew 0 rfl rfl (by omega) (u8i (u8_rg _)) fun w3 f3 => fSetO (j := j + 2) f3 0 rfl rfl (by rw [List.length_set]; omega) (u8i (u8_rg _)) fun w4 f4 => ?_
    have ha : turnAt xs j = u8 (rd xs (j : Int) - rd xs ((j + 1 : Nat) : Int)) := by unfold turnAt; rw [if_pos (by omega), if_neg (by omega), show j / 3 * 3 + 1 = j + 1 by omega]
    have hb' : turnAt xs (j + 1) = rd xs ((j + 1 : Nat) : Int) := by unfold turnAt; rw [if_pos (by omega), if_pos (by omega)]
    have hc : turnAt xs (j + 2) = u8 (rd xs ((j + 2 : Nat) : Int) - rd xs ((j + 1 : Nat) : Int)) := by unfold turnAt; rw [if_pos (by omega), if_neg (by omega), show (j + 2) / 3 * 3 + 1 = j + 1 by omega]
    have hst := turnTo_step hj3 hle' ha hb' hc
    have f4 : Fr w w4 [oIt .u8 eB t9 (((turnTo turnAt xs j).set j (u8 (rd xs (j : Int) - rd xs ((j + 1 : Nat) : Int)))).set (j + 2) (u8 (rd xs ((j + 2 : Nat) : Int) - rd xs ((j + 1 : Nat) : Int))))] := f4
    rw [hst] at f4
    exact ⟨⟨j + 3, by omega, by omega, hle', f4⟩, by dsimp only; omega⟩
  · rw [turnTo_end hj3 (by omega) (fun q hq => by unfold turnAt; rw [if_neg hq])] at f2
    exact ⟨t9, rfl, f2.old, f2.on 0 rfl⟩
theorem Back_any {b : Value} {xs : List Int} (hb : Nm .u8 w b xs) (hl : xs.length ≤ 1000000000) : Calls P n_colour_Back #[b] w (NewB w (backL xs)) := by
  refine of_colour_Back (fApp0 (Fr.start w) hb (by omega) fun t9 w1 f1 => ?_)
  refine ⟨fun i w' => ∃ j : Nat, i = (j : Int) ∧ j % 3 = 0 ∧ j ≤ xs.length ∧ Fr w w' [oIt .u8 eB t9 (turnTo backAt xs j)], fun i _ => (xs.length - i).toNat, ⟨0, rfl, rfl, Nat.zero_le _, by rw [turnTo_0]; exact f1⟩, ?_⟩
  rintro _ i w2 ⟨j, rfl, hj3, hjl, f2⟩
  have hn := f2.nm 0 rfl
  have hln := turnTo_len backAt xs j
  refine gLen_nm hn ?_
  rw [hln, i64_id (n := (j : Int) + 3) (by omega) (by omega), i64_id (n := (j : Int) + 1) (by omega) (by omega), i64_id (n := (j : Int) + 2) (by omega) (by omega)]
  refine gIf_dec (fun hle => ?_) (fun hgt => ?_)
  · have hle' : j + 3 ≤ xs.length := by omega
    refine gGetB hn (by omega) (by omega) (fun _ => evDrew) (gGetB hn (by omega) (by omega) (fun _ => evDrew) (gGetB hn (by omega) (by omega) (fun _ => evDrew) ?_))
    rw [show (j : Int) + 1 = ((j + 1 : Nat) : Int) by omega, show (j : Int) + 2 = ((j + 2 : Nat) : Int) by omega, rd_turnTo (by omega) (Nat.le_refl _), rd_turnTo (by omega) (by omega), rd_turnTo (by omega) (by omega)]
    have r0 := rd_u8 hb.2 (j : Int)
    have r1 := rd_u8 hb.2 ((j + 1 : Nat) : Int)
    have r2 := rd_u8 hb.2 ((j + 2 : Nat) : Int)
    rw [i64_id (n := rd xs (j : Int)) (by omega) (by omega), i64_id (n := rd xs ((j + 1 : Nat) : Int)) (by omega) (by omega), i64_id (n := rd xs ((j + 2 : Nat) : Int)) (by omega) (by omega), i64_id (n := rd xs (j : Int) + rd xs ((j + 1 : Nat) : Int)) (by omega) (by omega), i64_id (n := rd xs ((j + 2 : Nat) : Int) + rd xs ((j + 1 : Nat) : Int)) (by omega) (by omega)]
    refine fSetO (j := j) f2.drew 0 rfl rfl (by omega) (u8i (u8_rg _)) fun w3 f3 => fSetO (j := j + 2) f3 0 rfl rfl (by rw [List.length_set]; omega) (u8i (u8_rg _)) fun w4 f4 => ?_
    have ha : backAt xs j = u8 (rd xs (j : Int) + rd xs ((j + 1 : Nat) : Int)) := by unfold backAt; rw [if_pos (by omega), if_neg (by omega), show j / 3 * 3 + 1 = j + 1 by omega]
    have hb' : backAt xs (j + 1) = rd xs ((j + 1 : Nat) : Int) := by unfold backAt; rw [if_pos (by omega), if_pos (by omega)]
    have hc : backAt xs (j + 2) = u8 (rd xs ((j + 2 : Nat) : Int) + rd xs ((j + 1 : Nat) : Int)) := by unfold backAt; rw [if_pos (by omega), if_neg (by omega), show (j + 2) / 3 * 3 + 1 = j + 1 by omega]
    have hst := turnTo_step hj3 hle' ha hb' hc
    have f4 : Fr w w4 [oIt .u8 eB t9 (((turnTo backAt xs j).set j (u8 (rd xs (j : Int) + rd xs ((j + 1 : Nat) : Int)))).set (j + 2) (u8 (rd xs ((j + 2 : Nat) : Int) + rd xs ((j + 1 : Nat) : Int))))] := f4
    rw [hst] at f4
    exact ⟨⟨j + 3, by omega, by omega, hle', f4⟩, by dsimp only; omega⟩
  · rw [turnTo_end hj3 (by omega) (fun q hq => by unfold backAt; rw [if_neg hq])] at f2
    exact ⟨t9, rfl, f2.old, f2.on 0 rfl⟩
end
end Go.Proofs.YtdhhmmllekkofaaV

/- Writers and readers of numbers, in a frame. -/
namespace Go.Proofs.YtdhhmmllekkofaaV
open Go Go.RowKit
section
variable {w0 w w' : World} {F : List It}
theorem Fr.oth {it : It} {S : SS} (h : Fr w0 w F) (i : Nat) (hi : F[i]? = some it) (hc : Ch S w w') (hS : ∀ k q, S k q → it.ft k) : Fr w0 w' (F.eraseIdx i) := by
  refine (h.drop i).ch hc (fun k q hs => (h.ft i hi (hS k q hs)).1) fun jt hj k q hk hs => ?_
  obtain ⟨j, hj2⟩ := List.mem_iff_getElem?.1 hj
  rw [List.getElem?_eraseIdx] at hj2
  split at hj2
  · rename_i hlt
    exact h.apart hi hj2 (by omega) k (hS k q hs) hk
  · rename_i hge
    exact h.apart hi hj2 (by omega) k (hS k q hs) hk
theorem Fr.cons {jt : It} {n : Nat} (h : Fr w0 w F) (hn : w0.heap.size ≤ n) (hF : ∀ it ∈ F, ∀ k, it.ft k → k < n) (ok : jt.ok w) (hf : ∀ k, jt.ft k → n ≤ k) : Fr w0 w (jt :: F) :=
  ⟨ok, fun k hk => Nat.le_trans hn (hf k hk), fun it hi k hk hik => by have := hf k hk; have := hF it hi k hik; omega, h⟩
/-! ### Writers -/
theorem fNewW {K : Addr → World → Prop} (f : Fr w0 w F) (hk : ∀ ad v w', Fr w0 w' (wIt eB ad v [] :: F) → K ad w') : gAlloc P t_num_Writer w K :=
  fAlloc (z := .agg #[.slice none 0 0]) f (by kernel_rfl) fun ad w' f' => hk ad (.slice none 0 0) w' (f'.asW (e := eB) 0 rfl)
theorem fNum {ad : Addr} {v : Value} {xs : List Int} {n : Int} {K : World → Prop} (f : Fr w0 w F) (i : Nat) (hi : F[i]? = some (wIt eB ad v xs)) (hn : 0 ≤ n ∧ n < 18446744073709551616) (hl : xs.length + 10 ≤ 10000000000)
    (hk : ∀ v' w', Fr w0 w' (F.set i (wIt eB ad v' (xs ++ numB n.toNat))) → K w') : gCall P n_num_Writer_Num shU #[.pointer (some ad), .int .u64 n] w K :=
  gCall_u (Num_any (f.get i hi) hn hl) fun w' ⟨v', hw⟩ => hk v' w' (f.wr i hi hw)
theorem fRawW {ad : Addr} {v p : Value} {xs : List Int} {yss : List (List Int)} {K : World → Prop} (f : Fr w0 w F) (i : Nat) (hi : F[i]? = some (wIt eB ad v xs)) (hp : ∀ w', Fr w0 w' (F.eraseIdx i) → NL .u8 w' p yss) (hl : xs.length + yss.flatten.length ≤ 10000000000) (hn : yss.length ≤ 10000000000)
    (hk : ∀ v' w', Fr w0 w' (F.set i (wIt eB ad v' (xs ++ yss.flatten))) → K w') : gCall P n_num_Writer_Raw shU #[.pointer (some ad), p] w K :=
  gCall_u (Raw_any (f.get i hi) (fun w' hc => hp w' (f.oth i hi hc fun k q h => h)) hl hn) fun w' ⟨v', hw⟩ => hk v' w' (f.wr i hi hw)
theorem fBytesW {ad : Addr} {v : Value} {xs : List Int} {K : Value → World → Prop} (f : Fr w0 w F) (i : Nat) (hi : F[i]? = some (wIt eB ad v xs)) (hl : xs.length ≤ 10000000000) (hk : ∀ y w', Fr w0 w' (oIt .u8 eB y xs :: F) → K y w') : gCall P n_num_Writer_Bytes shV #[.pointer (some ad)] w K :=
  gCall_v (Q := fun y w' => Ev w w' ∧ ON .u8 eB w' w.heap.size y xs) (Bytes_W (f.get i hi) hl) fun y w' ⟨h1, h2⟩ => hk y w' (f.newO h1 h2)
/-! ### Readers -/
theorem fNewR {b : Value} {xs : List Int} {K : Option Addr → World → Prop} (f : Fr w0 w F) (hb : Nm .u8 w b xs) (hl : xs.length ≤ 10000000000) (hk : ∀ ad y w', Fr w0 w' (sIt ad [y, .int .i64 ((0 : Nat) : Int), .int .i64 0] :: oIt .u8 eB y xs :: F) → K (some ad) w') : gCall P n_num_New shP #[b] w K :=
  gCall_of (nNew_any hb hl) fun _ w' ⟨ad, y, h1, h2⟩ => ⟨some ad, h1, hk ad y w' (h2 f)⟩
theorem fNumR {ad : Addr} {y : Value} {xs : List Int} {a : Nat} {er : Int} {K : Int → World → Prop} (f : Fr w0 w (sIt ad [y, .int .i64 a, .int .i64 er] :: oIt .u8 eB y xs :: F)) (ha : a ≤ xs.length) (hl : xs.length ≤ 10000000000)
    (hk : ∀ w', Fr w0 w' (sIt ad [y, .int .i64 (numR xs a er 18446744073709551615).2.1, .int .i64 (numR xs a er 18446744073709551615).2.2] :: oIt .u8 eB y xs :: F) → K (numR xs a er 18446744073709551615).1 w') : gCall P n_num_Reader_Num (shI .u64) #[.pointer (some ad)] w K :=
  gCall_i (rNum_any (f.rd 0 1 rfl rfl (by decide) ha hl)) fun w' h => hk w' (f.rs 0 rfl h)
theorem fErrR {ad : Addr} {y : Value} {xs : List Int} {a : Nat} {er : Int} {K : Int → World → Prop} (f : Fr w0 w (sIt ad [y, .int .i64 a, .int .i64 er] :: oIt .u8 eB y xs :: F)) (ha : a ≤ xs.length) (hl : xs.length ≤ 10000000000) (hk : K er w) : gCall P n_num_Reader_Err (shI .i64) #[.pointer (some ad)] w K :=
  gCall_i0 (rErr_any (f.rd 0 1 rfl rfl (by decide) ha hl)) hk
theorem fEndR {ad : Addr} {y : Value} {xs : List Int} {a : Nat} {er : Int} {K : Int → World → Prop} (f : Fr w0 w (sIt ad [y, .int .i64 a, .int .i64 er] :: oIt .u8 eB y xs :: F)) (ha : a ≤ xs.length) (hl : xs.length ≤ 10000000000) (hk : ∀ w', Ev w w' → K (endR xs.length a er) w') : gCall P n_num_Reader_End (shI .i64) #[.pointer (some ad)] w K :=
  gCall_i (rEnd_any (f.rd 0 1 rfl rfl (by decide) ha hl)) hk
theorem fRawR {ad : Addr} {y : Value} {xs : List Int} {a : Nat} {er n : Int} {K : Value → World → Prop} (f : Fr w0 w (sIt ad [y, .int .i64 a, .int .i64 er] :: oIt .u8 eB y xs :: F)) (ha : a ≤ xs.length) (hl : xs.length ≤ 10000000000) (hn : n ≤ 9223372036854775807)
    (hk : ∀ z w', Fr w0 w' (sIt ad [y, .int .i64 (rawR xs a er n).2.1, .int .i64 (rawR xs a er n).2.2] :: oIt .u8 eB y xs :: oIt .u8 eB z (rawR xs a er n).1 :: F) → K z w') : gCall P n_num_Reader_Raw shV #[.pointer (some ad), .int .i64 n] w K := by
  refine gCall_of (rRaw_any (f.rd 0 1 rfl rfl (by decide) ha hl) hn) ?_
  rintro _ w' ⟨z, rfl, h1, h2⟩
  refine ⟨z, rfl, hk z w' ?_⟩
  have f' : Fr w0 w' (sIt ad [y, .int .i64 (rawR xs a er n).2.1, .int .i64 (rawR xs a er n).2.2] :: oIt .u8 eB y xs :: F) := f.rs 0 rfl h1
  have hz : ∀ k, z.ownBlock = some k → w.heap.size ≤ k := fun k hk => (h2.base hk).1
  have hlt : ∀ it ∈ (sIt ad [y, .int .i64 (rawR xs a er n).2.1, .int .i64 (rawR xs a er n).2.2] :: oIt .u8 eB y xs :: F), ∀ k, it.ft k → k < w.heap.size := fun it hi k hk => by
    rcases List.mem_cons.1 hi with rfl | hi
    · exact It.lt (sIt ad [y, .int .i64 a, .int .i64 er]) w k (f.get 0 rfl) hk
    · exact It.lt it w k (f.mem (List.mem_cons_of_mem _ hi)).1 hk
  have f2 := f'.cons (jt := oIt .u8 eB z (rawR xs a er n).1) f.old.size hlt (h2.low (Nat.zero_le _)) hz
  exact f2.picksN 3 [1, 2, 0] (by decide) (by decide)
theorem numR_le {xs : List Int} {a : Nat} {er m : Int} (ha : a ≤ xs.length) : (numR xs a er m).2.1 ≤ xs.length := (numR_at ha).2
theorem rawR_le {xs : List Int} {a : Nat} {er n : Int} (ha : a ≤ xs.length) : (rawR xs a er n).2.1 ≤ xs.length := by
  unfold rawR
  split
  · exact ha
  · split
    · exact ha
    · dsimp only; omega
/-- Slices of which each reads so, in a slice. -/
theorem NL.of {k : IntKind} {p : Value} {us : List Value} {yss : List (List Int)} (hp : Sl w 1 p us.length us) (hl : us.length = yss.length) (h : ∀ (i : Nat) (u : Value) (ys : List Int), us[i]? = some u → yss[i]? = some ys → Nm k w u ys) : NL k w p yss := ⟨us, by rw [← hl]; exact hp, h⟩
end
end Go.Proofs.YtdhhmmllekkofaaV

/- What is packed is unpacked: no program in sight. -/
namespace Go.Proofs.YtdhhmmllekkofaaV
open Go Go.RowKit
theorem drop_next {xs ys zs : List Int} {a : Nat} (h : xs.drop a = ys ++ zs) : xs.drop (a + ys.length) = zs := by rw [← List.drop_drop, h, List.drop_left]
def numsB (qs : List Nat) : List Int := (qs.map numB).flatten
theorem numsB_snoc (qs : List Nat) (q : Nat) : numsB (qs ++ [q]) = numsB qs ++ numB q := by simp [numsB]
theorem numsN_of {ys rest : List Int} (qs : List Nat) (hy : ys = numsB qs ++ rest) (hq : ∀ q ∈ qs, q ≤ 1099511627776) : ∀ k, k ≤ qs.length → numsN ys k = ((qs.take k).map (fun (q : Nat) => (q : Int)), (numsB (qs.take k)).length, 0) := by
  intro k
  induction k with
  | zero => intro _; rfl
  | succ k ih =>
    intro hk
    have hlt : k < qs.length := by omega
    have htk : qs.take (k + 1) = qs.take k ++ [qs[k]] := List.take_succ_eq_append_getElem hlt
    have hsp : qs = qs.take k ++ qs[k] :: qs.drop (k + 1) := by rw [← List.drop_eq_getElem_cons hlt, List.take_append_drop]
    have hqk := hq qs[k] (List.getElem_mem hlt)
    generalize qs[k] = q at htk hsp hqk
    have hd : ys.drop (numsB (qs.take k)).length = numB q ++ (numsB (qs.drop (k + 1)) ++ rest) := by
      have e : numsB qs = numsB (qs.take k) ++ (numB q ++ numsB (qs.drop (k + 1))) := by
        conv => lhs; rw [hsp]
        simp [numsB]
      rw [hy, e, List.append_assoc, List.drop_left, List.append_assoc]
    rw [numsN, ih (by omega)]
    have hn : numR ys (numsB (qs.take k)).length 0 18446744073709551615 = ((q : Int), (numsB (qs.take k)).length + (numB q).length, 0) := numR_of (by omega) (by omega) hd
    dsimp only
    rw [hn, htk, numsB_snoc, List.map_append, List.length_append]
    have hc : cap40 (q : Int) = (q : Int) := by unfold cap40; rw [if_neg (by omega)]
    rw [hc]; rfl
section
variable {xs : List Int} {F Wd H L S : Nat}
theorem packN_eq : packN xs F Wd H L S = numsB [xs.length, F, Wd, H, L, S] ++ (xs.take F ++ (applyN (pixN xs F S (Wd * L) L H) (Wd * L) L H ++ (besN xs F S (Wd * L) H ++ xs.drop (F + S * H)))) := by
  unfold packN numsB; simp
theorem unpack_packN (hx : inR .u8 xs) (hl : xs.length ≤ 1048576) (h1 : 1 ≤ Wd) (h2 : Wd ≤ 32768) (h3 : 1 ≤ H) (h4 : H ≤ 32768) (h5 : 1 ≤ L) (h6 : L ≤ 3) (h7 : Wd * L ≤ S) (h8 : F + S * H ≤ xs.length) (most : Int) :
    unpackI (packN xs F Wd H L S) most = if (xs.length : Int) > (if 0 > most then 0 else most) then ([], 5) else (xs, 0) := by
  have hS : S ≤ S * H := Nat.le_mul_of_pos_right _ (by omega)
  have hW : Wd ≤ Wd * L := Nat.le_mul_of_pos_right _ (by omega)
  have hH : H ≤ S * H := Nat.le_mul_of_pos_left _ (by omega)
  obtain ⟨W, hWe⟩ : ∃ W, W = Wd * L := ⟨_, rfl⟩
  have hpl := pixN_len (L := L) h8 (show Wd * L ≤ S from h7) (Nat.le_refl H)
  have hbl := besN_len h8 (show Wd * L ≤ S from h7) (Nat.le_refl H)
  have hpx : inR .u8 (pixN xs F S (Wd * L) L H) := pixN_in hx H
  have hall := out_all (L := L) hx h8 (show Wd * L ≤ S from h7) (Nat.le_refl H)
  obtain ⟨ys, hys⟩ : ∃ ys, ys = packN xs F Wd H L S := ⟨_, rfl⟩
  have hye := packN_eq (xs := xs) (F := F) (Wd := Wd) (H := H) (L := L) (S := S)
  rw [← hys] at hye ⊢
  have hnum := numsN_of (ys := ys) [xs.length, F, Wd, H, L, S] hye (fun q hq => by
    simp only [List.mem_cons, List.not_mem_nil, or_false] at hq
    rcases hq with rfl | rfl | rfl | rfl | rfl | rfl <;> omega) 6 (by simp)
  rw [show ([xs.length, F, Wd, H, L, S].take 6) = [xs.length, F, Wd, H, L, S] from rfl] at hnum
  obtain ⟨a6, ha6⟩ : ∃ a6, a6 = (numsB [xs.length, F, Wd, H, L, S]).length := ⟨_, rfl⟩
  have hd0 : ys.drop a6 = xs.take F ++ (applyN (pixN xs F S (Wd * L) L H) (Wd * L) L H ++ (besN xs F S (Wd * L) H ++ xs.drop (F + S * H))) := by rw [hye, ha6, List.drop_left]
  have hal := applyN_len (p := (L : Int)) hpl (Nat.le_refl H)
  have hyl : ys.length = a6 + (F + (H * (Wd * L + 1) + (H * (S - Wd * L) + (xs.length - (F + S * H))))) := by
    rw [hye, List.length_append, List.length_append, List.length_append, List.length_append, hal, hbl, List.length_drop, List.length_take, ← ha6]; omega
  rw [← ha6] at hnum
  clear ha6 hye
  generalize hA : applyN (pixN xs F S (Wd * L) L H) (Wd * L) L H = A at hd0 hal
  generalize hB : besN xs F S (Wd * L) H = B at hd0 hbl hall
  unfold unpackI
  dsimp only
  rw [hnum]
  dsimp only
  rw [if_neg (show ¬ ((0 : Int) ≠ 0) from fun h => h rfl)]
  have g0 : rd (List.map (fun (q : Nat) => (q : Int)) [xs.length, F, Wd, H, L, S]) 0 = (xs.length : Int) := rfl
  have g1 : rd (List.map (fun (q : Nat) => (q : Int)) [xs.length, F, Wd, H, L, S]) 1 = (F : Int) := rfl
  have g2 : rd (List.map (fun (q : Nat) => (q : Int)) [xs.length, F, Wd, H, L, S]) 2 = (Wd : Int) := rfl
  have g3 : rd (List.map (fun (q : Nat) => (q : Int)) [xs.length, F, Wd, H, L, S]) 3 = (H : Int) := rfl
  have g4 : rd (List.map (fun (q : Nat) => (q : Int)) [xs.length, F, Wd, H, L, S]) 4 = (L : Int) := rfl
  have g5 : rd (List.map (fun (q : Nat) => (q : Int)) [xs.length, F, Wd, H, L, S]) 5 = (S : Int) := rfl
  rw [g0, g1, g2, g3, g4, g5]
  generalize (if 0 > most then 0 else most) = mx
  by_cases hm : (xs.length : Int) > mx
  · rw [if_pos (.inl hm), if_pos hm]
  rw [if_neg (by omega), if_neg hm]
  have eSH : (S : Int) * (H : Int) = ((S * H : Nat) : Int) := by rw [Int.natCast_mul]
  have eWL : (Wd : Int) * (L : Int) = ((Wd * L : Nat) : Int) := by rw [Int.natCast_mul]
  have hbad : badIm (xs.length : Int) F Wd H L S = false := by
    unfold badIm
    rw [eSH, eWL]
    exact decide_eq_false (by omega)
  rw [if_neg (by rw [hbad]; decide)]
  unfold bodyI
  dsimp only
  rw [eSH, eWL]
  have eSW : (S : Int) - ((Wd * L : Nat) : Int) = ((S - Wd * L : Nat) : Int) := by omega
  rw [eSW]
  have n2 : (H : Int) * (((Wd * L : Nat) : Int) + 1) = ((H * (Wd * L + 1) : Nat) : Int) := by rw [Int.natCast_mul]; rfl
  have n3 : (H : Int) * ((S - Wd * L : Nat) : Int) = ((H * (S - Wd * L) : Nat) : Int) := by rw [Int.natCast_mul]
  have n4 : (xs.length : Int) - ((F : Int) + ((S * H : Nat) : Int)) = ((xs.length - (F + S * H) : Nat) : Int) := by omega
  rw [n2, n3, n4, rawR_in (a := a6) (n := F) (by omega)]
  dsimp only
  rw [rawR_in (a := a6 + F) (by omega)]
  dsimp only
  rw [rawR_in (a := a6 + F + H * (Wd * L + 1)) (by omega)]
  dsimp only
  rw [rawR_in (a := a6 + F + H * (Wd * L + 1) + H * (S - Wd * L)) (by omega)]
  dsimp only
  have lF : (xs.take F).length = F := by rw [List.length_take]; omega
  have hd1 : ys.drop (a6 + F) = A ++ (B ++ xs.drop (F + S * H)) := by have := drop_next hd0; rwa [lF] at this
  have hd2 : ys.drop (a6 + F + H * (Wd * L + 1)) = B ++ xs.drop (F + S * H) := by have := drop_next hd1; rwa [hal] at this
  have hd3 : ys.drop (a6 + F + H * (Wd * L + 1) + H * (S - Wd * L)) = xs.drop (F + S * H) := by have := drop_next hd2; rwa [hbl] at this
  have t0 : (ys.drop a6).take F = xs.take F := by rw [hd0, List.take_append_of_le_length (by omega), List.take_of_length_le (by omega)]
  have t1 : (ys.drop (a6 + F)).take (H * (Wd * L + 1)) = A := by rw [hd1, ← hal, List.take_left]
  have t2 : (ys.drop (a6 + F + H * (Wd * L + 1))).take (H * (S - Wd * L)) = B := by rw [hd2, ← hbl, List.take_left]
  have t3 : (ys.drop (a6 + F + H * (Wd * L + 1) + H * (S - Wd * L))).take (xs.length - (F + S * H)) = xs.drop (F + S * H) := by rw [hd3, List.take_of_length_le (by rw [List.length_drop]; exact Nat.le_refl _)]
  rw [t0, t1, t2, t3]
  have hend : endR ys.length (a6 + F + H * (Wd * L + 1) + H * (S - Wd * L) + (xs.length - (F + S * H))) 0 = 0 := by
    unfold endR; rw [if_neg (by simp), if_neg (by omega)]
  rw [hend, if_neg (show ¬ ((0 : Int) ≠ 0) from fun h => h rfl)]
  have hdiv : H * (Wd * L + 1) / (Wd * L + 1) = H := Nat.mul_div_cancel _ (by omega)
  have hsw : H * (Wd * L) ≤ S * H := by rw [Nat.mul_comm]; exact Nat.mul_le_mul_right _ h7
  have hu : undoOk A.length ((Wd * L : Nat) : Int) L = true := by
    rw [hal]
    have e1 : ((H * (Wd * L + 1) : Nat) : Int) % (((Wd * L : Nat) : Int) + 1) = 0 := by
      have : ((H * (Wd * L + 1) : Nat) : Int) % ((Wd * L + 1 : Nat) : Int) = ((H * (Wd * L + 1) % (Wd * L + 1) : Nat) : Int) := by rw [Int.natCast_emod]
      rw [Nat.mul_mod_left] at this; exact this
    have e2 : ((H * (Wd * L + 1) : Nat) : Int) / (((Wd * L : Nat) : Int) + 1) * ((Wd * L : Nat) : Int) = ((H * (Wd * L) : Nat) : Int) := by
      have : ((H * (Wd * L + 1) : Nat) : Int) / ((Wd * L + 1 : Nat) : Int) = ((H * (Wd * L + 1) / (Wd * L + 1) : Nat) : Int) := by rw [Int.natCast_ediv]
      rw [hdiv] at this
      rw [show (((Wd * L : Nat) : Int) + 1) = ((Wd * L + 1 : Nat) : Int) from rfl, this, Int.natCast_mul H]
    simp only [undoOk, rightI, Bool.and_eq_true, decide_eq_true_eq]
    refine ⟨⟨⟨⟨⟨?_, ?_⟩, ?_⟩, ?_⟩, e1⟩, by rw [e2]; omega⟩ <;> omega
  have hk : kindsOk A ((Wd * L : Nat) : Int).toNat (A.length / (((Wd * L : Nat) : Int).toNat + 1)) = true := by
    rw [Int.toNat_natCast, hal, hdiv]
    unfold kindsOk
    refine decide_eq_true fun i hi => ?_
    rw [← hA, (undo_applyR hpx hpl hi).1]
    exact (best_rng _ _ _).2
  rw [if_pos ⟨hu, hk⟩, Int.toNat_natCast, Int.toNat_natCast, Int.toNat_natCast, hal, hdiv, ← hA, undo_applyN hpx hpl (Nat.le_refl H), show (pixN xs F S (Wd * L) L H).take (H * (Wd * L)) = pixN xs F S (Wd * L) L H from List.take_of_length_le (by rw [hpl]; exact Nat.le_refl _)]
  rw [hall, Nat.mul_comm H S, List.take_append_drop]
end
/-- The picture's measures, as they are. -/
theorem inP_nat {p : Pc} {n : Nat} (h : InP p n) : ∃ F Wd H L S : Nat, p = ⟨Wd, H, L, S, F⟩ ∧ 1 ≤ Wd ∧ Wd ≤ 32768 ∧ 1 ≤ H ∧ H ≤ 32768 ∧ (L = 1 ∨ L = 3) ∧ Wd * L ≤ S ∧ F + S * H ≤ n := by
  obtain ⟨a1, a2, a3, a4, a5, a6, a7, a8, a9⟩ := h
  obtain ⟨wd, ht, pl, st, fr⟩ := p
  simp only at *
  have hst : 0 ≤ st := Int.le_trans (Int.mul_nonneg (by omega) (by omega)) a6
  refine ⟨fr.toNat, wd.toNat, ht.toNat, pl.toNat, st.toNat, ?_, by omega, by omega, by omega, by omega, by omega, ?_, ?_⟩
  · congr 1 <;> omega
  · have : ((wd.toNat * pl.toNat : Nat) : Int) = wd * pl := by rw [Int.natCast_mul, Int.toNat_of_nonneg (by omega), Int.toNat_of_nonneg (by omega)]
    omega
  · have : ((st.toNat * ht.toNat : Nat) : Int) = st * ht := by rw [Int.natCast_mul, Int.toNat_of_nonneg (by omega), Int.toNat_of_nonneg (by omega)]
    omega
theorem pack_len {xs : List Int} {F Wd H L S : Nat} (hl : xs.length ≤ 1048576) (h2 : Wd ≤ 32768) (h4 : H ≤ 32768) (h6 : L ≤ 3) (h7 : Wd * L ≤ S) (h8 : F + S * H ≤ xs.length) (hs : S ≤ xs.length) : (packN xs F Wd H L S).length ≤ xs.length + H + 60 := by
  have hb : ∀ q : Nat, q ≤ 1048576 → (numB q).length ≤ 10 := fun q hq => numB_len64 (by omega)
  have b1 := hb xs.length hl
  have b2 := hb F (by omega)
  have b3 := hb Wd (by omega)
  have b4 := hb H (by omega)
  have b5 := hb L (by omega)
  have b6 := hb S (by omega)
  have hpl := pixN_len (L := L) h8 h7 (Nat.le_refl H)
  unfold packN
  simp only [List.length_append, applyN_len hpl (Nat.le_refl H), besN_len h8 h7 (Nat.le_refl H), List.length_take, List.length_drop]
  have e : H * (Wd * L + 1) + H * (S - Wd * L) = S * H + H := by
    rw [← Nat.mul_add, Nat.mul_comm S H, ← Nat.mul_succ]; congr 1; omega
  omega
end Go.Proofs.YtdhhmmllekkofaaV

/- Package image: the packer's measures; Pack. -/
namespace Go.Proofs.YtdhhmmllekkofaaV
open Go Go.RowKit
/-- A packer's five numbers. -/
def pkC (F Wd H L S : Nat) : List Value := [.int .i64 Wd, .int .i64 H, .int .i64 L, .int .i64 S, .int .i64 F]
section
variable {w0 w w' : World} {G : List It} {F Wd H L S : Nat} {ad : Addr}
theorem add0 (ad : Addr) (n : Nat) : Addr.add (Addr.add ad 0) n = ad.add n := by rw [Addr.add_zero']
theorem wide_any (h : St w ad (pkC F Wd H L S)) (hb : Wd * L ≤ 1000000000000) : Calls P n_image_packer_wide #[.pointer (some ad)] w (fun e w' => e = .returned (.int .i64 ((Wd * L : Nat) : Int)) ∧ Ev w w') := by
  refine of_image_packer_wide (gNil_some ?_)
  rw [add0]
  refine gLoadB_i (at1 (h.cell (j := 0) rfl)) (gNil_some ?_)
  rw [add0]
  refine gLoadB_i (at1 (h.cell (j := 2) rfl)) ⟨?_, Ev.drew0 w⟩
  rw [← Int.natCast_mul, i64_id (by omega) (by omega)]
theorem end_any (h : St w ad (pkC F Wd H L S)) (hb : F + S * H ≤ 4000000000000000000) : Calls P n_image_packer_end #[.pointer (some ad)] w (fun e w' => e = .returned (.int .i64 ((F + S * H : Nat) : Int)) ∧ Ev w w') := by
  refine of_image_packer_end (gNil_some ?_)
  rw [add0]
  refine gLoadB_i (at1 (h.cell (j := 4) rfl)) (gNil_some ?_)
  rw [add0]
  refine gLoadB_i (at1 (h.cell (j := 3) rfl)) (gNil_some ?_)
  rw [add0]
  refine gLoadB_i (at1 (h.cell (j := 1) rfl)) ⟨?_, Ev.drew0 w⟩
  rw [← Int.natCast_mul, i64_id (n := ((S * H : Nat) : Int)) (by omega) (by omega), ← Int.natCast_add, i64_id (by omega) (by omega)]
theorem turn_any {b : Value} {xs : List Int} (h : St w ad (pkC F Wd H L S)) (hb : Nm .u8 w b xs) (hl : xs.length ≤ 1000000000) : Calls P n_image_packer_turn #[.pointer (some ad), b] w (fun e w' => ∃ v, e = .returned v ∧ Ev w w' ∧ Nm .u8 w' v (turnP L xs)) := by
  refine of_image_packer_turn (gNil_some ?_)
  rw [add0]
  refine gLoad_i (h.cell (j := 2) rfl) (gIf_eq (fun h3 => ?_) (fun h3 => ?_))
  · have : L = 3 := by omega
    subst this
    exact gCall_v (Q := fun v w' => Ev w w' ∧ ON .u8 eB w' w.heap.size v (turnL xs)) (Turn_any hb hl) fun v w' ⟨h1, h2⟩ => ⟨v, rfl, h1, h2.nm⟩
  · refine ⟨b, rfl, Ch.refl _ w, ?_⟩
    unfold turnP; rw [if_neg (by omega)]; exact hb
theorem pback_any {b : Value} {xs : List Int} (h : St w ad (pkC F Wd H L S)) (hb : Nm .u8 w b xs) (hl : xs.length ≤ 1000000000) : Calls P n_image_packer_back #[.pointer (some ad), b] w (fun e w' => ∃ v, e = .returned v ∧ Ev w w' ∧ Nm .u8 w' v (backP L xs)) := by
  refine of_image_packer_back (gNil_some ?_)
  rw [add0]
  refine gLoad_i (h.cell (j := 2) rfl) (gIf_eq (fun h3 => ?_) (fun h3 => ?_))
  · have : L = 3 := by omega
    subst this
    exact gCall_v (Q := fun v w' => Ev w w' ∧ ON .u8 eB w' w.heap.size v (backL xs)) (Back_any hb hl) fun v w' ⟨h1, h2⟩ => ⟨v, rfl, h1, h2.nm⟩
  · refine ⟨b, rfl, Ch.refl _ w, ?_⟩
    unfold backP; rw [if_neg (by omega)]; exact hb
theorem applyOk_of {n W L : Nat} (h1 : 1 ≤ W) (h2 : W ≤ 1048576) (h3 : 1 ≤ L) (h4 : L ≤ 4) (h5 : n * W ≤ 1048576) : applyOk (n * W) W L = true := by
  have e1 : ((n * W : Nat) : Int) % (W : Int) = 0 := by
    have : ((n * W : Nat) : Int) % (W : Int) = ((n * W % W : Nat) : Int) := by rw [Int.natCast_emod]
    rw [Nat.mul_mod_left] at this; exact this
  simp only [applyOk, rightI, Bool.and_eq_true, decide_eq_true_eq]
  refine ⟨⟨⟨⟨⟨?_, ?_⟩, ?_⟩, ?_⟩, e1⟩, h5⟩ <;> omega
theorem Pack_any {b : Value} {xs : List Int} (hb : Nm .u8 w b xs) (hl : xs.length ≤ 1000000000) : Calls P n_image_Pack #[b] w (TupB w (packI xs)) := by
  refine of_image_Pack (gCall_pic (Parse_any hb hl) fun w1 h1 => fPicNew ((Fr.start w).ev h1) fun x4 w2 f2 => fPicSet f2 0 rfl rfl fun w3 f3 => ?_)
  have f3 : Fr w w3 [sIt x4 (parseP xs).1.c] := f3
  have hin := (parse_in hb.2).1
  have nope : ∀ {w'}, Ev w w' → ¬ ((parseP xs).2 = true ∧ xs.length ≤ 1048576) → TupB w (packI xs) (.returned (.tuple #[.slice none 0 0, .bool false])) w' := fun he hn => by
    unfold packI; rw [if_neg hn]
    exact ⟨_, rfl, he, ON.nil _ _ _ _⟩
  refine ⟨fun w' => ((parseP xs).2 = true ∧ xs.length ≤ 1048576) ∧ Fr w w' [sIt x4 (parseP xs).1.c], gIf_nnb (fun ht => gLen_nm (hb.ev f3.old) (gIf_dec (fun hgt => nope f3.old (by omega)) (fun hle => ⟨⟨ht, by omega⟩, f3⟩))) (fun hf => nope f3.old (by rw [hf]; simp)), ?_⟩
  rintro _ w4 ⟨⟨ht, hle⟩, f4⟩
  obtain ⟨F, Wd, H, L, S, hp, a1, a2, a3, a4, a5, a6, a7⟩ := inP_nat (hin ht)
  have hpk : packI xs = (packN xs F Wd H L S, true) := by
    unfold packI packP; rw [if_pos ⟨ht, hle⟩, hp]; simp
  rw [hp] at f4
  have hS : S ≤ S * H := Nat.le_mul_of_pos_right _ (by omega)
  have hW : Wd ≤ Wd * L := Nat.le_mul_of_pos_right _ (by omega)
  have hWL : Wd * L ≤ 32768 * 3 := Nat.mul_le_mul a2 (by omega)
  have hH : H ≤ S * H := Nat.le_mul_of_pos_left _ (by omega)
  refine fPic ⟨Wd, H, L, S, F⟩ f4 0 rfl (fBox f4 fun t29 w5 f5 => fNewW f5 fun o7 v7 w6 f6 => ?_)
  have f6 : Fr w w6 [wIt eB o7 v7 [], sIt t29 (pkC F Wd H L S), sIt x4 (Pc.mk Wd H L S F).c] := f6
  have hB : ∀ {w' : World} {F' : List It} (i : Nat), Fr w w' F' → F'[i]? = some (sIt t29 (pkC F Wd H L S)) → ∀ (j : Nat) (u : Value), (pkC F Wd H L S)[j]? = some u → w'.cell? (t29.add j) = some u := fun i f hi j u hj => f.cell i j hi hj
  have hSt : ∀ {w' : World} {F' : List It} (i : Nat), Fr w w' F' → F'[i]? = some (sIt t29 (pkC F Wd H L S)) → St w' t29 (pkC F Wd H L S) := fun i f hi => f.get i hi
  refine ⟨fun w' => ∀ (j : Nat) (u : Value), (pkC F Wd H L S)[j]? = some u → w'.cell? (t29.add j) = some u, hB 1 f6.drew rfl, gLen_nm (hb.ev f6.old) (gNil_some ?_)⟩
  rw [add0]
  refine gLoadB_i (fun w' hw => hw 4 _ rfl) (gNil_some ?_)
  rw [add0]
  refine gLoadB_i (fun w' hw => hw 0 _ rfl) (gNil_some ?_)
  rw [add0]
  refine gLoadB_i (fun w' hw => hw 1 _ rfl) (gNil_some ?_)
  rw [add0]
  refine gLoadB_i (fun w' hw => hw 2 _ rfl) (gNil_some ?_)
  rw [add0]
  refine gLoadB_i (fun w' hw => hw 3 _ rfl) ?_
  obtain ⟨qs, hqs⟩ : ∃ qs : List Nat, qs = [xs.length, F, Wd, H, L, S] := ⟨_, rfl⟩
  have hqb : ∀ q ∈ qs, q ≤ 1048576 := fun q hq => by
    rw [hqs] at hq
    simp only [List.mem_cons, List.not_mem_nil, or_false] at hq
    rcases hq with rfl | rfl | rfl | rfl | rfl | rfl <;> omega
  have hqi : inR .i64 (qs.map (fun (q : Nat) => (q : Int))) := fun x hx => by
    obtain ⟨q, hq, rfl⟩ := List.mem_map.1 hx
    have := hqb q hq
    simp [IntKind.min, IntKind.max, IntKind.signed, IntKind.bits]; omega
  have hql : qs.length = 6 := by rw [hqs]; rfl
  refine fLit_n (qs.map (fun (q : Nat) => (q : Int))) f6.drew (by rw [hqs]; rfl) (by rw [List.length_map]; exact hql) hqi fun t57 w7 f7 => ⟨hB 2 f7 rfl, gLen_nm (f7.nm 0 rfl) ?_⟩
  rw [List.length_map, hql]
  refine ⟨fun i w' => ∃ (k : Nat) (v' : Value), i = (k : Int) ∧ k ≤ 6 ∧ Fr w w' [oIt .i64 (elOf P t_sl_int) t57 (qs.map (fun (q : Nat) => (q : Int))), wIt eB o7 v' (numsB (qs.take k)), sIt t29 (pkC F Wd H L S), sIt x4 (Pc.mk Wd H L S F).c], fun i _ => (6 - i).toNat, ⟨0, v7, rfl, by omega, f7⟩, ?_⟩
  rintro _ i w8 ⟨k, v8, rfl, hk, f8⟩
  have hnl : ∀ k, k ≤ 6 → (numsB (qs.take k)).length ≤ 100 := fun k hk => by
    have : ∀ l : List Nat, (∀ q ∈ l, q ≤ 1048576) → (numsB l).length ≤ 10 * l.length := fun l => by
      induction l with
      | nil => intro _; simp [numsB]
      | cons q l ih =>
        intro h
        have h1 := ih fun r hr => h r (by simp [hr])
        have h2 := numB_len64 (n := q) (by have := h q (by simp); omega)
        have e : numsB (q :: l) = numB q ++ numsB l := by simp [numsB]
        rw [e, List.length_append, List.length_cons]; omega
    have h1 := this (qs.take k) fun q hq => hqb q (List.mem_of_mem_take hq)
    rw [List.length_take, hql] at h1
    omega
  refine gIf_dec (fun hlt => ?_) (fun hge => ?_)
  · have hk6 : k < qs.length := by omega
    have hqk := hqb qs[k] (List.getElem_mem hk6)
    refine gGet (f8.nm 0 rfl) (by omega) (by rw [List.length_map]; omega) ?_
    have hrd : rd (qs.map (fun (q : Nat) => (q : Int))) (k : Int) = ((qs[k] : Nat) : Int) := by rw [rd_nat _ k (by rw [List.length_map]; exact hk6), List.getElem_map]
    rw [hrd, show u64 ((qs[k] : Nat) : Int) = ((qs[k] : Nat) : Int) by rw [u64_def]; omega]
    refine fNum f8 1 rfl (by omega) (by have := hnl k hk; omega) fun v9 w9 f9 => ?_
    rw [Int.toNat_natCast, ← numsB_snoc, ← List.take_succ_eq_append_getElem hk6] at f9
    exact ⟨⟨k + 1, v9, by rw [i64_id (by omega) (by omega)]; omega, by omega, f9⟩, by dsimp only; rw [i64_id (by omega) (by omega)]; omega⟩
  have hk6 : k = 6 := by omega
  subst hk6
  rw [List.take_of_length_le (by omega)] at f8
  have hnl6 := hnl 6 (Nat.le_refl _)
  rw [List.take_of_length_le (by omega)] at hnl6
  have f8 : Fr w w8 [wIt eB o7 v8 (numsB qs), sIt t29 (pkC F Wd H L S)] := f8.picks [1, 2] (by decide)
  refine gNil_some ?_
  rw [add0]
  refine gLoad_i (hB 1 f8 rfl 4 _ rfl) ?_
  obtain ⟨W, hWe⟩ : ∃ W, W = Wd * L := ⟨_, rfl⟩
  rw [← hWe] at hWL hW a6
  refine ⟨fun px bs at' w' => ∃ i : Nat, at' = ((F + i * S : Nat) : Int) ∧ i ≤ H ∧ Fr w w' [oIt .u8 eB px (pixN xs F S W L i), oIt .u8 eB bs (besN xs F S W i), wIt eB o7 v8 (numsB qs), sIt t29 (pkC F Wd H L S)], fun _ _ at' _ => (F + S * H - at').toNat, ⟨0, by simp, Nat.zero_le _, (f8.nil0 .u8 eB).nil0 .u8 eB⟩, ?_⟩
  rintro _ px bs _ w10 ⟨i, rfl, hi, f10⟩
  refine gCall_i (end_any (hSt 3 f10 rfl) (by omega)) fun w11 h11 => ?_
  have f11 := f10.ev h11
  have hpl := pixN_len (L := L) a7 a6 hi
  have hbl := besN_len a7 a6 hi
  have hiS : i * S ≤ S * H := by rw [Nat.mul_comm S H]; exact Nat.mul_le_mul_right _ hi
  have hiW : i * W ≤ i * S := Nat.mul_le_mul_left _ a6
  have hiG : i * (S - W) ≤ i * S := Nat.mul_le_mul_left _ (Nat.sub_le _ _)
  refine gIf_dec (fun hlt => ?_) (fun hge => ?_)
  · have hiH : i < H := by
      refine Decidable.byContradiction fun hn => ?_
      have : i = H := by omega
      subst this
      rw [Nat.mul_comm] at hlt; omega
    have hrb := row_bd a7 hiH
    have hsucc : (i + 1) * S = i * S + S := by rw [Nat.add_mul, Nat.one_mul]
    refine gCall_i (wide_any (hSt 3 f11 rfl) (by omega)) fun w12 h12 => ?_
    have f12 := f11.ev h12
    rw [← hWe, ← Int.natCast_add, i64_id (n := ((F + i * S + W : Nat) : Int)) (by omega) (by omega)]
    refine gSlice_nm (hb.ev f12.old) (F + i * S) (F + i * S + W) (.inr ⟨_, rfl⟩) (.inr ⟨_, rfl⟩) (by omega) (by omega) fun hs => ?_
    rw [Nat.add_sub_cancel_left] at hs
    refine gCall_v (turn_any (hSt 3 f12 rfl) hs (by rw [List.length_take, List.length_drop]; omega)) fun t92 w13 ⟨h13, hn13⟩ => ?_
    have f13 := f12.ev h13
    have hrl := rowX_len a7 a6 hiH
    refine fApp f13 0 rfl hn13 (by rw [turnP_len, hpl]; show (_ + (rowX xs F S W i).length) * 8 ≤ _; omega) fun t93 w14 f14 => ?_
    have f14 : Fr w w14 [oIt .u8 eB t93 (pixN xs F S W L (i + 1)), oIt .u8 eB bs (besN xs F S W i), wIt eB o7 v8 (numsB qs), sIt t29 (pkC F Wd H L S)] := f14
    refine ⟨fun w' => ∀ (j : Nat) (u : Value), (pkC F Wd H L S)[j]? = some u → w'.cell? (t29.add j) = some u, hB 3 f14.drew rfl, gNil_some ?_⟩
    rw [add0]
    refine gLoadB_i (fun w' hw => hw 3 _ rfl) (gCall_i (wide_any (hSt 3 f14.drew rfl) (by omega)) fun w15 h15 => ?_)
    have f15 := f14.drew.ev h15
    rw [← hWe, ← Int.natCast_add, ← Int.natCast_add, i64_id (n := ((F + i * S + W : Nat) : Int)) (by omega) (by omega), i64_id (n := ((F + i * S + S : Nat) : Int)) (by omega) (by omega)]
    refine ⟨hB 3 f15 rfl, gSlice_nm (hb.ev f15.old) (F + i * S + W) (F + i * S + S) (.inr ⟨_, rfl⟩) (.inr ⟨_, rfl⟩) (by omega) (by omega) fun hs2 => ?_⟩
    rw [show F + i * S + S - (F + i * S + W) = S - W by omega] at hs2
    have hgl := gapX_len a7 a6 hiH
    refine fApp f15 1 rfl hs2 (by rw [hbl]; show (_ + (gapX xs F S W i).length) * 8 ≤ _; omega) fun t108 w16 f16 => ⟨hB 3 f16 rfl, gNil_some ?_⟩
    rw [add0]
    refine gLoad_i (hB 3 f16 rfl 3 _ rfl) ?_
    refine ⟨⟨i + 1, ?_, hiH, f16⟩, ?_⟩
    · rw [← Int.natCast_add, i64_id (by omega) (by omega), hsucc]; congr 1; omega
    · dsimp only
      rw [← Int.natCast_add, i64_id (by omega) (by omega)]; omega
  have hiH : i = H := by
    refine Decidable.byContradiction fun hn => hge ?_
    have := row_bd a7 (show i < H by omega)
    have hsh : F + (i + 1) * S ≤ F + S * H := by rw [Nat.mul_comm S H]; exact Nat.add_le_add_left (Nat.mul_le_mul_right _ (by omega)) _
    rw [Nat.add_mul, Nat.one_mul] at hsh
    omega
  subst hiH
  have hswh : i * W ≤ S * i := by rw [Nat.mul_comm S i]; exact hiW
  refine ⟨fun w' => ∀ (j : Nat) (u : Value), (pkC F Wd i L S)[j]? = some u → w'.cell? (t29.add j) = some u, hB 3 f11.drew rfl, gNil_some ?_⟩
  rw [add0]
  refine gLoadB_i (fun w' hw => hw 2 _ rfl) (gCall_i (wide_any (hSt 3 f11.drew rfl) (by omega)) fun w17 h17 => ⟨hB 3 (f11.drew.ev h17) rfl, ?_⟩)
  have f17 := f11.drew.ev h17
  rw [← hWe]
  have hok : applyOk (pixN xs F S W L i).length W L = true := by rw [hpl]; exact applyOk_of (by omega) (by omega) (by omega) (by omega) (by omega)
  refine gCall_of (Apply_any (f17.nm 0 rfl) (by rw [hpl]; omega) (by omega)) ?_
  rintro _ w18 ⟨h18, hr⟩
  rw [hok, if_pos rfl, Int.toNat_natCast, hpl, Nat.mul_div_cancel _ (by omega)] at hr
  obtain ⟨v118, rfl, hon⟩ := hr
  have f18 := f17.newO h18 hon
  refine ⟨_, _, rfl, hB 4 f18 rfl, gIf_neq (fun h => (h rfl).elim) (fun _ => ⟨fun w' => ∀ (j : Nat) (u : Value), (pkC F Wd i L S)[j]? = some u → w'.cell? (t29.add j) = some u, hB 4 f18.drew rfl, gNil_some ?_⟩)⟩
  rw [add0]
  refine gLoadB_i (fun w' hw => hw 4 _ rfl) (gSlice_nm (hb.ev f18.drew.old) 0 F (.inl ⟨rfl, rfl⟩) (.inr ⟨_, rfl⟩) (Nat.zero_le _) (by omega) fun hs1 => gCall_i (end_any (hSt 4 f18.drew rfl) (by omega)) fun w19 h19 => ⟨hB 4 (f18.drew.ev h19) rfl, ?_⟩)
  have f19 := f18.drew.ev h19
  rw [Nat.sub_zero, List.drop_zero] at hs1
  refine gSlice_nm (hb.ev f19.old) (F + S * i) xs.length (.inr ⟨_, rfl⟩) (.inl ⟨rfl, rfl⟩) a7 (Nat.le_refl _) fun hs2 => ?_
  rw [List.take_of_length_le (by rw [List.length_drop]; exact Nat.le_refl _)] at hs2
  have hs1' := hs1.ev h19
  have hA := f19.nm 0 rfl
  have hBs := f19.nm 2 rfl
  refine fLitV [_, v118, bs, _] f19 rfl rfl (fun v hv => ?_) fun t136 w20 f20 => ⟨hB 5 f20 rfl, ?_⟩
  · simp only [List.mem_cons, List.not_mem_nil, or_false] at hv
    rcases hv with rfl | rfl | rfl | rfl
    · exact hs1.one
    · exact hA.one
    · exact hBs.one
    · exact hs2.one
  have hal := applyN_len (p := (L : Int)) hpl (Nat.le_refl i)
  have hfl : [xs.take F, applyN (pixN xs F S W L i) W L i, besN xs F S W i, xs.drop (F + S * i)].flatten.length ≤ 10000000 := by
    simp only [List.flatten_cons, List.flatten_nil, List.length_append, List.append_nil, hal, hbl, List.length_take, List.length_drop]
    have : i * (W + 1) = i * W + i := Nat.mul_succ i W
    omega
  refine fRawW (yss := [xs.take F, applyN (pixN xs F S W L i) W L i, besN xs F S W i, xs.drop (F + S * i)]) f20 4 rfl (fun w' f' => NL.of (f'.sl 0 rfl) rfl fun j u ys hu hy => ?_) (by omega) (by simp) fun v21 w21 f21 => ⟨hB 5 f21 rfl, ?_⟩
  · have ho : Ev w w' := f'.old
    rcases j with _ | _ | _ | _ | j
    · simp at hu hy; subst hu; subst hy
      have := (hb.ev ho).sub 0 F (Nat.zero_le _) (by omega)
      rw [Nat.sub_zero, List.drop_zero] at this; exact this
    · simp at hu hy; subst hu; subst hy; exact f'.nm 1 rfl
    · simp at hu hy; subst hu; subst hy; exact f'.nm 3 rfl
    · simp at hu hy; subst hu; subst hy
      have := (hb.ev ho).sub (F + S * i) xs.length a7 (Nat.le_refl _)
      rw [List.take_of_length_le (by rw [List.length_drop]; exact Nat.le_refl _)] at this; exact this
    · simp at hu
  refine fBytesW f21 4 rfl (by rw [List.length_append]; omega) fun t138 w22 f22 => ?_
  refine ⟨t138, ?_, f22.old, ?_⟩
  · rw [hpk]
  · rw [hpk]
    have := f22.on 0 rfl
    rw [show packN xs F Wd i L S = numsB qs ++ [xs.take F, applyN (pixN xs F S W L i) W L i, besN xs F S W i, xs.drop (F + S * i)].flatten by rw [packN_eq, ← hqs, ← hWe]; simp]
    exact this
end
end Go.Proofs.YtdhhmmllekkofaaV

/- Package image: Unpack. -/
namespace Go.Proofs.YtdhhmmllekkofaaV
open Go Go.RowKit
theorem cap40_rng {v : Int} (h : 0 ≤ v) : 0 ≤ cap40 v ∧ cap40 v ≤ 1099511627776 := by unfold cap40; split <;> omega
theorem numsN_rng {xs : List Int} (hx : inR .u8 xs) : ∀ k, ∀ x ∈ (numsN xs k).1, 0 ≤ x ∧ x ≤ 1099511627776
  | 0, _, h => by cases h
  | k + 1, x, h => by
    rw [numsN] at h
    rcases List.mem_append.1 h with h | h
    · exact numsN_rng hx k x h
    · simp at h; subst h; exact cap40_rng (numR_rng hx).1
theorem numsN_at (xs : List Int) : ∀ k, (numsN xs k).2.1 ≤ xs.length
  | 0 => Nat.zero_le _
  | k + 1 => by rw [numsN]; exact numR_le (numsN_at xs k)
section
variable {w0 w w' : World} {G : List It}
theorem rawR_lx {xs : List Int} {a : Nat} {er n : Int} : (rawR xs a er n).1.length ≤ xs.length := by
  unfold rawR; split
  · simp
  · split
    · simp
    · rw [List.length_take, List.length_drop]; omega
theorem rd_mg {k : IntKind} {xs : List Int} {j : Nat} (h : j < xs.length) : (xs.map (Value.int k))[j]? = some (.int k (rd xs (j : Int))) := by
  rw [List.getElem?_map, List.getElem?_eq_getElem h, rd_nat xs j h]; rfl
theorem half6 {l : List Int} {k : Nat} (hl : l.length = k) (hk : k < 6) (x : Int) : ((l ++ List.replicate (6 - k) 0).map (Value.int .i64)).set k (.int .i64 x) = ((l ++ [x]) ++ List.replicate (6 - (k + 1)) 0).map (Value.int .i64) := by
  rw [← List.map_set]
  congr 1
  rw [show 6 - k = (6 - (k + 1)) + 1 by omega, List.replicate_succ, List.set_append_right _ _ (by omega), hl, Nat.sub_self, List.set_cons_zero, List.append_assoc]; rfl
theorem Unpack_any {x : Value} {xs : List Int} {most : Int} (hb : Nm .u8 w x xs) (hl : xs.length ≤ 1000000000) : Calls P n_image_Unpack #[x, .int .i64 most] w (TupE w (unpackI xs most)) := by
  have hx := hb.2
  refine of_image_Unpack (fNewR (Fr.start w) hb (by omega) fun ad y w1 f1 => fAlloc (z := .agg (Array.replicate 6 (.int .i64 0))) f1 (by kernel_rfl) fun l7 w2 f2 => ?_)
  have f2 : Fr w w2 [sIt l7 (((numsN xs 0).1 ++ List.replicate (6 - 0) 0).map (.int .i64)), sIt ad [y, .int .i64 ((numsN xs 0).2.1), .int .i64 (numsN xs 0).2.2], oIt .u8 eB y xs] := f2
  have f2 : Fr w w2 [sIt ad [y, .int .i64 ((numsN xs 0).2.1), .int .i64 (numsN xs 0).2.2], oIt .u8 eB y xs, sIt l7 (((numsN xs 0).1 ++ List.replicate (6 - 0) 0).map (.int .i64))] := f2.picks [1, 2, 0] (by decide)
  refine ⟨fun i w' => ∃ k : Nat, i = (k : Int) ∧ k ≤ 6 ∧ Fr w w' [sIt ad [y, .int .i64 ((numsN xs k).2.1), .int .i64 (numsN xs k).2.2], oIt .u8 eB y xs, sIt l7 (((numsN xs k).1 ++ List.replicate (6 - k) 0).map (.int .i64))], fun i _ => (6 - i).toNat, ⟨0, rfl, by omega, f2⟩, ?_⟩
  rintro _ i w3 ⟨k, rfl, hk, f3⟩
  refine gIf_dec (fun hlt => ?_) (fun hge => ?_)
  · have hk6 : k < 6 := by omega
    refine fNumR f3 (numsN_at xs k) (by omega) fun w4 f4 => gIdx_ar1 6 k rfl hk6 ?_
    have hr := cap40_rng (numR_rng (xs := xs) (a := (numsN xs k).2.1) (er := (numsN xs k).2.2) (most := 18446744073709551615) hx).1
    have hc : i64 (if 1099511627776 < (numR xs (numsN xs k).2.1 (numsN xs k).2.2 18446744073709551615).1 then 1099511627776 else (numR xs (numsN xs k).2.1 (numsN xs k).2.2 18446744073709551615).1) = cap40 (numR xs (numsN xs k).2.1 (numsN xs k).2.2 18446744073709551615).1 := by
      show i64 (cap40 _) = _; rw [i64_id (by omega) (by omega)]
    rw [hc]
    refine fStore f4 2 k rfl (fun w5 f5 => ?_) (by rw [List.length_map, List.length_append, numsN_len, List.length_replicate]; omega)
    rw [half6 (numsN_len xs k) hk6] at f5
    exact ⟨⟨k + 1, by rw [i64_id (by omega) (by omega)]; omega, by omega, f5⟩, by dsimp only; rw [i64_id (by omega) (by omega)]; omega⟩
  have hk6 : k = 6 := by omega
  subst hk6
  have hal := numsN_at xs 6
  have hnl := numsN_len xs 6
  have hrg := numsN_rng hx 6
  obtain ⟨a6, ha6⟩ : ∃ a6, a6 = (numsN xs 6).2.1 := ⟨_, rfl⟩
  obtain ⟨er6, he6⟩ : ∃ er6, er6 = (numsN xs 6).2.2 := ⟨_, rfl⟩
  rw [← ha6] at hal
  rw [← ha6, ← he6, show List.replicate (6 - 6) (0 : Int) = [] from rfl, List.append_nil] at f3
  refine fErrR f3 hal (by omega) (gIf_neq (fun hne => ?_) (fun heq => ?_))
  · have hU : unpackI xs most = ([], er6) := by unfold unpackI; dsimp only; rw [← he6, if_pos hne]
    rw [hU]; exact ⟨_, rfl, f3.old, ON.nil _ _ _ _⟩
  subst heq
  obtain ⟨l, hlq⟩ : ∃ l : List Int, l = (numsN xs 6).1 := ⟨_, rfl⟩
  rw [← hlq] at hnl hrg f3
  have hnat : ∀ j : Nat, j < 6 → ∃ q : Nat, rd l (j : Int) = (q : Int) ∧ q ≤ 1099511627776 := fun j hj => by
    have := hrg _ (rd_mem (xs := l) (i := (j : Int)) (by omega) (by omega))
    exact ⟨(rd l (j : Int)).toNat, by omega, by omega⟩
  obtain ⟨n, hn, bn⟩ := hnat 0 (by omega)
  obtain ⟨F, hF, bF⟩ := hnat 1 (by omega)
  obtain ⟨Wd, hWd, bWd⟩ := hnat 2 (by omega)
  obtain ⟨H, hH, bH⟩ := hnat 3 (by omega)
  obtain ⟨L, hL, bL⟩ := hnat 4 (by omega)
  obtain ⟨S, hS, bS⟩ := hnat 5 (by omega)
  have hU : unpackI xs most = if (n : Int) > (if 0 > most then 0 else most) ∨ (n : Int) > 1048576 then ([], 5) else if badIm n F Wd H L S = true then ([], 4) else bodyI xs a6 n F Wd H L S := by
    unfold unpackI; dsimp only
    rw [← he6, if_neg (show ¬ ((0 : Int) ≠ 0) from fun h => h rfl), ← hlq, ← ha6]
    rw [show rd l 0 = (n : Int) from hn, show rd l 1 = (F : Int) from hF, show rd l 2 = (Wd : Int) from hWd, show rd l 3 = (H : Int) from hH, show rd l 4 = (L : Int) from hL, show rd l 5 = (S : Int) from hS]
  have ld : ∀ {j : Nat} {q : Nat} {K : Int → Prop}, j < 6 → rd l (j : Int) = (q : Int) → K (q : Int) → gIdx P t_ar6_int (.pointer (some l7)) (.int .i64 (j : Int)) fun t38 => gLoad P t_int (shI .i64) (.pointer (some t38)) w3 K := fun {j q K} hj hq hk =>
    gIdx_ar1 6 j rfl hj (fLoad_i (n := (q : Int)) f3 2 j rfl (by rw [← hq]; exact rd_mg (k := .i64) (xs := l) (by omega)) hk)
  refine ld (j := 0) (by omega) hn (ld (j := 1) (by omega) hF (ld (j := 2) (by omega) hWd (ld (j := 3) (by omega) hH (ld (j := 4) (by omega) hL (ld (j := 5) (by omega) hS (fBox f3 fun t52 w7 f7 => ?_))))))
  have f7 : Fr w w7 [sIt t52 (pkC F Wd H L S), sIt ad [y, .int .i64 a6, .int .i64 0], oIt .u8 eB y xs, sIt l7 (l.map (.int .i64))] := f7
  have f7 : Fr w w7 [sIt ad [y, .int .i64 a6, .int .i64 0], oIt .u8 eB y xs, sIt t52 (pkC F Wd H L S)] := f7.picks [1, 2, 0] (by decide)
  have hB : ∀ {w' : World} {F' : List It} (i : Nat), Fr w w' F' → F'[i]? = some (sIt t52 (pkC F Wd H L S)) → ∀ (j : Nat) (u : Value), (pkC F Wd H L S)[j]? = some u → w'.cell? (t52.add j) = some u := fun i f hi j u hj => f.cell i j hi hj
  have hSt : ∀ {w' : World} {F' : List It} (i : Nat), Fr w w' F' → F'[i]? = some (sIt t52 (pkC F Wd H L S)) → St w' t52 (pkC F Wd H L S) := fun i f hi => f.get i hi
  have err : ∀ {w'} (e : Int), Ev w w' → unpackI xs most = ([], e) → TupE w (unpackI xs most) (.returned (.tuple #[.slice none 0 0, .int .i64 e])) w' := fun e he hu => by rw [hu]; exact ⟨_, rfl, he, ON.nil _ _ _ _⟩
  refine ⟨fun w' => ¬ ((n : Int) > (if 0 > most then 0 else most) ∨ (n : Int) > 1048576) ∧ badIm n F Wd H L S = false ∧ Fr w w' [sIt ad [y, .int .i64 a6, .int .i64 0], oIt .u8 eB y xs, sIt t52 (pkC F Wd H L S)], ⟨fun t w' => t = decide ((n : Int) > (if 0 > most then 0 else most) ∨ (n : Int) > 1048576) ∧ Fr w w' [sIt ad [y, .int .i64 a6, .int .i64 0], oIt .u8 eB y xs, sIt t52 (pkC F Wd H L S)], ?_, ?_⟩, ?_⟩
  · refine gIf_ndec (fun h => ⟨?_, f7⟩) (fun h => ⟨?_, f7⟩)
    · rw [decide_eq_decide]; exact ⟨.inr, fun hh => hh.resolve_left h⟩
    · rw [decide_eq_true (.inl h)]
  · rintro _ t w8 ⟨rfl, f8⟩
    refine gIf_dec (fun h => err 5 f8.old (by rw [hU, if_pos h])) (fun hnb => ?_)
    have hbad : ((F : Int) > n ∨ (Wd : Int) < 1 ∨ (Wd : Int) > n ∨ (H : Int) < 1 ∨ (H : Int) > n ∨ (L : Int) < 1 ∨ (L : Int) > 3 ∨ (S : Int) < (Wd : Int) * L ∨ (S : Int) > n ∨ (F : Int) + S * H > n) → true = badIm n F Wd H L S := fun h => (decide_eq_true h).symm
    refine ⟨fun t w' => t = badIm n F Wd H L S ∧ Fr w w' [sIt ad [y, .int .i64 a6, .int .i64 0], oIt .u8 eB y xs, sIt t52 (pkC F Wd H L S)], ⟨fun w' => ∀ (j : Nat) (u : Value), (pkC F Wd H L S)[j]? = some u → w'.cell? (t52.add j) = some u, hB 2 f8.drew rfl, gNil_some ?_⟩, ?_⟩
    · rw [add0]
      refine gLoadB_i (fun w' hw => hw 4 _ rfl) (gIf_ndec (fun h1 => gNil_some ?_) (fun h => ⟨hbad (by omega), f8.drew⟩))
      rw [add0]
      refine gLoadB_i (fun w' hw => hw 0 _ rfl) (gIf_ndec (fun h2 => gNil_some ?_) (fun h => ⟨hbad (by omega), f8.drew⟩))
      rw [add0]
      refine gLoadB_i (fun w' hw => hw 0 _ rfl) (gIf_ndec (fun h3 => gNil_some ?_) (fun h => ⟨hbad (by omega), f8.drew⟩))
      rw [add0]
      refine gLoadB_i (fun w' hw => hw 1 _ rfl) (gIf_ndec (fun h4 => gNil_some ?_) (fun h => ⟨hbad (by omega), f8.drew⟩))
      rw [add0]
      refine gLoadB_i (fun w' hw => hw 1 _ rfl) (gIf_ndec (fun h5 => gNil_some ?_) (fun h => ⟨hbad (by omega), f8.drew⟩))
      rw [add0]
      refine gLoadB_i (fun w' hw => hw 2 _ rfl) (gIf_ndec (fun h6 => gNil_some ?_) (fun h => ⟨hbad (by omega), f8.drew⟩))
      rw [add0]
      refine gLoadB_i (fun w' hw => hw 2 _ rfl) (gIf_ndec (fun h7 => gNil_some ?_) (fun h => ⟨hbad (by omega), f8.drew⟩))
      rw [add0]
      have hWL : Wd * L ≤ n * 3 := Nat.mul_le_mul (by omega) (by omega)
      have hSH : S * H ≤ 1099511627776 * 1048576 := Nat.mul_le_mul bS (by omega)
      refine gLoadB_i (fun w' hw => hw 3 _ rfl) (gCall_i (wide_any (hSt 2 f8.drew rfl) (by omega)) fun w9 h9 => ⟨hB 2 (f8.drew.ev h9) rfl, gIf_ndec (fun h8 => gNil_some ?_) (fun h => ⟨hbad (by rw [← Int.natCast_mul]; omega), f8.drew.ev h9⟩)⟩)
      rw [add0]
      refine gLoadB_i (fun w' hw => hw 3 _ rfl) (gIf_ndec (fun h10 => gCall_i (end_any (hSt 2 (f8.drew.ev h9) rfl) (by omega)) fun w10 h11 => ⟨hB 2 ((f8.drew.ev h9).ev h11) rfl, ?_, (f8.drew.ev h9).ev h11⟩) (fun h => ⟨hbad (by omega), f8.drew.ev h9⟩))
      unfold badIm
      rw [decide_eq_decide, ← Int.natCast_mul, ← Int.natCast_mul]
      omega
    · rintro _ t w11 ⟨rfl, f11⟩
      refine gIf_b (fun hb1 => err 4 f11.old (by rw [hU, if_neg hnb, if_pos hb1])) (fun hb0 => ⟨hnb, hb0, f11⟩)
  rintro _ w12 ⟨hnb, hb0, f12⟩
  have hU2 : unpackI xs most = bodyI xs a6 n F Wd H L S := by rw [hU, if_neg hnb, if_neg (by rw [hb0]; decide)]
  obtain ⟨b1, b2, b3, b4, b5, b6, b7, b8, b9, b10⟩ := badIm_f hb0
  obtain ⟨W, hW⟩ : ∃ W, W = Wd * L := ⟨_, rfl⟩
  have eWL : (Wd : Int) * (L : Int) = (W : Int) := by rw [hW, Int.natCast_mul]
  have eSH : (S : Int) * (H : Int) = ((S * H : Nat) : Int) := by rw [Int.natCast_mul]
  rw [eWL] at b8
  rw [eSH] at b10
  have hWge : Wd ≤ W := by rw [hW]; exact Nat.le_mul_of_pos_right _ (by omega)
  have hHW : H * (W + 1) ≤ 1048576 * 1048577 := Nat.mul_le_mul (by omega) (by omega)
  have hHG : H * (S - W) ≤ 1048576 * 1048576 := Nat.mul_le_mul (by omega) (by omega)
  obtain ⟨Gp, hGp⟩ : ∃ Gp, Gp = S - W := ⟨_, rfl⟩
  rw [← hGp] at hHG
  have e2 : (H : Int) * ((W : Int) + 1) = ((H * (W + 1) : Nat) : Int) := by rw [Int.natCast_mul]; rfl
  have e3 : (H : Int) * ((S : Int) - (W : Int)) = ((H * Gp : Nat) : Int) := by rw [Int.natCast_mul, hGp, Int.natCast_sub (by omega)]
  have e4 : (n : Int) - ((F : Int) + ((S * H : Nat) : Int)) = ((n - (F + S * H) : Nat) : Int) := by omega
  -- the four parts
  obtain ⟨r1, hr1⟩ : ∃ r1, r1 = rawR xs a6 0 (F : Int) := ⟨_, rfl⟩
  obtain ⟨r2, hr2⟩ : ∃ r2, r2 = rawR xs r1.2.1 r1.2.2 ((H * (W + 1) : Nat) : Int) := ⟨_, rfl⟩
  obtain ⟨r3, hr3⟩ : ∃ r3, r3 = rawR xs r2.2.1 r2.2.2 ((H * Gp : Nat) : Int) := ⟨_, rfl⟩
  obtain ⟨r4, hr4⟩ : ∃ r4, r4 = rawR xs r3.2.1 r3.2.2 ((n - (F + S * H) : Nat) : Int) := ⟨_, rfl⟩
  have g1 : r1.2.1 ≤ xs.length := by rw [hr1]; exact rawR_le hal
  have g2 : r2.2.1 ≤ xs.length := by rw [hr2]; exact rawR_le g1
  have g3 : r3.2.1 ≤ xs.length := by rw [hr3]; exact rawR_le g2
  have g4 : r4.2.1 ≤ xs.length := by rw [hr4]; exact rawR_le g3
  have hU3 : unpackI xs most = if endR xs.length r4.2.1 r4.2.2 ≠ 0 then ([], endR xs.length r4.2.1 r4.2.2)
      else if undoOk r2.1.length (W : Int) L = true ∧ kindsOk r2.1 W (r2.1.length / (W + 1)) = true then
        (r1.1 ++ outN (undoN r2.1 W L (r2.1.length / (W + 1))) r3.1 W Gp L (r2.1.length / (W + 1)) ++ r4.1, 0) else ([], 4) := by
    rw [hU2]
    unfold bodyI
    dsimp only
    rw [eWL, eSH, e2, e3, e4, ← hr1, ← hr2, ← hr3, ← hr4, Int.toNat_natCast, Int.toNat_natCast, show ((S : Int) - (W : Int)).toNat = Gp by omega]
  refine gNil_some ?_
  rw [add0]
  refine gLoad_i (hB 2 f12 rfl 4 _ rfl) (fRawR f12 hal (by omega) (by omega) fun t151 w13 f13 => ?_)
  rw [← hr1] at f13
  refine ⟨fun w' => ∀ (j : Nat) (u : Value), (pkC F Wd H L S)[j]? = some u → w'.cell? (t52.add j) = some u, hB 3 f13.drew rfl, gNil_some ?_⟩
  rw [add0]
  refine gLoadB_i (fun w' hw => hw 1 _ rfl) (gCall_i (wide_any (hSt 3 f13.drew rfl) (by omega)) fun w14 h14 => ⟨hB 3 (f13.drew.ev h14) rfl, ?_⟩)
  have f14 := f13.drew.ev h14
  rw [← hW, i64_id (n := (W : Int) + 1) (by omega) (by omega), e2, i64_id (n := ((H * (W + 1) : Nat) : Int)) (by omega) (by omega)]
  refine fRawR f14 g1 (by omega) (by omega) fun t162 w15 f15 => ⟨?_, ?_⟩
  · exact hB 4 f15 rfl
  rw [← hr2] at f15
  refine ⟨fun w' => ∀ (j : Nat) (u : Value), (pkC F Wd H L S)[j]? = some u → w'.cell? (t52.add j) = some u, hB 4 f15.drew rfl, gNil_some ?_⟩
  rw [add0]
  refine gLoadB_i (fun w' hw => hw 1 _ rfl) (gNil_some ?_)
  rw [add0]
  refine gLoadB_i (fun w' hw => hw 3 _ rfl) (gCall_i (wide_any (hSt 4 f15.drew rfl) (by omega)) fun w16 h16 => ⟨hB 4 (f15.drew.ev h16) rfl, ?_⟩)
  have f16 := f15.drew.ev h16
  rw [← hW, i64_id (n := (S : Int) - (W : Int)) (by omega) (by omega), e3, i64_id (n := ((H * Gp : Nat) : Int)) (by omega) (by omega)]
  refine fRawR f16 g2 (by omega) (by omega) fun t178 w17 f17 => ⟨?_, ?_⟩
  · exact hB 5 f17 rfl
  rw [← hr3] at f17
  refine gCall_i (end_any (hSt 5 f17 rfl) (by omega)) fun w18 h18 => ?_
  have f18 := f17.ev h18
  rw [show (n : Int) - ((F + S * H : Nat) : Int) = ((n - (F + S * H) : Nat) : Int) by omega, i64_id (n := ((n - (F + S * H) : Nat) : Int)) (by omega) (by omega)]
  refine fRawR f18 g3 (by omega) (by omega) fun t184 w19 f19 => ?_
  rw [← hr4] at f19
  refine fEndR f19 g4 (by omega) fun w20 h20 => ?_
  have f20 := f19.ev h20
  refine gIf_neq (fun hne => err _ f20.old (by rw [hU3, if_pos hne])) (fun hend => ?_)
  have h40 : r4.2.2 = 0 := by
    refine Decidable.byContradiction fun hn' => hn' ?_
    unfold endR at hend; rw [if_pos hn'] at hend; exact hend
  obtain ⟨m4, k4⟩ := rawR_0 (n := ((n - (F + S * H) : Nat) : Int)) (by omega) (hr4 ▸ h40)
  obtain ⟨m3, k3⟩ := rawR_0 (n := ((H * Gp : Nat) : Int)) (by omega) (hr3 ▸ k4)
  obtain ⟨m2, k2⟩ := rawR_0 (n := ((H * (W + 1) : Nat) : Int)) (by omega) (hr2 ▸ k3)
  obtain ⟨m1, _⟩ := rawR_0 (n := (F : Int)) (by omega) (hr1 ▸ k2)
  rw [← hr4, Int.toNat_natCast] at m4
  rw [← hr3, Int.toNat_natCast] at m3
  rw [← hr2, Int.toNat_natCast] at m2
  rw [← hr1, Int.toNat_natCast] at m1
  have l2 : r2.1.length ≤ xs.length := by rw [hr2]; exact rawR_lx
  have hdiv : H * (W + 1) / (W + 1) = H := Nat.mul_div_cancel _ (by omega)
  rw [if_neg (fun h => h hend), m2, hdiv] at hU3
  have f20 : Fr w w20 [oIt .u8 eB t184 r4.1, oIt .u8 eB t178 r3.1, oIt .u8 eB t162 r2.1, oIt .u8 eB t151 r1.1, sIt t52 (pkC F Wd H L S)] := f20.picks [2, 3, 4, 5, 6] (by decide)
  refine ⟨fun w' => ∀ (j : Nat) (u : Value), (pkC F Wd H L S)[j]? = some u → w'.cell? (t52.add j) = some u, hB 4 f20.drew rfl, gNil_some ?_⟩
  rw [add0]
  refine gLoadB_i (fun w' hw => hw 2 _ rfl) (gCall_i (wide_any (hSt 4 f20.drew rfl) (by omega)) fun w21 h21 => ⟨hB 4 (f20.drew.ev h21) rfl, ?_⟩)
  have f21 := f20.drew.ev h21
  rw [← hW]
  refine gCall_of (Undo_any (f21.nm 2 rfl) (by omega) (by omega)) ?_
  intro e22 w22 hu22
  unfold UndoE at hu22
  rw [m2, Int.toNat_natCast, hdiv] at hu22
  by_cases hok : undoOk (H * (W + 1)) (W : Int) L = true
  · rw [if_pos hok] at hu22
    by_cases hkk : kindsOk r2.1 W H = true
    · rw [if_pos hkk] at hu22
      rw [if_pos ⟨hok, hkk⟩] at hU3
      obtain ⟨h22, v199, rfl, hon⟩ := hu22
      have hpxl := undoN_len r2.1 W L H
      have hUl : ∀ k, k ≤ H → (outN (undoN r2.1 W L H) r3.1 W Gp L k).length = k * (W + Gp) := fun k hk => outN_len hpxl m3 hk
      generalize undoN r2.1 W L H = pix at hon hpxl hU3 hUl
      have f22 := f21.newO h22 hon
      have f22 : Fr w w22 [oIt .u8 eB t151 r1.1, oIt .u8 eB v199 pix, oIt .u8 eB t178 r3.1, oIt .u8 eB t184 r4.1, sIt t52 (pkC F Wd H L S)] := f22.picks [4, 0, 2, 1, 5] (by decide)
      refine ⟨_, _, rfl, hB 4 f22 rfl, gIf_neq (fun h => (h rfl).elim) (fun _ => gCall_i (wide_any (hSt 4 f22 rfl) (by omega)) fun w23 h23 => ?_)⟩
      have f23 := f22.ev h23
      rw [← hW]
      refine ⟨fun bs px out w' => ∃ i : Nat, i ≤ H ∧ (∀ {w''}, Nm .u8 w'' v199 pix → Nm .u8 w'' px (pix.drop (i * W))) ∧ (∀ {w''}, Nm .u8 w'' t178 r3.1 → Nm .u8 w'' bs (r3.1.drop (i * Gp))) ∧ Fr w w' [oIt .u8 eB out (r1.1 ++ outN pix r3.1 W Gp L i), oIt .u8 eB v199 pix, oIt .u8 eB t178 r3.1, oIt .u8 eB t184 r4.1, sIt t52 (pkC F Wd H L S)], fun _ px _ _ => slenV px, ?_, ?_⟩
      · refine ⟨0, Nat.zero_le _, fun h => by simpa using h, fun h => by simpa using h, ?_⟩
        rw [outN, List.append_nil]; exact f23
      rintro _ bs px out w24 ⟨i, hi, hpx, hbs, f24⟩
      have npx := hpx (f24.nm 1 rfl)
      have nbs := hbs (f24.nm 2 rfl)
      have hsl := npx.slen
      have hiW : i * W ≤ H * W := Nat.mul_le_mul_right _ hi
      have hiG : i * Gp ≤ H * Gp := Nat.mul_le_mul_right _ hi
      refine gLen_nm npx ?_
      rw [List.length_drop, hpxl] at hsl ⊢
      refine gIf_dec (fun hlt => ?_) (fun hge => ?_)
      · have hiH : i < H := by
          refine Decidable.byContradiction fun hn' => ?_
          have : i = H := by omega
          subst this; simp at hlt
        have b1 : (i + 1) * W ≤ H * W := Nat.mul_le_mul_right _ hiH
        have b2 : (i + 1) * Gp ≤ H * Gp := Nat.mul_le_mul_right _ hiH
        have c1 : (i + 1) * W = i * W + W := by rw [Nat.add_mul, Nat.one_mul]
        have c2 : (i + 1) * Gp = i * Gp + Gp := by rw [Nat.add_mul, Nat.one_mul]
        have hout := hUl i hi
        have hiWG : i * (W + Gp) ≤ H * (W + Gp) := Nat.mul_le_mul_right _ hi
        have hHWG : H * (W + Gp) = H * W + H * Gp := Nat.mul_add _ _ _
        have hHW1 : H * (W + 1) = H * W + H := Nat.mul_succ _ _
        refine ⟨fun w' => ∀ (j : Nat) (u : Value), (pkC F Wd H L S)[j]? = some u → w'.cell? (t52.add j) = some u, hB 4 f24.drew rfl, ?_⟩
        refine gSlice_nm npx 0 W (.inl ⟨rfl, rfl⟩) (.inr ⟨_, rfl⟩) (Nat.zero_le _) (by rw [List.length_drop, hpxl]; omega) fun hs1 => gNil_some ?_
        rw [Nat.sub_zero, List.drop_zero] at hs1
        rw [add0]
        refine gLoadB_i (fun w' hw => hw 3 _ rfl) ?_
        rw [show i64 ((S : Int) - (W : Int)) = (Gp : Int) by rw [i64_id (by omega) (by omega)]; omega]
        refine gSlice_nm nbs 0 Gp (.inl ⟨rfl, rfl⟩) (.inr ⟨_, rfl⟩) (Nat.zero_le _) (by rw [List.length_drop, m3]; omega) fun hs2 => ?_
        rw [Nat.sub_zero, List.drop_zero] at hs2
        refine gCall_v (pback_any (hSt 4 f24.drew rfl) (hs1.ev (Ev.drew0 _)) (by rw [List.length_take, List.length_drop, hpxl]; omega)) fun t218 w25 ⟨h25, hn25⟩ => ⟨hB 4 (f24.drew.ev h25) rfl, ?_⟩
        have f25 := f24.drew.ev h25
        refine fApp f25 0 rfl hn25 (by rw [List.length_append, hout, backP_len, List.length_take, List.length_drop, hpxl]; omega) fun t219 w26 f26 => ⟨hB 4 f26 rfl, ?_⟩
        have hs2' : Nm .u8 w26 (subV 1 bs 0 Gp) ((r3.1.drop (i * Gp)).take Gp) := by
          have := (hbs (f26.nm 2 rfl)).sub 0 Gp (Nat.zero_le _) (by rw [List.length_drop, m3]; omega)
          rwa [Nat.sub_zero, List.drop_zero] at this
        refine fApp f26 0 rfl hs2' (by rw [List.length_append, List.length_append, hout, backP_len, List.length_take, List.length_drop, hpxl, List.length_take, List.length_drop, m3]; omega) fun t229 w27 f27 => ⟨hB 4 f27 rfl, gNil_some ?_⟩
        rw [add0]
        refine gLoad_i (hB 4 f27 rfl 3 _ rfl) ?_
        rw [show i64 ((S : Int) - (W : Int)) = (Gp : Int) by rw [i64_id (by omega) (by omega)]; omega]
        have nbs27 := hbs (f27.nm 2 rfl)
        have npx27 := hpx (f27.nm 1 rfl)
        refine gSlice_nm nbs27 Gp (r3.1.drop (i * Gp)).length (.inr ⟨_, rfl⟩) (.inl ⟨rfl, rfl⟩) (by rw [List.length_drop, m3]; omega) (Nat.le_refl _) fun _ => gSlice_nm npx27 W (pix.drop (i * W)).length (.inr ⟨_, rfl⟩) (.inl ⟨rfl, rfl⟩) (by rw [List.length_drop, hpxl]; omega) (Nat.le_refl _) fun hpx2 => ?_
        have hout2 : r1.1 ++ outN pix r3.1 W Gp L (i + 1) = r1.1 ++ outN pix r3.1 W Gp L i ++ backP L ((pix.drop (i * W)).take W) ++ (r3.1.drop (i * Gp)).take Gp := by rw [outN]; simp
        refine ⟨⟨i + 1, hiH, fun {w''} h => ?_, fun {w''} h => ?_, by rw [hout2]; exact f27⟩, ?_⟩
        · have := (hpx h).sub W (pix.drop (i * W)).length (by rw [List.length_drop, hpxl]; omega) (Nat.le_refl _)
          rw [List.take_of_length_le (by rw [List.length_drop]; exact Nat.le_refl _), List.drop_drop, ← c1] at this; exact this
        · have := (hbs h).sub Gp (r3.1.drop (i * Gp)).length (by rw [List.length_drop, m3]; omega) (Nat.le_refl _)
          rw [List.take_of_length_le (by rw [List.length_drop]; exact Nat.le_refl _), List.drop_drop, ← c2] at this; exact this
        · dsimp only
          rw [hpx2.slen, hsl, List.length_take, List.length_drop, List.length_drop, hpxl]; omega
      · have hiH : i = H := by
          refine Decidable.byContradiction fun hn' => hge ?_
          have b1 : (i + 1) * W ≤ H * W := Nat.mul_le_mul_right _ (by omega)
          rw [Nat.add_mul, Nat.one_mul] at b1; omega
        subst hiH
        have hout := hUl i (Nat.le_refl _)
        have hHWG : i * (W + Gp) = i * W + i * Gp := Nat.mul_add _ _ _
        have hHW1 : i * (W + 1) = i * W + i := Nat.mul_succ _ _
        refine fApp f24 0 rfl (f24.nm 3 rfl) (by rw [List.length_append, hout]; omega) fun t241 w28 f28 => ?_
        rw [hU3]
        exact ⟨t241, rfl, f28.old, f28.on 0 rfl⟩
    · rw [if_neg hkk] at hu22
      obtain ⟨h22, rfl⟩ := hu22
      refine ⟨_, _, rfl, hB 4 (f21.ev h22) rfl, gIf_neq (fun _ => err 4 (f21.ev h22).old (by rw [hU3, if_neg (fun h => hkk h.2)])) (fun h => by cases h)⟩
  · rw [if_neg hok] at hu22
    obtain ⟨h22, rfl⟩ := hu22
    refine ⟨_, _, rfl, hB 4 (f21.ev h22) rfl, gIf_neq (fun _ => err 4 (f21.ev h22).old (by rw [hU3, if_neg (fun h => hok h.1)])) (fun h => by cases h)⟩
end
end Go.Proofs.YtdhhmmllekkofaaV
