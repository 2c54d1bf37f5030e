import Derived.Test.YtdhhmmllekkofaaVPart7
/- Package num: what is written is read; the laws NumNil and NumBack. -/
namespace Go.Proofs.YtdhhmmllekkofaaV
open Go Go.RowKit

theorem drop_head {xs ys : List Int} {a : Nat} {c : Int} (h : xs.drop a = c :: ys) : a < xs.length ∧ rd xs a = c ∧ xs.drop (a + 1) = ys := by
  have hl : a < xs.length := by
    rcases Nat.lt_or_ge a xs.length with h1 | h1
    · exact h1
    · rw [List.drop_of_length_le h1] at h; cases h
  refine ⟨hl, ?_, ?_⟩
  · rw [List.drop_eq_getElem_cons hl] at h
    rw [rd_nat xs a hl]; exact (List.cons.inj h).1
  · rw [List.drop_eq_getElem_cons hl] at h; exact (List.cons.inj h).2
theorem drop_head' {xs : List Int} {a : Nat} (h : a < xs.length) : xs.drop a = rd xs a :: xs.drop (a + 1) := by
  rw [List.drop_eq_getElem_cons h, rd_nat xs a h]
theorem pow7_succ (n : Nat) : ((2 ^ (7 * (n + 1)) : Nat) : Int) = ((2 ^ (7 * n) : Nat) : Int) * 128 := by
  rw [show 7 * (n + 1) = 7 * n + 7 by omega, Nat.pow_add, Int.natCast_mul]; rfl
theorem lookL_numB {xs rest : List Int} {a : Nat}  (f n q : Nat) (v : Int) (hf : f + n = 10) (hq : n > 0 → q > 0) (hb : (q : Int) * ((2 ^ (7 * n) : Nat) : Int) < 18446744073709551616) (hx : xs.drop (a + n) = numB q ++ rest) :
    lookL xs a f n v = (v + (q : Int) * ((2 ^ (7 * n) : Nat) : Int), ((a + n + (numB q).length : Nat) : Int), 0) := by
  induction f generalizing n q v with
  | zero =>
    have hn : n = 10 := by omega
    subst hn
    have := hq (by omega)
    rw [show ((2 ^ (7 * 10) : Nat) : Int) = 1180591620717411303424 from rfl] at hb
    omega
  | succ f ih =>
    have hn9 : n = 9 → q ≤ 1 := fun h9 => by
      subst h9
      rw [show ((2 ^ (7 * 9) : Nat) : Int) = 9223372036854775808 by decide] at hb
      omega
    by_cases h : q < 128
    · rw [numB_lt h] at hx ⊢
      obtain ⟨h1, h2, h3⟩ := drop_head (by simpa using hx)
      rw [lookL, if_neg (by omega), h2, if_neg (fun hh => by have := hn9 hh.1; omega), if_pos (by omega), if_neg (fun hh => by have := hq hh.2; omega), Int.emod_eq_of_lt (by omega) (by omega)]
      rfl
    · rw [numB_ge h] at hx ⊢
      obtain ⟨h1, h2, h3⟩ := drop_head (c := ((q % 128 + 128 : Nat) : Int)) (ys := numB (q / 128) ++ rest) (by rw [hx]; rfl)
      have hn : n ≠ 9 := fun h9 => by have := hn9 h9; omega
      rw [lookL, if_neg (by omega), h2, if_neg (fun hh => hn hh.1), if_neg (by omega)]
      have hdm : ((q % 128 + 128 : Nat) : Int) % 128 = ((q % 128 : Nat) : Int) := by omega
      have hsum : ((q % 128 : Nat) : Int) * ((2 ^ (7 * n) : Nat) : Int) + ((q / 128 : Nat) : Int) * (((2 ^ (7 * n) : Nat) : Int) * 128) = (q : Int) * ((2 ^ (7 * n) : Nat) : Int) := by
        have : (q : Int) = ((q % 128 : Nat) : Int) + ((q / 128 : Nat) : Int) * 128 := by omega
        rw [this, Int.add_mul, Int.mul_assoc, Int.mul_comm 128]
      have hm0 : 0 ≤ ((q % 128 : Nat) : Int) * ((2 ^ (7 * n) : Nat) : Int) := Int.mul_nonneg (by omega) (Int.natCast_nonneg _)
      rw [ih (n + 1) (q / 128) _ (by omega) (fun _ => by omega) (by rw [pow7_succ]; omega) (by rw [← h3, Nat.add_assoc]), hdm, pow7_succ, Int.add_assoc, hsum, List.length_cons]
      congr 2
      omega
theorem lookI_numB {xs rest : List Int} {a q : Nat} (hq : q < 18446744073709551616) (hx : xs.drop a = numB q ++ rest) : lookI xs a = ((q : Int), ((a + (numB q).length : Nat) : Int), 0) := by
  have := lookL_numB 10 0 q 0 (a := a) rfl (by omega) (by rw [show ((2 ^ (7 * 0) : Nat) : Int) = 1 by decide]; omega) hx
  unfold lookI
  rw [this, show ((2 ^ (7 * 0) : Nat) : Int) = 1 by decide]; simp
theorem numB_lookL {xs : List Int} {a : Nat} (hx : inR .u8 xs) : ∀ (f n : Nat) (v : Int), (lookL xs a f n v).2.2 = 0 → ∃ q : Nat, (lookL xs a f n v).1 = v + (q : Int) * ((2 ^ (7 * n) : Nat) : Int) ∧ (lookL xs a f n v).2.1 = ((a + n + (numB q).length : Nat) : Int) ∧ (n > 0 → q > 0) ∧ ∃ rest, xs.drop (a + n) = numB q ++ rest
  | 0, n, v, h => by simp [lookL] at h
  | f + 1, n, v, h => by
    rw [lookL] at h ⊢
    split at h
    · simp at h
    · rename_i h1
      rw [if_neg h1]
      have hc := rd_u8 hx ((a + n : Nat) : Int)
      have hd := drop_head' (xs := xs) (a := a + n) (by omega)
      generalize rd xs ((a + n : Nat) : Int) = c at *
      split at h
      · simp at h
      · rename_i h2
        rw [if_neg h2]
        split at h
        · rename_i h3
          rw [if_pos h3]
          split at h
          · simp at h
          · rename_i h4
            rw [if_neg h4]
            refine ⟨c.toNat, ?_, ?_, by omega, xs.drop (a + n + 1), ?_⟩
            · dsimp only; rw [Int.emod_eq_of_lt hc.1 h3, Int.toNat_of_nonneg hc.1]
            · rw [numB_lt (by omega)]; rfl
            · rw [numB_lt (by omega), hd, Int.toNat_of_nonneg hc.1]; rfl
        · rename_i h3
          rw [if_neg h3]
          obtain ⟨q, e1, e2, e3, rest, e4⟩ := numB_lookL hx f (n + 1) _ h
          have hq := e3 (by omega)
          have hnb : numB ((c % 128).toNat + q * 128) = c :: numB q := by
            rw [numB_ge (by omega), show ((c % 128).toNat + q * 128) / 128 = q by omega]
            congr 1; omega
          refine ⟨(c % 128).toNat + q * 128, ?_, ?_, fun _ => by omega, rest, ?_⟩
          · rw [e1, pow7_succ, Int.add_assoc]
            congr 1
            have : (((c % 128).toNat + q * 128 : Nat) : Int) = c % 128 + (q : Int) * 128 := by omega
            rw [this, Int.add_mul, Int.mul_assoc, Int.mul_comm 128]
          · rw [e2, hnb, List.length_cons]; congr 1; omega
          · rw [hnb, hd, show a + n + 1 = a + (n + 1) by omega, e4]; rfl
theorem numB_lookI {xs : List Int} {a : Nat} (hx : inR .u8 xs) (h : (lookI xs a).2.2 = 0) : ∃ q : Nat, (lookI xs a).1 = q ∧ (lookI xs a).2.1 = ((a + (numB q).length : Nat) : Int) ∧ ∃ rest, xs.drop a = numB q ++ rest := by
  obtain ⟨q, e1, e2, _, rest, e4⟩ := numB_lookL hx 10 0 0 h
  exact ⟨q, by unfold lookI; rw [e1, show ((2 ^ (7 * 0) : Nat) : Int) = 1 by decide]; simp, e2, rest, e4⟩
theorem le_little {v : Int} (h : 0 ≤ v ∧ v < 18446744073709551616) : leN (littleB v 8) = v := by simp [littleB, byteAt, leN]; omega
theorem be_big {v : Int} (h : 0 ≤ v ∧ v < 18446744073709551616) : beN 0 (bigB v 8) = v := by simp [bigB, byteAt, beN]; omega
theorem numR_of {xs rest : List Int} {a q : Nat} {m : Int} (hq : q < 18446744073709551616) (hm : (q : Int) ≤ m) (hx : xs.drop a = numB q ++ rest) : numR xs a 0 m = ((q : Int), a + (numB q).length, 0) := by
  unfold numR
  rw [lookI_numB hq hx, if_neg (by simp), if_neg (by simp; omega), if_neg (by simp)]; rfl
theorem drop_app {xs ys rest : List Int} {a : Nat} (hx : xs.drop a = ys ++ rest) : xs.drop (a + ys.length) = rest := by
  rw [← List.drop_drop, hx, List.drop_left]
theorem drop_len {xs ys rest : List Int} {a : Nat} (hx : xs.drop a = ys ++ rest) : ys.length ≤ xs.length - a := by
  have := congrArg List.length hx; simp at this; omega
theorem rawR_of {xs ys rest : List Int} {a : Nat} {m : Int} (hm : m = ys.length) (ha : a ≤ xs.length) (hx : xs.drop a = ys ++ rest) : rawR xs a 0 m = (ys, a + ys.length, 0) := by
  have hl := drop_len hx
  subst hm
  unfold rawR
  by_cases h0 : ys.length = 0
  · have : ys = [] := List.eq_nil_of_length_eq_zero h0
    subst this; rw [if_pos (by simp)]; rfl
  · rw [if_neg (by omega), if_neg (by omega), Int.toNat_natCast, hx, List.take_left]
theorem textR_of {xs ys rest : List Int} {a : Nat} {m : Int} (hq : ys.length < 18446744073709551616) (hm : (ys.length : Int) ≤ m) (ha : a ≤ xs.length) (hx : xs.drop a = numB ys.length ++ (ys ++ rest)) : textR xs a 0 m = (ys, a + (numB ys.length).length + ys.length, 0) := by
  unfold textR
  have hd := drop_app hx
  have hl := drop_len hx
  have : (if 0 > m then 0 else m) = m := by split <;> omega
  rw [if_neg (by simp), this, numR_of hq hm hx]
  dsimp only
  rw [rawR_of (ys := ys) rfl (by omega) hd, if_neg (by simp)]

/-! ### Laws -/
/-- A writer in memory that is new since w0. -/
def FWr (w0 w : World) (ad : Addr) (xs : List Int) : Prop := ∃ v, W1 w ad v xs ∧ Ev w0 w ∧ w0.heap.size ≤ ad.block ∧ ∀ g, v.ownBlock = some g → w0.heap.size ≤ g
theorem FWr.to {w0 w w' : World} {ad : Addr} {v : Value} {ys : List Int} (h1 : Ev w0 w) (h2 : w0.heap.size ≤ ad.block) (h3 : ∀ g, v.ownBlock = some g → w0.heap.size ≤ g) (h : ∃ v', WS w w' ad v v' ys) : FWr w0 w' ad ys := by
  obtain ⟨v', hW⟩ := h
  have := WrS.evn h1 hW h2 h3
  exact ⟨v', hW.1, this.1, h2, this.2⟩
theorem FWr.ev {w0 w w' : World} {ad : Addr} {xs : List Int} (h : FWr w0 w ad xs) (he : Ev w w') : FWr w0 w' ad xs := by
  obtain ⟨v, h1, h2, h3, h4⟩ := h; exact ⟨v, h1.ev he, h2.trans he, h3, h4⟩
theorem newW {w0 w : World} {K : Addr → World → Prop} (h0 : Ev w0 w) (hk : ∀ ad w', FWr w0 w' ad [] → K ad w') : gAlloc P t_num_Writer w K :=
  gAlloc_of (z := .agg #[.slice none 0 0]) (by kernel_rfl) fun ad w' h1 had hs hS => hk ad w' ⟨.slice none 0 0, ⟨hS, ON.nil _ _ _ _, fun h => by cases h⟩, h0.trans h1, by rw [had]; exact h0.size, fun g hg => by cases hg⟩
theorem lNum {w0 w : World} {ad : Addr} {xs : List Int} {n : Int} {K : World → Prop} (h : FWr w0 w ad xs) (hn : 0 ≤ n ∧ n < 18446744073709551616) (hl : xs.length + 10 ≤ 10000000000) (hk : ∀ w', FWr w0 w' ad (xs ++ numB n.toNat) → K w') : gCall P n_num_Writer_Num shU #[.pointer (some ad), .int .u64 n] w K := by
  obtain ⟨v, h1, h2, h3, h4⟩ := h; exact gCall_u (Num_any h1 hn hl) fun w' hw => hk w' (FWr.to h2 h3 h4 hw)
theorem lBytes {w0 w : World} {ad : Addr} {xs : List Int} {K : Value → World → Prop} (h : FWr w0 w ad xs) (hl : xs.length ≤ 10000000000) (hk : ∀ y w', Ev w w' → ON .u8 eB w' w.heap.size y xs → K y w') : gCall P n_num_Writer_Bytes shV #[.pointer (some ad)] w K := by
  obtain ⟨v, h1, h2, h3, h4⟩ := h; exact gCall_v (Bytes_W h1 hl) fun y w' hw => hk y w' hw.1 hw.2
end Go.Proofs.YtdhhmmllekkofaaV

/- Package filter: what its functions compute, first part. -/
namespace Go.Proofs.YtdhhmmllekkofaaV
open Go Go.RowKit

def ofL (l : List Int) (i : Int) : Int := if i < 0 ∨ i ≥ l.length then 0 else rd l i
theorem ofL_u8 {l : List Int} (h : inR .u8 l) (i : Int) : 0 ≤ ofL l i ∧ ofL l i < 256 := by
  unfold ofL; split
  · omega
  · exact rd_u8 h i
def farI (a b : Int) : Int := if b - a > a - b then b - a else a - b
def paethI (a b c : Int) : Int :=
  if farI (a + b - c) a ≤ farI (a + b - c) b ∧ farI (a + b - c) a ≤ farI (a + b - c) c then a
  else if farI (a + b - c) b ≤ farI (a + b - c) c then b else c
def guessI (kind a b c : Int) : Int :=
  if kind = 1 then a else if kind = 2 then b else if kind = 3 then paethI a b c else if kind = 4 then (a + b) / 2 else 0

theorem of_any {l : Value} {xs : List Int} {i : Int} {w : World} (h : Nm .u8 w l xs) : Calls P n_filter_of #[l, .int .i64 i] w (fun e w' => e = .returned (.int .i64 (ofL xs i)) ∧ w' = w) := by
  refine of_filter_of (gIf_ndec (fun h0 => gLen_nm h (gIf_dec (fun h1 => ⟨?_, rfl⟩) (fun h1 => ?_))) (fun h0 => ⟨?_, rfl⟩))
  · unfold ofL; rw [if_pos (.inr h1)]
  · refine gIdx_nm h (by omega) (by omega) fun ad hc _ => gLoad_i hc ⟨?_, rfl⟩
    have := rd_u8 h.2 i
    unfold ofL; rw [if_neg (by omega), i64_id (by omega) (by omega)]
  · unfold ofL; rw [if_pos (.inl h0)]
theorem far_any {a b : Int} {w : World} (ha : -100000 ≤ a ∧ a ≤ 100000) (hb : -100000 ≤ b ∧ b ≤ 100000) : Calls P n_filter_far #[.int .i64 a, .int .i64 b] w (fun e w' => e = .returned (.int .i64 (farI a b)) ∧ w' = w) := by
  refine of_filter_far ⟨?_, rfl⟩
  rw [i64_id (by omega) (by omega), i64_id (by omega) (by omega)]; rfl
theorem farI_bd {a b : Int} : (0 ≤ farI a b) ∧ (farI a b = a - b ∨ farI a b = b - a) := by unfold farI; split <;> omega
abbrev rng (x : Int) : Prop := 0 ≤ x ∧ x < 256
theorem paeth_any {ad : Addr} {a b c : Int} {w : World} {r : List Value} (h : St w ad (.int .i64 a :: .int .i64 b :: .int .i64 c :: r)) (ha : rng a) (hb : rng b) (hc : rng c) :
    Calls P n_filter_around_paeth #[.pointer (some ad)] w (fun e w' => e = .returned (.int .i64 (paethI a b c)) ∧ Ev w w') := by
  refine of_filter_around_paeth (gNil_some (gLoadB_i (at1 (h.cell (j := 0) rfl)) (gNil_some (gLoadB_i (at1 (h.cell (j := 1) rfl)) (gNil_some (gLoadB_i (at1 (h.cell (j := 2) rfl)) ?_))))))
  refine ⟨fun w' => w' = w.drew.drew, rfl, gNil_some (gLoadB_i (at1 (h.drew.cell (j := 0) rfl)) (gNil_some (gLoadB_i (at1 (h.drew.cell (j := 1) rfl)) (gNil_some (gLoadB_i (at1 (h.drew.cell (j := 2) rfl)) ?_)))))⟩
  rw [i64_id (n := a + b) (by omega) (by omega), i64_id (n := a + b - c) (by omega) (by omega)]
  refine gCall_of (far_any (by omega) (by omega)) ?_
  rintro _ _ ⟨rfl, rfl⟩
  refine ⟨_, rfl, rfl, gCall_of (far_any (by omega) (by omega)) ?_⟩
  rintro _ _ ⟨rfl, rfl⟩
  refine ⟨_, rfl, rfl, gCall_of (far_any (by omega) (by omega)) ?_⟩
  rintro _ _ ⟨rfl, rfl⟩
  refine ⟨_, rfl, rfl, ?_⟩
  have hev : Ev w w.drew.drew := (Ev.drew0 w).drew
  have hB : farI (a + b - c) b ≤ farI (a + b - c) c → ¬ (farI (a + b - c) a ≤ farI (a + b - c) b ∧ farI (a + b - c) a ≤ farI (a + b - c) c) → paethI a b c = b := fun h1 h2 => by unfold paethI; rw [if_neg h2, if_pos h1]
  have hC : ¬ farI (a + b - c) b ≤ farI (a + b - c) c → ¬ (farI (a + b - c) a ≤ farI (a + b - c) b ∧ farI (a + b - c) a ≤ farI (a + b - c) c) → paethI a b c = c := fun h1 h2 => by unfold paethI; rw [if_neg h2, if_neg h1]
  refine gIf_dec (fun h1 => gIf_dec (fun h2 => gNil_some (gLoad_i (h.drew.drew.cell (j := 0) rfl) ⟨?_, hev⟩)) (fun h2 => ?_)) (fun h1 => ?_)
  · unfold paethI; rw [if_pos ⟨h1, h2⟩]
  all_goals
    have hn : ¬ (farI (a + b - c) a ≤ farI (a + b - c) b ∧ farI (a + b - c) a ≤ farI (a + b - c) c) := fun h => by first | exact h2 h.2 | exact h1 h.1
    refine gIf_dec (fun h3 => gNil_some (gLoad_i (h.drew.drew.cell (j := 1) rfl) ⟨by rw [hB h3 hn], hev⟩)) (fun h3 => gNil_some (gLoad_i (h.drew.drew.cell (j := 2) rfl) ⟨by rw [hC h3 hn], hev⟩))
theorem paethI_rng {a b c : Int} (ha : rng a) (hb : rng b) (hc : rng c) : rng (paethI a b c) := by unfold paethI; split <;> first | exact ha | skip; split <;> assumption
theorem guessI_rng {k a b c : Int} (ha : rng a) (hb : rng b) (hc : rng c) : rng (guessI k a b c) := by
  unfold guessI; have := paethI_rng ha hb hc
  split; exact ha; split; exact hb; split; exact this; split <;> omega
theorem guess_any {ad : Addr} {k a b c : Int} {w : World} {r : List Value} (h : St w ad (.int .i64 a :: .int .i64 b :: .int .i64 c :: r)) (ha : rng a) (hb : rng b) (hc : rng c) :
    Calls P n_filter_around_guess #[.pointer (some ad), .int .i64 k] w (fun e w' => e = .returned (.int .u8 (guessI k a b c)) ∧ Ev w w') := by
  refine of_filter_around_guess (gIf_eq (fun h1 => gNil_some (gLoad_i (h.cell (j := 0) rfl) ⟨?_, Ch.refl _ w⟩)) (fun h1 => gIf_eq (fun h2 => gNil_some (gLoad_i (h.cell (j := 1) rfl) ⟨?_, Ch.refl _ w⟩)) (fun h2 =>
    gIf_eq (fun h3 => gCall_of (paeth_any h ha hb hc) ?_) (fun h3 => gIf_eq (fun h4 => gNil_some (gLoadB_i (at1 (h.cell (j := 0) rfl)) (gNil_some (gLoadB_i (at1 (h.cell (j := 1) rfl)) ⟨?_, Ev.drew0 w⟩)))) (fun h4 => ⟨?_, Ch.refl _ w⟩)))))
  · unfold guessI; rw [if_pos h1, u8_id ha.1 ha.2]
  · unfold guessI; rw [if_neg h1, if_pos h2, u8_id hb.1 hb.2]
  · rintro _ w1 ⟨rfl, hw⟩
    have := paethI_rng ha hb hc
    refine ⟨_, rfl, ?_, hw⟩
    unfold guessI; rw [if_neg h1, if_neg h2, if_pos h3, u8_id this.1 this.2]
  · unfold guessI; rw [if_neg h1, if_neg h2, if_neg h3, if_pos h4, i64_id (n := a + b) (by omega) (by omega), Int.tdiv_eq_ediv_of_nonneg (by omega), i64_id (by omega) (by omega), u8_id (by omega) (by omega)]
  · unfold guessI; rw [if_neg h1, if_neg h2, if_neg h3, if_neg h4]
/-- What the struct of a row's neighbours holds. -/
def nbs (a b c : Int) (row up : Value) (p : Int) : List Value := [.int .i64 a, .int .i64 b, .int .i64 c, row, up, .int .i64 p]
theorem nlook_any {ad : Addr} {a b c p i : Int} {row up : Value} {xs us : List Int} {w : World} (h : St w ad (nbs a b c row up p)) (hr : Nm .u8 w row xs) (hu : Nm .u8 w up us) (hp : 0 ≤ p ∧ p ≤ 9223372036854775807) (hi : 0 ≤ i ∧ i ≤ 9223372036854775807) :
    Calls P n_filter_neighbours_look #[.pointer (some ad), .int .i64 i] w (fun e w' => e = .returned (.tuple #[]) ∧ Ch (Rg ad 3) w w' ∧ St w' ad (nbs (ofL xs (i - p)) (ofL us i) (ofL us (i - p)) row up p)) := by
  refine of_filter_neighbours_look ⟨fun w' => St w' (ad.add 3) [row, up, .int .i64 p], ?_, ?_⟩
  · exact (h.sub 3 3).drew
  have cell : ∀ {w' : World} (_ : St w' (ad.add 3) [row, up, .int .i64 p]) (j : Nat) (u : Value), ([row, up, .int .i64 p] : List Value)[j]? = some u → w'.cell? (ad.add (3 + j)) = some u := fun {w'} hw j u hj => by
    have := hw.cell hj
    rw [Addr.add_none h.1, Addr.add_lit] at this
    rw [Addr.add_none h.1]; rwa [Nat.add_assoc] at this
  refine gNil_some (gLoadB_v (fun w' hw => cell hw 0 _ rfl) (gNil_some (gLoadB_i (fun w' hw => cell hw 2 _ rfl) (gNil_some (gLoadB_v (fun w' hw => cell hw 1 _ rfl) (gNil_some (gLoadB_v (fun w' hw => cell hw 1 _ rfl) (gNil_some (gLoadB_i (fun w' hw => cell hw 2 _ rfl) ?_)))))))))
  rw [i64_id (n := i - p) (by omega) (by omega)]
  refine gCall_of (of_any hr.drew) ?_
  rintro _ _ ⟨rfl, rfl⟩
  refine ⟨_, rfl, (h.sub 3 3).drew, gCall_of (of_any hu.drew) ?_⟩
  rintro _ _ ⟨rfl, rfl⟩
  refine ⟨_, rfl, (h.sub 3 3).drew, gCall_of (of_any hu.drew) ?_⟩
  rintro _ _ ⟨rfl, rfl⟩
  refine ⟨_, rfl, (h.sub 3 3).drew, gNil_some (gStore_agg h.drew (j := 0) (by simp [nbs]) (by simp; exact ⟨rfl, rfl, rfl⟩) ?_ (by kernel_rfl))⟩
  intro w' hc _ hS
  refine ⟨(h.sub 3 3).drew.ch hc fun j hj hh => ?_, rfl, ?_, hS⟩
  · have h1 := hh.2.2
    rw [Addr.add_none h.1, Addr.add_none h.1] at h1
    simp at h1
    omega
  · refine Ch.trans (Ev.drew0 w |>.mono fun _ _ _ h => h.elim) hc fun n i _ hh => ?_
    rw [Addr.add_zero'] at hh; exact hh
end Go.Proofs.YtdhhmmllekkofaaV

/- Package filter: Row and Unrow. -/
namespace Go.Proofs.YtdhhmmllekkofaaV
open Go Go.RowKit

/-- The first j bytes of a row, each less its guess. -/
def rowN (kind : Int) (xs us : List Int) (p : Int) : Nat → List Int
  | 0 => []
  | j + 1 => rowN kind xs us p j ++ [(rd xs j - guessI kind (ofL xs (j - p)) (ofL us j) (ofL us (j - p))) % 256]
def unrowN (kind : Int) (xs us : List Int) (p : Int) : Nat → List Int
  | 0 => []
  | j + 1 => unrowN kind xs us p j ++ [(rd xs j + guessI kind (ofL (unrowN kind xs us p j) (j - p)) (ofL us j) (ofL us (j - p))) % 256]
theorem rowN_len (kind : Int) (xs us : List Int) (p : Int) : ∀ j, (rowN kind xs us p j).length = j
  | 0 => rfl
  | j + 1 => by simp [rowN, rowN_len kind xs us p j]
theorem unrowN_len (kind : Int) (xs us : List Int) (p : Int) : ∀ j, (unrowN kind xs us p j).length = j
  | 0 => rfl
  | j + 1 => by simp [unrowN, unrowN_len kind xs us p j]
theorem inR_u8 {xs : List Int} (h : ∀ x ∈ xs, rng x) : inR .u8 xs := fun x hx => by
  have := h x hx; simp [IntKind.min, IntKind.max, IntKind.signed, IntKind.bits]; omega
theorem rowN_u8 (kind : Int) (xs us : List Int) (p : Int) : ∀ j, ∀ x ∈ rowN kind xs us p j, rng x
  | 0, x, h => by cases h
  | j + 1, x, h => by
    rcases List.mem_append.1 h with h | h
    · exact rowN_u8 kind xs us p j x h
    · simp at h; subst h; exact ⟨by omega, by omega⟩
theorem unrowN_u8 (kind : Int) (xs us : List Int) (p : Int) : ∀ j, ∀ x ∈ unrowN kind xs us p j, rng x
  | 0, x, h => by cases h
  | j + 1, x, h => by
    rcases List.mem_append.1 h with h | h
    · exact unrowN_u8 kind xs us p j x h
    · simp at h; subst h; exact ⟨by omega, by omega⟩
theorem fill_set {A : List Int} {n j : Nat} (x : Int) (ha : A.length = j) (h : j < n) : (A ++ List.replicate (n - j) 0).set j x = (A ++ [x]) ++ List.replicate (n - (j + 1)) 0 := by
  rw [List.set_append_right _ _ (by omega), ha, Nat.sub_self, show n - j = (n - (j + 1)) + 1 by omega, List.replicate_succ]
  simp
theorem St.add0 {w : World} {ad : Addr} {cs : List Value} (h : St w ad cs) : St w (ad.add 0) cs := by rw [Addr.add_zero']; exact h
theorem fill_len {A : List Int} {n j : Nat} (ha : A.length = j) (h : j ≤ n) : (A ++ List.replicate (n - j) 0).length = n := by simp [ha]; omega
theorem ofL_fill {A : List Int} {m : Nat} {i : Int} (h : i < A.length) : ofL (A ++ List.replicate m 0) i = ofL A i := by
  unfold ofL
  by_cases h0 : i < 0
  · rw [if_pos (.inl h0), if_pos (.inl h0)]
  · rw [if_neg (by simp; omega), if_neg (by omega)]
    unfold rd
    rw [List.getD_eq_getElem?_getD, List.getElem?_append_left (by omega), ← List.getD_eq_getElem?_getD]
def planesI (p : Int) : Int := if 1 > p then 1 else p
/-- One round of both: look, guess, store. -/
theorem round_any {row up v : Value} {xs us ys : List Int} {kind p : Int} {j B : Nat} {w3 : World} {ad : Addr} {R : World → Prop}
    (hr : Nm .u8 w3 row xs) (hu : Nm .u8 w3 up us) (hS : ∃ a b c, St w3 ad (nbs a b c row up p)) (hO : ON .u8 eB w3 B v ys) (hj : (j : Int) < ys.length) (hp : 1 ≤ p ∧ p ≤ 9223372036854775807) (hB : ∀ g, v.ownBlock = some g → g ≠ ad.block) (hj63 : j ≤ 1000000000) {f : Int → Int} (hf : ∀ x, rng (f x) )
    (hk : ∀ w6, Ch (fun k i => Rg ad 3 k i ∨ Ob v k i) w3 w6 → (∃ a b c, St w6 ad (nbs a b c row up p)) → ON .u8 eB w6 B v (ys.set j (f (guessI kind (ofL xs (j - p)) (ofL us j) (ofL us (j - p))))) → R w6) :
    gCall P n_filter_neighbours_look shU #[.pointer (some ad), .int .i64 j] w3 fun ww4 => gNil (some ad) fun (t36 : Addr) => gCall P n_filter_around_guess (shI .u8) #[.pointer (some (Addr.add t36 0)), .int .i64 kind] ww4 fun (t39 : Int) ww5 =>
      gIdx P t_sl_uint8 v (.int .i64 j) fun (t41 : Addr) => gStore P t_uint8 (.pointer (some t41)) (.int .u8 (f t39)) ww5 fun ww6 => R ww6 := by
  obtain ⟨a, b, c, hS⟩ := hS
  have hvb := hB
  refine gCall_of (nlook_any hS hr hu (by omega) (by omega)) ?_
  rintro _ w4 ⟨rfl, hc4, hS4⟩
  refine ⟨rfl, gNil_some (gCall_of (guess_any hS4.add0 (ofL_u8 hr.2 _) (ofL_u8 hu.2 _) (ofL_u8 hu.2 _)) ?_)⟩
  rintro _ w5 ⟨rfl, hw5⟩
  have hO5 : ON .u8 eB w5 B v ys := (hO.ch hc4 fun g i hg hh => hvb g hg hh.1).ev hw5
  refine ⟨_, rfl, gIdx_on hO5 (by omega) hj fun a2 hs2 _ => gStore_on hO5 hs2 (by omega) hj ?_ fun w6 hc6 _ hO6 => hk w6 ?_ ⟨_, _, _, (hS4.ev hw5).ch hc6 fun q _ hh => hvb _ hh rfl⟩ hO6⟩
  · have := hf (guessI kind (ofL xs (j - p)) (ofL us j) (ofL us (j - p)))
    simp [IntKind.min, IntKind.max, IntKind.signed, IntKind.bits]; omega
  · refine Ch.trans (Ch.trans (hc4.mono fun _ _ _ h => .inl h) (hw5.mono fun _ _ _ h => h.elim) fun _ _ _ h => h) (hc6.mono fun _ _ _ h => .inr h) fun _ _ _ h => h
theorem Row_any {row up : Value} {xs us : List Int} {kind p : Int} {w : World} (hr : Nm .u8 w row xs) (hu : Nm .u8 w up us) (hl : xs.length ≤ 1000000000) (hp : p ≤ 9223372036854775807) :
    Calls P n_filter_Row #[.int .i64 kind, row, up, .int .i64 p] w (NewB w (rowN kind xs us (planesI p) xs.length)) := by
  refine of_filter_Row ⟨hr.one, hu.one, gBox_of fun ad w1 hw1 had hsz hS => ?_⟩
  refine gLen_nm (hr.ev hw1) (gMake_n (k := .u8) (by omega) (by omega) fun v w2 hw2 hO => gLen_nm ((hr.ev hw1).ev hw2) ?_)
  have hS : St w1 ad (nbs 0 0 0 row up (planesI p)) := hS
  have hpl : 1 ≤ planesI p ∧ planesI p ≤ 9223372036854775807 := by unfold planesI; split <;> omega
  have hbk : ad.block = w.heap.size := by rw [had]
  refine ⟨fun i w3 => ∃ j : Nat, i = j ∧ j ≤ xs.length ∧ Ev w w3 ∧ (∃ a b c, St w3 ad (nbs a b c row up (planesI p))) ∧ ON .u8 eB w3 w1.heap.size v (rowN kind xs us (planesI p) j ++ List.replicate (xs.length - j) 0),
    fun i _ => xs.length - i.toNat, ⟨0, rfl, by omega, hw1.trans hw2, ⟨_, _, _, hS.ev hw2⟩, by simpa [rowN] using hO⟩, ?_⟩
  rintro _ i w3 ⟨j, rfl, hj, hw3, hS3, hO3⟩
  refine gIf_dec (fun h => ?_) (fun h => ⟨v, rfl, hw3, ?_⟩)
  · have hj' : j < xs.length := by omega
    have hlen := fill_len (rowN_len kind xs us (planesI p) j) hj
    refine gIdx_nm (hr.ev hw3) (by omega) (by omega) fun a1 hc1 _ => gLoad_i hc1 (round_any (f := fun g => u8 (rd xs j - g)) (hr.ev hw3) (hu.ev hw3) hS3 hO3 (by omega) hpl (fun g hg => by have := (hO3.base hg).1; omega) (by omega) (fun x => by rw [u8_def]; exact ⟨by omega, by omega⟩) fun w6 hc6 hS6 hO6 => ?_)
    rw [i64_id (n := (j : Int) + 1) (by omega) (by omega)]
    refine ⟨⟨j + 1, by omega, hj', hw3.new hc6 fun n i hh => ?_, hS6, ?_⟩, by dsimp only; omega⟩
    · rcases hh with hh | hh
      · have := hh.1; omega
      · have := (hO3.base hh).1; omega
    · rw [fill_set _ (rowN_len ..) hj', u8_def] at hO6; exact hO6
  · have : j = xs.length := by omega
    subst this
    simpa using hO3.low (by omega)
theorem Unrow_any {row up : Value} {xs us : List Int} {kind p : Int} {w : World} (hr : Nm .u8 w row xs) (hu : Nm .u8 w up us) (hl : xs.length ≤ 1000000000) (hp : p ≤ 9223372036854775807) :
    Calls P n_filter_Unrow #[.int .i64 kind, row, up, .int .i64 p] w (NewB w (unrowN kind xs us (planesI p) xs.length)) := by
  refine of_filter_Unrow (gLen_nm hr (gMake_n (k := .u8) (by omega) (by omega) fun v w1 hw1 hO => ⟨hO.one, hu.one, gBox_of fun ad w2 hw2 had hsz hS => gLen_nm ((hr.ev hw1).ev hw2) ?_⟩))
  have hS : St w2 ad (nbs 0 0 0 v up (planesI p)) := hS
  have hpl : 1 ≤ planesI p ∧ planesI p ≤ 9223372036854775807 := by unfold planesI; split <;> omega
  have hbk : ad.block = w1.heap.size := by rw [had]
  have hvb : ∀ {w3 : World} {ys : List Int}, ON .u8 eB w3 w.heap.size v ys → ∀ g, v.ownBlock = some g → g < w1.heap.size := fun _ g hg => (hO.base hg).2
  refine ⟨fun i w3 => ∃ j : Nat, i = j ∧ j ≤ xs.length ∧ Ev w w3 ∧ (∃ a b c, St w3 ad (nbs a b c v up (planesI p))) ∧ ON .u8 eB w3 w.heap.size v (unrowN kind xs us (planesI p) j ++ List.replicate (xs.length - j) 0),
    fun i _ => xs.length - i.toNat, ⟨0, rfl, by omega, hw1.trans hw2, ⟨_, _, _, hS⟩, by simpa [unrowN] using hO.ev hw2⟩, ?_⟩
  rintro _ i w3 ⟨j, rfl, hj, hw3, hS3, hO3⟩
  refine gIf_dec (fun h => ?_) (fun h => ⟨v, rfl, hw3, ?_⟩)
  · have hj' : j < xs.length := by omega
    have hlen := fill_len (unrowN_len kind xs us (planesI p) j) hj
    refine gIdx_nm (hr.ev hw3) (by omega) (by omega) fun a1 hc1 _ => gLoad_i hc1 (round_any (f := fun g => u8 (rd xs j + g)) hO3.nm (hu.ev hw3) hS3 hO3 (by omega) hpl (fun g hg => by have := hvb hO3 g hg; omega) (by omega) (fun x => by rw [u8_def]; exact ⟨by omega, by omega⟩) fun w6 hc6 hS6 hO6 => ?_)
    rw [i64_id (n := (j : Int) + 1) (by omega) (by omega)]
    refine ⟨⟨j + 1, by omega, hj', hw3.new hc6 fun n i hh => ?_, hS6, ?_⟩, by dsimp only; omega⟩
    · rcases hh with hh | hh
      · have := hh.1; have := hw1.size; omega
      · have := (hO3.base hh).1; omega
    · rw [ofL_fill (by rw [unrowN_len]; omega), fill_set _ (unrowN_len ..) hj', u8_def] at hO6; exact hO6
  · have : j = xs.length := by omega
    subst this
    simpa using hO3
end Go.Proofs.YtdhhmmllekkofaaV

/- Package filter: weight, Best, Paeth, right. -/
namespace Go.Proofs.YtdhhmmllekkofaaV
open Go Go.RowKit

def wt (c : Int) : Int := if 256 - c < c then 256 - c else c
theorem wt_bd {c : Int} (h : rng c) : 0 ≤ wt c ∧ wt c ≤ 128 := by unfold wt; split <;> omega
def weightN (xs : List Int) : Nat → Int
  | 0 => 0
  | j + 1 => weightN xs j + wt (rd xs j)
theorem weightN_bd {xs : List Int} (h : inR .u8 xs) : ∀ j, 0 ≤ weightN xs j ∧ weightN xs j ≤ 128 * j
  | 0 => by simp [weightN]
  | j + 1 => by have := weightN_bd h j; have := wt_bd (rd_u8 h j); simp only [weightN]; omega
theorem weight_any {l : Value} {xs : List Int} {w : World} (h : Nm .u8 w l xs) (hl : xs.length ≤ 1000000000) : Calls P n_filter_weight #[l] w (fun e w' => e = .returned (.int .i64 (weightN xs xs.length)) ∧ w' = w) := by
  refine of_filter_weight (gLen_nm h ⟨fun n i w' => ∃ j : Nat, i = j ∧ j ≤ xs.length ∧ n = weightN xs j ∧ w' = w, fun _ i _ => xs.length - i.toNat, ⟨0, rfl, by omega, rfl, rfl⟩, ?_⟩)
  rintro _ n i _ ⟨j, rfl, hj, rfl, rfl⟩
  refine gIf_dec (fun hlt => ?_) (fun hge => ⟨?_, rfl⟩)
  · refine gIdx_nm h (by omega) (by omega) fun ad hc _ => gLoad_i hc ?_
    have hr := rd_u8 h.2 j
    have hb := weightN_bd h.2 j
    have hw := wt_bd hr
    have e1 : i64 (rd xs j) = rd xs j := i64_id (by omega) (by omega)
    have e2 : i64 (256 - rd xs j) = 256 - rd xs j := i64_id (by omega) (by omega)
    have e3 : i64 ((j : Int) + 1) = j + 1 := i64_id (by omega) (by omega)
    rw [e1, e2, e3, show (if 256 - rd xs j < rd xs j then 256 - rd xs j else rd xs j) = wt (rd xs j) from rfl, i64_id (by omega) (by omega)]
    exact ⟨⟨j + 1, by omega, by omega, rfl, rfl⟩, by dsimp only; omega⟩
  · rw [show j = xs.length by omega]
/-- The best kind of those up to k, and what it leaves. -/
def bestN (f : Int → Int) : Nat → Int × Int
  | 0 => (0, f 0)
  | k + 1 => if f ((k + 1 : Nat) : Int) < (bestN f k).2 then (((k + 1 : Nat) : Int), f ((k + 1 : Nat) : Int)) else bestN f k
theorem bestN_bd (f : Int → Int) : ∀ k, 0 ≤ (bestN f k).1 ∧ (bestN f k).1 ≤ k ∧ (bestN f k).2 = f (bestN f k).1
  | 0 => by simp [bestN]
  | k + 1 => by
    have := bestN_bd f k
    simp only [bestN]; split
    · exact ⟨by dsimp only; omega, by dsimp only; omega, rfl⟩
    · exact ⟨this.1, by omega, this.2.2⟩
def leftW (xs us : List Int) (p k : Int) : Int := weightN (rowN k xs us (planesI p) xs.length) xs.length
def bestI (xs us : List Int) (p : Int) : Int := (bestN (leftW xs us p) 4).1
theorem BestF_any {row up : Value} {xs us : List Int} {p : Int} {w : World} (hr : Nm .u8 w row xs) (hu : Nm .u8 w up us) (hl : xs.length ≤ 1000000000) (hp : p ≤ 9223372036854775807) :
    Calls P n_filter_Best #[row, up, .int .i64 p] w (fun e w' => e = .returned (.int .i64 (bestI xs us p)) ∧ Ev w w') := by
  have one : ∀ {w1 : World} (_ : Ev w w1) (k : Int) (K : Int → World → Prop), (∀ w2, Ev w w2 → K (leftW xs us p k) w2) →
      gCall P n_filter_Row shV #[.int .i64 k, row, up, .int .i64 p] w1 fun (v : Value) w2 => gCall P n_filter_weight (shI .i64) #[v] w2 K := fun {w1} he k K hK => by
    refine gCall_of (Row_any (hr.ev he) (hu.ev he) hl hp) ?_
    rintro _ w2 ⟨v, rfl, h2, hO⟩
    refine ⟨v, rfl, gCall_of (weight_any hO.nm (by rw [rowN_len]; exact hl)) ?_⟩
    rintro _ _ ⟨rfl, rfl⟩
    refine ⟨_, rfl, ?_⟩
    rw [rowN_len]; exact hK _ (he.trans h2)
  refine of_filter_Best (one (Ch.refl _ w) 0 _ fun w2 h2 => ⟨fun best least k w' => ∃ j : Nat, k = j + 1 ∧ j ≤ 4 ∧ (best, least) = bestN (leftW xs us p) j ∧ Ev w w', fun _ _ k _ => 5 - k.toNat, ⟨0, rfl, by omega, rfl, h2⟩, ?_⟩)
  rintro _ best least k w3 ⟨j, rfl, hj, hb, h3⟩
  refine gIf_dec (fun hlt => ?_) (fun hge => ⟨?_, h3⟩)
  · refine one h3 _ _ fun w5 h5 => ?_
    have e3 : i64 ((j : Int) + 1 + 1) = j + 1 + 1 := i64_id (by omega) (by omega)
    rw [e3]
    have hb2 : least = (bestN (leftW xs us p) j).2 := congrArg Prod.snd hb
    refine gIf_dec (fun hs => ⟨⟨j + 1, by omega, by omega, ?_, h5⟩, by dsimp only; omega⟩) (fun hs => ⟨⟨j + 1, by omega, by omega, ?_, h5⟩, by dsimp only; omega⟩)
    · simp only [bestN]; rw [← hb2, if_pos (by simpa using hs)]; simp
    · simp only [bestN]; rw [← hb2, if_neg (by simpa using hs)]; exact hb
  · obtain rfl : j = 4 := by omega
    have : best = bestI xs us p := congrArg Prod.fst hb
    rw [this]
def rightI (width p : Int) : Bool := decide (width ≥ 1) && decide (width ≤ 1048576) && decide (p ≥ 1) && decide (p ≤ 4)
theorem right_any {width p : Int} {w : World} : Calls P n_filter_right #[.int .i64 width, .int .i64 p] w (fun e w' => e = .returned (.bool (rightI width p)) ∧ w' = w) := by
  refine of_filter_right (gIf_dec (fun h1 => gIf_dec (fun h2 => gIf_dec (fun h3 => ⟨?_, rfl⟩) (fun h3 => ⟨?_, rfl⟩)) (fun h2 => ⟨?_, rfl⟩)) (fun h1 => ⟨?_, rfl⟩)) <;> simp [rightI, *]
end Go.Proofs.YtdhhmmllekkofaaV

/- awake, and the laws FilterPaeth and FilterFlat: what is shown of their calls. -/
namespace Go.Proofs.YtdhhmmllekkofaaV
open Go Go.RowKit

theorem farI_comm (a b : Int) : farI a b = farI b a := by unfold farI; split <;> split <;> omega
theorem paethI_near (a b c : Int) : (paethI a b c = a ∨ paethI a b c = b ∨ paethI a b c = c) ∧ farI (paethI a b c) (a + b - c) ≤ farI a (a + b - c) ∧ farI (paethI a b c) (a + b - c) ≤ farI b (a + b - c) ∧ farI (paethI a b c) (a + b - c) ≤ farI c (a + b - c) := by
  simp only [farI_comm _ (a + b - c)]
  unfold paethI
  split
  · rename_i h; exact ⟨.inl rfl, by omega, h.1, h.2⟩
  · rename_i h
    split
    · rename_i h2; exact ⟨.inr (.inl rfl), by omega, by omega, h2⟩
    · rename_i h2; exact ⟨.inr (.inr rfl), by omega, by omega, by omega⟩
end Go.Proofs.YtdhhmmllekkofaaV

/- The law FilterFlat. -/
namespace Go.Proofs.YtdhhmmllekkofaaV
open Go Go.RowKit

theorem rd_append_lt {A B : List Int} {i : Int} (h : i.toNat < A.length) : rd (A ++ B) i = rd A i := by
  unfold rd; rw [List.getD_eq_getElem?_getD, List.getElem?_append_left h, ← List.getD_eq_getElem?_getD]
theorem rd_append_eq {A : List Int} {x : Int} {j : Nat} (h : A.length = j) : rd (A ++ [x]) j = x := by
  unfold rd; subst h; simp
theorem rowN_rd {kind : Int} {xs us : List Int} {p : Int} : ∀ {n j : Nat}, j < n → rd (rowN kind xs us p n) j = (rd xs j - guessI kind (ofL xs (j - p)) (ofL us j) (ofL us (j - p))) % 256
  | n + 1, j, h => by
    simp only [rowN]
    by_cases e : j = n
    · subst e; exact rd_append_eq (rowN_len ..)
    · rw [rd_append_lt (by rw [rowN_len]; omega)]; exact rowN_rd (by omega)
theorem unrowN_rd {kind : Int} {xs us : List Int} {p : Int} : ∀ {n j : Nat}, j < n → rd (unrowN kind xs us p n) j = (rd xs j + guessI kind (ofL (unrowN kind xs us p j) (j - p)) (ofL us j) (ofL us (j - p))) % 256
  | n + 1, j, h => by
    simp only [unrowN]
    by_cases e : j = n
    · subst e; exact rd_append_eq (unrowN_len ..)
    · rw [rd_append_lt (by rw [unrowN_len]; omega)]; exact unrowN_rd (by omega)
/-- What kind 2 leaves of a row like the one ahead. -/
theorem flat2 (xs : List Int) (p : Int) {n j : Nat} (hn : n ≤ xs.length) (h : j < n) : rd (rowN 2 xs xs p n) j = 0 := by
  rw [rowN_rd h]
  have : guessI 2 (ofL xs (j - p)) (ofL xs j) (ofL xs (j - p)) = rd xs j := by
    unfold guessI; rw [if_neg (by decide), if_pos rfl]; unfold ofL; rw [if_neg (by omega)]
  rw [this]; omega
theorem weightN_zero {xs : List Int} : ∀ {n : Nat}, (∀ j : Nat, j < n → rd xs j = 0) → weightN xs n = 0
  | 0, _ => rfl
  | n + 1, h => by simp only [weightN]; rw [weightN_zero (fun j hj => h j (by omega)), h n (by omega)]; rfl
theorem wt_zero {c : Int} (h : rng c) (h0 : wt c ≤ 0) : c = 0 := by unfold wt at h0; split at h0 <;> omega
theorem zero_weightN {xs : List Int} (hx : inR .u8 xs) : ∀ {n : Nat}, weightN xs n ≤ 0 → ∀ j : Nat, j < n → rd xs j = 0
  | n + 1, h, j, hj => by
    simp only [weightN] at h
    have h1 := weightN_bd hx n
    have h2 := wt_bd (rd_u8 hx n)
    by_cases e : j = n
    · subst e; exact wt_zero (rd_u8 hx _) (by omega)
    · exact zero_weightN hx (n := n) (by omega) j (by omega)
theorem leftW_nn (xs us : List Int) (p k : Int) : 0 ≤ leftW xs us p k := (weightN_bd (inR_u8 fun x hx => rowN_u8 _ _ _ _ _ x hx) _).1
theorem bestN_min (f : Int → Int) : ∀ k, (∀ j : Nat, j ≤ k → (bestN f k).2 ≤ f j) ∧ (∀ j : Nat, (j : Int) < (bestN f k).1 → (bestN f k).2 < f j)
  | 0 => ⟨fun j hj => by obtain rfl : j = 0 := by omega
                         exact Int.le_refl _, fun j hj => by simp only [bestN] at hj; omega⟩
  | k + 1 => by
    obtain ⟨h1, h2⟩ := bestN_min f k
    have hb := bestN_bd f k
    simp only [bestN]
    split
    · rename_i hlt
      refine ⟨fun j hj => ?_, fun j hj => ?_⟩
      · by_cases e : j = k + 1
        · subst e; exact Int.le_refl _
        · have := h1 j (by omega); dsimp only; omega
      · have := h1 j (by dsimp only at hj; omega); dsimp only; omega
    · rename_i hge
      refine ⟨fun j hj => ?_, h2⟩
      by_cases e : j = k + 1
      · subst e; omega
      · exact h1 j (by omega)
theorem best_flat (xs : List Int) (p : Int) : bestI xs xs p ≤ 2 ∧ leftW xs xs p (bestI xs xs p) = 0 := by
  have h2 : leftW xs xs p 2 = 0 := by unfold leftW; exact weightN_zero fun j hj => flat2 xs _ (Nat.le_refl _) hj
  obtain ⟨m1, m2⟩ := bestN_min (leftW xs xs p) 4
  have hb := bestN_bd (leftW xs xs p) 4
  have n1 := leftW_nn xs xs p (bestN (leftW xs xs p) 4).1
  have hle : (bestN (leftW xs xs p) 4).2 ≤ leftW xs xs p 2 := m1 2 (by omega)
  have hlt : 2 < (bestN (leftW xs xs p) 4).1 → (bestN (leftW xs xs p) 4).2 < leftW xs xs p 2 := m2 2
  unfold bestI
  have h0 := hb.2.2
  rw [← h0] at n1 ⊢
  exact ⟨by have := fun h => hlt h; omega, by omega⟩
end Go.Proofs.YtdhhmmllekkofaaV

/- Package filter: Apply and Undo. -/
namespace Go.Proofs.YtdhhmmllekkofaaV
open Go Go.RowKit

/-- Row i of rows of a width. -/
def rowAt (xs : List Int) (width i : Nat) : List Int := (xs.drop (i * width)).take width
def upAt (xs : List Int) (width : Nat) : Nat → List Int
  | 0 => []
  | i + 1 => rowAt xs width i
def applyN (xs : List Int) (width : Nat) (p : Int) : Nat → List Int
  | 0 => []
  | i + 1 => applyN xs width p i ++ [bestI (rowAt xs width i) (upAt xs width i) p] ++ rowN (bestI (rowAt xs width i) (upAt xs width i) p) (rowAt xs width i) (upAt xs width i) (planesI p) (rowAt xs width i).length
theorem rowAt_len {xs : List Int} {width i n : Nat} (h : xs.length = n * width) (hi : i < n) : (rowAt xs width i).length = width := by
  unfold rowAt
  rw [List.length_take, List.length_drop, h]
  have : (i + 1) * width ≤ n * width := Nat.mul_le_mul_right _ hi
  rw [Nat.succ_mul] at this
  omega
theorem applyN_len {xs : List Int} {width n : Nat} {p : Int} (h : xs.length = n * width) : ∀ {i}, i ≤ n → (applyN xs width p i).length = i * (width + 1)
  | 0, _ => by simp [applyN]
  | i + 1, hi => by
    simp only [applyN, List.length_append, applyN_len h (show i ≤ n by omega), rowN_len, rowAt_len h (show i < n by omega), List.length_singleton, Nat.succ_mul]
    omega
theorem best_rng (xs us : List Int) (p : Int) : 0 ≤ bestI xs us p ∧ bestI xs us p ≤ 4 := by have := bestN_bd (leftW xs us p) 4; unfold bestI; omega
theorem applyN_u8 (xs : List Int) (width : Nat) (p : Int) : ∀ i, ∀ x ∈ applyN xs width p i, rng x
  | 0, x, h => by cases h
  | i + 1, x, h => by
    rcases List.mem_append.1 h with h | h
    · rcases List.mem_append.1 h with h | h
      · exact applyN_u8 xs width p i x h
      · simp at h; subst h; have := best_rng (rowAt xs width i) (upAt xs width i) p; exact ⟨by omega, by omega⟩
    · exact rowN_u8 _ _ _ _ _ x h
/-- Bytes in new memory and an error; of an error no bytes. -/
def NewBE (w : World) (r : Option (List Int)) (er : Int) (e : Ending) (w' : World) : Prop := Ev w w' ∧ match r with
  | some xs => ∃ v, e = .returned (.tuple #[v, .int .i64 0]) ∧ ON .u8 eB w' w.heap.size v xs
  | none => e = .returned (.tuple #[.slice none 0 0, .int .i64 er])
def applyOk (n : Nat) (width p : Int) : Bool := rightI width p && decide ((n : Int) % width = 0) && decide (n ≤ 1048576)
theorem applyOk_iff {n W : Nat} {p : Int} (h : applyOk n W p = true) : 1 ≤ W ∧ W ≤ 1048576 ∧ 1 ≤ p ∧ p ≤ 4 ∧ n = n / W * W ∧ n ≤ 1048576 := by
  simp only [applyOk, rightI, Bool.and_eq_true, decide_eq_true_eq] at h
  obtain ⟨⟨⟨⟨⟨h1, h2⟩, h3⟩, h4⟩, h5⟩, h6⟩ := h
  have : n % W = 0 := by omega
  have := Nat.div_add_mod n W
  rw [Nat.mul_comm] at this
  omega
theorem Apply_any {b : Value} {xs : List Int} {width p : Int} {w : World} (hb : Nm .u8 w b xs) (hl : xs.length ≤ 1000000000) (hp : p ≤ 9223372036854775807) :
    Calls P n_filter_Apply #[b, .int .i64 width, .int .i64 p] w (NewBE w (if applyOk xs.length width p then some (applyN xs width.toNat p (xs.length / width.toNat)) else none) 1) := by
  have bad : applyOk xs.length width p = false → NewBE w (if applyOk xs.length width p then some (applyN xs width.toNat p (xs.length / width.toNat)) else none) 1 (.returned (.tuple #[.slice none 0 0, .int .i64 1])) w := fun h => by
    rw [h]; exact ⟨Ch.refl _ w, rfl⟩
  refine of_filter_Apply ⟨fun w' => applyOk xs.length width p = true ∧ w' = w, gCall_of right_any ?_, ?_⟩
  · rintro _ _ ⟨rfl, rfl⟩
    refine ⟨_, rfl, ?_⟩
    cases hr : rightI width p with
    | false => exact gIf_nnf (bad (by simp [applyOk, hr]))
    | true =>
      have hw : 1 ≤ width := by simp [rightI] at hr; omega
      refine gIf_nn (gLen_nm hb (gBin_rem (by omega) (gIf_nneq (fun h0 => gLen_nm hb (gIf_dec (fun h1 => bad ?_) (fun h1 => ⟨?_, rfl⟩))) (fun h0 => bad ?_))))
      all_goals rw [Int.tmod_eq_emod_of_nonneg (by omega)] at h0
      · simp [applyOk]; omega
      · simp [applyOk, hr]; omega
      · simp [applyOk, h0]
  rintro _ _ ⟨hok, rfl⟩
  rw [hok, if_pos rfl]
  clear bad
  obtain ⟨W, rfl⟩ : ∃ W : Nat, width = W := ⟨width.toNat, by simp [applyOk, rightI] at hok; omega⟩
  obtain ⟨hW1, hW2, hp1, hp4, hn, hn2⟩ := applyOk_iff hok
  rw [Int.toNat_natCast]
  generalize xs.length / W = n at hn
  rename_i w
  refine ⟨fun bv out up w3 => ∃ i : Nat, i ≤ n ∧ Nm .u8 w bv (xs.drop (i * W)) ∧ ON .u8 eB w3 w.heap.size out (applyN xs W p i) ∧ Nm .u8 w up (upAt xs W i) ∧ Ev w w3,
    fun bv _ _ _ => slenV bv, ⟨0, by omega, by simpa using hb, ON.nil _ _ _ _, Nm.nil _ _, Ch.refl _ w⟩, ?_⟩
  rintro _ bv out up w3 ⟨i, hi, hbv, hO, hup, hw3⟩
  have hiW : i * W ≤ n * W := Nat.mul_le_mul_right _ hi
  have hdl : (xs.drop (i * W)).length = n * W - i * W := by rw [List.length_drop, ← hn]
  refine gLen_nm hbv (gIf_dec (fun hpos => ?_) (fun hend => ⟨hw3, out, rfl, ?_⟩))
  · have hlt : i < n := by
      rcases Nat.lt_or_ge i n with h | h
      · exact h
      · have : i = n := by omega
        subst this; omega
    have hi1 : (i + 1) * W ≤ n * W := Nat.mul_le_mul_right _ hlt
    rw [Nat.succ_mul] at hi1
    have hrow : ∀ {w' : World}, Nm .u8 w (subV 1 bv 0 W) (rowAt xs W i) := fun {_} => by
      have := hbv.sub 0 W (by omega) (by omega)
      simpa [rowAt] using this
    have hrl : (rowAt xs W i).length = W := rowAt_len hn hlt
    have hup' := hup
    refine gSlice_nm hbv 0 W (.inl ⟨rfl, rfl⟩) (.inr ⟨_, rfl⟩) (by omega) (by omega) fun _ => gCall_of (BestF_any ((hrow (w' := w)).ev hw3) (hup.ev hw3) (by omega) hp) ?_
    rintro _ w4 ⟨rfl, h4⟩
    have hbr := best_rng (rowAt xs W i) (upAt xs W i) p
    generalize hk : bestI (rowAt xs W i) (upAt xs W i) p = k at *
    have hw4 : Ev w w4.drew := (hw3.trans h4).drew
    refine ⟨k, rfl, fun _ => True, trivial, gSlice_nm hbv 0 W (.inl ⟨rfl, rfl⟩) (.inr ⟨_, rfl⟩) (by omega) (by omega) fun _ => gLit_n (k := .u8) [k] (by rw [u8_id (by omega) (by omega)]; rfl) rfl (by decide) (inR_u8 (by simp; exact ⟨by omega, by omega⟩)) fun y w5 h5 hy => ⟨trivial, ?_⟩⟩
    have hal := applyN_len hn (p := p) hi
    have hiW2 : i * (W + 1) ≤ 3000000 := by rw [Nat.mul_succ]; have : n * 1 ≤ n * W := Nat.mul_le_mul_left _ hW1; omega
    refine gApp_on (((hO.ev h4).drew).ev h5) hy.nm (by rw [hal]; simp; omega) ((hw4.trans h5).size) fun o1 w6 hO1 hc1 hm1 => ⟨trivial, ?_⟩
    have hw6 : Ev w w6 := (hw4.trans h5).new hc1 fun g _ hg => (hO.base hg).1
    refine gCall_of (Row_any ((hrow (w' := w)).ev hw6) (hup.ev hw6) (by omega) hp) ?_
    rintro _ w7 ⟨r, rfl, h7, hr⟩
    refine ⟨r, rfl, trivial, gApp_on (hO1.ev h7) hr.nm (by rw [List.length_append, hal, rowN_len, hrl]; simp; omega) ((hw6.trans h7).size) fun o2 w8 hO2 hc2 hm2 => ⟨trivial, ?_⟩⟩
    have hw8 : Ev w w8 := (hw6.trans h7).new hc2 fun g _ hg => (hO1.base hg).1
    refine gSlice_nm hbv 0 W (.inl ⟨rfl, rfl⟩) (.inr ⟨_, rfl⟩) (by omega) (by omega) fun _ => gSlice_nm hbv W (n * W - i * W) (.inr ⟨_, rfl⟩) (.inl ⟨rfl, hdl.symm⟩) (by omega) (by omega) fun hrest => ⟨⟨i + 1, hlt, ?_, ?_, hrow (w' := w), hw8⟩, ?_⟩
    · rw [List.drop_drop, List.take_of_length_le (by rw [List.length_drop, ← hn]; omega)] at hrest
      rwa [Nat.succ_mul]
    · simp only [applyN, hk]; exact hO2
    · dsimp only
      rw [hrest.slen, hbv.slen, List.length_take, List.length_drop]; omega
  · have : i = n := by
      rcases Nat.lt_or_ge i n with h | h
      · have : (i + 1) * W ≤ n * W := Nat.mul_le_mul_right _ h
        rw [Nat.succ_mul] at this; omega
      · omega
    subst this; exact hO
end Go.Proofs.YtdhhmmllekkofaaV

/- Package filter: Undo; what is turned is turned back; the law FilterBack. -/
namespace Go.Proofs.YtdhhmmllekkofaaV
open Go Go.RowKit

def kindAt (xs : List Int) (W i : Nat) : Int := rd xs ((i * (W + 1) : Nat) : Int)
def rowAt1 (xs : List Int) (W i : Nat) : List Int := (xs.drop (i * (W + 1) + 1)).take W
def undoR (xs : List Int) (W : Nat) (p : Int) : Nat → List Int
  | 0 => unrowN (kindAt xs W 0) (rowAt1 xs W 0) [] (planesI p) W
  | i + 1 => unrowN (kindAt xs W (i + 1)) (rowAt1 xs W (i + 1)) (undoR xs W p i) (planesI p) W
def upU (xs : List Int) (W : Nat) (p : Int) : Nat → List Int
  | 0 => []
  | i + 1 => undoR xs W p i
theorem undoR_up (xs : List Int) (W : Nat) (p : Int) (i : Nat) : undoR xs W p i = unrowN (kindAt xs W i) (rowAt1 xs W i) (upU xs W p i) (planesI p) W := by cases i <;> rfl
def undoN (xs : List Int) (W : Nat) (p : Int) : Nat → List Int
  | 0 => []
  | i + 1 => undoN xs W p i ++ undoR xs W p i
theorem undoR_len (xs : List Int) (W : Nat) (p : Int) (i : Nat) : (undoR xs W p i).length = W := by rw [undoR_up, unrowN_len]
theorem undoN_len (xs : List Int) (W : Nat) (p : Int) : ∀ i, (undoN xs W p i).length = i * W
  | 0 => by simp [undoN]
  | i + 1 => by rw [undoN, List.length_append, undoN_len, undoR_len, Nat.succ_mul]
def undoOk (n : Nat) (width p : Int) : Bool := rightI width p && decide ((n : Int) % (width + 1) = 0) && decide ((n : Int) / (width + 1) * width ≤ 1048576)
def kindsOk (xs : List Int) (W n : Nat) : Bool := decide (∀ i, i < n → kindAt xs W i ≤ 4)
/-- What Undo tells. -/
def UndoE (w : World) (xs : List Int) (width p : Int) (e : Ending) (w' : World) : Prop :=
  if undoOk xs.length width p then
    if kindsOk xs width.toNat (xs.length / (width.toNat + 1)) then NewBE w (some (undoN xs width.toNat p (xs.length / (width.toNat + 1)))) 0 e w'
    else NewBE w none 4 e w'
  else NewBE w none 1 e w'
theorem undoOk_iff {n W : Nat} {p : Int} (h : undoOk n W p = true) : 1 ≤ W ∧ W ≤ 1048576 ∧ 1 ≤ p ∧ p ≤ 4 ∧ n = n / (W + 1) * (W + 1) ∧ n / (W + 1) * W ≤ 1048576 := by
  simp only [undoOk, rightI, Bool.and_eq_true, decide_eq_true_eq] at h
  obtain ⟨⟨⟨⟨⟨h1, h2⟩, h3⟩, h4⟩, h5⟩, h6⟩ := h
  have e5 : n % (W + 1) = 0 := by
    have : ((n % (W + 1) : Nat) : Int) = (n : Int) % ((W : Int) + 1) := by rw [Int.natCast_emod]; rfl
    omega
  have := Nat.div_add_mod n (W + 1)
  rw [Nat.mul_comm] at this
  have e6 : ((n / (W + 1) * W : Nat) : Int) ≤ 1048576 := by
    have : ((n / (W + 1) * W : Nat) : Int) = (n : Int) / ((W : Int) + 1) * W := by rw [Int.natCast_mul, Int.natCast_ediv]; rfl
    omega
  omega
theorem Undo_any {x : Value} {xs : List Int} {width p : Int} {w : World} (hx : Nm .u8 w x xs) (hl : xs.length ≤ 1000000000) (hp : p ≤ 9223372036854775807) :
    Calls P n_filter_Undo #[x, .int .i64 width, .int .i64 p] w (UndoE w xs width p) := by
  have bad : undoOk xs.length width p = false → UndoE w xs width p (.returned (.tuple #[.slice none 0 0, .int .i64 1])) w := fun h => by
    unfold UndoE; rw [h]; exact ⟨Ch.refl _ w, rfl⟩
  refine of_filter_Undo ⟨fun w' => undoOk xs.length width p = true ∧ w' = w, gCall_of right_any ?_, ?_⟩
  · rintro _ _ ⟨rfl, rfl⟩
    refine ⟨_, rfl, ?_⟩
    cases hr : rightI width p with
    | false => exact gIf_nnf (bad (by simp [undoOk, hr]))
    | true =>
      have hw : 1 ≤ width ∧ width ≤ 1048576 := by simp [rightI] at hr; omega
      have e1 : i64 (width + 1) = width + 1 := i64_id (by omega) (by omega)
      rw [e1]
      have hd0 : 0 ≤ (xs.length : Int) / (width + 1) := Int.ediv_nonneg (by omega) (by omega)
      have hd1 : (xs.length : Int) / (width + 1) ≤ xs.length := Int.ediv_le_self _ (by omega)
      have hm0 : 0 ≤ (xs.length : Int) / (width + 1) * width := Int.mul_nonneg hd0 (by omega)
      have hm1 : (xs.length : Int) / (width + 1) * width ≤ 1000000000 * 1048576 := Int.mul_le_mul (by omega) hw.2 (by omega) (by omega)
      have e0 : IntKind.wrap .i64 (Int.tdiv (xs.length : Int) (width + 1)) = (xs.length : Int) / (width + 1) := by
        rw [Int.tdiv_eq_ediv_of_nonneg (by omega)]; exact i64_id (by omega) (by omega)
      refine gIf_nn (gLen_nm hx (gBin_rem (by omega) (gIf_nneq (fun h0 => gLen_nm hx (gBin_quo (by omega) (gIf_dec (fun h1 => bad ?_) (fun h1 => ⟨?_, rfl⟩)))) (fun h0 => bad ?_))))
      all_goals rw [Int.tmod_eq_emod_of_nonneg (by omega)] at h0
      · rw [e0, i64_id (by omega) (by omega)] at h1
        simp [undoOk, h1]
      · rw [e0, i64_id (by omega) (by omega)] at h1
        simp [undoOk, hr]; omega
      · simp [undoOk, h0]
  rintro _ _ ⟨hok, rfl⟩
  clear bad
  rename_i w
  obtain ⟨W, rfl⟩ : ∃ W : Nat, width = W := ⟨width.toNat, by simp [undoOk, rightI] at hok; omega⟩
  obtain ⟨hW1, hW2, hp1, hp4, hn, hn2⟩ := undoOk_iff hok
  have fin : ∀ {e : Ending} {w' : World}, (if kindsOk xs W (xs.length / (W + 1)) then NewBE w (some (undoN xs W p (xs.length / (W + 1)))) 0 e w' else NewBE w none 4 e w') → UndoE w xs W p e w' := fun h => by
    unfold UndoE; rw [if_pos hok, Int.toNat_natCast]; exact h
  generalize xs.length / (W + 1) = n at hn hn2 fin
  have eW : i64 ((W : Int) + 1) = ((W + 1 : Nat) : Int) := by rw [i64_id (by omega) (by omega)]; omega
  rw [eW]
  refine ⟨fun xv out up w3 => ∃ i : Nat, i ≤ n ∧ (∀ j, j < i → kindAt xs W j ≤ 4) ∧ Nm .u8 w xv (xs.drop (i * (W + 1))) ∧ ON .u8 eB w3 w.heap.size out (undoN xs W p i) ∧ Nm .u8 w3 up (upU xs W p i) ∧ (∀ g, up.ownBlock = some g → out.ownBlock = some g → False) ∧ Ev w w3,
    fun xv _ _ _ => slenV xv, ⟨0, by omega, by omega, by simpa using hx, ON.nil _ _ _ _, Nm.nil _ _, (fun g h => by cases h), Ch.refl _ w⟩, ?_⟩
  rintro _ xv out up w3 ⟨i, hi, hks, hxv, hO, hup, hne, hw3⟩
  have hiW : i * (W + 1) ≤ n * (W + 1) := Nat.mul_le_mul_right _ hi
  have hdl : (xs.drop (i * (W + 1))).length = n * (W + 1) - i * (W + 1) := by rw [List.length_drop, ← hn]
  refine gLen_nm hxv (gIf_dec (fun hpos => ?_) (fun hend => ?_))
  · have hlt : i < n := by
      rcases Nat.lt_or_ge i n with h | h
      · exact h
      · have : i = n := by omega
        subst this; omega
    have hi1 : (i + 1) * (W + 1) ≤ n * (W + 1) := Nat.mul_le_mul_right _ hlt
    rw [Nat.succ_mul] at hi1
    have hk : rd (xs.drop (i * (W + 1))) 0 = kindAt xs W i := by
      simp only [kindAt, rd, List.getD_eq_getElem?_getD, List.getElem?_drop, Int.toNat_natCast]; rfl
    have hxv3 := hxv.ev hw3
    have hu8 := rd_u8 hxv.2 0
    refine gIdx_nm hxv3 (by omega) (by omega) fun a1 c1 _ => gLoad_i c1 (gIf_dec (fun h5 => ?_) (fun h5 => ?_))
    · rw [hk] at h5
      refine fin ?_
      rw [if_neg (by simp only [kindsOk, decide_eq_true_eq]; intro h; have := h i hlt; omega)]
      exact ⟨hw3, rfl⟩
    · have hrow : Nm .u8 w (subV 1 xv 1 (W + 1)) (rowAt1 xs W i) := by
        have := hxv.sub 1 (W + 1) (by omega) (by omega)
        rwa [List.drop_drop, Nat.add_sub_cancel] at this
      refine ⟨fun w' => Ev w3 w', Ev.drew0 w3, gIdx_nm hxv3 (by omega) (by omega) fun a2 c2 _ => gLoadB_i (fun w' hw' => hw'.cell c2 (fun h => h)) (gSlice_nm hxv 1 (W + 1) (.inr ⟨.i64, rfl⟩) (.inr ⟨.i64, rfl⟩) (by omega) (by omega) fun _ => ?_)⟩
      rw [i64_id (n := rd _ _) (by omega) (by omega), hk]
      have hl1 : (rowAt1 xs W i).length = W := by unfold rowAt1; rw [List.length_take, List.length_drop]; omega
      refine gCall_of (Unrow_any (hrow.ev hw3.drew) hup.drew (by omega) hp) ?_
      rintro _ w4 ⟨r, rfl, h4, hr⟩
      have hw4 : Ev w w4 := Ev.trans hw3.drew h4
      have hul := undoN_len xs W p i
      have hrU : ON .u8 eB w4 w3.heap.size r (undoR xs W p i) := by rw [undoR_up]; rw [hl1] at hr; exact hr
      have hiW2 : i * W ≤ n * W := Nat.mul_le_mul_right _ hi
      refine ⟨r, rfl, (Ev.drew0 w3).trans h4, gApp_on (hO.ev (Ev.drew0 w3 |>.trans h4)) hrU.nm (by rw [hul, undoR_len]; omega) hw4.size fun o1 w5 hO1 hc1 hm1 => gSlice_nm hxv (W + 1) (n * (W + 1) - i * (W + 1)) (.inr ⟨.i64, rfl⟩) (.inl ⟨rfl, hdl.symm⟩) (by omega) (by omega) fun hrest => ?_⟩
      have hw5 : Ev w w5 := hw4.new hc1 fun g _ hg => (hO.base hg).1
      have hro : ∀ g, r.ownBlock = some g → w3.heap.size ≤ g ∧ g < w4.heap.size := fun g hg => hr.base hg
      have hoo : ∀ g, out.ownBlock = some g → g < w3.heap.size := fun g hg => (hO.base hg).2
      refine ⟨⟨i + 1, hlt, ?_, ?_, hO1, ?_, ?_, hw5⟩, ?_⟩
      · intro j hj
        rcases Nat.lt_or_ge j i with h | h
        · exact hks j h
        · have : j = i := by omega
          subst this; rw [← hk]; omega
      · rw [List.drop_drop, List.take_of_length_le (by rw [List.length_drop, ← hn]; omega)] at hrest
        rwa [Nat.succ_mul]
      · exact hrU.nm.ch hc1 fun g _ hg hh => by have := hro g hg; have := hoo g hh; omega
      · intro g hg hh
        have := hro g hg
        rcases hm1 with h | h
        · rw [h] at hh; have := hoo g hh; omega
        · have := h g hh; omega
      · dsimp only
        rw [hrest.slen, hxv.slen, List.length_take, List.length_drop]; omega
  · have : i = n := by
      rcases Nat.lt_or_ge i n with h | h
      · have : (i + 1) * (W + 1) ≤ n * (W + 1) := Nat.mul_le_mul_right _ h
        rw [Nat.succ_mul] at this; omega
      · omega
    subst this
    refine fin ?_
    rw [if_pos (by simp only [kindsOk, decide_eq_true_eq]; exact hks)]
    exact ⟨hw3, out, rfl, hO⟩
end Go.Proofs.YtdhhmmllekkofaaV

/- What is turned is turned back; the law FilterBack. -/
namespace Go.Proofs.YtdhhmmllekkofaaV
open Go Go.RowKit

theorem ofL_take {xs : List Int} {j : Nat} {i : Int} (hi : i < j) (hj : j ≤ xs.length) : ofL (xs.take j) i = ofL xs i := by
  unfold ofL
  by_cases h0 : i < 0
  · rw [if_pos (.inl h0), if_pos (.inl h0)]
  · rw [if_neg (by rw [List.length_take]; omega), if_neg (by omega)]
    unfold rd
    rw [List.getD_eq_getElem?_getD, List.getElem?_take, if_pos (by omega), ← List.getD_eq_getElem?_getD]
theorem take_rd {xs : List Int} {j : Nat} (h : j < xs.length) : xs.take (j + 1) = xs.take j ++ [rd xs j] := by
  rw [List.take_succ_eq_append_getElem h, rd_nat xs j h]
theorem unrow_row {k : Int} {xs us : List Int} {p : Int} (hx : inR .u8 xs) (hp : 1 ≤ p) : ∀ {j : Nat}, j ≤ xs.length → unrowN k (rowN k xs us p xs.length) us p j = xs.take j
  | 0, _ => by simp [unrowN]
  | j + 1, h => by
    rw [unrowN, unrow_row hx hp (show j ≤ xs.length by omega), take_rd (by omega), rowN_rd (by omega), ofL_take (by omega) (by omega)]
    have := rd_u8 hx j
    congr 2
    omega
theorem ofL_unrow {k : Int} {xs us : List Int} {p : Int} {n j : Nat} {i : Int} (hi : i < j) (hj : j ≤ n) : ofL (unrowN k xs us p n) i = ofL (unrowN k xs us p j) i := by
  unfold ofL
  by_cases h0 : i < 0
  · rw [if_pos (.inl h0), if_pos (.inl h0)]
  · rw [if_neg (by rw [unrowN_len]; omega), if_neg (by rw [unrowN_len]; omega)]
    obtain ⟨m, rfl⟩ : ∃ m : Nat, i = m := ⟨i.toNat, by omega⟩
    rw [unrowN_rd (by omega), unrowN_rd (by omega)]
theorem row_unrow {k : Int} {xs us : List Int} {p : Int} (hx : inR .u8 xs) (hp : 1 ≤ p) : ∀ {j : Nat}, j ≤ xs.length → rowN k (unrowN k xs us p xs.length) us p j = xs.take j
  | 0, _ => by simp [rowN]
  | j + 1, h => by
    rw [rowN, row_unrow hx hp (show j ≤ xs.length by omega), take_rd (by omega), unrowN_rd (by omega), ofL_unrow (n := xs.length) (j := j) (by omega) (by omega)]
    have := rd_u8 hx j
    congr 2
    omega
theorem planes_pos (p : Int) : 1 ≤ planesI p := by unfold planesI; split <;> omega
theorem mul_succ_lt {i n W : Nat} (h : i < n) : i * W + W ≤ n * W := by have := Nat.mul_le_mul_right W (show i + 1 ≤ n from h); rwa [Nat.succ_mul] at this
theorem applyN_drop {xs : List Int} {W n : Nat} {p : Int} (h : xs.length = n * W) {i : Nat} (hi : i < n) : ∀ {m}, m ≤ n → i < m →
    ∃ r, (applyN xs W p m).drop (i * (W + 1)) = [bestI (rowAt xs W i) (upAt xs W i) p] ++ rowN (bestI (rowAt xs W i) (upAt xs W i) p) (rowAt xs W i) (upAt xs W i) (planesI p) W ++ r
  | m + 1, hm, him => by
    have hl := applyN_len h (p := p) (show m ≤ n by omega)
    by_cases e : i = m
    · subst e
      refine ⟨[], ?_⟩
      rw [applyN, List.append_assoc, List.drop_append_of_le_length (by omega), List.drop_of_length_le (by omega), rowAt_len h hi]
      simp
    · obtain ⟨r, hr⟩ := applyN_drop h hi (show m ≤ n by omega) (show i < m by omega)
      have : i * (W + 1) + (W + 1) ≤ m * (W + 1) := mul_succ_lt (by omega)
      rw [applyN, List.append_assoc, List.drop_append_of_le_length (by omega), hr, List.append_assoc]
      exact ⟨_, rfl⟩
theorem rd_drop0 (xs : List Int) (a : Nat) : rd (xs.drop a) 0 = rd xs (a : Int) := by
  simp only [rd, List.getD_eq_getElem?_getD, List.getElem?_drop, Int.toNat_natCast]; rfl
theorem rowAt_u8 {xs : List Int} (hx : inR .u8 xs) (W i : Nat) : inR .u8 (rowAt xs W i) := (hx.drop _).take _
theorem undo_applyR {xs : List Int} {W n : Nat} {p : Int} (hx : inR .u8 xs) (h : xs.length = n * W) : ∀ {i}, i < n → kindAt (applyN xs W p n) W i = bestI (rowAt xs W i) (upAt xs W i) p ∧ undoR (applyN xs W p n) W p i = rowAt xs W i := by
  intro i
  induction i with
  | zero =>
    intro hi
    obtain ⟨r, hr⟩ := applyN_drop h hi (p := p) (Nat.le_refl n) hi
    have hk : kindAt (applyN xs W p n) W 0 = bestI (rowAt xs W 0) (upAt xs W 0) p := by
      have := congrArg (fun l => rd l 0) hr
      rw [rd_drop0] at this
      exact this
    have hrow : rowAt1 (applyN xs W p n) W 0 = rowN (bestI (rowAt xs W 0) (upAt xs W 0) p) (rowAt xs W 0) (upAt xs W 0) (planesI p) W := by
      unfold rowAt1; rw [← List.drop_drop, hr]
      simp [rowN_len]
    refine ⟨hk, ?_⟩
    rw [undoR, hk, hrow]
    have := unrow_row (k := bestI (rowAt xs W 0) (upAt xs W 0) p) (us := []) (p := planesI p) (rowAt_u8 hx W 0) (planes_pos p) (Nat.le_refl _)
    rw [rowAt_len h hi] at this
    rw [show upAt xs W 0 = [] from rfl] at this ⊢
    rw [this, List.take_of_length_le (by rw [rowAt_len h hi]; omega)]
  | succ i ih =>
    intro hi
    obtain ⟨r, hr⟩ := applyN_drop h hi (p := p) (Nat.le_refl n) hi
    have hk : kindAt (applyN xs W p n) W (i + 1) = bestI (rowAt xs W (i + 1)) (upAt xs W (i + 1)) p := by
      have := congrArg (fun l => rd l 0) hr
      rw [rd_drop0] at this
      exact this
    have hrow : rowAt1 (applyN xs W p n) W (i + 1) = rowN (bestI (rowAt xs W (i + 1)) (upAt xs W (i + 1)) p) (rowAt xs W (i + 1)) (upAt xs W (i + 1)) (planesI p) W := by
      unfold rowAt1; rw [← List.drop_drop, hr]
      simp [rowN_len]
    refine ⟨hk, ?_⟩
    rw [undoR, hk, hrow, (ih (by omega)).2]
    have := unrow_row (k := bestI (rowAt xs W (i + 1)) (upAt xs W (i + 1)) p) (us := rowAt xs W i) (p := planesI p) (rowAt_u8 hx W (i + 1)) (planes_pos p) (Nat.le_refl _)
    rw [rowAt_len h hi] at this
    rw [show upAt xs W (i + 1) = rowAt xs W i from rfl] at this ⊢
    rw [this, List.take_of_length_le (by rw [rowAt_len h hi]; omega)]
theorem undo_applyN {xs : List Int} {W n : Nat} {p : Int} (hx : inR .u8 xs) (h : xs.length = n * W) : ∀ {m}, m ≤ n → undoN (applyN xs W p n) W p m = xs.take (m * W)
  | 0, _ => by simp [undoN]
  | m + 1, hm => by
    rw [undoN, undo_applyN hx h (show m ≤ n by omega), (undo_applyR hx h (show m < n by omega)).2, Nat.succ_mul, List.take_add]; rfl

end Go.Proofs.YtdhhmmllekkofaaV

/- Package picture: signs of a head. -/
namespace Go.Proofs.YtdhhmmllekkofaaV
open Go Go.RowKit
theorem Nm.chx {k : IntKind} {S : SS} {w w' : World} {v : Value} {xs : List Int} (h : Nm k w v xs) (hc : Ch S w w') (hs : xs ≠ [] → ∀ g i, v.ownBlock = some g → ¬ S g i) : Nm k w' v xs := by
  by_cases hx : xs = []
  · subst hx
    obtain ⟨⟨a, c, rfl, h1, h2, h3, h4⟩, hr⟩ := h
    exact ⟨⟨a, c, rfl, h1, h2, fun ad ha j u hj => by simp at hj, h4⟩, hr⟩
  · exact h.ch hc (hs hx)
theorem beq_dec (a b : Int) : (a == b) = decide (a = b) := by by_cases h : a = b <;> simp [h]
def whiteB (c : Int) : Bool := decide (c = 32 ∨ c = 9 ∨ c = 10 ∨ c = 13)
theorem white_any {c : Int} {w : World} : Calls P n_picture_white #[.int .u8 c] w (fun e w' => e = .returned (.bool (whiteB c)) ∧ w' = w) := by
  refine of_picture_white (gIf_neqq (fun h1 => gIf_neqq (fun h2 => gIf_neqq (fun h3 => ⟨?_, rfl⟩) (fun h3 => ⟨?_, rfl⟩)) (fun h2 => ⟨?_, rfl⟩)) (fun h1 => ⟨?_, rfl⟩)) <;> simp [whiteB, *] <;> exact beq_dec _ _
theorem rblank_any {c : Int} {w : World} : Calls P n_valiseref16_blank #[.int .u8 c] w (fun e w' => e = .returned (.bool (whiteB c)) ∧ w' = w) := by
  refine of_valiseref16_blank (gIf_neqq (fun h1 => gIf_neqq (fun h2 => gIf_neqq (fun h3 => ⟨?_, rfl⟩) (fun h3 => ⟨?_, rfl⟩)) (fun h2 => ⟨?_, rfl⟩)) (fun h1 => ⟨?_, rfl⟩)) <;> simp [whiteB, *] <;> exact beq_dec _ _
def SG (w : World) (ad : Addr) (b : Value) (xs : List Int) (a : Nat) : Prop := St w ad [b, .int .i64 a] ∧ Nm .u8 w b xs ∧ (xs ≠ [] → b.ownBlock ≠ some ad.block) ∧ a ≤ xs.length ∧ xs.length ≤ 1000000000
theorem SG.ev {w w' : World} {ad : Addr} {b : Value} {xs : List Int} {a : Nat} (h : SG w ad b xs a) (he : Ev w w') : SG w' ad b xs a := ⟨h.1.ev he, h.2.1.ev he, h.2.2⟩
def GS (w w' : World) (ad : Addr) (b : Value) (xs : List Int) (a : Nat) : Prop := SG w' ad b xs a ∧ Ch (Rg ad 2) w w'
theorem GS.trans {w w1 w2 : World} {ad : Addr} {b : Value} {xs : List Int} {a a2 : Nat} (h : GS w w1 ad b xs a) (h2 : GS w1 w2 ad b xs a2) : GS w w2 ad b xs a2 := ⟨h2.1, Ch.trans h.2 h2.2 fun _ _ _ h => h⟩
theorem GS.ev {w w1 w2 : World} {ad : Addr} {b : Value} {xs : List Int} {a : Nat} (h : GS w w1 ad b xs a) (he : Ev w1 w2) : GS w w2 ad b xs a := ⟨h.1.ev he, Ch.trans h.2 he fun _ _ _ h => h.elim⟩
theorem GS.pre {w w1 w2 : World} {ad : Addr} {b : Value} {xs : List Int} {a : Nat} (he : Ev w w1) (h : GS w1 w2 ad b xs a) : GS w w2 ad b xs a := ⟨h.1, Ch.trans (he.mono fun _ _ _ h => h.elim) h.2 fun _ _ _ h => h⟩
theorem SG.step {w : World} {ad : Addr} {b : Value} {xs : List Int} {a : Nat} (h : SG w ad b xs a) : GS w w ad b xs a := ⟨h, Ch.refl _ w⟩
theorem SG.set {w w' : World} {ad : Addr} {b : Value} {xs : List Int} {a a2 : Nat} (h : SG w ad b xs a) (hc : Ch (Rg (ad.add 1) 1) w w') (hS : St w' ad ([b, .int .i64 a].set 1 (.int .i64 a2))) (ha : a2 ≤ xs.length) : GS w w' ad b xs a2 := by
  have hc2 : Ch (Rg ad 2) w w' := hc.mono fun n i _ hh => by
    have h1 := hh.1; have h2 := hh.2
    rw [Addr.add_none h.1.1] at h1 h2
    exact ⟨h1, by dsimp only at h2; omega, by dsimp only at h2; omega⟩
  exact ⟨⟨hS, h.2.1.chx hc2 fun hx g i hg hh => h.2.2.1 hx (by rw [hg, hh.1]), h.2.2.1, ha, h.2.2.2.2⟩, hc2⟩
section
variable {ad : Addr} {b : Value} {xs : List Int} {a : Nat} {w : World}
theorem is_any {f : FuncId} {pf : Int → Bool} (hok : callOk P f = true) (hf : ∀ {c : Int} {w : World}, Calls P f #[.int .u8 c] w (fun e w' => e = .returned (.bool (pf c)) ∧ w' = w)) (h : SG w ad b xs a) :
    Calls P n_picture_signs_is #[.pointer (some ad), .func (.func f) #[] #[]] w (fun e w' => e = .returned (.bool (decide (a < xs.length) && pf (rd xs a))) ∧ Ev w w') := by
  refine of_picture_signs_is ⟨fun w' => w' = w.drew, rfl, gNil_some (gLoadB_i (at1 (h.1.cell (j := 1) rfl)) (gNil_some (gLoadB_v (at1 (h.1.cell (j := 0) rfl)) (gLen_nm h.2.1 (gIf_dec (fun hlt => ?_) (fun hge => ⟨?_, Ev.drew0 w⟩))))))⟩
  · refine gNil_some (gLoadB_v (at1 (h.1.cell (j := 0) rfl)) (gNil_some (gLoadB_i (at1 (h.1.cell (j := 1) rfl)) (gIdx_nm h.2.1 (by omega) hlt fun a1 c1 _ => gLoadB_i (at1 c1) (gCallV_of rfl hok hf ?_)))))
    rintro _ _ ⟨rfl, rfl⟩
    refine ⟨_, rfl, rfl, ?_, Ev.drew0 w⟩
    rw [decide_eq_true (show a < xs.length by omega)]; rfl
  · rw [decide_eq_false (show ¬ a < xs.length by omega)]; rfl
def nlL (xs : List Int) : Nat → Nat → Option Nat
  | 0, _ => none
  | f + 1, i => if rd xs i = 10 then some i else nlL xs f (i + 1)
def nlI (xs : List Int) (i : Nat) : Option Nat := nlL xs (xs.length - i) i
theorem nlL_bd {xs : List Int} : ∀ {f i k : Nat}, nlL xs f i = some k → i ≤ k ∧ k < i + f
  | f + 1, i, k, h => by
    rw [nlL] at h; split at h
    · injection h with h; omega
    · have := nlL_bd h; omega
theorem nlI_bd {xs : List Int} {i k : Nat} (h : nlI xs i = some k) (hi : i ≤ xs.length) : i ≤ k ∧ k < xs.length := by have := nlL_bd h; omega
theorem nlI_step {xs : List Int} {i : Nat} (h : i < xs.length) : nlI xs i = if rd xs i = 10 then some i else nlI xs (i + 1) := by
  unfold nlI; rw [show xs.length - i = (xs.length - (i + 1)) + 1 by omega, nlL]
theorem remark_any (h : SG w ad b xs a) : Calls P n_picture_signs_remark #[.pointer (some ad)] w (fun e w' => e = .returned (.bool (nlI xs a).isSome) ∧ GS w w' ad b xs (match nlI xs a with | some i => i + 1 | none => a)) := by
  have hl := h.2.2.2.2
  have ha := h.2.2.2.1
  refine of_picture_signs_remark (gNil_some (gLoad_i (h.1.cell (j := 1) rfl) ⟨fun i w' => ∃ j : Nat, i = j ∧ a ≤ j ∧ j ≤ xs.length ∧ nlI xs j = nlI xs a ∧ w' = w, fun i _ => xs.length - i.toNat, ⟨a, rfl, by omega, ha, rfl, rfl⟩, ?_⟩))
  rintro _ i _ ⟨j, rfl, haj, hj, hn, rfl⟩
  rw [← hn]
  refine gNil_some (gLoad_v (h.1.cell (j := 0) rfl) (gLen_nm h.2.1 (gIf_dec (fun hlt => ?_) (fun hge => ?_))))
  · refine gNil_some (gLoad_v (h.1.cell (j := 0) rfl) (gIdx_nm h.2.1 (by omega) hlt fun a1 c1 _ => gLoad_i c1 (gIf_eq (fun e => ?_) (fun e => ?_))))
    · rw [nlI_step (by omega), if_pos e, i64_id (n := (j : Int) + 1) (by omega) (by omega)]
      exact gNil_some (gStore_st h.1 (j := 1) (by simp) rfl rfl fun w2 h2 _ hS2 => ⟨rfl, h.set (a2 := j + 1) h2 hS2 (by omega)⟩)
    · rw [nlI_step (by omega), if_neg e, i64_id (n := (j : Int) + 1) (by omega) (by omega)]
      exact ⟨⟨j + 1, rfl, by omega, by omega, rfl, rfl⟩, by dsimp only; omega⟩
  · have : nlI xs j = none := by unfold nlI; rw [show xs.length - j = 0 by omega]; rfl
    rw [this]; exact ⟨rfl, h.step⟩
end
end Go.Proofs.YtdhhmmllekkofaaV

/- Package picture: blank and number; the same of valiseref16. -/
namespace Go.Proofs.YtdhhmmllekkofaaV
open Go Go.RowKit
/-- Behind white and remarks; false: a remark has no end. -/
def blankL (xs : List Int) : Nat → Nat → Bool × Nat
  | 0, a => (true, a)
  | f + 1, a =>
    if a < xs.length then
      (if whiteB (rd xs a) then blankL xs f (a + 1)
       else if rd xs a = 35 then (match nlI xs a with | some i => blankL xs f (i + 1) | none => (false, a))
       else (true, a))
    else (true, a)
theorem blankL_bd {xs : List Int} : ∀ {f a : Nat}, a ≤ xs.length → a ≤ (blankL xs f a).2 ∧ (blankL xs f a).2 ≤ xs.length
  | 0, a, h => by simp [blankL]; exact h
  | f + 1, a, h => by
    rw [blankL]
    split
    · split
      · have := blankL_bd (xs := xs) (f := f) (a := a + 1) (by omega); omega
      · split
        · split
          · rename_i i hi
            have h1 := nlI_bd hi h
            have := blankL_bd (xs := xs) (f := f) (a := i + 1) (by omega); omega
          · exact ⟨Nat.le_refl _, h⟩
        · exact ⟨Nat.le_refl _, h⟩
    · exact ⟨Nat.le_refl _, h⟩
def blankI (xs : List Int) (a : Nat) : Bool × Nat := blankL xs (xs.length + 1 - a) a
def atS (w : World) (ad : Addr) : Nat := match w.cell? (ad.add 1) with
  | some (.int _ n) => n.toNat
  | _ => 0
section
variable {ad : Addr} {b : Value} {xs : List Int} {a : Nat} {w : World}
theorem atS_SG (h : SG w ad b xs a) : atS w ad = a := by unfold atS; rw [h.1.cell (j := 1) rfl]; rfl
theorem hash_any {c : Int} {w : World} : Calls P n_picture_signs_blank_1 #[.int .u8 c] w (fun e w' => e = .returned (.bool (c == 35)) ∧ w' = w) := of_picture_signs_blank_1 ⟨rfl, rfl⟩
theorem blank_any (h : SG w ad b xs a) : Calls P n_picture_signs_blank #[.pointer (some ad)] w (fun e w' => e = .returned (.bool ((blankI xs a).1 && decide ((blankI xs a).2 > a))) ∧ GS w w' ad b xs (blankI xs a).2) := by
  have hl := h.2.2.2.2
  have ha := h.2.2.2.1
  refine of_picture_signs_blank (gNil_some (gLoad_i (h.1.cell (j := 1) rfl) ⟨fun w' => ∃ j f : Nat, a ≤ j ∧ xs.length < f + j ∧ blankL xs f j = blankI xs a ∧ GS w w' ad b xs j, fun w' => xs.length - atS w' ad, ⟨a, xs.length + 1 - a, by omega, by omega, rfl, h.step⟩, ?_⟩))
  rintro _ w1 ⟨j, f, haj, hf, hbl, h1⟩
  have hj := h1.1.2.2.2.1
  obtain ⟨f, rfl⟩ : ∃ g, f = g + 1 := ⟨f - 1, by omega⟩
  rw [blankL] at hbl
  refine gCall_b (is_any (pf := whiteB) (by kernel_rfl) white_any h1.1) fun w2 h2 => ?_
  have g2 := h1.ev h2
  by_cases hlt : j < xs.length
  · rw [if_pos hlt] at hbl
    rw [decide_eq_true hlt, Bool.true_and]
    cases hw : whiteB (rd xs j) with
    | true =>
      rw [hw, if_pos rfl] at hbl
      refine gIf_t (gNil_some (gLoad_i (g2.1.1.cell (j := 1) rfl) (gNil_some (gStore_st g2.1.1 (j := 1) (by simp) rfl rfl fun w3 h3 _ hS3 => ?_))))
      rw [i64_id (n := (j : Int) + 1) (by omega) (by omega)] at hS3
      have g3 := g2.1.set (a2 := j + 1) h3 hS3 (by omega)
      exact ⟨⟨j + 1, f, by omega, by omega, hbl, g2.trans g3⟩, by dsimp only; rw [atS_SG g3.1, atS_SG h1.1]; omega⟩
    | false =>
      rw [hw, if_neg (by simp)] at hbl
      refine gIf_f (gCall_b (is_any (pf := fun c => c == 35) (by kernel_rfl) hash_any g2.1) fun w4 h4 => ?_)
      have g4 := g2.ev h4
      rw [decide_eq_true hlt, Bool.true_and]
      refine gIf_eq (fun e35 => ?_) (fun n35 => ?_)
      · rw [if_pos e35] at hbl
        refine gCall_b (remark_any g4.1) fun w5 h5 => ?_
        cases hn : nlI xs j with
        | none =>
          rw [hn] at hbl h5
          refine gIf_t ⟨?_, ?_⟩
          · rw [← hbl]; rfl
          · rw [← hbl]; exact g4.trans h5
        | some i =>
          rw [hn] at hbl h5
          replace h5 : GS w4 w5 ad b xs (i + 1) := h5
          have := nlI_bd hn hj
          exact gIf_f ⟨⟨i + 1, f, by omega, by omega, hbl, g4.trans h5⟩, by dsimp only; rw [atS_SG h5.1, atS_SG h1.1]; omega⟩
      · rw [if_neg n35] at hbl
        refine gNil_some (gLoad_i (g4.1.1.cell (j := 1) rfl) ?_)
        rw [← hbl]
        exact ⟨by simp, g4⟩
  · rw [if_neg hlt] at hbl
    rw [decide_eq_false hlt, Bool.false_and]
    refine gIf_f (gCall_b (is_any (pf := fun c => c == 35) (by kernel_rfl) hash_any g2.1) fun w4 h4 => ?_)
    have g4 := g2.ev h4
    rw [decide_eq_false hlt, Bool.false_and]
    refine gIf_f (gNil_some (gLoad_i (g4.1.1.cell (j := 1) rfl) ?_))
    rw [← hbl]
    exact ⟨by simp, g4⟩
end
end Go.Proofs.YtdhhmmllekkofaaV

/- Package picture: number; the same of valiseref16; white of valiseref16. -/
namespace Go.Proofs.YtdhhmmllekkofaaV
open Go Go.RowKit
def digB (c : Int) : Bool := decide (c ≥ 48) && decide (c ≤ 57)
/-- How many digits stand from a on, at most so many; and the number. -/
def runL (xs : List Int) : Nat → Nat → Int → Nat × Int
  | 0, _, v => (0, v)
  | f + 1, a, v => if a < xs.length ∧ digB (rd xs a) = true then ((runL xs f (a + 1) (10 * v + (rd xs a - 48))).1 + 1, (runL xs f (a + 1) (10 * v + (rd xs a - 48))).2) else (0, v)
theorem runL_bd {xs : List Int} : ∀ {f a : Nat} {v : Int}, a ≤ xs.length → (runL xs f a v).1 ≤ f ∧ a + (runL xs f a v).1 ≤ xs.length
  | 0, a, v, h => by simp [runL]; exact h
  | f + 1, a, v, h => by
    rw [runL]; split
    · have := runL_bd (xs := xs) (f := f) (a := a + 1) (v := 10 * v + (rd xs a - 48)) (by omega)
      dsimp only; omega
    · exact ⟨Nat.zero_le _, h⟩
theorem digB_iff {c : Int} : digB c = true ↔ 48 ≤ c ∧ c ≤ 57 := by simp [digB]
theorem runL_rng {xs : List Int} : ∀ {f a : Nat} {v m : Int}, 0 ≤ v → v < m → 0 ≤ (runL xs f a v).2 ∧ (runL xs f a v).2 < m * ((10 ^ f : Nat) : Int)
  | 0, a, v, m, h0, h1 => by simp [runL]; omega
  | f + 1, a, v, m, h0, h1 => by
    have e : m * ((10 ^ (f + 1) : Nat) : Int) = (m * 10) * ((10 ^ f : Nat) : Int) := by rw [Nat.pow_succ, Int.natCast_mul, Int.mul_assoc, Int.mul_comm ((10 ^ f : Nat) : Int)]; rfl
    rw [runL]; split
    · rename_i h
      have hd := digB_iff.1 h.2
      have := runL_rng (xs := xs) (f := f) (a := a + 1) (v := 10 * v + (rd xs a - 48)) (m := m * 10) (by omega) (by omega)
      rw [e]; exact this
    · refine ⟨h0, ?_⟩
      have h10 : (1 : Int) ≤ ((10 ^ (f + 1) : Nat) : Int) := by have := Nat.pow_pos (n := f + 1) (show 0 < 10 by decide); omega
      have : m * 1 ≤ m * ((10 ^ (f + 1) : Nat) : Int) := Int.mul_le_mul_of_nonneg_left h10 (by omega)
      dsimp only; omega
def numPI (xs : List Int) (a : Nat) (most : Int) : Int × Nat :=
  if (runL xs 6 a 0).1 ≥ 6 then (0, a + 5) else if (runL xs 6 a 0).2 > most then (0, a + (runL xs 6 a 0).1) else ((runL xs 6 a 0).2, a + (runL xs 6 a 0).1)
section
variable {ad : Addr} {b : Value} {xs : List Int} {a : Nat} {w : World}
theorem dig_any {c : Int} {w : World} : Calls P n_picture_signs_number_1 #[.int .u8 c] w (fun e w' => e = .returned (.bool (digB c)) ∧ w' = w) := by
  refine of_picture_signs_number_1 (gIf_dec (fun h => ⟨?_, rfl⟩) (fun h => ⟨?_, rfl⟩)) <;> simp [digB, h]
theorem number_any {most : Int} (h : SG w ad b xs a) : Calls P n_picture_signs_number #[.pointer (some ad), .int .i64 most] w (fun e w' => e = .returned (.int .i64 (numPI xs a most).1) ∧ GS w w' ad b xs (numPI xs a most).2) := by
  have hl := h.2.2.2.2
  have ha := h.2.2.2.1
  refine of_picture_signs_number (gNil_some (gLoadB_i (at1 (h.1.cell (j := 1) rfl)) ⟨fun n w' => ∃ k : Nat, k ≤ 5 ∧ 0 ≤ n ∧ n < 100000 ∧ a + k ≤ xs.length ∧ runL xs 6 a 0 = (k + (runL xs (6 - k) (a + k) n).1, (runL xs (6 - k) (a + k) n).2) ∧ n < ((10 ^ k : Nat) : Int) ∧ GS w w' ad b xs (a + k), fun _ w' => xs.length - atS w' ad, ⟨0, by omega, by omega, by omega, by omega, by simp, by decide, (h.step).ev (Ev.drew0 w)⟩, ?_⟩))
  rintro _ n w1 ⟨k, hk, hn0, hn1, hak, hr, hnk, h1⟩
  refine gCall_b (is_any (pf := digB) (by kernel_rfl) dig_any h1.1) fun w2 h2 => ?_
  have g2 := h1.ev h2
  generalize hR0 : runL xs 6 a 0 = r0 at hr
  rw [show 6 - k = (5 - k) + 1 by omega, runL] at hr
  by_cases hc : a + k < xs.length ∧ digB (rd xs ((a + k : Nat) : Int)) = true
  · rw [if_pos hc] at hr
    dsimp only at hr
    rw [decide_eq_true hc.1, hc.2]
    have hd := digB_iff.1 hc.2
    refine gIf_t (gNil_some (gLoad_i (g2.1.1.cell (j := 1) rfl) ?_))
    rw [i64_id (n := ((a + k : Nat) : Int) - a) (by omega) (by omega)]
    refine gIf_dec (fun h5 => ?_) (fun h5 => ?_)
    · have : k = 5 := by omega
      subst this
      unfold numPI
      rw [hR0, hr, if_pos (by dsimp only; omega)]
      exact ⟨rfl, g2⟩
    · refine gNil_some (gLoadB_v (at1 (g2.1.1.cell (j := 0) rfl)) (gNil_some (gLoadB_i (at1 (g2.1.1.cell (j := 1) rfl)) (gIdx_nm g2.1.2.1 (by omega) (by omega) fun a1 c1 _ => gLoadB_i (at1 c1) (gNil_some (gLoad_i ((g2.1.ev (Ev.drew0 _)).1.cell (j := 1) rfl) (gNil_some (gStore_st (g2.1.ev (Ev.drew0 _)).1 (j := 1) (by simp) rfl rfl fun w3 h3 _ hS3 => ?_))))))))
      have hp : ((10 ^ (k + 1) : Nat) : Int) = ((10 ^ k : Nat) : Int) * 10 := by rw [Nat.pow_succ, Int.natCast_mul]; rfl
      have hq : ((10 ^ k : Nat) : Int) ≤ ((10000 : Nat) : Int) := Int.ofNat_le.2 (Nat.le_trans (Nat.pow_le_pow_right (by decide) (show k ≤ 4 by omega)) (by decide))
      rw [u8_id (n := rd xs ((a + k : Nat) : Int) - 48) (by omega) (by omega), i64_id (n := rd xs ((a + k : Nat) : Int) - 48) (by omega) (by omega), i64_id (n := 10 * n) (by omega) (by omega), i64_id (n := 10 * n + _) (by omega) (by omega)]
      rw [show i64 (((a + k : Nat) : Int) + 1) = ((a + (k + 1) : Nat) : Int) by rw [i64_id (by omega) (by omega)]; omega] at hS3
      have g3 := (g2.1.ev (Ev.drew0 w2)).set (a2 := a + (k + 1)) h3 hS3 (by omega)
      refine ⟨⟨k + 1, by omega, by omega, by omega, by omega, ?_, by rw [hp]; omega, (g2.ev (Ev.drew0 w2)).trans g3⟩, by dsimp only; rw [atS_SG g3.1, atS_SG h1.1]; omega⟩
      rw [hr, show 6 - (k + 1) = 5 - k by omega, show a + (k + 1) = a + k + 1 by omega]
      congr 1; omega
  · rw [if_neg hc] at hr
    have hf : (decide (a + k < xs.length) && digB (rd xs ((a + k : Nat) : Int))) = false := by
      rw [Bool.eq_false_iff]; intro hh; rw [Bool.and_eq_true, decide_eq_true_eq] at hh; exact hc hh
    rw [hf]
    unfold numPI
    rw [hR0, hr]
    dsimp only
    rw [if_neg (by omega)]
    refine gIf_f (gIf_dec (fun hg => ?_) (fun hg => ?_))
    · rw [if_pos hg]; exact ⟨rfl, by simpa using g2⟩
    · rw [if_neg hg]; exact ⟨rfl, by simpa using g2⟩
end
end Go.Proofs.YtdhhmmllekkofaaV

/- Package picture: Pnm, the plain part. -/
namespace Go.Proofs.YtdhhmmllekkofaaV
open Go Go.RowKit
structure Pc where
  wd : Int
  ht : Int
  pl : Int
  st : Int
  fr : Int
deriving DecidableEq
def Pc.c (p : Pc) : List Value := [.int .i64 p.wd, .int .i64 p.ht, .int .i64 p.pl, .int .i64 p.st, .int .i64 p.fr]
def Pc.z : Pc := ⟨0, 0, 0, 0, 0⟩
def no : Pc × Bool := (Pc.z, false)
def rightP (p : Pc) (n : Int) : Pc × Bool := if p.fr + p.st * p.ht > n then no else (p, true)
def fitsP (p : Pc) (n : Int) : Bool := decide (1 ≤ p.wd ∧ p.wd ≤ 32768 ∧ 1 ≤ p.ht ∧ p.ht ≤ 32768 ∧ p.fr ≤ n ∧ p.st * p.ht ≤ n - p.fr)
def tokP (xs : List Int) (most : Int) (a : Nat) : Option (Int × Nat) :=
  if (blankI xs a).1 = true ∧ (blankI xs a).2 > a ∧ (numPI xs (blankI xs a).2 most).1 ≠ 0 then some (numPI xs (blankI xs a).2 most) else none
def whiteR (xs : List Int) (a : Nat) : Int := if (blankI xs a).1 = true ∧ (blankI xs a).2 < xs.length ∧ (blankI xs a).2 > a then ((blankI xs a).2 : Int) else -1
def numRR (xs : List Int) (a : Nat) : Int × Int := if (runL xs 6 a 0).1 < 1 ∨ (runL xs 6 a 0).1 > 5 then (-1, -1) else ((runL xs 6 a 0).2, ((a + (runL xs 6 a 0).1 : Nat) : Int))
def tokR (xs : List Int) (a : Nat) : Option (Int × Nat) :=
  if whiteR xs a < 0 then none else if (numRR xs (blankI xs a).2).2 < 0 then none else some ((numRR xs (blankI xs a).2).1, (numRR xs (blankI xs a).2).2.toNat)
theorem runL_nn {xs : List Int} : ∀ {f a : Nat} {v : Int}, 0 ≤ v → 0 ≤ (runL xs f a v).2
  | 0, _, _, h => h
  | f + 1, a, v, h => by
    rw [runL]; split
    · rename_i hh
      have hd := digB_iff.1 hh.2
      exact runL_nn (f := f) (a := a + 1) (by omega)
    · exact h
theorem runL_0 {xs : List Int} {f a : Nat} {v : Int} (h : (runL xs f a v).1 < 1) : (runL xs f a v).2 = v := by
  cases f with
  | zero => rfl
  | succ f =>
    rw [runL] at h ⊢; split
    · rename_i hh; rw [if_pos hh] at h; dsimp only at h; omega
    · rfl
theorem tok_iff {xs : List Int} {most : Int} {a b : Nat} {v : Int} : tokP xs most a = some (v, b) ↔ tokR xs a = some (v, b) ∧ 1 ≤ v ∧ v ≤ most := by
  have hn := runL_nn (xs := xs) (f := 6) (a := (blankI xs a).2) (v := 0) (by omega)
  by_cases h0 : (blankI xs a).1 = true ∧ (blankI xs a).2 > a
  · by_cases h1 : (blankI xs a).2 < xs.length
    · have hw : whiteR xs a = ((blankI xs a).2 : Int) := by unfold whiteR; rw [if_pos ⟨h0.1, h1, h0.2⟩]
      unfold tokP tokR
      rw [hw, if_neg (show ¬ (((blankI xs a).2 : Int) < 0) by omega)]
      unfold numPI numRR
      have hz := runL_0 (xs := xs) (f := 6) (a := (blankI xs a).2) (v := 0)
      generalize runL xs 6 (blankI xs a).2 0 = r at *
      generalize (blankI xs a).2 = k at *
      obtain ⟨r1, r2⟩ := r
      dsimp only at *
      by_cases c1 : r1 ≥ 6
      · rw [if_pos c1, if_pos (show r1 < 1 ∨ r1 > 5 by omega), if_neg (by simp), if_pos (by simp)]; simp
      · rw [if_neg c1]
        by_cases c0 : r1 < 1
        · have hr2 : r2 = 0 := hz c0
          subst hr2
          rw [if_pos (Or.inl c0), if_pos (show (-1 : Int) < 0 by omega), if_neg (by split <;> simp)]
          simp
        · rw [if_neg (show ¬ (r1 < 1 ∨ r1 > 5) by omega)]
          dsimp only
          rw [if_neg (show ¬ (((k + r1 : Nat) : Int) < 0) by omega), Int.toNat_natCast]
          by_cases c2 : r2 > most
          · rw [if_pos c2, if_neg (by simp)]
            constructor
            · intro h; cases h
            · rintro ⟨h, _, h3⟩
              simp only [Option.some.injEq, Prod.mk.injEq] at h
              omega
          · rw [if_neg c2]
            by_cases c3 : r2 = 0
            · rw [if_neg (by simp [c3])]
              constructor
              · intro h; cases h
              · rintro ⟨h, h2, _⟩
                simp only [Option.some.injEq, Prod.mk.injEq] at h
                omega
            · rw [if_pos ⟨h0.1, h0.2, c3⟩]
              simp only [Option.some.injEq, Prod.mk.injEq]
              constructor
              · rintro ⟨h1, h2⟩; subst h1; exact ⟨⟨rfl, h2⟩, by omega, by omega⟩
              · rintro ⟨h, _⟩; exact h
    · have hw : whiteR xs a = -1 := by unfold whiteR; rw [if_neg (by omega)]
      have hr : runL xs 6 (blankI xs a).2 0 = (0, 0) := by rw [runL, if_neg (by omega)]
      have hp : (numPI xs (blankI xs a).2 most).1 = 0 := by unfold numPI; rw [hr]; dsimp only; split; rfl; split <;> rfl
      unfold tokP tokR
      rw [hw, if_neg (by rw [hp]; simp), if_pos (by omega)]; simp
  · have hw : whiteR xs a = -1 := by unfold whiteR; rw [if_neg (fun h => h0 ⟨h.1, h.2.2⟩)]
    unfold tokP tokR
    rw [hw, if_neg (fun h => h0 ⟨h.1, h.2.1⟩), if_pos (by omega)]; simp
/-- Token by token. -/
def toks (tk : Nat → Nat → Option (Int × Nat)) : Nat → Option (List Int × Nat)
  | 0 => some ([], 2)
  | j + 1 => (toks tk j).bind fun p => (tk j p.2).map fun q => (p.1 ++ [q.1], q.2)
theorem toks_len {tk : Nat → Nat → Option (Int × Nat)} : ∀ {j : Nat} {l : List Int} {a : Nat}, toks tk j = some (l, a) → l.length = j
  | 0, l, a, h => by simp [toks] at h; rw [h.1]; rfl
  | j + 1, l, a, h => by
    simp only [toks, Option.bind_eq_some_iff, Option.map_eq_some_iff, Prod.mk.injEq] at h
    obtain ⟨p, h1, q, h2, rfl, rfl⟩ := h
    have := toks_len (tk := tk) (j := j) (l := p.1) (a := p.2) h1
    simp [this]
theorem toks_up {tk : Nat → Nat → Option (Int × Nat)} {j : Nat} (h : toks tk j = none) : ∀ k, toks tk (j + k) = none
  | 0 => h
  | k + 1 => by rw [← Nat.add_assoc, toks, toks_up h k]; rfl
def moP (j : Nat) : Int := if j < 2 then 32768 else 255
def tkP (xs : List Int) (j a : Nat) : Option (Int × Nat) := tokP xs (moP j) a
def tkR (xs : List Int) (_ a : Nat) : Option (Int × Nat) := tokR xs a
theorem toks_iff {xs : List Int} : ∀ {j : Nat} {l : List Int} {a : Nat}, toks (tkP xs) j = some (l, a) ↔ toks (tkR xs) j = some (l, a) ∧ ∀ i, i < j → 1 ≤ l.getD i 0 ∧ l.getD i 0 ≤ moP i
  | 0, l, a => by simp [toks]
  | j + 1, l, a => by
    simp only [toks, Option.bind_eq_some_iff, Option.map_eq_some_iff, Prod.mk.injEq]
    constructor
    · rintro ⟨⟨l1, a1⟩, h1, ⟨v, b⟩, h2, rfl, rfl⟩
      obtain ⟨k1, k2⟩ := toks_iff.1 h1
      have hl := toks_len h1
      obtain ⟨m1, m2, m3⟩ := tok_iff.1 h2
      refine ⟨⟨(l1, a1), k1, (v, b), m1, rfl, rfl⟩, fun i hi => ?_⟩
      dsimp only at *
      by_cases e : i < j
      · rw [getD_app_l (by omega)]; exact k2 i e
      · obtain rfl : i = j := by omega
        rw [getD_app_r (by omega), hl, Nat.sub_self]
        exact ⟨m2, m3⟩
    · rintro ⟨⟨⟨l1, a1⟩, h1, ⟨v, b⟩, h2, rfl, rfl⟩, h3⟩
      have hl := toks_len h1
      dsimp only at *
      refine ⟨(l1, a1), toks_iff.2 ⟨h1, fun i hi => ?_⟩, (v, b), tok_iff.2 ⟨h2, ?_⟩, rfl, rfl⟩
      · have := h3 i (by omega)
        rwa [getD_app_l (by omega)] at this
      · have := h3 j (by omega)
        rw [getD_app_r (by omega), hl, Nat.sub_self] at this
        exact this
def hdP (xs : List Int) : Bool := decide (2 ≤ xs.length ∧ rd xs 0 = 80 ∧ (rd xs 1 = 53 ∨ rd xs 1 = 54))
def plP (xs : List Int) : Int := if rd xs 1 = 54 then 3 else 1
def pcP (xs : List Int) (l : List Int) (a : Nat) : Pc := ⟨l.getD 0 0, l.getD 1 0, plP xs, l.getD 0 0 * plP xs, ((a + 1 : Nat) : Int)⟩
def endP (xs : List Int) (l : List Int) (a : Nat) : Pc × Bool := if a < xs.length ∧ whiteB (rd xs a) = true then rightP (pcP xs l a) xs.length else no
def endPR (xs : List Int) (l : List Int) (a : Nat) : Pc × Bool := if a < xs.length ∧ whiteB (rd xs a) = true ∧ 1 ≤ l.getD 2 0 ∧ l.getD 2 0 ≤ 255 then (if fitsP (pcP xs l a) xs.length then (pcP xs l a, true) else no) else no
def pnmP (xs : List Int) : Pc × Bool := if hdP xs = true then (match toks (tkP xs) 3 with | some (l, a) => endP xs l a | none => no) else no
def pnmR (xs : List Int) : Pc × Bool := if hdP xs = true then (match toks (tkR xs) 3 with | some (l, a) => endPR xs l a | none => no) else no
theorem plP_rng (xs : List Int) : plP xs = 1 ∨ plP xs = 3 := by unfold plP; split <;> simp
theorem fits_right {p : Pc} {n : Int} (h1 : 1 ≤ p.wd ∧ p.wd ≤ 32768) (h2 : 1 ≤ p.ht ∧ p.ht ≤ 32768) (h3 : 0 ≤ p.st) : (if fitsP p n then (p, true) else no) = rightP p n := by
  have : 0 ≤ p.st * p.ht := Int.mul_nonneg h3 (by omega)
  unfold fitsP rightP
  by_cases c : p.fr + p.st * p.ht > n
  · rw [if_pos c, if_neg]; simp only [decide_eq_true_eq]; omega
  · rw [if_neg c, if_pos]; simp only [decide_eq_true_eq]; omega
theorem pnm_eq (xs : List Int) : pnmR xs = pnmP xs := by
  unfold pnmR pnmP
  split
  · cases hr : toks (tkR xs) 3 with
    | none =>
      cases hp : toks (tkP xs) 3 with
      | none => rfl
      | some q => obtain ⟨l, a⟩ := q; have := (toks_iff.1 hp).1; rw [hr] at this; cases this
    | some q =>
      obtain ⟨l, a⟩ := q
      by_cases hb : ∀ i, i < 3 → 1 ≤ l.getD i 0 ∧ l.getD i 0 ≤ moP i
      · rw [toks_iff.2 ⟨hr, hb⟩]
        have b0 := hb 0 (by omega)
        have b1 := hb 1 (by omega)
        have b2 := hb 2 (by omega)
        unfold moP at b0 b1 b2
        simp only [show (0 : Nat) < 2 by omega, show (1 : Nat) < 2 by omega, show ¬ ((2 : Nat) < 2) by omega, if_true, if_false] at b0 b1 b2
        show endPR xs l a = endP xs l a
        unfold endPR endP
        by_cases c : a < xs.length ∧ whiteB (rd xs a) = true
        · rw [if_pos ⟨c.1, c.2, b2⟩, if_pos c]
          refine fits_right b0 b1 ?_
          show 0 ≤ l.getD 0 0 * plP xs
          rcases plP_rng xs with e | e <;> rw [e] <;> omega
        · rw [if_neg (fun h => c ⟨h.1, h.2.1⟩), if_neg c]
      · have hp : toks (tkP xs) 3 = none := by
          cases hp : toks (tkP xs) 3 with
          | none => rfl
          | some q =>
            obtain ⟨l2, a2⟩ := q
            obtain ⟨k1, k2⟩ := toks_iff.1 hp
            rw [hr] at k1
            injection k1 with k1; injection k1 with k1 _; subst k1
            exact absurd k2 hb
        rw [hp]
        show endPR xs l a = no
        unfold endPR
        split
        · rename_i c
          rw [if_neg]
          intro hf
          unfold fitsP at hf
          have hf := of_decide_eq_true hf
          unfold pcP at hf
          dsimp only at hf
          refine hb fun i hi => ?_
          have : i = 0 ∨ i = 1 ∨ i = 2 := by omega
          unfold moP
          rcases this with rfl | rfl | rfl
          · exact ⟨hf.1, hf.2.1⟩
          · exact ⟨hf.2.2.1, hf.2.2.2.1⟩
          · exact c.2.2
        · rfl
  · rfl
end Go.Proofs.YtdhhmmllekkofaaV
