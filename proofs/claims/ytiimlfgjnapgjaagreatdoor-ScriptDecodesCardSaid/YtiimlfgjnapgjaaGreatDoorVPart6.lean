import Derived.Laws.StructEq
import Derived.Lib.AppendStr
import Derived.Lib.SlBytesConst
import Derived.Laws.Concat
import Derived.Laws.IdiomCopy
import Derived.Laws.Externs
import Derived.Test.YtiimlfgjnapgjaaGreatDoorVPart5
set_option linter.unusedVariables false
set_option linter.unusedSimpArgs false
/- Package num: Text, Zig, Little, Big; folding. -/
namespace Go.Proofs.YtiimlfgjnapgjaaGreatDoorV
open Go Go.RowKit

theorem xor_zero {k : IntKind} (a : Int) (h : k.wrap a = a) (h0 : 0 ≤ a) (ha : a < 2 ^ k.bits) : iXor k a 0 = a := by
  obtain ⟨a, rfl⟩ := Int.eq_ofNat_of_zero_le h0
  unfold iXor
  have h1 : BitVec.ofInt k.bits 0 = 0#k.bits := rfl
  rw [h1, BitVec.xor_zero, ofInt_nat, BitVec.toNat_ofNat, Nat.mod_eq_of_lt (by exact_mod_cast ha), h]
theorem numB_len64 {n : Nat} (h : n < 18446744073709551616) : (numB n).length ≤ 10 := numB_len 9 n (by rw [show (128 : Nat) ^ (9 + 1) = 1180591620717411303424 by decide]; omega)
theorem Text_any {ad : Addr} {v b : Value} {xs ys : List Int} {w : World} (h : W1 w ad v xs) (hb : Stab (Ft ad v) w fun w' => Nm .u8 w' b ys) (hl : xs.length + ys.length + 10 ≤ 10000000000) :
    Calls P n_num_Writer_Text #[.pointer (some ad), b] w (fun e w' => e = .returned (.tuple #[]) ∧ ∃ v', WS w w' ad v v' (xs ++ numB ys.length ++ ys)) := by
  refine of_num_Writer_Text (gLen_nm hb.now ?_)
  rw [show u64 (ys.length : Int) = ys.length by rw [u64_def]; omega]
  refine gCall_u (Num_any h (by omega) (by omega)) fun w1 ⟨v1, hW⟩ => ?_
  have := numB_len64 (n := ys.length) (by omega)
  rw [Int.toNat_natCast] at hW
  refine raw1_any hW.1 (fun w2 h2 => hb w2 (Ch.trans hW.2.1 h2 fun n i hn hf => ?_)) (by rw [List.length_append]; omega) fun v2 w2 hW2 => ⟨rfl, v2, hW.trans hW2⟩
  rcases hf with hf | hf
  · exact .inl hf
  · rcases hW.2.2 with hm | hm
    · exact .inr (hm ▸ hf)
    · have := hm n hf; omega
def clN (n : Int) : Nat := (if 8 < n then 8 else n).toNat
theorem clN_le (n : Int) : clN n ≤ 8 := by unfold clN; split <;> omega
theorem cl1 (n : Int) : (if 0 > (if 8 < n then 8 else n) then 0 else (if 8 < n then 8 else n)) = (clN n : Int) := by unfold clN; split <;> split <;> omega
def byteAt (v : Int) (k : Nat) : Int := v / ((2 ^ (8 * k) : Nat) : Int) % 256
def littleB (v : Int) : Nat → List Int
  | 0 => []
  | k + 1 => littleB v k ++ [byteAt v k]
theorem littleB_len (v : Int) : ∀ k, (littleB v k).length = k
  | 0 => rfl
  | k + 1 => by simp [littleB, littleB_len v k]
theorem byteAt_rng (v : Int) (k : Nat) : 0 ≤ byteAt v k ∧ byteAt v k < 256 := by unfold byteAt; omega
theorem shr8 {v : Int} {j : Nat} (hv : 0 ≤ v) (hj : j ≤ 8) : u8 (iShr .u64 v (i64 (8 * (j : Int)))) = byteAt v j := by
  rw [show i64 (8 * (j : Int)) = ((8 * j : Nat) : Int) by rw [i64_id (by omega) (by omega)]; omega, iShr_div (by have : IntKind.u64.bits = 64 := rfl; omega) hv, u8_def]; rfl
theorem Little_any {ad : Addr} {v : Value} {xs : List Int} {z n : Int} {w : World} (h : W1 w ad v xs) (hz : 0 ≤ z ∧ z < 18446744073709551616) (hl : xs.length + 10 ≤ 10000000000) :
    Calls P n_num_Writer_Little #[.pointer (some ad), .int .u64 z, .int .i64 n] w (fun e w' => e = .returned (.tuple #[]) ∧ ∃ v', WS w w' ad v v' (xs ++ littleB z (clN n))) := by
  refine of_num_Writer_Little ?_
  rw [cl1]
  have := clN_le n
  refine ⟨fun i w1 => ∃ (j : Nat) (v' : Value), i = j ∧ j ≤ clN n ∧ WS w w1 ad v v' (xs ++ littleB z j), fun i _ => clN n - i.toNat, ⟨0, v, rfl, by omega, by simpa [littleB] using h.step⟩, ?_⟩
  rintro _ i w1 ⟨j, v', rfl, hj, hW⟩
  refine gIf_dec (fun hlt => gBin_shr (by rw [i64_id (by omega) (by omega)]; omega) ?_) (fun hge => ⟨rfl, v', ?_⟩)
  · rw [shr8 hz.1 (by omega), i64_id (n := (j : Int) + 1) (by omega) (by omega)]
    refine rawb_any hW.1 (byteAt_rng _ _) (by rw [List.length_append, littleB_len]; omega) fun v2 w2 hW2 => ⟨⟨j + 1, v2, by omega, by omega, ?_⟩, by dsimp only; omega⟩
    rw [littleB, ← List.append_assoc]; exact hW.trans hW2
  · rw [show clN n = j by omega]; exact hW
/-! ### A nil writer -/
end Go.Proofs.YtiimlfgjnapgjaaGreatDoorV

/- Package num: the reader. -/
namespace Go.Proofs.YtiimlfgjnapgjaaGreatDoorV
open Go Go.RowKit

def Rd (w : World) (ad : Addr) (b : Value) (xs : List Int) (a : Nat) (er : Int) : Prop := St w ad [b, .int .i64 a, .int .i64 er] ∧ Nm .u8 w b xs ∧ b.ownBlock ≠ some ad.block ∧ a ≤ xs.length ∧ xs.length ≤ 10000000000
theorem Rd.ev {w w' : World} {ad : Addr} {b : Value} {xs : List Int} {a : Nat} {er : Int} (h : Rd w ad b xs a er) (he : Ev w w') : Rd w' ad b xs a er := ⟨h.1.ev he, h.2.1.ev he, h.2.2⟩
theorem Rd.ch {S : SS} {w w' : World} {ad : Addr} {b : Value} {xs : List Int} {a : Nat} {er : Int} (h : Rd w ad b xs a er) (hc : Ch S w w') (hs : ∀ k i, (k = ad.block ∨ b.ownBlock = some k) → ¬ S k i) : Rd w' ad b xs a er :=
  ⟨h.1.ch hc fun _ _ => hs _ _ (.inl rfl), h.2.1.ch hc fun g i hg => hs g i (.inr hg), h.2.2⟩
theorem Rd.drew {w : World} {ad : Addr} {b : Value} {xs : List Int} {a : Nat} {er : Int} (h : Rd w ad b xs a er) : Rd w.drew ad b xs a er := h
/-- A reader's step. -/
def RS (w w' : World) (ad : Addr) (b : Value) (xs : List Int) (a : Nat) (er : Int) : Prop := Rd w' ad b xs a er ∧ Ch (Rg ad 3) w w'
theorem RS.trans {w w1 w2 : World} {ad : Addr} {b : Value} {xs : List Int} {a a2 : Nat} {er er2 : Int} (h : RS w w1 ad b xs a er) (h2 : RS w1 w2 ad b xs a2 er2) : RS w w2 ad b xs a2 er2 :=
  ⟨h2.1, Ch.trans h.2 h2.2 fun _ _ _ h => h⟩
theorem RS.ev {w w1 w2 : World} {ad : Addr} {b : Value} {xs : List Int} {a : Nat} {er : Int} (h : RS w w1 ad b xs a er) (he : Ev w1 w2) : RS w w2 ad b xs a er :=
  ⟨h.1.ev he, Ch.trans h.2 he fun _ _ _ h => h.elim⟩
theorem Rd.step {w : World} {ad : Addr} {b : Value} {xs : List Int} {a : Nat} {er : Int} (h : Rd w ad b xs a er) : RS w w ad b xs a er := ⟨h, Ch.refl _ w⟩
/-- A store into its place or its fault. -/
theorem Rd.set {w w' : World} {ad : Addr} {b : Value} {xs : List Int} {a : Nat} {er : Int} (h : Rd w ad b xs a er) {j : Nat} {u : Value} {a2 : Nat} {er2 : Int} (hj : j < 3) (hc : Ch (Rg (ad.add j) 1) w w')
    (hS : St w' ad ([b, .int .i64 a, .int .i64 er].set j u)) (he : ([b, .int .i64 a, .int .i64 er] : List Value).set j u = [b, .int .i64 a2, .int .i64 er2]) (ha : a2 ≤ xs.length) : RS w w' ad b xs a2 er2 := by
  have hc3 : Ch (Rg ad 3) w w' := hc.mono fun n i _ hh => by
    have h1 := hh.1; have h2 := hh.2
    rw [Addr.add_none h.1.1] at h1 h2
    exact ⟨h1, by dsimp only at h2; omega, by dsimp only at h2; omega⟩
  exact ⟨⟨he ▸ hS, h.2.1.ch hc3 fun g i hg hh => h.2.2.1 (by rw [hg, hh.1]), h.2.2.1, ha, h.2.2.2.2⟩, hc3⟩
def lookL (xs : List Int) (a : Nat) : Nat → Nat → Int → Int × Int × Int
  | 0, _, _ => (0, 0, 4)
  | f + 1, n, v =>
    if xs.length ≤ a + n then (0, 0, 3)
    else if n = 9 ∧ rd xs ((a + n : Nat) : Int) > 1 then (0, 0, 4)
    else if rd xs ((a + n : Nat) : Int) < 128 then
      (if rd xs ((a + n : Nat) : Int) = 0 ∧ n > 0 then (0, 0, 4) else (v + rd xs ((a + n : Nat) : Int) % 128 * ((2 ^ (7 * n) : Nat) : Int), ((a + n + 1 : Nat) : Int), 0))
    else lookL xs a f (n + 1) (v + rd xs ((a + n : Nat) : Int) % 128 * ((2 ^ (7 * n) : Nat) : Int))
def lookI (xs : List Int) (a : Nat) : Int × Int × Int := lookL xs a 10 0 0
def Look (w : World) (r : Int × Int × Int) (e : Ending) (w' : World) : Prop := e = .returned (.tuple #[.int .u64 r.1, .int .i64 r.2.1, .int .i64 r.2.2]) ∧ Ev w w'
theorem pow7_le {n : Nat} (h : n ≤ 8) : (2 ^ (7 * n) : Nat) ≤ 72057594037927936 := Nat.le_trans (Nat.pow_le_pow_right (by decide) (show 7 * n ≤ 56 by omega)) (by decide)
theorem look_any {ad : Addr} {b : Value} {xs : List Int} {a : Nat} {er : Int} {w : World} (h : Rd w ad b xs a er) : Calls P n_num_Reader_look #[.pointer (some ad)] w (Look w (lookI xs a)) := by
  have hal := h.2.2.2.1
  have hxl := h.2.2.2.2
  refine of_num_Reader_look ⟨fun w' => lookI xs a = (0, 0, 4) ∧ Ev w w', ?_, fun _ w' ⟨h1, h2⟩ => ⟨by rw [h1], h2⟩⟩
  refine ⟨fun v i w1 => ∃ n : Nat, i = n ∧ n ≤ 10 ∧ lookL xs a (10 - n) n v = lookI xs a ∧ 0 ≤ v ∧ (n ≤ 9 → v < ((2 ^ (7 * n) : Nat) : Int)) ∧ Ev w w1, fun _ i _ => 10 - i.toNat, ⟨0, rfl, by omega, rfl, by omega, (fun _ => by decide), Ch.refl _ w⟩, ?_⟩
  rintro _ v i w1 ⟨n, rfl, hn, hL, hv0, hv1, h1⟩
  have hR : Rd w1.drew ad b xs a er := (h.ev h1).drew
  refine gIf_dec (fun hlt => gNil_some (gLoadB_i (at1 ((h.ev h1).1.cell (j := 1) rfl)) (gNil_some (gLoadB_v (at1 ((h.ev h1).1.cell (j := 0) rfl)) (gLen_nm h.2.1 (gIf_dec (fun hge => ?_) (fun hin => ?_))))))) (fun hge => ?_)
  · rw [i64_id (by omega) (by omega)] at hge
    rw [show 10 - n = (9 - n) + 1 by omega, lookL, if_pos (by omega)] at hL
    exact ⟨by rw [← hL], h1.drew⟩
  · rw [i64_id (by omega) (by omega)] at hin
    refine gNil_some (gLoadB_v (at1 (hR.1.cell (j := 0) rfl)) (gNil_some (gLoadB_i (at1 (hR.1.cell (j := 1) rfl)) ?_)))
    rw [show i64 ((a : Int) + n) = ((a + n : Nat) : Int) by rw [i64_id (by omega) (by omega)]; omega]
    refine gIdx_nm hR.2.1 (by omega) (by omega) fun ad2 c2 _ => gLoadB_i (at1 c2) (gBin_shl (by rw [i64_id (by omega) (by omega)]; omega) ?_)
    have hc := rd_u8 h.2.1.2 ((a + n : Nat) : Int)
    generalize hcr : rd xs ((a + n : Nat) : Int) = c at hc
    have eA : iAnd .u8 c 127 = c % 128 := by
      have := iAnd_mask (k := .u8) (a := c) (m := 7) (n := 127) rfl (by omega) (by rw [show (2 : Int) ^ IntKind.u8.bits = 256 by decide]; omega) rfl (by decide)
      rw [show ((127 : Nat) : Int) = 127 from rfl] at this
      rw [this]; rfl
    have eU : u64 (c % 128) = c % 128 := by rw [u64_def]; omega
    have e7 : i64 (7 * (n : Int)) = ((7 * n : Nat) : Int) := by rw [i64_id (by omega) (by omega)]; omega
    rw [eA, eU, e7]
    have hstep : lookL xs a (10 - n) n v = if n = 9 ∧ c > 1 then (0, 0, 4) else if c < 128 then (if c = 0 ∧ n > 0 then (0, 0, 4) else (v + c % 128 * ((2 ^ (7 * n) : Nat) : Int), ((a + n + 1 : Nat) : Int), 0)) else lookL xs a (10 - (n + 1)) (n + 1) (v + c % 128 * ((2 ^ (7 * n) : Nat) : Int)) := by
      rw [show 10 - n = (10 - (n + 1)) + 1 by omega, lookL, if_neg (by omega), hcr]
    rw [hstep] at hL
    -- what is or'ed, where it is used
    have hor : ¬ (n = 9 ∧ c > 1) → iOr .u64 v (iShl .u64 (c % 128) ((7 * n : Nat) : Int)) = v + c % 128 * ((2 ^ (7 * n) : Nat) : Int) ∧ v + c % 128 * ((2 ^ (7 * n) : Nat) : Int) < 18446744073709551616 := fun hne => by
      have hb : v + c % 128 * ((2 ^ (7 * n) : Nat) : Int) < 18446744073709551616 := by
        by_cases h9 : n = 9
        · subst h9
          have := hv1 (by omega)
          have e : ((2 ^ (7 * 9) : Nat) : Int) = 9223372036854775808 := by decide
          rw [e] at this ⊢; omega
        · have h1 := hv1 (by omega)
          have hq : ((2 ^ (7 * n) : Nat) : Int) ≤ ((72057594037927936 : Nat) : Int) := Int.ofNat_le.2 (pow7_le (n := n) (by omega))
          generalize ((2 ^ (7 * n) : Nat) : Int) = q at *
          have : c % 128 * q ≤ 127 * q := Int.mul_le_mul_of_nonneg_right (by omega) (by omega)
          omega
      refine ⟨?_, hb⟩
      rw [iShl_u (k := .u64) rfl (by have : IntKind.u64.bits = 64 := rfl; omega) (by omega), bits64, Int.emod_eq_of_lt (Int.mul_nonneg (by omega) (by omega)) (by have : (0 : Int) ≤ v := hv0; show _ < (18446744073709551616 : Int); omega)]
      exact iOr_add rfl hv0 (hv1 (by omega)) (by omega) (by rw [bits64]; exact hb)
    refine ⟨fun w' => ¬ (n = 9 ∧ c > 1) ∧ Ev w w', ?_, ?_⟩
    · refine gIf_eq (fun e9 => gIf_dec (fun hg => ⟨?_, h1.drew.drew⟩) (fun hg => ⟨fun hh => hg hh.2, h1.drew.drew⟩)) (fun e9 => ⟨fun hh => e9 (by rw [hh.1]; rfl), h1.drew.drew⟩)
      rw [if_pos ⟨by omega, hg⟩] at hL; exact hL.symm
    · rintro _ w2 ⟨hne, h2⟩
      obtain ⟨ho, hob⟩ := hor hne
      rw [if_neg hne] at hL
      rw [ho]
      have fin : ¬ (c = 0 ∧ n > 0) → c < 128 → gNil (some ad) fun (t59 : Addr) => gLoadB P t_int (shI .i64) (.pointer (some (Addr.add t59 1))) (fun w' => w' = w2.drew) fun (t61 : Int) => Look w (lookI xs a) (.returned (.tuple #[.int .u64 (v + c % 128 * ((2 ^ (7 * n) : Nat) : Int)), .int .i64 (i64 ((i64 (t61 + n)) + 1)), .int .i64 0])) w2.drew := fun hz hlt => by
        refine gNil_some (gLoadB_i (at1 ((h.ev h2).1.cell (j := 1) rfl)) ⟨?_, h2.drew⟩)
        rw [if_pos hlt, if_neg hz] at hL
        rw [← hL, i64_id (n := (a : Int) + n) (by omega) (by omega), i64_id (by omega) (by omega)]; rfl
      refine gIf_dec (fun hlt => gIf_eq (fun ez => gIf_dec (fun hp => ⟨?_, h2⟩) (fun hp => fin (fun hh => hp (by omega)) hlt)) (fun ez => fin (fun hh => ez hh.1) hlt)) (fun hge => ?_)
      · rw [if_pos hlt, if_pos ⟨ez, by omega⟩] at hL; exact hL.symm
      · rw [if_neg hge] at hL
        rw [i64_id (n := (n : Int) + 1) (by omega) (by omega)]
        have hn9 : n ≠ 9 := fun e => hne ⟨e, by omega⟩
        refine ⟨⟨n + 1, by omega, by omega, hL, Int.add_nonneg hv0 (Int.mul_nonneg (by omega) (by omega)), fun h9 => ?_, h2⟩, by dsimp only; omega⟩
        have h3 := hv1 (by omega)
        rw [show 7 * (n + 1) = 7 * n + 7 by omega, Nat.pow_add]
        have e : ((2 ^ (7 * n) * 2 ^ 7 : Nat) : Int) = ((2 ^ (7 * n) : Nat) : Int) * 128 := by rw [Int.natCast_mul]; rfl
        rw [e]
        have : c % 128 * ((2 ^ (7 * n) : Nat) : Int) ≤ 127 * ((2 ^ (7 * n) : Nat) : Int) := Int.mul_le_mul_of_nonneg_right (by omega) (by omega)
        omega
  · have : n = 10 := by omega
    subst this
    rw [show 10 - 10 = 0 from rfl, lookL] at hL
    exact ⟨hL.symm, h1⟩
end Go.Proofs.YtiimlfgjnapgjaaGreatDoorV

/- Package num: the reader, second part. -/
namespace Go.Proofs.YtiimlfgjnapgjaaGreatDoorV
open Go Go.RowKit

theorem lookL_end {xs : List Int} {a : Nat} : ∀ (f n : Nat) (v : Int), (lookL xs a f n v).2.2 = 0 → 0 ≤ v → (a + n : Int) < (lookL xs a f n v).2.1 ∧ (lookL xs a f n v).2.1 ≤ xs.length ∧ 0 ≤ (lookL xs a f n v).1
  | 0, n, v, h, _ => by simp [lookL] at h
  | f + 1, n, v, h, hv => by
    rw [lookL] at h ⊢
    split at h
    · simp at h
    · rename_i h1
      rw [if_neg h1]
      split at h
      · simp at h
      · rename_i h2
        rw [if_neg h2]
        split at h
        · rename_i h3
          rw [if_pos h3]
          split at h
          · simp at h
          · rename_i h4
            rw [if_neg h4]
            exact ⟨by dsimp only; omega, by dsimp only; omega, Int.add_nonneg hv (Int.mul_nonneg (by omega) (Int.natCast_nonneg _))⟩
        · rename_i h3
          rw [if_neg h3]
          have := lookL_end f (n + 1) _ h (Int.add_nonneg hv (Int.mul_nonneg (by omega) (Int.natCast_nonneg _)))
          exact ⟨by omega, this.2⟩
theorem lookI_end {xs : List Int} {a : Nat} (h : (lookI xs a).2.2 = 0) : (a : Int) < (lookI xs a).2.1 ∧ (lookI xs a).2.1 ≤ xs.length ∧ 0 ≤ (lookI xs a).1 := by
  unfold lookI at h ⊢
  have := lookL_end 10 0 0 h (by decide); exact ⟨by simpa using this.1, this.2⟩
theorem RS.pre {w w1 w2 : World} {ad : Addr} {b : Value} {xs : List Int} {a : Nat} {er : Int} (he : Ev w w1) (h : RS w1 w2 ad b xs a er) : RS w w2 ad b xs a er := ⟨h.1, Ch.trans (he.mono fun _ _ _ h => h.elim) h.2 fun _ _ _ h => h⟩
/-- The next number: it, where it ends, and the fault. -/
def numR (xs : List Int) (a : Nat) (er most : Int) : Int × Nat × Int :=
  if er ≠ 0 then (0, a, er)
  else if (lookI xs a).2.2 = 0 ∧ (lookI xs a).1 > most then (0, a, 4)
  else if (lookI xs a).2.2 ≠ 0 then (0, a, (lookI xs a).2.2)
  else ((lookI xs a).1, (lookI xs a).2.1.toNat, 0)
theorem num_any {ad : Addr} {b : Value} {xs : List Int} {a : Nat} {er most : Int} {w : World} (h : Rd w ad b xs a er) : Calls P n_num_Reader_num #[.pointer (some ad), .int .u64 most] w (fun e w' => e = .returned (.int .u64 (numR xs a er most).1) ∧ RS w w' ad b xs (numR xs a er most).2.1 (numR xs a er most).2.2) := by
  refine of_num_Reader_num ⟨fun w' => er = 0 ∧ w' = w, gEq_pnil (gIf_nf (gNil_some (gLoad_i (h.1.cell (j := 2) rfl) (gIf_neq (fun hne => ?_) (fun he => ⟨he, rfl⟩))))), ?_⟩
  · unfold numR; rw [if_pos hne]; exact ⟨rfl, h.step⟩
  rintro _ _ ⟨rfl, rfl⟩
  rename_i w
  have hl := lookI_end (xs := xs) (a := a)
  unfold numR
  rw [if_neg (by simp)]
  refine gCall_of (look_any h) ?_
  rintro _ w1 ⟨rfl, h1⟩
  generalize lookI xs a = r at hl
  obtain ⟨v, a2, e⟩ := r
  dsimp only at hl ⊢
  have hR := h.ev h1
  refine ⟨v, a2, e, rfl, fun e' w' => e' = (if e = 0 ∧ v > most then 4 else e) ∧ w' = w1, ?_, ?_⟩
  · exact gIf_eq (fun e0 => gIf_dec (fun hg => ⟨by rw [if_pos ⟨e0, hg⟩], rfl⟩) (fun hg => ⟨by rw [if_neg (fun hh => hg hh.2)], rfl⟩)) (fun e0 => ⟨by rw [if_neg (fun hh => e0 hh.1)], rfl⟩)
  · rintro _ e' _ ⟨he', rfl⟩
    refine gIf_neq (fun hne => ?_) (fun he0 => ?_)
    · refine gNil_some (gStore_st hR.1 (j := 2) (by simp) rfl rfl fun w2 h2 _ hS2 => ?_)
      have hRS := hR.set (j := 2) (a2 := a) (er2 := e') (by decide) h2 hS2 rfl hR.2.2.2.1
      have : RS w w2 ad b xs a e' := ⟨hRS.1, Ch.trans (h1.mono fun _ _ _ h => h.elim) hRS.2 fun _ _ _ h => h⟩
      by_cases hc : e = 0 ∧ v > most
      · rw [if_pos hc] at he' ⊢; subst he'; exact ⟨rfl, this⟩
      · rw [if_neg hc] at he' ⊢; subst he'; rw [if_pos hne]; exact ⟨rfl, this⟩
    · subst he0
      have hc : ¬ (e = 0 ∧ v > most) := fun hc => by rw [if_pos hc] at he'; cases he'
      rw [if_neg hc] at he' ⊢
      rw [← he'] at hl ⊢
      rw [if_neg (by simp)]
      have hl2 := hl rfl
      refine gNil_some (gStore_st hR.1 (j := 1) (by simp) rfl rfl fun w2 h2 _ hS2 => ⟨rfl, ?_⟩)
      have hRS := hR.set (j := 1) (a2 := a2.toNat) (er2 := 0) (by decide) h2 hS2 (by rw [show ((a2.toNat : Nat) : Int) = a2 by omega]; rfl) (by omega)
      exact ⟨hRS.1, Ch.trans (h1.mono fun _ _ _ h => h.elim) hRS.2 fun _ _ _ h => h⟩
theorem rNum_any {ad : Addr} {b : Value} {xs : List Int} {a : Nat} {er : Int} {w : World} (h : Rd w ad b xs a er) : Calls P n_num_Reader_Num #[.pointer (some ad)] w (fun e w' => e = .returned (.int .u64 (numR xs a er 18446744073709551615).1) ∧ RS w w' ad b xs (numR xs a er 18446744073709551615).2.1 (numR xs a er 18446744073709551615).2.2) :=
  of_num_Reader_Num (gCall_i (num_any h) fun _ h => ⟨rfl, h⟩)
theorem lookL_64 {xs : List Int} {a : Nat} (hx : inR .u8 xs) : ∀ (f n : Nat) (v : Int), f + n = 10 → 0 ≤ v → (n ≤ 9 → v < ((2 ^ (7 * n) : Nat) : Int)) → (lookL xs a f n v).1 < 18446744073709551616
  | 0, n, v, _, _, _ => by simp [lookL]
  | f + 1, n, v, hf, h0, h1 => by
    rw [lookL]
    split
    · simp
    · split
      · simp
      · rename_i hne
        have h3 := h1 (by omega)
        split
        · split
          · simp
          · show v + _ < _
            by_cases h9 : n = 9
            · subst h9
              have := rd_u8 hx ((a + 9 : Nat) : Int)
              have e : ((2 ^ (7 * 9) : Nat) : Int) = 9223372036854775808 := by decide
              rw [e] at h3 ⊢; omega
            · have hq : ((2 ^ (7 * n) : Nat) : Int) ≤ ((72057594037927936 : Nat) : Int) := Int.ofNat_le.2 (pow7_le (n := n) (by omega))
              have : rd xs ((a + n : Nat) : Int) % 128 * ((2 ^ (7 * n) : Nat) : Int) ≤ 127 * ((2 ^ (7 * n) : Nat) : Int) := Int.mul_le_mul_of_nonneg_right (by omega) (by omega)
              omega
        · refine lookL_64 hx f (n + 1) _ (by omega) (Int.add_nonneg h0 (Int.mul_nonneg (by omega) (Int.natCast_nonneg _))) fun h9 => ?_
          rw [show 7 * (n + 1) = 7 * n + 7 by omega, Nat.pow_add]
          have e : ((2 ^ (7 * n) * 2 ^ 7 : Nat) : Int) = ((2 ^ (7 * n) : Nat) : Int) * 128 := by rw [Int.natCast_mul]; rfl
          rw [e]
          have : rd xs ((a + n : Nat) : Int) % 128 * ((2 ^ (7 * n) : Nat) : Int) ≤ 127 * ((2 ^ (7 * n) : Nat) : Int) := Int.mul_le_mul_of_nonneg_right (by omega) (by omega)
          omega
theorem lookI_rng {xs : List Int} {a : Nat} (hx : inR .u8 xs) (h : (lookI xs a).2.2 = 0) : 0 ≤ (lookI xs a).1 ∧ (lookI xs a).1 < 18446744073709551616 := ⟨(lookL_end 10 0 0 h (by decide)).2.2, lookL_64 hx 10 0 0 rfl (by decide) (fun _ => by decide)⟩
theorem numR_rng {xs : List Int} {a : Nat} {er most : Int} (hx : inR .u8 xs) : 0 ≤ (numR xs a er most).1 ∧ (numR xs a er most).1 < 18446744073709551616 := by
  unfold numR
  split
  · simp
  · split
    · simp
    · split
      · simp
      · rename_i h; exact lookI_rng hx (by omega)
theorem numR_most {xs : List Int} {a : Nat} {er most : Int} (hm : 0 ≤ most) : (numR xs a er most).1 ≤ most := by
  unfold numR
  split
  · exact hm
  · split
    · exact hm
    · rename_i h2
      split
      · exact hm
      · rename_i h3; dsimp only; omega
/-- The next bytes. -/
def rawR (xs : List Int) (a : Nat) (er n : Int) : List Int × Nat × Int :=
  if er ≠ 0 ∨ n ≤ 0 then ([], a, er) else if n > (xs.length : Int) - a then ([], a, 3) else ((xs.drop a).take n.toNat, a + n.toNat, 0)
def RawE (w : World) (ad : Addr) (b : Value) (xs : List Int) (r : List Int × Nat × Int) (e : Ending) (w' : World) : Prop := ∃ y, e = .returned y ∧ RS w w' ad b xs r.2.1 r.2.2 ∧ ON .u8 eB w' w.heap.size y r.1
theorem rRaw_any {ad : Addr} {b : Value} {xs : List Int} {a : Nat} {er n : Int} {w : World} (h : Rd w ad b xs a er) (hn : n ≤ 9223372036854775807) : Calls P n_num_Reader_Raw #[.pointer (some ad), .int .i64 n] w (RawE w ad b xs (rawR xs a er n)) := by
  have hal := h.2.2.2.1
  have hxl := h.2.2.2.2
  refine of_num_Reader_Raw ⟨fun w' => er = 0 ∧ 0 < n ∧ w' = w, gEq_pnil (gIf_nf (gNil_some (gLoad_i (h.1.cell (j := 2) rfl) (gIf_nneq (fun he => gIf_dec (fun hle => ?_) (fun hgt => ⟨he, by omega, rfl⟩)) (fun hne => ?_))))), ?_⟩
  · unfold rawR; rw [if_pos (.inr hle)]; exact ⟨_, rfl, h.step, ON.nil _ _ _ _⟩
  · unfold rawR; rw [if_pos (.inl hne)]; exact ⟨_, rfl, h.step, ON.nil _ _ _ _⟩
  rintro _ _ ⟨rfl, hn0, rfl⟩
  rename_i w
  unfold rawR
  rw [if_neg (by omega)]
  refine gNil_some (gLoadB_v (at1 (h.1.cell (j := 0) rfl)) (gLen_nm h.2.1 (gNil_some (gLoadB_i (at1 (h.1.cell (j := 1) rfl)) ?_))))
  rw [i64_id (n := (xs.length : Int) - a) (by omega) (by omega)]
  refine gIf_dec (fun hg => ?_) (fun hle => ?_)
  · rw [if_pos hg]
    refine gNil_some (gStore_st h.drew.1 (j := 2) (by simp) rfl rfl fun w2 h2 _ hS2 => ⟨_, rfl, ?_, ON.nil _ _ _ _⟩)
    exact RS.pre (Ev.drew0 w) (h.drew.set (j := 2) (a2 := a) (er2 := 3) (by decide) h2 hS2 rfl hal)
  · rw [if_neg hle]
    obtain ⟨m, rfl⟩ : ∃ m : Nat, n = m := ⟨n.toNat, by omega⟩
    rw [Int.toNat_natCast]
    refine gNil_some (gLoad_i (h.drew.1.cell (j := 1) rfl) (gNil_some (gStore_st h.drew.1 (j := 1) (by simp) rfl rfl fun w2 h2 hs2 hS2 => ?_)))
    have hRS : RS w w2 ad b xs (a + m) 0 := RS.pre (Ev.drew0 w) <| h.drew.set (j := 1) (a2 := a + m) (er2 := 0) (by decide) h2 hS2 (by rw [i64_id (by omega) (by omega)]; rfl) (by omega)
    have hR := hRS.1.drew
    refine ⟨fun w' => Rd w' ad b xs (a + m) 0, hR, gNil_some (gLoadB_v (fun w' h => h.1.cell (j := 0) rfl) (gNil_some (gLoadB_i (fun w' h => h.1.cell (j := 1) rfl) (gNil_some (gLoadB_i (fun w' h => h.1.cell (j := 1) rfl) ?_)))))⟩
    rw [show i64 (((a + m : Nat) : Int) - (m : Int)) = (a : Int) by rw [i64_id (by omega) (by omega)]; omega]
    refine gSlice_nm hR.2.1 a (a + m) (.inr ⟨_, rfl⟩) (.inr ⟨_, rfl⟩) (by omega) (by omega) fun hs => ?_
    rw [Nat.add_sub_cancel_left] at hs
    refine gApp_on (ON.nil .u8 eB w2.drew w.heap.size) hs (by rw [List.length_take, List.length_drop]; simp; omega) (Nat.le_of_eq hs2.symm) fun y w3 hy hc hm => ?_
    have h3 : Ev w2.drew w3 := hc.mono fun _ _ _ hh => by cases hh
    exact ⟨hR.ev h3, y, rfl, RS.ev hRS ((Ev.drew0 w2).trans h3), by simpa using hy⟩
end Go.Proofs.YtiimlfgjnapgjaaGreatDoorV

/- Package valisehelp: Bytes. -/
namespace Go.Proofs.YtiimlfgjnapgjaaGreatDoorV
open Go Go.RowKit
theorem Bytes_any {a b : Value} {xs ys : List Int} {w : World} (ha : Nm .u8 w a xs) (hb : Nm .u8 w b ys) : Calls P n_valisehelp_Bytes #[a, b] w (fun e w' => e = .returned (.bool (decide (xs = ys))) ∧ w' = w) :=
  of_valisehelp_Bytes (gConv_bs ha (gConv_bs hb ⟨by rw [bsOf_eq ha.2 hb.2], rfl⟩))
end Go.Proofs.YtiimlfgjnapgjaaGreatDoorV

/- Package num: the reader, third part; nil readers; laws NumNil. -/
namespace Go.Proofs.YtiimlfgjnapgjaaGreatDoorV
open Go Go.RowKit

/-- The next text. -/
def textR (xs : List Int) (a : Nat) (er most : Int) : List Int × Nat × Int :=
  if er ≠ 0 then ([], a, er)
  else
    let p := numR xs a er (if 0 > most then 0 else most)
    let q := rawR xs p.2.1 p.2.2 p.1
    if q.2.2 ≠ 0 then ([], a, q.2.2) else q
theorem rText_any {ad : Addr} {b : Value} {xs : List Int} {a : Nat} {er most : Int} {w : World} (h : Rd w ad b xs a er) (hm : most ≤ 9223372036854775807) : Calls P n_num_Reader_Text #[.pointer (some ad), .int .i64 most] w (RawE w ad b xs (textR xs a er most)) := by
  refine of_num_Reader_Text ⟨fun w' => er = 0 ∧ w' = w, gEq_pnil (gIf_nf (gNil_some (gLoad_i (h.1.cell (j := 2) rfl) (gIf_neq (fun hne => ?_) (fun he => ⟨he, rfl⟩))))), ?_⟩
  · unfold textR; rw [if_pos hne]; exact ⟨_, rfl, h.step, ON.nil _ _ _ _⟩
  rintro _ _ ⟨rfl, rfl⟩
  rename_i w
  unfold textR
  rw [if_neg (show ¬ ((0 : Int) ≠ 0) by simp)]
  have hm0 : 0 ≤ (if 0 > most then 0 else most) ∧ (if 0 > most then 0 else most) ≤ 9223372036854775807 := by split <;> omega
  generalize (if 0 > most then 0 else most) = mm at hm0
  rw [show u64 mm = mm by rw [u64_def]; omega]
  refine gNil_some (gLoad_i (h.1.cell (j := 1) rfl) (gCall_i (num_any h) fun w1 h1 => ?_))
  have hr := numR_rng (xs := xs) (a := a) (er := 0) (most := mm) h.2.1.2
  have hm2 := numR_most (xs := xs) (a := a) (er := 0) (most := mm) hm0.1
  dsimp only
  generalize numR xs a 0 mm = p at *
  rw [i64_id (n := p.1) (by omega) (by omega)]
  refine gCall_of (rRaw_any h1.1 (by omega)) ?_
  rintro _ w2 ⟨y, rfl, h2, hy⟩
  have hw2 := h1.trans h2
  generalize rawR xs p.2.1 p.2.2 p.1 = q at *
  refine ⟨y, rfl, gNil_some (gLoad_i (hw2.1.1.cell (j := 2) rfl) (gIf_neq (fun hne => gNil_some (gStore_st hw2.1.1 (j := 1) (by simp) rfl rfl fun w3 h3 _ hS3 => ?_)) (fun he => ?_)))⟩
  · rw [if_pos hne]
    exact ⟨_, rfl, hw2.trans (hw2.1.set (j := 1) (a2 := a) (er2 := q.2.2) (by decide) h3 hS3 rfl h.2.2.2.1), ON.nil _ _ _ _⟩
  · rw [if_neg (by omega)]
    exact ⟨y, rfl, hw2, hy.low h1.2.size⟩
/-! ### A nil reader -/
end Go.Proofs.YtiimlfgjnapgjaaGreatDoorV

/- Things of one's own, all told at once: what a call has made so far, apart from each other and from all that is old. -/
namespace Go.Proofs.YtiimlfgjnapgjaaGreatDoorV
open Go Go.RowKit
/-- A thing: the blocks that it stands on, and what is told of it. -/
structure It where
  ft : Nat → Prop
  ok : World → Prop
  ce : ∀ (w : World) (k : Nat), ok w → ft k → ∃ c e f, w.heap[k]? = some (Obj.cells c e f)
  st : ∀ (w w' : World) S, ok w → Ch S w w' → (∀ k i, ft k → ¬ S k i) → ok w'
  gr : ∀ w w' : World, ok w → w.heap.size ≤ w'.heap.size → (∀ (k : Nat) c e f, w.heap[k]? = some (Obj.cells c e f) → w'.heap[k]? = w.heap[k]?) → ok w'
theorem It.lt (it : It) (w : World) (k : Nat) (h : it.ok w) (hk : it.ft k) : k < w.heap.size := let ⟨_, _, _, hc⟩ := it.ce w k h hk; hlt hc
def Fr (w0 w : World) : List It → Prop
  | [] => Ev w0 w
  | it :: F => it.ok w ∧ (∀ k, it.ft k → w0.heap.size ≤ k) ∧ (∀ jt ∈ F, ∀ k, it.ft k → ¬ jt.ft k) ∧ Fr w0 w F
section
variable {w0 w w' : World} {F : List It}
theorem Fr.old : ∀ {F : List It}, Fr w0 w F → Ev w0 w
  | [], h => h
  | _ :: _, h => Fr.old h.2.2.2
theorem Fr.start (w : World) : Fr w w [] := Ch.refl _ w
theorem Fr.mem : ∀ {F : List It} {it : It}, Fr w0 w F → it ∈ F → it.ok w ∧ ∀ k, it.ft k → w0.heap.size ≤ k
  | _ :: _, _, h, hm => by
    rcases List.mem_cons.1 hm with rfl | hm
    · exact ⟨h.1, h.2.1⟩
    · exact Fr.mem h.2.2.2 hm
theorem Fr.get {it : It} (h : Fr w0 w F) (i : Nat) (hi : F[i]? = some it) : it.ok w := (h.mem (List.mem_of_getElem? hi)).1
theorem Fr.ft {it : It} (h : Fr w0 w F) (i : Nat) (hi : F[i]? = some it) {k : Nat} (hk : it.ft k) : w0.heap.size ≤ k ∧ k < w.heap.size :=
  ⟨(h.mem (List.mem_of_getElem? hi)).2 k hk, it.lt w k (h.get i hi) hk⟩
/-- A change of what is apart from all of them, and of no old thing. -/
theorem Fr.ch {S : SS} : ∀ {F : List It}, Fr w0 w F → Ch S w w' → (∀ k i, S k i → w0.heap.size ≤ k) → (∀ it ∈ F, ∀ k i, it.ft k → ¬ S k i) → Fr w0 w' F
  | [], h, hc, h0, _ => Ev.new h hc h0
  | it :: F, h, hc, h0, hs => ⟨it.st w w' S h.1 hc (hs it (by simp)), h.2.1, h.2.2.1, Fr.ch h.2.2.2 hc h0 fun jt hj => hs jt (by simp [hj])⟩
theorem Fr.ev (h : Fr w0 w F) (he : Ev w w') : Fr w0 w' F := h.ch he (fun _ _ h => h.elim) fun _ _ _ _ _ h => h
theorem Fr.drew (h : Fr w0 w F) : Fr w0 w.drew F := h.ev (Ev.drew0 w)
/-- A new thing. -/
theorem Fr.new {jt : It} (h : Fr w0 w F) (he : Ev w w') (ok : jt.ok w') (hf : ∀ k, jt.ft k → w.heap.size ≤ k) : Fr w0 w' (jt :: F) :=
  ⟨ok, fun k hk => Nat.le_trans h.old.size (hf k hk), fun it hi k hk hik => by
    have := hf k hk
    have := it.lt w k (h.mem hi).1 hik
    omega, h.ev he⟩
theorem Fr.set_apart {it jt : It} : ∀ {F : List It} {i : Nat}, Fr w0 w F → F[i]? = some it → (∀ k, jt.ft k → it.ft k ∨ w.heap.size ≤ k) → ∀ {S : SS}, Ch S w w' → (∀ k i, S k i → it.ft k ∨ w.heap.size ≤ k) → jt.ok w' → Fr w0 w' (F.set i jt)
  | it' :: F, 0, h, hi, hf, S, hc, hS, ok => by
    simp only [List.getElem?_cons_zero, Option.some.injEq] at hi
    subst hi
    have ho := h.2.2.2.old.size
    refine ⟨ok, fun k hk => ?_, fun jt' hj k hk hjk => ?_, h.2.2.2.ch hc (fun k i hs => ?_) fun jt' hj k i hjk hs => ?_⟩
    · rcases hf k hk with h1 | h1
      · exact h.2.1 k h1
      · omega
    · rcases hf k hk with h1 | h1
      · exact h.2.2.1 jt' hj k h1 hjk
      · have := jt'.lt w k (h.2.2.2.mem hj).1 hjk; omega
    · rcases hS k i hs with h1 | h1
      · exact h.2.1 k h1
      · omega
    · rcases hS k i hs with h1 | h1
      · exact h.2.2.1 jt' hj k h1 hjk
      · have := jt'.lt w k (h.2.2.2.mem hj).1 hjk; omega
  | it' :: F, i + 1, h, hi, hf, S, hc, hS, ok => by
    simp only [List.getElem?_cons_succ] at hi
    have hm := List.mem_of_getElem? hi
    refine ⟨it'.st w w' S h.1 hc fun k i hk hs => ?_, h.2.1, fun jt' hj k hk hjk => ?_, Fr.set_apart h.2.2.2 hi hf hc hS ok⟩
    · rcases hS k i hs with h1 | h1
      · exact h.2.2.1 it hm k hk h1
      · have := it'.lt w k h.1 hk; omega
    · rcases List.mem_or_eq_of_mem_set hj with hj | rfl
      · exact h.2.2.1 jt' hj k hk hjk
      · rcases hf k hjk with h1 | h1
        · exact h.2.2.1 it hm k hk h1
        · have := it'.lt w k h.1 hk; omega
/-- A thing that changes. -/
theorem Fr.upd {it jt : It} {S : SS} (h : Fr w0 w F) (i : Nat) (hi : F[i]? = some it) (hc : Ch S w w') (hS : ∀ k i, S k i → it.ft k ∨ w.heap.size ≤ k) (ok : jt.ok w') (hf : ∀ k, jt.ft k → it.ft k ∨ w.heap.size ≤ k) : Fr w0 w' (F.set i jt) :=
  h.set_apart hi hf hc hS ok
theorem Fr.apart {it jt : It} : ∀ {F : List It} {i j : Nat}, Fr w0 w F → F[i]? = some it → F[j]? = some jt → i ≠ j → ∀ k, it.ft k → ¬ jt.ft k
  | _ :: _, 0, 0, _, _, _, hn, _, _ => absurd rfl hn
  | a :: F, 0, j + 1, h, hi, hj, _, k, hk => by
    simp only [List.getElem?_cons_zero, Option.some.injEq] at hi
    subst hi
    exact h.2.2.1 jt (List.mem_of_getElem? (by simpa using hj)) k hk
  | a :: F, i + 1, 0, h, hi, hj, _, k, hk => by
    simp only [List.getElem?_cons_zero, Option.some.injEq] at hj
    subst hj
    exact fun hk2 => h.2.2.1 it (List.mem_of_getElem? (by simpa using hi)) k hk2 hk
  | a :: F, i + 1, j + 1, h, hi, hj, hn, k, hk => Fr.apart h.2.2.2 (by simpa using hi) (by simpa using hj) (by omega) k hk
/-- Blocks that are no cells, and no old ones, may turn. -/
theorem Fr.gr : ∀ {F : List It}, Fr w0 w F → w.heap.size ≤ w'.heap.size → w'.os = w.os → w'.tape = w.tape → w'.output = w.output → (∀ k : Nat, k < w0.heap.size → w'.heap[k]? = w.heap[k]?) → (∀ (k : Nat) c e f, w.heap[k]? = some (Obj.cells c e f) → w'.heap[k]? = w.heap[k]?) → Fr w0 w' F
  | [], h, hs, h1, h2, h3, hb, hc => ⟨h1.trans h.os, h2.trans h.tape, h3.trans h.output, Nat.le_trans h.size hs, fun k hk _ => (hb k hk).trans (h.blk k hk fun _ h => h),
      fun k c e f hk => ⟨c, by rw [hb k (hlt hk), h.blk k (hlt hk) fun _ h => h]; exact hk, rfl, fun _ _ => rfl⟩, fun k o hk _ => by rw [hb k (hlt hk), h.blk k (hlt hk) fun _ h => h]; exact hk⟩
  | it :: F, h, hs, h1, h2, h3, hb, hc => ⟨it.gr w w' h.1 hs hc, h.2.1, h.2.2.1, Fr.gr h.2.2.2 hs h1 h2 h3 hb hc⟩
theorem Fr.eraseM : ∀ {F : List It} {i : Nat}, Fr w0 w F → Fr w0 w (F.eraseIdx i)
  | [], _, h => by simpa using h
  | _ :: _, 0, h => h.2.2.2
  | it :: F, i + 1, h => ⟨h.1, h.2.1, fun jt hj => h.2.2.1 jt (List.mem_of_mem_eraseIdx hj), Fr.eraseM h.2.2.2⟩
/-- A thing that is let go. -/
theorem Fr.drop (h : Fr w0 w F) (i : Nat) : Fr w0 w (F.eraseIdx i) := h.eraseM
end
theorem gIf_b {b : Bool} {A B : Prop} (ha : b = true → A) (hb : b = false → B) : gIf b A B := gIf_of ha hb
theorem gIf_nb {b : Bool} {A B : Prop} (ha : b = false → A) (hb : b = true → B) : gIf (!b) A B := by cases b; exact ha rfl; exact hb rfl
/-! ### Things -/
theorem St.gr {w w' : World} {ad : Addr} {cs : List Value} (h : St w ad cs) (hc : ∀ (k : Nat) c e f, w.heap[k]? = some (Obj.cells c e f) → w'.heap[k]? = w.heap[k]?) : St w' ad cs := by
  obtain ⟨h0, c, e, h1, h2⟩ := h; exact ⟨h0, c, e, by rw [hc _ _ _ _ h1]; exact h1, h2⟩
theorem ON.gr {k : IntKind} {e : TypeId} {w w' : World} {B : Nat} {v : Value} {xs : List Int} (h : ON k e w B v xs) (hc : ∀ (k : Nat) c e f, w.heap[k]? = some (Obj.cells c e f) → w'.heap[k]? = w.heap[k]?) : ON k e w' B v xs := by
  refine ⟨⟨h.1.1, ?_⟩, h.2⟩
  rcases h.1.2 with hn | ⟨g, cap, cur, rfl, hb, hg, r⟩
  · exact .inl hn
  · exact .inr ⟨g, cap, cur, rfl, hb, by rw [hc _ _ _ _ hg]; exact hg, r⟩
theorem ON.ce {k : IntKind} {e : TypeId} {w : World} {B : Nat} {v : Value} {xs : List Int} (h : ON k e w B v xs) {g : Nat} (hg : v.ownBlock = some g) : ∃ c e f, w.heap[g]? = some (Obj.cells c e f) := by
  rcases h.1.2 with ⟨rfl, _⟩ | ⟨g', cap, cur, rfl, hb, hh, r⟩
  · cases hg
  · simp [Value.ownBlock] at hg; subst hg; exact ⟨_, _, _, hh⟩
theorem St.ce {w : World} {ad : Addr} {cs : List Value} (h : St w ad cs) : ∃ c e f, w.heap[ad.block]? = some (Obj.cells c e f) := let ⟨_, c, e, h1, _⟩ := h; ⟨c, e, _, h1⟩
def sIt (ad : Addr) (cs : List Value) : It := ⟨fun k => k = ad.block, fun w => St w ad cs, fun _ _ h hk => by rw [hk]; exact h.ce, fun _ _ _ h hc hs => h.ch hc fun j _ => hs _ _ rfl, fun _ _ h _ hc => h.gr hc⟩
def oIt (k : IntKind) (e : TypeId) (v : Value) (xs : List Int) : It := ⟨fun b => v.ownBlock = some b, fun w => ON k e w 0 v xs, fun _ _ h hk => h.ce hk, fun _ _ _ h hc hs => h.ch hc hs, fun _ _ h _ hc => h.gr hc⟩
def wIt (e : TypeId) (ad : Addr) (v : Value) (xs : List Int) : It := ⟨fun k => k = ad.block ∨ v.ownBlock = some k, fun w => Wr e w ad v xs, fun _ _ h hk => by rcases hk with hk | hk; (rw [hk]; exact h.1.ce); exact h.2.1.ce hk, fun _ _ _ h hc hs => h.ch hc fun k i hk => hs k i hk, fun _ _ h _ hc => ⟨h.1.gr hc, h.2.1.gr hc, h.2.2⟩⟩
section
variable {P : Program} {w0 w : World} {F : List It}
theorem Fr.cell {ad : Addr} {cs : List Value} (h : Fr w0 w F) (i : Nat) (j : Nat) {u : Value} (hi : F[i]? = some (sIt ad cs)) (hj : cs[j]? = some u) : w.cell? (ad.add j) = some u := St.cell (h.get i hi) hj
theorem fAlloc {t : TypeId} {z : Value} {K : Addr → World → Prop} (h : Fr w0 w F) (hz : (P.info? t).bind (·.zero) = some z) (hk : ∀ ad w', Fr w0 w' (sIt ad z.cells.toList :: F) → K ad w') : gAlloc P t w K :=
  gAlloc_of hz fun ad w' he ha _ hS => hk ad w' (h.new he hS fun k hk => by have hk : k = ad.block := hk; subst ha; dsimp only at hk; omega)
theorem fBox {t : TypeId} {v : Value} {K : Addr → World → Prop} (h : Fr w0 w F) (hk : ∀ ad w', Fr w0 w' (sIt ad v.cells.toList :: F) → K ad w') : gBox P t v w K :=
  gBox_of fun ad w' he ha _ hS => hk ad w' (h.new he hS fun k hk => by have hk : k = ad.block := hk; subst ha; dsimp only at hk; omega)
theorem fStore {t : TypeId} {ad : Addr} {cs : List Value} {u : Value} {K : World → Prop} (h : Fr w0 w F) (i j : Nat) (hi : F[i]? = some (sIt ad cs)) (hk : ∀ w', Fr w0 w' (F.set i (sIt ad (cs.set j u))) → K w') (hj : j < cs.length := by exact Nat.le_of_ble_eq_true rfl) (hu : u.oneCell' = true := by rfl) (hcl : u.cells = #[u] := by rfl) (ht : flat1 P t = true := by kernel_rfl) :
    gStore P t (.pointer (some (ad.add j))) u w K :=
  gStore_st (h.get i hi) hj hu hcl (fun w' hc _ hS => hk w' (h.upd i hi hc (fun k _ hh => .inl (by
    have h0 : ad.spot = none := (show St w ad cs from h.get i hi).1
    have h1 := hh.1
    rw [Addr.add_none h0] at h1; exact h1)) hS fun k hk => .inl hk)) ht
theorem fStoreA {t : TypeId} {ad : Addr} {cs : List Value} {ds : Array Value} {K : World → Prop} (h : Fr w0 w F) (i : Nat) (hi : F[i]? = some (sIt ad cs)) (hk : ∀ w', Fr w0 w' (F.set i (sIt ad ds.toList)) → K w') (hj : ds.size = cs.length := by rfl) (h1 : ∀ u ∈ ds.toList, u.oneCell' = true := by simp [Value.oneCell']) (ht : sizeIs P t ds.size = true := by kernel_rfl) :
    gStore P t (.pointer (some ad)) (.agg ds) w K :=
  gStore_agg0 (h.get i hi) (by omega) h1 (fun w' hc _ hS => hk w' (h.upd i hi hc (fun k _ hh => .inl hh.1) (by
    have : cs.drop ds.size = [] := List.drop_of_length_le (by omega)
    rw [this, List.append_nil] at hS; exact hS) fun k hk => .inl hk)) ht
theorem fLoadA {t : TypeId} {cks : List Ck} {ad : Addr} {K : TF cks Prop} {cs : List Value} (h : Fr w0 w F) (i : Nat) (hi : F[i]? = some (sIt ad cs)) (hk : tapp False cks K cs) (hl : cs.length = cks.length := by rfl) (ht : aggB P t cs.length = true := by kernel_rfl) : gLoad P t (.part (.agg cks)) (.pointer (some ad)) w K :=
  gLoad_agg cs (fun j u hj => h.cell i j hi hj) hk hl ht
theorem fLoad_i {t : TypeId} {k : IntKind} {n : Int} {ad : Addr} {cs : List Value} {K : Int → Prop} (h : Fr w0 w F) (i j : Nat) (hi : F[i]? = some (sIt ad cs)) (hj : cs[j]? = some (.int k n)) (hk : K n) (ht : flat P t = true := by kernel_rfl) : gLoad P t (shI k) (.pointer (some (ad.add j))) w K := gLoad_i (h.cell i j hi hj) hk ht
theorem fLoad_v {t : TypeId} {v : Value} {ad : Addr} {cs : List Value} {K : Value → Prop} (h : Fr w0 w F) (i j : Nat) (hi : F[i]? = some (sIt ad cs)) (hj : cs[j]? = some v) (hk : K v) (ht : flat P t = true := by kernel_rfl) : gLoad P t shV (.pointer (some (ad.add j))) w K := gLoad_v (h.cell i j hi hj) hk ht
theorem fLoad_p {t : TypeId} {v : Option Addr} {ad : Addr} {cs : List Value} {K : Option Addr → Prop} (h : Fr w0 w F) (i j : Nat) (hi : F[i]? = some (sIt ad cs)) (hj : cs[j]? = some (.pointer v)) (hk : K v) (ht : flat P t = true := by kernel_rfl) : gLoad P t shP (.pointer (some (ad.add j))) w K := gLoad_p (h.cell i j hi hj) hk ht
theorem fLoad_b {t : TypeId} {v : Bool} {ad : Addr} {cs : List Value} {K : Bool → Prop} (h : Fr w0 w F) (i j : Nat) (hi : F[i]? = some (sIt ad cs)) (hj : cs[j]? = some (.bool v)) (hk : K v) (ht : flat P t = true := by kernel_rfl) : gLoad P t shB (.pointer (some (ad.add j))) w K := gLoad_b (h.cell i j hi hj) hk ht
theorem fLit_n {t : TypeId} {n : Nat} {k : IntKind} {parts : Array (Nat × Value)} {K : Value → World → Prop} (xs : List Int) (h : Fr w0 w F) (hp : parts.toList = enumV 0 (xs.map (.int k))) (hn : xs.length = n) (hr : inR k xs)
    (hk : ∀ v w', Fr w0 w' (oIt k (elOf P t) v xs :: F) → K v w') (hm : n ≤ 1000000 := by decide) (ht : sl1 P t = true := by kernel_rfl) : gLit P t n parts w K :=
  gLit_n xs hp hn hm hr (fun v w' he ho => hk v w' (h.new he (ho.low (Nat.zero_le _)) fun k hk => (ho.base hk).1)) ht
/-- Appending to a slice of one's own: it is another one. -/
theorem fApp {t ty : TypeId} {k : IntKind} {v y : Value} {xs ys : List Int} {K : Value → World → Prop} (h : Fr w0 w F) (i : Nat) (hi : F[i]? = some (oIt k (elOf P t) v xs)) (hy : Nm k w y ys) (hb : (xs.length + ys.length) * 8 ≤ 140737488355328)
    (hk : ∀ v' w', Fr w0 w' (F.set i (oIt k (elOf P t) v' (xs ++ ys))) → K v' w') (ht : slInt P t k = true := by kernel_rfl) : gApp P #[t, t] ty #[v, y] w K :=
  gApp_on (h.get i hi) hy hb (Nat.zero_le _) (fun v' w' ho hc hm => hk v' w' (h.upd i hi hc (fun k _ hh => .inl hh) ho fun k hk => by
    rcases hm with hm | hm
    · exact .inl (by have hk : v'.ownBlock = some k := hk; rw [hm] at hk; exact hk)
    · exact .inr (hm k hk))) ht
/-- Appending to nothing. -/
theorem fApp0 {t ty : TypeId} {k : IntKind} {y : Value} {ys : List Int} {K : Value → World → Prop} (h : Fr w0 w F) (hy : Nm k w y ys) (hb : ys.length * 8 ≤ 140737488355328)
    (hk : ∀ v' w', Fr w0 w' (oIt k (elOf P t) v' ys :: F) → K v' w') (ht : slInt P t k = true := by kernel_rfl) : gApp P #[t, t] ty #[.slice none 0 0, y] w K :=
  gApp_on (ON.nil k (elOf P t) w w.heap.size) hy (by simpa using hb) (Nat.le_refl _) (fun v' w' ho hc hm => hk v' w' (h.new (hc.mono fun _ _ _ hh => by cases hh) (by rw [List.nil_append] at ho; exact ho.low (Nat.zero_le _)) fun k hk => (ho.base hk).1)) ht
theorem Fr.on {k : IntKind} {e : TypeId} {v : Value} {xs : List Int} (h : Fr w0 w F) (i : Nat) (hi : F[i]? = some (oIt k e v xs)) : ON k e w w0.heap.size v xs := by
  have ho : ON k e w 0 v xs := h.get i hi
  refine ⟨⟨ho.1.1, ?_⟩, ho.2⟩
  rcases ho.1.2 with hn | ⟨g, cap, cur, rfl, hb, r⟩
  · exact .inl hn
  · exact .inr ⟨g, cap, cur, rfl, (h.ft i hi (k := g) rfl).1, r⟩
theorem Fr.nm {k : IntKind} {e : TypeId} {v : Value} {xs : List Int} (h : Fr w0 w F) (i : Nat) (hi : F[i]? = some (oIt k e v xs)) : Nm k w v xs := (h.on i hi).nm
theorem Fr.nil0 (h : Fr w0 w F) (k : IntKind) (e : TypeId) : Fr w0 w (oIt k e (.slice none 0 0) [] :: F) :=
  h.new (Ch.refl _ w) (ON.nil k e w 0) fun _ hk => by cases hk
/-- A new slice that a call hands back. -/
theorem Fr.newO {k : IntKind} {e : TypeId} {w' : World} {v : Value} {xs : List Int} (h : Fr w0 w F) (he : Ev w w') (ho : ON k e w' w.heap.size v xs) : Fr w0 w' (oIt k e v xs :: F) :=
  h.new he (ho.low (Nat.zero_le _)) fun _ hk => (ho.base hk).1

/-! ### Structs of numbers, held against each other -/
theorem gEq_bool {t : TypeId} {a b : Bool} {K : Bool → Prop} (hk : K (a == b)) (ht : (match P.underlying t with | some .bool => true | _ => false) = true := by kernel_rfl) : gEq P .eql t (.bool a) (.bool b) K := by
  have hu : P.underlying t = some .bool := by
    split at ht
    · rename_i h; exact h
    · cases ht
  refine ⟨a == b, fun cx cy w => ⟨rfl, ?_⟩, hk⟩
  have hb : binOp .eql t (.bool a) (.bool b) = (do pure (.bool (← Op.equal t (.bool a) (.bool b)))) := rfl
  rw [hb]; simp only [Sem.run_bind, run_equal_bool w t a b hu, Result.andThen_ok, Sem.run_pure]
end
end Go.Proofs.YtiimlfgjnapgjaaGreatDoorV

/- Nodes, sixth part: literals of structs, places of arrays, []byte of constant texts, appending texts. -/
namespace Go.Proofs.YtiimlfgjnapgjaaGreatDoorV
open Go Go.RowKit
section
variable {P : Program} {w0 w : World} {F : List It}
/-! ### Literals of structs -/
theorem setAll_size (vs : List Value) : ∀ (c : Array Value) (a : Nat), (setAll c a vs).size = c.size := by
  induction vs with
  | nil => intros; rfl
  | cons v r ih => intro c a; simp only [setAll]; rw [ih]; simp
theorem setAll_app (xs ys : List Value) : ∀ (c : Array Value) (a : Nat), setAll c a (xs ++ ys) = setAll (setAll c a xs) (a + xs.length) ys := by
  induction xs with
  | nil => intros; rfl
  | cons v r ih => intro c a; simp only [List.cons_append, setAll]; rw [ih]; simp only [List.length_cons]; rw [Nat.add_right_comm, Nat.add_assoc]
def enumA : Nat → List (List Value) → List (Nat × Value)
  | _, [] => []
  | i, v :: r => (i, .agg v.toArray) :: enumA (i + 1) r
theorem fill_enumA (sz : Nat) (vss : List (List Value)) (h1 : ∀ v ∈ vss, v.length = sz) : ∀ (j : Nat) (cells : Array Value), (j + vss.length) * sz ≤ cells.size → Instr.fill (fun i => some (i * sz, sz)) cells (enumA j vss) = some (setAll cells (j * sz) vss.flatten) := by
  induction vss with
  | nil => intros; rfl
  | cons v r ih =>
    intro j cells h
    have hv := h1 v (by simp)
    have hle : j * sz + sz ≤ cells.size := by
      have : (j + 1) * sz ≤ (j + (v :: r).length) * sz := Nat.mul_le_mul_right _ (by simp)
      rw [Nat.succ_mul] at this; omega
    simp only [enumA, Instr.fill]
    rw [if_neg (by simp [Value.cells]; omega), fill_step, ih (fun v hv => h1 v (by simp [hv])) (j + 1) _ (by rw [setAll_size]; simp only [List.length_cons] at h; rwa [show j + 1 + r.length = j + (r.length + 1) by omega])]
    rw [List.flatten_cons, setAll_app, hv, Nat.succ_mul]; rfl
theorem fLit_sz {t : TypeId} {n : Nat} {parts : Array (Nat × Value)} {K : Value → World → Prop} (sz : Nat) (vss : List (List Value)) (h : Fr w0 w F) (hp : parts.toList = enumA 0 vss) (hn : vss.length = n) (h1 : ∀ v ∈ vss, v.length = sz)
    (hk : ∀ ad w', Fr w0 w' (sIt ad vss.flatten :: F) → K (.slice (some ad) n n) w') (hm : n * sz ≤ 1000000 := by decide) (ht : slSz P t sz = true := by kernel_rfl) (hz : (P.info? (elOf P t)).bind (·.zero) ≠ none := by decide) : gLit P t n parts w K := by
  obtain ⟨hu, i, hi, hsz⟩ := slSz_ok ht
  have hz' : ∃ z, i.zero = some z := by
    rw [hi] at hz; simp only [Option.bind_some] at hz
    cases hh : i.zero with
    | none => exact absurd hh hz
    | some z => exact ⟨z, rfl⟩
  obtain ⟨z, hz⟩ := hz'
  have hfl : vss.flatten.length = n * sz := by
    subst hn; clear hp hk hm
    induction vss with
    | nil => simp
    | cons v r ih => simp only [List.flatten_cons, List.length_append, h1 v (by simp), ih (fun v hv => h1 v (by simp [hv])), List.length_cons, Nat.succ_mul]; omega
  obtain ⟨c0, hc0, hrun⟩ : ∃ c0 : Array Value, c0.size = n * sz ∧ (Instr.buildSlice t n parts).run P w = .ok (.slice (some ⟨w.heap.size, 0, none⟩) n n) (w.alloc (.cells (setAll c0 0 vss.flatten) (elOf P t))) := by
    simp only [Instr.buildSlice, Sem.run_bind, run_underlying hu, Result.andThen_ok, sizeOf, typeInfo, run_program, hi, Sem.run_pure, hsz]
    rw [if_neg (by omega)]
    by_cases h0 : n * sz = 0
    · refine ⟨#[], by simp [h0], ?_⟩
      have he : ∀ f : Nat → Value, Array.map f (Array.range 0) = #[] := fun f => Array.eq_empty_of_size_eq_zero (by simp)
      rw [hp, h0]
      simp only [if_true, Sem.run_bind, Sem.run_pure, Result.andThen_ok, he]
      rw [fill_enumA sz vss h1 0 #[] (by rw [Nat.zero_add, hn, h0]; exact Nat.zero_le _)]
      simp [newRow]
    · refine ⟨(Array.range (n * sz)).map (z.cells[· % z.cells.size]!), by simp, ?_⟩
      rw [if_neg h0]
      simp only [Sem.run_bind, zeroValue, typeInfo, run_program, Result.andThen_ok, hi, hz, Sem.run_pure]
      rw [hp, fill_enumA sz vss h1 0 _ (by simp [hn])]
      simp [newRow]
  have hl := setAll_list vss.flatten 0 c0 (by omega)
  simp only [List.take_zero, List.nil_append] at hl
  refine ⟨_, _, hrun, hk _ _ (h.new (jt := sIt ⟨w.heap.size, 0, none⟩ vss.flatten) (Ev.alloc w _) ?_ fun k hk => by have hk : k = w.heap.size := hk; omega)⟩
  have := St.alloc w (setAll c0 0 vss.flatten) (elOf P t)
  rwa [hl] at this
def arSz (P : Program) (t : TypeId) (n sz : Nat) : Bool := match P.underlying t with
  | some (.array m e) => Nat.beq m n && (match P.info? e with | some i => Nat.beq i.size sz | none => false)
  | _ => false
theorem gIdx_ar {t : TypeId} {ki : IntKind} {sz : Nat} {ad : Addr} {i : Int} {K : Addr → Prop} (n j : Nat) (hij : i = (j : Int)) (h1 : j < n) (hk : K (ad.add (j * sz))) (ht : arSz P t n sz = true := by kernel_rfl) : gIdx P t (.pointer (some ad)) (.int ki i) K := by
  unfold arSz at ht
  split at ht
  · rename_i m e hu
    simp only [Bool.and_eq_true] at ht
    have hm := Nat.eq_of_beq_eq_true ht.1
    subst hm; subst hij
    replace ht := ht.2
    split at ht
    · rename_i ii hi
      refine ⟨ad.add (j * sz), fun w => ?_, hk⟩
      simp only [Instr.indexAt, asIntOf, Sem.run_bind, Sem.run_pure, Result.andThen_ok, run_underlying hu, Instr.sureAddr]
      rw [if_pos ⟨by omega, by omega⟩]
      simp [sizeOf, typeInfo, hi, Nat.eq_of_beq_eq_true ht]
    · cases ht
  · cases ht
theorem gIdx_ar1 {t : TypeId} {ki : IntKind} {ad : Addr} {i : Int} {K : Addr → Prop} (n j : Nat) (hij : i = (j : Int)) (h1 : j < n) (hk : K (ad.add j)) (ht : arSz P t n 1 = true := by kernel_rfl) : gIdx P t (.pointer (some ad)) (.int ki i) K :=
  gIdx_ar (sz := 1) n j hij h1 (by rwa [Nat.mul_one]) ht
/-! ### []byte of a constant text -/
/-- Its row is marked as one that stands for a text: it has no room. -/
def Cn (e : TypeId) (w : World) (v : Value) (xs : List Int) : Prop := ∃ g, v = .slice (some ⟨g, 0, none⟩) xs.length xs.length ∧ w.heap[g]? = some (.cells (xs.map (Value.int .u8)).toArray e (xs.length, xs.length + 1)) ∧ inR .u8 xs
theorem Cn.ch {e : TypeId} {S : SS} {w' : World} {v : Value} {xs : List Int} (h : Cn e w v xs) (hc : Ch S w w') (hs : ∀ k i, v.ownBlock = some k → ¬ S k i) : Cn e w' v xs := by
  obtain ⟨g, rfl, h1, h2⟩ := h
  exact ⟨g, rfl, by rw [hc.blk g (hlt h1) fun i => hs g i rfl]; exact h1, h2⟩
theorem Cn.lt {e : TypeId} {v : Value} {xs : List Int} (h : Cn e w v xs) {k : Nat} (hk : v.ownBlock = some k) : k < w.heap.size := by
  obtain ⟨g, rfl, h1, h2⟩ := h
  have : g = k := by simpa [Value.ownBlock] using hk
  subst this; exact hlt h1
theorem Cn.nm {e : TypeId} {v : Value} {xs : List Int} (h : Cn e w v xs) : Nm .u8 w v xs := by
  obtain ⟨g, rfl, h1, h2⟩ := h
  refine ⟨⟨some ⟨g, 0, none⟩, xs.length, rfl, Nat.le_refl _, by simp, fun ad ha j u hj => ?_, fun h => by cases h⟩, h2⟩
  injection ha with ha; subst ha
  rw [Addr.add_lit]
  simp [World.cell?, h1, hj]
def cIt (e : TypeId) (v : Value) (xs : List Int) : It := ⟨fun b => v.ownBlock = some b, fun w => Cn e w v xs, fun _ _ h hk => by
    obtain ⟨g, rfl, h1, _⟩ := h
    simp [Value.ownBlock] at hk; subst hk; exact ⟨_, _, _, h1⟩, fun _ _ _ h hc hs => h.ch hc hs, fun _ _ h _ hc => by
    obtain ⟨g, rfl, h1, h2⟩ := h; exact ⟨g, rfl, by rw [hc _ _ _ _ h1]; exact h1, h2⟩⟩
def slU8 (P : Program) (t : TypeId) : Bool := match P.underlying t with
  | some (.slice e) => (match P.underlying e with | some (.int .u8) => true | _ => false) && (match P.info? e with | some i => Nat.beq i.size 1 && i.zero.isSome | none => false)
  | _ => false
theorem slU8_ok {t : TypeId} (h : slU8 P t = true) : P.underlying t = some (.slice (elOf P t)) ∧ P.underlying (elOf P t) = some (.int .u8) ∧ ∃ i z, P.info? (elOf P t) = some i ∧ i.size = 1 ∧ i.zero = some z := by
  unfold slU8 at h
  split at h
  · rename_i e he
    have hel : elOf P t = e := by unfold elOf; rw [he]
    rw [hel]
    simp only [Bool.and_eq_true] at h
    obtain ⟨h1, h2⟩ := h
    split at h1
    · rename_i hu
      split at h2
      · rename_i i hi
        simp only [Bool.and_eq_true] at h2
        obtain ⟨z, hz⟩ := Option.isSome_iff_exists.1 h2.2
        exact ⟨he, hu, i, z, hi, Nat.eq_of_beq_eq_true h2.1, hz⟩
      · cases h2
    · cases h1
  · cases h
theorem fLitC {t : TypeId} {n : Nat} {parts : Array (Nat × Value)} {K : Value → World → Prop} (xs : List Int) (h : Fr w0 w F) (hp : parts.toList = enumV 0 (xs.map (.int .u8))) (hn : xs.length = n) (hr : inR .u8 xs)
    (hk : ∀ v w', Fr w0 w' (cIt (elOf P t) v xs :: F) → K v w') (hm : n ≤ 1000000 := by decide) (ht : slU8 P t = true := by kernel_rfl) : gLit P t n parts w fun v w1 => gConv P t t shV v w1 K := by
  obtain ⟨hu, hue, i, z, hi, hsz, hz⟩ := slU8_ok ht
  obtain ⟨c0, hc0, hrun⟩ : ∃ c0 : Array Value, c0.size = n ∧ (Instr.buildSlice t n parts).run P w = .ok (.slice (some ⟨w.heap.size, 0, none⟩) n n) (w.alloc (.cells (setAll c0 0 (xs.map (.int .u8))) (elOf P t))) := by
    simp only [Instr.buildSlice, Sem.run_bind, run_underlying hu, Result.andThen_ok, sizeOf, typeInfo, run_program, hi, Sem.run_pure, hsz, Nat.mul_one]
    rw [if_neg (by omega)]
    by_cases h0 : n = 0
    · subst h0
      have : xs = [] := List.eq_nil_of_length_eq_zero hn
      subst this
      refine ⟨#[], rfl, ?_⟩
      have he : ∀ f : Nat → Value, Array.map f (Array.range 0) = #[] := fun f => Array.eq_empty_of_size_eq_zero (by simp)
      rw [hp]
      simp [enumV, Instr.fill, newRow, setAll, he]
    · refine ⟨(Array.range n).map (z.cells[· % z.cells.size]!), by simp, ?_⟩
      rw [if_neg h0]
      simp only [Sem.run_bind, zeroValue, typeInfo, run_program, Result.andThen_ok, hi, hz, Sem.run_pure]
      rw [hp, show (fun i => some (i, 1)) = (fun i => some (i * 1, 1)) by funext i; rw [Nat.mul_one], fill_enum _ (fun v hv => by obtain ⟨x, _, rfl⟩ := List.mem_map.1 hv; rfl) 0 _ (by simp; omega)]
      simp [newRow]
  have hl := setAll_list (xs.map (.int .u8)) 0 c0 (by simp; omega)
  simp only [List.take_zero, List.nil_append] at hl
  have hc : setAll c0 0 (xs.map (.int .u8)) = (xs.map (Value.int .u8)).toArray := by have := congrArg List.toArray hl; simpa using this
  rw [hc] at hrun
  have hconv := Go.Lib.run_convert_bytes_const (P := P) w t (elOf P t) (xs.map (Value.int .u8)).toArray n n hu hue
  have hs : (xs.map (Value.int .u8)).toArray.size = xs.length := by simp
  rw [hs] at hconv
  refine ⟨_, _, hrun, _, _, hconv, hk _ _ (h.new (Ev.alloc w _) ⟨w.heap.size, by rw [hn], heap_alloc_new w _, hr⟩ fun k hk => ?_)⟩
  have : w.heap.size = k := by simpa [cIt, Value.ownBlock] using hk
  omega
/-! ### Texts put behind bytes -/
/-- A text's bytes. -/
def sOf (s : ByteArray) : List Int := s.data.toList.map fun b => (b.toNat : Int)
theorem sOf_len (s : ByteArray) : (sOf s).length = s.size := by unfold sOf; rw [List.length_map, Array.length_toList]; rfl
theorem sOf_u8 (s : ByteArray) : inR .u8 (sOf s) := fun x hx => by
  obtain ⟨b, _, rfl⟩ := List.mem_map.1 hx
  have := b.toNat_lt
  simp [IntKind.min, IntKind.max, IntKind.signed, IntKind.bits]; omega
def strB (P : Program) (t : TypeId) : Bool := match P.underlying t with
  | some .string => true
  | _ => false
theorem strB_ok {t : TypeId} (h : strB P t = true) : P.underlying t = some .string := by
  unfold strB at h; split at h
  · rename_i hh; exact hh
  · cases h
theorem gIndex_s {t : TypeId} {k : IntKind} {s : ByteArray} {j : Nat} {i : Int} {K : Int → Prop} (hij : i = (j : Int)) (hj : j < s.size) (hk : K (rd (sOf s) i)) (ht : strB P t = true := by kernel_rfl) : gIndex P t (shI .u8) (.string s) (.int k i) K := by
  subst hij
  have hu := strB_ok ht
  refine ⟨rd (sOf s) (j : Int), fun w => ?_, hk⟩
  have hg : s[j]? = some s[j] := by simp [hj]
  simp only [Instr.index, asIntOf, Sem.run_bind, Sem.run_pure, Result.andThen_ok, run_underlying hu]
  rw [if_pos (by omega), Int.toNat_natCast, hg]
  show Result.ok (Value.int .u8 (s[j].toNat : Int)) w = .ok (Value.int .u8 (rd (sOf s) (j : Int))) w
  have : rd (sOf s) (j : Int) = (s[j].toNat : Int) := by
    rw [rd_nat _ _ (by rw [sOf_len]; exact hj)]
    simp [sOf]; rfl
  rw [this]
end
end Go.Proofs.YtiimlfgjnapgjaaGreatDoorV

/- Package valiseref02: Little, New, Raw, Little of a reader. -/
namespace Go.Proofs.YtiimlfgjnapgjaaGreatDoorV
open Go Go.RowKit
section
variable {w0 w : World} {F : List It} {xs : List Int} {ad : Addr} {y : Value} {a : Nat} {er : Int}
/-- A reader that is new: its struct, and its bytes. -/
theorem Fr.rd (h : Fr w0 w F) (i j : Nat) (hi : F[i]? = some (sIt ad [y, .int .i64 a, .int .i64 er])) (hj : F[j]? = some (oIt .u8 eB y xs)) (hn : i ≠ j) (ha : a ≤ xs.length) (hl : xs.length ≤ 10000000000) : Rd w ad y xs a er :=
  ⟨h.get i hi, h.nm j hj, fun hg => h.apart hi hj hn ad.block rfl hg, ha, hl⟩
theorem Fr.rs {w' : World} {a2 : Nat} {er2 : Int} (h : Fr w0 w F) (i : Nat) (hi : F[i]? = some (sIt ad [y, .int .i64 a, .int .i64 er])) (g : RS w w' ad y xs a2 er2) : Fr w0 w' (F.set i (sIt ad [y, .int .i64 a2, .int .i64 er2])) :=
  h.upd i hi g.2 (fun k _ hh => .inl hh.1) g.1.1 fun k hk => .inl hk
/-- What New hands back. -/
def NewR (w : World) (xs : List Int) (e : Ending) (w' : World) : Prop := ∃ ad y, e = .returned (.pointer (some ad)) ∧ ∀ {w0 F}, Fr w0 w F → Fr w0 w' (sIt ad [y, .int .i64 0, .int .i64 0] :: oIt .u8 eB y xs :: F)
theorem nNew_any {b : Value} {w : World} (hb : Nm .u8 w b xs) (hl : xs.length ≤ 10000000000) : Calls P n_num_New #[b] w (NewR w xs) := by
  refine of_num_New (gApp_on (ON.nil .u8 eB w w.heap.size) hb (by simp; omega) (Nat.le_refl _) fun y w1 hy hc hm => ⟨hy.one, gBox_of fun ad w2 h2 had hs hS => ?_⟩)
  have h1 : Ev w w1 := hc.mono fun _ _ _ hh => by cases hh
  exact ⟨ad, y, rfl, fun f => (f.newO h1 (by simpa using hy)).new h2 hS fun k hk => by have hk : k = ad.block := hk; subst had; dsimp only at hk; omega⟩
theorem rrNew_any {b : Value} {w : World} (hb : Nm .u8 w b xs) (hl : xs.length ≤ 10000000000) : Calls P n_valiseref02_New #[b] w (NewR w xs) := by
  refine of_valiseref02_New (gApp_on (ON.nil .u8 eB w w.heap.size) hb (by simp; omega) (Nat.le_refl _) fun y w1 hy hc hm => ⟨hy.one, gBox_of fun ad w2 h2 had hs hS => ?_⟩)
  have h1 : Ev w w1 := hc.mono fun _ _ _ hh => by cases hh
  exact ⟨ad, y, rfl, fun f => (f.newO h1 (by simpa using hy)).new h2 hS fun k hk => by have hk : k = ad.block := hk; subst had; dsimp only at hk; omega⟩
theorem fNew {b : Value} {K : Option Addr → World → Prop} (h : Fr w0 w F) (hb : Nm .u8 w b xs) (hl : xs.length ≤ 10000000000) (hk : ∀ ad y w', Fr w0 w' (sIt ad [y, .int .i64 0, .int .i64 0] :: oIt .u8 eB y xs :: F) → K (some ad) w') : gCall P n_num_New shP #[b] w K :=
  gCall_of (nNew_any hb hl) fun _ w' ⟨ad, y, h1, h2⟩ => ⟨some ad, h1, hk ad y w' (h2 h)⟩
theorem frNew {b : Value} {K : Option Addr → World → Prop} (h : Fr w0 w F) (hb : Nm .u8 w b xs) (hl : xs.length ≤ 10000000000) (hk : ∀ ad y w', Fr w0 w' (sIt ad [y, .int .i64 0, .int .i64 0] :: oIt .u8 eB y xs :: F) → K (some ad) w') : gCall P n_valiseref02_New shP #[b] w K :=
  gCall_of (rrNew_any hb hl) fun _ w' ⟨ad, y, h1, h2⟩ => ⟨some ad, h1, hk ad y w' (h2 h)⟩
end
end Go.Proofs.YtiimlfgjnapgjaaGreatDoorV

/- Small things that texts of functions share, second part. -/
namespace Go.Proofs.YtiimlfgjnapgjaaGreatDoorV
open Go Go.RowKit
section
variable {w0 w : World} {F : List It} {f : FuncId} {args : Array Value}
end
section
variable {w0 w : World} {F : List It} {f : FuncId} {args : Array Value}
/-! ### Bytes that grow behind a pointer -/
theorem Fr.asW (h : Fr w0 w F) (i : Nat) {ad : Addr} {e : TypeId} (hi : F[i]? = some (sIt ad [.slice none 0 0])) : Fr w0 w (F.set i (wIt e ad (.slice none 0 0) [])) :=
  h.upd (S := No) i hi (Ch.refl _ w) (fun _ _ h => h.elim) ⟨h.get i hi, ON.nil _ _ _ _, fun h => by cases h⟩ fun k hk => .inl (by rcases hk with hk | hk; exact hk; cases hk)
theorem Fr.wr {w' : World} {ad : Addr} {e : TypeId} {v v' : Value} {xs ys : List Int} (h : Fr w0 w F) (i : Nat) (hi : F[i]? = some (wIt e ad v xs)) (g : WrS e w w' ad v v' ys) : Fr w0 w' (F.set i (wIt e ad v' ys)) :=
  h.upd i hi g.2.1 (fun k _ hh => .inl hh) g.1 fun k hk => by
    rcases hk with hk | hk
    · exact .inl (.inl hk)
    · rcases g.2.2 with hm | hm
      · exact .inl (.inr (hm ▸ hk))
      · exact .inr (hm k hk)
end
/-! ### Texts -/
end Go.Proofs.YtiimlfgjnapgjaaGreatDoorV

/- copy(), and buffers that are written into. -/
namespace Go.Proofs.YtiimlfgjnapgjaaGreatDoorV
open Go Go.RowKit
section
variable {P : Program} {w0 w : World} {F : List It}
/-- A function that the model runs itself. -/
def isExt (P : Program) (f : FuncId) : Bool := match P.funcs[f]? with
  | some fn => !(fn.name == "runtime.NumGoroutine") && fn.body.isNone && (Extern.findNext fn).isNone
  | none => false
theorem run_ext {f : FuncId} {args : Array Value} {e : Array Value → Sem Value} {v : Value} (h : isExt P f = true) (he : (P.funcs[f]?).bind Extern.find = some e) (hr : (e args).run P w = .ok v w) : (callFunc f args).run P w = .ok (.value v) w := by
  unfold isExt at h
  split at h
  · rename_i fn hf
    rw [hf] at he
    simp only [Bool.and_eq_true, Bool.not_eq_true'] at h
    rw [run_callFunc_extern hf h.1.1 h.1.2 (Option.isNone_iff_eq_none.1 h.2) he, hr]; rfl
  · cases h
theorem gExt_i {f : FuncId} {args : Array Value} {e : Array Value → Sem Value} {k : IntKind} {n : Int} {K : Int → World → Prop} (he : (P.funcs[f]?).bind Extern.find = some e) (hr : (e args).run P w = .ok (.int k n) w) (hk : K n w) (h : isExt P f = true := by kernel_rfl) : gExt P f (shI k) args w K :=
  ⟨n, w, run_ext h he hr, hk⟩
end
end Go.Proofs.YtiimlfgjnapgjaaGreatDoorV

/- Arrays: loaded whole, indexed, sliced, copied into. -/
namespace Go.Proofs.YtiimlfgjnapgjaaGreatDoorV
open Go Go.RowKit
def slLen : Value → Nat
  | .slice _ n _ => n
  | _ => 0
theorem Nm.slLen {k : IntKind} {w : World} {v : Value} {xs : List Int} (h : Nm k w v xs) : slLen v = xs.length := by obtain ⟨a, c, rfl, _⟩ := h.shape; rfl
section
variable {P : Program} {w0 w : World} {F : List It}
theorem gLoad_arr {t : TypeId} {ad : Addr} {K : Array Value → Prop} (vs : List Value) (hc : ∀ j u, vs[j]? = some u → w.cell? (ad.add j) = some u) (hk : K vs.toArray) (ht : aggB P t vs.length = true) : gLoad P t shA (.pointer (some ad)) w K :=
  ⟨vs.toArray, run_loadAgg hc ht, hk⟩
theorem fLoadArr {t : TypeId} {ad : Addr} {cs : List Value} {K : Array Value → Prop} (h : Fr w0 w F) (i : Nat) (hi : F[i]? = some (sIt ad cs)) (hk : K cs.toArray) (ht : aggB P t cs.length = true) : gLoad P t shA (.pointer (some ad)) w K :=
  gLoad_arr cs (fun j u hj => h.cell i j hi hj) hk ht
/-- A slice of values of one cell each. -/
theorem ownsRow_ch {S : SS} {w w' : World} {e : TypeId} {B n : Nat} {v : Value} {cs : List Value} (h : w.ownsRow B e 1 v n cs) (hc : Ch S w w') (hs : ∀ g i, v.ownBlock = some g → ¬ S g i) : w'.ownsRow B e 1 v n cs := by
  refine ⟨h.1, ?_⟩
  rcases h.2 with hn | ⟨g, cap, cur, rfl, hb, hg, r⟩
  · exact .inl hn
  · exact .inr ⟨g, cap, cur, rfl, hb, by rw [hc.blk g (hlt hg) (fun i => hs g i rfl)]; exact hg, r⟩
def lIt (e : TypeId) (v : Value) (us : List Value) : It := ⟨fun b => v.ownBlock = some b, fun w => w.ownsRow 0 e 1 v us.length us, fun w k h hk => by
    rcases h.2 with ⟨rfl, _⟩ | ⟨g', cap, cur, rfl, hb, hh, r⟩
    · cases hk
    · simp [Value.ownBlock] at hk; subst hk; exact ⟨_, _, _, hh⟩, fun _ _ _ h hc hs => ownsRow_ch h hc hs, fun w w' h _ hc => by
    refine ⟨h.1, ?_⟩
    rcases h.2 with hn | ⟨g, cap, cur, rfl, hb, hg, r⟩
    · exact .inl hn
    · exact .inr ⟨g, cap, cur, rfl, hb, by rw [hc _ _ _ _ hg]; exact hg, r⟩⟩
theorem Fr.sl {e : TypeId} {v : Value} {us : List Value} (h : Fr w0 w F) (i : Nat) (hi : F[i]? = some (lIt e v us)) : Sl w 1 v us.length us := Sl.of_own (h.get i hi)
theorem fLitV {t : TypeId} {n : Nat} {parts : Array (Nat × Value)} {K : Value → World → Prop} (us : List Value) (h : Fr w0 w F) (hp : parts.toList = enumV 0 us) (hn : us.length = n) (h1 : ∀ v ∈ us, v.cells = #[v])
    (hk : ∀ v w', Fr w0 w' (lIt (elOf P t) v us :: F) → K v w') (hm : n ≤ 1000000 := by decide) (ht : sl1 P t = true := by kernel_rfl) : gLit P t n parts w K :=
  gLit_1 us hp hn hm h1 (fun v w' he ho => hk v w' (h.new (jt := lIt (elOf P t) v us) he (by
    subst hn
    refine ⟨ho.1, ?_⟩
    rcases ho.2 with hh | ⟨g, cap, cur, e1, hb, r⟩
    · exact .inl hh
    · exact .inr ⟨g, cap, cur, e1, Nat.zero_le _, r⟩) fun k hk => (ho.lt k hk).1)) ht
/-- Some of them, in another order. -/
theorem Fr.picks (h : Fr w0 w F) : ∀ (is : List Nat), is.Nodup → Fr w0 w (is.filterMap fun i => F[i]?)
  | [], _ => h.old
  | i :: r, hd => by
    have ih := h.picks r (List.nodup_cons.1 hd).2
    cases hi : F[i]? with
    | none => rw [List.filterMap_cons_none hi]; exact ih
    | some it =>
      rw [List.filterMap_cons_some hi]
      have hm := h.mem (List.mem_of_getElem? hi)
      refine ⟨hm.1, hm.2, fun jt hj k hk => ?_, ih⟩
      obtain ⟨j, hj1, hj2⟩ := List.mem_filterMap.1 hj
      have hne : i ≠ j := fun e => (List.nodup_cons.1 hd).1 (e ▸ hj1)
      exact h.apart hi hj2 hne k hk
theorem Fr.dropN : ∀ {F : List It} (n : Nat), Fr w0 w F → Fr w0 w (F.drop n)
  | _, 0, h => h
  | [], _ + 1, h => h
  | _ :: _, n + 1, h => Fr.dropN n h.2.2.2
/-- Some of the first n, in another order, ahead of the others. -/
theorem Fr.picksN (h : Fr w0 w F) (n : Nat) : ∀ (is : List Nat), is.Nodup → (∀ i ∈ is, i < n) → Fr w0 w ((is.filterMap fun i => F[i]?) ++ F.drop n)
  | [], _, _ => h.dropN n
  | i :: r, hd, hn => by
    have ih := h.picksN n r (List.nodup_cons.1 hd).2 fun j hj => hn j (by simp [hj])
    cases hi : F[i]? with
    | none => rw [List.filterMap_cons_none hi]; exact ih
    | some it =>
      rw [List.filterMap_cons_some hi]
      have hm := h.mem (List.mem_of_getElem? hi)
      refine ⟨hm.1, hm.2, fun jt hj k hk => ?_, ih⟩
      rcases List.mem_append.1 hj with hj | hj
      · obtain ⟨j, hj1, hj2⟩ := List.mem_filterMap.1 hj
        have hne : i ≠ j := fun e => (List.nodup_cons.1 hd).1 (e ▸ hj1)
        exact h.apart hi hj2 hne k hk
      · obtain ⟨q, hq⟩ := List.mem_iff_getElem?.1 hj
        rw [List.getElem?_drop] at hq
        have := hn i (by simp)
        exact h.apart hi hq (by omega) k hk
/-- What was made behind a world, put to what was made ahead of it. -/
theorem Fr.glue {w1 : World} : ∀ {G : List It}, Fr w0 w1 F → Fr w1 w G → Fr w0 w (G ++ F)
  | [], h, h2 => h.ev h2
  | it :: G, h, h2 => by
    refine ⟨h2.1, fun k hk => Nat.le_trans h.old.size (h2.2.1 k hk), fun jt hj k hk hjk => ?_, Fr.glue h h2.2.2.2⟩
    rcases List.mem_append.1 hj with hj | hj
    · exact h2.2.2.1 jt hj k hk hjk
    · have h3 := h2.2.1 k hk
      have h4 := jt.lt w1 k (h.mem hj).1 hjk
      omega
end
end Go.Proofs.YtiimlfgjnapgjaaGreatDoorV

/- Rows of things of several cells each, owned: append, store, load, make, part. -/
namespace Go.Proofs.YtiimlfgjnapgjaaGreatDoorV
open Go Go.RowKit
section
variable {P : Program} {w0 w : World} {F : List It}
theorem Sl.of_ownS {B n sz : Nat} {e : TypeId} {v : Value} {cs : List Value} (h : w.ownsRow B e sz v n cs) : Sl w sz v n cs := by
  obtain ⟨h1, h2⟩ := h
  rcases h2 with ⟨rfl, h0⟩ | ⟨g, cap, cur, rfl, hb, hg, hn, hm, hs, ht⟩
  · exact ⟨none, 0, by rw [h0], by omega, h1, (fun _ h => by cases h), fun _ => h0⟩
  · refine ⟨some ⟨g, 0, none⟩, cap, rfl, hn, h1, fun ad ha j u hj => ?_, fun h => by cases h⟩
    injection ha with ha; subst ha
    exact World.ownsRow.cells ⟨h1, .inr ⟨g, cap, cur, rfl, hb, hg, hn, hm, hs, ht⟩⟩ (g := g) rfl j u hj
theorem ownsRow_chS {S : SS} {w w' : World} {e : TypeId} {B n sz : Nat} {v : Value} {cs : List Value} (h : w.ownsRow B e sz v n cs) (hc : Ch S w w') (hs : ∀ g i, v.ownBlock = some g → ¬ S g i) : w'.ownsRow B e sz v n cs := by
  refine ⟨h.1, ?_⟩
  rcases h.2 with hn | ⟨g, cap, cur, rfl, hb, hg, r⟩
  · exact .inl hn
  · exact .inr ⟨g, cap, cur, rfl, hb, by rw [hc.blk g (hlt hg) (fun i => hs g i rfl)]; exact hg, r⟩
/-- A row of n things of sz cells each. -/
def rIt (e : TypeId) (sz : Nat) (v : Value) (n : Nat) (cs : List Value) : It := ⟨fun b => v.ownBlock = some b, fun w => w.ownsRow 0 e sz v n cs, fun w k h hk => by
    rcases h.2 with ⟨rfl, _⟩ | ⟨g', cap, cur, rfl, hb, hh, r⟩
    · cases hk
    · simp [Value.ownBlock] at hk; subst hk; exact ⟨_, _, _, hh⟩, fun _ _ _ h hc hs => ownsRow_chS h hc hs, fun w w' h _ hc => by
    refine ⟨h.1, ?_⟩
    rcases h.2 with hn | ⟨g, cap, cur, rfl, hb, hg, r⟩
    · exact .inl hn
    · exact .inr ⟨g, cap, cur, rfl, hb, by rw [hc _ _ _ _ hg]; exact hg, r⟩⟩
theorem Fr.row {e : TypeId} {sz n : Nat} {v : Value} {cs : List Value} (h : Fr w0 w F) (i : Nat) (hi : F[i]? = some (rIt e sz v n cs)) : Sl w sz v n cs := Sl.of_ownS (h.get i hi)
theorem Fr.nilR (h : Fr w0 w F) (e : TypeId) (sz : Nat) : Fr w0 w (rIt e sz (.slice none 0 0) 0 [] :: F) :=
  h.new (Ch.refl _ w) (World.ownsRow_nil w 0 e sz) fun _ hk => by cases hk
theorem rIt_low {e : TypeId} {sz n B : Nat} {v : Value} {cs : List Value} (h : w.ownsRow B e sz v n cs) : w.ownsRow 0 e sz v n cs := by
  refine ⟨h.1, ?_⟩
  rcases h.2 with hh | ⟨g, cap, cur, e1, hb, r⟩
  · exact .inl hh
  · exact .inr ⟨g, cap, cur, e1, Nat.zero_le _, r⟩
def slRow (P : Program) (t : TypeId) (sz by' : Nat) : Bool := match P.underlying t with
  | some (.slice e) => match P.info? e with
    | some i => Nat.beq i.size sz && Nat.ble i.bytes by' && (match i.zero with | some z => Nat.beq z.cells.size sz | none => false)
    | none => false
  | _ => false
theorem slRow_ok {t : TypeId} {sz b : Nat} (h : slRow P t sz b = true) : P.underlying t = some (.slice (elOf P t)) ∧ ∃ i z, P.info? (elOf P t) = some i ∧ i.zero = some z ∧ i.size = sz ∧ z.cells.size = sz ∧ i.bytes ≤ b := by
  unfold slRow at h
  split at h
  · rename_i e hu
    have he : elOf P t = e := by unfold elOf; rw [hu]
    rw [he]
    split at h
    · rename_i i hi
      simp only [Bool.and_eq_true] at h
      obtain ⟨⟨h1, h2⟩, h3⟩ := h
      split at h3
      · rename_i z hz
        exact ⟨hu, i, z, hi, hz, Nat.eq_of_beq_eq_true h1, Nat.eq_of_beq_eq_true h3, Nat.le_of_ble_eq_true h2⟩
      · cases h3
    · cases h
  · cases h
theorem run_append_ownS (t ty : TypeId) {e : TypeId} {i : TypeInfo} {z : Value} {sz : Nat} (ht : P.underlying t = some (.slice e)) (hi : P.info? e = some i) (hz : i.zero = some z) (hsize : i.size = sz) (hzs : z.cells.size = sz) (hsz : 0 < sz)
    {B : Nat} {v : Value} {n : Nat} {xs : List Value} (hown : w.ownsRow B e sz v n xs) {y : Value} {m : Nat} {news : List Value} (hy : Sl w sz y m news) (h1 : ∀ u ∈ news, u.oneCell' = true)
    (hb : (n + m) * i.bytes ≤ 140737488355328) (h63 : n + m ≤ maxLen) (hbase : B ≤ w.heap.size) :
    ∃ v' w', (Builtin.append_ #[t, t] ty #[v, y]).run P w = .ok v' w' ∧ w'.ownsRow B e sz v' (n + m) (xs ++ news) ∧ Ch (Ob v) w w' ∧ Moved w v v' := by
  obtain ⟨a, c, rfl, hnc, hl, hcells, hnil⟩ := hy
  have hcl : ∀ k, v.ownBlock = some k → ∃ c e f, w.heap[k]? = some (.cells c e f) := fun k hk => by
    rcases hown.2 with ⟨rfl, _⟩ | ⟨g, cap, cur, rfl, _, hg, _⟩
    · cases hk
    · simp [Value.ownBlock] at hk; subst hk; exact ⟨_, _, _, hg⟩
  have ofg : ∀ {w' : World}, w.grownBy w' v.ownBlock → (∀ k c e f, v.ownBlock = some k → w.heap[k]? = some (.cells c e f) → ∃ c', w'.heap[k]? = some (.cells c' e f) ∧ c'.size = c.size) → Ch (Ob v) w w' := fun {w'} hg hsh => by
    refine ⟨hg.os, hg.tape, hg.output, hg.size, fun k hk hn => hg.block k hk fun e => hn 0 e.symm, fun k c e f hc => ?_, fun k o hk ho => by
      rw [hg.block k (hlt hk) (fun e => by obtain ⟨c, e2, f, hc⟩ := hcl k e.symm; exact ne_cells hc hk ho rfl)]; exact hk⟩
    by_cases hk : v.ownBlock = some k
    · obtain ⟨c', h1, h2⟩ := hsh k c e f hk hc
      exact ⟨c', h1, h2, fun i hi => absurd hk hi⟩
    · exact ⟨c, by rw [hg.block k (hlt hc) (fun e => hk e.symm)]; exact hc, rfl, fun _ _ => rfl⟩
  have nil0 : ∀ {l : List Value}, l.length = 0 * sz → l = [] := fun h => List.eq_nil_of_length_eq_zero (by rw [h, Nat.zero_mul])
  cases a with
  | none =>
    have hm := hnil rfl
    subst hm
    have hn0 : news = [] := nil0 hl
    subst hn0
    refine ⟨v, w, ?_, by simpa using hown, Ch.refl _ w, .inl rfl⟩
    rcases hown.2 with ⟨rfl, rfl⟩ | ⟨g, cap, cur, rfl, hbg, hg, hn, hm, hcs, htk⟩
    · simp [Builtin.append_, run_underlying ht, sizeOf, typeInfo, hi, Builtin.lenOf, Builtin.firstCells]
    · simp [Builtin.append_, run_underlying ht, sizeOf, typeInfo, hi, Builtin.lenOf, Builtin.firstCells, hn, storeCells]
  | some ad =>
    obtain ⟨v', w', hr, ho, hg, _⟩ := run_append_own (P := P) w B t ty e i z sz i.bytes ht hi hz hsize rfl hzs hsz v n xs hown ad m c news hl (hcells ad rfl) h1 h63 hb hbase
    refine ⟨v', w', hr, ho, ?_⟩
    rcases hown.2 with ⟨rfl, rfl⟩ | ⟨g, cap, cur, rfl, hbg, hgg, hn, hm', hcs, htk⟩
    · by_cases hm0 : m = 0
      · subst hm0
        have hn0 : news = [] := nil0 hl
        subst hn0
        have hr2 : (Builtin.append_ #[t, t] ty #[.slice none 0 0, .slice (some ad) 0 c]).run P w = .ok (.slice none 0 0) w := by
          simp [Builtin.append_, run_underlying ht, sizeOf, typeInfo, hi, Builtin.lenOf, Builtin.firstCells, loadCells, loadCellsFrom]
        rw [hr2] at hr; injection hr with e1 e2; subst e1; subst e2
        exact ⟨Ch.refl _ w, .inl rfl⟩
      · have hr2 := run_append_nil (P := P) w t ty e i z ht hi hz ad m c news (by rw [hsize]; exact hl) (hcells ad rfl) (by omega) (by unfold maxLen at h63; omega) (by simp only [Nat.zero_add] at hb; omega)
        rw [hr2] at hr; injection hr with e1 e2; subst e1
        refine ⟨ofg hg (fun k c e f hk => by cases hk), .inr fun g hg' => ?_⟩
        simp [Value.ownBlock] at hg'; omega
    · by_cases hroom : n + m ≤ cap
      · have hfit : n * i.size + news.length ≤ cur.size := by rw [hl, hsize, hcs, ← Nat.add_mul]; exact Nat.mul_le_mul_right _ hroom
        have hr2 := run_append_room (P := P) w t ty e i ht hi g n cap cur hgg ad m c news (by rw [hsize]; exact hl) (hcells ad rfl) h1 hroom hfit
        rw [hr2] at hr; injection hr with e1 e2; subst e1; subst e2
        refine ⟨ofg hg (fun k c' e' f hk hc => ?_), .inl rfl⟩
        simp [Value.ownBlock] at hk; subst hk
        rw [hgg] at hc; injection hc with hc; injection hc with hc1 hc2 hc3
        subst hc1; subst hc2; subst hc3
        refine ⟨_, setRow_heap w g cur _ e _ hgg, ?_⟩
        simp; omega
      · have holds : ∀ j u, xs[j]? = some u → w.cell? ((⟨g, 0, none⟩ : Addr).add j) = some u := hown.cells (g := g) rfl
        have hr2 := run_append_grow (P := P) w t ty e i z ht hi hz ⟨g, 0, none⟩ n cap xs (by rw [hsize]; exact hown.1) holds ad m c news (by rw [hsize]; exact hl) (hcells ad rfl) (by omega) (by unfold maxLen at h63; omega) (growslice_fits (by omega) hb)
        rw [hr2] at hr; injection hr with e1 e2; subst e1
        have he2 := e2
        refine ⟨ofg hg (fun k c' e' f hk hc => ⟨c', ?_, rfl⟩), .inr fun g' hg' => ?_⟩
        · rw [← he2]
          show (w.heap.push _)[k]? = _
          rw [Array.getElem?_push, if_neg (by have := hlt hc; omega)]; exact hc
        · simp [Value.ownBlock] at hg'; omega
/-- Appending to a row of one's own. -/
theorem fAppR {t ty : TypeId} {sz n m : Nat} {v y : Value} {cs ds : List Value} {K : Value → World → Prop} (b : Nat) (h : Fr w0 w F) (i : Nat) (hi : F[i]? = some (rIt (elOf P t) sz v n cs)) (hy : Sl w sz y m ds) (h1 : ∀ u ∈ ds, u.oneCell' = true) (hb : (n + m) * b ≤ 140737488355328) (hm : n + m ≤ maxLen)
    (hk : ∀ v' w', Fr w0 w' (F.set i (rIt (elOf P t) sz v' (n + m) (cs ++ ds))) → K v' w') (ht : slRow P t sz b = true := by kernel_rfl) (hsz : 0 < sz := by decide) : gApp P #[t, t] ty #[v, y] w K := by
  obtain ⟨hu, ii, z, hii, hz, hs, hzs, hbb⟩ := slRow_ok ht
  obtain ⟨v', w', hr, ho, hc, hmv⟩ := run_append_ownS (P := P) t ty hu hii hz hs hzs hsz (h.get i hi) hy h1 (Nat.le_trans (Nat.mul_le_mul_left _ hbb) hb) hm (Nat.zero_le _)
  refine ⟨v', w', hr, hk v' w' (h.upd i hi hc (fun k _ hh => .inl hh) ho fun k hk => ?_)⟩
  rcases hmv with hmv | hmv
  · have hk : v'.ownBlock = some k := hk
    rw [hmv] at hk; exact .inl hk
  · exact .inr (hmv k hk)
/-- make of a row. -/
theorem fMakeR {t : TypeId} {n sz : Nat} {K : Value → World → Prop} (b : Nat) (z : Value) (h : Fr w0 w F) (hn : b * n ≤ 281474976710656) (hm : n ≤ maxLen)
    (hk : ∀ v w', Fr w0 w' (rIt (elOf P t) sz v n (madeCells z.cells (n * sz)).toList :: F) → K v w') (hz : (P.info? (elOf P t)).bind (·.zero) = some z) (ht : slRow P t sz b = true := by kernel_rfl) : gMake P t (.int .i64 (n : Int)) (.int .i64 (n : Int)) w K := by
  obtain ⟨hu, ii, z', hii, hz', hs, hzs, hbb⟩ := slRow_ok ht
  rw [hii] at hz
  simp only [Option.bind_some] at hz
  rw [hz] at hz'; injection hz' with hz'; subst hz'
  obtain ⟨w', hr, ho, hg⟩ := run_make_full (P := P) w w.heap.size t (elOf P t) ii z sz hu hii hz hs .i64 .i64 n (Nat.le_trans (Nat.mul_le_mul_right _ hbb) hn) hm (Nat.le_refl _)
  refine ⟨_, w', hr, hk _ w' (h.new ?_ (rIt_low ho) fun k hk => (ho.lt k hk).1)⟩
  exact ⟨hg.os, hg.tape, hg.output, hg.size, fun k hk _ => hg.block k hk (by simp), fun k c e f hc => ⟨c, by rw [hg.block k (hlt hc) (by simp)]; exact hc, rfl, fun _ _ => rfl⟩, fun k o hk _ => by rw [hg.block k (hlt hk) (by simp)]; exact hk⟩
/-- Where the j-th of a row stands. -/
def SltR (v : Value) (j sz : Nat) (ad : Addr) : Prop := ∃ g n c, v = .slice (some ⟨g, 0, none⟩) n c ∧ ad = ⟨g, j * sz, none⟩
theorem gIdx_r {t e : TypeId} {ki : IntKind} {B sz n j : Nat} {v : Value} {cs : List Value} {i : Int} {K : Addr → Prop} (h : w.ownsRow B e sz v n cs) (hij : i = (j : Int)) (h1 : j < n) (hk : ∀ ad, SltR v j sz ad → K ad) (ht : slSz P t sz = true := by kernel_rfl) : gIdx P t v (.int ki i) K := by
  obtain ⟨hu, ii, hi, hsz⟩ := slSz_ok ht
  subst hij
  rcases h.2 with ⟨rfl, hn⟩ | ⟨g, cap, cur, rfl, hb, hg, hn, hm, hs, htk⟩
  · omega
  · refine ⟨⟨g, j * sz, none⟩, fun w => ?_, hk _ ⟨g, _, _, rfl, rfl⟩⟩
    simp only [Instr.indexAt, asIntOf, Sem.run_bind, Sem.run_pure, Result.andThen_ok, run_underlying hu]
    rw [if_pos ⟨by omega, by omega⟩]
    simp [sizeOf, typeInfo, hi, hsz, Addr.add_lit]
theorem SltR.cell {e : TypeId} {B sz n j q : Nat} {v u : Value} {cs : List Value} {ad : Addr} (h : w.ownsRow B e sz v n cs) (hs : SltR v j sz ad) (hu : cs[j * sz + q]? = some u) : w.cell? (ad.add q) = some u := by
  obtain ⟨g, n', c, rfl, rfl⟩ := hs
  have := h.cells (g := g) rfl (j * sz + q) u hu
  rw [Addr.add_lit, Nat.zero_add] at this
  rw [Addr.add_lit]; exact this
/-- A thing of a row is another one. -/
theorem fStoreR {t e : TypeId} {sz n j : Nat} {v : Value} {cs : List Value} {ad : Addr} {ds : Array Value} {K : World → Prop} (h : Fr w0 w F) (i : Nat) (hi : F[i]? = some (rIt e sz v n cs)) (hs : SltR v j sz ad) (hj : j < n) (hd : ds.size = sz) (h1 : ∀ u ∈ ds.toList, u.oneCell' = true)
    (hk : ∀ w', Fr w0 w' (F.set i (rIt e sz v n (cs.take (j * sz) ++ ds.toList ++ cs.drop (j * sz + sz)))) → K w') (ht : sizeIs P t sz = true := by kernel_rfl) : gStore P t (.pointer (some ad)) (.agg ds) w K := by
  have ho : w.ownsRow 0 e sz v n cs := h.get i hi
  obtain ⟨g, n', c, rfl, rfl⟩ := hs
  have hle : (j + 1) * sz ≤ n * sz := Nat.mul_le_mul_right _ hj
  rw [Nat.add_mul, Nat.one_mul] at hle
  rcases ho.2 with ⟨hn, _⟩ | ⟨g', cap, cur, hv, hb, hg, hn, hm, hcs, htk⟩
  · simp at hn
  simp only [Value.slice.injEq, Option.some.injEq, Addr.mk.injEq, and_true] at hv
  obtain ⟨rfl, rfl, rfl⟩ := hv
  have hlen : cs.length = n' * sz := ho.1
  have hst : St w ⟨g, 0, none⟩ cs := ⟨rfl, cur, e, hg, fun q u hq => by
    rw [← htk, List.getElem?_take] at hq
    dsimp only; rw [Nat.zero_add]
    split at hq
    · rw [Array.getElem?_toList] at hq; exact hq
    · cases hq⟩
  have hadd : (⟨g, j * sz, none⟩ : Addr) = (⟨g, 0, none⟩ : Addr).add (j * sz) := by rw [Addr.add_lit, Nat.zero_add]
  rw [hadd]
  refine gStore_agg hst (by rw [hd, hlen]; omega) h1 (fun w' hc _ hS => hk w' (h.upd i hi hc (fun k _ hh => .inl ?_) ?_ fun k hk => .inl hk)) (by rw [hd]; exact ht)
  · have h2 := hh.1
    rw [Addr.add_lit] at h2
    show some g = some k
    rw [h2]
  · rw [hd] at hS
    obtain ⟨c', k1, k2, _⟩ := hc.cel _ _ _ _ hg
    refine ⟨?_, .inr ⟨g, c, c', rfl, Nat.zero_le _, k1, hn, hm, by rw [k2]; exact hcs, ?_⟩⟩
    · simp only [List.length_append, List.length_take, List.length_drop, Array.length_toList, hd, hlen]; omega
    · obtain ⟨_, c2, e2, s1, s2⟩ := hS
      dsimp only at s1 s2
      rw [k1] at s1; injection s1 with s1; injection s1 with s1 _ _; subst s1
      refine List.ext_getElem? fun q => ?_
      rw [List.getElem?_take]
      have hl2 : (cs.take (j * sz) ++ ds.toList ++ cs.drop (j * sz + sz)).length = n' * sz := by simp only [List.length_append, List.length_take, List.length_drop, Array.length_toList, hd, hlen]; omega
      split
      · rename_i hq
        have hx := s2 q _ (List.getElem?_eq_getElem (by rw [hl2]; exact hq))
        rw [Nat.zero_add] at hx
        rw [Array.getElem?_toList, hx, List.getElem?_eq_getElem (by rw [hl2]; exact hq)]
      · rename_i hq
        rw [List.getElem?_eq_none (by rw [hl2]; omega)]
/-- The same where a thing is one cell. -/
theorem fStoreR1 {t e : TypeId} {n j : Nat} {v u : Value} {cs : List Value} {ad : Addr} {K : World → Prop} (h : Fr w0 w F) (i : Nat) (hi : F[i]? = some (rIt e 1 v n cs)) (hs : SltR v j 1 ad) (hj : j < n) (hu : u.oneCell' = true) (hcl : u.cells = #[u])
    (hk : ∀ w', Fr w0 w' (F.set i (rIt e 1 v n (cs.set j u))) → K w') (ht : flat1 P t = true := by kernel_rfl) : gStore P t (.pointer (some ad)) u w K := by
  have ho : w.ownsRow 0 e 1 v n cs := h.get i hi
  obtain ⟨g, n', c, rfl, rfl⟩ := hs
  rcases ho.2 with ⟨hn, _⟩ | ⟨g', cap, cur, hv, hb, hg, hn, hm, hcs, htk⟩
  · simp at hn
  simp only [Value.slice.injEq, Option.some.injEq, Addr.mk.injEq, and_true] at hv
  obtain ⟨rfl, rfl, rfl⟩ := hv
  have hlen : cs.length = n' * 1 := ho.1
  have hst : St w ⟨g, 0, none⟩ cs := ⟨rfl, cur, e, hg, fun q u hq => by
    rw [← htk, List.getElem?_take] at hq
    dsimp only; rw [Nat.zero_add]
    split at hq
    · rw [Array.getElem?_toList] at hq; exact hq
    · cases hq⟩
  have hadd : (⟨g, j * 1, none⟩ : Addr) = (⟨g, 0, none⟩ : Addr).add j := by rw [Addr.add_lit, Nat.zero_add, Nat.mul_one]
  rw [hadd]
  refine gStore_st hst (by rw [hlen]; omega) hu hcl (fun w' hc _ hS => hk w' (h.upd i hi hc (fun k _ hh => .inl ?_) ?_ fun k hk => .inl hk)) ht
  · have h2 := hh.1
    rw [Addr.add_lit] at h2
    show some g = some k
    rw [h2]
  · obtain ⟨c', k1, k2, _⟩ := hc.cel _ _ _ _ hg
    refine ⟨by rw [List.length_set]; exact hlen, .inr ⟨g, c, c', rfl, Nat.zero_le _, k1, hn, hm, by rw [k2]; exact hcs, ?_⟩⟩
    obtain ⟨_, c2, e2, s1, s2⟩ := hS
    dsimp only at s1 s2
    rw [k1] at s1; injection s1 with s1; injection s1 with s1 _ _; subst s1
    refine List.ext_getElem? fun q => ?_
    rw [List.getElem?_take]
    have hl2 : (cs.set j u).length = n' * 1 := by rw [List.length_set]; exact hlen
    split
    · rename_i hq
      have hx := s2 q _ (List.getElem?_eq_getElem (by rw [hl2]; exact hq))
      rw [Nat.zero_add] at hx
      rw [Array.getElem?_toList, hx, List.getElem?_eq_getElem (by rw [hl2]; exact hq)]
    · rename_i hq
      rw [List.getElem?_eq_none (by rw [hl2]; omega)]
/-- A load of a struct that comes to the same in every world that meets B. -/
theorem gLoadB_agg {t : TypeId} {cks : List Ck} {ad : Addr} {B : World → Prop} {K : TF cks Prop} (vs : List Value) (hc : ∀ w, B w → ∀ j u, vs[j]? = some u → w.cell? (ad.add j) = some u) (hk : tapp False cks K vs) (hl : vs.length = cks.length := by rfl) (ht : aggB P t vs.length = true := by kernel_rfl) : gLoadB P t (.part (.agg cks)) (.pointer (some ad)) B K :=
  (tex_of_tapp hk hl (p := fun vs => ∀ w, B w → (Instr.loadAt t (.pointer (some ad))).run P w = .ok (.agg vs.toArray) w) (fun w hB => run_loadAgg (hc w hB) ht))
/-- An empty literal. -/
theorem fLitR0 {t : TypeId} {sz : Nat} {parts : Array (Nat × Value)} {K : Value → World → Prop} (h : Fr w0 w F) (hp : parts = #[]) (hk : ∀ v w', Fr w0 w' (rIt (elOf P t) sz v 0 [] :: F) → K v w') (ht : slSz P t sz = true := by kernel_rfl) : gLit P t 0 parts w K := by
  obtain ⟨hu, i, hi, hsz⟩ := slSz_ok ht
  subst hp
  have hrun : (Instr.buildSlice t 0 #[]).run P w = .ok (.slice (some ⟨w.heap.size, 0, none⟩) 0 0) (w.alloc (.cells #[] (elOf P t))) := by
    simp only [Instr.buildSlice, Sem.run_bind, run_underlying hu, Result.andThen_ok, sizeOf, typeInfo, run_program, hi, Sem.run_pure, hsz]
    have he : ∀ f : Nat → Value, Array.map f (Array.range 0) = #[] := fun f => Array.eq_empty_of_size_eq_zero (by simp)
    simp [newRow, he, Instr.fill]
  have ho := World.ownsRow_lit (base := w.heap.size) (e := elOf P t) (size := sz) w #[] 0 (Nat.le_refl _) (by decide) (by simp)
  exact ⟨_, _, hrun, hk _ _ (h.new (jt := rIt (elOf P t) sz (.slice (some ⟨w.heap.size, 0, none⟩) 0 0) 0 []) (Ev.alloc w _) (rIt_low ho) fun k hk => (ho.lt k hk).1)⟩
/-- A slice held against nil. -/
theorem run_equal_snil {t e : TypeId} {a : Option Addr} {n c : Nat} (hu : P.underlying t = some (.slice e)) : (Op.equal t (.slice a n c) (.slice none 0 0)).run P w = .ok a.isNone w := by
  have hm : Op.maxDepth = 9999 + 1 := rfl
  unfold Op.equal
  rw [hm]
  generalize 9999 = d
  unfold Op.equalIn
  simp only [Sem.run_bind, run_underlying hu, Result.andThen_ok]
  cases a <;> rfl
theorem gEq_snil {t : TypeId} {a : Option Addr} {n c : Nat} {K : Bool → Prop} (hk : K a.isNone) (ht : (match P.underlying t with | some (.slice _) => true | _ => false) = true := by kernel_rfl) : gEq P .eql t (.slice a n c) (.slice none 0 0) K := by
  have hu : ∃ e, P.underlying t = some (.slice e) := by
    split at ht
    · rename_i e h; exact ⟨e, h⟩
    · cases ht
  obtain ⟨e, hu⟩ := hu
  refine ⟨a.isNone, fun cx cy w => ⟨by cases a <;> rfl, ?_⟩, hk⟩
  have hb : binOp .eql t (.slice a n c) (.slice none 0 0) = (do pure (.bool (← Op.equal t (.slice a n c) (.slice none 0 0)))) := by cases a <;> rfl
  rw [hb]; simp only [Sem.run_bind, run_equal_snil hu, Result.andThen_ok, Sem.run_pure]
end
end Go.Proofs.YtiimlfgjnapgjaaGreatDoorV

/- Rows that are owned: parts of them, room behind them, copies into them, cleared parts. -/
namespace Go.Proofs.YtiimlfgjnapgjaaGreatDoorV
open Go Go.RowKit
section
variable {P : Program} {w0 w : World} {F : List It} {e : TypeId} {sz g n c : Nat} {cs : List Value}
end
end Go.Proofs.YtiimlfgjnapgjaaGreatDoorV

/- Slices of numbers of one's own, in a frame: an element set, read, a part put behind. -/
namespace Go.Proofs.YtiimlfgjnapgjaaGreatDoorV
open Go Go.RowKit
section
variable {P : Program} {w0 w : World} {F : List It}
theorem gGet {t te : TypeId} {k ki : IntKind} {v : Value} {xs : List Int} {i : Int} {K : Int → Prop} (h : Nm k w v xs) (h0 : 0 ≤ i) (h1 : i < xs.length) (hk : K (rd xs i)) (ht : slInt P t k = true := by kernel_rfl) (htf : flat P te = true := by kernel_rfl) :
    gIdx P t v (.int ki i) fun ad => gLoad P te (shI k) (.pointer (some ad)) w K :=
  gIdx_nm h h0 h1 (fun ad c _ => gLoad_i c hk htf) ht
theorem gIf_nnb {b : Bool} {A B : Prop} (ha : b = true → A) (hb : b = false → B) : gIf (!(!b)) A B := by cases b; exact hb rfl; exact ha rfl
end
end Go.Proofs.YtiimlfgjnapgjaaGreatDoorV
