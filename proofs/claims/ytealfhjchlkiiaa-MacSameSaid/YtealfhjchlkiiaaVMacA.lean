/- Package mac: a key, a tag; Same. -/
import Derived.Test.YtealfhjchlkiiaaVShaE
import Derived.Test.YtealfhjchlkiiaaVHelp
namespace Go.Proofs.YtealfhjchlkiiaaV
open Go Go.RowKit
def keyK (key : List Int) : List Int := if key.length > 64 then sumF key else key
def xorK (key : List Int) (b : Int) : List Int := (List.range 64).map fun (i : Nat) => iXor .u8 (rd (keyK key) (i : Int)) b
/-- The tag of a text. -/
def macF (key msg : List Int) : List Int := sumF (xorK key 92 ++ sumF (xorK key 54 ++ msg))
theorem sumF_len (msg : List Int) : (sumF msg).length = 32 := by unfold sumF; rw [outF_len, blkF_len _ (stK_len _ _)]
theorem sumF_in (msg : List Int) : inR .u8 (sumF msg) := outF_in _
theorem xorK_len (key : List Int) (b : Int) : (xorK key b).length = 64 := by unfold xorK; simp
theorem iXor_u8' (a b : Int) : IntKind.u8.min ≤ iXor .u8 a b ∧ iXor .u8 a b ≤ IntKind.u8.max := u8i (by unfold iXor; show 0 ≤ u8 _ ∧ u8 _ < 256; rw [u8_def]; omega)
theorem xorK_in (key : List Int) (b : Int) : inR .u8 (xorK key b) := fun x hx => by
  obtain ⟨i, _, rfl⟩ := List.mem_map.1 hx; exact iXor_u8' _ _
theorem keyK_len (key : List Int) : (keyK key).length ≤ 64 := by unfold keyK; split; rw [sumF_len]; decide; omega
theorem iXor_eq0 {a b : Int} (ha : 0 ≤ a ∧ a < 256) (hb : 0 ≤ b ∧ b < 256) : iXor .u8 a b = 0 ↔ a = b := by
  obtain ⟨a, rfl⟩ := Int.eq_ofNat_of_zero_le ha.1
  obtain ⟨b, rfl⟩ := Int.eq_ofNat_of_zero_le hb.1
  rw [iXor_nat rfl (by rw [bits8]; omega) (by rw [bits8]; omega)]
  constructor
  · intro h
    have h : a ^^^ b = 0 := by omega
    have : a = b := by
      have h2 := congrArg (· ^^^ b) h
      simp only [Nat.xor_assoc, Nat.xor_self, Nat.xor_zero, Nat.zero_xor] at h2
      exact h2
    rw [this]
  · intro h
    have : a = b := by omega
    subst this; rw [Nat.xor_self]; rfl
theorem iOr_eq0 {a b : Int} (ha : 0 ≤ a ∧ a < 256) (hb : 0 ≤ b ∧ b < 256) : (iOr .u8 a b = 0 ↔ a = 0 ∧ b = 0) ∧ 0 ≤ iOr .u8 a b ∧ iOr .u8 a b < 256 := by
  obtain ⟨a, rfl⟩ := Int.eq_ofNat_of_zero_le ha.1
  obtain ⟨b, rfl⟩ := Int.eq_ofNat_of_zero_le hb.1
  rw [iOr_nat rfl (by rw [bits8]; omega) (by rw [bits8]; omega)]
  have hlt : a ||| b < 2 ^ 8 := Nat.or_lt_two_pow (by omega) (by omega)
  refine ⟨⟨fun h => ?_, fun h => ?_⟩, by omega, by omega⟩
  · have h : a ||| b = 0 := by omega
    have := Nat.or_eq_zero_iff.1 h
    omega
  · have h1 : a = 0 := by omega
    have h2 : b = 0 := by omega
    subst h1; subst h2; rfl
theorem Same_any {a b : Value} {xs ys : List Int} {w : World} (ha : Nm .u8 w a xs) (hb : Nm .u8 w b ys) (hl : xs.length ≤ 9223372036854775807) : Calls P n_mac_Same #[a, b] w (fun e w' => e = .returned (.bool (decide (xs = ys))) ∧ w' = w) := by
  refine of_mac_Same (gLen_nm ha (gLen_nm hb (gIf_neq (fun hne => ⟨by rw [decide_eq_false fun h => hne (by rw [h])], rfl⟩) (fun heq => gLen_nm ha ?_))))
  have hle : xs.length = ys.length := by omega
  refine ⟨fun x i w' => ∃ j : Nat, i = j ∧ j ≤ xs.length ∧ (0 ≤ x ∧ x < 256) ∧ (x = 0 ↔ ∀ q : Nat, q < j → rd xs q = rd ys q) ∧ w' = w, fun _ i _ => xs.length - i.toNat, ⟨0, rfl, by omega, by omega, ⟨fun _ q hq => by omega, fun _ => rfl⟩, rfl⟩, ?_⟩
  rintro _ x i _ ⟨j, rfl, hj, hx, hq, rfl⟩
  refine gIf_dec (fun hlt => ?_) (fun hge => ⟨?_, rfl⟩)
  · refine gIdx_nm ha (by omega) hlt fun a1 c1 _ => gLoad_i c1 (gIdx_nm hb (by omega) (by omega) fun a2 c2 _ => gLoad_i c2 ?_)
    have h1 := rd_u8 ha.2 (j : Int)
    have h2 := rd_u8 hb.2 (j : Int)
    have h3 := u8_rng (iXor_u8' (rd xs (j : Int)) (rd ys (j : Int)))
    obtain ⟨h4, h5⟩ := iOr_eq0 hx h3
    rw [i64_id (n := (j : Int) + 1) (by omega) (by omega)]
    refine ⟨⟨j + 1, by omega, by omega, h5, ?_, rfl⟩, by dsimp only; omega⟩
    rw [h4, iXor_eq0 h1 h2, hq]
    constructor
    · rintro ⟨g1, g2⟩ q hq'
      rcases Nat.lt_or_ge q j with h | h
      · exact g1 q h
      · have : q = j := by omega
        subst this; exact g2
    · intro h; exact ⟨fun q hq' => h q (by omega), h j (by omega)⟩
  · have hjl : j = xs.length := by omega
    subst hjl
    congr 2
    rw [show (x == 0) = decide (x = 0) from rfl]
    refine decide_eq_decide.2 (hq.trans ⟨fun h => List.ext_getElem hle fun q h1 h2 => ?_, fun h q _ => by rw [h]⟩)
    rw [← rd_nat xs q h1, ← rd_nat ys q h2]; exact h q h1
end Go.Proofs.YtealfhjchlkiiaaV
