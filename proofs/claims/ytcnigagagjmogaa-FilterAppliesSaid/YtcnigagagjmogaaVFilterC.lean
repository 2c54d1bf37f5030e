/- Package filter: weight, Best, Paeth, right. -/
import Derived.Test.YtcnigagagjmogaaVFilterB
import Derived.Test.YtcnigagagjmogaaVNodes3
namespace Go.Proofs.YtcnigagagjmogaaV
open Go Go.RowKit

def wt (c : Int) : Int := if 256 - c < c then 256 - c else c
theorem wt_bd {c : Int} (h : rng c) : 0 ≤ wt c ∧ wt c ≤ 128 := by unfold wt; split <;> omega
def weightN (xs : List Int) : Nat → Int
  | 0 => 0
  | j + 1 => weightN xs j + wt (rd xs j)
theorem weightN_bd {xs : List Int} (h : inR .u8 xs) : ∀ j, 0 ≤ weightN xs j ∧ weightN xs j ≤ 128 * j
  | 0 => by simp [weightN]
  | j + 1 => by have := weightN_bd h j; have := wt_bd (rd_u8 h j); simp only [weightN]; omega
theorem weight_any {l : Value} {xs : List Int} {w : World} (h : Nm .u8 w l xs) (hl : xs.length ≤ 1000000000) : Calls P n_filter_weight #[l] w (fun e w' => e = .returned (.int .i64 (weightN xs xs.length)) ∧ w' = w) := by
  refine of_filter_weight (gLen_nm h ⟨fun n i w' => ∃ j : Nat, i = j ∧ j ≤ xs.length ∧ n = weightN xs j ∧ w' = w, fun _ i _ => xs.length - i.toNat, ⟨0, rfl, by omega, rfl, rfl⟩, ?_⟩)
  rintro _ n i _ ⟨j, rfl, hj, rfl, rfl⟩
  refine gIf_dec (fun hlt => ?_) (fun hge => ⟨?_, rfl⟩)
  · refine gIdx_nm h (by omega) (by omega) fun ad hc _ => gLoad_i hc ?_
    have hr := rd_u8 h.2 j
    have hb := weightN_bd h.2 j
    have hw := wt_bd hr
    have e1 : i64 (rd xs j) = rd xs j := i64_id (by omega) (by omega)
    have e2 : i64 (256 - rd xs j) = 256 - rd xs j := i64_id (by omega) (by omega)
    have e3 : i64 ((j : Int) + 1) = j + 1 := i64_id (by omega) (by omega)
    rw [e1, e2, e3, show (if 256 - rd xs j < rd xs j then 256 - rd xs j else rd xs j) = wt (rd xs j) from rfl, i64_id (by omega) (by omega)]
    exact ⟨⟨j + 1, by omega, by omega, rfl, rfl⟩, by dsimp only; omega⟩
  · rw [show j = xs.length by omega]
/-- The best kind of those up to k, and what it leaves. -/
def bestN (f : Int → Int) : Nat → Int × Int
  | 0 => (0, f 0)
  | k + 1 => if f ((k + 1 : Nat) : Int) < (bestN f k).2 then (((k + 1 : Nat) : Int), f ((k + 1 : Nat) : Int)) else bestN f k
theorem bestN_bd (f : Int → Int) : ∀ k, 0 ≤ (bestN f k).1 ∧ (bestN f k).1 ≤ k ∧ (bestN f k).2 = f (bestN f k).1
  | 0 => by simp [bestN]
  | k + 1 => by
    have := bestN_bd f k
    simp only [bestN]; split
    · exact ⟨by dsimp only; omega, by dsimp only; omega, rfl⟩
    · exact ⟨this.1, by omega, this.2.2⟩
def leftW (xs us : List Int) (p k : Int) : Int := weightN (rowN k xs us (planesI p) xs.length) xs.length
def bestI (xs us : List Int) (p : Int) : Int := (bestN (leftW xs us p) 4).1
theorem Best_any {row up : Value} {xs us : List Int} {p : Int} {w : World} (hr : Nm .u8 w row xs) (hu : Nm .u8 w up us) (hl : xs.length ≤ 1000000000) (hp : p ≤ 9223372036854775807) :
    Calls P n_filter_Best #[row, up, .int .i64 p] w (fun e w' => e = .returned (.int .i64 (bestI xs us p)) ∧ Ev w w') := by
  have one : ∀ {w1 : World} (_ : Ev w w1) (k : Int) (K : Int → World → Prop), (∀ w2, Ev w w2 → K (leftW xs us p k) w2) →
      gCall P n_filter_Row shV #[.int .i64 k, row, up, .int .i64 p] w1 fun (v : Value) w2 => gCall P n_filter_weight (shI .i64) #[v] w2 K := fun {w1} he k K hK => by
    refine gCall_of (Row_any (hr.ev he) (hu.ev he) hl hp) ?_
    rintro _ w2 ⟨v, rfl, h2, hO⟩
    refine ⟨v, rfl, gCall_of (weight_any hO.nm (by rw [rowN_len]; exact hl)) ?_⟩
    rintro _ _ ⟨rfl, rfl⟩
    refine ⟨_, rfl, ?_⟩
    rw [rowN_len]; exact hK _ (he.trans h2)
  refine of_filter_Best (one (Ch.refl _ w) 0 _ fun w2 h2 => ⟨fun best least k w' => ∃ j : Nat, k = j + 1 ∧ j ≤ 4 ∧ (best, least) = bestN (leftW xs us p) j ∧ Ev w w', fun _ _ k _ => 5 - k.toNat, ⟨0, rfl, by omega, rfl, h2⟩, ?_⟩)
  rintro _ best least k w3 ⟨j, rfl, hj, hb, h3⟩
  refine gIf_dec (fun hlt => ?_) (fun hge => ⟨?_, h3⟩)
  · refine one h3 _ _ fun w5 h5 => ?_
    have e3 : i64 ((j : Int) + 1 + 1) = j + 1 + 1 := i64_id (by omega) (by omega)
    rw [e3]
    have hb2 : least = (bestN (leftW xs us p) j).2 := congrArg Prod.snd hb
    refine gIf_dec (fun hs => ⟨⟨j + 1, by omega, by omega, ?_, h5⟩, by dsimp only; omega⟩) (fun hs => ⟨⟨j + 1, by omega, by omega, ?_, h5⟩, by dsimp only; omega⟩)
    · simp only [bestN]; rw [← hb2, if_pos (by simpa using hs)]; simp
    · simp only [bestN]; rw [← hb2, if_neg (by simpa using hs)]; exact hb
  · obtain rfl : j = 4 := by omega
    have : best = bestI xs us p := congrArg Prod.fst hb
    rw [this]
theorem Paeth_any {a b c : Int} {w : World} (ha : rng a) (hb : rng b) (hc : rng c) : Calls P n_filter_Paeth #[.int .u8 a, .int .u8 b, .int .u8 c] w (fun e w' => e = .returned (.int .u8 (paethI a b c)) ∧ Ev w w') := by
  have e1 : i64 a = a := i64_id (by omega) (by omega)
  have e2 : i64 b = b := i64_id (by omega) (by omega)
  have e3 : i64 c = c := i64_id (by omega) (by omega)
  refine of_filter_Paeth (gAlloc_of (z := .agg #[.int .i64 0, .int .i64 0, .int .i64 0]) (by kernel_rfl) fun ad w1 h1 had _ hS => ?_)
  rw [e1, e2, e3]
  refine gStore_agg0 hS (by simp [Value.cells]) (by simp; exact ⟨rfl, rfl, rfl⟩) (fun w2 h2 _ hS2 => gCall_of (paeth_any hS2 ha hb hc) ?_) (by kernel_rfl)
  rintro _ w3 ⟨rfl, h3⟩
  have := paethI_rng ha hb hc
  refine ⟨_, rfl, by rw [u8_id this.1 this.2], (h1.new h2 fun n i hh => ?_).trans h3⟩
  have := hh.1; rw [had] at this; dsimp only at this; omega
def rightI (width p : Int) : Bool := decide (width ≥ 1) && decide (width ≤ 1048576) && decide (p ≥ 1) && decide (p ≤ 4)
theorem right_any {width p : Int} {w : World} : Calls P n_filter_right #[.int .i64 width, .int .i64 p] w (fun e w' => e = .returned (.bool (rightI width p)) ∧ w' = w) := by
  refine of_filter_right (gIf_dec (fun h1 => gIf_dec (fun h2 => gIf_dec (fun h3 => ⟨?_, rfl⟩) (fun h3 => ⟨?_, rfl⟩)) (fun h2 => ⟨?_, rfl⟩)) (fun h1 => ⟨?_, rfl⟩)) <;> simp [rightI, *]
end Go.Proofs.YtcnigagagjmogaaV
