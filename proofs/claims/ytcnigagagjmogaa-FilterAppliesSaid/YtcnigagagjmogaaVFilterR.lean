/- Package valiseref17: what its functions compute: the same as filter's. -/
import Derived.Test.YtcnigagagjmogaaVFilterE
namespace Go.Proofs.YtcnigagagjmogaaV
open Go Go.RowKit

theorem rof_any {l : Value} {xs : List Int} {i : Int} {w : World} (h : Nm .u8 w l xs) : Calls P n_valiseref17_of #[l, .int .i64 i] w (fun e w' => e = .returned (.int .u8 (ofL xs i)) ∧ w' = w) := by
  refine of_valiseref17_of (gIf_ndec (fun h0 => gLen_nm h (gIf_dec (fun h1 => ⟨?_, rfl⟩) (fun h1 => ?_))) (fun h0 => ⟨?_, rfl⟩))
  · unfold ofL; rw [if_pos (.inr h1)]
  · refine gIdx_nm h (by omega) (by omega) fun ad hc _ => gLoad_i hc ⟨?_, rfl⟩
    unfold ofL; rw [if_neg (by omega)]
  · unfold ofL; rw [if_pos (.inl h0)]
theorem amount_any {v : Int} {w : World} (hv : -100000 ≤ v ∧ v ≤ 100000) : Calls P n_valiseref17_amount #[.int .i64 v] w (fun e w' => e = .returned (.int .i64 (farI v 0)) ∧ w' = w) := by
  refine of_valiseref17_amount ⟨?_, rfl⟩
  rw [i64_id (by omega) (by omega)]
  unfold farI; rw [Int.sub_zero]
theorem farI_sub (a b : Int) : farI (a - b) 0 = farI a b := by unfold farI; split <;> split <;> omega
theorem rPaeth_any {a b c : Int} {w : World} (ha : rng a) (hb : rng b) (hc : rng c) : Calls P n_valiseref17_Paeth #[.int .u8 a, .int .u8 b, .int .u8 c] w (fun e w' => e = .returned (.int .u8 (paethI a b c)) ∧ w' = w) := by
  have e1 : i64 a = a := i64_id (by omega) (by omega)
  have e2 : i64 b = b := i64_id (by omega) (by omega)
  have e3 : i64 c = c := i64_id (by omega) (by omega)
  refine of_valiseref17_Paeth ?_
  rw [e1, e2, e3, i64_id (n := a + b) (by omega) (by omega), i64_id (n := a + b - c) (by omega) (by omega), i64_id (n := a + b - c - a) (by omega) (by omega), i64_id (n := a + b - c - b) (by omega) (by omega), i64_id (n := a + b - c - c) (by omega) (by omega)]
  refine gCall_of (amount_any (by omega)) ?_
  rintro _ _ ⟨rfl, rfl⟩
  refine ⟨_, rfl, gCall_of (amount_any (by omega)) ?_⟩
  rintro _ _ ⟨rfl, rfl⟩
  refine ⟨_, rfl, gCall_of (amount_any (by omega)) ?_⟩
  rintro _ _ ⟨rfl, rfl⟩
  refine ⟨_, rfl, ?_⟩
  rw [farI_sub, farI_sub, farI_sub]
  unfold paethI
  refine gIf_dec (fun h1 => gIf_dec (fun h2 => ⟨?_, rfl⟩) (fun h2 => gIf_dec (fun h3 => ⟨?_, rfl⟩) (fun h3 => ⟨?_, rfl⟩))) (fun h1 => gIf_dec (fun h3 => ⟨?_, rfl⟩) (fun h3 => ⟨?_, rfl⟩))
  · rw [if_pos ⟨h1, h2⟩]
  · rw [if_neg (fun h => h2 h.2), if_pos h3]
  · rw [if_neg (fun h => h2 h.2), if_neg h3]
  · rw [if_neg (fun h => h1 h.1), if_pos h3]
  · rw [if_neg (fun h => h1 h.1), if_neg h3]
theorem rguess_any {kind : Int} {row up : Value} {xs us : List Int} {i p : Int} {w : World} (hr : Nm .u8 w row xs) (hu : Nm .u8 w up us) (hi : 0 ≤ i ∧ i ≤ 1000000000) (hp : p ≤ 9223372036854775807) :
    Calls P n_valiseref17_guess #[.int .i64 kind, row, up, .int .i64 i, .int .i64 p] w (fun e w' => e = .returned (.int .u8 (guessI kind (ofL xs (i - planesI p)) (ofL us i) (ofL us (i - planesI p)))) ∧ w' = w) := by
  have hpl : 1 ≤ planesI p ∧ planesI p ≤ 9223372036854775807 := by unfold planesI; split <;> omega
  refine of_valiseref17_guess ?_
  rw [show (if 1 > p then 1 else p) = planesI p from rfl, i64_id (n := i - planesI p) (by omega) (by omega)]
  refine gCall_of (rof_any hr) ?_
  rintro _ _ ⟨rfl, rfl⟩
  refine ⟨_, rfl, gCall_of (rof_any hu) ?_⟩
  rintro _ _ ⟨rfl, rfl⟩
  refine ⟨_, rfl, gCall_of (rof_any hu) ?_⟩
  rintro _ _ ⟨rfl, rfl⟩
  have h1 := ofL_u8 hr.2 (i - planesI p)
  have h2 := ofL_u8 hu.2 i
  have h3 := ofL_u8 hu.2 (i - planesI p)
  generalize ofL xs (i - planesI p) = a at h1
  generalize ofL us i = b at h2
  generalize ofL us (i - planesI p) = c at h3
  refine ⟨_, rfl, ?_⟩
  unfold guessI
  refine gIf_eq (fun e => ⟨by rw [if_pos e], rfl⟩) (fun n1 => ?_)
  rw [if_neg n1]
  refine gIf_eq (fun e => ⟨by rw [if_pos e], rfl⟩) (fun n2 => ?_)
  rw [if_neg n2]
  refine gIf_eq (fun e => ?_) (fun n3 => ?_)
  · rw [if_pos e]
    refine gCall_of (rPaeth_any h1 h2 h3) ?_
    rintro _ _ ⟨rfl, rfl⟩
    exact ⟨_, rfl, rfl, rfl⟩
  rw [if_neg n3]
  refine gIf_eq (fun e => ⟨?_, rfl⟩) (fun n4 => ⟨by rw [if_neg n4], rfl⟩)
  rw [if_pos e, i64_id (n := a) (by omega) (by omega), i64_id (n := b) (by omega) (by omega), i64_id (n := a + b) (by omega) (by omega), Int.tdiv_eq_ediv_of_nonneg (by omega), i64_id (by omega) (by omega), u8_id (by omega) (by omega)]
/-- One more byte behind bytes of one's own. -/
theorem push_any {w w2 : World} {out : Value} {B : Nat} {xs : List Int} {x : Int} {K : Value → World → Prop} (hw : Ev w w2) (hO : ON .u8 eB w2 B out xs) (hB : w.heap.size ≤ B) (hB2 : B ≤ w2.heap.size) (hx : rng x) (hl : xs.length ≤ 1000000000)
    (hk : ∀ v w4, Ev w w4 → ON .u8 eB w4 B v (xs ++ [x]) → B ≤ w4.heap.size → K v w4) :
    gLit P t_sl_uint8 1 #[(0, .int .u8 x)] w2 fun (t29 : Value) ww3 => Ev w ww3 ∧ gApp P #[t_sl_uint8, t_sl_uint8] t_sl_uint8 #[out, t29] ww3 fun (t30 : Value) ww4 => K t30 ww4 := by
  refine gLit_n (k := .u8) [x] rfl rfl (by decide) (inR_u8 (by simp; exact ⟨hx.1, hx.2⟩)) fun y w3 h3 hy => ⟨hw.trans h3, gApp_on (hO.ev h3) hy.nm (by simp; omega) (Nat.le_trans hB2 h3.size) fun v w4 hv h4 _ => hk v w4 ((hw.trans h3).new h4 fun g _ hg => Nat.le_trans hB (hO.base hg).1) hv (Nat.le_trans hB2 (Nat.le_trans h3.size h4.size))⟩
theorem rRow_any {row up : Value} {xs us : List Int} {kind p : Int} {w : World} (hr : Nm .u8 w row xs) (hu : Nm .u8 w up us) (hl : xs.length ≤ 1000000000) (hp : p ≤ 9223372036854775807) :
    Calls P n_valiseref17_Row #[.int .i64 kind, row, up, .int .i64 p] w (NewB w (rowN kind xs us (planesI p) xs.length)) := by
  refine of_valiseref17_Row ⟨fun out i w1 => ∃ j : Nat, i = j ∧ j ≤ xs.length ∧ Ev w w1 ∧ ON .u8 eB w1 w.heap.size out (rowN kind xs us (planesI p) j), fun _ i _ => xs.length - i.toNat, ⟨0, rfl, by omega, Ch.refl _ w, ON.nil _ _ _ _⟩, ?_⟩
  rintro _ out i w1 ⟨j, rfl, hj, h1, hO⟩
  refine gLen_nm hr (gIf_dec (fun hlt => ?_) (fun hge => ⟨out, rfl, h1, ?_⟩))
  · refine ⟨fun w' => Ev w w', h1.drew, gIdx_nm hr (by omega) (by omega) fun a1 c1 _ => gLoadB_i (fun w' hw' => hw'.cell c1 fun h => h) (gCall_of (rguess_any (hr.ev h1.drew) (hu.ev h1.drew) (by omega) hp) ?_)⟩
    rintro _ _ ⟨rfl, rfl⟩
    refine ⟨_, rfl, h1.drew, push_any h1.drew hO (Nat.le_refl _) h1.size (by rw [u8_def]; exact ⟨by omega, by omega⟩) (by rw [rowN_len]; omega) fun v w4 h4 hv _ => ⟨h4, ?_⟩⟩
    rw [i64_id (n := (j : Int) + 1) (by omega) (by omega)]
    rw [u8_def] at hv
    exact ⟨⟨j + 1, by omega, by omega, h4, hv⟩, by dsimp only; omega⟩
  · have : j = xs.length := by omega
    subst this; exact hO
theorem rUnrow_any {row up : Value} {xs us : List Int} {kind p : Int} {w : World} (hr : Nm .u8 w row xs) (hu : Nm .u8 w up us) (hl : xs.length ≤ 1000000000) (hp : p ≤ 9223372036854775807) :
    Calls P n_valiseref17_Unrow #[.int .i64 kind, row, up, .int .i64 p] w (NewB w (unrowN kind xs us (planesI p) xs.length)) := by
  refine of_valiseref17_Unrow ⟨fun out i w1 => ∃ j : Nat, i = j ∧ j ≤ xs.length ∧ Ev w w1 ∧ ON .u8 eB w1 w.heap.size out (unrowN kind xs us (planesI p) j), fun _ i _ => xs.length - i.toNat, ⟨0, rfl, by omega, Ch.refl _ w, ON.nil _ _ _ _⟩, ?_⟩
  rintro _ out i w1 ⟨j, rfl, hj, h1, hO⟩
  refine gLen_nm hr (gIf_dec (fun hlt => ?_) (fun hge => ⟨out, rfl, h1, ?_⟩))
  · refine ⟨fun w' => Ev w w', h1.drew, gIdx_nm hr (by omega) (by omega) fun a1 c1 _ => gLoadB_i (fun w' hw' => hw'.cell c1 fun h => h) (gCall_of (rguess_any hO.nm.drew (hu.ev h1.drew) (by omega) hp) ?_)⟩
    rintro _ _ ⟨rfl, rfl⟩
    refine ⟨_, rfl, h1.drew, push_any h1.drew hO (Nat.le_refl _) h1.size (by rw [u8_def]; exact ⟨by omega, by omega⟩) (by rw [unrowN_len]; omega) fun v w4 h4 hv _ => ⟨h4, ?_⟩⟩
    rw [i64_id (n := (j : Int) + 1) (by omega) (by omega)]
    rw [u8_def] at hv
    exact ⟨⟨j + 1, by omega, by omega, h4, hv⟩, by dsimp only; omega⟩
  · have : j = xs.length := by omega
    subst this; exact hO
theorem rweight_any {l : Value} {xs : List Int} {w : World} (h : Nm .u8 w l xs) (hl : xs.length ≤ 1000000000) : Calls P n_valiseref17_weight #[l] w (fun e w' => e = .returned (.int .i64 (weightN xs xs.length)) ∧ w' = w) := by
  refine of_valiseref17_weight ⟨fun n i w' => ∃ j : Nat, i = j ∧ j ≤ xs.length ∧ n = weightN xs j ∧ w' = w, fun _ i _ => xs.length - i.toNat, ⟨0, rfl, by omega, rfl, rfl⟩, ?_⟩
  rintro _ n i _ ⟨j, rfl, hj, rfl, rfl⟩
  refine gLen_nm h (gIf_dec (fun hlt => ?_) (fun hge => ⟨?_, rfl⟩))
  · have hr := rd_u8 h.2 j
    have hb := weightN_bd h.2 j
    have e1 : i64 (rd xs j) = rd xs j := i64_id (by omega) (by omega)
    have e3 : i64 ((j : Int) + 1) = j + 1 := i64_id (by omega) (by omega)
    refine gIdx_nm h (by omega) (by omega) fun ad hc _ => gLoad_i hc (gIf_dec (fun hgt => gIdx_nm h (by omega) (by omega) fun ad2 hc2 _ => gLoad_i hc2 ?_) (fun hng => gIdx_nm h (by omega) (by omega) fun ad2 hc2 _ => gLoad_i hc2 ?_))
    · rw [e1, e3, i64_id (n := weightN xs j + 256) (by omega) (by omega), i64_id (n := weightN xs j + 256 - rd xs j) (by omega) (by omega)]
      refine ⟨⟨j + 1, by omega, by omega, ?_, rfl⟩, by dsimp only; omega⟩
      simp only [weightN, wt]; rw [if_pos (by omega)]; omega
    · rw [e1, e3, i64_id (n := weightN xs j + rd xs j) (by omega) (by omega)]
      refine ⟨⟨j + 1, by omega, by omega, ?_, rfl⟩, by dsimp only; omega⟩
      simp only [weightN, wt]; rw [if_neg (by omega)]
  · rw [show j = xs.length by omega]
theorem rBest_any {row up : Value} {xs us : List Int} {p : Int} {w : World} (hr : Nm .u8 w row xs) (hu : Nm .u8 w up us) (hl : xs.length ≤ 1000000000) (hp : p ≤ 9223372036854775807) :
    Calls P n_valiseref17_Best #[row, up, .int .i64 p] w (fun e w' => e = .returned (.int .i64 (bestI xs us p)) ∧ Ev w w') := by
  have one : ∀ {w1 : World} (_ : Ev w w1) (k : Int) (K : Int → World → Prop), (∀ w2, Ev w w2 → K (leftW xs us p k) w2) →
      gCall P n_valiseref17_Row shV #[.int .i64 k, row, up, .int .i64 p] w1 fun (v : Value) w2 => gCall P n_valiseref17_weight (shI .i64) #[v] w2 K := fun {w1} he k K hK => by
    refine gCall_of (rRow_any (hr.ev he) (hu.ev he) hl hp) ?_
    rintro _ w2 ⟨v, rfl, h2, hO⟩
    refine ⟨v, rfl, gCall_of (rweight_any hO.nm (by rw [rowN_len]; exact hl)) ?_⟩
    rintro _ _ ⟨rfl, rfl⟩
    refine ⟨_, rfl, ?_⟩
    rw [rowN_len]; exact hK _ (Ev.trans he h2)
  refine of_valiseref17_Best ⟨fun best k w' => ∃ j : Nat, k = j + 1 ∧ j ≤ 4 ∧ best = (bestN (leftW xs us p) j).1 ∧ Ev w w', fun _ k _ => 5 - k.toNat, ⟨0, rfl, by omega, rfl, Ch.refl _ w⟩, ?_⟩
  rintro _ best k w3 ⟨j, rfl, hj, rfl, h3⟩
  refine gIf_dec (fun hlt => ?_) (fun hge => ⟨?_, h3⟩)
  · refine one h3 _ _ fun w5 h5 => one h5 _ _ fun w6 h6 => ?_
    have e3 : i64 ((j : Int) + 1 + 1) = j + 1 + 1 := i64_id (by omega) (by omega)
    rw [e3]
    have hb2 := (bestN_bd (leftW xs us p) j).2.2
    refine gIf_dec (fun hs => ⟨⟨j + 1, by omega, by omega, ?_, h6⟩, by dsimp only; omega⟩) (fun hs => ⟨⟨j + 1, by omega, by omega, ?_, h6⟩, by dsimp only; omega⟩)
    · simp only [bestN]; rw [hb2, if_pos (by simpa using hs)]; simp
    · simp only [bestN]; rw [hb2, if_neg (by simpa using hs)]
  · obtain rfl : j = 4 := by omega
    rfl
end Go.Proofs.YtcnigagagjmogaaV
