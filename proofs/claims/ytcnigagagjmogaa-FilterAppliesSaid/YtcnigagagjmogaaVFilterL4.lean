/- The law FilterRows. -/
import Derived.Test.YtcnigagagjmogaaVFilterL1
import Derived.Test.YtcnigagagjmogaaVFilterR
import Derived.Test.YtcnigagagjmogaaVHelpOwn
namespace Go.Proofs.YtcnigagagjmogaaV
open Go Go.RowKit

theorem u8_rng {a : Int} (h : IntKind.u8.min ≤ a ∧ a ≤ IntKind.u8.max) : rng a := by simp [IntKind.min, IntKind.max, IntKind.signed, IntKind.bits] at h; exact ⟨by omega, by omega⟩
theorem i64_rng {a : Int} (h : IntKind.i64.min ≤ a ∧ a ≤ IntKind.i64.max) : -9223372036854775808 ≤ a ∧ a ≤ 9223372036854775807 := by simp [IntKind.min, IntKind.max, IntKind.signed, IntKind.bits] at h; omega
theorem awake_end {w : World} : gCall P n_valiselaw17_awake shB #[] w fun t ww => Holds w (.returned (.bool t)) ww := gCall_b awake_any fun _ h => ⟨rfl, h⟩
theorem FilterRows_law {kind planes a b c : Int} {row up : Value} {xs us : List Int} {w : World} (_hk : IntKind.i64.min ≤ kind ∧ kind ≤ IntKind.i64.max) (hr : Nm .u8 w row xs) (hu : Nm .u8 w up us) (hp : IntKind.i64.min ≤ planes ∧ planes ≤ IntKind.i64.max)
    (ha : IntKind.u8.min ≤ a ∧ a ≤ IntKind.u8.max) (hb : IntKind.u8.min ≤ b ∧ b ≤ IntKind.u8.max) (hc : IntKind.u8.min ≤ c ∧ c ≤ IntKind.u8.max) :
    Calls P n_valiselaw17_FilterRows #[.int .i64 kind, row, up, .int .i64 planes, .int .u8 a, .int .u8 b, .int .u8 c] w (Holds w) := by
  replace hp := (i64_rng hp).2
  replace ha := u8_rng ha
  replace hb := u8_rng hb
  replace hc := u8_rng hc
  refine of_valiselaw17_FilterRows ⟨fun w' => w' = w ∧ xs.length ≤ 2000 ∧ us.length ≤ 2000, gLen_nm hr (gIf_ndec (fun h1 => gLen_nm hu (gIf_dec (fun h2 => awake_end) (fun h2 => ⟨rfl, by omega, by omega⟩))) (fun h1 => awake_end)), ?_⟩
  rintro _ w0 ⟨rfl, hxl, hul⟩
  refine gCall_v (Own_byte_any hr (by omega) (by decide)) fun i1 w1 ⟨h1, hi1⟩ => gCall_v (Own_byte_any (hu.ev h1) (by omega) (by decide)) fun i2 w2 ⟨h2, hi2⟩ => gCall_b awake_any fun w3 h3 => gIf_t ?_
  have hA := ((hi1.ev h2).ev h3)
  have hB := hi2.ev h3
  have e3 : Ev w0 w3 := Ev.trans (Ev.trans h1 h2) h3
  refine gCall_v (Row_any hA.nm hB.nm (by omega) hp) fun v4 w4 ⟨h4, o4⟩ => gCall_v (rRow_any (hr.ev (e3.trans h4)) (hu.ev (e3.trans h4)) (by omega) hp) fun v5 w5 ⟨h5, o5⟩ => gCall_b0 (Bytes_any (o4.ev h5).nm o5.nm) ?_
  rw [decide_eq_true rfl]
  have e5 : Ev w3 w5 := Ev.trans h4 h5
  refine gIf_t (gCall_v (Unrow_any (hA.nm.ev e5) (hB.nm.ev e5) (by omega) hp) fun v6 w6 ⟨h6, o6⟩ => gCall_v (rUnrow_any (hr.ev (e3.trans (e5.trans h6))) (hu.ev (e3.trans (e5.trans h6))) (by omega) hp) fun v7 w7 ⟨h7, o7⟩ => gCall_b0 (Bytes_any (o6.ev h7).nm o7.nm) ?_)
  rw [decide_eq_true rfl]
  have e7 : Ev w3 w7 := Ev.trans (Ev.trans e5 h6) h7
  refine gIf_t (gCall_i (Best_any (hA.nm.ev e7) (hB.nm.ev e7) (by omega) hp) fun w8 h8 => gCall_i (rBest_any (hr.ev (e3.trans (e7.trans h8))) (hu.ev (e3.trans (e7.trans h8))) (by omega) hp) fun w9 h9 => gIf_eq (fun _ => ?_) (fun h => (h rfl).elim))
  have e9 : Ev w3 w9 := Ev.trans (Ev.trans e7 h8) h9
  refine gCall_i (Paeth_any ha hb hc) fun w10 h10 => gCall_i0 (rPaeth_any ha hb hc) (gIf_eq (fun _ => ?_) (fun h => (h rfl).elim))
  have e10 : Ev w3 w10 := Ev.trans e9 h10
  exact gCall_b (Kept_byte_any (hA.ev e10) (hr.ev (e3.trans e10)) (by omega)) fun w11 h11 => gIf_t (gCall_b (Kept_byte_any (hB.ev (e10.trans h11)) (hu.ev (e3.trans (e10.trans h11))) (by omega)) fun w12 h12 => ⟨rfl, Ev.trans e3 (Ev.trans e10 (Ev.trans h11 h12))⟩)
end Go.Proofs.YtcnigagagjmogaaV
