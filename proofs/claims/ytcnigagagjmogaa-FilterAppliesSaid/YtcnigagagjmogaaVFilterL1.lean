/- awake, and the laws FilterPaeth and FilterFlat: what is shown of their calls. -/
import Derived.Test.YtcnigagagjmogaaVFilterC
import Derived.Test.YtcnigagagjmogaaVHelp
namespace Go.Proofs.YtcnigagagjmogaaV
open Go Go.RowKit

theorem awake_any {w : World} : Calls P n_valiselaw17_awake #[] w (fun e w' => e = .returned (.bool true) ∧ Ev w w') := by
  refine of_valiselaw17_awake (gLit_n (k := .u8) [5, 7] rfl rfl (by decide) (inR_u8 (by decide)) fun v w1 h1 hO => gCall_of (Row_any hO.nm (Nm.nil .u8 w1) (by decide) (by decide)) ?_)
  rintro _ w2 ⟨t, rfl, h2, hO2⟩
  have hL : rowN 1 [5, 7] [] (planesI 1) ([5, 7] : List Int).length = [5, 2] := by decide
  rw [hL] at hO2
  refine ⟨t, rfl, gCall_of (Paeth_any (by decide) (by decide) (by decide)) ?_⟩
  rintro _ w3 ⟨rfl, h3⟩
  have hp : paethI 1 2 3 = 1 := by decide
  rw [hp]
  refine ⟨_, rfl, gIf_t (gLen_nm (hO2.ev h3).nm (gIf_t (gIdx_nm (hO2.ev h3).nm (by decide) (by decide) fun a1 c1 _ => gLoad_i c1 (gIf_t (gIdx_nm (hO2.ev h3).nm (by decide) (by decide) fun a2 c2 _ => gLoad_i c2 ⟨rfl, (h1.trans h2).trans h3⟩)))))⟩

theorem far_law {ad : Addr} {p v : Int} {w : World} (hc : w.cell? ad = some (.int .i64 p)) (hp : -100000 ≤ p ∧ p ≤ 100000) (hv : -100000 ≤ v ∧ v ≤ 100000) :
    Calls P n_valiselaw17_FilterPaeth_1 #[.int .i64 v, .pointer (some ad)] w (fun e w' => e = .returned (.int .i64 (farI v p)) ∧ w' = w) := by
  refine of_valiselaw17_FilterPaeth_1 (gLoad_i hc (gLoad_i hc ⟨?_, rfl⟩))
  rw [i64_id (by omega) (by omega), i64_id (by omega) (by omega)]; rfl
theorem farI_comm (a b : Int) : farI a b = farI b a := by unfold farI; split <;> split <;> omega
theorem paethI_near (a b c : Int) : (paethI a b c = a ∨ paethI a b c = b ∨ paethI a b c = c) ∧ farI (paethI a b c) (a + b - c) ≤ farI a (a + b - c) ∧ farI (paethI a b c) (a + b - c) ≤ farI b (a + b - c) ∧ farI (paethI a b c) (a + b - c) ≤ farI c (a + b - c) := by
  simp only [farI_comm _ (a + b - c)]
  unfold paethI
  split
  · rename_i h; exact ⟨.inl rfl, by omega, h.1, h.2⟩
  · rename_i h
    split
    · rename_i h2; exact ⟨.inr (.inl rfl), by omega, by omega, h2⟩
    · rename_i h2; exact ⟨.inr (.inr rfl), by omega, by omega, by omega⟩
theorem FilterPaeth_law {a b c : Int} {w : World} (ha : IntKind.u8.min ≤ a ∧ a ≤ IntKind.u8.max) (hb : IntKind.u8.min ≤ b ∧ b ≤ IntKind.u8.max) (hc : IntKind.u8.min ≤ c ∧ c ≤ IntKind.u8.max) : Calls P n_valiselaw17_FilterPaeth #[.int .u8 a, .int .u8 b, .int .u8 c] w (Holds w) := by
  replace ha : rng a := by simp [IntKind.min, IntKind.max, IntKind.signed, IntKind.bits] at ha; exact ⟨by omega, by omega⟩
  replace hb : rng b := by simp [IntKind.min, IntKind.max, IntKind.signed, IntKind.bits] at hb; exact ⟨by omega, by omega⟩
  replace hc : rng c := by simp [IntKind.min, IntKind.max, IntKind.signed, IntKind.bits] at hc; exact ⟨by omega, by omega⟩
  have hg := paethI_rng ha hb hc
  obtain ⟨hn1, hn2, hn3, hn4⟩ := paethI_near a b c
  refine of_valiselaw17_FilterPaeth (gCall_of (Paeth_any ha hb hc) ?_)
  rintro _ w1 ⟨rfl, h1⟩
  generalize paethI a b c = g at *
  refine ⟨_, rfl, gAlloc_of (z := .int .i64 0) (by kernel_rfl) fun ad w2 h2 had _ hS => gStore_st0 hS (by simp [Value.cells]) rfl rfl fun w3 h3 _ hS3 => gCall_of awake_any ?_⟩
  rintro _ w4 ⟨rfl, h4⟩
  have e1 : i64 a = a := i64_id (by omega) (by omega)
  have e2 : i64 b = b := i64_id (by omega) (by omega)
  have e3 : i64 c = c := i64_id (by omega) (by omega)
  have e4 : i64 g = g := i64_id (by omega) (by omega)
  rw [e1, e2, e3, i64_id (n := a + b) (by omega) (by omega), i64_id (n := a + b - c) (by omega) (by omega)] at hS3
  have hcell : w4.cell? ad = some (.int .i64 (a + b - c)) := by
    have := (hS3.ev h4).cell (j := 0) rfl
    rwa [Addr.add_zero'] at this
  have hev : Ev w w4 := by
    refine ((h1.trans h2).new h3 fun n i hh => ?_).trans h4
    have := hh.1; rw [had] at this; dsimp only at this; have := h1.size; omega
  rw [e1, e2, e3, e4]
  have far1 : ∀ {x : Int} (_ : rng x) {K : Int → World → Prop}, K (farI x (a + b - c)) w4 → gCallV P (.func (.func n_valiselaw17_FilterPaeth_1) #[] #[.pointer (some ad)]) (shI .i64) #[.int .i64 x] w4 K := fun {x} hx K hK => by
    refine gCallV_of rfl (by kernel_rfl) (far_law hcell (by omega) (by omega)) ?_
    rintro _ _ ⟨rfl, rfl⟩
    exact ⟨_, rfl, hK⟩
  have no : (g ≠ a → g ≠ b → g ≠ c → False) := fun h1 h2 h3 => by rcases hn1 with h | h | h <;> contradiction
  refine ⟨_, rfl, gIf_t (gIf_neqq (fun n1 => gIf_neqq (fun n2 => gIf_eq (fun n3 => ?_) (fun n3 => (no n1 n2 n3).elim)) (fun n2 => ?_)) (fun n1 => ?_))⟩
  all_goals exact far1 hg (far1 ha (gIf_dec (fun _ => far1 hg (far1 hb (gIf_dec (fun _ => far1 hg (far1 hc ⟨by rw [decide_eq_true hn4], hev⟩)) (fun h => (h hn3).elim)))) (fun h => (h hn2).elim)))
end Go.Proofs.YtcnigagagjmogaaV
