/- Package valisehelp: Spoil. -/
import Derived.Test.YtdknadlkadoloaaDoorVBase
namespace Go.Proofs.YtdknadlkadoloaaDoorV
open Go Go.RowKit
theorem iXor_u8 (a b : Int) : IntKind.u8.min ≤ iXor .u8 a b ∧ iXor .u8 a b ≤ IntKind.u8.max := by
  have : 0 ≤ iXor .u8 a b ∧ iXor .u8 a b < 256 := by unfold iXor; show 0 ≤ u8 _ ∧ u8 _ < 256; rw [u8_def]; omega
  simp [IntKind.min, IntKind.max, IntKind.signed, IntKind.bits]; omega
theorem Spoil_any {v : Value} {xs : List Int} {B : Nat} {e : TypeId} {w : World} (h : ON .u8 e w B v xs) (hl : xs.length ≤ 1000000000) : Calls P n_valisehelp_Spoil #[v] w (fun r w' => r = .returned (.tuple #[]) ∧ Ch (Ob v) w w' ∧ ∃ ys, ys.length = xs.length ∧ ON .u8 e w' B v ys) := by
  refine of_valisehelp_Spoil ⟨fun i w' => ∃ (j : Nat) (ys : List Int), i = j ∧ j ≤ xs.length ∧ ys.length = xs.length ∧ Ch (Ob v) w w' ∧ ON .u8 e w' B v ys, fun i _ => xs.length - i.toNat, ⟨0, xs, rfl, by omega, rfl, Ch.refl _ w, h⟩, ?_⟩
  rintro _ i w1 ⟨j, ys, rfl, hj, hy, h1, hO⟩
  refine gLen_nm hO.nm (gIf_dec (fun hlt => ?_) (fun hge => ⟨rfl, h1, ys, hy, hO⟩))
  refine gIdx_nm hO.nm (by omega) hlt fun a1 c1 _ => gLoad_i c1 (gIdx_on hO (by omega) hlt fun a2 s2 _ => gStore_on hO s2 (by omega) hlt (iXor_u8 _ _) fun w2 h2 _ hO2 => ?_)
  rw [i64_id (n := (j : Int) + 1) (by omega) (by omega)]
  exact ⟨⟨j + 1, _, rfl, by omega, by simpa using hy, Ch.trans h1 h2 fun _ _ _ h => h, hO2⟩, by dsimp only; omega⟩
end Go.Proofs.YtdknadlkadoloaaDoorV
