/- Package valiseref02: Little, New, Raw, Little of a reader. -/
import Derived.Test.YtcjopcplhabgkaaVNumE
import Derived.Test.YtcjopcplhabgkaaVNodes6
namespace Go.Proofs.YtcjopcplhabgkaaV
open Go Go.RowKit
theorem byteAt_u8 (v : Int) (k : Nat) : 0 ≤ byteAt v k ∧ byteAt v k < 256 := by unfold byteAt; omega
section
variable {w0 w : World} {F : List It} {xs : List Int} {ad : Addr} {y : Value} {a : Nat} {er : Int}
/-- A reader that is new: its struct, and its bytes. -/
theorem Fr.rd (h : Fr w0 w F) (i j : Nat) (hi : F[i]? = some (sIt ad [y, .int .i64 a, .int .i64 er])) (hj : F[j]? = some (oIt .u8 eB y xs)) (hn : i ≠ j) (ha : a ≤ xs.length) (hl : xs.length ≤ 10000000000) : Rd w ad y xs a er :=
  ⟨h.get i hi, h.nm j hj, fun hg => h.apart hi hj hn ad.block rfl hg, ha, hl⟩
theorem Fr.rs {w' : World} {a2 : Nat} {er2 : Int} (h : Fr w0 w F) (i : Nat) (hi : F[i]? = some (sIt ad [y, .int .i64 a, .int .i64 er])) (g : RS w w' ad y xs a2 er2) : Fr w0 w' (F.set i (sIt ad [y, .int .i64 a2, .int .i64 er2])) :=
  h.upd i hi g.2 (fun k _ hh => .inl hh.1) g.1.1 fun k hk => .inl hk
/-- What New hands back. -/
def NewR (w : World) (xs : List Int) (e : Ending) (w' : World) : Prop := ∃ ad y, e = .returned (.pointer (some ad)) ∧ ∀ {w0 F}, Fr w0 w F → Fr w0 w' (sIt ad [y, .int .i64 0, .int .i64 0] :: oIt .u8 eB y xs :: F)
theorem nNew_any {b : Value} {w : World} (hb : Nm .u8 w b xs) (hl : xs.length ≤ 10000000000) : Calls P n_num_New #[b] w (NewR w xs) := by
  refine of_num_New (gApp_on (ON.nil .u8 eB w w.heap.size) hb (by simp; omega) (Nat.le_refl _) fun y w1 hy hc hm => ⟨hy.one, gBox_of fun ad w2 h2 had hs hS => ?_⟩)
  have h1 : Ev w w1 := hc.mono fun _ _ _ hh => by cases hh
  exact ⟨ad, y, rfl, fun f => (f.newO h1 (by simpa using hy)).new h2 hS fun k hk => by have hk : k = ad.block := hk; subst had; dsimp only at hk; omega⟩
theorem fNew {b : Value} {K : Option Addr → World → Prop} (h : Fr w0 w F) (hb : Nm .u8 w b xs) (hl : xs.length ≤ 10000000000) (hk : ∀ ad y w', Fr w0 w' (sIt ad [y, .int .i64 0, .int .i64 0] :: oIt .u8 eB y xs :: F) → K (some ad) w') : gCall P n_num_New shP #[b] w K :=
  gCall_of (nNew_any hb hl) fun _ w' ⟨ad, y, h1, h2⟩ => ⟨some ad, h1, hk ad y w' (h2 h)⟩
theorem shl8 {v : Int} (h0 : 0 ≤ v) (h : v < 72057594037927936) : iShl .u64 v 8 = v * ((2 ^ 8 : Nat) : Int) := by
  have e64 : ((2 ^ IntKind.u64.bits : Nat) : Int) = 18446744073709551616 := rfl
  have e8 : ((2 ^ 8 : Nat) : Int) = 256 := rfl
  have := iShl_u (k := .u64) (n := 8) rfl (by decide) h0
  rw [e64, e8, Int.emod_eq_of_lt (by omega) (by omega)] at this
  exact this
theorem leN_drop {ys : List Int} {j : Nat} (hj : j < ys.length) : leN (ys.drop j) = rd ys j + 256 * leN (ys.drop (j + 1)) := by
  rw [List.drop_eq_getElem_cons hj, leN, rd_nat ys j hj]
end
end Go.Proofs.YtcjopcplhabgkaaV
