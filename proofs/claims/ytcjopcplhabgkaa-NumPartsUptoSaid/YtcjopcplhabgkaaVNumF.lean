/- Writers and readers of numbers, in a frame. -/
import Derived.Test.YtcjopcplhabgkaaVNumE
import Derived.Test.YtcjopcplhabgkaaVRef02A
import Derived.Test.YtcjopcplhabgkaaVNodes9
namespace Go.Proofs.YtcjopcplhabgkaaV
open Go Go.RowKit
section
variable {w0 w w' : World} {F : List It}
theorem Fr.oth {it : It} {S : SS} (h : Fr w0 w F) (i : Nat) (hi : F[i]? = some it) (hc : Ch S w w') (hS : ∀ k q, S k q → it.ft k) : Fr w0 w' (F.eraseIdx i) := by
  refine (h.drop i).ch hc (fun k q hs => (h.ft i hi (hS k q hs)).1) fun jt hj k q hk hs => ?_
  obtain ⟨j, hj2⟩ := List.mem_iff_getElem?.1 hj
  rw [List.getElem?_eraseIdx] at hj2
  split at hj2
  · rename_i hlt
    exact h.apart hi hj2 (by omega) k (hS k q hs) hk
  · rename_i hge
    exact h.apart hi hj2 (by omega) k (hS k q hs) hk
theorem Fr.cons {jt : It} {n : Nat} (h : Fr w0 w F) (hn : w0.heap.size ≤ n) (hF : ∀ it ∈ F, ∀ k, it.ft k → k < n) (ok : jt.ok w) (hf : ∀ k, jt.ft k → n ≤ k) : Fr w0 w (jt :: F) :=
  ⟨ok, fun k hk => Nat.le_trans hn (hf k hk), fun it hi k hk hik => by have := hf k hk; have := hF it hi k hik; omega, h⟩
/-! ### Writers -/
theorem fNewW {K : Addr → World → Prop} (f : Fr w0 w F) (hk : ∀ ad v w', Fr w0 w' (wIt eB ad v [] :: F) → K ad w') : gAlloc P t_num_Writer w K :=
  fAlloc (z := .agg #[.slice none 0 0]) f (by kernel_rfl) fun ad w' f' => hk ad (.slice none 0 0) w' (f'.asW (e := eB) 0 rfl)
theorem fNum {ad : Addr} {v : Value} {xs : List Int} {n : Int} {K : World → Prop} (f : Fr w0 w F) (i : Nat) (hi : F[i]? = some (wIt eB ad v xs)) (hn : 0 ≤ n ∧ n < 18446744073709551616) (hl : xs.length + 10 ≤ 10000000000)
    (hk : ∀ v' w', Fr w0 w' (F.set i (wIt eB ad v' (xs ++ numB n.toNat))) → K w') : gCall P n_num_Writer_Num shU #[.pointer (some ad), .int .u64 n] w K :=
  gCall_u (Num_any (f.get i hi) hn hl) fun w' ⟨v', hw⟩ => hk v' w' (f.wr i hi hw)
theorem fRawW {ad : Addr} {v p : Value} {xs : List Int} {yss : List (List Int)} {K : World → Prop} (f : Fr w0 w F) (i : Nat) (hi : F[i]? = some (wIt eB ad v xs)) (hp : ∀ w', Fr w0 w' (F.eraseIdx i) → NL .u8 w' p yss) (hl : xs.length + yss.flatten.length ≤ 10000000000) (hn : yss.length ≤ 10000000000)
    (hk : ∀ v' w', Fr w0 w' (F.set i (wIt eB ad v' (xs ++ yss.flatten))) → K w') : gCall P n_num_Writer_Raw shU #[.pointer (some ad), p] w K :=
  gCall_u (Raw_any (f.get i hi) (fun w' hc => hp w' (f.oth i hi hc fun k q h => h)) hl hn) fun w' ⟨v', hw⟩ => hk v' w' (f.wr i hi hw)
theorem fBytesW {ad : Addr} {v : Value} {xs : List Int} {K : Value → World → Prop} (f : Fr w0 w F) (i : Nat) (hi : F[i]? = some (wIt eB ad v xs)) (hl : xs.length ≤ 10000000000) (hk : ∀ y w', Fr w0 w' (oIt .u8 eB y xs :: F) → K y w') : gCall P n_num_Writer_Bytes shV #[.pointer (some ad)] w K :=
  gCall_v (Q := fun y w' => Ev w w' ∧ ON .u8 eB w' w.heap.size y xs) (Bytes_W (f.get i hi) hl) fun y w' ⟨h1, h2⟩ => hk y w' (f.newO h1 h2)
/-! ### Readers -/
theorem fNewR {b : Value} {xs : List Int} {K : Option Addr → World → Prop} (f : Fr w0 w F) (hb : Nm .u8 w b xs) (hl : xs.length ≤ 10000000000) (hk : ∀ ad y w', Fr w0 w' (sIt ad [y, .int .i64 ((0 : Nat) : Int), .int .i64 0] :: oIt .u8 eB y xs :: F) → K (some ad) w') : gCall P n_num_New shP #[b] w K :=
  gCall_of (nNew_any hb hl) fun _ w' ⟨ad, y, h1, h2⟩ => ⟨some ad, h1, hk ad y w' (h2 f)⟩
theorem fNumR {ad : Addr} {y : Value} {xs : List Int} {a : Nat} {er : Int} {K : Int → World → Prop} (f : Fr w0 w (sIt ad [y, .int .i64 a, .int .i64 er] :: oIt .u8 eB y xs :: F)) (ha : a ≤ xs.length) (hl : xs.length ≤ 10000000000)
    (hk : ∀ w', Fr w0 w' (sIt ad [y, .int .i64 (numR xs a er 18446744073709551615).2.1, .int .i64 (numR xs a er 18446744073709551615).2.2] :: oIt .u8 eB y xs :: F) → K (numR xs a er 18446744073709551615).1 w') : gCall P n_num_Reader_Num (shI .u64) #[.pointer (some ad)] w K :=
  gCall_i (rNum_any (f.rd 0 1 rfl rfl (by decide) ha hl)) fun w' h => hk w' (f.rs 0 rfl h)
theorem fErrR {ad : Addr} {y : Value} {xs : List Int} {a : Nat} {er : Int} {K : Int → World → Prop} (f : Fr w0 w (sIt ad [y, .int .i64 a, .int .i64 er] :: oIt .u8 eB y xs :: F)) (ha : a ≤ xs.length) (hl : xs.length ≤ 10000000000) (hk : K er w) : gCall P n_num_Reader_Err (shI .i64) #[.pointer (some ad)] w K :=
  gCall_i0 (rErr_any (f.rd 0 1 rfl rfl (by decide) ha hl)) hk
theorem fEndR {ad : Addr} {y : Value} {xs : List Int} {a : Nat} {er : Int} {K : Int → World → Prop} (f : Fr w0 w (sIt ad [y, .int .i64 a, .int .i64 er] :: oIt .u8 eB y xs :: F)) (ha : a ≤ xs.length) (hl : xs.length ≤ 10000000000) (hk : ∀ w', Ev w w' → K (endR xs.length a er) w') : gCall P n_num_Reader_End (shI .i64) #[.pointer (some ad)] w K :=
  gCall_i (rEnd_any (f.rd 0 1 rfl rfl (by decide) ha hl)) hk
theorem fRawR {ad : Addr} {y : Value} {xs : List Int} {a : Nat} {er n : Int} {K : Value → World → Prop} (f : Fr w0 w (sIt ad [y, .int .i64 a, .int .i64 er] :: oIt .u8 eB y xs :: F)) (ha : a ≤ xs.length) (hl : xs.length ≤ 10000000000) (hn : n ≤ 9223372036854775807)
    (hk : ∀ z w', Fr w0 w' (sIt ad [y, .int .i64 (rawR xs a er n).2.1, .int .i64 (rawR xs a er n).2.2] :: oIt .u8 eB y xs :: oIt .u8 eB z (rawR xs a er n).1 :: F) → K z w') : gCall P n_num_Reader_Raw shV #[.pointer (some ad), .int .i64 n] w K := by
  refine gCall_of (rRaw_any (f.rd 0 1 rfl rfl (by decide) ha hl) hn) ?_
  rintro _ w' ⟨z, rfl, h1, h2⟩
  refine ⟨z, rfl, hk z w' ?_⟩
  have f' : Fr w0 w' (sIt ad [y, .int .i64 (rawR xs a er n).2.1, .int .i64 (rawR xs a er n).2.2] :: oIt .u8 eB y xs :: F) := f.rs 0 rfl h1
  have hz : ∀ k, z.ownBlock = some k → w.heap.size ≤ k := fun k hk => (h2.base hk).1
  have hlt : ∀ it ∈ (sIt ad [y, .int .i64 (rawR xs a er n).2.1, .int .i64 (rawR xs a er n).2.2] :: oIt .u8 eB y xs :: F), ∀ k, it.ft k → k < w.heap.size := fun it hi k hk => by
    rcases List.mem_cons.1 hi with rfl | hi
    · exact It.lt (sIt ad [y, .int .i64 a, .int .i64 er]) w k (f.get 0 rfl) hk
    · exact It.lt it w k (f.mem (List.mem_cons_of_mem _ hi)).1 hk
  have f2 := f'.cons (jt := oIt .u8 eB z (rawR xs a er n).1) f.old.size hlt (h2.low (Nat.zero_le _)) hz
  exact f2.picksN 3 [1, 2, 0] (by decide) (by decide)
theorem numR_le {xs : List Int} {a : Nat} {er m : Int} (ha : a ≤ xs.length) : (numR xs a er m).2.1 ≤ xs.length := (numR_at ha).2
theorem rawR_le {xs : List Int} {a : Nat} {er n : Int} (ha : a ≤ xs.length) : (rawR xs a er n).2.1 ≤ xs.length := by
  unfold rawR
  split
  · exact ha
  · split
    · exact ha
    · dsimp only; omega
/-- Slices of which each reads so, in a slice. -/
theorem NL.of {k : IntKind} {p : Value} {us : List Value} {yss : List (List Int)} (hp : Sl w 1 p us.length us) (hl : us.length = yss.length) (h : ∀ (i : Nat) (u : Value) (ys : List Int), us[i]? = some u → yss[i]? = some ys → Nm k w u ys) : NL k w p yss := ⟨us, by rw [← hl]; exact hp, h⟩
end
end Go.Proofs.YtcjopcplhabgkaaV
