/- Small things that texts of functions share, second part. -/
import Derived.Test.YtflchmhhmkkooaaVBase
import Derived.Test.YtflchmhhmkkooaaVNodes6
import Derived.Laws.Concat
namespace Go.Proofs.YtflchmhhmkkooaaV
open Go Go.RowKit
section
variable {w0 w : World} {F : List It} {f : FuncId} {args : Array Value}
/-- A call that hands back new bytes. -/
theorem fCallB {K : Value → World → Prop} {xs : List Int} (h : Fr w0 w F) (hc : Calls P f args w (NewB w xs)) (hk : ∀ v w', Fr w0 w' (oIt .u8 eB v xs :: F) → K v w') : gCall P f shV args w K :=
  gCall_v hc fun v w' ⟨h1, h2⟩ => hk v w' (h.newO h1 h2)
/-- They are put behind one's own. -/
theorem fAppL {ty : TypeId} {b : Value} {K : Value → World → Prop} {xs ys : List Int} (h : Fr w0 w (oIt .u8 eB b xs :: F)) (hc : Calls P f args w (NewB w ys)) (hb : (xs.length + ys.length) * 8 ≤ 140737488355328) (hk : ∀ b' w', Fr w0 w' (oIt .u8 eB b' (xs ++ ys) :: F) → K b' w') :
    gCall P f shV args w fun l w1 => gApp P #[t_sl_uint8, t_sl_uint8] ty #[b, l] w1 K :=
  fCallB h hc fun _ _ f1 => fApp f1 1 rfl (f1.nm 0 rfl) hb fun b' w' f2 => hk b' w' (f2.drop 0)
theorem fAppB {ty : TypeId} {b : Value} {K : Value → World → Prop} {xs : List Int} {x : Int} {parts : Array (Nat × Value)} (hp : parts = #[(0, .int .u8 x)]) (h : Fr w0 w (oIt .u8 eB b xs :: F)) (hx : 0 ≤ x ∧ x < 256) (hb : (xs.length + 1) * 8 ≤ 140737488355328) (hk : ∀ b' w', Fr w0 w' (oIt .u8 eB b' (xs ++ [x]) :: F) → K b' w') :
    gLit P t_sl_uint8 1 parts w fun l w1 => gApp P #[t_sl_uint8, t_sl_uint8] ty #[b, l] w1 K :=
  fLit_n [x] h (by rw [hp]; rfl) rfl (fun y hy => by simp at hy; subst hy; exact u8i hx) fun _ _ f1 => fApp f1 1 rfl (f1.nm 0 rfl) hb fun b' w' f2 => hk b' w' (f2.drop 0)
end
theorem tmod_nat (a : Int) {m : Int} (h0 : 0 < m) (h1 : m ≤ 1000000000000) : ∃ k : Nat, (k : Int) < m ∧ i64 (Int.tmod (u64 a) m) = (k : Int) := by
  have hu : 0 ≤ u64 a := by rw [u64_def]; omega
  have h2 := Int.emod_nonneg (u64 a) (show m ≠ 0 by omega)
  have h3 := Int.emod_lt_of_pos (u64 a) h0
  refine ⟨(u64 a % m).toNat, by omega, ?_⟩
  rw [Int.tmod_eq_emod_of_nonneg hu, i64_id (by omega) (by omega)]; omega
/-! ### Texts -/
theorem bsOf_size (xs : List Int) : (bsOf xs).size = xs.length := by show (List.map _ xs).toArray.size = _; simp
theorem bsOf_app (xs ys : List Int) : bsOf xs ++ bsOf ys = bsOf (xs ++ ys) := by
  apply ByteArray.ext
  rw [ByteArray.data_append]
  simp [bsOf]
theorem gBin_cat {P : Program} {t : TypeId} {xs ys : List Int} {K : ByteArray → Prop} (hl : xs.length + ys.length ≤ 1000000000000) (hk : K (bsOf (xs ++ ys))) : gBin P .add t shS (.string (bsOf xs)) (.string (bsOf ys)) K := by
  refine ⟨bsOf (xs ++ ys), fun w => ?_, hk⟩
  rw [← bsOf_app]
  rw [binOp_string_add, run_string_add_sum w _ _ (by rw [bsOf_size, bsOf_size]; omega)]
  rfl
end Go.Proofs.YtflchmhhmkkooaaV
