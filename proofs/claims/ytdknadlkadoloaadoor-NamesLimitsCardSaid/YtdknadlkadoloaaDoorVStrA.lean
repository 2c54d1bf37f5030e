/- Strings: parts of them, Index, Contains, Count at one byte, Split. -/
import Derived.Test.YtdknadlkadoloaaDoorVNodes7
import Derived.Test.YtdknadlkadoloaaDoorVCopy
import Derived.Test.YtdknadlkadoloaaDoorVBase2
import Derived.Lib.Bytealg
namespace Go.Proofs.YtdknadlkadoloaaDoorV
open Go Go.RowKit
def mkS (l : List UInt8) : ByteArray := ⟨l.toArray⟩
theorem mkS_data (l : List UInt8) : (mkS l).data.toList = l := by simp [mkS]
theorem mkS_self (s : ByteArray) : mkS s.data.toList = s := by obtain ⟨⟨l⟩⟩ := s; rfl
theorem mkS_size (l : List UInt8) : (mkS l).size = l.length := by show l.toArray.size = _; simp
theorem size_data (s : ByteArray) : s.data.toList.length = s.size := by obtain ⟨⟨l⟩⟩ := s; rfl
theorem mkS_eq (a b : List UInt8) : (mkS a = mkS b) ↔ a = b := ⟨fun h => by have := congrArg (fun s => s.data.toList) h; simpa [mkS] using this, fun h => by rw [h]⟩
theorem tl_mk (l : List UInt8) : (mkS l).toList = l := by rw [ByteArray.toList_eq]; simp [mkS]
theorem sOf_rd {s : ByteArray} {i : Nat} (h : i < s.data.toList.length) : rd (sOf s) (i : Int) = ((s.data.toList[i].toNat : Nat) : Int) := by
  rw [rd_nat _ i (by rw [sOf_len, ← size_data]; exact h)]
  simp [sOf]
theorem mkS_ext (l : List UInt8) (a b : Nat) : (mkS l).extract a b = mkS ((l.drop a).take (b - a)) := by
  have h : ((mkS l).extract a b).data.toList = (l.drop a).take (b - a) := by
    rw [ByteArray.data_extract, Array.toList_extract]
    simp [mkS, List.extract_eq_take_drop]
  rw [← h, mkS_self]
section
variable {P : Program} {w : World}
theorem gSliceS_mk {t : TypeId} {l : List UInt8} {lo hi : Option Value} {a b : Nat} {K : ByteArray → Prop} (hlo : (lo = none ∧ a = 0) ∨ (∃ k, lo = some (.int k a))) (hhi : (hi = none ∧ b = l.length) ∨ (∃ k, hi = some (.int k b))) (hl : a ≤ b) (hh : b ≤ l.length)
    (hk : K (mkS ((l.drop a).take (b - a)))) (ht : strB P t = true := by kernel_rfl) : gSliceS P t (.string (mkS l)) lo hi none K := by
  have hu := strB_ok ht
  refine ⟨mkS ((l.drop a).take (b - a)), fun w => ?_, hk⟩
  have hb : (Instr.sliceBounds false (mkS l).size (mkS l).size lo hi none).run P w = .ok (a, b, (mkS l).size) w := by
    rw [mkS_size]
    simp only [Instr.sliceBounds, Sem.run_bind, Sem.run_pure, Result.andThen_ok]
    rcases hhi with ⟨rfl, rfl⟩ | ⟨k, rfl⟩ <;> rcases hlo with ⟨rfl, rfl⟩ | ⟨k', rfl⟩ <;>
      simp [Instr.sliceBound, asIntOf, hl, hh]
  simp only [Instr.sliceAt, Sem.run_bind, run_underlying hu, Result.andThen_ok, Instr.slice, hb, Sem.run_pure, Option.isSome_none, Bool.false_eq_true, if_false]
  rw [mkS_ext]; rfl
end
/-- A slice of strings. -/
def Ss (w : World) (v : Value) (ss : List ByteArray) : Prop := Sl w 1 v ss.length (ss.map .string)
theorem Ss.ev {w w' : World} {v : Value} {ss : List ByteArray} (h : Ss w v ss) (he : Ev w w') : Ss w' v ss := Sl.ev h he
section
variable {w : World}
theorem eq_single {l : List UInt8} {c : UInt8} (h : (mkS [c]).toList == (mkS l).toList) : l = [c] := by
  rw [tl_mk, tl_mk] at h; exact (beq_iff_eq.1 h).symm
theorem Index1_any (l : List UInt8) (c : UInt8) : Calls P n_strings_Index #[.string (mkS l), .string (mkS [c])] w (fun e w' => e = .returned (.int .i64 (Lib.indexByte l c)) ∧ w' = w) := by
  have hc : (mkS [c]).data.toList = [c] := mkS_data _
  have hcs : (mkS [c]).size = 1 := rfl
  have hone : rd (sOf (mkS [c])) 0 = (c.toNat : Int) := by simp [rd, sOf, mkS]
  have hback : (c.toNat : Int).toNat.toUInt8 = c := by simp
  refine of_strings_Index (gCall_i0 (n := Lib.indexByte l c) (of_internal_stringslite_Index ?_) ⟨rfl, rfl⟩)
  refine ⟨fun _ => False, ⟨fun b w' => w' = w ∧ b = ((mkS [c]).toList == (mkS l).toList), gIf_neqq (fun _ => ⟨rfl, rfl⟩) (fun h => by rw [hcs] at h; simp at h), ?_⟩, ?_⟩
  · rintro _ b w1 ⟨rfl, rfl⟩
    refine gIf_b (fun hb => ?_) (fun _ => ?_)
    · have := eq_single hb
      subst this
      exact ⟨by simp [Lib.indexByte], rfl⟩
    · rw [hcs]
      refine gIf_eq (fun _ => gIndex_s (j := 0) rfl (by rw [hcs]; decide) ?_) (fun h => (h rfl).elim)
      rw [hone]
      refine gCall_i0 (n := Lib.indexByte l c) (of_internal_stringslite_IndexByte (gExt_i (by kernel_rfl) (Lib.run_indexByteString _ _ w1) ?_ (by kernel_rfl))) ⟨rfl, rfl⟩
      rw [hback, mkS_data]; exact ⟨rfl, rfl⟩
  · intro _ w1 h
    exact h.elim
end
end Go.Proofs.YtdknadlkadoloaaDoorV
