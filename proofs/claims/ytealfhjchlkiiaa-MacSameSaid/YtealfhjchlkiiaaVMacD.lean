/- The law MacSame. -/
import Derived.Test.YtealfhjchlkiiaaVMacC
namespace Go.Proofs.YtealfhjchlkiiaaV
open Go Go.RowKit
theorem awake_any {w : World} : Calls P n_valiselaw25_awake #[] w (fun e w' => e = .returned (.bool true) ∧ Ev w w') := by
  have h1 : inR .u8 [107, 101, 121] := fun x hx => by simp at hx; rcases hx with rfl | rfl | rfl <;> decide
  have h2 : inR .u8 quick := by
    have : ∀ x ∈ quick, 0 ≤ x ∧ x < 256 := by decide
    exact fun x hx => u8i (this x hx)
  refine of_valiselaw25_awake (fLitC [107, 101, 121] (Fr.start w) rfl rfl h1 fun kv w2 f2 => fLitC quick f2 rfl rfl h2 fun qv w3 f3 => ?_)
  have hq : Nm .u8 w3 qv quick := Cn.nm (f3.get 0 rfl)
  refine fLitV [qv] f3 rfl rfl (fun v hv => by rw [List.mem_singleton.1 hv]; exact hq.one) fun pv w4 f4 => ?_
  have hq4 : Nm .u8 w4 qv quick := Cn.nm (f4.get 1 rfl)
  have hk4 : Nm .u8 w4 kv [107, 101, 121] := Cn.nm (f4.get 2 rfl)
  have hpv := f4.sl 0 rfl
  have hT := Tag_any (w := w4) (pv := pv) (xss := [quick]) (us := [qv]) hk4 (by decide) (fun he => one_part (e := eB) (hpv.ev he) (hq4.ev he)) (by decide) (by decide)
  rw [show [quick].flatten = quick by simp] at hT
  refine gCall_of hT ?_
  rintro _ w5 ⟨rfl, h5⟩
  obtain ⟨q0, q1, q31⟩ := mac_quick
  obtain ⟨M, hM⟩ : ∃ M, M = macF [107, 101, 121] quick := ⟨_, rfl⟩
  have hMl : M.length = 32 := by rw [hM]; exact sumF_len _
  rw [← hM] at q0 q1 q31
  refine ⟨_, rfl, fAlloc (z := z32) (f4.ev h5) (by kernel_rfl) fun t1 w6 f6 => ?_⟩
  refine fStoreSum (msg := xorK [107, 101, 121] 92 ++ sumF (xorK [107, 101, 121] 54 ++ quick)) f6 0 rfl rfl fun w7 f7 => ?_
  have c : ∀ j : Nat, j < 32 → w7.cell? (t1.add j) = some (.int .u8 (rd M (j : Int))) := fun j hj => by rw [hM]; exact f7.cell 0 j rfl (rd_mapget (by rw [sumF_len]; exact hj))
  refine gIdx_ar1 32 0 rfl (by decide) (gLoad_i (c 0 (by decide)) (gIf_eq (fun _ => gIdx_ar1 32 1 rfl (by decide) (gLoad_i (c 1 (by decide)) (gIf_eq (fun _ => gIdx_ar1 32 31 rfl (by decide) (gLoad_i (c 31 (by decide)) ⟨?_, f7.old⟩)) (fun h => (h q1).elim)))) (fun h => (h q0).elim)))
  rw [show rd M ((31 : Nat) : Int) = 216 from q31]; rfl
theorem MacSame_law {a b : Value} {xs ys : List Int} {w : World} (ha : Nm .u8 w a xs) (hal : xs.length ≤ maxLen) (hb : Nm .u8 w b ys) (hbl : ys.length ≤ maxLen) : Calls P n_valiselaw25_MacSame #[a, b] w (Holds w) := by
  unfold maxLen at hal hbl
  refine of_valiselaw25_MacSame (gCall_b awake_any fun w1 h1 => gIf_t (gCall_b0 (Same_any (ha.ev h1) (hb.ev h1) (by omega)) (gCall_b0 (Bytes_any (ha.ev h1) (hb.ev h1)) (gEq_bool (gIf_b (fun _ => gCall_b0 (Same_any (ha.ev h1) (ha.ev h1) (by omega)) ⟨by rw [decide_eq_true rfl], h1⟩) (fun h => by simp at h))))))
end Go.Proofs.YtealfhjchlkiiaaV
