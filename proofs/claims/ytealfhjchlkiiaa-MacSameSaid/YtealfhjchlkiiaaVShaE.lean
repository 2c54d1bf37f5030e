/- Package sha: Fork, Sum of parts. -/
import Derived.Test.YtealfhjchlkiiaaVShaD
namespace Go.Proofs.YtealfhjchlkiiaaV
open Go Go.RowKit
section
variable {w0 w w' : World} {F : List It}
theorem Fork_any {ad ka : Addr} {rv : Value} {msg : List Int} (f : Fr w0 w F) (i j : Nat) (hi : F[i]? = some (sIt ad (hCells msg ka rv))) (hj : F[j]? = some (oIt .u8 eB rv (restF msg))) (hl : msg.length ≤ 1000000000) :
    Calls P n_sha_Hash_Fork #[.pointer (some ad)] w (fun e w' => ∃ ad2 rv2, e = .returned (.pointer (some ad2)) ∧ Fr w0 w' (sIt ad2 (hCells msg ka rv2) :: oIt .u8 eB rv2 (restF msg) :: F)) := by
  have hrl := restF_len msg
  have hR := f.nm j hj
  obtain ⟨sa, sc, rfl, hsc⟩ := hR.shape
  obtain ⟨a0, a1, a2, a3, a4, a5, a6, a7, hst⟩ := len8 (stK_len msg (msg.length / 64))
  have hcs : ∀ v, hCells msg ka v = [.int .u32 a0, .int .u32 a1, .int .u32 a2, .int .u32 a3, .int .u32 a4, .int .u32 a5, .int .u32 a6, .int .u32 a7, .pointer (some ka), v, .int .u64 (msg.length : Int)] := fun v => by unfold hCells; rw [hst]; rfl
  refine of_sha_Hash_Fork (gEq_pnil (gIf_f (gNil_some (gLoad_agg (hCells msg ka (.slice sa (restF msg).length sc)) (fun q u hq => f.cell i q hi hq) ?_ (hCells_len _ _ _) (by rw [hCells_len]; kernel_rfl)))))
  rw [hcs]
  show gAlloc P t_sha_Hash w _
  refine fAlloc (z := .agg #[.int .u32 0, .int .u32 0, .int .u32 0, .int .u32 0, .int .u32 0, .int .u32 0, .int .u32 0, .int .u32 0, .pointer none, .slice none 0 0, .int .u64 0]) f (by kernel_rfl) fun f3 w1 f1 => ?_
  refine fStoreA f1 0 rfl fun w2 f2 => gNil_some (gLoad_v (f2.cell (i + 1) 9 hi (by rw [hcs]; rfl)) ?_)
  have hbd : (restF msg).length * 8 ≤ 140737488355328 := by omega
  refine fApp0 f2 (f2.nm (j + 1) hj) hbd fun rv2 w3 f4 => ?_
  refine fStore f4 1 9 rfl (fun w4 f5 => ⟨f3, rv2, rfl, ?_⟩) (by simp) (by obtain ⟨a, c, e, _⟩ := (f4.nm 0 rfl).shape; rw [e]; rfl) (f4.nm 0 rfl).one
  rw [hcs]
  exact f5.perm (List.Perm.swap _ _ _)
theorem shaSum_any {pv : Value} {xss : List (List Int)} {us : List Value} (hp : ∀ {w' : World}, Ev w w' → Sl w' 1 pv xss.length us ∧ ∀ (i : Nat) (u : Value) (xs : List Int), us[i]? = some u → xss[i]? = some xs → Nm .u8 w' u xs) (hl : xss.flatten.length ≤ 1000000000) (hxl : xss.length ≤ 1000000000) :
    Calls P n_sha_Sum #[pv] w (fun e w' => e = .returned (.agg ((sumF xss.flatten).map (.int .u8)).toArray) ∧ Ev w w') := by
  refine of_sha_Sum (fAlloc (z := z32) (Fr.start w) (by kernel_rfl) fun t2 w1 f1 => gCall_of shaNew_any ?_)
  rintro _ w2 ⟨ad, ka, rfl, hf2⟩
  refine ⟨_, rfl, ?_⟩
  have f2 := hf2 f1
  have f2 := f2.nil0 .u8 eB
  have f2 := f2.perm (List.Perm.swap _ _ _)
  have hr0 : restF [] = [] := rfl
  have f2 : Fr w w2 (sIt ad (hCells [] ka (.slice none 0 0)) :: oIt .u8 eB (.slice none 0 0) (restF []) :: sIt ka (kF.map (.int .u32)) :: [sIt t2 z32.cells.toList]) := f2
  refine gCall_u (Write_any f2 (fun f => hp f.old) (by simpa using hl) hxl) fun w3 ⟨rv, f3⟩ => ?_
  rw [List.nil_append] at f3
  have hSum := hSum_any (f3.get 0 rfl) (f3.nm 1 rfl) (f3.get 2 rfl) hl
  refine gCall_of hSum ?_
  rintro _ w4 ⟨rfl, h4⟩
  refine ⟨_, rfl, ?_⟩
  have f4 := f3.ev h4
  have h32 : ((sumF xss.flatten).map (Value.int .u8)).length = 32 := by
    rw [List.length_map]; unfold sumF; rw [outF_len, blkF_len _ (stK_len _ _)]
  have hone : ∀ u ∈ ((sumF xss.flatten).map (Value.int .u8)).toArray.toList, u.oneCell' = true := fun u hu => by obtain ⟨x, _, rfl⟩ := List.mem_map.1 (by simpa using hu); rfl
  refine fStoreA f4 3 rfl (fun w5 f5 => ?_) (by rw [List.size_toArray, h32]; rfl) hone (by rw [List.size_toArray, h32]; kernel_rfl)
  rw [List.toList_toArray] at f5
  exact fLoadArr f5 3 rfl ⟨rfl, f5.old⟩ (by rw [h32]; kernel_rfl)
end
end Go.Proofs.YtealfhjchlkiiaaV
