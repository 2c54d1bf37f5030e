/- Package mac: tag, Tag; the law MacSame. -/
import Derived.Test.YtealfhjchlkiiaaVMacB
namespace Go.Proofs.YtealfhjchlkiiaaV
open Go Go.RowKit
section
variable {w0 w w' : World} {F : List It}
theorem tag_any {ki ko ka : Addr} {rvi rvo pv : Value} {key : List Int} {xss : List (List Int)} {us : List Value} (f : Fr w0 w (keyedF ki ko ka rvi rvo key F))
    (hp : ∀ {w' : World}, Fr w0 w' (keyedF ki ko ka rvi rvo key F) → Sl w' 1 pv xss.length us ∧ ∀ (i : Nat) (u : Value) (xs : List Int), us[i]? = some u → xss[i]? = some xs → Nm .u8 w' u xs) (hl : xss.flatten.length ≤ 100000000) (hxl : xss.length ≤ 1000000000) :
    Calls P n_mac_keyed_tag #[.agg #[.pointer (some ki), .pointer (some ko)], pv] w (fun e w' => e = .returned (.agg ((macF key xss.flatten).map (.int .u8)).toArray) ∧ Fr w0 w' (keyedF ki ko ka rvi rvo key F)) := by
  have hx5 := xorK_len key 54
  have hx9 := xorK_len key 92
  refine of_mac_keyed_tag (fBox f fun k2 w1 g1 => fAlloc (z := z32) g1 (by kernel_rfl) fun t4 w2 g2 => ?_)
  have g2 := g2.drew
  refine ⟨fun w' => w'.cell? (k2.add 0) = some (.pointer (some ki)) ∧ w'.cell? (k2.add 1) = some (.pointer (some ko)), ⟨g2.cell 1 0 rfl rfl, g2.cell 1 1 rfl rfl⟩, gLoadB_p (fun w' h => h.1) (gLoadB_p (fun w' h => h.2) ?_)⟩
  refine gCall_of (Fork_any g2 2 3 rfl rfl (by rw [hx5]; decide)) ?_
  rintro _ w3 ⟨ki2, rvi2, rfl, g3⟩
  refine ⟨_, rfl, ⟨g3.cell 3 0 rfl rfl, g3.cell 3 1 rfl rfl⟩, gCall_of (Fork_any g3 6 7 rfl rfl (by rw [hx9]; decide)) ?_⟩
  rintro _ w4 ⟨ko2, rvo2, rfl, g4⟩
  refine ⟨_, rfl, ⟨g4.cell 5 0 rfl rfl, g4.cell 5 1 rfl rfl⟩, ?_⟩
  have g5 : Fr w0 w4 (sIt ki2 (hCells (xorK key 54) ka rvi2) :: oIt .u8 eB rvi2 (restF (xorK key 54)) :: sIt ka (kF.map (.int .u32)) :: [sIt ko2 (hCells (xorK key 92) ka rvo2), oIt .u8 eB rvo2 (restF (xorK key 92)), sIt t4 z32.cells.toList, sIt ki (hCells (xorK key 54) ka rvi), oIt .u8 eB rvi (restF (xorK key 54)), sIt ko (hCells (xorK key 92) ka rvo), oIt .u8 eB rvo (restF (xorK key 92))] ++ F) := g4.picksN 11 [2, 3, 10, 0, 1, 4, 6, 7, 8, 9] (by decide) (by decide)
  refine gCall_u (Write_any g5 (fun f => hp (f.picksN 10 [6, 7, 8, 9, 2] (by decide) (by decide))) (by omega) hxl) fun w5 ⟨rvi3, g6⟩ => ?_
  have hSum := hSum_any (g6.get 0 rfl) (g6.nm 1 rfl) (g6.get 2 rfl) (by rw [List.length_append]; omega)
  refine gCall_of hSum ?_
  rintro _ w6 ⟨rfl, h6⟩
  refine ⟨_, rfl, fAlloc (z := z32) (g6.ev h6) (by kernel_rfl) fun s7 w7 g7 => fStoreSum g7 0 rfl rfl fun w8 g8 => gSlice_arr (n := 32) (sz := 1) ?_ (by kernel_rfl)⟩
  refine fLitV [.slice (some s7) 32 32] g8 rfl rfl (fun v hv => by rw [List.mem_singleton.1 hv]; rfl) fun pv2 w9 g9 => ?_
  have hil := sumF_len (xorK key 54 ++ xss.flatten)
  have g10 : Fr w0 w9 (sIt ko2 (hCells (xorK key 92) ka rvo2) :: oIt .u8 eB rvo2 (restF (xorK key 92)) :: sIt ka (kF.map (.int .u32)) :: [lIt (elOf P t_sl_sl_uint8) pv2 [.slice (some s7) 32 32], sIt s7 ((sumF (xorK key 54 ++ xss.flatten)).map (.int .u8)), sIt t4 z32.cells.toList, sIt ki (hCells (xorK key 54) ka rvi), oIt .u8 eB rvi (restF (xorK key 54)), sIt ko (hCells (xorK key 92) ka rvo), oIt .u8 eB rvo (restF (xorK key 92))] ++ F) := g9.picksN 12 [5, 6, 4, 0, 1, 7, 8, 9, 10, 11] (by decide) (by decide)
  refine gCall_u (Write_any (xss := [sumF (xorK key 54 ++ xss.flatten)]) (us := [.slice (some s7) 32 32]) g10 (fun f => one_part (e := eB) (f.sl 3 rfl) (f.arr 4 rfl (sumF_in _) hil)) (by simp [hx9, hil]) (by simp)) fun w10 ⟨rvo3, g11⟩ => ?_
  rw [show xorK key 92 ++ [sumF (xorK key 54 ++ xss.flatten)].flatten = xorK key 92 ++ sumF (xorK key 54 ++ xss.flatten) by simp] at g11
  have hSum2 := hSum_any (g11.get 0 rfl) (g11.nm 1 rfl) (g11.get 2 rfl) (by rw [List.length_append, hx9, hil]; decide)
  refine gCall_of hSum2 ?_
  rintro _ w11 ⟨rfl, h11⟩
  refine ⟨_, rfl, ?_⟩
  have g12 := g11.ev h11
  refine fStoreSum g12 5 rfl rfl fun w12 g13 => fLoadSum g13 5 rfl ⟨rfl, ?_⟩
  exact g13.picksN 10 [6, 7, 8, 9, 2] (by decide) (by decide)
theorem Tag_any {kv pv : Value} {key : List Int} {xss : List (List Int)} {us : List Value} {w : World} (hkv : Nm .u8 w kv key) (hkl : key.length ≤ 100000000)
    (hp : ∀ {w' : World}, Ev w w' → Sl w' 1 pv xss.length us ∧ ∀ (i : Nat) (u : Value) (xs : List Int), us[i]? = some u → xss[i]? = some xs → Nm .u8 w' u xs) (hl : xss.flatten.length ≤ 100000000) (hxl : xss.length ≤ 1000000000) :
    Calls P n_mac_Tag #[kv, pv] w (fun e w' => e = .returned (.agg ((macF key xss.flatten).map (.int .u8)).toArray) ∧ Ev w w') := by
  refine of_mac_Tag (fAlloc (z := z32) (Fr.start w) (by kernel_rfl) fun t4 w1 f1 => gCall_of (with_any (hkv.ev f1.old) hkl) ?_)
  rintro _ w2 ⟨ki, ko, ka, rvi, rvo, rfl, g2⟩
  refine ⟨_, _, rfl, ?_⟩
  have f2 := f1.glue g2
  have f2 : Fr w w2 (keyedF ki ko ka rvi rvo key [sIt t4 z32.cells.toList]) := f2
  refine gCall_of (tag_any f2 (fun f => hp f.old) hl hxl) ?_
  rintro _ w3 ⟨rfl, f3⟩
  exact ⟨_, rfl, fStoreSum f3 5 rfl rfl fun w4 f4 => fLoadSum f4 5 rfl ⟨rfl, f4.old⟩⟩
end
def quick : List Int := [84, 104, 101, 32, 113, 117, 105, 99, 107, 32, 98, 114, 111, 119, 110, 32, 102, 111, 120, 32, 106, 117, 109, 112, 115, 32, 111, 118, 101, 114, 32, 116, 104, 101, 32, 108, 97, 122, 121, 32, 100, 111, 103]
theorem mac_quick : rd (macF [107, 101, 121] quick) 0 = 247 ∧ rd (macF [107, 101, 121] quick) 1 = 188 ∧ rd (macF [107, 101, 121] quick) 31 = 216 := by decide +kernel
end Go.Proofs.YtealfhjchlkiiaaV
