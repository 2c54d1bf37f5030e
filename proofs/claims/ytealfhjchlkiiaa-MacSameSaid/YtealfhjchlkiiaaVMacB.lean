/- Package mac: with, tag, Tag. -/
import Derived.Test.YtealfhjchlkiiaaVMacA
namespace Go.Proofs.YtealfhjchlkiiaaV
open Go Go.RowKit
/-- Two hashes that have taken a key. -/
noncomputable def keyedF (ki ko ka : Addr) (rvi rvo : Value) (key : List Int) (F : List It) : List It :=
  sIt ki (hCells (xorK key 54) ka rvi) :: oIt .u8 eB rvi (restF (xorK key 54)) :: sIt ko (hCells (xorK key 92) ka rvo) :: oIt .u8 eB rvo (restF (xorK key 92)) :: sIt ka (kF.map (.int .u32)) :: F
section
variable {w0 w w' : World} {F : List It}
theorem zero64b : (Value.agg (Array.replicate 64 (.int .u8 0))).cells.toList = (List.replicate 64 0).map (.int .u8) := by rw [List.map_replicate]; exact Array.toList_replicate
/-- One part, in a slice of its own: what Write is given. -/
theorem one_part {e : TypeId} {pv u : Value} {x : List Int} (h : Sl w 1 pv [u].length [u]) (hu : Nm .u8 w u x) : Sl w 1 pv [x].length [u] ∧ ∀ (i : Nat) (u' : Value) (xs : List Int), [u][i]? = some u' → [x][i]? = some xs → Nm .u8 w u' xs := by
  refine ⟨h, fun i u' xs h1 h2 => ?_⟩
  cases i with
  | zero => simp at h1 h2; subst h1; subst h2; exact hu
  | succ i => simp at h1
theorem shaSum_one {e : TypeId} {pv u : Value} {x : List Int} (hpv : Sl w 1 pv 1 [u]) (hu : Nm .u8 w u x) (hl : x.length ≤ 1000000000) :
    Calls P n_sha_Sum #[pv] w (fun e w' => e = .returned (.agg ((sumF x).map (.int .u8)).toArray) ∧ Ev w w') := by
  have := shaSum_any (w := w) (pv := pv) (xss := [x]) (us := [u]) (fun he => one_part (e := e) (hpv.ev he) (hu.ev he)) (by simpa using hl) (by simp)
  simpa using this
theorem one_sumF (msg : List Int) : ∀ u ∈ ((sumF msg).map (Value.int .u8)).toArray.toList, u.oneCell' = true := fun u hu => by obtain ⟨x, _, rfl⟩ := List.mem_map.1 (by simpa using hu); rfl
theorem fStoreSum {t : TypeId} {ad : Addr} {cs : List Value} {msg : List Int} {K : World → Prop} (f : Fr w0 w F) (i : Nat) (hi : F[i]? = some (sIt ad cs)) (hc : cs.length = 32) (hk : ∀ w', Fr w0 w' (F.set i (sIt ad ((sumF msg).map (.int .u8)))) → K w') (ht : sizeIs P t 32 = true := by kernel_rfl) :
    gStore P t (.pointer (some ad)) (.agg ((sumF msg).map (.int .u8)).toArray) w K := by
  have h32 : ((sumF msg).map (Value.int .u8)).length = 32 := by rw [List.length_map, sumF_len]
  refine fStoreA f i hi (fun w' f' => ?_) (by rw [List.size_toArray, h32, hc]) (one_sumF msg) (by rw [List.size_toArray, h32]; exact ht)
  rw [List.toList_toArray] at f'
  exact hk w' f'
theorem fLoadSum {t : TypeId} {ad : Addr} {msg : List Int} {K : Array Value → Prop} (f : Fr w0 w F) (i : Nat) (hi : F[i]? = some (sIt ad ((sumF msg).map (.int .u8)))) (hk : K ((sumF msg).map (.int .u8)).toArray) (ht : aggB P t 32 = true := by kernel_rfl) : gLoad P t shA (.pointer (some ad)) w K :=
  fLoadArr f i hi hk (by rw [List.length_map, sumF_len]; exact ht)
theorem Fr.left {G : List It} : ∀ {F : List It}, Fr w0 w (F ++ G) → Fr w0 w F
  | [], h => h.old
  | it :: F, h => ⟨h.1, h.2.1, fun jt hj => h.2.2.1 jt (List.mem_append_left _ hj), Fr.left h.2.2.2⟩
def padK (key : List Int) : List Int := keyK key ++ List.replicate (64 - (keyK key).length) 0
theorem padK_len (key : List Int) : (padK key).length = 64 := by have := keyK_len key; unfold padK; rw [List.length_append, List.length_replicate]; omega
theorem rd_padK (key : List Int) {j : Nat} (h : j < 64) : rd (padK key) (j : Int) = rd (keyK key) (j : Int) := by
  unfold padK
  by_cases hj : j < (keyK key).length
  · exact rd_pad hj
  · unfold rd
    rw [Int.toNat_natCast, List.getD_eq_getElem?_getD, List.getD_eq_getElem?_getD, List.getElem?_append_right (by omega), List.getElem?_replicate, List.getElem?_eq_none (l := keyK key) (by omega)]
    split <;> rfl
theorem rd_xorK (key : List Int) (b : Int) {j : Nat} (h : j < 64) : rd (xorK key b) (j : Int) = iXor .u8 (rd (padK key) (j : Int)) b := by
  rw [rd_padK key h, rd_nat _ j (by rw [xorK_len]; exact h)]
  unfold xorK
  rw [List.getElem_map, List.getElem_range]
theorem half_rd {A B : List Int} {j n : Nat} (hA : A.length = n) (hB : B.length = n) (h : j < n) : rd (A.take j ++ B.drop j) (j : Int) = rd B (j : Int) := by
  have htl : (A.take j).length = j := by rw [List.length_take]; omega
  unfold rd
  rw [Int.toNat_natCast, List.getD_eq_getElem?_getD, List.getD_eq_getElem?_getD, List.getElem?_append_right (by omega), htl, Nat.sub_self, List.getElem?_drop, Nat.add_zero]
theorem half_set {A B : List Int} {j n : Nat} (hA : A.length = n) (hB : B.length = n) (h : j < n) : (A.take j ++ B.drop j).set j (rd A (j : Int)) = A.take (j + 1) ++ B.drop (j + 1) := by
  have htl : (A.take j).length = j := by rw [List.length_take]; omega
  rw [List.set_append_right _ _ (by omega), htl, Nat.sub_self, List.take_succ_eq_append_getElem (by omega), List.append_assoc, ← rd_nat _ j (by omega), List.drop_eq_getElem_cons (by omega), List.set_cons_zero]; rfl
theorem half_len {A B : List Int} {j n : Nat} (hA : A.length = n) (hB : B.length = n) (h : j ≤ n) : (A.take j ++ B.drop j).length = n := by rw [List.length_append, List.length_take, List.length_drop]; omega
theorem with_any {kv : Value} {key : List Int} {w : World} (hkv : Nm .u8 w kv key) (hl : key.length ≤ 100000000) :
    Calls P n_mac_with #[kv] w (fun e w' => ∃ ki ko ka rvi rvo, e = .returned (.agg #[.pointer (some ki), .pointer (some ko)]) ∧ Fr w w' (keyedF ki ko ka rvi rvo key [])) := by
  refine of_mac_with (fAlloc (z := .agg #[.pointer none, .pointer none]) (Fr.start w) (by kernel_rfl) fun t2 w1 f1 => ?_)
  refine ⟨fun v w' => ∃ G, Fr w w' (sIt t2 [.pointer none, .pointer none] :: G) ∧ Nm .u8 w' v (keyK key), gLen_nm hkv (gIf_dec (fun hgt => ?_) (fun hle => ?_)), ?_⟩
  · have e : keyK key = sumF key := by unfold keyK; rw [if_pos (by omega)]
    rw [e]
    refine fLitV [kv] f1 rfl rfl (fun v hv => by rw [List.mem_singleton.1 hv]; exact hkv.one) fun pv w2 f2 => gCall_of (shaSum_one (e := eB) (f2.sl 0 rfl) (hkv.ev f2.old) (by omega)) ?_
    rintro _ w3 ⟨rfl, h3⟩
    refine ⟨_, rfl, fAlloc (z := z32) (f2.ev h3) (by kernel_rfl) fun s3 w4 f4 => fStoreSum f4 0 rfl rfl fun w5 f5 => gSlice_arr (n := 32) (sz := 1) ?_ (by kernel_rfl)⟩
    exact ⟨_, f5.front 2 rfl, f5.arr 0 rfl (sumF_in key) (sumF_len key)⟩
  · have e : keyK key = key := by unfold keyK; rw [if_neg (by omega)]
    rw [e]
    exact ⟨[], f1, hkv.ev f1.old⟩
  rintro _ v w6 ⟨G, f6, hv⟩
  have hkl := keyK_len key
  have hpl := padK_len key
  have hx5 := xorK_len key 54
  have hx9 := xorK_len key 92
  refine fAlloc (z := .agg (Array.replicate 64 (.int .u8 0))) (Fr.start w6) (by kernel_rfl) fun a4 w7 g1 => fAlloc (z := .agg (Array.replicate 64 (.int .u8 0))) g1 (by kernel_rfl) fun b5 w8 g2 => ?_
  rw [zero64b] at g2
  have epad : ∀ m, m = min 64 (keyK key).length → (keyK key).take m ++ (List.replicate 64 (0 : Int)).drop m = padK key := fun m hm => by
    have hm' : m = (keyK key).length := by omega
    rw [hm', List.take_length, List.drop_replicate]; rfl
  have hz : (List.replicate 64 (0 : Int)).length = 64 := List.length_replicate
  refine gSlice_arr (n := 64) (sz := 1) (fCopyA g2 1 rfl hz (hv.ev g2.old) fun w9 m hm g3 => ?_) (by kernel_rfl)
  rw [epad m hm] at g3
  refine gSlice_arr (n := 64) (sz := 1) (fCopyA g3 0 rfl hz (hv.ev g3.old) fun w10 m2 hm2 g4 => ?_) (by kernel_rfl)
  rw [epad m2 hm2] at g4
  refine ⟨fun i w' => ∃ j : Nat, i = j ∧ j ≤ 64 ∧ Fr w6 w' [sIt b5 (((xorK key 92).take j ++ (padK key).drop j).map (.int .u8)), sIt a4 (((xorK key 54).take j ++ (padK key).drop j).map (.int .u8))], fun i _ => 64 - i.toNat, ?_, ?_⟩
  · refine ⟨0, rfl, by omega, ?_⟩
    rw [List.take_zero, List.take_zero, List.drop_zero, List.nil_append]; exact g4
  rintro _ i w11 ⟨j, rfl, hj, g5⟩
  refine gIf_dec (fun hlt => ?_) (fun hge => ?_)
  · have hlt' : j < 64 := by omega
    rw [i64_id (n := (j : Int) + 1) (by omega) (by omega)]
    have hA5 := half_len hx5 hpl (Nat.le_of_lt hlt')
    have hA9 := half_len hx9 hpl (Nat.le_of_lt hlt')
    have c5 := g5.cell 1 j rfl (rd_mapget (k := .u8) (xs := (xorK key 54).take j ++ (padK key).drop j) (by omega))
    rw [half_rd hx5 hpl hlt'] at c5
    refine gIdx_ar1 64 j rfl hlt' (gLoad_i c5 (gIdx_ar1 64 j rfl hlt' ?_))
    rw [← rd_xorK key 54 hlt']
    refine fStore g5 1 j rfl (fun w12 g6 => ?_) (by rw [List.length_map, hA5]; exact hlt')
    have e5 : (((xorK key 54).take j ++ (padK key).drop j).map (Value.int .u8)).set j (.int .u8 (rd (xorK key 54) (j : Int))) = ((xorK key 54).take (j + 1) ++ (padK key).drop (j + 1)).map (.int .u8) := by rw [← List.map_set, half_set hx5 hpl hlt']
    rw [e5] at g6
    have c9 := g6.cell 0 j rfl (rd_mapget (k := .u8) (xs := (xorK key 92).take j ++ (padK key).drop j) (by omega))
    rw [half_rd hx9 hpl hlt'] at c9
    refine gIdx_ar1 64 j rfl hlt' (gLoad_i c9 (gIdx_ar1 64 j rfl hlt' ?_))
    rw [← rd_xorK key 92 hlt']
    refine fStore g6 0 j rfl (fun w13 g7 => ⟨⟨j + 1, by omega, by omega, ?_⟩, by dsimp only; omega⟩) (by rw [List.length_map, hA9]; exact hlt')
    have e9 : (((xorK key 92).take j ++ (padK key).drop j).map (Value.int .u8)).set j (.int .u8 (rd (xorK key 92) (j : Int))) = ((xorK key 92).take (j + 1) ++ (padK key).drop (j + 1)).map (.int .u8) := by rw [← List.map_set, half_set hx9 hpl hlt']
    rw [e9] at g7
    exact g7
  have hj64 : j = 64 := by omega
  subst hj64
  rw [take_all hx9, take_all hx5, List.drop_of_length_le (by omega), List.append_nil, List.append_nil] at g5
  refine gCall_of shaNew_any ?_
  rintro _ w12 ⟨ki, ka, rfl, hf⟩
  refine ⟨_, rfl, ?_⟩
  have g6 := (hf g5).nil0 .u8 eB
  refine fAlloc (z := .agg #[.pointer none, .pointer none]) g6 (by kernel_rfl) fun k7 w13 g7 => fStoreA g7 0 rfl fun w14 g8 => ?_
  have g8 : Fr w6 w14 [sIt k7 [.pointer (some ki), .pointer none], oIt .u8 eB (.slice none 0 0) (restF []), sIt ki (hCells [] ka (.slice none 0 0)), sIt ka (kF.map (.int .u32)), sIt b5 ((xorK key 92).map (.int .u8)), sIt a4 ((xorK key 54).map (.int .u8))] := g8
  refine fLoad_p g8 0 0 rfl rfl (gCall_of (Fork_any g8 2 1 rfl rfl (by simp)) ?_)
  rintro _ w15 ⟨ko, rvo, rfl, g9⟩
  refine ⟨_, rfl, fStore g9 2 1 rfl fun w16 g10 => ?_⟩
  have g10 : Fr w6 w16 [sIt ko (hCells [] ka rvo), oIt .u8 eB rvo (restF []), sIt k7 [.pointer (some ki), .pointer (some ko)], oIt .u8 eB (.slice none 0 0) (restF []), sIt ki (hCells [] ka (.slice none 0 0)), sIt ka (kF.map (.int .u32)), sIt b5 ((xorK key 92).map (.int .u8)), sIt a4 ((xorK key 54).map (.int .u8))] := g10
  have k0 : ∀ {w' : World} {L : List It} (i : Nat), Fr w6 w' L → L[i]? = some (sIt k7 [.pointer (some ki), .pointer (some ko)]) → w'.cell? (k7.add 0) = some (.pointer (some ki)) := fun i h hi => h.cell i 0 hi rfl
  have k1 : ∀ {w' : World} {L : List It} (i : Nat), Fr w6 w' L → L[i]? = some (sIt k7 [.pointer (some ki), .pointer (some ko)]) → w'.cell? (k7.add 1) = some (.pointer (some ko)) := fun i h hi => h.cell i 1 hi rfl
  refine ⟨fun w' => w'.cell? (k7.add 0) = some (.pointer (some ki)), k0 2 g10.drew rfl, gLoadB_p (fun w' h => h) (gSlice_arr (n := 64) (sz := 1) ?_ (by kernel_rfl))⟩
  refine fLitV [.slice (some a4) 64 64] g10.drew rfl rfl (fun v hv => by rw [List.mem_singleton.1 hv]; rfl) fun pv w17 g11 => ⟨k0 3 g11 rfl, ?_⟩
  have g12 : Fr w6 w17 (sIt ki (hCells [] ka (.slice none 0 0)) :: oIt .u8 eB (.slice none 0 0) (restF []) :: sIt ka (kF.map (.int .u32)) :: [lIt (elOf P t_sl_sl_uint8) pv [.slice (some a4) 64 64], sIt ko (hCells [] ka rvo), oIt .u8 eB rvo (restF []), sIt k7 [.pointer (some ki), .pointer (some ko)], sIt b5 ((xorK key 92).map (.int .u8)), sIt a4 ((xorK key 54).map (.int .u8))]) := g11.picks [5, 4, 6, 0, 1, 2, 3, 7, 8] (by decide)
  refine gCall_u (Write_any (xss := [xorK key 54]) (us := [.slice (some a4) 64 64]) g12 (fun f => one_part (e := eB) (f.sl 3 rfl) (f.arr 8 rfl (xorK_in key 54) hx5)) (by simp [hx5]) (by simp)) fun w18 ⟨rvi, g13⟩ => ⟨k0 6 g13 rfl, ?_⟩
  rw [show ([] : List Int) ++ [xorK key 54].flatten = xorK key 54 by simp] at g13
  refine ⟨fun w' => w'.cell? (k7.add 1) = some (.pointer (some ko)), k1 6 g13.drew rfl, gLoadB_p (fun w' h => h) (gSlice_arr (n := 64) (sz := 1) ?_ (by kernel_rfl))⟩
  refine fLitV [.slice (some b5) 64 64] g13.drew rfl rfl (fun v hv => by rw [List.mem_singleton.1 hv]; rfl) fun pv2 w19 g14 => ⟨k1 7 g14 rfl, ?_⟩
  have g15 : Fr w6 w19 (sIt ko (hCells [] ka rvo) :: oIt .u8 eB rvo (restF []) :: sIt ka (kF.map (.int .u32)) :: [lIt (elOf P t_sl_sl_uint8) pv2 [.slice (some b5) 64 64], sIt ki (hCells (xorK key 54) ka rvi), oIt .u8 eB rvi (restF (xorK key 54)), sIt k7 [.pointer (some ki), .pointer (some ko)], sIt b5 ((xorK key 92).map (.int .u8))]) := g14.picks [5, 6, 3, 0, 1, 2, 7, 8] (by decide)
  refine gCall_u (Write_any (xss := [xorK key 92]) (us := [.slice (some b5) 64 64]) g15 (fun f => one_part (e := eB) (f.sl 3 rfl) (f.arr 7 rfl (xorK_in key 92) hx9)) (by simp [hx9]) (by simp)) fun w20 ⟨rvo2, g16⟩ => ⟨k1 6 g16 rfl, ?_⟩
  rw [show ([] : List Int) ++ [xorK key 92].flatten = xorK key 92 by simp] at g16
  refine fLoadA g16 6 rfl ?_
  have g17 := f6.glue g16
  refine fStoreA g17 8 rfl fun w21 g18 => fLoadA g18 8 rfl ⟨ki, ko, ka, rvi, rvo2, rfl, ?_⟩
  exact g18.picks [4, 5, 0, 1, 2] (by decide)
end
end Go.Proofs.YtealfhjchlkiiaaV
