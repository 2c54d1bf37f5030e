/- Package sha: Sum, Fork. -/
import Derived.Test.YtealfhjchlkiiaaVShaC
namespace Go.Proofs.YtealfhjchlkiiaaV
open Go Go.RowKit
/-- How many zeros are behind. -/
def padZ (r : Nat) : Nat := (119 - r % 64) % 64
def lenB (n : Nat) : List Int := [56, 48, 40, 32, 24, 16, 8, 0].map fun k => u8 (iShr .u64 (iShl .u64 (n : Int) 3) k)
def padF (msg : List Int) : List Int := restF msg ++ [128] ++ List.replicate (padZ (restF msg).length) 0 ++ lenB msg.length
/-- The state behind so many blocks more. -/
def blkF (st pb : List Int) : Nat → List Int
  | 0 => st
  | k + 1 => cmpF kF (blkF st pb k) ((pb.drop (64 * k)).take 64)
def outF (st : List Int) : List Int := st.flatMap fun v => [u8 (iShr .u32 v 24), u8 (iShr .u32 v 16), u8 (iShr .u32 v 8), u8 (iShr .u32 v 0)]
/-- The sum of a text. -/
def sumF (msg : List Int) : List Int := outF (blkF (stK msg (msg.length / 64)) (padF msg) ((padF msg).length / 64))
theorem blkF_len {st : List Int} (pb : List Int) (h : st.length = 8) : ∀ k, (blkF st pb k).length = 8
  | 0 => h
  | k + 1 => cmpF_len _ _ (blkF_len pb h k)
theorem padF_len (msg : List Int) : (padF msg).length % 64 = 0 := by
  unfold padF padZ lenB
  simp only [List.length_append, List.length_replicate, List.length_map, List.length_cons, List.length_nil, restF_len]; omega
theorem padF_le (msg : List Int) : (padF msg).length ≤ 128 := by
  unfold padF padZ lenB
  simp only [List.length_append, List.length_replicate, List.length_map, List.length_cons, List.length_nil, restF_len]; omega
theorem u8_in (x : Int) : IntKind.u8.min ≤ u8 x ∧ u8 x ≤ IntKind.u8.max := u8i (by rw [u8_def]; omega)
theorem outF_len : ∀ st : List Int, (outF st).length = 4 * st.length
  | [] => rfl
  | v :: r => by have := outF_len r; unfold outF at this ⊢; rw [List.flatMap_cons, List.length_append, this, List.length_cons]; simp; omega
theorem outF_in (st : List Int) : inR .u8 (outF st) := fun x hx => by
  obtain ⟨v, _, hx⟩ := List.mem_flatMap.1 hx
  simp at hx; rcases hx with rfl | rfl | rfl | rfl <;> exact u8_in _
theorem outF_snoc (st : List Int) (i : Nat) (h : i < st.length) : outF (st.take (i + 1)) = outF (st.take i) ++ [u8 (iShr .u32 (rd st i) 24), u8 (iShr .u32 (rd st i) 16), u8 (iShr .u32 (rd st i) 8), u8 (iShr .u32 (rd st i) 0)] := by
  unfold outF
  rw [List.take_succ_eq_append_getElem h, rd_nat st i h, List.flatMap_append, List.flatMap_cons, List.flatMap_nil, List.append_nil]
def z32 : Value := .agg #[.int .u8 0, .int .u8 0, .int .u8 0, .int .u8 0, .int .u8 0, .int .u8 0, .int .u8 0, .int .u8 0, .int .u8 0, .int .u8 0, .int .u8 0, .int .u8 0, .int .u8 0, .int .u8 0, .int .u8 0, .int .u8 0, .int .u8 0, .int .u8 0, .int .u8 0, .int .u8 0, .int .u8 0, .int .u8 0, .int .u8 0, .int .u8 0, .int .u8 0, .int .u8 0, .int .u8 0, .int .u8 0, .int .u8 0, .int .u8 0, .int .u8 0, .int .u8 0]
theorem z32_cells : z32.cells.toList = (List.replicate 32 0).map (Value.int .u8) := rfl
theorem hSum_any {ad ka : Addr} {rv : Value} {msg : List Int} {w : World} (hS : St w ad (hCells msg ka rv)) (hR : Nm .u8 w rv (restF msg)) (hK : St w ka (kF.map (.int .u32))) (hl : msg.length ≤ 1000000000) :
    Calls P n_sha_Hash_Sum #[.pointer (some ad)] w (fun e w' => e = .returned (.agg ((sumF msg).map (.int .u8)).toArray) ∧ Ev w w') := by
  have hsl := stK_len msg (msg.length / 64)
  have hget := hC_get (st := stK msg (msg.length / 64)) (ka := ka) (rv := rv) (n := (msg.length : Int)) hsl
  have hrl := restF_len msg
  refine of_sha_Hash_Sum (fAlloc (z := z32) (Fr.start w) (by kernel_rfl) fun t2 w1 f1 => fAlloc (z := z32) f1 (by kernel_rfl) fun o3 w2 f2 => ?_)
  rw [z32_cells] at f2
  refine ⟨fun w' => w' = w2, gEq_pnil (gIf_nf (gNil_some (gLoad_p ((hS.ev f2.old).cell hget.1) (gEq_pnil (gIf_f rfl))))), ?_⟩
  rintro _ _ rfl
  rename_i w2
  obtain ⟨a0, a1, a2, a3, a4, a5, a6, a7, hst⟩ := len8 hsl
  have hS2 := hS.ev f2.old
  refine gNil_some (gLoad_agg ([a0, a1, a2, a3, a4, a5, a6, a7].map (Value.int .u32)) (fun j u hj => ?_) ?_ rfl (by kernel_rfl))
  · rw [Addr.add_zero']
    refine hS2.cell ?_
    unfold hCells
    rw [hst, List.getElem?_append_left (by have := (List.getElem?_eq_some_iff.1 hj).1; exact this)]
    exact hj
  show gAlloc P t_sha_state w2 _
  refine fAlloc (z := .agg #[.int .u32 0, .int .u32 0, .int .u32 0, .int .u32 0, .int .u32 0, .int .u32 0, .int .u32 0, .int .u32 0]) f2 (by kernel_rfl) fun s4 w4 f4 => ?_
  refine fStoreA f4 0 rfl fun w5 f5 => ?_
  have f5 : Fr w w5 [sIt s4 ((stK msg (msg.length / 64)).map (.int .u32)), sIt o3 ((List.replicate 32 0).map (.int .u8)), sIt t2 z32.cells.toList] := by rw [hst]; exact f5
  have hS5 := hS.ev f5.old
  refine gNil_some (gLoad_v (hS5.cell hget.2.1) (fApp0 f5 (hR.ev f5.old) (by omega) fun b6 w6 f6 => fAppB rfl f6 (by decide) (by omega) fun b7 w7 f7 => ?_))
  have hzlt : padZ (restF msg).length < 64 := by unfold padZ; omega
  refine ⟨fun b w' => ∃ z : Nat, z ≤ padZ (restF msg).length ∧ Fr w w' [oIt .u8 eB b (restF msg ++ [128] ++ List.replicate z 0), sIt s4 ((stK msg (msg.length / 64)).map (.int .u32)), sIt o3 ((List.replicate 32 0).map (.int .u8)), sIt t2 z32.cells.toList], fun b _ => 200 - slLen b, ⟨0, by omega, by simpa using f7⟩, ?_⟩
  rintro _ b8 w8 ⟨z, hz, f8⟩
  have hN8 := f8.nm 0 rfl
  have hzl : (restF msg ++ [128] ++ List.replicate z (0 : Int)).length = (restF msg).length + 1 + z := by simp; omega
  refine gLen_nm hN8 ?_
  rw [hzl, show Int.tmod (((restF msg).length + 1 + z : Nat) : Int) 64 = ((((restF msg).length + 1 + z) % 64 : Nat) : Int) by rw [Int.tmod_eq_emod_of_nonneg (by omega)]; omega]
  refine gIf_neq (fun hne => ?_) (fun heq => ?_)
  · have hz2 : z < padZ (restF msg).length := by
      rcases Nat.lt_or_ge z (padZ (restF msg).length) with h | h
      · exact h
      · have : z = padZ (restF msg).length := by omega
        unfold padZ at this; omega
    refine fAppB rfl f8 (by decide) (by rw [hzl]; omega) fun b9 w9 f9 => ⟨⟨z + 1, hz2, ?_⟩, ?_⟩
    · rw [List.replicate_succ', ← List.append_assoc]; exact f9
    · dsimp only
      rw [hN8.slLen, (f9.nm 0 rfl).slLen, List.length_append, List.length_singleton, hzl]; omega
  have hze : z = padZ (restF msg).length := by unfold padZ at hz ⊢; omega
  subst hze
  have hlb : (lenB msg.length).length = 8 := rfl
  have hrd : ∀ j : Nat, j < 8 → rd (lenB msg.length) (j : Int) = u8 (iShr .u64 (iShl .u64 (msg.length : Int) 3) (56 - 8 * (j : Int))) := fun j hj => by
    have : j = 0 ∨ j = 1 ∨ j = 2 ∨ j = 3 ∨ j = 4 ∨ j = 5 ∨ j = 6 ∨ j = 7 := by omega
    rcases this with rfl | rfl | rfl | rfl | rfl | rfl | rfl | rfl <;> rfl
  refine ⟨fun b k w' => ∃ j : Nat, k = 56 - 8 * (j : Int) ∧ j ≤ 8 ∧ Fr w w' [oIt .u8 eB b (restF msg ++ [128] ++ List.replicate (padZ (restF msg).length) 0 ++ (lenB msg.length).take j), sIt s4 ((stK msg (msg.length / 64)).map (.int .u32)), sIt o3 ((List.replicate 32 0).map (.int .u8)), sIt t2 z32.cells.toList], fun _ k _ => (k + 8).toNat, ?_, ?_⟩
  · refine ⟨0, rfl, by omega, ?_⟩
    rw [List.take_zero, List.append_nil]; exact f8
  rintro _ b9 _ w9 ⟨j, rfl, hj, f9⟩
  refine gIf_dec (fun hge => ?_) (fun hlt => ?_)
  · have hj' : j < 8 := by omega
    refine gNil_some (gLoad_i ((hS.ev f9.old).cell hget.2.2) (gBin_shr (by omega) ?_))
    rw [← hrd j hj', i64_id (n := 56 - 8 * (j : Int) - 8) (by omega) (by omega)]
    refine fAppB rfl f9 (by rw [hrd j hj', u8_def]; omega) (by simp; omega) fun b10 w10 f10 => ⟨⟨j + 1, by omega, by omega, ?_⟩, by dsimp only; omega⟩
    rw [List.take_succ_eq_append_getElem (by rw [hlb]; exact hj'), ← rd_nat _ j (by rw [hlb]; exact hj'), ← List.append_assoc]
    exact f10
  have hj8 : j = 8 := by omega
  subst hj8
  have hpe : restF msg ++ [128] ++ List.replicate (padZ (restF msg).length) 0 ++ (lenB msg.length).take 8 = padF msg := rfl
  rw [hpe] at f9
  have hpl := padF_len msg
  have hple := padF_le msg
  obtain ⟨st, hst0⟩ : ∃ st, st = stK msg (msg.length / 64) := ⟨_, rfl⟩
  rw [← hst0] at f9 hsl
  refine ⟨fun v w' => ∃ t : Nat, 64 * t ≤ (padF msg).length ∧ Nm .u8 w' v ((padF msg).drop (64 * t)) ∧ (∀ g, v.ownBlock = some g → b9.ownBlock = some g) ∧ Fr w w' [oIt .u8 eB b9 (padF msg), sIt s4 ((blkF st (padF msg) t).map (.int .u32)), sIt o3 ((List.replicate 32 0).map (.int .u8)), sIt t2 z32.cells.toList], fun v _ => slLen v, ⟨0, by omega, f9.nm 0 rfl, fun _ h => h, f9⟩, ?_⟩
  rintro _ v w11 ⟨t, ht, hv, hvb, f11⟩
  have hbl := blkF_len (padF msg) hsl t
  have hdl : ((padF msg).drop (64 * t)).length = (padF msg).length - 64 * t := List.length_drop
  refine gLen_nm hv (gIf_dec (fun hpos => ?_) (fun hzero => ?_))
  · have h64 : 64 * t + 64 ≤ (padF msg).length := by omega
    obtain ⟨va, vc, hvs, hvc⟩ := hv.shape
    subst hvs
    refine ⟨fun w' => w'.cell? (ad.add 8) = some (.pointer (some ka)), (hS.ev f11.old).drew.cell hget.1, ?_⟩
    refine gSlice_any (sz := 1) (l := 0) (h := 64) (.inl ⟨rfl, rfl⟩) (.inr ⟨_, rfl⟩) (by omega) (by omega) ?_ (by kernel_rfl)
    refine gNil_some (gLoadB_p (fun w' h => h) ?_)
    have hsub := hv.drew.sub 0 64 (by omega) (by omega)
    rw [List.drop_zero, Nat.sub_zero] at hsub
    refine gCall_u (take_any (f11.drew.get 1 rfl) hbl (hK.ev f11.old.drew) kF_len hsub (by rw [List.length_take]; omega)) fun w12 ⟨h12, s12⟩ => ?_
    have f12 : Fr w w12 [oIt .u8 eB b9 (padF msg), sIt s4 ((blkF st (padF msg) (t + 1)).map (.int .u32)), sIt o3 ((List.replicate 32 0).map (.int .u8)), sIt t2 z32.cells.toList] := f11.drew.upd (jt := sIt s4 ((blkF st (padF msg) (t + 1)).map (.int .u32))) 1 rfl h12 (fun k _ hh => .inl hh.1) s12 fun k hk => .inl hk
    refine ⟨(hS.ev f12.old).cell hget.1, ?_⟩
    refine gSlice_any (sz := 1) (l := 64) (h := ((padF msg).drop (64 * t)).length) (.inr ⟨_, rfl⟩) (.inl ⟨rfl, rfl⟩) (by omega) hvc ?_ (by kernel_rfl)
    have hv12 : Nm .u8 w12 (.slice va ((padF msg).drop (64 * t)).length vc) ((padF msg).drop (64 * t)) := hv.drew.ch h12 fun g i hg hh => f11.apart (i := 0) (j := 1) rfl rfl (by decide) g (hvb g hg) hh.1
    have hsub2 := hv12.sub 64 ((padF msg).drop (64 * t)).length (by omega) (Nat.le_refl _)
    rw [List.take_of_length_le (by rw [List.length_drop]; exact Nat.le_refl _), List.drop_drop] at hsub2
    refine ⟨⟨t + 1, by omega, hsub2, fun g hg => hvb g (by rw [subV_own] at hg; exact hg), f12⟩, ?_⟩
    dsimp only
    rw [hsub2.slLen, hv.slLen, List.length_drop, List.length_drop]; omega
  have hte : t = (padF msg).length / 64 := by omega
  obtain ⟨O, hO⟩ : ∃ O, O = outF (blkF st (padF msg) t) := ⟨_, rfl⟩
  have hOs : O = sumF msg := by rw [hO, hte, hst0]; rfl
  have hOl : O.length = 32 := by rw [hO, outF_len, hbl]
  obtain ⟨c0, c1, c2, c3, c4, c5, c6, c7, hc⟩ := len8 hbl
  rw [hc] at f11 hO
  have hOr : ∀ i k : Nat, i < 8 → k < 4 → rd O ((4 * i + k : Nat) : Int) = u8 (iShr .u32 (rd [c0, c1, c2, c3, c4, c5, c6, c7] (i : Int)) (24 - 8 * (k : Int))) := fun i k hi hk => by
    rw [hO]
    have h1 : i = 0 ∨ i = 1 ∨ i = 2 ∨ i = 3 ∨ i = 4 ∨ i = 5 ∨ i = 6 ∨ i = 7 := by omega
    have h2 : k = 0 ∨ k = 1 ∨ k = 2 ∨ k = 3 := by omega
    rcases h1 with rfl | rfl | rfl | rfl | rfl | rfl | rfl | rfl <;> rcases h2 with rfl | rfl | rfl | rfl <;> rfl
  refine gLoad_agg ([c0, c1, c2, c3, c4, c5, c6, c7].map (Value.int .u32)) (fun j u hj => by rw [Addr.add_zero']; exact f11.cell 1 j rfl hj) ?_ rfl (by kernel_rfl)
  refine ⟨fun i w' => ∃ j : Nat, i = j ∧ j ≤ 8 ∧ Fr w w' [oIt .u8 eB b9 (padF msg), sIt s4 ([c0, c1, c2, c3, c4, c5, c6, c7].map (.int .u32)), sIt o3 ((O.take (4 * j) ++ List.replicate (32 - 4 * j) 0).map (.int .u8)), sIt t2 z32.cells.toList], fun i _ => 8 - i.toNat, ?_, ?_⟩
  · refine ⟨0, rfl, by omega, ?_⟩
    rw [Nat.mul_zero, List.take_zero, List.nil_append]; exact f11
  rintro _ i w13 ⟨j, rfl, hj, f13⟩
  refine gIf_dec (fun hlt => ?_) (fun hge => ?_)
  · have hlt' : j < 8 := by omega
    rw [i64_id (n := (j : Int) + 1) (by omega) (by omega)]
    refine gIndex_arr (xs := [c0, c1, c2, c3, c4, c5, c6, c7]) 8 j rfl rfl rfl hlt' ?_
    refine ⟨fun k w' => ∃ q : Nat, k = q ∧ q ≤ 4 ∧ Fr w w' [oIt .u8 eB b9 (padF msg), sIt s4 ([c0, c1, c2, c3, c4, c5, c6, c7].map (.int .u32)), sIt o3 ((O.take (4 * j + q) ++ List.replicate (32 - (4 * j + q)) 0).map (.int .u8)), sIt t2 z32.cells.toList], fun k _ => 4 - k.toNat, ?_, ?_⟩
    · exact ⟨0, rfl, by omega, f13⟩
    rintro _ k w14 ⟨q, rfl, hq, f14⟩
    have ek : i64 (24 - i64 (8 * (q : Int))) = 24 - 8 * (q : Int) := by rw [i64_id (n := 8 * (q : Int)) (by omega) (by omega), i64_id (by omega) (by omega)]
    have ei : i64 (i64 (4 * (j : Int)) + (q : Int)) = ((4 * j + q : Nat) : Int) := by rw [i64_id (n := 4 * (j : Int)) (by omega) (by omega), i64_id (by omega) (by omega)]; omega
    refine gIf_dec (fun hlt2 => ?_) (fun hge2 => ?_)
    · have hq' : q < 4 := by omega
      rw [ek, ei, i64_id (n := (q : Int) + 1) (by omega) (by omega)]
      refine gBin_shr (by omega) (gIdx_ar1 32 (4 * j + q) rfl (by omega) ?_)
      rw [← hOr j q hlt' hq']
      have htl : (O.take (4 * j + q)).length = 4 * j + q := by rw [List.length_take]; omega
      refine fStore f14 2 (4 * j + q) rfl (fun w15 f15 => ⟨⟨q + 1, by omega, by omega, ?_⟩, by dsimp only; omega⟩) (by rw [List.length_map, List.length_append, htl, List.length_replicate]; omega)
      have e : (O.take (4 * j + (q + 1)) ++ List.replicate (32 - (4 * j + (q + 1))) 0).map (Value.int .u8) = ((O.take (4 * j + q) ++ List.replicate (32 - (4 * j + q)) 0).map (Value.int .u8)).set (4 * j + q) (.int .u8 (rd O ((4 * j + q : Nat) : Int))) := by
        rw [← List.map_set, set_pad htl (by omega), ← Nat.add_assoc, List.take_succ_eq_append_getElem (by omega), ← rd_nat O (4 * j + q) (by omega)]
      rw [e]; exact f15
    · have : q = 4 := by omega
      subst this
      refine ⟨⟨j + 1, by omega, by omega, ?_⟩, by dsimp only; omega⟩
      rw [show 4 * (j + 1) = 4 * j + 4 by omega]; exact f14
  · have : j = 8 := by omega
    subst this
    rw [show 4 * 8 = 32 from rfl, take_all hOl, Nat.sub_self, List.replicate_zero, List.append_nil] at f13
    have h32 : (O.map (Value.int .u8)).length = 32 := by rw [List.length_map, hOl]
    refine fLoadArr f13 2 rfl ?_ (by rw [h32]; kernel_rfl)
    have hone : ∀ u ∈ (O.map (Value.int .u8)).toArray.toList, u.oneCell' = true := fun u hu => by obtain ⟨x, _, rfl⟩ := List.mem_map.1 (by simpa using hu); rfl
    refine fStoreA f13 3 rfl (fun w16 f16 => ?_) (by rw [List.size_toArray, h32]; rfl) hone (by rw [List.size_toArray, h32]; kernel_rfl)
    rw [List.toList_toArray] at f16
    refine fLoadArr f16 3 rfl ⟨?_, f16.old⟩ (by rw [h32]; kernel_rfl)
    rw [hOs]
end Go.Proofs.YtealfhjchlkiiaaV
