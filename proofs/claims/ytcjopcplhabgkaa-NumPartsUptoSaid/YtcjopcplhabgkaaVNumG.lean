/- The law NumParts. -/
import Derived.Test.YtcjopcplhabgkaaVNumF
import Derived.Test.YtcjopcplhabgkaaVNumL
import Derived.Test.YtcjopcplhabgkaaVHelp
namespace Go.Proofs.YtcjopcplhabgkaaV
open Go Go.RowKit
section
variable {w : World}
theorem flat_bound {xss : List (List Int)} {B : Nat} (h : ∀ xs ∈ xss, xs.length ≤ B) : xss.flatten.length ≤ xss.length * B := by
  induction xss with
  | nil => simp
  | cons x xss ih =>
    have := ih fun xs hx => h xs (List.mem_cons_of_mem _ hx)
    have := h x List.mem_cons_self
    rw [List.flatten_cons, List.length_append, List.length_cons, Nat.succ_mul]; omega
theorem flat_next {xss : List (List Int)} {k : Nat} (hk : k < xss.length) : (xss.take (k + 1)).flatten = (xss.take k).flatten ++ xss[k] := by
  rw [List.take_succ_eq_append_getElem hk, List.flatten_append]; simp
def numsW (ys : List Int) : List Int := (ys.map fun y => numB y.toNat).flatten
theorem numsW_next {ys : List Int} {k : Nat} (hk : k < ys.length) : numsW (ys.take (k + 1)) = numsW (ys.take k) ++ numB (ys[k]).toNat := by
  unfold numsW
  rw [List.take_succ_eq_append_getElem hk, List.map_append, List.flatten_append]; simp
theorem numsW_len {ys : List Int} (hy : inR .u64 ys) : (numsW ys).length ≤ ys.length * 10 := by
  induction ys with
  | nil => simp [numsW]
  | cons y ys ih =>
    have h1 := ih fun x hx => hy x (List.mem_cons_of_mem _ hx)
    have h2 := u64_rng (hy y List.mem_cons_self)
    have h3 : (numB y.toNat).length ≤ 10 := numB_len64 (by omega)
    have h4 : numsW (y :: ys) = numB y.toNat ++ numsW ys := rfl
    rw [h4, List.length_append, List.length_cons]; omega
theorem NumParts_law {p v : Value} {us : List Value} {xss : List (List Int)} {ys : List Int} (hp : Sl w 1 p us.length us) (hl : us.length = xss.length) (hu : ∀ (i : Nat) (u : Value) (xs : List Int), us[i]? = some u → xss[i]? = some xs → Nm .u8 w u xs)
    (hb : ∀ xs ∈ xss, xs.length ≤ 1048576) (hv : Nm .u64 w v ys) : Calls P n_valiselaw02_NumParts #[p, v] w (Holds w) := by
  refine of_valiselaw02_NumParts ⟨fun w' => w' = w ∧ us.length ≤ 50 ∧ ys.length ≤ 50, gLen_slv hp (gIf_ndec (fun h1 => gLen_nm hv (gIf_dec (fun _ => awake02_end) (fun h2 => ⟨rfl, by omega, by omega⟩))) (fun _ => awake02_end)), ?_⟩
  rintro _ w1 ⟨hw, hn, hm⟩
  obtain rfl : w = w1 := hw.symm
  have hx : xss.flatten.length ≤ 52428800 := Nat.le_trans (flat_bound hb) (Nat.mul_le_mul (show xss.length ≤ 50 by omega) (Nat.le_refl 1048576))
  have hxk : ∀ k, (xss.take k).flatten.length ≤ 52428800 := fun k => by
    have : xss.flatten = (xss.take k).flatten ++ (xss.drop k).flatten := by rw [← List.flatten_append, List.take_append_drop]
    rw [this, List.length_append] at hx; omega
  have hyk : ∀ k, (numsW (ys.take k)).length ≤ 500 := fun k => by
    have h1 := numsW_len (ys := ys.take k) (hv.2.take k)
    have h2 : (ys.take k).length ≤ 50 := by rw [List.length_take]; omega
    omega
  refine fNewW (Fr.start w) fun w5 v5 wa fa => fNewW fa fun x6 v6 wb fb => ?_
  refine ⟨fun all i w' => ∃ (k : Nat) (v5 v6 : Value), i = (k : Int) ∧ k ≤ us.length ∧ Fr w w' [oIt .u8 eB all (xss.take k).flatten, wIt eB x6 v6 [], wIt eB w5 v5 (xss.take k).flatten], fun _ i _ => us.length - i.toNat, ⟨0, v5, v6, rfl, Nat.zero_le _, fb.nil0 .u8 eB⟩, ?_⟩
  rintro _ all i w6 ⟨k, v5, v6, rfl, hk, f6⟩
  refine gLen_slv hp (gIf_dec (fun hlt => ?_) (fun hge => ?_))
  · have hkl : k < us.length := by omega
    have hkx : k < xss.length := by omega
    have hnx : Nm .u8 w us[k] xss[k] := hu k _ _ (by simp [hkl]) (by simp [hkx])
    refine gIdx_1 (hp.ev f6.old) (by omega) (by omega) fun a u hua hc _ => gLoad_v hc ?_
    have hue : u = us[k] := by
      have h2 : us[k]? = some u := by simpa using hua
      rw [List.getElem?_eq_getElem hkl] at h2; injection h2 with h2; exact h2.symm
    subst hue
    refine fLitV [us[k]] f6 rfl rfl (fun v hv => by rw [List.mem_singleton.1 hv]; exact hnx.one) fun l7 w7 f7 => ?_
    refine fRawW (yss := [xss[k]]) f7 3 rfl (fun w' f' => NL.of (f'.sl 0 rfl) rfl fun j u ys hu' hy' => ?_) ?_ (by simp) fun v8 w8 f8 => ?_
    · rcases j with _ | j
      · simp at hu' hy'; subst hu'; subst hy'; exact hnx.ev f'.old
      · simp at hu'
    · have := hxk (k + 1)
      rw [flat_next hkx, List.length_append] at this
      simp only [List.flatten_cons, List.flatten_nil, List.append_nil]; omega
    have f8 : Fr w w8 [lIt (elOf P t_sl_sl_uint8) l7 [us[k]], oIt .u8 eB all (xss.take k).flatten, wIt eB x6 v6 [], wIt eB w5 v8 (xss.take (k + 1)).flatten] := by
      have : (xss.take k).flatten ++ [xss[k]].flatten = (xss.take (k + 1)).flatten := by rw [flat_next hkx]; simp
      rw [← this]; exact f8
    refine gIdx_1 (hp.ev f8.old) (by omega) (by omega) fun a2 u2 hua2 hc2 _ => gLoad_v hc2 ?_
    have hue2 : u2 = us[k] := by
      have h2 : us[k]? = some u2 := by simpa using hua2
      rw [List.getElem?_eq_getElem hkl] at h2; injection h2 with h2; exact h2.symm
    subst hue2
    refine fApp f8 1 rfl (hnx.ev f8.old) ?_ fun v9 w9 f9 => ?_
    · have := hxk (k + 1)
      rw [flat_next hkx, List.length_append] at this
      omega
    refine ⟨⟨k + 1, v8, v6, by rw [i64_id (by omega) (by omega)]; omega, hkl, ?_⟩, by dsimp only; rw [i64_id (by omega) (by omega)]; omega⟩
    have f10 : Fr w w9 [lIt (elOf P t_sl_sl_uint8) l7 [us[k]], oIt .u8 eB v9 ((xss.take k).flatten ++ xss[k]), wIt eB x6 v6 [], wIt eB w5 v8 (xss.take (k + 1)).flatten] := f9
    rw [← flat_next hkx] at f10
    exact f10.drop 0
  · obtain rfl : k = us.length := by omega
    rw [hl, List.take_length] at f6
    refine fRawW (yss := xss) f6 1 rfl (fun w' f' => NL.of (hp.ev f'.old) hl fun j u ys hu' hy' => (hu j u ys hu' hy').ev f'.old) (by rw [List.length_nil]; omega) (by omega) fun v7 w7 f7 => ?_
    have f7 : Fr w w7 [oIt .u8 eB all xss.flatten, wIt eB x6 v7 xss.flatten, wIt eB w5 v5 xss.flatten] := f7
    refine ⟨fun i w' => ∃ (k : Nat) (v5 v6 : Value), i = (k : Int) ∧ k ≤ ys.length ∧ Fr w w' [oIt .u8 eB all xss.flatten, wIt eB x6 v6 (xss.flatten ++ numsW (ys.take k)), wIt eB w5 v5 (xss.flatten ++ numsW (ys.take k))], fun i _ => ys.length - i.toNat, ⟨0, v5, v7, rfl, Nat.zero_le _, by rw [show numsW (ys.take 0) = [] from rfl, List.append_nil]; exact f7⟩, ?_⟩
    rintro _ i w8 ⟨k, v5, v6, rfl, hk, f8⟩
    refine gLen_nm (hv.ev f8.old) (gIf_dec (fun hlt => ?_) (fun hge => ?_))
    · have hky : k < ys.length := by omega
      have hr : rd ys (k : Int) = ys[k] := rd_nat ys k hky
      have hrg := u64_rng (hv.2 _ (List.getElem_mem hky))
      have hk1 := hyk k
      refine gGet (hv.ev f8.old) (by omega) (by omega) ?_
      rw [hr]
      refine fNum f8 2 rfl hrg (by rw [List.length_append]; omega) fun v9 w9 f9 => ?_
      refine gGet (hv.ev f9.old) (by omega) (by omega) ?_
      rw [hr]
      refine fNum f9 1 rfl hrg (by rw [List.length_append]; omega) fun v10 w10 f10 => ?_
      refine ⟨⟨k + 1, v9, v10, by rw [i64_id (by omega) (by omega)]; omega, hky, ?_⟩, by dsimp only; rw [i64_id (by omega) (by omega)]; omega⟩
      rw [numsW_next hky, ← List.append_assoc]; exact f10
    · obtain rfl : k = ys.length := by omega
      have hk1 := hyk ys.length
      rw [List.take_length] at f8 hk1
      refine fBytesW f8 2 rfl (by rw [List.length_append]; omega) fun y9 w9 f9 => gCall_b awake02_any fun w10 h10 => gIf_t (fBytesW (f9.ev h10) 2 rfl (by rw [List.length_append]; omega) fun z11 w11 f11 => ?_)
      have f11 : Fr w w11 [oIt .u8 eB z11 (xss.flatten ++ numsW ys), oIt .u8 eB y9 (xss.flatten ++ numsW ys), oIt .u8 eB all xss.flatten, wIt eB x6 v6 (xss.flatten ++ numsW ys), wIt eB w5 v5 (xss.flatten ++ numsW ys)] := f11
      refine gCall_b0 (Bytes_any (f11.nm 1 rfl) (f11.nm 0 rfl)) (gIf_dec (fun _ => gLen_nm (f11.nm 1 rfl) (gLen_nm (f11.nm 2 rfl) ?_)) (fun h => (h rfl).elim))
      have hla : (xss.flatten ++ numsW ys).length = xss.flatten.length + (numsW ys).length := List.length_append
      refine gIf_dec (fun _ => gLen_nm (f11.nm 2 rfl) (gLen_nm (f11.nm 1 rfl) ?_)) (fun h => absurd (show ((xss.flatten ++ numsW ys).length : Int) ≥ (xss.flatten.length : Int) by omega) h)
      have hmin : (if ((xss.flatten ++ numsW ys).length : Int) < (xss.flatten.length : Int) then ((xss.flatten ++ numsW ys).length : Int) else (xss.flatten.length : Int)) = ((xss.flatten.length : Nat) : Int) := by rw [if_neg (by omega)]
      rw [hmin]
      refine gSlice_nm (f11.nm 1 rfl) 0 xss.flatten.length (.inl ⟨rfl, rfl⟩) (.inr ⟨_, rfl⟩) (Nat.zero_le _) (by omega) fun hs => gCall_b0 (Bytes_any hs (f11.nm 2 rfl)) ⟨?_, f11.old⟩
      rw [decide_eq_true]
      rw [Nat.sub_zero, List.drop_zero, List.take_left]
end
end Go.Proofs.YtcjopcplhabgkaaV
