/- The law TableBack. -/
import Derived.Test.YtlkjbilmfgfopaaVTableB
import Derived.Test.YtlkjbilmfgfopaaVTableL
namespace Go.Proofs.YtlkjbilmfgfopaaV
open Go Go.RowKit
theorem unpack_pack {xs : List Int} (hx : inR .u8 xs) (hok : packOk xs = true) (hl : xs.length ≤ 1000000) {most : Int} :
    unpackT (packL xs) most = if (xs.length : Int) > (if 0 > most then 0 else most) then ([], 5) else (xs, 0) := by
  have hok2 : widI xs ≠ 0 ∧ xs.length ≤ 1048576 := by simpa [packOk] using hok
  have hwb := widI_bd xs
  have hw2 : 2 ≤ widI xs ∧ widI xs ≤ 16 := by omega
  obtain ⟨W, hW⟩ : ∃ W : Nat, widI xs = W := ⟨(widI xs).toNat, by omega⟩
  have hcl : cl16 (widI xs) = W := by rw [hW]; unfold cl16; split <;> split <;> omega
  have hwo : wOf (widI xs) = W := by rw [hW]; unfold wOf; split <;> omega
  have hal : (apartL (deltaL xs W) W).length = xs.length := by rw [apartL_len, deltaL_len]
  have l1 := numB_len64 (n := W) (by omega)
  have l2 := numB_len64 (n := xs.length) (by omega)
  have hp : packL xs = numB W ++ (numB xs.length ++ (apartL (deltaL xs W) W ++ [])) := by
    unfold packL; rw [hcl, hwo, hW, Int.toNat_natCast]; simp
  have hlen : (packL xs).length = (numB W).length + (numB xs.length).length + xs.length := by rw [hp]; simp [hal]; omega
  have d0 : (packL xs).drop 0 = numB W ++ (numB xs.length ++ (apartL (deltaL xs W) W ++ [])) := hp
  have d1 := drop_app d0
  have d2 := drop_app d1
  have t1 := numR_of (m := 18446744073709551615) (by omega) (by omega) d0
  have t2 := numR_of (m := 18446744073709551615) (by omega) (by omega) d1
  have t3 := rawR_of (m := xs.length) (by rw [hal]) (by omega) d2
  unfold unpackT
  rw [t1]
  dsimp only
  rw [t2]
  dsimp only
  rw [if_neg (by simp), if_neg (by omega)]
  generalize (if 0 > most then 0 else most) = mm
  by_cases hg : (xs.length : Int) > mm
  · rw [if_pos (.inl hg), if_pos hg]
  · rw [if_neg (by omega), if_neg hg, if_neg (by omega), t3]
    dsimp only
    rw [show cl16 (W : Int) = W by rw [← hW]; exact hcl, show wOf (W : Int) = W by rw [← hW]; exact hwo, together_apart _ (by omega), undelta_delta hx (by omega)]
theorem TableBack_law {b : Value} {xs : List Int} {width : Int} {w : World} (hb : Nm .u8 w b xs) (hw : IntKind.i64.min ≤ width ∧ width ≤ IntKind.i64.max) : Calls P n_valiselaw20_TableBack #[b, .int .i64 width] w (Holds w) := by
  replace hw := (i64_rng hw).2
  refine of_valiselaw20_TableBack (gLen_nm hb (gIf_dec (fun _ => awake_end) (fun hl => ?_)))
  have hW := wOf_pos width
  refine ⟨fun w' => Ev w w', gCall_b awake_any fun w1 h1 => gIf_nn (gCall_v (Delta_any (hb.ev h1) (by omega) hw) fun v2 w2 ⟨h2, o2⟩ => gCall_v (Undelta_any o2.nm (by rw [deltaL_len]; omega) hw) fun v3 w3 ⟨h3, o3⟩ => ?_), ?_⟩
  · rw [undelta_delta hb.2 hW] at o3
    have e3 : Ev w w3 := h1.trans (h2.trans h3)
    refine gCall_b0 (Bytes_any o3.nm (hb.ev e3)) ?_
    rw [decide_eq_true rfl]
    refine gIf_nn (gCall_v (Undelta_any (hb.ev e3) (by omega) hw) fun v4 w4 ⟨h4, o4⟩ => gCall_v (Delta_any o4.nm (by rw [show (undeltaL xs (wOf width)).length = xs.length from tab_len _ _]; omega) hw) fun v5 w5 ⟨h5, o5⟩ => ?_)
    rw [delta_undelta hb.2 hW] at o5
    have e5 : Ev w w5 := e3.trans (h4.trans h5)
    refine gCall_b0 (Bytes_any o5.nm (hb.ev e5)) ?_
    rw [decide_eq_true rfl]
    exact gIf_nt e5
  · rintro _ w6 h6
    refine gCall_of (Pack_any (hb.ev h6) (by omega)) ?_
    rintro _ w7 ⟨h7, hp⟩
    have e7 : Ev w w7 := h6.trans h7
    by_cases hok : packOk xs = true
    · rw [if_pos hok] at hp
      obtain ⟨x, rfl, ox⟩ := hp
      have hok2 : widI xs ≠ 0 ∧ xs.length ≤ 1048576 := by simpa [packOk] using hok
      have hwb := widI_bd xs
      have hpl := packL_len (xs := xs) (by omega)
      refine ⟨x, true, rfl, gIf_nt (gLen_nm hb ?_)⟩
      have u1 := unpack_pack hb.2 hok (by omega) (most := xs.length)
      have u2 := unpack_pack hb.2 hok (by omega) (most := (xs.length : Int) - 1)
      rw [if_neg (by split <;> omega)] at u1
      rw [if_pos (by split <;> omega)] at u2
      have k1 := Unpack_any (most := xs.length) ox.nm (by omega) (by omega)
      rw [u1] at k1
      refine gCall_tup k1 fun c w8 h8 oc => gLen_nm hb ?_
      rw [i64_id (n := (xs.length : Int) - 1) (by omega) (by omega)]
      have k2 := Unpack_any (most := (xs.length : Int) - 1) (ox.ev h8).nm (by omega) (by omega)
      rw [u2] at k2
      refine gCall_tup k2 fun d w9 h9 od => gIf_t (gCall_b0 (Bytes_any (hb.ev (e7.trans (h8.trans h9))) (oc.ev h9).nm) ?_)
      rw [decide_eq_true rfl]
      refine gIf_t (gIf_t (gLen_nm ox.nm (gLen_nm hb ⟨?_, e7.trans (h8.trans h9)⟩)))
      rw [i64_id (n := (xs.length : Int) + 4) (by omega) (by omega)]
      have n1 : (numB (widI xs).toNat).length = 1 := by rw [numB_lt (by omega)]; rfl
      have n2 := numB_len 1 xs.length (by omega)
      have : (packL xs).length ≤ xs.length + 4 := by
        unfold packL
        rw [List.length_append, List.length_append, apartL_len, deltaL_len]; omega
      rw [decide_eq_true (by omega)]
    · rw [if_neg hok] at hp
      subst hp
      refine ⟨_, false, rfl, gIf_nf (gCall_i (Width_any (hb.ev e7) (by omega)) fun w8 h8 => ⟨?_, e7.trans h8⟩)⟩
      have : widI xs = 0 := by
        rcases Decidable.em (widI xs = 0) with h | h
        · exact h
        · exact absurd (by simp [packOk, h]; omega) hok
      rw [this]; rfl
end Go.Proofs.YtlkjbilmfgfopaaV
