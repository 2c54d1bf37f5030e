import Derived.Test.YtdhhmmllekkofaaVPart10
/- The laws ImageBack, ImageTotal, ImageChanged. -/
namespace Go.Proofs.YtdhhmmllekkofaaV
open Go Go.RowKit
section
variable {w : World}
theorem CopyBytesI_any {b : Value} {xs : List Int} (hb : Nm .u8 w b xs) (hl : xs.length ≤ 10000000000000) : Calls P n_valisehelp_CopyBytes #[b] w (NewB w xs) :=
  of_valisehelp_CopyBytes (fApp0 (Fr.start w) hb (by omega) fun v w' f => ⟨v, rfl, f.old, f.on 0 rfl⟩)
def smallP : List Int := [80, 53, 32, 49, 32, 49, 32, 50, 53, 53, 32, 120]
theorem packI_ok {xs : List Int} (hx : inR .u8 xs) (hl : xs.length ≤ 3000) :
    (packI xs).2 = (parseP xs).2 ∧ ((packI xs).2 = false → (packI xs).1 = []) ∧ ((packI xs).2 = true → 1 ≤ xs.length ∧ (∃ H : Nat, (parseP xs).1.ht = (H : Int) ∧ H ≤ 32768 ∧ (packI xs).1.length ≤ xs.length + H + 60) ∧ 1 ≤ (packI xs).1.length ∧ ∀ most, unpackI (packI xs).1 most = if (xs.length : Int) > (if 0 > most then 0 else most) then ([], 5) else (xs, 0)) := by
  have hin := (parse_in hx).1
  unfold packI
  by_cases h : (parseP xs).2 = true
  · rw [if_pos ⟨h, by omega⟩]
    refine ⟨h.symm, (fun h => by cases h), fun _ => ?_⟩
    obtain ⟨F, Wd, H, L, S, hp, a1, a2, a3, a4, a5, a6, a7⟩ := inP_nat (hin h)
    have hpk : packP xs (parseP xs).1 = packN xs F Wd H L S := by unfold packP; rw [hp]; simp
    have hS : S ≤ S * H := Nat.le_mul_of_pos_right _ (by omega)
    have hW : Wd ≤ Wd * L := Nat.le_mul_of_pos_right _ (by omega)
    have hun := unpack_packN (xs := xs) (F := F) (Wd := Wd) (H := H) (L := L) (S := S) hx (by omega) a1 a2 a3 a4 (by omega) (by omega) a6 a7
    dsimp only
    rw [hpk]
    refine ⟨by omega, ⟨H, by rw [hp], a4, pack_len (by omega) a2 a4 (by omega) a6 a7 (by omega)⟩, ?_, hun⟩
    refine Decidable.byContradiction fun hc => ?_
    have h0 : packN xs F Wd H L S = [] := List.length_eq_zero_iff.1 (by omega)
    have h1 := hun xs.length
    rw [h0, if_neg (by omega)] at h1
    have h2 : (unpackI [] xs.length).2 = 0 := by rw [h1]
    revert h2
    show ¬ _
    unfold unpackI
    dsimp only
    rw [if_pos (show (numsN [] 6).2.2 ≠ 0 by decide +kernel)]
    decide +kernel
  · rw [if_neg (fun hh => h hh.1)]
    have : (parseP xs).2 = false := by cases hq : (parseP xs).2 <;> simp_all
    exact ⟨this.symm, fun _ => rfl, fun hh => by cases hh⟩
theorem awake19_any : Calls P n_valiselaw19_awake #[] w (fun e w' => e = .returned (.bool true) ∧ Ev w w') := by
  have hin : inR .u8 smallP := by
    intro x hx
    have : ∀ x ∈ smallP, IntKind.u8.min ≤ x ∧ x ≤ IntKind.u8.max := by decide
    exact this x hx
  have hp : (parseP smallP).2 = true := by decide +kernel
  obtain ⟨k1, k2, k3⟩ := packI_ok hin (by decide)
  obtain ⟨_, _, k6, _⟩ := k3 (k1.trans hp)
  refine of_valiselaw19_awake (fLitC smallP (Fr.start w) rfl rfl hin fun v w2 f2 => ?_)
  have hN : Nm .u8 w2 v smallP := Cn.nm (f2.get 0 rfl)
  refine gCall_of (Pack_any hN (by decide)) ?_
  rintro _ w3 ⟨x, rfl, h3, hx⟩
  refine ⟨_, _, rfl, ?_⟩
  rw [k1.trans hp]
  refine gIf_t (gLen_nm hx.nm ⟨?_, f2.old.trans h3⟩)
  rw [decide_eq_true (by omega)]
theorem ImageTotal_law {x : Value} {xs : List Int} {most : Int} (hb : Nm .u8 w x xs) (_ : IntKind.i64.min ≤ most ∧ most ≤ IntKind.i64.max) : Calls P n_valiselaw19_ImageTotal #[x, .int .i64 most] w (Holds w) := by
  have aw : gCall P n_valiselaw19_awake shB #[] w fun (t17 : Bool) ww1 => Holds w (.returned (.bool t17)) ww1 := gCall_b awake19_any fun w1 h1 => ⟨rfl, h1⟩
  refine of_valiselaw19_ImageTotal ⟨fun w' => w' = w ∧ xs.length ≤ 3000, gLen_nm hb (gIf_ndec (fun hle => gIf_dec (fun _ => aw) (fun _ => ⟨rfl, by omega⟩)) (fun _ => aw)), ?_⟩
  rintro _ w1 ⟨hw, hl⟩
  obtain rfl : w = w1 := hw.symm
  refine gCall_v (Own_byte_any hb (by omega) (by decide)) fun o w2 ⟨h2, ho⟩ => gCall_of (Unpack_any ho.nm (by omega)) ?_
  rintro _ w3 ⟨b, rfl, h3, nb⟩
  refine ⟨_, _, rfl, gCall_of (Unpack_any (hb.ev (h2.trans h3)) (by omega)) ?_⟩
  rintro _ w4 ⟨c, rfl, h4, nc⟩
  refine ⟨_, _, rfl, gCall_b awake19_any fun w5 h5 => gIf_t (gCall_b (Kept_byte_any (ho.ev (h3.trans (h4.trans h5))) (hb.ev (h2.trans (h3.trans (h4.trans h5)))) (by omega)) fun w6 h6 => gIf_t (gCall_b0 (Bytes_any (nb.nm.ev (h4.trans (h5.trans h6))) (nc.nm.ev (h5.trans h6))) (gIf_dec (fun _ => gIf_eq (fun _ => ?_) (fun h => (h rfl).elim)) (fun h => (h rfl).elim))))⟩
  have hev := h2.trans (h3.trans (h4.trans (h5.trans h6)))
  have hn := nb.nm.ev (h4.trans (h5.trans h6))
  have ht := unpack_total xs most hb.2
  generalize unpackI xs most = r at ht hn
  obtain ⟨l, e⟩ := r
  dsimp only at ht hn ⊢
  rcases ht with ⟨rfl, h1, _⟩ | ⟨rfl, h1⟩
  · exact gIf_eq (fun _ => gLen_nm hn (gIf_ndec (fun h => (h h1).elim) (fun _ => ⟨rfl, hev⟩))) (fun h => (h rfl).elim)
  · have hz : gLen P t_sl_uint8 b fun (t60 : Nat) => gIf ((t60 : Int) == 0) (gIf (!(e == 4)) (gIf (!(e == 3)) (Holds w (.returned (.bool (e == 5))) w6) (Holds w (.returned (.bool true)) w6)) (Holds w (.returned (.bool true)) w6)) (Holds w (.returned (.bool false)) w6) := by
      refine gLen_nm hn (gIf_eq (fun _ => ?_) (fun h => (h rfl).elim))
      rcases h1 with rfl | rfl | rfl
      · exact ⟨rfl, hev⟩
      · exact ⟨rfl, hev⟩
      · exact ⟨rfl, hev⟩
    refine gIf_eq (fun he => ?_) (fun _ => hz)
    subst he
    rcases h1 with h | h | h <;> cases h
theorem ImageBack_law {b : Value} {xs : List Int} {most : Int} (hb : Nm .u8 w b xs) (_ : IntKind.i64.min ≤ most ∧ most ≤ IntKind.i64.max) : Calls P n_valiselaw19_ImageBack #[b, .int .i64 most] w (Holds w) := by
  refine of_valiselaw19_ImageBack (gLen_nm hb (gIf_dec (fun _ => gCall_b awake19_any fun w1 h1 => ⟨rfl, h1⟩) (fun hgt => ?_)))
  have hl : xs.length ≤ 3000 := by omega
  obtain ⟨k1, k2, k3⟩ := packI_ok hb.2 hl
  refine gCall_v (Own_byte_any hb (by omega) (by decide)) fun o w2 ⟨h2, ho⟩ => gCall_of (Pack_any ho.nm (by omega)) ?_
  rintro _ w3 ⟨x, rfl, h3, nx⟩
  refine ⟨_, _, rfl, gCall_pic (rParse_any (hb.ev (h2.trans h3)) (by omega)) fun w4 h4 => fPicNew (Fr.start w4) fun p8 w5 f5 => fPicSet f5 0 rfl rfl fun w6 f6 => ?_⟩
  have f6 : Fr w4 w6 [sIt p8 (parseP xs).1.c] := f6
  have h6 := f6.old
  have e6 := h2.trans (h3.trans (h4.trans h6))
  have nx6 := nx.nm.ev (h4.trans h6)
  refine ⟨fun w' => Ev w6 w', gCall_b awake19_any fun w7 h7 => gIf_nn (gNe_bool ?_), ?_⟩
  · rw [k1]
    refine gIf_of (fun _ => gCall_b (Kept_byte_any (ho.ev (h3.trans (h4.trans (h6.trans h7)))) (hb.ev (e6.trans h7)) (by omega)) fun w8 h8 => gIf_nn ?_) (fun h => by simp at h)
    rw [← k1]
    refine gIf_nb (fun hf => gLen_nm (nx6.ev (h7.trans h8)) ?_) (fun ht => h7.trans h8)
    rw [k2 hf]
    exact gIf_dec (fun h => by simp at h) (fun _ => h7.trans h8)
  rintro _ w9 h9
  refine gIf_nb (fun _ => ⟨rfl, e6.trans h9⟩) (fun hok => ?_)
  obtain ⟨c1, ⟨H, hH, hH2, c2⟩, c3, c4⟩ := k3 hok
  have nx9 := nx6.ev h9
  have nb9 := hb.ev (e6.trans h9)
  have f9 := f6.ev h9
  have e9 := e6.trans h9
  have U : ∀ {w' : World} (m : Int), Nm .u8 w' x (packI xs).1 → Calls P n_image_Unpack #[x, .int .i64 m] w' (TupE w' (if (xs.length : Int) > (if 0 > m then 0 else m) then ([], 5) else (xs, 0))) := fun m hn => by
    rw [← c4 m]; exact Unpack_any hn (by omega)
  have U1 := U (xs.length : Int) nx9
  rw [if_neg (show ¬ ((xs.length : Int) > (if 0 > (xs.length : Int) then 0 else (xs.length : Int))) by omega)] at U1
  refine gLen_nm nb9 (gCall_of U1 ?_)
  rintro _ w10 ⟨c, rfl, h10, nc⟩
  refine ⟨_, _, rfl, gLen_nm (nb9.ev h10) ?_⟩
  rw [i64_id (n := (xs.length : Int) - 1) (by omega) (by omega)]
  have U2 := U ((xs.length : Int) - 1) (nx9.ev h10)
  rw [if_pos (show ((xs.length : Int) > (if 0 > (xs.length : Int) - 1 then 0 else (xs.length : Int) - 1)) by omega)] at U2
  refine gCall_of U2 ?_
  rintro _ w11 ⟨d, rfl, h11, nd⟩
  refine ⟨_, _, rfl, gCall_of (U most (nx9.ev (h10.trans h11))) ?_⟩
  rintro _ w12 ⟨g, rfl, h12, ng⟩
  have a12 := h10.trans (h11.trans h12)
  have nb12 := nb9.ev a12
  have e12 := e9.trans a12
  refine ⟨_, _, rfl, gLen_nm (nx9.ev a12) (gLen_nm nb12 (fLoad_i (n := (parseP xs).1.ht) (f9.ev a12) 0 1 rfl rfl ?_))⟩
  rw [hH, i64_id (n := (xs.length : Int) + (H : Int)) (by omega) (by omega), i64_id (n := (xs.length : Int) + (H : Int) + 64) (by omega) (by omega)]
  refine gIf_dec (fun _ => gIf_eq (fun _ => gCall_b0 (Bytes_any nb12 (nc.nm.ev (h11.trans h12))) (gIf_dec (fun _ => gIf_eq (fun _ => gLen_nm (nd.nm.ev h12) (gIf_eq (fun _ => gLen_nm nb12 ?_) (fun h => (h rfl).elim))) (fun h => (h rfl).elim)) (fun h => (h rfl).elim))) (fun h => (h rfl).elim)) (fun h => absurd (show ((packI xs).1.length : Int) ≤ (xs.length : Int) + (H : Int) + 64 by omega) h)
  by_cases hmo : (xs.length : Int) ≤ most
  · rw [if_neg (show ¬ ((xs.length : Int) > (if 0 > most then 0 else most)) by omega)] at ng ⊢
    exact gIf_dec (fun _ => gIf_eq (fun _ => gCall_b0 (Bytes_any ng.nm nb12) (gIf_ndec (fun h => (h rfl).elim) (fun _ => ⟨rfl, e12⟩))) (fun h => (h rfl).elim)) (fun h => absurd hmo h)
  · rw [if_pos (show ((xs.length : Int) > (if 0 > most then 0 else most)) by omega)] at ng ⊢
    exact gIf_dec (fun h => absurd h hmo) (fun _ => gLen_nm nb12 (gIf_dec (fun _ => ⟨rfl, e12⟩) (fun h => absurd (show most < (xs.length : Int) by omega) h)))
theorem ImageChanged_law {b : Value} {xs : List Int} {at1 to2 cut3 : Int} (hb : Nm .u8 w b xs) (_ : IntKind.i64.min ≤ at1 ∧ at1 ≤ IntKind.i64.max) (hto : IntKind.u8.min ≤ to2 ∧ to2 ≤ IntKind.u8.max) (_ : IntKind.i64.min ≤ cut3 ∧ cut3 ≤ IntKind.i64.max) :
    Calls P n_valiselaw19_ImageChanged #[b, .int .i64 at1, .int .u8 to2, .int .i64 cut3] w (Holds w) := by
  have aw : ∀ {w'}, Ev w w' → gCall P n_valiselaw19_awake shB #[] w' fun (t17 : Bool) ww1 => Holds w (.returned (.bool t17)) ww1 := fun he => gCall_b awake19_any fun w1 h1 => ⟨rfl, he.trans h1⟩
  refine of_valiselaw19_ImageChanged (gLen_nm hb (gIf_dec (fun _ => aw (Ch.refl _ _)) (fun hgt => ?_)))
  have hl : xs.length ≤ 1500 := by omega
  obtain ⟨k1, k2, k3⟩ := packI_ok hb.2 (by omega)
  refine gCall_of (Pack_any hb (by omega)) ?_
  rintro _ w2 ⟨x, rfl, h2, nx⟩
  refine ⟨_, _, rfl, ⟨fun w' => Ev w2 w' ∧ (packI xs).2 = true, gCall_b awake19_any fun w3 h3 => gIf_nn (gIf_nnb (fun ht => gLen_nm (nx.nm.ev h3) (gIf_eq (fun _ => aw (h2.trans h3)) (fun _ => ⟨h3, ht⟩))) (fun _ => aw (h2.trans h3))), ?_⟩⟩
  rintro _ w7 ⟨h7, hok⟩
  obtain ⟨c1, ⟨H, hH, hH2, c2⟩, c3, c4⟩ := k3 hok
  obtain ⟨ys, hys⟩ : ∃ ys, ys = (packI xs).1 := ⟨_, rfl⟩
  rw [← hys] at c2 c3 nx
  refine gCall_v (CopyBytesI_any (nx.nm.ev h7) (by omega)) fun y w8 ⟨h8, ny⟩ => gLen_nm ny.nm ?_
  have f8 := (Fr.start w7).newO h8 ny
  have hu : u64 (ys.length : Int) = (ys.length : Int) := by rw [u64_def]; omega
  rw [hu]
  obtain ⟨j, hj, ej⟩ := tmod_nat at1 (m := (ys.length : Int)) (by omega) (by omega)
  refine gBin_rem (by omega) ?_
  rw [ej]
  refine fSetO f8 0 rfl rfl (by omega) hto fun w9 f9 => ?_
  have f9 : Fr w7 w9 [oIt .u8 eB y (ys.set j to2)] := f9
  refine gCall_of (Unpack_any (f9.nm 0 rfl) (by rw [List.length_set]; omega)) ?_
  rintro _ w10 ⟨c, rfl, h10, nc⟩
  have n10 := nx.nm.ev (h7.trans (f9.old.trans h10))
  refine ⟨_, _, rfl, gLen_nm n10 ?_⟩
  rw [hu]
  obtain ⟨q, hq, eq⟩ := tmod_nat cut3 (m := (ys.length : Int)) (by omega) (by omega)
  refine gBin_rem (by omega) ?_
  rw [eq]
  refine gSlice_nm n10 0 q (.inl ⟨rfl, rfl⟩) (.inr ⟨_, rfl⟩) (Nat.zero_le _) (by omega) fun hs => gCall_of (Unpack_any hs (by rw [List.length_take, List.length_drop]; omega)) ?_
  rintro _ w11 ⟨d, rfl, h11, nd⟩
  have hev : Ev w w11 := h2.trans (h7.trans (f9.old.trans (h10.trans h11)))
  have t1 := unpack_total (ys.set j to2) 4000 (f9.nm 0 rfl).2
  have t2 := unpack_total ((ys.drop 0).take (q - 0)) 4000 hs.2
  have hc := nc.nm.ev h11
  have hd := nd.nm
  clear nc nd
  generalize unpackI (ys.set j to2) 4000 = r1 at t1 hc
  generalize unpackI ((ys.drop 0).take (q - 0)) 4000 = r2 at t2 hd
  obtain ⟨l1, v1⟩ := r1
  obtain ⟨l2, v2⟩ := r2
  dsimp only at t1 t2 hc hd
  have m1 : (l1.length : Int) ≤ 4000 := by
    rcases t1 with ⟨_, h, _⟩ | ⟨rfl, _⟩
    · exact h
    · decide
  have m2 : (l2.length : Int) ≤ 4000 := by
    rcases t2 with ⟨_, h, _⟩ | ⟨rfl, _⟩
    · exact h
    · decide
  have n1 : v1 ≠ 0 → l1.length = 0 := fun h => by
    rcases t1 with ⟨hh, _⟩ | ⟨rfl, _⟩
    · exact (h hh).elim
    · rfl
  have n2 : v2 ≠ 0 → l2.length = 0 := fun h => by
    rcases t2 with ⟨hh, _⟩ | ⟨rfl, _⟩
    · exact (h hh).elim
    · rfl
  have fin : gIf (!(v2 == 0)) (gLen P t_sl_uint8 d fun (t89 : Nat) => Holds w (.returned (.bool ((t89 : Int) == 0))) w11) (Holds w (.returned (.bool true)) w11) :=
    gIf_neqq (fun h => gLen_nm hd (by rw [n2 h]; exact ⟨rfl, hev⟩)) (fun _ => ⟨rfl, hev⟩)
  refine ⟨_, _, rfl, gLen_nm hc (gIf_dec (fun _ => gLen_nm hd (gIf_dec (fun _ => gIf_neqq (fun h => gLen_nm hc (gIf_eq (fun _ => fin) (fun hh => absurd (by rw [n1 h]; rfl) hh))) (fun _ => fin)) (fun h => absurd m2 h))) (fun h => absurd m1 h))⟩
end
end Go.Proofs.YtdhhmmllekkofaaV
