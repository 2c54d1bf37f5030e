/- The law NumBack. -/
import Derived.Test.YtcjopcplhabgkaaVNumL
namespace Go.Proofs.YtcjopcplhabgkaaV
open Go Go.RowKit

/-- A reader in memory that is new since w0. -/
def FR (w0 w : World) (ad : Addr) (xs : List Int) (a : Nat) (er : Int) : Prop := ∃ b, Rd w ad b xs a er ∧ Ev w0 w ∧ w0.heap.size ≤ ad.block
theorem FR.to {w0 w w' : World} {ad : Addr} {b : Value} {xs : List Int} {a : Nat} {er : Int} (h1 : Ev w0 w) (h2 : w0.heap.size ≤ ad.block) (h : RS w w' ad b xs a er) : FR w0 w' ad xs a er :=
  ⟨b, h.1, h1.new h.2 fun n i hh => by rw [hh.1]; exact h2, h2⟩
theorem FR.ev {w0 w w' : World} {ad : Addr} {xs : List Int} {a : Nat} {er : Int} (h : FR w0 w ad xs a er) (he : Ev w w') : FR w0 w' ad xs a er := by
  obtain ⟨b, h1, h2, h3⟩ := h; exact ⟨b, h1.ev he, h2.trans he, h3⟩
theorem FR.old {w0 w : World} {ad : Addr} {xs : List Int} {a : Nat} {er : Int} (h : FR w0 w ad xs a er) : Ev w0 w := by obtain ⟨_, _, h, _⟩ := h; exact h
theorem FR.u8 {w0 w : World} {ad : Addr} {xs : List Int} {a : Nat} {er : Int} (h : FR w0 w ad xs a er) : inR .u8 xs := by obtain ⟨_, h, _⟩ := h; exact h.2.1.2
theorem lNew {w0 w : World} {b : Value} {xs : List Int} {K : Option Addr → World → Prop} (h0 : Ev w0 w) (hb : Nm .u8 w b xs) (hl : xs.length ≤ 10000000000) (hk : ∀ ad w', FR w0 w' ad xs 0 0 → K (some ad) w') : gCall P n_num_New shP #[b] w K :=
  gCall_of (rNew_any hb hl) fun _ w' ⟨ad, y, h1, h2, h3, h4⟩ => ⟨some ad, h1, hk ad w' ⟨y, h4, h0.trans h2, Nat.le_trans h0.size h3⟩⟩
theorem lrNum {w0 w : World} {ad : Addr} {xs : List Int} {a : Nat} {er : Int} {K : Int → World → Prop} {r : Int × Nat × Int} (h : FR w0 w ad xs a er) (hr : numR xs a er 18446744073709551615 = r) (hk : ∀ w', FR w0 w' ad xs r.2.1 r.2.2 → K r.1 w') : gCall P n_num_Reader_Num (shI .u64) #[.pointer (some ad)] w K := by
  obtain ⟨b, h1, h2, h3⟩ := h; subst hr; exact gCall_i (rNum_any h1) fun w' hw => hk w' (FR.to h2 h3 hw)
theorem lrZig {w0 w : World} {ad : Addr} {xs : List Int} {a : Nat} {er : Int} {K : Int → World → Prop} {r : Int × Nat × Int} (h : FR w0 w ad xs a er) (hr : numR xs a er 18446744073709551615 = r) (hk : ∀ w', FR w0 w' ad xs r.2.1 r.2.2 → K (unfoldI r.1) w') : gCall P n_num_Reader_Zig (shI .i64) #[.pointer (some ad)] w K := by
  obtain ⟨b, h1, h2, h3⟩ := h; subst hr; exact gCall_i (rZig_any h1) fun w' hw => hk w' (FR.to h2 h3 hw)
theorem lrText {w0 w : World} {ad : Addr} {xs : List Int} {a : Nat} {er m : Int} {K : Value → World → Prop} {r : List Int × Nat × Int} (h : FR w0 w ad xs a er) (hm : m ≤ 9223372036854775807) (hr : textR xs a er m = r) (hk : ∀ y w', FR w0 w' ad xs r.2.1 r.2.2 → ON .u8 eB w' w.heap.size y r.1 → K y w') : gCall P n_num_Reader_Text shV #[.pointer (some ad), .int .i64 m] w K := by
  obtain ⟨b, h1, h2, h3⟩ := h; subst hr; exact gCall_v (rText_any h1 hm) fun y w' hw => hk y w' (FR.to h2 h3 hw.1) hw.2
theorem lrLittle {w0 w : World} {ad : Addr} {xs : List Int} {a : Nat} {er n : Int} {K : Int → World → Prop} {r : List Int × Nat × Int} (h : FR w0 w ad xs a er) (hr : rawR xs a er (if 8 < n then 8 else n) = r) (hk : ∀ w', FR w0 w' ad xs r.2.1 r.2.2 → K (leN r.1) w') : gCall P n_num_Reader_Little (shI .u64) #[.pointer (some ad), .int .i64 n] w K := by
  obtain ⟨b, h1, h2, h3⟩ := h; subst hr; exact gCall_i (rLittle_any h1) fun w' hw => hk w' (FR.to h2 h3 hw)
theorem lrBig {w0 w : World} {ad : Addr} {xs : List Int} {a : Nat} {er n : Int} {K : Int → World → Prop} {r : List Int × Nat × Int} (h : FR w0 w ad xs a er) (hr : rawR xs a er (if 8 < n then 8 else n) = r) (hk : ∀ w', FR w0 w' ad xs r.2.1 r.2.2 → K (beN 0 r.1) w') : gCall P n_num_Reader_Big (shI .u64) #[.pointer (some ad), .int .i64 n] w K := by
  obtain ⟨b, h1, h2, h3⟩ := h; subst hr; exact gCall_i (rBig_any h1) fun w' hw => hk w' (FR.to h2 h3 hw)
theorem lrEnd {w0 w : World} {ad : Addr} {xs : List Int} {a : Nat} {er : Int} {K : Int → World → Prop} (h : FR w0 w ad xs a er) (hk : ∀ w', FR w0 w' ad xs a er → K (endR xs.length a er) w') : gCall P n_num_Reader_End (shI .i64) #[.pointer (some ad)] w K := by
  obtain ⟨b, h1, h2, h3⟩ := h; exact gCall_i (rEnd_any h1) fun w' hw => hk w' ⟨b, h1.ev hw, h2.trans hw, h3⟩
theorem lrLeft {w0 w : World} {ad : Addr} {xs : List Int} {a : Nat} {er : Int} {K : Int → World → Prop} (h : FR w0 w ad xs a er) (hk : ∀ w', Ev w w' → K ((xs.length : Int) - a) w') : gCall P n_num_Reader_Left (shI .i64) #[.pointer (some ad)] w K := by
  obtain ⟨b, h1, h2, h3⟩ := h; exact gCall_i (rLeft_any h1) hk
theorem lrErr {w0 w : World} {ad : Addr} {xs : List Int} {a : Nat} {er : Int} {K : Int → World → Prop} (h : FR w0 w ad xs a er) (hk : K er w) : gCall P n_num_Reader_Err (shI .i64) #[.pointer (some ad)] w K := by
  obtain ⟨b, h1, h2, h3⟩ := h; exact gCall_i0 (rErr_any h1) hk
theorem FW.old {w0 w : World} {ad : Addr} {xs : List Int} (h : FW w0 w ad xs) : Ev w0 w := by obtain ⟨_, _, h, _⟩ := h; exact h
theorem gEq_pnil_n {P : Program} {t : TypeId} {ad : Addr} {K : Bool → Prop} (hk : K false) (ht : (match P.underlying t with | some (.pointer _) => true | _ => false) = true := by kernel_rfl) : gEq P .eql t (.pointer (some ad)) (.pointer none) K := gEq_pnil hk ht
theorem NumBack_law {v z : Int} {b raw : Value} {ys rs : List Int} {w : World} (hv : IntKind.u64.min ≤ v ∧ v ≤ IntKind.u64.max) (hz : IntKind.i64.min ≤ z ∧ z ≤ IntKind.i64.max) (hb : Nm .u8 w b ys) (hr : Nm .u8 w raw rs) :
    Calls P n_valiselaw02_NumBack #[.int .u64 v, .int .i64 z, b, raw] w (Holds w) := by
  replace hv := u64_rng hv
  replace hz := i64_rng hz
  refine of_valiselaw02_NumBack ⟨fun w' => w' = w ∧ ys.length ≤ 3000 ∧ rs.length ≤ 3000, gLen_nm hb (gIf_ndec (fun h1 => gLen_nm hr (gIf_dec (fun h2 => awake_end) (fun h2 => ⟨rfl, by omega, by omega⟩))) (fun h1 => awake_end)), ?_⟩
  rintro _ w0 ⟨rfl, hyl, hrl⟩
  have hf := foldI_rng hz
  have l1 := numB_len64 (n := v.toNat) (by omega)
  have l2 := numB_len64 (n := (foldI z).toNat) (by omega)
  have l3 := numB_len64 (n := ys.length) (by omega)
  have c8 : clN 8 = 8 := by decide
  refine newW (Ch.refl _ w0) fun ad w1 h1 => lNum h1 hv (by simp) fun w2 h2 => lZig h2 hz (by simp; omega) fun w3 h3 => lText h3 hb (by simp; omega) fun w4 h4 => lLittle h4 hv (by simp; omega) fun w5 h5 => lBig h5 hv (by rw [c8]; simp [littleB_len]; omega) fun w6 h6 => lBytes h6 (by rw [c8]; simp [littleB_len, bigB_len]; omega) fun y w7 h7 hy => ?_
  rw [c8, List.nil_append] at hy
  obtain ⟨_, _, e6, _⟩ := h6
  have hxl : (numB v.toNat ++ numB (foldI z).toNat ++ numB ys.length ++ ys ++ littleB v 8 ++ bigB v 8).length = (numB v.toNat).length + (numB (foldI z).toNat).length + (numB ys.length).length + ys.length + 8 + 8 := by simp [littleB_len, bigB_len]; omega
  generalize hxs : numB v.toNat ++ numB (foldI z).toNat ++ numB ys.length ++ ys ++ littleB v 8 ++ bigB v 8 = xs at *
  refine lNew (e6.trans h7) hy.nm (by omega) fun rd w8 h8 => ?_
  have d0 : xs.drop 0 = numB v.toNat ++ (numB (foldI z).toNat ++ (numB ys.length ++ (ys ++ (littleB v 8 ++ (bigB v 8 ++ []))))) := by rw [← hxs]; simp
  have d1 := drop_app d0
  have d2 := drop_app d1
  have d3 := drop_app d2
  have d4 := drop_app d3
  have d5 := drop_app d4
  have t1 := numR_of (m := 18446744073709551615) (by omega) (by omega) d0
  have t2 := numR_of (m := 18446744073709551615) (by omega) (by omega) d1
  have t3 := textR_of (m := ys.length) (by omega) (by omega) (by omega) d2
  have t4 := rawR_of (m := if (8 : Int) < 8 then 8 else 8) (by rw [littleB_len]; decide) (by omega) d4
  have t5 := rawR_of (m := if (8 : Int) < 8 then 8 else 8) (by rw [bigB_len]; decide) (by rw [littleB_len]; omega) d5
  rw [littleB_len] at t4 t5
  rw [bigB_len] at t5
  refine ⟨fun w' => Ev w0 w', gCall_b awake_any fun w9 h9 => gIf_nn (gEq_pnil (gIf_nf ?_)), ?_⟩
  · refine lrNum (h8.ev h9) t1 fun w10 h10 => gIf_nneq (fun _ => ?_) (fun h => (h (by omega)).elim)
    refine lrZig h10 t2 fun w11 h11 => gIf_nneq (fun _ => gLen_nm hb ?_) (fun h => (h (by rw [show (((foldI z).toNat : Nat) : Int) = foldI z by omega]; exact unfold_fold z)).elim)
    refine lrText h11 (by omega) t3 fun x w12 h12 hx => gCall_b0 (Bytes_any hx.nm (hb.ev h12.old)) ?_
    rw [decide_eq_true rfl]
    refine gIf_nn (lrLittle h12 t4 fun w13 h13 => gIf_nneq (fun _ => ?_) (fun h => (h (le_little hv)).elim))
    refine lrBig h13 t5 fun w14 h14 => gIf_nneq (fun _ => ?_) (fun h => (h (be_big hv)).elim)
    refine lrEnd h14 fun w15 h15 => gIf_neq (fun h => (h ?_).elim) (fun _ => h15.old)
    unfold endR
    dsimp only
    rw [if_neg (by simp), if_neg (by omega)]
  · rintro _ w20 e20
    refine lNew e20 (hr.ev e20) (by omega) fun rd2 w21 h21 => lrNum h21 rfl fun w22 h22 => ?_
    refine ⟨fun w' => Ev w0 w', lrErr h22 (gIf_eq (fun e0 => ?_) (fun _ => h22.old)), ?_⟩
    · have hlook : (lookI rs 0).2.2 = 0 := by
        unfold numR at e0
        rw [if_neg (by simp)] at e0
        split at e0
        · cases e0
        · split at e0
          · rename_i hh; exact absurd e0 hh
          · rename_i hh; simpa using hh
      obtain ⟨q, q1, q2, rest, q3⟩ := numB_lookI hr.2 hlook
      have hq : q < 18446744073709551616 := by have := lookI_rng hr.2 hlook; omega
      have e1 := numR_of (m := 18446744073709551615) hq (by omega) q3
      rw [Nat.zero_add] at e1
      rw [e1] at h22 ⊢
      dsimp only at h22 ⊢
      have hlq := drop_len q3
      have hq1 : 1 ≤ (numB q).length := by
        by_cases h : q < 128
        · rw [numB_lt h]; simp
        · rw [numB_ge h]; simp
      refine newW (Ch.refl _ w22) fun ad3 w23 h23 => lNum h23 (by omega) (by simp) fun w24 h24 => gLen_nm hr (lrLeft (h22.ev h24.old) fun w25 h25 => ?_)
      rw [Int.toNat_natCast, List.nil_append] at h24
      rw [show i64 ((rs.length : Int) - ((rs.length : Int) - ((numB q).length : Nat))) = ((numB q).length : Int) by rw [i64_id (by omega) (by omega)]; omega]
      refine ⟨fun _ => True, trivial, gIf_ndec (fun _ => gLen_nm hr (gIf_ndec (fun _ => ?_) (fun h => by omega))) (fun h => by omega)⟩
      refine gSlice_nm hr 0 (numB q).length (.inl ⟨rfl, rfl⟩) (.inr ⟨_, rfl⟩) (by omega) (by omega) fun hs => ?_
      rw [List.drop_zero, Nat.sub_zero] at hs
      have htk : rs.take (numB q).length = numB q := by rw [List.drop_zero] at q3; rw [q3, List.take_left]
      rw [htk] at hs
      have e26 : Ev w0 w25.drew := (h22.old.trans h24.old).trans (Ch.drew h25)
      refine lBytes (h24.ev (Ch.drew h25)) (by have := numB_len64 hq; omega) fun x w26 h26 hx => ⟨trivial, gCall_b0 (Bytes_any hx.nm (hs.ev (e26.trans h26))) ⟨trivial, ?_⟩⟩
      rw [decide_eq_true rfl]
      exact gIf_nt (e26.trans h26)
    · rintro _ w30 e30
      refine gCall_i0 (Fold_any hz) (gCall_i0 (Unfold_any hf) (gIf_eq (fun _ => gCall_i0 (Unfold_any hv) (gCall_i0 (Fold_any (unfoldI_rng hv)) ⟨?_, e30⟩)) (fun h => (h (unfold_fold z)).elim)))
      rw [fold_unfold hv.1]; simp
end Go.Proofs.YtcjopcplhabgkaaV
