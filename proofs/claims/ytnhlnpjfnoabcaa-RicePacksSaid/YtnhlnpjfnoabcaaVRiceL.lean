/- The laws of rice. -/
import Derived.Test.YtnhlnpjfnoabcaaVRiceD
import Derived.Test.YtnhlnpjfnoabcaaVHelpOwn
import Derived.Test.YtnhlnpjfnoabcaaVHelpOwn32
namespace Go.Proofs.YtnhlnpjfnoabcaaV
open Go Go.RowKit
section
variable {w0 w : World} {F : List It} {f : FuncId} {args : Array Value}
theorem fCallTI {r : List Int × Int} {K : Value → Int → World → Prop} (h : Fr w0 w F) (hc : Calls P f args w (TupI w r)) (hk : ∀ v w', Fr w0 w' (oIt .i32 e32 v r.1 :: F) → K v r.2 w') : gCall P f (.tup [.one .val, .one (.int .i64)]) args w K :=
  gCall_of hc fun _ w' ⟨v, h1, h2, h3⟩ => ⟨v, r.2, h1, hk v w' (h.newO h2 h3)⟩
end
theorem packE_le {l : List Int} (h : l.length ≤ 1048576) : packE l = (pkB (packTo l l.length), 0) := by unfold packE; rw [if_neg (by omega)]
theorem pkB_len (l : List Int) : (pkB (packTo l l.length)).length = ((packTo l l.length).length + 7) / 8 := (pkB_ok (B01.pack l _)).2.1
theorem awake_any {w : World} : Calls P n_valiselaw10_awake #[] w (fun e w' => e = .returned (.bool true) ∧ Ev w w') := by
  refine of_valiselaw10_awake (fLit_n [0] (Fr.start w) rfl rfl (fun x hx => by simp at hx; subst hx; decide) fun t w1 f1 => fCallTE f1 (rPack_any (f1.nm 0 rfl)) fun v w2 f2 => ?_)
  have hlen : (pkB (packTo [0] ([0] : List Int).length)).length = 1 := by
    rw [pkB_len, show (packTo [0] ([0] : List Int).length).length = 6 by decide +kernel]
  rw [packE_le (by decide)] at f2 ⊢
  refine gIf_eq (fun _ => gLen_nm (f2.nm 0 rfl) (gIf_eq (fun _ => ?_) (fun h => (h (by dsimp only; rw [hlen]; rfl)).elim))) (fun h => (h rfl).elim)
  refine fLit_n [0, -1, 1] f2 rfl rfl (fun x hx => by simp at hx; rcases hx with rfl | rfl | rfl <;> decide) fun t w3 f3 => gCall_i0 (Cost_any (f3.nm 0 rfl) (by decide)) ⟨?_, f3.old⟩
  rw [show costL (cl24 0) [0, -1, 1] = 6 by decide +kernel]; rfl
theorem awake_end {w0 w : World} (h : Ev w0 w) : gCall P n_valiselaw10_awake shB #[] w fun t ww => Holds w0 (.returned (.bool t)) ww := gCall_b awake_any fun _ h2 => ⟨rfl, h.trans h2⟩
theorem RicePacks_law {l0 : Value} {l : List Int} {k : Int} {w : World} (hl : Nm .i32 w l0 l) (_ : IntKind.i64.min ≤ k ∧ k ≤ IntKind.i64.max) : Calls P n_valiselaw10_RicePacks #[l0, .int .i64 k] w (Holds w) := by
  refine of_valiselaw10_RicePacks (gLen_nm hl (gIf_dec (fun _ => awake_end (Ch.refl _ w)) (fun hlen => ?_)))
  refine gCall_v (Own_int32_any hl (by omega) (by decide)) fun i1 w1 ⟨h1, hi1⟩ => ?_
  have hl1 := hl.ev h1
  have hi := hi1.nm
  refine fCallTE (Fr.start w1) (rPack_any hi) fun x w2 f2 => fCallTE f2 (rfPack_any (hl1.ev f2.old)) fun y w3 f3 => gCall_b awake_any fun w4 h4 => gIf_t ?_
  have f4 := f3.ev h4
  have hi4 := hi.ev f4.old
  have hl4 := hl1.ev f4.old
  refine gCall_b0 (Bytes_any (f4.nm 1 rfl) (f4.nm 0 rfl)) (gIf_dec (fun _ => gIf_eq (fun _ => ?_) (fun h => (h rfl).elim)) (fun h => (h rfl).elim))
  refine gCall_i0 (Cost_any hi4 (by omega)) (gCall_i0 (rfCost_any hl4 (by omega)) (gIf_eq (fun _ => gCall_i0 (Best_any hi4 (by omega)) (gCall_i0 (rfBest_any hl4 (by omega)) (gIf_eq (fun _ => ?_) (fun h => (h rfl).elim)))) (fun h => (h rfl).elim)))
  exact gCall_b (Kept_int32_any (hi1.ev f4.old) hl4 (by omega)) fun w5 h5 => ⟨rfl, h1.trans (f4.old.trans h5)⟩
theorem unpE_both (xs : List Int) (n : Int) : unpE true xs n = unpE false xs n := unpE_same (fun l _ _ => (pkB_ok (B01.pack l _)).2) n
theorem RiceUnpacks_law {b : Value} {xs : List Int} {n : Int} {w : World} (hb : Nm .u8 w b xs) (_ : IntKind.i64.min ≤ n ∧ n ≤ IntKind.i64.max) : Calls P n_valiselaw10_RiceUnpacks #[b, .int .i64 n] w (Holds w) := by
  refine of_valiselaw10_RiceUnpacks ⟨fun w' => xs.length ≤ 600 ∧ w' = w, gLen_nm hb (gIf_ndec (fun h1 => gIf_dec (fun _ => gIf_dec (fun _ => awake_end (Ch.refl _ w)) (fun _ => ⟨by omega, rfl⟩)) (fun _ => ⟨by omega, rfl⟩)) (fun _ => awake_end (Ch.refl _ w))), ?_⟩
  rintro _ _ ⟨hlen, rfl⟩
  rename_i w
  refine gCall_v (Own_byte_any hb (by omega) (by decide)) fun i1 w1 ⟨h1, hi1⟩ => ?_
  have hb1 := hb.ev h1
  have hi := hi1.nm
  refine fCallTI (Fr.start w1) (rUnpack_any hi (by omega)) fun x w2 f2 => fCallTI f2 (rfUnpack_any (hb1.ev f2.old) (by omega)) fun y w3 f3 => gCall_b awake_any fun w4 h4 => gIf_t ?_
  have f4 := f3.ev h4
  rw [unpE_both] at f4 ⊢
  have hlen2 : (unpE false xs n).1.length ≤ 1048576 := by
    unfold unpE
    split
    · simp
    split
    · simp
    split
    · simp
    · rename_i l hl
      split
      · have := readN_len _ _ _ _ hl; dsimp only; omega
      · simp
  refine gCall_b (Plain_int32_any (f4.nm 1 rfl) (f4.nm 0 rfl) (by omega)) fun w5 h5 => gIf_dec (fun _ => gIf_eq (fun _ => ?_) (fun h => (h rfl).elim)) (fun h => (h rfl).elim)
  have f5 := f4.ev h5
  exact gCall_b (Kept_byte_any (hi1.ev f5.old) (hb1.ev f5.old) (by omega)) fun w7 h7 => ⟨rfl, h1.trans (f5.old.trans h7)⟩
theorem unpE_at {xs l : List Int} (hr : inR .i32 l) (h : hasAt xs 0 (packTo l l.length)) (hl : l.length ≤ 1048576) : unpE true xs l.length = if pkB (packTo l l.length) = xs then (l, 0) else ([], 4) := by
  unfold unpE
  rw [if_neg (by omega), if_neg (by omega), Int.toNat_natCast]
  have := readN_at (lim := true) (rd_i32 hr) h l.length 0 0 (by omega) (fun h => by omega)
  rw [show (packTo l 0).length = 0 from rfl] at this
  rw [this]; rfl
/-- What is packed is unpacked. -/
theorem unpE_pack {l : List Int} (hr : inR .i32 l) (hl : l.length ≤ 1048576) : unpE true (pkB (packTo l l.length)) l.length = (l, 0) := by
  rw [unpE_at hr (pkB_ok (B01.pack l _)).2.has hl, if_pos rfl]
theorem RiceBack_law {l0 : Value} {l : List Int} {w : World} (hl : Nm .i32 w l0 l) : Calls P n_valiselaw10_RiceBack #[l0] w (Holds w) := by
  refine of_valiselaw10_RiceBack (gLen_nm hl (gIf_dec (fun _ => awake_end (Ch.refl _ w)) (fun hlen => ?_)))
  have hbl := pkB_len l
  have hpl := packTo_len l l.length
  refine fCallTE (Fr.start w) (rPack_any hl) fun x w2 f2 => gLen_nm hl ?_
  rw [packE_le (by omega)] at f2 ⊢
  refine fCallTI f2 (rUnpack_any (f2.nm 0 rfl) (by dsimp only; omega)) fun y w3 f3 => gCall_b awake_any fun w4 h4 => gIf_t ?_
  have f4 := f3.ev h4
  rw [unpE_pack hl.2 (by omega)] at f4 ⊢
  refine gIf_t (gIf_t (gCall_b (Plain_int32_any (hl.ev f4.old) (f4.nm 0 rfl) (by omega)) fun w5 h5 => gIf_dec (fun _ => ?_) (fun h => (h rfl).elim)))
  refine gLen_nm (f4.nm 1 rfl) (gLen_nm hl (gLen_nm hl ⟨?_, (f4.ev h5).old⟩))
  have ed : i64 (Int.tdiv (l.length : Int) 64) = ((l.length / 64 : Nat) : Int) := by rw [Int.tdiv_eq_ediv_of_nonneg (by omega), i64_id (by omega) (by omega)]; omega
  dsimp only
  rw [ed, i64_id (n := 8 * _) (by omega) (by omega), i64_id (n := 56 * _) (by omega) (by omega), i64_id (n := ((l.length / 64 : Nat) : Int) + 1) (by omega) (by omega), i64_id (n := 5 * _) (by omega) (by omega), i64_id (n := 56 * _ + _) (by omega) (by omega), i64_id (by omega) (by omega), decide_eq_true]
  have hd : (l.length + 63) / 64 ≤ l.length / 64 + 1 := by omega
  omega
theorem RiceBest_law {l0 : Value} {l : List Int} {w : World} (hl : Nm .i32 w l0 l) : Calls P n_valiselaw10_RiceBest #[l0] w (Holds w) := by
  have hb := bestL_le l
  refine of_valiselaw10_RiceBest (gLen_nm hl (gIf_dec (fun _ => awake_end (Ch.refl _ w)) (fun hlen => gCall_i0 (Best_any hl (by omega)) ⟨fun w' => Ev w w', gCall_b awake_any fun w1 h1 => gIf_nn (gIf_ndec (fun _ => gIf_dec (fun h => by omega) fun _ => h1) (fun h => by omega)), ?_⟩)))
  rintro _ w1 h1
  refine ⟨fun i w' => ∃ j : Nat, i = j ∧ j ≤ 25 ∧ w' = w1, fun i _ => 25 - i.toNat, ⟨0, rfl, by omega, rfl⟩, ?_⟩
  rintro _ i _ ⟨j, rfl, hj, rfl⟩
  rename_i w1
  have hl1 := hl.ev h1
  refine gIf_dec (fun hlt => gCall_i0 (Cost_any hl1 (by omega)) (gCall_i0 (Cost_any hl1 (by omega)) ?_)) (fun _ => ⟨rfl, h1⟩)
  obtain ⟨b1, b2⟩ := bestU_is l 24 j (by omega)
  rw [cl24_id (k := j) (by omega), cl24_id (k := bestL l) hb, i64_id (n := (j : Int) + 1) (by omega) (by omega)]
  unfold bestL at hb ⊢
  refine gIf_ndec (fun _ => gIf_dec (fun hlt2 => gCall_i0 (Cost_any hl1 (by omega)) (gIf_eq (fun e => ?_) fun _ => ⟨⟨j + 1, by omega, by omega, rfl⟩, by dsimp only; omega⟩)) fun _ => ⟨⟨j + 1, by omega, by omega, rfl⟩, by dsimp only; omega⟩) (fun h => by omega)
  rw [cl24_id (k := bestU l 24) hb] at e
  have := b2 (by omega)
  omega
theorem hasAt.more {xs bs : List Int} (ys : List Int) (h : hasAt xs 0 bs) : hasAt (xs ++ ys) 0 bs := by
  obtain ⟨h1, h2⟩ := h
  refine ⟨by rw [List.length_append]; omega, fun k hk => ?_⟩
  rw [← h2 k hk]
  unfold bitAt
  rw [rd_app, if_pos (by omega)]
theorem CopyBytes_any {b : Value} {xs : List Int} {w : World} (hb : Nm .u8 w b xs) (hl : xs.length ≤ 1000000000) : Calls P n_valisehelp_CopyBytes #[b] w (NewB w xs) :=
  of_valisehelp_CopyBytes (fApp0 (Fr.start w) hb (by omega) fun v w1 f1 => ⟨v, rfl, f1.old, f1.on 0 rfl⟩)
theorem unpE_err (xs : List Int) {n : Int} (h0 : 0 ≤ n) (h1 : n ≤ 1048576) : ((unpE true xs n).2 = 4 ∧ (unpE true xs n).1 = []) ∨ ((unpE true xs n).2 = 0 ∧ (unpE true xs n).1.length = n.toNat ∧ pkB (packTo (unpE true xs n).1 (unpE true xs n).1.length) = xs) := by
  unfold unpE
  rw [if_neg (by omega), if_neg (by omega)]
  split
  · exact .inl ⟨rfl, rfl⟩
  · rename_i l hl
    split
    · rename_i he; exact .inr ⟨rfl, readN_len _ _ _ _ hl, he⟩
    · exact .inl ⟨rfl, rfl⟩
theorem RiceCut_law {l0 : Value} {l : List Int} {m n : Int} {w : World} (hl : Nm .i32 w l0 l) (hm : IntKind.u8.min ≤ m ∧ m ≤ IntKind.u8.max) (_ : IntKind.i64.min ≤ n ∧ n ≤ IntKind.i64.max) : Calls P n_valiselaw10_RiceCut #[l0, .int .u8 m, .int .i64 n] w (Holds w) := by
  have hbl := pkB_len l
  have hpl := packTo_len l l.length
  obtain ⟨q, hq, en⟩ := tmod_nat n (m := 400) (by decide) (by decide)
  refine of_valiselaw10_RiceCut (gLen_nm hl (gIf_dec (fun _ => awake_end (Ch.refl _ w)) (fun hlen => ?_)))
  rw [en]
  refine fCallTE (Fr.start w) (rPack_any hl) fun x w2 f2 => ?_
  rw [packE_le (by omega)] at f2 ⊢
  refine ⟨fun w' => Fr w w' [oIt .u8 eB x (pkB (packTo l l.length))], gCall_b awake_any fun w3 h3 => gIf_nn (gIf_neq (fun h => (h rfl).elim) fun _ => f2.ev h3), ?_⟩
  rintro _ w3 f3
  refine fCallB f3 (CopyBytes_any (f3.nm 0 rfl) (by omega)) fun c w4 f4 => fAppB rfl f4 (u8_rng hm) (by omega) fun d w5 f5 => gLen_nm hl ?_
  have e1 : (unpE true (pkB (packTo l l.length) ++ [m]) l.length) = ([], 4) := by
    rw [unpE_at hl.2 ((pkB_ok (B01.pack l _)).2.has.more _) (by omega), if_neg]
    intro h
    have := congrArg List.length h
    simp at this
  refine fCallTI f5 (rUnpack_any (f5.nm 0 rfl) (by simp; omega)) fun u w6 f6 => fCallTI f6 (rUnpack_any (f6.nm 2 rfl) (by omega)) fun z w7 f7 => ?_
  rw [e1]
  have hz := unpE_err (pkB (packTo l l.length)) (n := (q : Int)) (by omega) (by omega)
  have hq2 : (unpE true (pkB (packTo l l.length)) q).2 ≠ 0 → (q : Int) ≠ l.length := fun h e => by
    have := unpE_pack hl.2 (by omega)
    rw [← e] at this
    rw [this] at h; exact h rfl
  generalize unpE true (pkB (packTo l l.length)) q = r at *
  refine ⟨fun w' => w' = w7, gIf_nneq (fun _ => gIf_neq (fun h1 => gIf_neq (fun h2 => ?_) fun _ => rfl) fun _ => rfl) (fun h => (h rfl).elim), ?_⟩
  · rcases hz with hz | hz
    · exact absurd hz.1 h2
    · exact absurd hz.1 h1
  rintro _ _ rfl
  rename_i w7
  refine gIf_neq (fun h1 => gLen_nm hl ⟨?_, f7.old⟩) (fun h0 => ?_)
  · rw [show ((q : Int) != (l.length : Int)) = true by simpa using hq2 h1]
  · rcases hz with hz | hz
    · omega
    · obtain ⟨_, hz2, hz3⟩ := hz
      refine fCallTE f7 (rfPack_any (f7.nm 0 rfl)) fun p w8 f8 => gLen_nm (f8.nm 1 rfl) ?_
      rw [packE_le (by omega), hz3] at f8
      refine gIf_eq (fun _ => gCall_b0 (Bytes_any (f8.nm 0 rfl) (f8.nm 4 rfl)) ⟨by rw [decide_eq_true rfl], f8.old⟩) (fun h => (h ?_).elim)
      rw [hz2]; omega
end Go.Proofs.YtnhlnpjfnoabcaaV
