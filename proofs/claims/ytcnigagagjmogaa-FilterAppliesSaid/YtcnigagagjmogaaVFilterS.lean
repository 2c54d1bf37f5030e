/- Package valiseref17: Apply and Undo; the law FilterApplies. -/
import Derived.Test.YtcnigagagjmogaaVFilterL4
namespace Go.Proofs.YtcnigagagjmogaaV
open Go Go.RowKit

theorem rApply_any {b : Value} {xs : List Int} {width p : Int} {w : World} (hb : Nm .u8 w b xs) (hl : xs.length ≤ 1000000000) (hp : p ≤ 9223372036854775807) :
    Calls P n_valiseref17_Apply #[b, .int .i64 width, .int .i64 p] w (NewBE w (if applyOk xs.length width p then some (applyN xs width.toNat p (xs.length / width.toNat)) else none) 1) := by
  have bad : applyOk xs.length width p = false → NewBE w (if applyOk xs.length width p then some (applyN xs width.toNat p (xs.length / width.toNat)) else none) 1 (.returned (.tuple #[.slice none 0 0, .int .i64 1])) w := fun h => by
    rw [h]; exact ⟨Ch.refl _ w, rfl⟩
  refine of_valiseref17_Apply ⟨fun w' => applyOk xs.length width p = true ∧ w' = w, ?_, ?_⟩
  · refine gIf_ndec (fun h1 => gIf_ndec (fun h2 => gIf_ndec (fun h3 => gIf_ndec (fun h4 => gLen_nm hb (gIf_ndec (fun h5 => gLen_nm hb (gBin_rem (by omega) (gIf_neq (fun h6 => bad ?_) (fun h6 => ⟨?_, rfl⟩)))) (fun h5 => bad ?_))) (fun h4 => bad ?_)) (fun h3 => bad ?_)) (fun h2 => bad ?_)) (fun h1 => bad ?_)
    · rw [Int.tmod_eq_emod_of_nonneg (by omega)] at h6
      simp [applyOk, h6]
    · rw [Int.tmod_eq_emod_of_nonneg (by omega)] at h6
      simp only [applyOk, rightI, Bool.and_eq_true, decide_eq_true_eq]; omega
    · simp [applyOk]; omega
    · simp [applyOk, rightI]; omega
    · simp [applyOk, rightI]; omega
    · simp [applyOk, rightI]; omega
    · simp [applyOk, rightI]; omega
  rintro _ _ ⟨hok, rfl⟩
  rw [hok, if_pos rfl]
  clear bad
  rename_i w
  obtain ⟨W, rfl⟩ : ∃ W : Nat, width = W := ⟨width.toNat, by simp [applyOk, rightI] at hok; omega⟩
  obtain ⟨hW1, hW2, hp1, hp4, hn, hn2⟩ := applyOk_iff hok
  rw [Int.toNat_natCast]
  generalize xs.length / W = n at hn
  refine ⟨fun out up i w3 => ∃ j : Nat, i = ((j * W : Nat) : Int) ∧ j ≤ n ∧ ON .u8 eB w3 w.heap.size out (applyN xs W p j) ∧ Nm .u8 w up (upAt xs W j) ∧ Ev w w3,
    fun _ _ i _ => xs.length - i.toNat, ⟨0, by simp, by omega, ON.nil _ _ _ _, Nm.nil _ _, Ch.refl _ w⟩, ?_⟩
  rintro _ out up i w3 ⟨j, rfl, hj, hO, hup, hw3⟩
  refine gLen_nm hb (gIf_dec (fun hpos => ?_) (fun hend => ⟨hw3, out, rfl, ?_⟩))
  · have hlt : j < n := by
      rcases Nat.lt_or_ge j n with h | h
      · exact h
      · have : n * W ≤ j * W := Nat.mul_le_mul_right _ h
        omega
    have hi1 : (j + 1) * W ≤ n * W := Nat.mul_le_mul_right _ hlt
    rw [Nat.succ_mul] at hi1
    have eI : i64 (((j * W : Nat) : Int) + (W : Int)) = (((j + 1) * W : Nat) : Int) := by rw [Nat.succ_mul, i64_id (by omega) (by omega)]; omega
    rw [eI]
    have hsub := hb.sub (j * W) ((j + 1) * W) (by rw [Nat.succ_mul]; omega) (by rw [Nat.succ_mul]; omega)
    have hrow : Nm .u8 w (subV 1 b (j * W) ((j + 1) * W)) (rowAt xs W j) := by
      rw [show (j + 1) * W - j * W = W by rw [Nat.succ_mul]; omega] at hsub; exact hsub
    have hrl : (rowAt xs W j).length = W := rowAt_len hn hlt
    refine gSlice_nm hb (j * W) ((j + 1) * W) (.inr ⟨_, rfl⟩) (.inr ⟨_, rfl⟩) (by rw [Nat.succ_mul]; omega) (by rw [Nat.succ_mul]; omega) fun _ => gCall_i (rBest_any (hrow.ev hw3) (hup.ev hw3) (by omega) hp) fun w4 h4 => ?_
    have hbr := best_rng (rowAt xs W j) (upAt xs W j) p
    generalize hk : bestI (rowAt xs W j) (upAt xs W j) p = k at *
    have hw4 : Ev w w4 := hw3.trans h4
    have hal := applyN_len hn (p := p) hj
    have hiW2 : j * (W + 1) ≤ 3000000 := by rw [Nat.mul_succ]; have : n * 1 ≤ n * W := Nat.mul_le_mul_left _ hW1; omega
    refine gLit_n (k := .u8) [k] (by rw [u8_id (by omega) (by omega)]; rfl) rfl (by decide) (inR_u8 (by simp; exact ⟨by omega, by omega⟩)) fun y w5 h5 hy => ?_
    refine gApp_on ((hO.ev h4).ev h5) hy.nm (by rw [hal]; simp; omega) ((hw4.trans h5).size) fun o1 w6 hO1 hc1 hm1 => ?_
    have hw6 : Ev w w6 := (hw4.trans h5).new hc1 fun g _ hg => (hO.base hg).1
    refine gCall_v (rRow_any (hrow.ev hw6) (hup.ev hw6) (by omega) hp) fun r w7 ⟨h7, hr⟩ => ?_
    refine gApp_on (hO1.ev h7) hr.nm (by rw [List.length_append, hal, rowN_len, hrl]; simp; omega) ((hw6.trans h7).size) fun o2 w8 hO2 hc2 hm2 => ?_
    have hw8 : Ev w w8 := (hw6.trans h7).new hc2 fun g _ hg => (hO1.base hg).1
    refine ⟨⟨j + 1, rfl, hlt, ?_, hrow, hw8⟩, ?_⟩
    · simp only [applyN, hk]; exact hO2
    · dsimp only; rw [Nat.succ_mul]; omega
  · have : j = n := by
      rcases Nat.lt_or_ge j n with h | h
      · have : (j + 1) * W ≤ n * W := Nat.mul_le_mul_right _ h
        rw [Nat.succ_mul] at this; omega
      · omega
    subst this; exact hO
theorem rUndo_any {x : Value} {xs : List Int} {width p : Int} {w : World} (hx : Nm .u8 w x xs) (hl : xs.length ≤ 1000000000) (hp : p ≤ 9223372036854775807) :
    Calls P n_valiseref17_Undo #[x, .int .i64 width, .int .i64 p] w (UndoE w xs width p) := by
  have bad : undoOk xs.length width p = false → UndoE w xs width p (.returned (.tuple #[.slice none 0 0, .int .i64 1])) w := fun h => by
    unfold UndoE; rw [h]; exact ⟨Ch.refl _ w, rfl⟩
  refine of_valiseref17_Undo ⟨fun w' => undoOk xs.length width p = true ∧ w' = w, ?_, ?_⟩
  · refine gIf_ndec (fun h1 => gIf_ndec (fun h2 => gIf_ndec (fun h3 => gIf_ndec (fun h4 => ?_) (fun h4 => bad ?_)) (fun h3 => bad ?_)) (fun h2 => bad ?_)) (fun h1 => bad ?_)
    · have e1 : i64 (width + 1) = width + 1 := i64_id (by omega) (by omega)
      rw [e1]
      have hd0 : 0 ≤ (xs.length : Int) / (width + 1) := Int.ediv_nonneg (by omega) (by omega)
      have hd1 : (xs.length : Int) / (width + 1) ≤ xs.length := Int.ediv_le_self _ (by omega)
      have e0 : IntKind.wrap .i64 (Int.tdiv (xs.length : Int) (width + 1)) = (xs.length : Int) / (width + 1) := by
        rw [Int.tdiv_eq_ediv_of_nonneg (by omega)]; exact i64_id (by omega) (by omega)
      refine gLen_nm hx (gBin_rem (by omega) (gIf_nneq (fun h0 => gLen_nm hx (gLen_nm hx (gBin_quo (by omega) (gIf_dec (fun h1 => bad ?_) (fun h1 => ⟨?_, rfl⟩))))) (fun h0 => bad ?_)))
      all_goals rw [Int.tmod_eq_emod_of_nonneg (by omega)] at h0
      · rw [e0, i64_id (by omega) (by omega)] at h1
        have h2 := Int.mul_ediv_add_emod (xs.length : Int) (width + 1)
        have h3 : (width + 1) * ((xs.length : Int) / (width + 1)) = (xs.length : Int) / (width + 1) * width + (xs.length : Int) / (width + 1) := by rw [Int.mul_comm, Int.mul_add, Int.mul_one]
        have h4 : (xs.length : Int) / (width + 1) * width > 1048576 := by omega
        simp [undoOk, h4]
      · rw [e0, i64_id (by omega) (by omega)] at h1
        have h2 := Int.mul_ediv_add_emod (xs.length : Int) (width + 1)
        have h3 : (width + 1) * ((xs.length : Int) / (width + 1)) = (xs.length : Int) / (width + 1) * width + (xs.length : Int) / (width + 1) := by rw [Int.mul_comm, Int.mul_add, Int.mul_one]
        have h4 : (xs.length : Int) / (width + 1) * width ≤ 1048576 := by omega
        simp only [undoOk, rightI, Bool.and_eq_true, decide_eq_true_eq]; exact ⟨⟨⟨⟨⟨by omega, by omega⟩, by omega⟩, by omega⟩, h0⟩, h4⟩
      · simp [undoOk, h0]
    · simp [undoOk, rightI]; omega
    · simp [undoOk, rightI]; omega
    · simp [undoOk, rightI]; omega
    · simp [undoOk, rightI]; omega
  rintro _ _ ⟨hok, rfl⟩
  clear bad
  rename_i w
  obtain ⟨W, rfl⟩ : ∃ W : Nat, width = W := ⟨width.toNat, by simp [undoOk, rightI] at hok; omega⟩
  obtain ⟨hW1, hW2, hp1, hp4, hn, hn2⟩ := undoOk_iff hok
  have fin : ∀ {e : Ending} {w' : World}, (if kindsOk xs W (xs.length / (W + 1)) then NewBE w (some (undoN xs W p (xs.length / (W + 1)))) 0 e w' else NewBE w none 4 e w') → UndoE w xs W p e w' := fun h => by
    unfold UndoE; rw [if_pos hok, Int.toNat_natCast]; exact h
  generalize xs.length / (W + 1) = n at hn hn2 fin
  have step : ∀ j : Nat, j < n → i64 (i64 (((j * (W + 1) : Nat) : Int) + (W : Int)) + 1) = (((j + 1) * (W + 1) : Nat) : Int) ∧ i64 (((j * (W + 1) : Nat) : Int) + 1) = ((j * (W + 1) + 1 : Nat) : Int) ∧ i64 (i64 (((j * (W + 1) : Nat) : Int) + 1) + (W : Int)) = (((j + 1) * (W + 1) : Nat) : Int) ∧ j * (W + 1) + (W + 1) ≤ xs.length ∧ (j + 1) * (W + 1) = j * (W + 1) + (W + 1) := fun j hj => by
    have h1 : (j + 1) * (W + 1) ≤ n * (W + 1) := Nat.mul_le_mul_right _ hj
    rw [Nat.succ_mul] at h1 ⊢
    rw [i64_id (n := ((j * (W + 1) : Nat) : Int) + W) (by omega) (by omega), i64_id (n := ((j * (W + 1) : Nat) : Int) + 1) (by omega) (by omega), i64_id (by omega) (by omega), i64_id (by omega) (by omega)]
    omega
  refine ⟨fun i w' => w' = w ∧ ∃ j : Nat, i = ((j * (W + 1) : Nat) : Int) ∧ j ≤ n ∧ ∀ q, q < j → kindAt xs W q ≤ 4, fun i _ => xs.length - i.toNat, ⟨rfl, 0, by simp, by omega, by omega⟩, ?_⟩
  rintro _ i _ ⟨rfl, j, rfl, hj, hks⟩
  rename_i w
  refine gLen_nm hx (gIf_dec (fun hpos => ?_) (fun hend => ?_))
  · have hlt : j < n := by
      rcases Nat.lt_or_ge j n with h | h
      · exact h
      · have : n * (W + 1) ≤ j * (W + 1) := Nat.mul_le_mul_right _ h
        omega
    obtain ⟨s1, s2, s3, s4, s5⟩ := step j hlt
    refine gIdx_nm hx (by omega) (by omega) fun a1 c1 _ => gLoad_i c1 (gIf_dec (fun h5 => fin ?_) (fun h5 => ?_))
    · have h5' : kindAt xs W j > 4 := h5
      rw [if_neg (by simp only [kindsOk, decide_eq_true_eq]; intro h; have := h j hlt; omega)]
      exact ⟨Ch.refl _ w, rfl⟩
    · rw [s1]
      have h5' : ¬ kindAt xs W j > 4 := h5
      refine ⟨⟨rfl, j + 1, rfl, hlt, fun q hq => ?_⟩, by dsimp only; omega⟩
      rcases Nat.lt_or_ge q j with h | h
      · exact hks q h
      · have : q = j := by omega
        subst this; omega
  have hjn : j = n := by
    rcases Nat.lt_or_ge j n with h | h
    · have := (step j h).2.2.2.1; omega
    · omega
  subst hjn
  refine ⟨fun out up i w3 => ∃ q : Nat, i = ((q * (W + 1) : Nat) : Int) ∧ q ≤ j ∧ ON .u8 eB w3 w.heap.size out (undoN xs W p q) ∧ Nm .u8 w3 up (upU xs W p q) ∧ (∀ g, up.ownBlock = some g → out.ownBlock = some g → False) ∧ Ev w w3,
    fun _ _ i _ => xs.length - i.toNat, ⟨0, by simp, by omega, ON.nil _ _ _ _, Nm.nil _ _, (fun g h => by cases h), Ch.refl _ w⟩, ?_⟩
  rintro _ out up i w3 ⟨q, rfl, hq, hO, hup, hne, hw3⟩
  refine gLen_nm hx (gIf_dec (fun hpos2 => ?_) (fun hend2 => ?_))
  · have hlt : q < j := by
      rcases Nat.lt_or_ge q j with h | h
      · exact h
      · have : j * (W + 1) ≤ q * (W + 1) := Nat.mul_le_mul_right _ h
        omega
    obtain ⟨s1, s2, s3, s4, s5⟩ := step q hlt
    have hku := rd_u8 hx.2 ((q * (W + 1) : Nat) : Int)
    rw [s1, s3, s2]
    have hrow : Nm .u8 w (subV 1 x (q * (W + 1) + 1) ((q + 1) * (W + 1))) (rowAt1 xs W q) := by
      have := hx.sub (q * (W + 1) + 1) ((q + 1) * (W + 1)) (by omega) (by omega)
      rwa [show (q + 1) * (W + 1) - (q * (W + 1) + 1) = W by omega] at this
    refine ⟨fun w' => Ev w3 w', Ev.drew0 w3, gIdx_nm (hx.ev hw3) (by omega) (by omega) fun a2 c2 _ => gLoadB_i (fun w' hw' => hw'.cell c2 (fun h => h)) (gSlice_nm hx (q * (W + 1) + 1) ((q + 1) * (W + 1)) (.inr ⟨.i64, rfl⟩) (.inr ⟨.i64, rfl⟩) (by omega) (by omega) fun _ => ?_)⟩
    rw [i64_id (n := rd _ _) (by omega) (by omega)]
    have hl1 : (rowAt1 xs W q).length = W := by unfold rowAt1; rw [List.length_take, List.length_drop]; omega
    refine gCall_v (rUnrow_any (hrow.ev hw3.drew) hup.drew (by omega) hp) fun r w4 ⟨h4, hr⟩ => ?_
    have hw4 : Ev w w4 := Ev.trans hw3.drew h4
    have hul := undoN_len xs W p q
    have hrU : ON .u8 eB w4 w3.heap.size r (undoR xs W p q) := by rw [undoR_up]; rw [hl1] at hr; exact hr
    have hiW2 : q * W ≤ j * W := Nat.mul_le_mul_right _ hq
    refine ⟨(Ev.drew0 w3).trans h4, gApp_on (hO.ev (Ev.drew0 w3 |>.trans h4)) hrU.nm (by rw [hul, undoR_len]; omega) hw4.size fun o1 w5 hO1 hc1 hm1 => ?_⟩
    have hw5 : Ev w w5 := hw4.new hc1 fun g _ hg => (hO.base hg).1
    have hro : ∀ g, r.ownBlock = some g → w3.heap.size ≤ g ∧ g < w4.heap.size := fun g hg => hr.base hg
    have hoo : ∀ g, out.ownBlock = some g → g < w3.heap.size := fun g hg => (hO.base hg).2
    refine ⟨⟨q + 1, rfl, hlt, hO1, ?_, ?_, hw5⟩, by dsimp only; omega⟩
    · exact hrU.nm.ch hc1 fun g _ hg hh => by have := hro g hg; have := hoo g hh; omega
    · intro g hg hh
      have := hro g hg
      rcases hm1 with h | h
      · rw [h] at hh; have := hoo g hh; omega
      · have := h g hh; omega
  · have : q = j := by
      rcases Nat.lt_or_ge q j with h | h
      · have := (step q h).2.2.2.1; omega
      · omega
    subst this
    refine fin ?_
    rw [if_pos (by simp only [kindsOk, decide_eq_true_eq]; exact hks)]
    exact ⟨hw3, out, rfl, hO⟩
/-- Bytes and an error, told by numbers. -/
def Both (w : World) (r : List Int) (c : Int) (e : Ending) (w' : World) : Prop := ∃ v, e = .returned (.tuple #[v, .int .i64 c]) ∧ Ev w w' ∧ Nm .u8 w' v r
theorem NewBE.both {w w' : World} {r : Option (List Int)} {er : Int} {e : Ending} (h : NewBE w r er e w') : Both w (r.getD []) (if r.isSome then 0 else er) e w' := by
  obtain ⟨h1, h2⟩ := h
  cases r with
  | none => exact ⟨_, h2, h1, Nm.nil _ _⟩
  | some xs => obtain ⟨v, h3, h4⟩ := h2; exact ⟨v, h3, h1, h4.nm⟩
def undoRes (xs : List Int) (width p : Int) : Option (List Int) × Int :=
  if undoOk xs.length width p then if kindsOk xs width.toNat (xs.length / (width.toNat + 1)) then (some (undoN xs width.toNat p (xs.length / (width.toNat + 1))), 0) else (none, 4) else (none, 1)
theorem UndoE.both {w w' : World} {xs : List Int} {width p : Int} {e : Ending} (h : UndoE w xs width p e w') : Both w ((undoRes xs width p).1.getD []) (undoRes xs width p).2 e w' := by
  unfold UndoE at h; unfold undoRes
  split at h
  · rename_i h1
    rw [if_pos h1]
    split at h
    · rename_i h2; rw [if_pos h2]; exact h.both
    · rename_i h2; rw [if_neg h2]; exact h.both
  · rename_i h1; rw [if_neg h1]; exact h.both
theorem gCall_both {f : FuncId} {args : Array Value} {w : World} {r : List Int} {c : Int} {R : Ending → World → Prop} {K : Value → Int → World → Prop} (h : Calls P f args w R) (hb : ∀ e w', R e w' → Both w r c e w') (hk : ∀ v w', Ev w w' → Nm .u8 w' v r → K v c w') : gCall P f (.tup [.one .val, .one (.int .i64)]) args w K :=
  gCall_of h fun e w' hR => by obtain ⟨v, h1, h2, h3⟩ := hb e w' hR; exact ⟨v, c, h1, hk v w' h2 h3⟩
theorem FilterApplies_law {b : Value} {xs : List Int} {width planes : Int} {w : World} (hb : Nm .u8 w b xs) (_hw : IntKind.i64.min ≤ width ∧ width ≤ IntKind.i64.max) (hp : IntKind.i64.min ≤ planes ∧ planes ≤ IntKind.i64.max) :
    Calls P n_valiselaw17_FilterApplies #[b, .int .i64 width, .int .i64 planes] w (Holds w) := by
  replace hp := (i64_rng hp).2
  refine of_valiselaw17_FilterApplies (gLen_nm hb (gIf_dec (fun _ => awake_end) (fun hl => ?_)))
  refine gCall_v (Own_byte_any hb (by omega) (by decide)) fun i1 w1 ⟨h1, hi1⟩ => ?_
  refine gCall_both (Apply_any hi1.nm (by omega) hp) (fun _ _ h => h.both) fun x w2 h2 hx => ?_
  refine gCall_both (rApply_any (hb.ev (Ev.trans h1 h2)) (by omega) hp) (fun _ _ h => h.both) fun y w3 h3 hy => ?_
  have e3 : Ev w1 w3 := Ev.trans h2 h3
  refine gCall_both (Undo_any (hi1.nm.ev e3) (by omega) hp) (fun _ _ h => h.both) fun c w4 h4 hc => ?_
  have e4 : Ev w1 w4 := Ev.trans e3 h4
  refine gCall_both (rUndo_any (hb.ev (Ev.trans h1 e4)) (by omega) hp) (fun _ _ h => h.both) fun d w5 h5 hd => ?_
  refine gCall_b awake_any fun w6 h6 => gIf_t ?_
  have e6 : Ev w3 w6 := Ev.trans h4 (Ev.trans h5 h6)
  refine gCall_b0 (Bytes_any ((hx.ev h3).ev e6) (hy.ev e6)) ?_
  rw [decide_eq_true rfl]
  refine gIf_t (gIf_eq (fun _ => ?_) (fun h => (h rfl).elim))
  refine gCall_b0 (Bytes_any ((hc.ev h5).ev h6) (hd.ev h6)) ?_
  rw [decide_eq_true rfl]
  refine gIf_t (gIf_eq (fun _ => ?_) (fun h => (h rfl).elim))
  have e16 : Ev w1 w6 := Ev.trans e3 e6
  exact gCall_b (Kept_byte_any (hi1.ev e16) (hb.ev (Ev.trans h1 e16)) (by omega)) fun w7 h7 => ⟨rfl, Ev.trans h1 (Ev.trans e16 h7)⟩
end Go.Proofs.YtcnigagagjmogaaV
