/- Package filter: Undo; what is turned is turned back; the law FilterBack. -/
import Derived.Test.YtcnigagagjmogaaVFilterD
namespace Go.Proofs.YtcnigagagjmogaaV
open Go Go.RowKit

def kindAt (xs : List Int) (W i : Nat) : Int := rd xs ((i * (W + 1) : Nat) : Int)
def rowAt1 (xs : List Int) (W i : Nat) : List Int := (xs.drop (i * (W + 1) + 1)).take W
def undoR (xs : List Int) (W : Nat) (p : Int) : Nat → List Int
  | 0 => unrowN (kindAt xs W 0) (rowAt1 xs W 0) [] (planesI p) W
  | i + 1 => unrowN (kindAt xs W (i + 1)) (rowAt1 xs W (i + 1)) (undoR xs W p i) (planesI p) W
def upU (xs : List Int) (W : Nat) (p : Int) : Nat → List Int
  | 0 => []
  | i + 1 => undoR xs W p i
theorem undoR_up (xs : List Int) (W : Nat) (p : Int) (i : Nat) : undoR xs W p i = unrowN (kindAt xs W i) (rowAt1 xs W i) (upU xs W p i) (planesI p) W := by cases i <;> rfl
def undoN (xs : List Int) (W : Nat) (p : Int) : Nat → List Int
  | 0 => []
  | i + 1 => undoN xs W p i ++ undoR xs W p i
theorem undoR_len (xs : List Int) (W : Nat) (p : Int) (i : Nat) : (undoR xs W p i).length = W := by rw [undoR_up, unrowN_len]
theorem undoN_len (xs : List Int) (W : Nat) (p : Int) : ∀ i, (undoN xs W p i).length = i * W
  | 0 => by simp [undoN]
  | i + 1 => by rw [undoN, List.length_append, undoN_len, undoR_len, Nat.succ_mul]
def undoOk (n : Nat) (width p : Int) : Bool := rightI width p && decide ((n : Int) % (width + 1) = 0) && decide ((n : Int) / (width + 1) * width ≤ 1048576)
def kindsOk (xs : List Int) (W n : Nat) : Bool := decide (∀ i, i < n → kindAt xs W i ≤ 4)
/-- What Undo tells. -/
def UndoE (w : World) (xs : List Int) (width p : Int) (e : Ending) (w' : World) : Prop :=
  if undoOk xs.length width p then
    if kindsOk xs width.toNat (xs.length / (width.toNat + 1)) then NewBE w (some (undoN xs width.toNat p (xs.length / (width.toNat + 1)))) 0 e w'
    else NewBE w none 4 e w'
  else NewBE w none 1 e w'
theorem undoOk_iff {n W : Nat} {p : Int} (h : undoOk n W p = true) : 1 ≤ W ∧ W ≤ 1048576 ∧ 1 ≤ p ∧ p ≤ 4 ∧ n = n / (W + 1) * (W + 1) ∧ n / (W + 1) * W ≤ 1048576 := by
  simp only [undoOk, rightI, Bool.and_eq_true, decide_eq_true_eq] at h
  obtain ⟨⟨⟨⟨⟨h1, h2⟩, h3⟩, h4⟩, h5⟩, h6⟩ := h
  have e5 : n % (W + 1) = 0 := by
    have : ((n % (W + 1) : Nat) : Int) = (n : Int) % ((W : Int) + 1) := by rw [Int.natCast_emod]; rfl
    omega
  have := Nat.div_add_mod n (W + 1)
  rw [Nat.mul_comm] at this
  have e6 : ((n / (W + 1) * W : Nat) : Int) ≤ 1048576 := by
    have : ((n / (W + 1) * W : Nat) : Int) = (n : Int) / ((W : Int) + 1) * W := by rw [Int.natCast_mul, Int.natCast_ediv]; rfl
    omega
  omega
theorem Undo_any {x : Value} {xs : List Int} {width p : Int} {w : World} (hx : Nm .u8 w x xs) (hl : xs.length ≤ 1000000000) (hp : p ≤ 9223372036854775807) :
    Calls P n_filter_Undo #[x, .int .i64 width, .int .i64 p] w (UndoE w xs width p) := by
  have bad : undoOk xs.length width p = false → UndoE w xs width p (.returned (.tuple #[.slice none 0 0, .int .i64 1])) w := fun h => by
    unfold UndoE; rw [h]; exact ⟨Ch.refl _ w, rfl⟩
  refine of_filter_Undo ⟨fun w' => undoOk xs.length width p = true ∧ w' = w, gCall_of right_any ?_, ?_⟩
  · rintro _ _ ⟨rfl, rfl⟩
    refine ⟨_, rfl, ?_⟩
    cases hr : rightI width p with
    | false => exact gIf_nnf (bad (by simp [undoOk, hr]))
    | true =>
      have hw : 1 ≤ width ∧ width ≤ 1048576 := by simp [rightI] at hr; omega
      have e1 : i64 (width + 1) = width + 1 := i64_id (by omega) (by omega)
      rw [e1]
      have hd0 : 0 ≤ (xs.length : Int) / (width + 1) := Int.ediv_nonneg (by omega) (by omega)
      have hd1 : (xs.length : Int) / (width + 1) ≤ xs.length := Int.ediv_le_self _ (by omega)
      have hm0 : 0 ≤ (xs.length : Int) / (width + 1) * width := Int.mul_nonneg hd0 (by omega)
      have hm1 : (xs.length : Int) / (width + 1) * width ≤ 1000000000 * 1048576 := Int.mul_le_mul (by omega) hw.2 (by omega) (by omega)
      have e0 : IntKind.wrap .i64 (Int.tdiv (xs.length : Int) (width + 1)) = (xs.length : Int) / (width + 1) := by
        rw [Int.tdiv_eq_ediv_of_nonneg (by omega)]; exact i64_id (by omega) (by omega)
      refine gIf_nn (gLen_nm hx (gBin_rem (by omega) (gIf_nneq (fun h0 => gLen_nm hx (gBin_quo (by omega) (gIf_dec (fun h1 => bad ?_) (fun h1 => ⟨?_, rfl⟩)))) (fun h0 => bad ?_))))
      all_goals rw [Int.tmod_eq_emod_of_nonneg (by omega)] at h0
      · rw [e0, i64_id (by omega) (by omega)] at h1
        simp [undoOk, h1]
      · rw [e0, i64_id (by omega) (by omega)] at h1
        simp [undoOk, hr]; omega
      · simp [undoOk, h0]
  rintro _ _ ⟨hok, rfl⟩
  clear bad
  rename_i w
  obtain ⟨W, rfl⟩ : ∃ W : Nat, width = W := ⟨width.toNat, by simp [undoOk, rightI] at hok; omega⟩
  obtain ⟨hW1, hW2, hp1, hp4, hn, hn2⟩ := undoOk_iff hok
  have fin : ∀ {e : Ending} {w' : World}, (if kindsOk xs W (xs.length / (W + 1)) then NewBE w (some (undoN xs W p (xs.length / (W + 1)))) 0 e w' else NewBE w none 4 e w') → UndoE w xs W p e w' := fun h => by
    unfold UndoE; rw [if_pos hok, Int.toNat_natCast]; exact h
  generalize xs.length / (W + 1) = n at hn hn2 fin
  have eW : i64 ((W : Int) + 1) = ((W + 1 : Nat) : Int) := by rw [i64_id (by omega) (by omega)]; omega
  rw [eW]
  refine ⟨fun xv out up w3 => ∃ i : Nat, i ≤ n ∧ (∀ j, j < i → kindAt xs W j ≤ 4) ∧ Nm .u8 w xv (xs.drop (i * (W + 1))) ∧ ON .u8 eB w3 w.heap.size out (undoN xs W p i) ∧ Nm .u8 w3 up (upU xs W p i) ∧ (∀ g, up.ownBlock = some g → out.ownBlock = some g → False) ∧ Ev w w3,
    fun xv _ _ _ => slenV xv, ⟨0, by omega, by omega, by simpa using hx, ON.nil _ _ _ _, Nm.nil _ _, (fun g h => by cases h), Ch.refl _ w⟩, ?_⟩
  rintro _ xv out up w3 ⟨i, hi, hks, hxv, hO, hup, hne, hw3⟩
  have hiW : i * (W + 1) ≤ n * (W + 1) := Nat.mul_le_mul_right _ hi
  have hdl : (xs.drop (i * (W + 1))).length = n * (W + 1) - i * (W + 1) := by rw [List.length_drop, ← hn]
  refine gLen_nm hxv (gIf_dec (fun hpos => ?_) (fun hend => ?_))
  · have hlt : i < n := by
      rcases Nat.lt_or_ge i n with h | h
      · exact h
      · have : i = n := by omega
        subst this; omega
    have hi1 : (i + 1) * (W + 1) ≤ n * (W + 1) := Nat.mul_le_mul_right _ hlt
    rw [Nat.succ_mul] at hi1
    have hk : rd (xs.drop (i * (W + 1))) 0 = kindAt xs W i := by
      simp only [kindAt, rd, List.getD_eq_getElem?_getD, List.getElem?_drop, Int.toNat_natCast]; rfl
    have hxv3 := hxv.ev hw3
    have hu8 := rd_u8 hxv.2 0
    refine gIdx_nm hxv3 (by omega) (by omega) fun a1 c1 _ => gLoad_i c1 (gIf_dec (fun h5 => ?_) (fun h5 => ?_))
    · rw [hk] at h5
      refine fin ?_
      rw [if_neg (by simp only [kindsOk, decide_eq_true_eq]; intro h; have := h i hlt; omega)]
      exact ⟨hw3, rfl⟩
    · have hrow : Nm .u8 w (subV 1 xv 1 (W + 1)) (rowAt1 xs W i) := by
        have := hxv.sub 1 (W + 1) (by omega) (by omega)
        rwa [List.drop_drop, Nat.add_sub_cancel] at this
      refine ⟨fun w' => Ev w3 w', Ev.drew0 w3, gIdx_nm hxv3 (by omega) (by omega) fun a2 c2 _ => gLoadB_i (fun w' hw' => hw'.cell c2 (fun h => h)) (gSlice_nm hxv 1 (W + 1) (.inr ⟨.i64, rfl⟩) (.inr ⟨.i64, rfl⟩) (by omega) (by omega) fun _ => ?_)⟩
      rw [i64_id (n := rd _ _) (by omega) (by omega), hk]
      have hl1 : (rowAt1 xs W i).length = W := by unfold rowAt1; rw [List.length_take, List.length_drop]; omega
      refine gCall_of (Unrow_any (hrow.ev hw3.drew) hup.drew (by omega) hp) ?_
      rintro _ w4 ⟨r, rfl, h4, hr⟩
      have hw4 : Ev w w4 := Ev.trans hw3.drew h4
      have hul := undoN_len xs W p i
      have hrU : ON .u8 eB w4 w3.heap.size r (undoR xs W p i) := by rw [undoR_up]; rw [hl1] at hr; exact hr
      have hiW2 : i * W ≤ n * W := Nat.mul_le_mul_right _ hi
      refine ⟨r, rfl, (Ev.drew0 w3).trans h4, gApp_on (hO.ev (Ev.drew0 w3 |>.trans h4)) hrU.nm (by rw [hul, undoR_len]; omega) hw4.size fun o1 w5 hO1 hc1 hm1 => gSlice_nm hxv (W + 1) (n * (W + 1) - i * (W + 1)) (.inr ⟨.i64, rfl⟩) (.inl ⟨rfl, hdl.symm⟩) (by omega) (by omega) fun hrest => ?_⟩
      have hw5 : Ev w w5 := hw4.new hc1 fun g _ hg => (hO.base hg).1
      have hro : ∀ g, r.ownBlock = some g → w3.heap.size ≤ g ∧ g < w4.heap.size := fun g hg => hr.base hg
      have hoo : ∀ g, out.ownBlock = some g → g < w3.heap.size := fun g hg => (hO.base hg).2
      refine ⟨⟨i + 1, hlt, ?_, ?_, hO1, ?_, ?_, hw5⟩, ?_⟩
      · intro j hj
        rcases Nat.lt_or_ge j i with h | h
        · exact hks j h
        · have : j = i := by omega
          subst this; rw [← hk]; omega
      · rw [List.drop_drop, List.take_of_length_le (by rw [List.length_drop, ← hn]; omega)] at hrest
        rwa [Nat.succ_mul]
      · exact hrU.nm.ch hc1 fun g _ hg hh => by have := hro g hg; have := hoo g hh; omega
      · intro g hg hh
        have := hro g hg
        rcases hm1 with h | h
        · rw [h] at hh; have := hoo g hh; omega
        · have := h g hh; omega
      · dsimp only
        rw [hrest.slen, hxv.slen, List.length_take, List.length_drop]; omega
  · have : i = n := by
      rcases Nat.lt_or_ge i n with h | h
      · have : (i + 1) * (W + 1) ≤ n * (W + 1) := Nat.mul_le_mul_right _ h
        rw [Nat.succ_mul] at this; omega
      · omega
    subst this
    refine fin ?_
    rw [if_pos (by simp only [kindsOk, decide_eq_true_eq]; exact hks)]
    exact ⟨hw3, out, rfl, hO⟩
end Go.Proofs.YtcnigagagjmogaaV
