/- Package filter: Apply and Undo. -/
import Derived.Test.YtcnigagagjmogaaVFilterL2
namespace Go.Proofs.YtcnigagagjmogaaV
open Go Go.RowKit

/-- Row i of rows of a width. -/
def rowAt (xs : List Int) (width i : Nat) : List Int := (xs.drop (i * width)).take width
def upAt (xs : List Int) (width : Nat) : Nat → List Int
  | 0 => []
  | i + 1 => rowAt xs width i
def applyN (xs : List Int) (width : Nat) (p : Int) : Nat → List Int
  | 0 => []
  | i + 1 => applyN xs width p i ++ [bestI (rowAt xs width i) (upAt xs width i) p] ++ rowN (bestI (rowAt xs width i) (upAt xs width i) p) (rowAt xs width i) (upAt xs width i) (planesI p) (rowAt xs width i).length
theorem rowAt_len {xs : List Int} {width i n : Nat} (h : xs.length = n * width) (hi : i < n) : (rowAt xs width i).length = width := by
  unfold rowAt
  rw [List.length_take, List.length_drop, h]
  have : (i + 1) * width ≤ n * width := Nat.mul_le_mul_right _ hi
  rw [Nat.succ_mul] at this
  omega
theorem applyN_len {xs : List Int} {width n : Nat} {p : Int} (h : xs.length = n * width) : ∀ {i}, i ≤ n → (applyN xs width p i).length = i * (width + 1)
  | 0, _ => by simp [applyN]
  | i + 1, hi => by
    simp only [applyN, List.length_append, applyN_len h (show i ≤ n by omega), rowN_len, rowAt_len h (show i < n by omega), List.length_singleton, Nat.succ_mul]
    omega
theorem best_rng (xs us : List Int) (p : Int) : 0 ≤ bestI xs us p ∧ bestI xs us p ≤ 4 := by have := bestN_bd (leftW xs us p) 4; unfold bestI; omega
theorem applyN_u8 (xs : List Int) (width : Nat) (p : Int) : ∀ i, ∀ x ∈ applyN xs width p i, rng x
  | 0, x, h => by cases h
  | i + 1, x, h => by
    rcases List.mem_append.1 h with h | h
    · rcases List.mem_append.1 h with h | h
      · exact applyN_u8 xs width p i x h
      · simp at h; subst h; have := best_rng (rowAt xs width i) (upAt xs width i) p; exact ⟨by omega, by omega⟩
    · exact rowN_u8 _ _ _ _ _ x h
/-- Bytes in new memory and an error; of an error no bytes. -/
def NewBE (w : World) (r : Option (List Int)) (er : Int) (e : Ending) (w' : World) : Prop := Ev w w' ∧ match r with
  | some xs => ∃ v, e = .returned (.tuple #[v, .int .i64 0]) ∧ ON .u8 eB w' w.heap.size v xs
  | none => e = .returned (.tuple #[.slice none 0 0, .int .i64 er])
def applyOk (n : Nat) (width p : Int) : Bool := rightI width p && decide ((n : Int) % width = 0) && decide (n ≤ 1048576)
theorem applyOk_iff {n W : Nat} {p : Int} (h : applyOk n W p = true) : 1 ≤ W ∧ W ≤ 1048576 ∧ 1 ≤ p ∧ p ≤ 4 ∧ n = n / W * W ∧ n ≤ 1048576 := by
  simp only [applyOk, rightI, Bool.and_eq_true, decide_eq_true_eq] at h
  obtain ⟨⟨⟨⟨⟨h1, h2⟩, h3⟩, h4⟩, h5⟩, h6⟩ := h
  have : n % W = 0 := by omega
  have := Nat.div_add_mod n W
  rw [Nat.mul_comm] at this
  omega
theorem Apply_any {b : Value} {xs : List Int} {width p : Int} {w : World} (hb : Nm .u8 w b xs) (hl : xs.length ≤ 1000000000) (hp : p ≤ 9223372036854775807) :
    Calls P n_filter_Apply #[b, .int .i64 width, .int .i64 p] w (NewBE w (if applyOk xs.length width p then some (applyN xs width.toNat p (xs.length / width.toNat)) else none) 1) := by
  have bad : applyOk xs.length width p = false → NewBE w (if applyOk xs.length width p then some (applyN xs width.toNat p (xs.length / width.toNat)) else none) 1 (.returned (.tuple #[.slice none 0 0, .int .i64 1])) w := fun h => by
    rw [h]; exact ⟨Ch.refl _ w, rfl⟩
  refine of_filter_Apply ⟨fun w' => applyOk xs.length width p = true ∧ w' = w, gCall_of right_any ?_, ?_⟩
  · rintro _ _ ⟨rfl, rfl⟩
    refine ⟨_, rfl, ?_⟩
    cases hr : rightI width p with
    | false => exact gIf_nnf (bad (by simp [applyOk, hr]))
    | true =>
      have hw : 1 ≤ width := by simp [rightI] at hr; omega
      refine gIf_nn (gLen_nm hb (gBin_rem (by omega) (gIf_nneq (fun h0 => gLen_nm hb (gIf_dec (fun h1 => bad ?_) (fun h1 => ⟨?_, rfl⟩))) (fun h0 => bad ?_))))
      all_goals rw [Int.tmod_eq_emod_of_nonneg (by omega)] at h0
      · simp [applyOk]; omega
      · simp [applyOk, hr]; omega
      · simp [applyOk, h0]
  rintro _ _ ⟨hok, rfl⟩
  rw [hok, if_pos rfl]
  clear bad
  obtain ⟨W, rfl⟩ : ∃ W : Nat, width = W := ⟨width.toNat, by simp [applyOk, rightI] at hok; omega⟩
  obtain ⟨hW1, hW2, hp1, hp4, hn, hn2⟩ := applyOk_iff hok
  rw [Int.toNat_natCast]
  generalize xs.length / W = n at hn
  rename_i w
  refine ⟨fun bv out up w3 => ∃ i : Nat, i ≤ n ∧ Nm .u8 w bv (xs.drop (i * W)) ∧ ON .u8 eB w3 w.heap.size out (applyN xs W p i) ∧ Nm .u8 w up (upAt xs W i) ∧ Ev w w3,
    fun bv _ _ _ => slenV bv, ⟨0, by omega, by simpa using hb, ON.nil _ _ _ _, Nm.nil _ _, Ch.refl _ w⟩, ?_⟩
  rintro _ bv out up w3 ⟨i, hi, hbv, hO, hup, hw3⟩
  have hiW : i * W ≤ n * W := Nat.mul_le_mul_right _ hi
  have hdl : (xs.drop (i * W)).length = n * W - i * W := by rw [List.length_drop, ← hn]
  refine gLen_nm hbv (gIf_dec (fun hpos => ?_) (fun hend => ⟨hw3, out, rfl, ?_⟩))
  · have hlt : i < n := by
      rcases Nat.lt_or_ge i n with h | h
      · exact h
      · have : i = n := by omega
        subst this; omega
    have hi1 : (i + 1) * W ≤ n * W := Nat.mul_le_mul_right _ hlt
    rw [Nat.succ_mul] at hi1
    have hrow : ∀ {w' : World}, Nm .u8 w (subV 1 bv 0 W) (rowAt xs W i) := fun {_} => by
      have := hbv.sub 0 W (by omega) (by omega)
      simpa [rowAt] using this
    have hrl : (rowAt xs W i).length = W := rowAt_len hn hlt
    have hup' := hup
    refine gSlice_nm hbv 0 W (.inl ⟨rfl, rfl⟩) (.inr ⟨_, rfl⟩) (by omega) (by omega) fun _ => gCall_of (Best_any ((hrow (w' := w)).ev hw3) (hup.ev hw3) (by omega) hp) ?_
    rintro _ w4 ⟨rfl, h4⟩
    have hbr := best_rng (rowAt xs W i) (upAt xs W i) p
    generalize hk : bestI (rowAt xs W i) (upAt xs W i) p = k at *
    have hw4 : Ev w w4.drew := (hw3.trans h4).drew
    refine ⟨k, rfl, fun _ => True, trivial, gSlice_nm hbv 0 W (.inl ⟨rfl, rfl⟩) (.inr ⟨_, rfl⟩) (by omega) (by omega) fun _ => gLit_n (k := .u8) [k] (by rw [u8_id (by omega) (by omega)]; rfl) rfl (by decide) (inR_u8 (by simp; exact ⟨by omega, by omega⟩)) fun y w5 h5 hy => ⟨trivial, ?_⟩⟩
    have hal := applyN_len hn (p := p) hi
    have hiW2 : i * (W + 1) ≤ 3000000 := by rw [Nat.mul_succ]; have : n * 1 ≤ n * W := Nat.mul_le_mul_left _ hW1; omega
    refine gApp_on (((hO.ev h4).drew).ev h5) hy.nm (by rw [hal]; simp; omega) ((hw4.trans h5).size) fun o1 w6 hO1 hc1 hm1 => ⟨trivial, ?_⟩
    have hw6 : Ev w w6 := (hw4.trans h5).new hc1 fun g _ hg => (hO.base hg).1
    refine gCall_of (Row_any ((hrow (w' := w)).ev hw6) (hup.ev hw6) (by omega) hp) ?_
    rintro _ w7 ⟨r, rfl, h7, hr⟩
    refine ⟨r, rfl, trivial, gApp_on (hO1.ev h7) hr.nm (by rw [List.length_append, hal, rowN_len, hrl]; simp; omega) ((hw6.trans h7).size) fun o2 w8 hO2 hc2 hm2 => ⟨trivial, ?_⟩⟩
    have hw8 : Ev w w8 := (hw6.trans h7).new hc2 fun g _ hg => (hO1.base hg).1
    refine gSlice_nm hbv 0 W (.inl ⟨rfl, rfl⟩) (.inr ⟨_, rfl⟩) (by omega) (by omega) fun _ => gSlice_nm hbv W (n * W - i * W) (.inr ⟨_, rfl⟩) (.inl ⟨rfl, hdl.symm⟩) (by omega) (by omega) fun hrest => ⟨⟨i + 1, hlt, ?_, ?_, hrow (w' := w), hw8⟩, ?_⟩
    · rw [List.drop_drop, List.take_of_length_le (by rw [List.length_drop, ← hn]; omega)] at hrest
      rwa [Nat.succ_mul]
    · simp only [applyN, hk]; exact hO2
    · dsimp only
      rw [hrest.slen, hbv.slen, List.length_take, List.length_drop]; omega
  · have : i = n := by
      rcases Nat.lt_or_ge i n with h | h
      · have : (i + 1) * W ≤ n * W := Nat.mul_le_mul_right _ h
        rw [Nat.succ_mul] at this; omega
      · omega
    subst this; exact hO
end Go.Proofs.YtcnigagagjmogaaV
