/- Package filter: Row and Unrow. -/
import Derived.Test.YtcnigagagjmogaaVFilterA
namespace Go.Proofs.YtcnigagagjmogaaV
open Go Go.RowKit

noncomputable abbrev eB : TypeId := elOf P t_sl_uint8
/-- The first j bytes of a row, each less its guess. -/
def rowN (kind : Int) (xs us : List Int) (p : Int) : Nat → List Int
  | 0 => []
  | j + 1 => rowN kind xs us p j ++ [(rd xs j - guessI kind (ofL xs (j - p)) (ofL us j) (ofL us (j - p))) % 256]
def unrowN (kind : Int) (xs us : List Int) (p : Int) : Nat → List Int
  | 0 => []
  | j + 1 => unrowN kind xs us p j ++ [(rd xs j + guessI kind (ofL (unrowN kind xs us p j) (j - p)) (ofL us j) (ofL us (j - p))) % 256]
theorem rowN_len (kind : Int) (xs us : List Int) (p : Int) : ∀ j, (rowN kind xs us p j).length = j
  | 0 => rfl
  | j + 1 => by simp [rowN, rowN_len kind xs us p j]
theorem unrowN_len (kind : Int) (xs us : List Int) (p : Int) : ∀ j, (unrowN kind xs us p j).length = j
  | 0 => rfl
  | j + 1 => by simp [unrowN, unrowN_len kind xs us p j]
theorem inR_u8 {xs : List Int} (h : ∀ x ∈ xs, rng x) : inR .u8 xs := fun x hx => by
  have := h x hx; simp [IntKind.min, IntKind.max, IntKind.signed, IntKind.bits]; omega
theorem rowN_u8 (kind : Int) (xs us : List Int) (p : Int) : ∀ j, ∀ x ∈ rowN kind xs us p j, rng x
  | 0, x, h => by cases h
  | j + 1, x, h => by
    rcases List.mem_append.1 h with h | h
    · exact rowN_u8 kind xs us p j x h
    · simp at h; subst h; exact ⟨by omega, by omega⟩
theorem unrowN_u8 (kind : Int) (xs us : List Int) (p : Int) : ∀ j, ∀ x ∈ unrowN kind xs us p j, rng x
  | 0, x, h => by cases h
  | j + 1, x, h => by
    rcases List.mem_append.1 h with h | h
    · exact unrowN_u8 kind xs us p j x h
    · simp at h; subst h; exact ⟨by omega, by omega⟩
theorem fill_set {A : List Int} {n j : Nat} (x : Int) (ha : A.length = j) (h : j < n) : (A ++ List.replicate (n - j) 0).set j x = (A ++ [x]) ++ List.replicate (n - (j + 1)) 0 := by
  rw [List.set_append_right _ _ (by omega), ha, Nat.sub_self, show n - j = (n - (j + 1)) + 1 by omega, List.replicate_succ]
  simp
theorem St.add0 {w : World} {ad : Addr} {cs : List Value} (h : St w ad cs) : St w (ad.add 0) cs := by rw [Addr.add_zero']; exact h
theorem fill_len {A : List Int} {n j : Nat} (ha : A.length = j) (h : j ≤ n) : (A ++ List.replicate (n - j) 0).length = n := by simp [ha]; omega
theorem ofL_fill {A : List Int} {m : Nat} {i : Int} (h : i < A.length) : ofL (A ++ List.replicate m 0) i = ofL A i := by
  unfold ofL
  by_cases h0 : i < 0
  · rw [if_pos (.inl h0), if_pos (.inl h0)]
  · rw [if_neg (by simp; omega), if_neg (by omega)]
    unfold rd
    rw [List.getD_eq_getElem?_getD, List.getElem?_append_left (by omega), ← List.getD_eq_getElem?_getD]
/-- What Row and Unrow hand back: bytes in new memory. -/
def NewB (w : World) (xs : List Int) (e : Ending) (w' : World) : Prop := ∃ v, e = .returned v ∧ Ev w w' ∧ ON .u8 eB w' w.heap.size v xs
def planesI (p : Int) : Int := if 1 > p then 1 else p
/-- One round of both: look, guess, store. -/
theorem round_any {row up v : Value} {xs us ys : List Int} {kind p : Int} {j B : Nat} {w3 : World} {ad : Addr} {R : World → Prop}
    (hr : Nm .u8 w3 row xs) (hu : Nm .u8 w3 up us) (hS : ∃ a b c, St w3 ad (nbs a b c row up p)) (hO : ON .u8 eB w3 B v ys) (hj : (j : Int) < ys.length) (hp : 1 ≤ p ∧ p ≤ 9223372036854775807) (hB : ∀ g, v.ownBlock = some g → g ≠ ad.block) (hj63 : j ≤ 1000000000) {f : Int → Int} (hf : ∀ x, rng (f x) )
    (hk : ∀ w6, Ch (fun k i => Rg ad 3 k i ∨ Ob v k i) w3 w6 → (∃ a b c, St w6 ad (nbs a b c row up p)) → ON .u8 eB w6 B v (ys.set j (f (guessI kind (ofL xs (j - p)) (ofL us j) (ofL us (j - p))))) → R w6) :
    gCall P n_filter_neighbours_look shU #[.pointer (some ad), .int .i64 j] w3 fun ww4 => gNil (some ad) fun (t36 : Addr) => gCall P n_filter_around_guess (shI .u8) #[.pointer (some (Addr.add t36 0)), .int .i64 kind] ww4 fun (t39 : Int) ww5 =>
      gIdx P t_sl_uint8 v (.int .i64 j) fun (t41 : Addr) => gStore P t_uint8 (.pointer (some t41)) (.int .u8 (f t39)) ww5 fun ww6 => R ww6 := by
  obtain ⟨a, b, c, hS⟩ := hS
  have hvb := hB
  refine gCall_of (look_any hS hr hu (by omega) (by omega)) ?_
  rintro _ w4 ⟨rfl, hc4, hS4⟩
  refine ⟨rfl, gNil_some (gCall_of (guess_any hS4.add0 (ofL_u8 hr.2 _) (ofL_u8 hu.2 _) (ofL_u8 hu.2 _)) ?_)⟩
  rintro _ w5 ⟨rfl, hw5⟩
  have hO5 : ON .u8 eB w5 B v ys := (hO.ch hc4 fun g i hg hh => hvb g hg hh.1).ev hw5
  refine ⟨_, rfl, gIdx_on hO5 (by omega) hj fun a2 hs2 _ => gStore_on hO5 hs2 (by omega) hj ?_ fun w6 hc6 _ hO6 => hk w6 ?_ ⟨_, _, _, (hS4.ev hw5).ch hc6 fun q _ hh => hvb _ hh rfl⟩ hO6⟩
  · have := hf (guessI kind (ofL xs (j - p)) (ofL us j) (ofL us (j - p)))
    simp [IntKind.min, IntKind.max, IntKind.signed, IntKind.bits]; omega
  · refine Ch.trans (Ch.trans (hc4.mono fun _ _ _ h => .inl h) (hw5.mono fun _ _ _ h => h.elim) fun _ _ _ h => h) (hc6.mono fun _ _ _ h => .inr h) fun _ _ _ h => h
theorem Row_any {row up : Value} {xs us : List Int} {kind p : Int} {w : World} (hr : Nm .u8 w row xs) (hu : Nm .u8 w up us) (hl : xs.length ≤ 1000000000) (hp : p ≤ 9223372036854775807) :
    Calls P n_filter_Row #[.int .i64 kind, row, up, .int .i64 p] w (NewB w (rowN kind xs us (planesI p) xs.length)) := by
  refine of_filter_Row ⟨hr.one, hu.one, gBox_of fun ad w1 hw1 had hsz hS => ?_⟩
  refine gLen_nm (hr.ev hw1) (gMake_n (k := .u8) (by omega) (by omega) fun v w2 hw2 hO => gLen_nm ((hr.ev hw1).ev hw2) ?_)
  have hS : St w1 ad (nbs 0 0 0 row up (planesI p)) := hS
  have hpl : 1 ≤ planesI p ∧ planesI p ≤ 9223372036854775807 := by unfold planesI; split <;> omega
  have hbk : ad.block = w.heap.size := by rw [had]
  refine ⟨fun i w3 => ∃ j : Nat, i = j ∧ j ≤ xs.length ∧ Ev w w3 ∧ (∃ a b c, St w3 ad (nbs a b c row up (planesI p))) ∧ ON .u8 eB w3 w1.heap.size v (rowN kind xs us (planesI p) j ++ List.replicate (xs.length - j) 0),
    fun i _ => xs.length - i.toNat, ⟨0, rfl, by omega, hw1.trans hw2, ⟨_, _, _, hS.ev hw2⟩, by simpa [rowN] using hO⟩, ?_⟩
  rintro _ i w3 ⟨j, rfl, hj, hw3, hS3, hO3⟩
  refine gIf_dec (fun h => ?_) (fun h => ⟨v, rfl, hw3, ?_⟩)
  · have hj' : j < xs.length := by omega
    have hlen := fill_len (rowN_len kind xs us (planesI p) j) hj
    refine gIdx_nm (hr.ev hw3) (by omega) (by omega) fun a1 hc1 _ => gLoad_i hc1 (round_any (f := fun g => u8 (rd xs j - g)) (hr.ev hw3) (hu.ev hw3) hS3 hO3 (by omega) hpl (fun g hg => by have := (hO3.base hg).1; omega) (by omega) (fun x => by rw [u8_def]; exact ⟨by omega, by omega⟩) fun w6 hc6 hS6 hO6 => ?_)
    rw [i64_id (n := (j : Int) + 1) (by omega) (by omega)]
    refine ⟨⟨j + 1, by omega, hj', hw3.new hc6 fun n i hh => ?_, hS6, ?_⟩, by dsimp only; omega⟩
    · rcases hh with hh | hh
      · have := hh.1; omega
      · have := (hO3.base hh).1; omega
    · rw [fill_set _ (rowN_len ..) hj', u8_def] at hO6; exact hO6
  · have : j = xs.length := by omega
    subst this
    simpa using hO3.low (by omega)
theorem Unrow_any {row up : Value} {xs us : List Int} {kind p : Int} {w : World} (hr : Nm .u8 w row xs) (hu : Nm .u8 w up us) (hl : xs.length ≤ 1000000000) (hp : p ≤ 9223372036854775807) :
    Calls P n_filter_Unrow #[.int .i64 kind, row, up, .int .i64 p] w (NewB w (unrowN kind xs us (planesI p) xs.length)) := by
  refine of_filter_Unrow (gLen_nm hr (gMake_n (k := .u8) (by omega) (by omega) fun v w1 hw1 hO => ⟨hO.one, hu.one, gBox_of fun ad w2 hw2 had hsz hS => gLen_nm ((hr.ev hw1).ev hw2) ?_⟩))
  have hS : St w2 ad (nbs 0 0 0 v up (planesI p)) := hS
  have hpl : 1 ≤ planesI p ∧ planesI p ≤ 9223372036854775807 := by unfold planesI; split <;> omega
  have hbk : ad.block = w1.heap.size := by rw [had]
  have hvb : ∀ {w3 : World} {ys : List Int}, ON .u8 eB w3 w.heap.size v ys → ∀ g, v.ownBlock = some g → g < w1.heap.size := fun _ g hg => (hO.base hg).2
  refine ⟨fun i w3 => ∃ j : Nat, i = j ∧ j ≤ xs.length ∧ Ev w w3 ∧ (∃ a b c, St w3 ad (nbs a b c v up (planesI p))) ∧ ON .u8 eB w3 w.heap.size v (unrowN kind xs us (planesI p) j ++ List.replicate (xs.length - j) 0),
    fun i _ => xs.length - i.toNat, ⟨0, rfl, by omega, hw1.trans hw2, ⟨_, _, _, hS⟩, by simpa [unrowN] using hO.ev hw2⟩, ?_⟩
  rintro _ i w3 ⟨j, rfl, hj, hw3, hS3, hO3⟩
  refine gIf_dec (fun h => ?_) (fun h => ⟨v, rfl, hw3, ?_⟩)
  · have hj' : j < xs.length := by omega
    have hlen := fill_len (unrowN_len kind xs us (planesI p) j) hj
    refine gIdx_nm (hr.ev hw3) (by omega) (by omega) fun a1 hc1 _ => gLoad_i hc1 (round_any (f := fun g => u8 (rd xs j + g)) hO3.nm (hu.ev hw3) hS3 hO3 (by omega) hpl (fun g hg => by have := hvb hO3 g hg; omega) (by omega) (fun x => by rw [u8_def]; exact ⟨by omega, by omega⟩) fun w6 hc6 hS6 hO6 => ?_)
    rw [i64_id (n := (j : Int) + 1) (by omega) (by omega)]
    refine ⟨⟨j + 1, by omega, hj', hw3.new hc6 fun n i hh => ?_, hS6, ?_⟩, by dsimp only; omega⟩
    · rcases hh with hh | hh
      · have := hh.1; have := hw1.size; omega
      · have := (hO3.base hh).1; omega
    · rw [ofL_fill (by rw [unrowN_len]; omega), fill_set _ (unrowN_len ..) hj', u8_def] at hO6; exact hO6
  · have : j = xs.length := by omega
    subst this
    simpa using hO3
end Go.Proofs.YtcnigagagjmogaaV
