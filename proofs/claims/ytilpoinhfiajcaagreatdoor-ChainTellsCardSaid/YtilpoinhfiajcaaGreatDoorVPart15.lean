import Derived.Maps.Own
import Derived.Maps.Views
import Derived.Maps.Range
import Derived.Carry
import Derived.StringKeys
import Derived.Handed
import Derived.ShapedOpen
import Derived.Ground.SlsfProg
import Derived.Ground.GgzProg
import Derived.Ground.SlbNamesProg
import Derived.Shelf.SlSortCmp.NoneTotal
import Derived.Shelf.SlIter.Stops
import Derived.Shelf.LaysM
import Derived.Shelf.Bytes.SlIndexWhole
import Derived.Shelf.Bytes.SlCountWhole
import Derived.Test.YtilpoinhfiajcaaGreatDoorProg
import Derived.Test.YtilpoinhfiajcaaGreatDoorVPart14
set_option linter.unusedVariables false
set_option linter.unusedSimpArgs false
/- Package words: letters, runs of letters. -/
namespace Go.Proofs.YtilpoinhfiajcaaGreatDoorV
open Go Go.RowKit
def letB (c : Int) : Bool := decide (97 ≤ c ∧ c ≤ 122 ∨ 65 ≤ c ∧ c ≤ 90)
/-- How many letters stand ahead. -/
def runN : List Int → Nat
  | [] => 0
  | c :: r => if letB c then runN r + 1 else 0
theorem runN_le : ∀ xs : List Int, runN xs ≤ xs.length
  | [] => Nat.le_refl _
  | c :: r => by
    have := runN_le r
    rw [runN, List.length_cons]; split <;> omega
theorem runN_at : ∀ {xs : List Int} {k : Nat}, k ≤ xs.length → (∀ j, j < k → letB (rd xs (j : Int)) = true) → (∀ h : k < xs.length, letB (rd xs (k : Int)) = false) → runN xs = k
  | [], k, h, _, _ => by
    rw [runN]; simp at h; exact h.symm
  | c :: r, 0, _, _, h2 => by
    have := h2 (by simp)
    rw [rd_nat _ 0 (by simp), List.getElem_cons_zero] at this
    rw [runN, if_neg (by rw [this]; decide)]
  | c :: r, k + 1, h, h1, h2 => by
    have h0 := h1 0 (by omega)
    rw [rd_nat _ 0 (by simp), List.getElem_cons_zero] at h0
    have sh : ∀ j : Nat, j < r.length → rd (c :: r) ((j + 1 : Nat) : Int) = rd r (j : Int) := fun j hj => by
      rw [rd_nat (c :: r) (j + 1) (by simp; omega), rd_nat r j hj, List.getElem_cons_succ]
    rw [runN, if_pos h0, runN_at (k := k) (by simp at h; omega) (fun j hj => by rw [← sh j (by simp at h; omega)]; exact h1 (j + 1) (by omega)) (fun hk => by rw [← sh k hk]; exact h2 (by simp; omega))]
section
variable {w : World}
theorem letter_any {c : Int} : Calls P n_words_letter #[.int .u8 c] w (fun e w' => e = .returned (.bool (letB c)) ∧ w' = w) := by
  refine of_words_letter (gIf_dec (fun h1 => gIf_ndec (fun h2 => gIf_dec (fun h3 => ⟨?_, rfl⟩) (fun h3 => ⟨?_, rfl⟩)) (fun h2 => ⟨?_, rfl⟩)) (fun h1 => gIf_dec (fun h3 => ⟨?_, rfl⟩) (fun h3 => ⟨?_, rfl⟩)))
  all_goals
    unfold letB
    congr 2
    first | exact (decide_eq_true (by omega)).symm | exact (decide_eq_false (by omega)).symm | exact decide_eq_decide.2 (by omega)
theorem run1_any {c : Int} : Calls P n_words_run_1 #[.int .u8 c] w (fun e w' => e = .returned (.bool (!letB c)) ∧ w' = w) := by
  refine of_words_run_1 (gCall_of letter_any ?_)
  rintro _ _ ⟨rfl, rfl⟩
  exact ⟨_, rfl, rfl, rfl⟩
theorem IndexNot_any {b : Value} {xs : List Int} (hb : Nm .u8 w b xs) (hl : xs.length ≤ 1000000000) : Calls P n_slices_IndexFunc_byte_byte' #[b, .func (.func n_words_run_1) #[] #[]] w (fun e w' => e = .returned (.int .i64 (if runN xs < xs.length then (runN xs : Int) else -1)) ∧ w' = w) := by
  refine of_slices_IndexFunc_byte_byte' (gLen_nm hb ⟨fun i w' => ∃ k : Nat, i = (k : Int) ∧ k ≤ xs.length ∧ (∀ j, j < k → letB (rd xs (j : Int)) = true) ∧ w' = w, fun i _ => xs.length - i.toNat, ⟨0, rfl, by omega, (fun j h => by omega), rfl⟩, ?_⟩)
  rintro _ i _ ⟨k, rfl, hk, hall, rfl⟩
  refine gIf_dec (fun hlt => gGet hb (by omega) (by omega) (gCallV_of rfl (by kernel_rfl) (show Calls P n_words_run_1 #[.int .u8 (rd xs (k : Int))] _ _ from run1_any) ?_)) (fun hge => ?_)
  · rintro _ _ ⟨rfl, rfl⟩
    refine ⟨_, rfl, gIf_nb (fun h => ?_) (fun h => ?_)⟩
    · have e : runN xs = k := runN_at hk hall fun _ => h
      rw [e, if_pos (by omega)]; exact ⟨rfl, rfl⟩
    · refine ⟨⟨k + 1, by rw [i64_id (by omega) (by omega)]; omega, by omega, fun j hj => ?_, rfl⟩, by dsimp only; rw [i64_id (by omega) (by omega)]; omega⟩
      by_cases hjk : j = k
      · subst hjk; exact h
      · exact hall j (by omega)
  · have e : runN xs = k := runN_at hk hall fun h => by omega
    rw [e, if_neg (by omega)]; exact ⟨rfl, rfl⟩
theorem run_any {b : Value} {xs : List Int} (hb : Nm .u8 w b xs) (hl : xs.length ≤ 1000000000) : Calls P n_words_run #[b] w (fun e w' => e = .returned (.int .i64 (runN xs : Nat)) ∧ w' = w) := by
  have hle := runN_le xs
  refine of_words_run (gCall_of (IndexNot_any hb hl) ?_)
  rintro _ _ ⟨rfl, rfl⟩
  refine ⟨_, rfl, ?_⟩
  by_cases h : runN xs < xs.length
  · rw [if_pos h]
    exact gIf_dec (fun h => by omega) (fun _ => ⟨rfl, rfl⟩)
  · rw [if_neg h]
    refine gIf_dec (fun _ => gLen_nm hb ⟨?_, rfl⟩) (fun h => absurd (by decide) h)
    rw [show runN xs = xs.length by omega]
/-! ### Comparing -/
def cmpI (x y : Int) : Int := if x < y then -1 else if x > y then 1 else 0
theorem cmpInt_any {x y : Int} : Calls P n_cmp_Compare_int #[.int .i64 x, .int .i64 y] w (fun e w' => e = .returned (.int .i64 (cmpI x y)) ∧ w' = w) := by
  have hn : ∀ {z : Int}, Calls P n_cmp_isNaN_int #[.int .i64 z] w (fun e w' => e = .returned (.bool false) ∧ w' = w) := fun {z} => of_cmp_isNaN_int ⟨by simp, rfl⟩
  refine of_cmp_Compare_int (gCall_of hn ?_)
  rintro _ _ ⟨rfl, rfl⟩
  refine ⟨_, rfl, gCall_of hn ?_⟩
  rintro _ _ ⟨rfl, rfl⟩
  refine ⟨_, rfl, gIf_f (gIf_f (gIf_dec (fun h => ⟨?_, rfl⟩) (fun h => gIf_dec (fun h2 => ⟨?_, rfl⟩) (fun h2 => ⟨?_, rfl⟩))))⟩
  · unfold cmpI; rw [if_pos h]
  · unfold cmpI; rw [if_neg h, if_pos h2]
  · unfold cmpI; rw [if_neg h, if_neg h2]
def cmpS (a b : List UInt8) : Int := if Op.bytesLess a b then -1 else if a = b then 0 else 1
theorem cmpStr_any {a b : List UInt8} : Calls P n_cmp_Compare_string #[.string (mkS a), .string (mkS b)] w (fun e w' => e = .returned (.int .i64 (cmpS a b)) ∧ w' = w) := by
  have hn : ∀ {z : ByteArray}, Calls P n_cmp_isNaN_string #[.string z] w (fun e w' => e = .returned (.bool false) ∧ w' = w) := fun {z} => of_cmp_isNaN_string ⟨by simp, rfl⟩
  refine of_cmp_Compare_string (gCall_of hn ?_)
  rintro _ _ ⟨rfl, rfl⟩
  refine ⟨_, rfl, gCall_of hn ?_⟩
  rintro _ _ ⟨rfl, rfl⟩
  refine ⟨_, rfl, gIf_f (gIf_f ?_)⟩
  rw [tl_mk, tl_mk]
  unfold cmpS
  cases hb : Op.bytesLess a b
  · refine gIf_f ?_
    by_cases he : a = b
    · subst he
      rw [show (a == a) = true by simp]
      simp only [Bool.or_true, Bool.not_true]
      exact gIf_f ⟨by simp, trivial⟩
    · rw [show (a == b) = false by simp [he]]
      simp only [Bool.or_self, Bool.not_false]
      exact gIf_t ⟨by simp [he], trivial⟩
  · exact gIf_t ⟨by simp, rfl⟩
end
end Go.Proofs.YtilpoinhfiajcaaGreatDoorV

/- The words of a text, and how they stand: plain. -/
namespace Go.Proofs.YtilpoinhfiajcaaGreatDoorV
open Go Go.RowKit
/-- Bytes as a key, and back. -/
def bU (l : List Int) : List UInt8 := l.map fun x => UInt8.ofNat x.toNat
def iU (l : List UInt8) : List Int := l.map fun b => (b.toNat : Int)
theorem bU_len (l : List Int) : (bU l).length = l.length := List.length_map _
theorem iU_len (l : List UInt8) : (iU l).length = l.length := List.length_map _
theorem bsOf_mk (l : List Int) : bsOf l = mkS (bU l) := rfl
theorem sOf_mk (l : List UInt8) : sOf (mkS l) = iU l := by unfold sOf iU; rw [mkS_data]
theorem iU_u8 (l : List UInt8) : inR .u8 (iU l) := by rw [← sOf_mk]; exact sOf_u8 _
/-- The words of 3 to 24 letters, one behind the other. -/
def scanU : Nat → List Int → List (List UInt8)
  | 0, _ => []
  | f + 1, xs => if xs = [] then [] else (if 3 ≤ runN xs ∧ runN xs ≤ 24 then [bU (xs.take (runN xs))] else []) ++ scanU f (xs.drop (if 1 > runN xs then 1 else runN xs))
def wordsU (xs : List Int) : List (List UInt8) := scanU xs.length xs
theorem scanU_nil : ∀ f, scanU f [] = []
  | 0 => rfl
  | f + 1 => by rw [scanU, if_pos rfl]
theorem scanU_fuel : ∀ (f g : Nat) (xs : List Int), xs.length ≤ f → xs.length ≤ g → scanU f xs = scanU g xs
  | 0, g, xs, h, _ => by
    obtain rfl : xs = [] := List.eq_nil_of_length_eq_zero (by omega)
    rw [scanU_nil, scanU_nil]
  | f + 1, 0, xs, _, h => by
    obtain rfl : xs = [] := List.eq_nil_of_length_eq_zero (by omega)
    rw [scanU_nil, scanU_nil]
  | f + 1, g + 1, xs, h1, h2 => by
    rw [scanU, scanU]
    by_cases hx : xs = []
    · rw [if_pos hx, if_pos hx]
    · have : 0 < xs.length := List.length_pos_iff.2 hx
      rw [if_neg hx, if_neg hx, scanU_fuel f g _ (by rw [List.length_drop]; split <;> omega) (by rw [List.length_drop]; split <;> omega)]
theorem wordsU_step {xs : List Int} (h : xs ≠ []) : wordsU xs = (if 3 ≤ runN xs ∧ runN xs ≤ 24 then [bU (xs.take (runN xs))] else []) ++ wordsU (xs.drop (if 1 > runN xs then 1 else runN xs)) := by
  have h0 : 0 < xs.length := List.length_pos_iff.2 h
  unfold wordsU
  conv => lhs; rw [show xs.length = xs.length - 1 + 1 by omega, scanU, if_neg h]
  rw [scanU_fuel _ (xs.drop (if 1 > runN xs then 1 else runN xs)).length _ (by rw [List.length_drop]; split <;> omega) (Nat.le_refl _)]
theorem wordsU_nil : wordsU [] = [] := rfl
theorem wordsU_len : ∀ (n : Nat) (xs : List Int), xs.length ≤ n → (wordsU xs).length ≤ xs.length ∧ ∀ s ∈ wordsU xs, 3 ≤ s.length ∧ s.length ≤ 24
  | 0, xs, h => by
    obtain rfl : xs = [] := List.eq_nil_of_length_eq_zero (by omega)
    rw [wordsU_nil]
    exact ⟨Nat.le_refl _, fun s h => by cases h⟩
  | n + 1, xs, h => by
    by_cases hx : xs = []
    · subst hx; exact ⟨Nat.le_refl _, fun s h => by cases h⟩
    · have h0 : 0 < xs.length := List.length_pos_iff.2 hx
      have ih := wordsU_len n (xs.drop (if 1 > runN xs then 1 else runN xs)) (by rw [List.length_drop]; split <;> omega)
      have hr := runN_le xs
      rw [wordsU_step hx]
      refine ⟨?_, fun s hs => ?_⟩
      · have := ih.1
        have hd : (xs.drop (if 1 > runN xs then 1 else runN xs)).length ≤ xs.length - 1 := by rw [List.length_drop]; split <;> omega
        rw [List.length_append]
        have h1 : (if 3 ≤ runN xs ∧ runN xs ≤ 24 then [bU (xs.take (runN xs))] else []).length ≤ 1 := by split <;> simp
        omega
      · rcases List.mem_append.1 hs with hs | hs
        · split at hs
          · rename_i hc
            rw [List.mem_singleton.1 hs, bU_len, List.length_take, Nat.min_eq_left hr]; exact hc
          · cases hs
        · exact ih.2 s hs
/-! ### The order -/
def wth (c : List UInt8 → Nat) (s : List UInt8) : Int := ((c s : Int) - 1) * s.length
def cfU (c : List UInt8 → Nat) (x y : List UInt8) : Int := if cmpI (wth c y) (wth c x) ≠ 0 then cmpI (wth c y) (wth c x) else cmpS x y
def ltU (c : List UInt8 → Nat) (x y : List UInt8) : Bool := decide (cfU c x y < 0)
theorem bytesLess_iff : ∀ {a b : List UInt8}, Op.bytesLess a b = true ↔ a < b
  | [], [] => by simp [Op.bytesLess]
  | [], b :: q => by simp [Op.bytesLess]
  | a :: r, [] => by simp [Op.bytesLess]
  | a :: r, b :: q => by
    unfold Op.bytesLess
    rw [List.cons_lt_cons_iff]
    by_cases h : a = b
    · subst h
      simp [bytesLess_iff (a := r) (b := q)]
    · simp [h]
theorem cmpS_lt {a b : List UInt8} : cmpS a b < 0 ↔ a < b := by
  unfold cmpS
  by_cases h : Op.bytesLess a b = true
  · rw [if_pos h]; exact ⟨fun _ => bytesLess_iff.1 h, fun _ => by decide⟩
  · rw [if_neg h]
    exact ⟨fun h2 => by split at h2 <;> simp at h2, fun h2 => absurd (bytesLess_iff.2 h2) h⟩
theorem ltU_iff {c : List UInt8 → Nat} {x y : List UInt8} : ltU c x y = true ↔ wth c y < wth c x ∨ (wth c y = wth c x ∧ x < y) := by
  unfold ltU cfU cmpI
  rw [decide_eq_true_iff, ← cmpS_lt]
  by_cases h1 : wth c y < wth c x
  · simp [h1]
  · by_cases h2 : wth c y > wth c x
    · rw [if_neg h1, if_pos h2, if_pos (by decide)]
      constructor
      · intro h; simp at h
      · intro h; omega
    · rw [if_neg h1, if_neg h2]
      simp only [ne_eq, not_true, if_false]
      constructor
      · intro h; exact .inr ⟨by omega, h⟩
      · intro h
        rcases h with h | h
        · omega
        · exact h.2
theorem lt_irrU (x : List UInt8) : ¬ x < x := List.lt_irrefl x
theorem ltU_irr (c : List UInt8 → Nat) (x : List UInt8) : ltU c x x = false := by
  cases h : ltU c x x with
  | false => rfl
  | true =>
    rcases ltU_iff.1 h with h | h
    · omega
    · exact absurd h.2 (lt_irrU x)
theorem ltU_trans {c : List UInt8 → Nat} {x y z : List UInt8} (h1 : ltU c x y = true) (h2 : ltU c y z = true) : ltU c x z = true := by
  rw [ltU_iff] at *
  rcases h1 with h1 | h1 <;> rcases h2 with h2 | h2
  · exact .inl (by omega)
  · exact .inl (by omega)
  · exact .inl (by omega)
  · exact .inr ⟨by omega, List.lt_trans h1.2 h2.2⟩
theorem ltU_total {c : List UInt8 → Nat} {x y : List UInt8} (h1 : ltU c x y = false) (h2 : ltU c y x = false) : x = y := by
  have n1 : ¬ _ := fun h => by rw [ltU_iff.2 h] at h1; cases h1
  have n2 : ¬ _ := fun h => by rw [ltU_iff.2 h] at h2; cases h2
  have e : wth c y = wth c x := by
    refine Decidable.byContradiction fun hne => ?_
    rcases Int.lt_or_gt_of_ne hne with h | h
    · exact n1 (.inl h)
    · exact n2 (.inl h)
  have a : ¬ x < y := fun h => n1 (.inr ⟨e, h⟩)
  have b : ¬ y < x := fun h => n2 (.inr ⟨e.symm, h⟩)
  exact List.le_antisymm b a
/-- Without repeats. -/
def dd : List (List UInt8) → List (List UInt8)
  | [] => []
  | x :: l => if x ∈ dd l then dd l else x :: dd l
theorem mem_dd : ∀ {l : List (List UInt8)} {x : List UInt8}, x ∈ dd l ↔ x ∈ l
  | [], x => by simp [dd]
  | y :: l, x => by
    rw [dd]
    split
    · rename_i h
      rw [mem_dd, List.mem_cons]
      exact ⟨.inr, fun h' => by rcases h' with rfl | h'; exact mem_dd.1 h; exact h'⟩
    · rw [List.mem_cons, List.mem_cons, mem_dd]
theorem nodup_dd : ∀ l : List (List UInt8), (dd l).Nodup
  | [] => List.nodup_nil
  | y :: l => by
    rw [dd]
    split
    · exact nodup_dd l
    · rename_i h; exact List.nodup_cons.2 ⟨h, nodup_dd l⟩
def sortedU (ws : List (List UInt8)) : List (List UInt8) := (dd ws).mergeSort fun x y => !ltU (fun s => ws.count s) y x
/-- The words that are worth the most. -/
def findU (ws : List (List UInt8)) : List (List UInt8) := ((sortedU ws).filter fun s => decide (1 < ws.count s)).take 64
theorem perm_of_mem : ∀ {l m : List (List UInt8)}, l.Nodup → m.Nodup → (∀ x, x ∈ l ↔ x ∈ m) → l.Perm m := fun {l m} hl hm h => by
  refine List.perm_iff_count.2 fun a => ?_
  rw [hl.count, hm.count]
  by_cases ha : a ∈ l
  · rw [if_pos ha, if_pos ((h a).1 ha)]
  · rw [if_neg ha, if_neg fun hh => ha ((h a).2 hh)]
theorem sortedU_perm (ws : List (List UInt8)) : (sortedU ws).Perm (dd ws) := List.mergeSort_perm _ _
theorem leU_trans (c : List UInt8 → Nat) (x y z : List UInt8) (h1 : (!ltU c y x) = true) (h2 : (!ltU c z y) = true) : (!ltU c z x) = true := by
  cases h : ltU c z x with
  | false => rfl
  | true =>
    exfalso
    simp only [Bool.not_eq_true'] at h1 h2
    cases h3 : ltU c x y with
    | true => rw [ltU_trans h h3] at h2; cases h2
    | false =>
      have := ltU_total h3 h1
      subst this
      rw [h] at h2; cases h2
theorem leU_total (c : List UInt8 → Nat) (x y : List UInt8) : (!ltU c y x || !ltU c x y) = true := by
  cases h1 : ltU c y x with
  | false => rfl
  | true =>
    cases h2 : ltU c x y with
    | false => rfl
    | true => have := ltU_trans h1 h2; rw [ltU_irr] at this; cases this
theorem pairwise_U (c : List UInt8 → Nat) {l : List (List UInt8)} (hn : l.Nodup) (h : l.Pairwise fun x y => (!ltU c y x) = true) : l.Pairwise fun x y => ltU c x y = true := by
  have := List.Pairwise.and hn h
  refine this.imp fun {x y} ⟨h1, h2⟩ => ?_
  simp only [Bool.not_eq_true'] at h2
  cases h3 : ltU c x y with
  | true => rfl
  | false => exact absurd (ltU_total h3 h2) h1
theorem sorted_strict (c : List UInt8 → Nat) {l : List (List UInt8)} (hn : l.Nodup) : (l.mergeSort fun x y => !ltU c y x).Pairwise fun x y => ltU c x y = true :=
  pairwise_U c ((List.mergeSort_perm _ _).nodup_iff.2 hn) (List.pairwise_mergeSort (fun a b c' h1 h2 => leU_trans c a b c' h1 h2) (fun a b => leU_total c a b) l)
/-- Two lists that rise strictly and have the same in them are one. -/
theorem rise_eq (c : List UInt8 → Nat) : ∀ {l m : List (List UInt8)}, l.Pairwise (fun x y => ltU c x y = true) → m.Pairwise (fun x y => ltU c x y = true) → (∀ x, x ∈ l ↔ x ∈ m) → l = m
  | [], [], _, _, _ => rfl
  | [], y :: m, _, _, h => absurd ((h y).2 List.mem_cons_self) (by simp)
  | x :: l, [], _, _, h => absurd ((h x).1 List.mem_cons_self) (by simp)
  | x :: l, y :: m, hl, hm, h => by
    have hl' := List.pairwise_cons.1 hl
    have hm' := List.pairwise_cons.1 hm
    have exy : x = y := by
      rcases List.mem_cons.1 ((h x).1 List.mem_cons_self) with e | hx
      · exact e
      · rcases List.mem_cons.1 ((h y).2 List.mem_cons_self) with e | hy
        · exact e.symm
        · have := ltU_trans (hl'.1 y hy) (hm'.1 x hx)
          rw [ltU_irr] at this; cases this
    subst exy
    rw [rise_eq c hl'.2 hm'.2 fun z => ?_]
    constructor
    · intro hz
      rcases List.mem_cons.1 ((h z).1 (List.mem_cons_of_mem _ hz)) with e | hz'
      · subst e; have := hl'.1 z hz; rw [ltU_irr] at this; cases this
      · exact hz'
    · intro hz
      rcases List.mem_cons.1 ((h z).2 (List.mem_cons_of_mem _ hz)) with e | hz'
      · subst e; have := hm'.1 z hz; rw [ltU_irr] at this; cases this
      · exact hz'
theorem sortedU_rise (ws : List (List UInt8)) : (sortedU ws).Pairwise fun x y => ltU (fun s => ws.count s) x y = true := sorted_strict _ (nodup_dd ws)
theorem mem_sortedU {ws : List (List UInt8)} {x : List UInt8} : x ∈ sortedU ws ↔ x ∈ ws := by rw [(sortedU_perm ws).mem_iff, mem_dd]
/-- Whatever list without repeats has just these words: sorted it is this one. -/
theorem sorted_of {ws ss : List (List UInt8)} (hn : ss.Nodup) (hm : ∀ x, x ∈ ss ↔ x ∈ ws) : (ss.mergeSort fun x y => !ltU (fun s => ws.count s) y x) = sortedU ws :=
  rise_eq (fun s => ws.count s) (sorted_strict _ hn) (sortedU_rise ws) fun x => by rw [(List.mergeSort_perm _ _).mem_iff, hm, mem_sortedU]
theorem sortedU_len (ws : List (List UInt8)) : (sortedU ws).length ≤ ws.length := by
  rw [(sortedU_perm ws).length_eq]
  induction ws with
  | nil => exact Nat.le_refl _
  | cons y l ih => rw [dd]; split <;> simp <;> omega
theorem wth_rg {ws : List (List UInt8)} {s : List UInt8} (h1 : ws.length ≤ 1000000000) (h2 : s.length ≤ 24) : -24 ≤ wth (fun s => ws.count s) s ∧ wth (fun s => ws.count s) s ≤ 24000000000 := by
  have hc : ws.count s ≤ ws.length := List.count_le_length
  unfold wth
  show -24 ≤ (((ws.count s : Nat) : Int) - 1) * ((s.length : Nat) : Int) ∧ (((ws.count s : Nat) : Int) - 1) * ((s.length : Nat) : Int) ≤ 24000000000
  generalize ws.count s = k at *
  have hk : ((s.length : Nat) : Int) ≤ 24 := by omega
  by_cases h0 : k = 0
  · subst h0
    omega
  · have a := Int.mul_nonneg (show 0 ≤ (k : Int) - 1 by omega) (show 0 ≤ (s.length : Int) by omega)
    have b := Int.mul_le_mul (show (k : Int) - 1 ≤ 1000000000 by omega) hk (by omega) (by omega)
    omega
end Go.Proofs.YtilpoinhfiajcaaGreatDoorV

/- Package words: a map of words and how often they come. -/
namespace Go.Proofs.YtilpoinhfiajcaaGreatDoorV
open Go Go.RowKit Go.Maps
theorem keyS : Keyed P t_string := string_keyed (by kernel_rfl)
theorem undM : P.underlying t_maparstring_int = some (.map t_string t_int) := by kernel_rfl
theorem undI : P.underlying t_int = some (.int .i64) := by kernel_rfl
theorem zeroI (w : World) : (zeroValue t_int).run P w = .ok (.int .i64 0) w := by kernel_rfl
abbrev Dt := DataW Unit
noncomputable abbrev RI : Value → Option (DataW Unit × List MemPlace) := plainElem P t_int
/-- Block b is a map that tells how often each word comes. -/
def MapI (w : World) (b : Nat) (ws : List (List UInt8)) : Prop := ∃ D : Dt, w.ownsMap P t_string RI b ws.length D ∧ IsMap D ∧ (∀ s, D.atKey (.string s) (.lit (.int .i64 0)) = .lit (.int .i64 (ws.count s : Nat))) ∧ ∀ s, Maps.has D (.string s) = true ↔ s ∈ ws
theorem MapI.keep {w w' : World} {b : Nat} {ws : List (List UInt8)} (h : MapI w b ws) (hb : ∀ o, w.heap[b]? = some o → w'.heap[b]? = some o) : MapI w' b ws := by
  obtain ⟨D, ⟨es, clock, h1, h2, h3, h4⟩, hr⟩ := h
  exact ⟨D, ⟨es, clock, hb _ h1, h2, h3, h4⟩, hr⟩
theorem MapI.block {w : World} {b : Nat} {ws : List (List UInt8)} (h : MapI w b ws) : ∃ o, w.heap[b]? = some o ∧ o.isCells = false := by
  obtain ⟨D, ⟨es, clock, h1, _⟩, _⟩ := h
  exact ⟨_, h1, rfl⟩
theorem MapI.ch {S : SS} {w w' : World} {b : Nat} {ws : List (List UInt8)} (h : MapI w b ws) (hc : Ch S w w') : MapI w' b ws := by
  obtain ⟨o, h1, h2⟩ := h.block
  exact h.keep fun o' ho => by rw [h1] at ho; injection ho with ho; subst ho; exact hc.oth _ _ h1 h2
section
variable {w0 w : World} {F : List It} {b : Nat} {ws : List (List UInt8)}
theorem gMakeMap {K : Value → World → Prop} (hk : ∀ w', Ev w w' → MapI w' w.heap.size [] → K (.map (some w.heap.size)) w') : gAny P shV (do pure (Next.value (← Instr.makeMap t_maparstring_int none))) w K :=
  ⟨.map (some w.heap.size), w.alloc (.map #[] 0), rfl, hk _ (Ev.alloc w _) ⟨_, World.ownsMap_made w P t_string RI, isMap_empty, fun s => by simp [DataW.atKey], fun s => by simp [Maps.has]⟩⟩
theorem gLookup {s : List UInt8} {K : Int → World → Prop} (h : MapI w b ws) (hs : s.length ≤ 1000) (hk : K (ws.count s : Nat) w) : gAny P (shI .i64) (do pure (Next.value (← Instr.lookup t_maparstring_int (.map (some b)) (.string (mkS s)) false))) w K := by
  obtain ⟨D, h1, _, h3, _⟩ := h
  have hkey : keyOf P t_string (.string (mkS s)) = some (.string s) := by
    have := Go.WideMaps.keyOf_string_mk (P := P) (k := t_string) (by kernel_rfl) (s := mkS s) (by rw [mkS_size]; unfold maxLen; omega)
    rwa [mkS_data] at this
  obtain ⟨c, hrun, hat, _⟩ := h1.lookup_int keyS undM undI (zeroI w) hkey
  rw [h3 s] at hat
  injection hat with hat
  injection hat with _ hat
  subst hat
  exact ⟨_, w, run_v hrun, hk⟩
theorem gBump {s : List UInt8} {n : Int} {K : World → Prop} (h : MapI w b ws) (hs : s.length ≤ 1000) (hl : ws.length ≤ 1000000000) (hn : n = ((ws.count s : Nat) : Int) + 1) (hk : ∀ w', w.grownBy w' (some b) → MapI w' b (ws ++ [s]) → K w') :
    gAnyU P (do Instr.mapUpdate t_maparstring_int (.map (some b)) (.string (mkS s)) (.int .i64 n); pure Next.skip) w K := by
  obtain ⟨D, h1, h2, h3, h4⟩ := h
  have hc : ws.count s ≤ ws.length := List.count_le_length
  have hkey : keyOf P t_string (.string (mkS s)) = some (.string s) := by
    have := Go.WideMaps.keyOf_string_mk (P := P) (k := t_string) (by kernel_rfl) (s := mkS s) (by rw [mkS_size]; unfold maxLen; omega)
    rwa [mkS_data] at this
  have hik : WideAt.IsKeyLit (.string s) := keyS.key hkey
  obtain ⟨w', hrun, h5, h6⟩ := h1.update keyS undM (by unfold maxLen; omega) hkey (plainElem_int (e := t_int) (q := .i64) (a := n) undI (WalkArith.wf_i64 (by omega)))
  refine ⟨w', ?_, hk w' h6 ⟨_, by simpa using h5, h2.put _ _, fun s' => ?_, fun s' => ?_⟩⟩
  · simp only [Sem.run_bind, hrun, Result.andThen_ok, Sem.run_pure]
  · by_cases e : s' = s
    · subst e
      rw [atKey_put_same h2 hik, List.count_append, List.count_singleton_self, hn]; rfl
    · rw [atKey_put_other (by intro h; injection h with h; exact e h), h3 s', List.count_append, List.count_singleton]
      simp [Ne.symm e]
  · by_cases e : s' = s
    · subst e
      rw [has_put_same h2 hik]; simp
    · rw [has_put_other (by intro h; injection h with h; exact e h), h4 s', List.mem_append, List.mem_singleton]
      simp [e]
theorem Fr.grownW {w' : World} {row : Option Nat} (h : Fr w0 w F) (hg : w.grownBy w' row) (hr : ∀ r, row = some r → w0.heap.size ≤ r ∧ ∃ o : Obj, w.heap[r]? = some o ∧ o.isCells = false) : Fr w0 w' F :=
  h.gr hg.size hg.os hg.tape hg.output (fun k hk => hg.block k (Nat.lt_of_lt_of_le hk h.old.size) fun e => by have := (hr k e.symm).1; omega)
    fun k c e f hc => hg.block k (hlt hc) fun e' => by obtain ⟨_, o, ho, hn⟩ := hr k e'.symm; exact ne_cells hc ho hn rfl
theorem Fr.putObjW {D : Nat} {o o' : Obj} (h : Fr w0 w F) (hD : w0.heap.size ≤ D) (hk : w.heap[D]? = some o) (ho : o.isCells = false) : Fr w0 (w.putObj D o') F :=
  h.gr (by simp) rfl rfl rfl (fun k hk' => World.putObj_heap_other (by omega)) fun k c e f hc => World.putObj_heap_other (ne_cells hc hk ho).symm
theorem Fr.cell0W {ad : Addr} {u : Value} (h : Fr w0 w F) (i : Nat) (hi : F[i]? = some (sIt ad [u])) : w.cell? ad = some u := by
  have := h.cell i 0 hi rfl
  rwa [Addr.add_zero'] at this
end
end Go.Proofs.YtilpoinhfiajcaaGreatDoorV

/- Package words: Apply, Undo. -/
namespace Go.Proofs.YtilpoinhfiajcaaGreatDoorV
open Go Go.RowKit
/-- A word's place; how many there are, if it has none. -/
def idxW (L : List (List Int)) (u : List Int) : Nat := L.findIdx fun x => decide (x = u)
def tokW (L : List (List Int)) (xs : List Int) : List Int :=
  if 0 < runN xs ∧ idxW L (xs.take (runN xs)) < L.length then [128 + (idxW L (xs.take (runN xs)) : Int)]
  else if 0 < runN xs then xs.take (runN xs)
  else if rd xs 0 ≥ 128 then [255, rd xs 0] else [rd xs 0]
def mxR (xs : List Int) : Nat := if 1 > runN xs then 1 else runN xs
def apS (L : List (List Int)) : Nat → List Int → List Int
  | 0, _ => []
  | f + 1, xs => if xs = [] then [] else tokW L xs ++ apS L f (xs.drop (mxR xs))
def applyW (L : List (List Int)) (xs : List Int) : List Int := apS L xs.length xs
theorem mxR_pos (xs : List Int) : 1 ≤ mxR xs := by unfold mxR; split <;> omega
theorem apS_nil (L : List (List Int)) : ∀ f, apS L f [] = []
  | 0 => rfl
  | f + 1 => by rw [apS, if_pos rfl]
theorem apS_fuel (L : List (List Int)) : ∀ (f g : Nat) (xs : List Int), xs.length ≤ f → xs.length ≤ g → apS L f xs = apS L g xs
  | 0, g, xs, h, _ => by
    obtain rfl : xs = [] := List.eq_nil_of_length_eq_zero (by omega)
    rw [apS_nil, apS_nil]
  | f + 1, 0, xs, _, h => by
    obtain rfl : xs = [] := List.eq_nil_of_length_eq_zero (by omega)
    rw [apS_nil, apS_nil]
  | f + 1, g + 1, xs, h1, h2 => by
    rw [apS, apS]
    by_cases hx : xs = []
    · rw [if_pos hx, if_pos hx]
    · have : 0 < xs.length := List.length_pos_iff.2 hx
      have := mxR_pos xs
      rw [if_neg hx, if_neg hx, apS_fuel L f g _ (by rw [List.length_drop]; omega) (by rw [List.length_drop]; omega)]
theorem applyW_nil (L : List (List Int)) : applyW L [] = [] := rfl
theorem applyW_step {L : List (List Int)} {xs : List Int} (h : xs ≠ []) : applyW L xs = tokW L xs ++ applyW L (xs.drop (mxR xs)) := by
  have h0 : 0 < xs.length := List.length_pos_iff.2 h
  have := mxR_pos xs
  unfold applyW
  conv => lhs; rw [show xs.length = xs.length - 1 + 1 by omega, apS, if_neg h]
  rw [apS_fuel L _ (xs.drop (mxR xs)).length _ (by rw [List.length_drop]; omega) (Nat.le_refl _)]
/-- What comes of bytes in which words stand. -/
def unS (L : List (List Int)) (lim : Int) : List Int → List Int → List Int × Int
  | [], out => (out, 0)
  | [c], out => if c < 128 then (if ((out ++ [c]).length : Int) > lim then ([], 5) else (out ++ [c], 0)) else if c = 255 then ([], 3) else if c - 128 < L.length then (if ((out ++ L.getD (c - 128).toNat []).length : Int) > lim then ([], 5) else (out ++ L.getD (c - 128).toNat [], 0)) else ([], 4)
  | c :: d :: r, out => if c < 128 then (if ((out ++ [c]).length : Int) > lim then ([], 5) else unS L lim (d :: r) (out ++ [c]))
    else if c = 255 then (if d < 128 then ([], 4) else if ((out ++ [d]).length : Int) > lim then ([], 5) else unS L lim r (out ++ [d]))
    else if c - 128 < L.length then (if ((out ++ L.getD (c - 128).toNat []).length : Int) > lim then ([], 5) else unS L lim (d :: r) (out ++ L.getD (c - 128).toNat [])) else ([], 4)
def undoW (L : List (List Int)) (x : List Int) (limit : Int) : List Int × Int := unS (L.take 64) (if 0 > limit then 0 else limit) x []
section
variable {w0 w : World} {F : List It}
theorem NL.take {v : Value} {L : List (List Int)} {m : Nat} (h : NL .u8 w v L) (hm : m ≤ L.length) : NL .u8 w (subV 1 v 0 m) (L.take m) := by
  obtain ⟨us, h1, h2⟩ := h
  have hs := h1.sub 0 m (Nat.zero_le _) hm
  rw [Nat.zero_mul, List.drop_zero, Nat.sub_zero, Nat.mul_one] at hs
  refine ⟨us.take m, by rw [List.length_take, Nat.min_eq_left hm]; exact hs, fun i u xs hu hx => ?_⟩
  rw [List.getElem?_take] at hu hx
  split at hu
  · rename_i hi
    rw [if_pos hi] at hx
    exact h2 i u xs hu hx
  · cases hu
theorem first_any {v : Value} {L : List (List Int)} (h : NL .u8 w v L) : Calls P n_words_first #[v] w (fun e w' => e = .returned (subV 1 v 0 (min 64 L.length)) ∧ w' = w) := by
  obtain ⟨us, h1, h2⟩ := h
  refine of_words_first (gLen_slv h1 ?_)
  have e : (if (64 : Int) < ((L.length : Nat) : Int) then (64 : Int) else ((L.length : Nat) : Int)) = ((min 64 L.length : Nat) : Int) := by split <;> omega
  rw [e]
  obtain ⟨a, c, rfl, hc⟩ := h1.shape
  exact gSlice_any (sz := 1) (l := 0) (h := min 64 L.length) (.inl ⟨rfl, rfl⟩) (.inr ⟨_, rfl⟩) (Nat.zero_le _) (by omega) ⟨rfl, rfl⟩ (by kernel_rfl)
theorem NL.first {v : Value} {L : List (List Int)} (h : NL .u8 w v L) : NL .u8 w (subV 1 v 0 (min 64 L.length)) (L.take 64) := by
  have := h.take (m := min 64 L.length) (by omega)
  rwa [List.take_eq_take_iff.2 (show min (min 64 L.length) L.length = min 64 L.length by omega)] at this
theorem NL.at {v : Value} {L : List (List Int)} {k : Nat} {K : Value → Prop} (h : NL .u8 w v L) (hk : k < L.length) (hK : ∀ u, Nm .u8 w u L[k] → K u) : gIdx P t_sl_sl_uint8 v (.int .i64 (k : Int)) fun ad => gLoad P t_sl_uint8 shV (.pointer (some ad)) w K := by
  obtain ⟨us, h1, h2⟩ := h
  refine gIdx_1 h1 (by omega) (by omega) fun a u hua hc _ => gLoad_v hc (hK u (h2 k u _ ?_ (List.getElem?_eq_getElem hk)))
  rwa [Int.toNat_natCast] at hua
theorem EqualB_any {a c : Value} {xs ys : List Int} (ha : Nm .u8 w a xs) (hc : Nm .u8 w c ys) : Calls P n_bytes_Equal #[a, c] w (fun e w' => e = .returned (.bool (decide (xs = ys))) ∧ w' = w) :=
  of_bytes_Equal (gConv_bs ha (gConv_bs hc ⟨by rw [bsOf_eq ha.2 hc.2], rfl⟩))
theorem isW_any {u b' : Value} {ys xs : List Int} {np bp : Addr} {n : Nat} (hu : Nm .u8 w u ys) (hn : w.cell? np = some (.int .i64 (n : Int))) (hb : w.cell? bp = some b') (hx : Nm .u8 w b' xs) (hnl : n ≤ xs.length) :
    Calls P n_words_Apply_1 #[u, .pointer (some np), .pointer (some bp)] w (fun e w' => e = .returned (.bool (decide (0 < n ∧ ys = xs.take n))) ∧ w' = w) := by
  refine of_words_Apply_1 (gLoad_i hn (gIf_dec (fun h => gLoad_v hb (gLoad_i hn (gSlice_nm hx 0 n (.inl ⟨rfl, rfl⟩) (.inr ⟨_, rfl⟩) (Nat.zero_le _) hnl fun hs => gCall_of (EqualB_any hu hs) ?_))) (fun h => ⟨?_, rfl⟩)))
  · rintro _ _ ⟨rfl, rfl⟩
    refine ⟨_, rfl, ?_, rfl⟩
    rw [List.drop_zero, Nat.sub_zero]
    congr 2
    exact decide_eq_decide.2 ⟨fun h' => ⟨by omega, h'⟩, fun h' => h'.2⟩
  · congr 2
    exact (decide_eq_false (by omega)).symm
theorem idxW_at {L : List (List Int)} {u : List Int} {k : Nat} (hk : k < L.length) (h1 : ∀ j (hj : j < k), L[j]'(by omega) ≠ u) (h2 : L[k] = u) : idxW L u = k := by
  unfold idxW
  refine (List.findIdx_eq hk).2 ⟨by simp [h2], fun j hj => by simpa using h1 j hj⟩
theorem idxW_none {L : List (List Int)} {u : List Int} (h : ∀ j (hj : j < L.length), L[j] ≠ u) : idxW L u = L.length := by
  unfold idxW
  refine List.findIdx_eq_length.2 fun x hx => ?_
  obtain ⟨j, hj, rfl⟩ := List.mem_iff_getElem.1 hx
  simpa using h j hj
theorem Place_any {v b' : Value} {L : List (List Int)} {xs : List Int} {np bp : Addr} {n : Nat} (h : NL .u8 w v L) (hll : L.length ≤ 1000) (hn : w.cell? np = some (.int .i64 (n : Int))) (hb : w.cell? bp = some b') (hx : Nm .u8 w b' xs) (hnl : n ≤ xs.length) :
    Calls P n_slices_IndexFunc_byte_byte #[v, .func (.func n_words_Apply_1) #[] #[.pointer (some np), .pointer (some bp)]] w (fun e w' => e = .returned (.int .i64 (if 0 < n ∧ idxW L (xs.take n) < L.length then (idxW L (xs.take n) : Int) else -1)) ∧ w' = w) := by
  have hsl : ∃ us, Sl w 1 v L.length us := let ⟨us, h1, _⟩ := h; ⟨us, h1⟩
  obtain ⟨us, hS⟩ := hsl
  refine of_slices_IndexFunc_byte_byte (gLen_slv hS ⟨fun i w' => ∃ k : Nat, i = (k : Int) ∧ k ≤ L.length ∧ (∀ j (hj : j < k) (hl : j < L.length), ¬ (0 < n ∧ L[j] = xs.take n)) ∧ w' = w, fun i _ => (L.length - i).toNat, ⟨0, rfl, Nat.zero_le _, (fun j h => by omega), rfl⟩, ?_⟩)
  rintro _ i w1 ⟨k, rfl, hk, hall, hw1⟩
  obtain rfl : w = w1 := hw1.symm
  refine gIf_dec (fun hlt => h.at (k := k) (by omega) fun u hu => gCallV_of rfl (by kernel_rfl) (show Calls P n_words_Apply_1 #[u, .pointer (some np), .pointer (some bp)] _ _ from isW_any hu hn hb hx hnl) ?_) (fun hge => ⟨?_, rfl⟩)
  · rintro _ w2 ⟨rfl, hw2⟩
    obtain rfl : w = w2 := hw2.symm
    refine ⟨_, rfl, gIf_dec (fun hy => ⟨?_, rfl⟩) (fun hy => ⟨⟨k + 1, by rw [i64_id (by omega) (by omega)]; omega, by omega, fun j hj hl => ?_, rfl⟩, by dsimp only; rw [i64_id (by omega) (by omega)]; omega⟩)⟩
    · have e : idxW L (xs.take n) = k := idxW_at (by omega) (fun j hj he => hall j hj (by omega) ⟨hy.1, he⟩) hy.2
      rw [e, if_pos ⟨hy.1, by omega⟩]
    · by_cases hjk : j = k
      · subst hjk; exact hy
      · exact hall j (by omega) hl
  · by_cases h0 : 0 < n
    · rw [idxW_none (u := xs.take n) fun j hj he => hall j (by omega) hj ⟨h0, he⟩, if_neg (by omega)]
    · rw [if_neg (by omega)]
theorem tokW_len (L : List (List Int)) (xs : List Int) : (tokW L xs).length ≤ 2 * mxR xs := by
  have := mxR_pos xs
  unfold tokW
  split
  · simp; omega
  · split
    · rw [List.length_take]; unfold mxR; split <;> omega
    · split <;> simp <;> omega
theorem wApply_any {b v : Value} {L : List (List Int)} {xs : List Int} (hb : Nm .u8 w b xs) (hl : xs.length ≤ 10000000) (hv : NL .u8 w v L) : Calls P n_words_Apply #[b, v] w (NewB w (applyW (L.take 64) xs)) := by
  refine of_words_Apply (fBox (Fr.start w) fun bp w1 f1 => gCall_of (first_any (hv.ev f1.old)) ?_)
  rintro _ w2 ⟨rfl, hw2⟩
  obtain rfl : w1 = w2 := hw2.symm
  have hL0 := hv.first
  obtain ⟨t9, ht9⟩ : ∃ t9, t9 = subV 1 v 0 (min 64 L.length) := ⟨_, rfl⟩
  obtain ⟨M, hM⟩ : ∃ M, M = L.take 64 := ⟨_, rfl⟩
  rw [← hM, ← ht9] at hL0
  rw [← hM, ← ht9]
  have hMl : M.length ≤ 64 := by rw [hM, List.length_take]; omega
  have hb1 : b.cells.toList = [b] := by rw [hb.one]
  rw [hb1] at f1
  have cl : ∀ {u : Value} {zs : List Int}, Nm .u8 w u zs → u.cells = #[u] ∧ u.oneCell' = true := fun hu => by
    obtain ⟨a, c, rfl, _⟩ := hu.shape; exact ⟨rfl, rfl⟩
  refine ⟨_, rfl, fun out w' => ∃ (p : Nat) (b' : Value) (ys : List Int), p ≤ xs.length ∧ Nm .u8 w b' (xs.drop p) ∧ ys ++ applyW M (xs.drop p) = applyW M xs ∧ ys.length ≤ 2 * p ∧ Fr w w' [oIt .u8 eB out ys, sIt bp [b']], fun _ w' => (match w'.cell? bp with | some (.slice _ n _) => n | _ => 0), ⟨0, b, [], Nat.zero_le _, by rw [List.drop_zero]; exact hb, by rw [List.drop_zero]; rfl, Nat.le_refl _, f1.nil0 .u8 eB⟩, ?_⟩
  rintro _ out w4 ⟨p, b', ys, hp, hb', hys, hyl, f4⟩
  have hdl : (xs.drop p).length = xs.length - p := List.length_drop
  have hb4 := hb'.ev f4.old
  have cb4 : w4.cell? bp = some b' := by have := f4.cell 1 0 rfl rfl; rwa [Addr.add_zero'] at this
  refine gLoad_v cb4 (gLen_nm hb4 (gIf_dec (fun hgt => ?_) (fun hle => ?_)))
  · refine gLoad_v cb4 (gCall_of (run_any hb4 (by omega)) ?_)
    rintro _ w5 ⟨rfl, hw5⟩
    obtain rfl : w4 = w5 := hw5.symm
    have hrl := runN_le (xs.drop p)
    have hne : xs.drop p ≠ [] := fun h => by rw [h] at hgt; simp at hgt
    have hst := applyW_step (L := M) hne
    have htl := tokW_len M (xs.drop p)
    have hmp := mxR_pos (xs.drop p)
    obtain ⟨n, hn⟩ : ∃ n, n = runN (xs.drop p) := ⟨_, rfl⟩
    have hmx : mxR (xs.drop p) = if 1 > n then 1 else n := by unfold mxR; rw [hn]
    rw [← hn] at hrl ⊢
    refine ⟨_, rfl, fAlloc (z := .int .i64 0) f4 (by kernel_rfl) fun np w6 f6 => ?_⟩
    have f6 : Fr w w6 [sIt np [.int .i64 0], oIt .u8 eB out ys, sIt bp [b']] := f6
    refine gStore_st0 (f6.get 0 rfl) (by decide) rfl rfl fun w7 hc7 _ hS7 => ?_
    have f7 : Fr w w7 [sIt np [.int .i64 (n : Int)], oIt .u8 eB out ys, sIt bp [b']] := f6.upd (jt := sIt np [.int .i64 (n : Int)]) 0 rfl hc7 (fun k _ hh => .inl hh.1) hS7 fun k hk => .inl hk
    have cn : ∀ {w' : World} {F' : List It}, Fr w w' (sIt np [.int .i64 (n : Int)] :: F') → w'.cell? np = some (.int .i64 (n : Int)) := fun f => by have := f.cell 0 0 rfl rfl; rwa [Addr.add_zero'] at this
    have cb : ∀ {w' : World} {o : It}, Fr w w' [sIt np [.int .i64 (n : Int)], o, sIt bp [b']] → w'.cell? bp = some b' := fun f => by have := f.cell 2 0 rfl rfl; rwa [Addr.add_zero'] at this
    refine gCall_of (Place_any (hL0.ev f7.old) (by omega) (cn f7) (cb f7) (hb'.ev f7.old) (by omega)) ?_
    rintro _ w8 ⟨rfl, hw8⟩
    obtain rfl : w7 = w8 := hw8.symm
    have hr0 : 0 ≤ rd (xs.drop p) 0 ∧ rd (xs.drop p) 0 < 256 := rd_u8 hb'.2 0
    refine ⟨_, rfl, fun out' w' => Fr w w' [sIt np [.int .i64 (n : Int)], oIt .u8 eB out' (ys ++ tokW M (xs.drop p)), sIt bp [b']], ?_, ?_⟩
    · have htok : tokW M (xs.drop p) = if 0 < n ∧ idxW M ((xs.drop p).take n) < M.length then [128 + (idxW M ((xs.drop p).take n) : Int)] else if 0 < n then (xs.drop p).take n else if rd (xs.drop p) 0 ≥ 128 then [255, rd (xs.drop p) 0] else [rd (xs.drop p) 0] := by unfold tokW; rw [← hn]
      rw [htok]
      by_cases hq : 0 < n ∧ idxW M ((xs.drop p).take n) < M.length
      · rw [if_pos hq, if_pos hq]
        obtain ⟨q, hqe⟩ : ∃ q, q = idxW M ((xs.drop p).take n) := ⟨_, rfl⟩
        rw [← hqe] at hq ⊢
        refine gIf_dec (fun _ => ?_) (fun h => by omega)
        rw [i64_id (n := 128 + (q : Int)) (by omega) (by omega), show u8 (128 + (q : Int)) = 128 + (q : Int) by rw [u8_def]; omega]
        refine fLit_n [128 + (q : Int)] f7 rfl rfl (fun y hy => by simp at hy; subst hy; exact u8i (by omega)) fun t w9 f9 => fApp f9 2 rfl (f9.nm 0 rfl) (by simp; omega) fun v' w10 f10 => f10.drop 0
      · rw [if_neg hq, if_neg hq]
        refine gIf_dec (fun h => by omega) (fun _ => gLoad_i (cn f7) (gIf_dec (fun h0 => ?_) (fun h0 => ?_)))
        · rw [if_pos (by omega)]
          refine gLoad_v (cb f7) (gLoad_i (cn f7) (gSlice_nm (hb'.ev f7.old) 0 n (.inl ⟨rfl, rfl⟩) (.inr ⟨_, rfl⟩) (Nat.zero_le _) (by omega) fun hs => ?_))
          rw [List.drop_zero, Nat.sub_zero] at hs
          exact fApp f7 1 rfl hs (by rw [List.length_take]; omega) fun v' w10 f10 => f10
        · rw [if_neg (by omega)]
          refine gLoad_v (cb f7) (gGet (hb'.ev f7.old) (by omega) (by omega) (gIf_dec (fun h128 => ?_) (fun h128 => ?_)))
          · rw [if_pos h128]
            refine gLoad_v (cb f7) (gGet (hb'.ev f7.old) (by omega) (by omega) ?_)
            refine fLit_n [255, rd (xs.drop p) 0] f7 rfl rfl (fun y hy => by simp at hy; rcases hy with rfl | rfl <;> exact u8i (by omega)) fun t w9 f9 => fApp f9 2 rfl (f9.nm 0 rfl) (by simp; omega) fun v' w10 f10 => f10.drop 0
          · rw [if_neg h128]
            refine gLoad_v (cb f7) (gGet (hb'.ev f7.old) (by omega) (by omega) ?_)
            refine fLit_n [rd (xs.drop p) 0] f7 rfl rfl (fun y hy => by simp at hy; subst hy; exact u8i (by omega)) fun t w9 f9 => fApp f9 2 rfl (f9.nm 0 rfl) (by simp; omega) fun v' w10 f10 => f10.drop 0
    · rintro _ out' w11 f11
      have hmi : (if 1 > ((n : Nat) : Int) then (1 : Int) else ((n : Nat) : Int)) = ((mxR (xs.drop p) : Nat) : Int) := by rw [hmx]; split <;> split <;> omega
      obtain ⟨m, hm⟩ : ∃ m, m = mxR (xs.drop p) := ⟨_, rfl⟩
      rw [← hm] at hst htl hmp hmi
      have hm1 : m ≤ xs.length - p := by rw [hm, hmx]; split <;> omega
      refine gLoad_v (cb f11) (gLoad_i (cn f11) ?_)
      rw [hmi]
      refine gSlice_nm (hb'.ev f11.old) m (xs.drop p).length (.inr ⟨_, rfl⟩) (.inl ⟨rfl, rfl⟩) (by omega) (Nat.le_refl _) fun hs => ?_
      have hsub := hb'.sub m (xs.drop p).length (by omega) (Nat.le_refl _)
      rw [List.take_of_length_le (by rw [List.length_drop]; omega), List.drop_drop] at hsub
      obtain ⟨c1, c2⟩ := cl hsub
      refine gStore_st0 (f11.get 2 rfl) (Nat.zero_lt_succ _) c2 c1 fun w12 hc12 _ hS12 => ?_
      have f12 : Fr w w12 [sIt np [.int .i64 (n : Int)], oIt .u8 eB out' (ys ++ tokW M (xs.drop p)), sIt bp [_]] := f11.upd (jt := sIt bp [_]) 2 rfl hc12 (fun k _ hh => .inl hh.1) hS12 fun k hk => .inl hk
      have cbn := f12.cell 2 0 rfl rfl
      rw [Addr.add_zero'] at cbn
      refine ⟨⟨p + m, _, _, by omega, hsub, ?_, by rw [List.length_append]; omega, f12.drop 0⟩, ?_⟩
      · rw [List.append_assoc, ← List.drop_drop, ← hst]; exact hys
      · dsimp only
        rw [cbn, cb4]
        obtain ⟨a1, d1, e1, _⟩ := hb'.shape
        obtain ⟨a2, d2, e2, _⟩ := hsub.shape
        rw [e2, e1]
        dsimp only
        rw [List.length_drop, List.length_drop]; omega
  · have hnil : xs.drop p = [] := List.eq_nil_of_length_eq_zero (by omega)
    rw [hnil, applyW_nil, List.append_nil] at hys
    subst hys
    exact ⟨out, rfl, f4.old, f4.on 0 rfl⟩
theorem unS_step {M : List (List Int)} {lim : Int} {xs ys : List Int} {k : Nat} (hk : k < xs.length) : unS M lim (xs.drop k) ys =
    if rd xs (k : Int) < 128 then (if ((ys ++ [rd xs (k : Int)]).length : Int) > lim then ([], 5) else unS M lim (xs.drop (k + 1)) (ys ++ [rd xs (k : Int)]))
    else if rd xs (k : Int) = 255 then (if k + 1 = xs.length then ([], 3) else if rd xs ((k + 1 : Nat) : Int) < 128 then ([], 4) else if ((ys ++ [rd xs ((k + 1 : Nat) : Int)]).length : Int) > lim then ([], 5) else unS M lim (xs.drop (k + 2)) (ys ++ [rd xs ((k + 1 : Nat) : Int)]))
    else if rd xs (k : Int) - 128 < M.length then (if ((ys ++ M.getD (rd xs (k : Int) - 128).toNat []).length : Int) > lim then ([], 5) else unS M lim (xs.drop (k + 1)) (ys ++ M.getD (rd xs (k : Int) - 128).toNat [])) else ([], 4) := by
  rw [List.drop_eq_getElem_cons hk, rd_nat xs k hk]
  by_cases h1 : k + 1 < xs.length
  · rw [List.drop_eq_getElem_cons h1, rd_nat xs (k + 1) h1, unS, if_neg (show ¬ (k + 1 = xs.length) by omega)]
  · rw [List.drop_of_length_le (show xs.length ≤ k + 1 by omega), unS, if_pos (show k + 1 = xs.length by omega)]
    simp only [unS]
theorem unS_nil (M : List (List Int)) (lim : Int) (ys : List Int) : unS M lim [] ys = (ys, 0) := by rw [unS]
theorem wUndo_any {x v : Value} {L : List (List Int)} {xs : List Int} {limit : Int} (hx : Nm .u8 w x xs) (hl : xs.length ≤ 10000000) (hv : NL .u8 w v L) (hL : ∀ u ∈ L, u.length ≤ 100000) : Calls P n_words_Undo #[x, .int .i64 limit, v] w (TupE w (undoW L xs limit)) := by
  refine of_words_Undo (gCall_of (first_any hv) ?_)
  rintro _ w1 ⟨rfl, hw1⟩
  obtain rfl : w = w1 := hw1.symm
  have hL0 := hv.first
  obtain ⟨t9, ht9⟩ : ∃ t9, t9 = subV 1 v 0 (min 64 L.length) := ⟨_, rfl⟩
  unfold undoW
  obtain ⟨M, hM⟩ : ∃ M, M = L.take 64 := ⟨_, rfl⟩
  rw [← hM, ← ht9] at hL0
  rw [← hM, ← ht9]
  have hMl : M.length ≤ 64 := by rw [hM, List.length_take]; omega
  have hMu : ∀ u ∈ M, u.length ≤ 100000 := fun u hu => hL u (by rw [hM] at hu; exact List.mem_of_mem_take hu)
  obtain ⟨lim, hlim⟩ : ∃ lim, lim = if 0 > limit then 0 else limit := ⟨_, rfl⟩
  rw [← hlim]
  obtain ⟨RES, hRES⟩ : ∃ RES, RES = unS M lim xs [] := ⟨_, rfl⟩
  rw [← hRES]
  refine ⟨_, rfl, fun out i w' => ∃ (k : Nat) (ys : List Int), i = (k : Int) ∧ k ≤ xs.length ∧ RES = unS M lim (xs.drop k) ys ∧ ys.length ≤ k * 100000 ∧ Fr w w' [oIt .u8 eB out ys], fun _ i _ => (xs.length - i).toNat, ⟨0, [], rfl, Nat.zero_le _, hRES, Nat.zero_le _, (Fr.start w).nil0 .u8 eB⟩, ?_⟩
  rintro _ out i w2 ⟨k, ys, rfl, hk, hr, hyl, f2⟩
  have hx2 := hx.ev f2.old
  have nil : ∀ {w' : World} {e : Int}, Ev w w' → RES = ([], e) → TupE w RES (.returned (.tuple #[.slice none 0 0, .int .i64 e])) w' := fun h he => by
    rw [he]; exact ⟨_, rfl, h, ON.nil _ _ _ _⟩
  refine gLen_nm hx2 (gIf_dec (fun hlt => ?_) (fun hge => ?_))
  · have hkl : k < xs.length := by omega
    have hst := unS_step (M := M) (lim := lim) (ys := ys) hkl
    rw [← hr] at hst
    have hc := rd_u8 hx.2 (k : Int)
    have hkm : k * 100000 + 100000 ≤ 10000000 * 100000 := by have := Nat.mul_le_mul_right 100000 (show k + 1 ≤ 10000000 by omega); rwa [Nat.succ_mul] at this
    refine gGet hx2 (by omega) (by omega) ?_
    rw [i64_id (n := rd xs (k : Int)) (by omega) (by omega)]
    refine gIf_dec (fun h128 => ?_) (fun h128 => ?_)
    · rw [if_pos h128] at hst
      refine gGet hx2 (by omega) (by omega) (fAppB rfl f2 hc (by omega) fun v' w3 f3 => gLen_nm (f3.nm 0 rfl) (gIf_dec (fun hg => ?_) (fun hg => ?_)))
      · rw [if_pos hg] at hst; exact nil f3.old hst
      · rw [if_neg hg] at hst
        exact ⟨⟨k + 1, _, by rw [i64_id (by omega) (by omega)]; omega, by omega, hst, by rw [List.length_append, Nat.succ_mul, List.length_singleton]; omega, f3⟩, by dsimp only; rw [i64_id (by omega) (by omega)]; omega⟩
    · rw [if_neg h128] at hst
      refine gIf_eq (fun h255 => gLen_nm hx2 ?_) (fun h255 => ?_)
      · rw [if_pos h255] at hst
        rw [i64_id (n := (k : Int) + 1) (by omega) (by omega)]
        refine gIf_eq (fun he => ?_) (fun hne => ?_)
        · rw [if_pos (by omega)] at hst; exact nil f2.old hst
        · rw [if_neg (by omega)] at hst
          have hd := rd_u8 hx.2 ((k + 1 : Nat) : Int)
          rw [show (k : Int) + 1 = ((k + 1 : Nat) : Int) by omega]
          refine gGet hx2 (by omega) (by omega) (gIf_dec (fun hd1 => ?_) (fun hd1 => ?_))
          · rw [if_pos hd1] at hst; exact nil f2.old hst
          · rw [if_neg hd1] at hst
            refine gGet hx2 (by omega) (by omega) (fAppB rfl f2 hd (by omega) fun v' w3 f3 => gLen_nm (f3.nm 0 rfl) (gIf_dec (fun hg => ?_) (fun hg => ?_)))
            · rw [if_pos hg] at hst; exact nil f3.old hst
            · rw [if_neg hg] at hst
              refine ⟨⟨k + 2, _, by rw [i64_id (by omega) (by omega)]; omega, by omega, hst, ?_, f3⟩, by dsimp only; rw [i64_id (by omega) (by omega)]; omega⟩
              rw [List.length_append, show (k + 2) * 100000 = k * 100000 + 200000 by omega, List.length_singleton]; omega
      · rw [if_neg h255] at hst
        have hN2 := hL0.ev f2.old
        have hS2 : ∃ us, Sl w2 1 t9 M.length us := let ⟨us, h1, _⟩ := hN2; ⟨us, h1⟩
        obtain ⟨us, hS⟩ := hS2
        rw [i64_id (n := rd xs (k : Int) - 128) (by omega) (by omega)]
        refine gLen_slv hS (gIf_dec (fun hq => ?_) (fun hq => ?_))
        · rw [if_pos hq] at hst
          obtain ⟨q, hqe⟩ : ∃ q : Nat, rd xs (k : Int) - 128 = (q : Int) := ⟨(rd xs (k : Int) - 128).toNat, by omega⟩
          rw [hqe] at hst hq ⊢
          have hqM : q < M.length := by omega
          rw [Int.toNat_natCast, List.getD_eq_getElem?_getD, List.getElem?_eq_getElem hqM, Option.getD_some] at hst
          have hul := hMu M[q] (List.getElem_mem hqM)
          refine hN2.at hqM fun u hu => fApp f2 0 rfl hu (by omega) fun v' w3 f3 => gLen_nm (f3.nm 0 rfl) (gIf_dec (fun hg => ?_) (fun hg => ?_))
          · rw [if_pos hg] at hst; exact nil f3.old hst
          · rw [if_neg hg] at hst
            exact ⟨⟨k + 1, _, by rw [i64_id (by omega) (by omega)]; omega, by omega, hst, by rw [List.length_append, Nat.succ_mul]; omega, f3⟩, by dsimp only; rw [i64_id (by omega) (by omega)]; omega⟩
        · rw [if_neg hq] at hst; exact nil f2.old hst
  · obtain rfl : k = xs.length := by omega
    rw [List.drop_length, unS_nil] at hr
    rw [hr]
    exact ⟨out, rfl, f2.old, f2.on 0 rfl⟩
end
end Go.Proofs.YtilpoinhfiajcaaGreatDoorV

/- Package slices: IndexFunc, ContainsFunc, Index, Contains of bytes; valisehelp: In. -/
namespace Go.Proofs.YtilpoinhfiajcaaGreatDoorV
open Go Go.RowKit
section
variable {b : Value} {xs : List Int} {w : World}
/-- The first place of such a one; none: -1. -/
def idxP (p : Int → Bool) : Nat → List Int → Int
  | _, [] => -1
  | j, c :: r => if p c = true then (j : Int) else idxP p (j + 1) r
theorem idxP_ge {p : Int → Bool} : ∀ {l : List Int} {j : Nat}, (idxP p j l ≥ 0) ↔ l.any p = true
  | [], j => by simp [idxP]
  | c :: r, j => by
    rw [idxP, List.any_cons]
    by_cases h : p c = true
    · rw [if_pos h, h]; simp
    · rw [if_neg h, idxP_ge, Bool.eq_false_iff.2 h]; simp
theorem IndexFunc_any {f : FuncId} {pf : Int → Bool} (hok : callOk P f = true) (hf : ∀ {c : Int} {w : World}, Calls P f #[.int .u8 c] w (fun e w' => e = .returned (.bool (pf c)) ∧ w' = w)) (hb : Nm .u8 w b xs) (hl : xs.length ≤ 1000000000) :
    Calls P n_slices_IndexFunc_byte_byte' #[b, .func (.func f) #[] #[]] w (fun e w' => e = .returned (.int .i64 (idxP pf 0 xs)) ∧ w' = w) := by
  refine of_slices_IndexFunc_byte_byte' (gLen_nm hb ⟨fun i w' => ∃ j : Nat, i = j ∧ j ≤ xs.length ∧ idxP pf 0 xs = idxP pf j (xs.drop j) ∧ w = w', fun i _ => xs.length - i.toNat, ⟨0, rfl, by omega, rfl, rfl⟩, ?_⟩)
  rintro _ i _ ⟨j, rfl, hj, hi, rfl⟩
  refine gIf_dec (fun hlt => ?_) (fun hge => ?_)
  · have hlt' : j < xs.length := by omega
    rw [List.drop_eq_getElem_cons hlt', idxP, ← rd_nat xs j hlt'] at hi
    refine gIdx_nm hb (by omega) hlt fun a1 c1 _ => gLoad_i c1 (gCallV_of rfl hok hf ?_)
    rintro _ _ ⟨rfl, rfl⟩
    refine ⟨_, rfl, gIf_b (fun h => ?_) (fun h => ?_)⟩
    · exact ⟨by rw [hi, if_pos h], rfl⟩
    · rw [if_neg (by rw [h]; simp)] at hi
      rw [i64_id (n := (j : Int) + 1) (by omega) (by omega)]
      exact ⟨⟨j + 1, rfl, by omega, hi, rfl⟩, by dsimp only; omega⟩
  · exact ⟨by rw [hi, List.drop_of_length_le (by omega)]; rfl, rfl⟩
theorem ContainsFunc_any {f : FuncId} {pf : Int → Bool} (hok : callOk P f = true) (hf : ∀ {c : Int} {w : World}, Calls P f #[.int .u8 c] w (fun e w' => e = .returned (.bool (pf c)) ∧ w' = w)) (hb : Nm .u8 w b xs) (hl : xs.length ≤ 1000000000) :
    Calls P n_slices_ContainsFunc_byte_byte #[b, .func (.func f) #[] #[]] w (fun e w' => e = .returned (.bool (xs.any pf)) ∧ w' = w) := by
  have e : decide (idxP pf 0 xs ≥ 0) = xs.any pf := by
    cases h : xs.any pf
    · exact decide_eq_false fun hh => by rw [idxP_ge, h] at hh; cases hh
    · exact decide_eq_true (idxP_ge.2 h)
  exact of_slices_ContainsFunc_byte_byte (gCall_i0 (IndexFunc_any hok hf hb hl) ⟨by rw [e], rfl⟩)
theorem Index_any {v : Int} (hb : Nm .u8 w b xs) (hl : xs.length ≤ 1000000000) : Calls P n_slices_Index_byte_byte #[b, .int .u8 v] w (fun e w' => e = .returned (.int .i64 (idxP (fun c => v == c) 0 xs)) ∧ w' = w) := by
  refine of_slices_Index_byte_byte (gLen_nm hb ⟨fun i w' => ∃ j : Nat, i = j ∧ j ≤ xs.length ∧ idxP (fun c => v == c) 0 xs = idxP (fun c => v == c) j (xs.drop j) ∧ w = w', fun i _ => xs.length - i.toNat, ⟨0, rfl, by omega, rfl, rfl⟩, ?_⟩)
  rintro _ i _ ⟨j, rfl, hj, hi, rfl⟩
  refine gIf_dec (fun hlt => ?_) (fun hge => ?_)
  · have hlt' : j < xs.length := by omega
    rw [List.drop_eq_getElem_cons hlt', idxP, ← rd_nat xs j hlt'] at hi
    refine gIdx_nm hb (by omega) hlt fun a1 c1 _ => gLoad_i c1 (gIf_b (fun h => ?_) (fun h => ?_))
    · exact ⟨by rw [hi, if_pos h], rfl⟩
    · rw [if_neg (by rw [h]; simp)] at hi
      rw [i64_id (n := (j : Int) + 1) (by omega) (by omega)]
      exact ⟨⟨j + 1, rfl, by omega, hi, rfl⟩, by dsimp only; omega⟩
  · exact ⟨by rw [hi, List.drop_of_length_le (by omega)]; rfl, rfl⟩
theorem Contains_any {v : Int} (hb : Nm .u8 w b xs) (hl : xs.length ≤ 1000000000) : Calls P n_slices_Contains_byte_byte #[b, .int .u8 v] w (fun e w' => e = .returned (.bool (xs.any fun c => v == c)) ∧ w' = w) := by
  refine of_slices_Contains_byte_byte (gCall_i0 (Index_any hb hl) ⟨?_, rfl⟩)
  congr 2
  cases h : xs.any fun c => v == c
  · exact decide_eq_false fun hh => by rw [idxP_ge, h] at hh; cases hh
  · exact decide_eq_true (idxP_ge.2 h)
end
end Go.Proofs.YtilpoinhfiajcaaGreatDoorV

/- Package text: the writer, Caps, Uncaps; the same of valiseref22. -/
namespace Go.Proofs.YtilpoinhfiajcaaGreatDoorV
open Go Go.RowKit
def capB (c : Int) : Bool := decide (65 ≤ c ∧ c ≤ 90)
def capE (c : Int) : List Int := if capB c = true then [2, c + 32] else if c = 2 ∨ c = 3 then [3, c] else [c]
def capL (xs : List Int) : List Int := xs.flatMap capE
def capsT (xs : List Int) : List Int × Bool := if xs.any capB = true ∧ xs.length ≤ 1048576 then (capL xs, true) else ([], false)
/-- So many bytes may be. -/
def limT (most : Int) : Int := if 0 > most then 0 else if 1048576 < most then 1048576 else most
/-- The bytes with capitals, put behind what is there. -/
def uncL (lim : Int) : Nat → List Int → List Int → List Int × Int
  | 0, _, out => (out, 0)
  | _ + 1, [], out => (out, 0)
  | f + 1, c :: r, out =>
    if c = 2 ∨ c = 3 then
      (match r with
       | [] => ([], 3)
       | d :: r' =>
         if c = 2 ∧ 97 ≤ d ∧ d ≤ 122 then (if ((out ++ [d - 32]).length : Int) > lim then ([], 5) else uncL lim f r' (out ++ [d - 32]))
         else if c = 3 ∧ (d = 2 ∨ d = 3) then (if ((out ++ [d]).length : Int) > lim then ([], 5) else uncL lim f r' (out ++ [d]))
         else ([], 4))
    else if ((out ++ [c]).length : Int) > lim then ([], 5) else uncL lim f r (out ++ [c])
theorem capE_u8 {c : Int} (h : 0 ≤ c ∧ c < 256) : inR .u8 (capE c) := fun x hx => by
  unfold capE capB at hx
  split at hx
  · rename_i hc
    have hc := of_decide_eq_true hc
    simp at hx; exact u8i (by omega)
  · split at hx <;> (simp at hx; exact u8i (by omega))
theorem capE_len (c : Int) : (capE c).length ≤ 2 ∧ 1 ≤ (capE c).length := by unfold capE; split; simp; split <;> simp
theorem capL_len : ∀ (xs : List Int), (capL xs).length ≤ 2 * xs.length
  | [] => by simp [capL]
  | c :: r => by
    have := capL_len r
    have h2 := capE_len c
    unfold capL at this ⊢
    simp only [List.flatMap_cons, List.length_append, List.length_cons]; omega
theorem capL_snoc (xs : List Int) (i : Nat) (h : i < xs.length) : capL (xs.take (i + 1)) = capL (xs.take i) ++ capE (rd xs i) := by
  unfold capL
  rw [List.take_succ_eq_append_getElem h, rd_nat xs i h, List.flatMap_append, List.flatMap_cons, List.flatMap_nil, List.append_nil]
section
variable {b : Value} {xs : List Int} {w : World}
theorem capital_any {c : Int} {w : World} : Calls P n_text_capital #[.int .u8 c] w (fun e w' => e = .returned (.bool (capB c)) ∧ w' = w) := by
  refine of_text_capital (gIf_dec (fun h => ⟨?_, rfl⟩) (fun h => ⟨?_, rfl⟩))
  · unfold capB; congr 2; exact decide_eq_decide.2 ⟨fun h2 => ⟨h, h2⟩, fun h2 => h2.2⟩
  · unfold capB; rw [decide_eq_false (fun h2 => h h2.1)]
theorem tput_any {ad : Addr} {v l : Value} {ys : List Int} (h : Wr eB w ad v xs) (hl : Nm .u8 w l ys) (hb : (xs.length + ys.length) * 8 ≤ 140737488355328) : Calls P n_text_writer_put #[.pointer (some ad), l] w (fun e w' => e = .returned (.tuple #[]) ∧ ∃ v', WrS eB w w' ad v v' (xs ++ ys)) :=
  of_text_writer_put (gNil_some (gLoad_v (h.1.cell (j := 0) rfl) (wrApp h hl hb fun v' w' hw => ⟨rfl, v', hw⟩)))
theorem over_eq (most : Int) : (if (if 1048576 < most then 1048576 else most) > 0 then (if 1048576 < most then 1048576 else most) else 0) = limT most := by unfold limT; split <;> split <;> split <;> omega
theorem over_any {ad : Addr} {v : Value} {most : Int} (h : Wr eB w ad v xs) : Calls P n_text_writer_over #[.pointer (some ad), .int .i64 most] w (fun e w' => e = .returned (.bool (decide ((xs.length : Int) > limT most))) ∧ w' = w) := by
  refine of_text_writer_over (gNil_some (gLoad_v (h.1.cell (j := 0) rfl) (gLen_nm h.2.1.nm ⟨?_, rfl⟩)))
  rw [over_eq]
/-- Bytes of a literal, put. -/
theorem fPutLit {w0 : World} {F : List It} {ad : Addr} {v : Value} {K : World → Prop} {parts : Array (Nat × Value)} {n : Nat} (ys : List Int) (hp : parts.toList = enumV 0 (ys.map (.int .u8))) (hn : ys.length = n) (hy : inR .u8 ys) (h : Fr w0 w (wIt eB ad v xs :: F)) (hb : xs.length ≤ 1000000000) (hn2 : n ≤ 100) (hk : ∀ v' w', Fr w0 w' (wIt eB ad v' (xs ++ ys) :: F) → K w') :
    gLit P t_sl_uint8 n parts w fun l w1 => gCall P n_text_writer_put shU #[.pointer (some ad), l] w1 K :=
  fLit_n ys h hp hn hy (fun l w1 f1 => gCall_u (tput_any (f1.get 1 rfl) (f1.nm 0 rfl) (by omega)) fun w2 ⟨v', hw⟩ => hk v' w2 ((f1.wr 1 rfl hw).drop 0)) (by omega)
theorem Caps_any (hb : Nm .u8 w b xs) (hl : xs.length ≤ 100000000) : Calls P n_text_Caps #[b] w (TupB w (capsT xs)) := by
  have hno : ¬ (xs.any capB = true ∧ xs.length ≤ 1048576) → capsT xs = ([], false) := fun h => by unfold capsT; rw [if_neg h]
  refine of_text_Caps ⟨fun w' => (xs.any capB = true ∧ xs.length ≤ 1048576) ∧ w = w', gCall_b0 (ContainsFunc_any (by kernel_rfl) capital_any hb (by omega)) (gIf_b (fun h => ?_) (fun h => ?_)), ?_⟩
  · have h : xs.any capB = true := by simpa using h
    refine gLen_nm hb (gIf_dec (fun hg => ?_) (fun hg => ⟨⟨h, by omega⟩, rfl⟩))
    rw [hno (by omega)]; exact ⟨_, rfl, Ch.refl _ w, ON.nil _ _ _ _⟩
  · have h : xs.any capB = false := by simpa using h
    rw [hno (by rw [h]; simp)]; exact ⟨_, rfl, Ch.refl _ w, ON.nil _ _ _ _⟩
  rintro _ _ ⟨hok, rfl⟩
  refine fAlloc (z := .agg #[.slice none 0 0]) (Fr.start w) (by kernel_rfl) fun ad w1 f1 => ?_
  have f1 := f1.asW (e := eB) 0 rfl
  rw [Addr.add_zero' ad]
  refine gLen_nm hb ⟨fun i w' => ∃ (j : Nat) (v : Value), i = j ∧ j ≤ xs.length ∧ Fr w w' [wIt eB ad v (capL (xs.take j))], fun i _ => xs.length - i.toNat, ⟨0, _, rfl, by omega, f1⟩, ?_⟩
  rintro _ i w2 ⟨j, v, rfl, hj, f2⟩
  have hcl := capL_len (xs.take j)
  rw [List.length_take, Nat.min_eq_left hj] at hcl
  refine gIf_dec (fun hlt => ?_) (fun hge => ?_)
  · have hlt' : j < xs.length := by omega
    have hc := rd_u8 hb.2 j
    have hs := capL_snoc xs j hlt'
    have hsu := capE_u8 hc
    rw [i64_id (n := (j : Int) + 1) (by omega) (by omega)]
    refine gIdx_nm (hb.ev f2.old) (by omega) hlt fun a1 c1 _ => gLoad_i c1 (gCall_b0 capital_any (gIf_b (fun hcap => ?_) (fun hcap => ?_)))
    · have he : capE (rd xs j) = [2, u8 (rd xs j + 32)] := by
        have := of_decide_eq_true hcap
        unfold capE; rw [if_pos hcap, u8_id (by omega) (by omega)]
      rw [he] at hs hsu
      refine fPutLit [2, u8 (rd xs j + 32)] rfl rfl hsu f2 (by omega) (by decide) fun v' w3 f3 => ?_
      rw [← hs] at f3
      exact ⟨⟨j + 1, v', rfl, by omega, f3⟩, by dsimp only; omega⟩
    · have fin2 : (rd xs j = 2 ∨ rd xs j = 3) → gLit P t_sl_uint8 2 #[(0, .int .u8 3), (1, .int .u8 (rd xs j))] w2 fun (t42 : Value) ww8 => gCall P n_text_writer_put shU #[.pointer (some ad), t42] ww8 fun ww9 => (∃ (j' : Nat) (v : Value), ((j : Int) + 1) = j' ∧ j' ≤ xs.length ∧ Fr w ww9 [wIt eB ad v (capL (xs.take j'))]) ∧ xs.length - ((j : Int) + 1).toNat < xs.length - (j : Int).toNat := fun h23 => by
        have he : capE (rd xs j) = [3, rd xs j] := by unfold capE; rw [if_neg (by rw [hcap]; simp), if_pos h23]
        rw [he] at hs hsu
        refine fPutLit [3, rd xs j] rfl rfl hsu f2 (by omega) (by decide) fun v' w3 f3 => ?_
        rw [← hs] at f3
        exact ⟨⟨j + 1, v', rfl, by omega, f3⟩, by omega⟩
      refine gIf_neqq (fun n2 => gIf_eq (fun e3 => fin2 (.inr e3)) (fun n3 => ?_)) (fun e2 => fin2 (.inl e2))
      have he : capE (rd xs j) = [rd xs j] := by unfold capE; rw [if_neg (by rw [hcap]; simp), if_neg (by omega)]
      rw [he] at hs hsu
      refine fPutLit [rd xs j] rfl rfl hsu f2 (by omega) (by decide) fun v' w3 f3 => ?_
      rw [← hs] at f3
      exact ⟨⟨j + 1, v', rfl, by omega, f3⟩, by dsimp only; omega⟩
  · obtain rfl : j = xs.length := by omega
    have hW : Wr eB w2 ad v (capL (xs.take xs.length)) := f2.get 0 rfl
    refine gLoad_v (hW.1.cell (j := 0) rfl) ?_
    have hc : capsT xs = (capL (xs.take xs.length), true) := by unfold capsT; rw [if_pos hok, List.take_length]
    rw [hc]
    refine ⟨v, rfl, f2.old, ?_⟩
    exact on_new hW.2.1 fun g hg => (f2.ft 0 rfl (k := g) (.inr hg)).1
end
end Go.Proofs.YtilpoinhfiajcaaGreatDoorV

/- Package text: Uncaps; the same of valiseref22; Caps of valiseref22; the law TextCaps. -/
namespace Go.Proofs.YtilpoinhfiajcaaGreatDoorV
open Go Go.RowKit
def uncT (xs : List Int) (most : Int) : List Int × Int := uncL (limT most) (xs.length + 1) xs []
/-- What comes behind a byte that was put. -/
def uncN (lim : Int) (f : Nat) (r out : List Int) : List Int × Int := if (out.length : Int) > lim then ([], 5) else uncL lim f r out
section
variable {b : Value} {xs : List Int} {w : World}
theorem uncL_one {lim : Int} {f : Nat} {c : Int} {r out : List Int} (h : ¬ (c = 2 ∨ c = 3)) : uncL lim (f + 1) (c :: r) out = uncN lim f r (out ++ [c]) := by cases r <;> (rw [uncL, if_neg h]; rfl)
theorem uncL_end {lim : Int} {f : Nat} {c : Int} {out : List Int} (h : c = 2 ∨ c = 3) : uncL lim (f + 1) [c] out = ([], 3) := by rw [uncL, if_pos h]
theorem uncL_cap {lim : Int} {f : Nat} {c d : Int} {r out : List Int} (h : c = 2 ∧ 97 ≤ d ∧ d ≤ 122) : uncL lim (f + 1) (c :: d :: r) out = uncN lim f r (out ++ [d - 32]) := by rw [uncL, if_pos (.inl h.1), if_pos h]; rfl
theorem uncL_esc {lim : Int} {f : Nat} {c d : Int} {r out : List Int} (h : c = 3 ∧ (d = 2 ∨ d = 3)) : uncL lim (f + 1) (c :: d :: r) out = uncN lim f r (out ++ [d]) := by rw [uncL, if_pos (.inr h.1), if_neg (by omega), if_pos h]; rfl
theorem uncL_bad {lim : Int} {f : Nat} {c d : Int} {r out : List Int} (h : c = 2 ∨ c = 3) (h1 : ¬ (c = 2 ∧ 97 ≤ d ∧ d ≤ 122)) (h2 : ¬ (c = 3 ∧ (d = 2 ∨ d = 3))) : uncL lim (f + 1) (c :: d :: r) out = ([], 4) := by rw [uncL, if_pos h, if_neg h1, if_neg h2]
theorem capB_sub {d : Int} (h : 0 ≤ d ∧ d < 256) : (capB (u8 (d - 32)) = true ∧ 97 ≤ d) ↔ (97 ≤ d ∧ d ≤ 122) := by
  unfold capB
  rw [decide_eq_true_iff, u8_def]; omega
theorem Uncaps_any {most : Int} (hb : Nm .u8 w b xs) (hl : xs.length ≤ 100000000) : Calls P n_text_Uncaps #[b, .int .i64 most] w (TupE w (uncT xs most)) := by
  refine of_text_Uncaps (fAlloc (z := .agg #[.slice none 0 0]) (Fr.start w) (by kernel_rfl) fun ad w1 f1 => ?_)
  have f1 := f1.asW (e := eB) 0 rfl
  rw [Addr.add_zero' ad]
  obtain ⟨res, hres⟩ : ∃ r, r = uncT xs most := ⟨_, rfl⟩
  have bad : ∀ {w' : World} {n : Int}, Ev w w' → res = ([], n) → TupE w (uncT xs most) (.returned (.tuple #[.slice none 0 0, .int .i64 n])) w' := fun he hn => by rw [← hres, hn]; exact ⟨_, rfl, he, ON.nil _ _ _ _⟩
  refine ⟨fun i w' => ∃ (j f : Nat) (v : Value) (out : List Int), i = j ∧ j ≤ xs.length ∧ xs.length < f + j ∧ res = uncL (limT most) f (xs.drop j) out ∧ out.length ≤ j ∧ Fr w w' [wIt eB ad v out], fun i _ => xs.length - i.toNat, ⟨0, xs.length + 1, _, [], rfl, by omega, by omega, hres, by simp, f1⟩, ?_⟩
  rintro _ i w2 ⟨j, f, v, out, rfl, hj, hf, hr, hol, f2⟩
  obtain ⟨f, rfl⟩ : ∃ g, f = g + 1 := ⟨f - 1, by omega⟩
  have hbw := hb.ev f2.old
  refine gLen_nm hb (gIf_dec (fun hlt => ?_) (fun hge => ?_))
  · have hlt' : j < xs.length := by omega
    have hc := rd_u8 hb.2 j
    rw [drop_rd hlt'] at hr
    refine ⟨fun i w' => ∃ (q f : Nat) (v : Value) (out : List Int), i = q ∧ j ≤ q ∧ q < xs.length ∧ xs.length < f + (q + 1) ∧ res = uncL (limT most) f (xs.drop (q + 1)) out ∧ out.length ≤ q + 1 ∧ Fr w w' [wIt eB ad v out], gIdx_nm hbw (by omega) hlt fun a1 c1 _ => gLoad_i c1 ⟨fun i w' => ∃ (q f : Nat) (v : Value) (out : List Int), i = q ∧ j ≤ q ∧ q < xs.length ∧ xs.length < f + (q + 1) ∧ res = uncN (limT most) f (xs.drop (q + 1)) out ∧ out.length ≤ q + 1 ∧ Fr w w' [wIt eB ad v out], ⟨fun t w' => (t = true ↔ ¬ (rd xs j = 2 ∨ rd xs j = 3)) ∧ w2 = w', gIf_neq (fun n2 => ⟨by simp; omega, rfl⟩) (fun e2 => ⟨by simp; omega, rfl⟩), ?_⟩, ?_⟩, ?_⟩
    · rintro _ t _ ⟨ht, rfl⟩
      refine gIf_b (fun h => ?_) (fun h => ?_)
      · have hn := ht.1 h
        rw [uncL_one hn] at hr
        exact fPutLit [rd xs j] rfl rfl (fun x hx => by simp at hx; subst hx; exact u8i hc) f2 (by omega) (by decide) fun v' w3 f3 => ⟨j, f, v', _, rfl, by omega, hlt', by omega, hr, by simp; omega, f3⟩
      · have h23 : rd xs j = 2 ∨ rd xs j = 3 := by
          rcases Classical.em (rd xs j = 2 ∨ rd xs j = 3) with h1 | h1
          · exact h1
          · rw [ht.2 h1] at h; cases h
        rw [show i64 ((j : Int) + 1) = ((j + 1 : Nat) : Int) by rw [i64_id (by omega) (by omega)]; omega]
        refine gLen_nm hb (gIf_eq (fun e => ?_) (fun ne => ?_))
        · rw [List.drop_of_length_le (by omega), uncL_end h23] at hr
          exact bad f2.old hr
        · have hlt2 : j + 1 < xs.length := by omega
          have hd := rd_u8 hb.2 ((j + 1 : Nat) : Int)
          have hcs := capB_sub hd
          rw [drop_rd hlt2] at hr
          refine gIdx_nm hbw (by omega) (by omega) fun a2 c2 _ => gLoad_i c2 ⟨fun t w' => (t = true ↔ (rd xs j = 2 ∧ 97 ≤ rd xs ((j + 1 : Nat) : Int) ∧ rd xs ((j + 1 : Nat) : Int) ≤ 122)) ∧ w2 = w', gIf_eq (fun e2 => gCall_b0 capital_any (gIf_b (fun h1 => ⟨?_, rfl⟩) (fun h1 => ⟨?_, rfl⟩))) (fun n2 => ⟨by simp [n2], rfl⟩), ?_⟩
          · rw [h1] at hcs
            rw [decide_eq_true_iff]
            constructor
            · intro h2; exact ⟨e2, hcs.1 ⟨rfl, h2⟩⟩
            · intro h2; exact h2.2.1
          · rw [h1] at hcs
            constructor
            · intro h2; cases h2
            · intro h2; have := hcs.2 h2.2; exact absurd this.1 (by simp)
          rintro _ t2 _ ⟨ht2, rfl⟩
          refine gIf_b (fun h2 => ?_) (fun h2 => ?_)
          · have hcap := ht2.1 h2
            rw [uncL_cap hcap] at hr
            rw [u8_id (n := rd xs ((j + 1 : Nat) : Int) - 32) (by omega) (by omega)]
            exact fPutLit [rd xs ((j + 1 : Nat) : Int) - 32] rfl rfl (fun x hx => by rw [List.mem_singleton.1 hx]; exact u8i (by omega)) f2 (by omega) (by decide) fun v' w3 f3 => ⟨j + 1, f, v', _, rfl, by omega, hlt2, by omega, hr, by simp; omega, f3⟩
          · have hncap : ¬ (rd xs j = 2 ∧ 97 ≤ rd xs ((j + 1 : Nat) : Int) ∧ rd xs ((j + 1 : Nat) : Int) ≤ 122) := fun h3 => by rw [ht2.2 h3] at h2; cases h2
            have put : (rd xs j = 3 ∧ (rd xs ((j + 1 : Nat) : Int) = 2 ∨ rd xs ((j + 1 : Nat) : Int) = 3)) → gLit P t_sl_uint8 1 #[(0, .int .u8 (rd xs ((j + 1 : Nat) : Int)))] w2 fun (t70 : Value) ww10 => gCall P n_text_writer_put shU #[.pointer (some ad), t70] ww10 fun ww11 => ∃ (q f : Nat) (v : Value) (out : List Int), (((j + 1 : Nat) : Int) = q ∧ j ≤ q ∧ q < xs.length ∧ xs.length < f + (q + 1) ∧ res = uncN (limT most) f (xs.drop (q + 1)) out ∧ out.length ≤ q + 1 ∧ Fr w ww11 [wIt eB ad v out]) := fun h3 => by
              rw [uncL_esc h3] at hr
              exact fPutLit [rd xs ((j + 1 : Nat) : Int)] rfl rfl (fun x hx => by rw [List.mem_singleton.1 hx]; exact u8i hd) f2 (by omega) (by decide) fun v' w3 f3 => ⟨j + 1, f, v', _, rfl, by omega, hlt2, by omega, hr, by simp; omega, f3⟩
            refine gIf_eq (fun e3 => gIf_neqq (fun n2 => gIf_eq (fun d3 => put ⟨e3, .inr d3⟩) (fun n3 => ?_)) (fun d2 => put ⟨e3, .inl d2⟩)) (fun n3 => ?_)
            · rw [uncL_bad h23 hncap (by omega)] at hr; exact bad f2.old hr
            · rw [uncL_bad h23 hncap (by omega)] at hr; exact bad f2.old hr
    · rintro _ i w3 ⟨q, f3', v3, out3, rfl, hq, hq2, hf3, hr3, hol3, f3⟩
      refine gCall_b0 (over_any (f3.get 0 rfl)) (gIf_dec (fun h => ?_) (fun h => ?_))
      · unfold uncN at hr3; rw [if_pos h] at hr3; exact bad f3.old hr3
      · unfold uncN at hr3; rw [if_neg h] at hr3; exact ⟨q, f3', v3, out3, rfl, hq, hq2, hf3, hr3, hol3, f3⟩
    · rintro _ i w3 ⟨q, f3', v3, out3, rfl, hq, hq2, hf3, hr3, hol3, f3⟩
      rw [i64_id (n := (q : Int) + 1) (by omega) (by omega)]
      exact ⟨⟨q + 1, f3', v3, out3, rfl, by omega, by omega, hr3, hol3, f3⟩, by dsimp only; omega⟩
  · obtain rfl : j = xs.length := by omega
    have hW : Wr eB w2 ad v out := f2.get 0 rfl
    refine gLoad_v (hW.1.cell (j := 0) rfl) ?_
    rw [List.drop_of_length_le (Nat.le_refl _), uncL] at hr
    rw [← hres, hr]
    exact ⟨v, rfl, f2.old, on_new hW.2.1 fun g hg => (f2.ft 0 rfl (k := g) (.inr hg)).1⟩
end
end Go.Proofs.YtilpoinhfiajcaaGreatDoorV

/- What a row hands in that lists variables: the shape of the world, too. -/
namespace Go.Proofs.YtilpoinhfiajcaaGreatDoorV
open Go
theorem returnsInHanded_of_change_shaped {H : Type} {enc : TypeId × Value → H} {a : Assume} {C : Checked} {os : Os} {f : FuncId} {fn : Func} {s : ChangeSpec} {conds : List PathCond} {apart fresh handsOn again : Bool} {X : World → Array Value → Prop}
    (hX : ∀ (w w' : World) (args : Array Value), w.heap = w'.heap → X w args → X w' args)
    (own : ownKnob C.prog.godebug = none) (started : os.Started) (noInit : C.prog.inits.idxOf? f = none) (hfn : C.prog.funcs[f]? = some fn)
    (witness : ∃ (w : World) (tape : Tape) (i : Input), w.os = os ∧ (w.forCall tape i).Shaped C.prog ∧ i.vars = [] ∧ Input.okWide C.prog (w.forCall tape i) .any w.heap.size f i ∧
      ((s.pre enc C.prog fn conds apart (w.forCall tape i).memory i.args ∧ X (w.forCall tape i).memory i.args) ∧ sizedMet enc C.prog fn (OpenSpec.ofChange s) apart (w.forCall tape i).memory i.args) ∧ a.holds C.prog (lone (Frame.enter C.prog f i.args .normal) [] (w.forCall tape i)))
    (contract : ∀ (W : World) (base : Nat) (args : Array Value) (ds gs : List (DataW H)) (before : List MemPlace),
      (∀ (j : Nat) t v, fn.params[j]? = some t → args[j]? = some v → Value.okWide C.prog W .any base t v) →
      DataW.Whole enc C.prog fn.params.toList s.vars apart W args.toList ds gs before →
      conds.all (PathCond.test C.prog ⟨fn.params.toList, ds, s.plain.varTypes C.prog, gs⟩) = true →
      (DataW.weightsEach C.prog (fn.params.toList ++ s.plain.varTypes C.prog) (ds ++ gs)).all (· ≤ reachBytes) = true → X W args →
      a.holds C.prog (lone (Frame.enter C.prog f args .normal) [] W) → W.ShapedOpen C.prog →
      Calls C.prog f args W fun e W' => ∃ v, e = .returned v ∧ s.post enc C.prog fn apart fresh handsOn again W args v W') :
    ReturnsInHanded a C os f .any (fun w args => (s.pre enc C.prog fn conds apart w args ∧ X w args) ∧ sizedMet enc C.prog fn (OpenSpec.ofChange s) apart w args) (s.post enc C.prog fn apart fresh handsOn again) := by
  refine returnsInHanded_of_calls own started noInit witness ?_
  intro w tape i _ hsh _ hok hpre hholds
  obtain ⟨_, _, _, fn', hfn', _, _, _, _, hval⟩ := hok
  have e : fn' = fn := Option.some.inj (hfn'.symm.trans hfn)
  subst e
  obtain ⟨⟨⟨ds, gs, before, hw, hc⟩, hx⟩, hz⟩ := hpre
  have hw' := DataW.Whole.of_heap (w' := w.forCall tape i) (by rfl) hw
  refine (contract (w.forCall tape i) w.heap.size i.args ds gs before hval hw' hc (hz.weights hw) (hX _ _ _ (by rfl) hx) hholds hsh).mono fun e W' ⟨v, he, hp⟩ => ?_
  subst he
  exact ChangeSpec.post_blind hp
end Go.Proofs.YtilpoinhfiajcaaGreatDoorV

/- Contracts of the library at this program, laid by the kit. -/
namespace Go.Proofs
open Go.Shelf
def Tryz.lays185_ren : Go.Shelf.Ren := ⟨fun | 185 => 161 | 187 => 198 | 115 => 40 | 253 => 199 | 224 => 200 | 254 => 201 | 255 => 219 | 291 => 220 | n => n, fun | 37 => 22 | 3 => 3 | 4 => 4 | 0 => 0 | 5 => 5 | 46 => 153 | 9 => 9 | 146 => 247 | 51 => 146 | n => n, fun | 1 => 0 | n => n⟩
theorem Tryz.lays185 : Go.Proofs.Lays.n185 Tryz.prog Tryz.lays185_ren := {
  mixed := by kernel_rfl
  f115 := Tryz.func40.trans (congrArg some (by kernel_rfl))
  f185 := Tryz.func161.trans (congrArg some (by kernel_rfl))
  f187 := Tryz.func198.trans (congrArg some (by kernel_rfl))
  f224 := Tryz.func200.trans (congrArg some (by kernel_rfl))
  f253 := Tryz.func199.trans (congrArg some (by kernel_rfl))
  f254 := Tryz.func201.trans (congrArg some (by kernel_rfl))
  f255 := Tryz.func219.trans (congrArg some (by kernel_rfl))
  f291 := Tryz.func220.trans (congrArg some (by kernel_rfl))
  t0 := Tryz.underlying0
  a0 := Tryz.isAgg0
  z0 := Tryz.sizeOf0
  v0 := Tryz.zeroValue0
  t3 := Tryz.underlying3
  a3 := Tryz.isAgg3
  z3 := Tryz.sizeOf3
  v3 := Tryz.zeroValue3
  t4 := Tryz.underlying4
  a4 := Tryz.isAgg4
  z4 := Tryz.sizeOf4
  v4 := Tryz.zeroValue4
  t5 := Tryz.underlying5
  a5 := Tryz.isAgg5
  z5 := Tryz.sizeOf5
  v5 := Tryz.zeroValue5
  t9 := Tryz.underlying9
  a9 := Tryz.isAgg9
  z9 := Tryz.sizeOf9
  v9 := Tryz.zeroValue9
  t37 := Tryz.underlying22
  a37 := Tryz.isAgg22
  z37 := Tryz.sizeOf22
  v37 := Tryz.zeroValue22
  t46 := Tryz.underlying153
  a46 := Tryz.isAgg153
  z46 := Tryz.sizeOf153
  v46 := Tryz.zeroValue153
  t51 := Tryz.underlying146
  a51 := Tryz.isAgg146
  z51 := Tryz.sizeOf146
  v51 := Tryz.zeroValue146
  t146 := Tryz.underlying247
  a146 := Tryz.isAgg247
  z146 := Tryz.sizeOf247
  v146 := Tryz.zeroValue247
  g1 := by kernel_rfl }
open Go.Proofs Go.RowKit Go.Lib in
theorem Tryz.bytes_Index_at (a1 a2 : Addr) (n c1 k c2 : Nat) (xs ys : List Int) (m : Int) (w : World) (hx : xs.length = n) (hy : ys.length = k) (hr1 : ∀ x ∈ xs, 0 ≤ x ∧ x < 256) (hr2 : ∀ y ∈ ys, 0 ≤ y ∧ y < 256) (hc1 : ∀ i, i < n → w.cell? (a1.add i) = some (.int .u8 (xs.getD i 0))) (hc2 : ∀ i, i < k → w.cell? (a2.add i) = some (.int .u8 (ys.getD i 0))) (hcap : n ≤ c1) (hs : n < 4294967281) (hk : k ≤ 9223372036854775807) (hm : w.cell? ⟨0, 0, none⟩ = some (.int .i64 m)) :
    Calls Tryz.prog 161 #[.slice (some a1) n c1, .slice (some a2) k c2] w fun e w' => e = .returned (.int .i64 (Lib.index (Lib.bytesOf xs) (Lib.bytesOf ys))) ∧ ∃ q, w' = w.drewN q := Any.bytes_Index_at Tryz.lays185 a1 a2 n c1 k c2 xs ys m w hx hy hr1 hr2 hc1 hc2 hcap hs hk hm
def Tryz.laysM185_ren : Go.Shelf.Ren := ⟨fun | 185 => 161 | 187 => 198 | 115 => 40 | 253 => 199 | 224 => 200 | 254 => 201 | 255 => 219 | 291 => 220 | n => n, fun | 37 => 22 | 3 => 3 | 4 => 4 | 0 => 0 | 5 => 5 | 46 => 153 | 9 => 9 | 146 => 247 | 51 => 146 | n => n, fun | 1 => 0 | n => n⟩
theorem Tryz.laysM185 : Go.Proofs.LaysM.n185 Tryz.prog Tryz.laysM185_ren := {
  mixed := by kernel_rfl
  f115 := Tryz.func40.trans (congrArg some (by kernel_rfl))
  f185 := Tryz.func161.trans (congrArg some (by kernel_rfl))
  f187 := Tryz.func198.trans (congrArg some (by kernel_rfl))
  f224 := Tryz.func200.trans (congrArg some (by kernel_rfl))
  f253 := Tryz.func199.trans (congrArg some (by kernel_rfl))
  f254 := Tryz.func201.trans (congrArg some (by kernel_rfl))
  f255 := Tryz.func219.trans (congrArg some (by kernel_rfl))
  f291 := Tryz.func220.trans (congrArg some (by kernel_rfl))
  t0 := Tryz.underlying0
  a0 := Tryz.isAgg0
  z0 := Tryz.sizeOf0
  v0 := Tryz.zeroValue0
  t3 := Tryz.underlying3
  a3 := Tryz.isAgg3
  z3 := Tryz.sizeOf3
  v3 := Tryz.zeroValue3
  t4 := Tryz.underlying4
  a4 := Tryz.isAgg4
  z4 := Tryz.sizeOf4
  v4 := Tryz.zeroValue4
  t5 := Tryz.underlying5
  a5 := Tryz.isAgg5
  z5 := Tryz.sizeOf5
  v5 := Tryz.zeroValue5
  t9 := Tryz.underlying9
  a9 := Tryz.isAgg9
  z9 := Tryz.sizeOf9
  v9 := Tryz.zeroValue9
  t37 := Tryz.underlying22
  a37 := Tryz.isAgg22
  z37 := Tryz.sizeOf22
  v37 := Tryz.zeroValue22
  t46 := Tryz.underlying153
  a46 := Tryz.isAgg153
  z46 := Tryz.sizeOf153
  v46 := Tryz.zeroValue153
  t51 := Tryz.underlying146
  a51 := Tryz.isAgg146
  z51 := Tryz.sizeOf146
  v51 := Tryz.zeroValue146
  t146 := Tryz.underlying247
  a146 := Tryz.isAgg247
  z146 := Tryz.sizeOf247
  v146 := Tryz.zeroValue247
  g1 := by kernel_rfl
  i0 := by kernel_rfl
  i3 := by kernel_rfl
  i4 := by kernel_rfl
  i5 := by kernel_rfl
  i9 := by kernel_rfl
  i37 := by kernel_rfl
  i46 := by kernel_rfl
  i51 := by kernel_rfl
  i146 := by kernel_rfl
  m1 := by kernel_rfl
  s1_3 := fun w h => Go.Proofs.cell_of_shapedOpen_int (zero := #[.int .i64 0]) (t := 3) h (of_decide_eq_true (by kernel_rfl)) (by kernel_rfl) rfl (by kernel_rfl) (by kernel_rfl) Tryz.underlying3 }
def Tryz.laysSlC13_ren : Go.Shelf.Ren := ⟨fun | 13 => 103 | 24 => 159 | 25 => 160 | 12 => 161 | 31 => 197 | 19 => 198 | 20 => 40 | 21 => 199 | 22 => 200 | 23 => 201 | 29 => 219 | 30 => 220 | n => n, fun | 22 => 22 | 3 => 3 | 4 => 4 | 0 => 0 | 5 => 5 | 9 => 9 | 33 => 153 | 40 => 247 | 39 => 146 | n => n, fun | 0 => 0 | n => n⟩
theorem Tryz.laysSlC13 : Go.Proofs.SlLaysC.n13 Tryz.prog Tryz.laysSlC13_ren := {
  mixed := by kernel_rfl
  f12 := Tryz.func161.trans (congrArg some (by kernel_rfl))
  f13 := Tryz.func103.trans (congrArg some (by kernel_rfl))
  f19 := Tryz.func198.trans (congrArg some (by kernel_rfl))
  f20 := Tryz.func40.trans (congrArg some (by kernel_rfl))
  f21 := Tryz.func199.trans (congrArg some (by kernel_rfl))
  f22 := Tryz.func200.trans (congrArg some (by kernel_rfl))
  f23 := Tryz.func201.trans (congrArg some (by kernel_rfl))
  f25 := Tryz.func160.trans (congrArg some (by kernel_rfl))
  f29 := Tryz.func219.trans (congrArg some (by kernel_rfl))
  f30 := Tryz.func220.trans (congrArg some (by kernel_rfl))
  t0 := Tryz.underlying0
  a0 := Tryz.isAgg0
  z0 := Tryz.sizeOf0
  v0 := Tryz.zeroValue0
  t3 := Tryz.underlying3
  a3 := Tryz.isAgg3
  z3 := Tryz.sizeOf3
  v3 := Tryz.zeroValue3
  t4 := Tryz.underlying4
  a4 := Tryz.isAgg4
  z4 := Tryz.sizeOf4
  v4 := Tryz.zeroValue4
  t5 := Tryz.underlying5
  a5 := Tryz.isAgg5
  z5 := Tryz.sizeOf5
  v5 := Tryz.zeroValue5
  t9 := Tryz.underlying9
  a9 := Tryz.isAgg9
  z9 := Tryz.sizeOf9
  v9 := Tryz.zeroValue9
  t22 := Tryz.underlying22
  a22 := Tryz.isAgg22
  z22 := Tryz.sizeOf22
  v22 := Tryz.zeroValue22
  t33 := Tryz.underlying153
  a33 := Tryz.isAgg153
  z33 := Tryz.sizeOf153
  v33 := Tryz.zeroValue153
  t39 := Tryz.underlying146
  a39 := Tryz.isAgg146
  z39 := Tryz.sizeOf146
  v39 := Tryz.zeroValue146
  t40 := Tryz.underlying247
  a40 := Tryz.isAgg247
  z40 := Tryz.sizeOf247
  v40 := Tryz.zeroValue247
  g0 := by kernel_rfl }
open Go.RowKit Go.Lib in
theorem Tryz.bytes_Count_at (a1 a2 : Addr) (n c1 k c2 : Nat) (xs ys : List Int) (m : Int) (w : World) (hx : xs.length = n) (hy : ys.length = k) (hr1 : ∀ x ∈ xs, 0 ≤ x ∧ x < 256) (hr2 : ∀ y ∈ ys, 0 ≤ y ∧ y < 256) (hc1 : ∀ i, i < n → w.cell? (a1.add i) = some (.int .u8 (xs.getD i 0))) (hc2 : ∀ i, i < k → w.cell? (a2.add i) = some (.int .u8 (ys.getD i 0))) (hcap : n ≤ c1) (hs : n < 4294967281) (hk : k ≤ 9223372036854775807) (h2 : 2 ≤ k) (hm : w.cell? ⟨0, 0, none⟩ = some (.int .i64 m)) :
    Calls Tryz.prog 103 #[.slice (some a1) n c1, .slice (some a2) k c2] w fun e w' => e = .returned (.int .i64 (Lib.count (Lib.bytesOf xs) (Lib.bytesOf ys))) ∧ ∃ q, w' = w.drewN q := Any.bytes_Count_at Tryz.laysSlC13 a1 a2 n c1 k c2 xs ys m w hx hy hr1 hr2 hc1 hc2 hcap hs hk h2 hm
def Tryz.laysSlF6_f193_ren : Go.Shelf.Ren := ⟨fun | 6 => 193 | 15 => 218 | 14 => 217 | 28 => 231 | 29 => 232 | 20 => 223 | 21 => 224 | 22 => 225 | 23 => 226 | 24 => 227 | 25 => 228 | 26 => 229 | 27 => 230 | 46 => 233 | 47 => 234 | 48 => 235 | 49 => 236 | 50 => 237 | 57 => 238 | n => n, fun | 22 => 176 | 24 => 9 | 25 => 183 | 3 => 3 | 39 => 153 | 0 => 0 | 53 => 146 | 55 => 68 | 4 => 4 | 46 => 251 | 45 => 250 | 50 => 255 | 5 => 5 | 9 => 9 | 66 => 263 | 70 => 140 | 76 => 267 | 77 => 149 | n => n, fun | n => n⟩
theorem Tryz.laysSlF6_f193 : Go.Proofs.SlLaysF.n6 Tryz.prog Tryz.laysSlF6_f193_ren := {
  mixed := by kernel_rfl
  f6 := ⟨Tryz.f193.name, by decide, Tryz.func193.trans (congrArg some (by kernel_rfl))⟩
  f14 := ⟨Tryz.f217.name, by decide, Tryz.func217.trans (congrArg some (by kernel_rfl))⟩
  f15 := Tryz.func218.trans (congrArg some (by kernel_rfl))
  f20 := ⟨Tryz.f223.name, by decide, Tryz.func223.trans (congrArg some (by kernel_rfl))⟩
  f21 := ⟨Tryz.f224.name, by decide, Tryz.func224.trans (congrArg some (by kernel_rfl))⟩
  f22 := ⟨Tryz.f225.name, by decide, Tryz.func225.trans (congrArg some (by kernel_rfl))⟩
  f23 := ⟨Tryz.f226.name, by decide, Tryz.func226.trans (congrArg some (by kernel_rfl))⟩
  f24 := ⟨Tryz.f227.name, by decide, Tryz.func227.trans (congrArg some (by kernel_rfl))⟩
  f25 := ⟨Tryz.f228.name, by decide, Tryz.func228.trans (congrArg some (by kernel_rfl))⟩
  f26 := ⟨Tryz.f229.name, by decide, Tryz.func229.trans (congrArg some (by kernel_rfl))⟩
  f27 := ⟨Tryz.f230.name, by decide, Tryz.func230.trans (congrArg some (by kernel_rfl))⟩
  f28 := Tryz.func231.trans (congrArg some (by kernel_rfl))
  f29 := Tryz.func232.trans (congrArg some (by kernel_rfl))
  f46 := ⟨Tryz.f233.name, by decide, Tryz.func233.trans (congrArg some (by kernel_rfl))⟩
  f47 := Tryz.func234.trans (congrArg some (by kernel_rfl))
  f48 := Tryz.func235.trans (congrArg some (by kernel_rfl))
  f49 := ⟨Tryz.f236.name, by decide, Tryz.func236.trans (congrArg some (by kernel_rfl))⟩
  f50 := ⟨Tryz.f237.name, by decide, Tryz.func237.trans (congrArg some (by kernel_rfl))⟩
  f57 := ⟨Tryz.f238.name, by decide, Tryz.func238.trans (congrArg some (by kernel_rfl))⟩
  t0 := Tryz.underlying0
  a0 := Tryz.isAgg0
  z0 := Tryz.sizeOf0
  v0 := Tryz.zeroValue0
  t3 := Tryz.underlying3
  a3 := Tryz.isAgg3
  z3 := Tryz.sizeOf3
  v3 := Tryz.zeroValue3
  t4 := Tryz.underlying4
  a4 := Tryz.isAgg4
  z4 := Tryz.sizeOf4
  v4 := Tryz.zeroValue4
  t5 := Tryz.underlying5
  a5 := Tryz.isAgg5
  z5 := Tryz.sizeOf5
  v5 := Tryz.zeroValue5
  t9 := Tryz.underlying9
  a9 := Tryz.isAgg9
  z9 := Tryz.sizeOf9
  v9 := Tryz.zeroValue9
  t22 := Tryz.underlying176
  a22 := Tryz.isAgg176
  z22 := Tryz.sizeOf176
  v22 := Tryz.zeroValue176
  a24 := Tryz.isAgg9
  z24 := Tryz.sizeOf9
  t25 := Tryz.underlying183
  a25 := Tryz.isAgg183
  z25 := Tryz.sizeOf183
  v25 := Tryz.zeroValue183
  t39 := Tryz.underlying153
  a39 := Tryz.isAgg153
  z39 := Tryz.sizeOf153
  v39 := Tryz.zeroValue153
  t45 := Tryz.underlying250
  a45 := Tryz.isAgg250
  z45 := Tryz.sizeOf250
  v45 := Tryz.zeroValue250
  t46 := Tryz.underlying251
  a46 := Tryz.isAgg251
  z46 := Tryz.sizeOf251
  v46 := Tryz.zeroValue251
  t50 := Tryz.underlying255
  a50 := Tryz.isAgg255
  z50 := Tryz.sizeOf255
  v50 := Tryz.zeroValue255
  t53 := Tryz.underlying146
  a53 := Tryz.isAgg146
  z53 := Tryz.sizeOf146
  v53 := Tryz.zeroValue146
  t55 := Tryz.underlying68
  a55 := Tryz.isAgg68
  z55 := Tryz.sizeOf68
  v55 := Tryz.zeroValue68
  t66 := Tryz.underlying263
  a66 := Tryz.isAgg263
  z66 := Tryz.sizeOf263
  v66 := Tryz.zeroValue263
  t70 := Tryz.underlying140
  a70 := Tryz.isAgg140
  z70 := Tryz.sizeOf140
  v70 := Tryz.zeroValue140
  t76 := Tryz.underlying267
  a76 := Tryz.isAgg267
  z76 := Tryz.sizeOf267
  v76 := Tryz.zeroValue267
  t77 := Tryz.underlying149
  a77 := Tryz.isAgg149
  z77 := Tryz.sizeOf149
  v77 := Tryz.zeroValue149 }
def Tryz.laysSlF06_f193_ren : Go.Shelf.Ren := ⟨fun | 6 => 193 | 15 => 218 | 14 => 217 | 28 => 231 | 29 => 232 | 20 => 223 | 21 => 224 | 22 => 225 | 23 => 226 | 24 => 227 | 25 => 228 | 26 => 229 | 27 => 230 | 46 => 233 | 47 => 234 | 48 => 235 | 49 => 236 | 50 => 237 | 57 => 238 | n => n, fun | 22 => 176 | 24 => 9 | 25 => 183 | 3 => 3 | 39 => 153 | 0 => 0 | 53 => 146 | 55 => 68 | 4 => 4 | 46 => 251 | 45 => 250 | 50 => 255 | 5 => 5 | 9 => 9 | 66 => 263 | 70 => 140 | 76 => 267 | 77 => 149 | n => n, fun | n => n⟩
theorem Tryz.laysSlF06_f193 : Go.Proofs.SlLaysF0.n6 Tryz.prog Tryz.laysSlF06_f193_ren := {
  mixed := by kernel_rfl
  f6 := ⟨Tryz.f193.name, by decide, Tryz.func193.trans (congrArg some (by kernel_rfl))⟩
  f14 := ⟨Tryz.f217.name, by decide, Tryz.func217.trans (congrArg some (by kernel_rfl))⟩
  f15 := Tryz.func218.trans (congrArg some (by kernel_rfl))
  f20 := ⟨Tryz.f223.name, by decide, Tryz.func223.trans (congrArg some (by kernel_rfl))⟩
  f21 := ⟨Tryz.f224.name, by decide, Tryz.func224.trans (congrArg some (by kernel_rfl))⟩
  f22 := ⟨Tryz.f225.name, by decide, Tryz.func225.trans (congrArg some (by kernel_rfl))⟩
  f23 := ⟨Tryz.f226.name, by decide, Tryz.func226.trans (congrArg some (by kernel_rfl))⟩
  f24 := ⟨Tryz.f227.name, by decide, Tryz.func227.trans (congrArg some (by kernel_rfl))⟩
  f25 := ⟨Tryz.f228.name, by decide, Tryz.func228.trans (congrArg some (by kernel_rfl))⟩
  f26 := ⟨Tryz.f229.name, by decide, Tryz.func229.trans (congrArg some (by kernel_rfl))⟩
  f27 := ⟨Tryz.f230.name, by decide, Tryz.func230.trans (congrArg some (by kernel_rfl))⟩
  f28 := Tryz.func231.trans (congrArg some (by kernel_rfl))
  f29 := Tryz.func232.trans (congrArg some (by kernel_rfl))
  f46 := ⟨Tryz.f233.name, by decide, Tryz.func233.trans (congrArg some (by kernel_rfl))⟩
  f47 := Tryz.func234.trans (congrArg some (by kernel_rfl))
  f48 := Tryz.func235.trans (congrArg some (by kernel_rfl))
  f49 := ⟨Tryz.f236.name, by decide, Tryz.func236.trans (congrArg some (by kernel_rfl))⟩
  f50 := ⟨Tryz.f237.name, by decide, Tryz.func237.trans (congrArg some (by kernel_rfl))⟩
  f57 := ⟨Tryz.f238.name, by decide, Tryz.func238.trans (congrArg some (by kernel_rfl))⟩
  t0 := Tryz.underlying0
  a0 := Tryz.isAgg0
  z0 := Tryz.sizeOf0
  v0 := Tryz.zeroValue0
  t3 := Tryz.underlying3
  a3 := Tryz.isAgg3
  z3 := Tryz.sizeOf3
  v3 := Tryz.zeroValue3
  t4 := Tryz.underlying4
  a4 := Tryz.isAgg4
  z4 := Tryz.sizeOf4
  v4 := Tryz.zeroValue4
  t5 := Tryz.underlying5
  a5 := Tryz.isAgg5
  z5 := Tryz.sizeOf5
  v5 := Tryz.zeroValue5
  t9 := Tryz.underlying9
  a9 := Tryz.isAgg9
  z9 := Tryz.sizeOf9
  v9 := Tryz.zeroValue9
  t22 := Tryz.underlying176
  a22 := Tryz.isAgg176
  z22 := Tryz.sizeOf176
  v22 := Tryz.zeroValue176
  t25 := Tryz.underlying183
  a25 := Tryz.isAgg183
  z25 := Tryz.sizeOf183
  v25 := Tryz.zeroValue183
  t39 := Tryz.underlying153
  a39 := Tryz.isAgg153
  z39 := Tryz.sizeOf153
  v39 := Tryz.zeroValue153
  t45 := Tryz.underlying250
  a45 := Tryz.isAgg250
  z45 := Tryz.sizeOf250
  v45 := Tryz.zeroValue250
  t46 := Tryz.underlying251
  a46 := Tryz.isAgg251
  z46 := Tryz.sizeOf251
  v46 := Tryz.zeroValue251
  t50 := Tryz.underlying255
  a50 := Tryz.isAgg255
  z50 := Tryz.sizeOf255
  v50 := Tryz.zeroValue255
  t53 := Tryz.underlying146
  a53 := Tryz.isAgg146
  z53 := Tryz.sizeOf146
  v53 := Tryz.zeroValue146
  t55 := Tryz.underlying68
  a55 := Tryz.isAgg68
  z55 := Tryz.sizeOf68
  v55 := Tryz.zeroValue68
  t66 := Tryz.underlying263
  a66 := Tryz.isAgg263
  z66 := Tryz.sizeOf263
  v66 := Tryz.zeroValue263
  t70 := Tryz.underlying140
  a70 := Tryz.isAgg140
  z70 := Tryz.sizeOf140
  v70 := Tryz.zeroValue140
  t76 := Tryz.underlying267
  a76 := Tryz.isAgg267
  z76 := Tryz.sizeOf267
  v76 := Tryz.zeroValue267
  t77 := Tryz.underlying149
  a77 := Tryz.isAgg149
  z77 := Tryz.sizeOf149
  v77 := Tryz.zeroValue149 }
open Go.RowKit Go.Lib Go.Sort in
theorem Tryz.slices_SortFunc_none {α : Type} [Inhabited α] (p : Option Addr) (cap : Nat) (fv : Value) (w : World) :
    Calls Tryz.prog 193 #[.slice p 0 cap, fv] w fun e w' => e = .returned (.tuple #[]) ∧ w' = w := AnyF.slices_SortFunc_none Tryz.laysSlF06_f193 p cap fv w
open Go.RowKit Go.Lib Go.Sort in
theorem Tryz.slices_SortFunc_total {α : Type} [Inhabited α] (enc : α → Value) (h1 : OneCell enc) (cf : α → α → Int) (hO : SWO (ltOf cf)) (g : Nat) (cb : Array Value) (blk off cap : Nat) (d : Array α) (w : World) (eg : ∀ args w, (callFunc g args).run Tryz.prog w = .ok (.enter g args) w) (hcmp : CmpLays1 Tryz.prog g cb enc cf blk off d.size w) (hH : Holds enc w blk off d) (hblk : blk < w.heap.size) (hsz : d.size < 4611686018427387904) (hT : ∀ x y, (ltOf cf) x y = false → (ltOf cf) y x = false → x = y) :
    Calls Tryz.prog 193 #[.slice (some ⟨blk, off, none⟩) d.size cap, .func (.func g) #[] cb] w fun e w' =>
      e = .returned (.tuple #[]) ∧ ∃ n os, w' = sortWorld enc w blk off n (d.toList.mergeSort fun x y => !(ltOf cf) y x).toArray os := Any.slices_SortFunc_total Tryz.laysSlF6_f193 enc h1 cf hO g cb blk off cap d w eg hcmp hH hblk hsz hT
def Tryz.laysKeys_ren : Go.Shelf.Ren := ⟨fun | 10 => 194 | n => n, fun | 33 => 228 | 23 => 174 | 0 => 0 | 4 => 4 | 26 => 9 | 3 => 3 | n => n, fun | n => n⟩
theorem Tryz.laysKeys : Go.Proofs.SlLaysZ.n10 Tryz.prog Tryz.laysKeys_ren := {
  mixed := by kernel_rfl
  f10 := ⟨Tryz.f194.name, by decide, Tryz.func194.trans (congrArg some (by kernel_rfl))⟩
  t0 := Tryz.underlying0
  a0 := Tryz.isAgg0
  z0 := Tryz.sizeOf0
  v0 := Tryz.zeroValue0
  t4 := Tryz.underlying4
  a4 := Tryz.isAgg4
  z4 := Tryz.sizeOf4
  v4 := Tryz.zeroValue4
  t23 := Tryz.underlying174
  a23 := Tryz.isAgg174
  z23 := Tryz.sizeOf174
  v23 := Tryz.zeroValue174
  t26 := Tryz.underlying9
  a26 := Tryz.isAgg9
  z26 := Tryz.sizeOf9
  v26 := Tryz.zeroValue9
  t33 := Tryz.underlying228
  a33 := Tryz.isAgg228
  z33 := Tryz.sizeOf228
  v33 := Tryz.zeroValue228 }
end Go.Proofs
