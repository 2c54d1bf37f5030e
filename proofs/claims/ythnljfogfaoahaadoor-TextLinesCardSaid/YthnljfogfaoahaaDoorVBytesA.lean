/- Package bytes: Index, Count, ReplaceAll of 0d 0a. -/
import Derived.Test.YthnljfogfaoahaaDoorVCopy
import Derived.Test.YthnljfogfaoahaaDoorVShelf
namespace Go.Proofs.YthnljfogfaoahaaDoorV
open Go Go.RowKit
/-- Where 0d 0a stands first. -/
def idxC : List Int → Option Nat
  | [] => none
  | a :: r => if a = 13 ∧ r.head? = some 10 then some 0 else (idxC r).map (· + 1)
/-- How often it stands there. -/
def pairs : List Int → Nat
  | 13 :: 10 :: r => 1 + pairs r
  | _ :: r => pairs r
  | [] => 0
/-- Each of them is 0a. -/
def repl : List Int → List Int
  | 13 :: 10 :: r => 10 :: repl r
  | c :: r => c :: repl r
  | [] => []
theorem pairs_no {a : Int} {r : List Int} (h : ¬ (a = 13 ∧ r.head? = some 10)) : pairs (a :: r) = pairs r ∧ repl (a :: r) = a :: repl r := by
  constructor
  · rw [pairs]
    rintro r' rfl rfl; exact h ⟨rfl, rfl⟩
  · rw [repl]
    rintro r' rfl rfl; exact h ⟨rfl, rfl⟩
theorem idxC_none : ∀ {xs : List Int}, idxC xs = none → pairs xs = 0 ∧ repl xs = xs
  | [], _ => ⟨rfl, rfl⟩
  | a :: r, h => by
    rw [idxC] at h
    split at h
    · cases h
    · rename_i hn
      obtain ⟨h1, h2⟩ := idxC_none (Option.map_eq_none_iff.1 h)
      obtain ⟨h3, h4⟩ := pairs_no hn
      rw [h3, h4, h1, h2]; exact ⟨rfl, rfl⟩
theorem idxC_some : ∀ {xs : List Int} {i : Nat}, idxC xs = some i → i + 2 ≤ xs.length ∧ pairs xs = 1 + pairs (xs.drop (i + 2)) ∧ repl xs = xs.take i ++ 10 :: repl (xs.drop (i + 2))
  | [], _, h => by cases h
  | a :: r, i, h => by
    rw [idxC] at h
    split at h
    · rename_i hc
      injection h with h; subst h
      obtain ⟨rfl, hr⟩ := hc
      cases r with
      | nil => cases hr
      | cons b r => injection hr with hr; subst hr; exact ⟨by simp, rfl, rfl⟩
    · rename_i hn
      rw [Option.map_eq_some_iff] at h
      obtain ⟨j, hj, rfl⟩ := h
      obtain ⟨h1, h2, h3⟩ := idxC_some hj
      obtain ⟨h4, h5⟩ := pairs_no hn
      rw [h4, h5, h2, h3]
      exact ⟨by simp; omega, rfl, rfl⟩
theorem u8_inj {a b : Int} (ha : 0 ≤ a ∧ a < 256) (hb : 0 ≤ b ∧ b < 256) : (UInt8.ofNat a.toNat == UInt8.ofNat b.toNat) = decide (a = b) := by
  by_cases h : a = b
  · subst h; simp
  · rw [decide_eq_false h]
    apply beq_eq_false_iff_ne.2
    intro e
    have e2 := congrArg UInt8.toNat e
    rw [UInt8.toNat_ofNat', UInt8.toNat_ofNat', Nat.mod_eq_of_lt (by omega), Nat.mod_eq_of_lt (by omega)] at e2
    omega
theorem index_eq : ∀ {xs : List Int}, inR .u8 xs → Lib.index (Lib.bytesOf xs) (Lib.bytesOf [13, 10]) = (match idxC xs with | none => -1 | some i => (i : Int))
  | [], _ => rfl
  | a :: r, h => by
    have ha := h.u8 (x := a) (by simp)
    have hr : inR .u8 r := fun x hx => h x (List.mem_cons_of_mem _ hx)
    have ih := index_eq hr
    have hp : (Lib.bytesOf [13, 10]).isPrefixOf (Lib.bytesOf (a :: r)) = decide (a = 13 ∧ r.head? = some 10) := by
      show (UInt8.ofNat (13 : Int).toNat == UInt8.ofNat a.toNat && (Lib.bytesOf [10]).isPrefixOf (Lib.bytesOf r)) = _
      rw [u8_inj (by decide) ha]
      cases r with
      | nil => simp [Lib.bytesOf]
      | cons b r =>
        have hb := hr.u8 (x := b) (by simp)
        show (_ && (UInt8.ofNat (10 : Int).toNat == UInt8.ofNat b.toNat && List.isPrefixOf [] _)) = _
        rw [u8_inj (by decide) hb]
        simp only [List.isPrefixOf_nil_left, Bool.and_true, List.head?_cons, Option.some.injEq]
        by_cases h1 : a = 13 <;> by_cases h2 : b = 10 <;> simp [h1, h2, eq_comm]
    have hu : Lib.index (Lib.bytesOf (a :: r)) (Lib.bytesOf [13, 10]) = if (Lib.bytesOf [13, 10]).isPrefixOf (Lib.bytesOf (a :: r)) then 0 else if Lib.index (Lib.bytesOf r) (Lib.bytesOf [13, 10]) == -1 then -1 else Lib.index (Lib.bytesOf r) (Lib.bytesOf [13, 10]) + 1 := rfl
    rw [hu, hp, ih, idxC]
    by_cases hc : a = 13 ∧ r.head? = some 10
    · rw [if_pos hc, if_pos (by simpa using hc)]; rfl
    · rw [if_neg hc, if_neg (by simpa using hc)]
      cases idxC r with
      | none => rfl
      | some i =>
        have : (((i : Int)) == -1) = false := beq_eq_false_iff_ne.2 (by omega)
        simp only [this, Option.map_some]; simp
theorem count_eq : ∀ (n : Nat) {xs : List Int}, xs.length ≤ n → inR .u8 xs → Lib.count (Lib.bytesOf xs) (Lib.bytesOf [13, 10]) = pairs xs
  | n, xs, hn, h => by
    have hi := index_eq h
    cases hx : idxC xs with
    | none =>
      rw [hx] at hi
      rw [Lib.count_miss hi, (idxC_none hx).1]
    | some i =>
      rw [hx] at hi
      obtain ⟨h1, h2, _⟩ := idxC_some hx
      cases n with
      | zero => omega
      | succ n =>
        rw [Lib.count_hit (by decide) hi, h2]
        have e : (Lib.bytesOf xs).drop (i + (Lib.bytesOf [13, 10]).length) = Lib.bytesOf (xs.drop (i + 2)) := by simp [Lib.bytesOf, List.map_drop]
        rw [e, count_eq n (by rw [List.length_drop]; omega) (h.drop _)]
/-- How often a byte stands there. -/
def cntB (c : Int) (xs : List Int) : Nat := xs.countP (fun x => decide (x = c))
theorem countByte_eq {c : Int} (hc : 0 ≤ c ∧ c < 256) : ∀ {xs : List Int}, inR .u8 xs → Lib.countByte (Lib.bytesOf xs) c.toNat.toUInt8 = cntB c xs
  | [], _ => rfl
  | a :: r, h => by
    have ha := h.u8 (x := a) (by simp)
    have hr : inR .u8 r := fun x hx => h x (List.mem_cons_of_mem _ hx)
    have ih := countByte_eq hc hr
    unfold Lib.countByte cntB at *
    have e : Lib.bytesOf (a :: r) = UInt8.ofNat a.toNat :: Lib.bytesOf r := rfl
    rw [e, List.count_cons, ih, List.countP_cons]
    have := u8_inj ha hc
    rw [show (UInt8.ofNat a.toNat == c.toNat.toUInt8) = decide (a = c) from this]
end Go.Proofs.YthnljfogfaoahaaDoorV
