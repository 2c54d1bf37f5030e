/- Package bits: what is written. -/
import Derived.Test.YtnhlnpjfnoabcaaVBase
namespace Go.Proofs.YtnhlnpjfnoabcaaV
open Go Go.RowKit

/-- A bit of bytes, the highest of each first. -/
def bitAt (xs : List Int) (k : Nat) : Int := rd xs ((k / 8 : Nat) : Int) / ((2 ^ (7 - k % 8) : Nat) : Int) % 2
theorem bitAt_01 (xs : List Int) (k : Nat) : bitAt xs k = 0 ∨ bitAt xs k = 1 := by unfold bitAt; omega
theorem bitAt_test {xs : List Int} (hx : inR .u8 xs) (k : Nat) : bitAt xs k = (if (rd xs ((k / 8 : Nat) : Int)).toNat.testBit (7 - k % 8) then 1 else 0) := by
  have h := rd_u8 hx ((k / 8 : Nat) : Int)
  unfold bitAt
  obtain ⟨a, ha⟩ := Int.eq_ofNat_of_zero_le h.1
  rw [ha, Int.toNat_natCast, ← Int.natCast_ediv, Nat.testBit_eq_decide_div_mod_eq]
  generalize a / 2 ^ (7 - k % 8) = q
  have : q % 2 = 0 ∨ q % 2 = 1 := by omega
  rcases this with h | h
  · rw [h, show (q : Int) % 2 = 0 by omega]; rfl
  · rw [h, show (q : Int) % 2 = 1 by omega]; rfl
/-- Bytes that are those of bits, with zeros behind. -/
def Packs (xs : List Int) (bs : List Int) : Prop := xs.length = (bs.length + 7) / 8 ∧ ∀ k, k < 8 * xs.length → bitAt xs k = bs.getD k 0
theorem Packs.nil : Packs [] [] := ⟨rfl, fun k h => by simp at h⟩
theorem byte_ext {a b : Int} (ha : 0 ≤ a ∧ a < 256) (hb : 0 ≤ b ∧ b < 256) (h : ∀ i, i < 8 → a.toNat.testBit i = b.toNat.testBit i) : a = b := by
  have : a.toNat = b.toNat := by
    apply Nat.eq_of_testBit_eq
    intro i
    by_cases hi : i < 8
    · exact h i hi
    · have h8 : 2 ^ 8 ≤ 2 ^ i := Nat.pow_le_pow_right (by decide) (by omega)
      rw [Nat.testBit_lt_two_pow (by omega : a.toNat < 2 ^ i), Nat.testBit_lt_two_pow (by omega : b.toNat < 2 ^ i)]
  omega
theorem Packs.uniq {xs ys bs : List Int} (hx : inR .u8 xs) (hy : inR .u8 ys) (h : Packs xs bs) (h2 : Packs ys bs) : xs = ys := by
  have hl : xs.length = ys.length := h.1.trans h2.1.symm
  refine List.ext_getElem hl fun j h1 h3 => ?_
  rw [← rd_nat xs j h1, ← rd_nat ys j h3]
  refine byte_ext (rd_u8 hx _) (rd_u8 hy _) fun i hi => ?_
  have e1 := h.2 (8 * j + (7 - i)) (by omega)
  have e2 := h2.2 (8 * j + (7 - i)) (by omega)
  rw [← e2, bitAt_test hx, bitAt_test hy, show (8 * j + (7 - i)) / 8 = j by omega, show 7 - (8 * j + (7 - i)) % 8 = i by omega] at e1
  split at e1 <;> split at e1 <;> simp_all
/-- A writer: its bytes, and how many bits. -/
def Wb (w : World) (ad : Addr) (v : Value) (bs : List Int) : Prop := ∃ xs, St w ad [v, .int .i64 bs.length] ∧ ON .u8 eB w 0 v xs ∧ v.ownBlock ≠ some ad.block ∧ Packs xs bs
theorem Wb.ch {S : SS} {w w' : World} {ad : Addr} {v : Value} {bs : List Int} (h : Wb w ad v bs) (hc : Ch S w w') (hs : ∀ k i, Ft ad v k i → ¬ S k i) : Wb w' ad v bs := by
  obtain ⟨xs, h1, h2, h3, h4⟩ := h
  exact ⟨xs, h1.ch hc fun _ _ => hs _ _ (.inl rfl), h2.ch hc fun g i hg => hs g i (.inr hg), h3, h4⟩
theorem Wb.ev {w w' : World} {ad : Addr} {v : Value} {bs : List Int} (h : Wb w ad v bs) (hc : Ev w w') : Wb w' ad v bs := h.ch hc fun _ _ _ h => h
def WbS (w w' : World) (ad : Addr) (v v' : Value) (bs : List Int) : Prop := Wb w' ad v' bs ∧ Ch (Ft ad v) w w' ∧ Moved w v v'
theorem Wb.step {w : World} {ad : Addr} {v : Value} {bs : List Int} (h : Wb w ad v bs) : WbS w w ad v v bs := ⟨h, Ch.refl _ w, .inl rfl⟩
theorem WbS.trans {w w1 w2 : World} {ad : Addr} {v v1 v2 : Value} {xs ys : List Int} (h : WbS w w1 ad v v1 xs) (h2 : WbS w1 w2 ad v1 v2 ys) : WbS w w2 ad v v2 ys := by
  refine ⟨h2.1, Ch.trans h.2.1 h2.2.1 fun n i hn hf => ?_, h.2.2.trans h2.2.2 h.2.1.size⟩
  rcases hf with hf | hf
  · exact .inl hf
  · rcases h.2.2 with hm | hm
    · exact .inr (hm ▸ hf)
    · have := hm n hf; omega
def bitI (v : Int) : Int := if v ≠ 0 then 1 else 0
theorem rd_set {xs : List Int} {i : Nat} {x : Int} (hi : i < xs.length) (j : Nat) : rd (xs.set i x) (j : Int) = if j = i then x else rd xs j := by
  unfold rd
  rw [Int.toNat_natCast, List.getD_eq_getElem?_getD, List.getD_eq_getElem?_getD, List.getElem?_set]
  by_cases h : j = i
  · subst h; simp [hi]
  · rw [if_neg (fun e => h e.symm), if_neg h]
theorem rd_app (xs ys : List Int) (j : Nat) : rd (xs ++ ys) (j : Int) = if j < xs.length then rd xs j else rd ys ((j - xs.length : Nat) : Int) := by
  unfold rd
  rw [Int.toNat_natCast, Int.toNat_natCast, List.getD_eq_getElem?_getD, List.getD_eq_getElem?_getD, List.getD_eq_getElem?_getD, List.getElem?_append]
  split <;> rfl
theorem getD_app (bs : List Int) (b : Int) (k : Nat) : (bs ++ [b]).getD k 0 = if k = bs.length then b else bs.getD k 0 := by
  rw [List.getD_eq_getElem?_getD, List.getD_eq_getElem?_getD, List.getElem?_append]
  split
  · rw [if_neg (by omega)]
  · split
    · subst_vars; simp
    · rw [List.getElem?_eq_none (by simp; omega), List.getElem?_eq_none (by omega)]
/-- A byte of zeros behind. -/
theorem Packs.grow {xs bs : List Int} (h : Packs xs bs) (h0 : bs.length % 8 = 0) (k : Nat) : bitAt (xs ++ [0]) k = bs.getD k 0 := by
  have hl := h.1
  unfold bitAt
  rw [rd_app]
  split
  · exact h.2 k (by omega)
  · have : rd [(0 : Int)] ((k / 8 - xs.length : Nat) : Int) = 0 := by
      unfold rd
      rw [Int.toNat_natCast]
      cases k / 8 - xs.length <;> simp
    rw [this, List.getD_eq_getElem?_getD, List.getElem?_eq_none (by omega)]; simp
theorem bit_or {a : Int} {r : Nat} (ha : 0 ≤ a ∧ a < 256) (hr : r < 8) : 0 ≤ iOr .u8 a (iShr .u8 128 r) ∧ iOr .u8 a (iShr .u8 128 r) < 256 ∧ ∀ i, (iOr .u8 a (iShr .u8 128 r)).toNat.testBit i = (a.toNat.testBit i || decide (i = 7 - r)) := by
  have e1 : iShr .u8 128 r = ((2 ^ (7 - r) : Nat) : Int) := by
    have : ∀ r : Nat, r < 8 → iShr .u8 128 r = ((2 ^ (7 - r) : Nat) : Int) := by decide
    exact this r hr
  have hp : 2 ^ (7 - r) < 256 := Nat.lt_of_le_of_lt (Nat.pow_le_pow_right (by decide) (show 7 - r ≤ 7 by omega)) (by decide)
  obtain ⟨a, rfl⟩ := Int.eq_ofNat_of_zero_le ha.1
  rw [e1, iOr_nat rfl (by rw [bits8]; omega) (by rw [bits8]; exact hp)]
  have hlt : a ||| 2 ^ (7 - r) < 2 ^ 8 := Nat.or_lt_two_pow (by omega) hp
  refine ⟨by omega, by omega, fun i => ?_⟩
  rw [Int.toNat_natCast, Int.toNat_natCast, Nat.testBit_or, Nat.testBit_two_pow]
  congr 1
  simp [eq_comm]
theorem Packs.set {ys bs : List Int} (hy : inR .u8 ys) (hl : ys.length = (bs.length + 1 + 7) / 8) (hb : ∀ k, k < 8 * ys.length → bitAt ys k = bs.getD k 0) :
    Packs (ys.set (bs.length / 8) (iOr .u8 (rd ys ((bs.length / 8 : Nat) : Int)) (iShr .u8 128 ((bs.length % 8 : Nat) : Int)))) (bs ++ [1]) ∧ inR .u8 (ys.set (bs.length / 8) (iOr .u8 (rd ys ((bs.length / 8 : Nat) : Int)) (iShr .u8 128 ((bs.length % 8 : Nat) : Int)))) := by
  have hi : bs.length / 8 < ys.length := by omega
  obtain ⟨h1, h2, h3⟩ := bit_or (rd_u8 hy ((bs.length / 8 : Nat) : Int)) (r := bs.length % 8) (by omega)
  have hr : inR .u8 (ys.set (bs.length / 8) (iOr .u8 (rd ys ((bs.length / 8 : Nat) : Int)) (iShr .u8 128 ((bs.length % 8 : Nat) : Int)))) := fun x hx => by
    rcases List.mem_or_eq_of_mem_set hx with hx | rfl
    · exact hy x hx
    · exact u8i ⟨h1, h2⟩
  refine ⟨⟨by simpa using hl, fun k hk => ?_⟩, hr⟩
  rw [List.length_set] at hk
  have hbk := hb k hk
  rw [bitAt_test hy] at hbk
  rw [bitAt_test hr, rd_set hi, getD_app]
  by_cases hk8 : k / 8 = bs.length / 8
  · rw [if_pos hk8, h3, ← hk8]
    by_cases e : k = bs.length
    · rw [if_pos e, e]; simp
    · rw [if_neg e, ← hbk, decide_eq_false (show ¬ 7 - k % 8 = 7 - bs.length % 8 by omega), Bool.or_false]
  · rw [if_neg hk8, hbk, if_neg (fun e => hk8 (by rw [e]))]
theorem Packs.zero {ys bs : List Int} (hl : ys.length = (bs.length + 1 + 7) / 8) (hb : ∀ k, k < 8 * ys.length → bitAt ys k = bs.getD k 0) : Packs ys (bs ++ [0]) :=
  ⟨by simpa using hl, fun k hk => by
    rw [hb k hk, getD_app]
    split
    · rename_i e; rw [e, List.getD_eq_getElem?_getD, List.getElem?_eq_none (Nat.le_refl _)]; rfl
    · rfl⟩
end Go.Proofs.YtnhlnpjfnoabcaaV
