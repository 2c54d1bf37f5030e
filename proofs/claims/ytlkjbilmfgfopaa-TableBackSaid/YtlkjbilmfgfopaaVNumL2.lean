/- The law NumBack. -/
import Derived.Test.YtlkjbilmfgfopaaVNumL
namespace Go.Proofs.YtlkjbilmfgfopaaV
open Go Go.RowKit

/-- A reader in memory that is new since w0. -/
def FR (w0 w : World) (ad : Addr) (xs : List Int) (a : Nat) (er : Int) : Prop := ∃ b, Rd w ad b xs a er ∧ Ev w0 w ∧ w0.heap.size ≤ ad.block
theorem FR.to {w0 w w' : World} {ad : Addr} {b : Value} {xs : List Int} {a : Nat} {er : Int} (h1 : Ev w0 w) (h2 : w0.heap.size ≤ ad.block) (h : RS w w' ad b xs a er) : FR w0 w' ad xs a er :=
  ⟨b, h.1, h1.new h.2 fun n i hh => by rw [hh.1]; exact h2, h2⟩
theorem FR.ev {w0 w w' : World} {ad : Addr} {xs : List Int} {a : Nat} {er : Int} (h : FR w0 w ad xs a er) (he : Ev w w') : FR w0 w' ad xs a er := by
  obtain ⟨b, h1, h2, h3⟩ := h; exact ⟨b, h1.ev he, h2.trans he, h3⟩
theorem FR.old {w0 w : World} {ad : Addr} {xs : List Int} {a : Nat} {er : Int} (h : FR w0 w ad xs a er) : Ev w0 w := by obtain ⟨_, _, h, _⟩ := h; exact h
theorem FR.u8 {w0 w : World} {ad : Addr} {xs : List Int} {a : Nat} {er : Int} (h : FR w0 w ad xs a er) : inR .u8 xs := by obtain ⟨_, h, _⟩ := h; exact h.2.1.2
theorem lNew {w0 w : World} {b : Value} {xs : List Int} {K : Option Addr → World → Prop} (h0 : Ev w0 w) (hb : Nm .u8 w b xs) (hl : xs.length ≤ 10000000000) (hk : ∀ ad w', FR w0 w' ad xs 0 0 → K (some ad) w') : gCall P n_num_New shP #[b] w K :=
  gCall_of (rNew_any hb hl) fun _ w' ⟨ad, y, h1, h2, h3, h4⟩ => ⟨some ad, h1, hk ad w' ⟨y, h4, h0.trans h2, Nat.le_trans h0.size h3⟩⟩
theorem lrNum {w0 w : World} {ad : Addr} {xs : List Int} {a : Nat} {er : Int} {K : Int → World → Prop} {r : Int × Nat × Int} (h : FR w0 w ad xs a er) (hr : numR xs a er 18446744073709551615 = r) (hk : ∀ w', FR w0 w' ad xs r.2.1 r.2.2 → K r.1 w') : gCall P n_num_Reader_Num (shI .u64) #[.pointer (some ad)] w K := by
  obtain ⟨b, h1, h2, h3⟩ := h; subst hr; exact gCall_i (rNum_any h1) fun w' hw => hk w' (FR.to h2 h3 hw)
theorem lrLeft {w0 w : World} {ad : Addr} {xs : List Int} {a : Nat} {er : Int} {K : Int → World → Prop} (h : FR w0 w ad xs a er) (hk : ∀ w', Ev w w' → K ((xs.length : Int) - a) w') : gCall P n_num_Reader_Left (shI .i64) #[.pointer (some ad)] w K := by
  obtain ⟨b, h1, h2, h3⟩ := h; exact gCall_i (rLeft_any h1) hk
theorem lrErr {w0 w : World} {ad : Addr} {xs : List Int} {a : Nat} {er : Int} {K : Int → World → Prop} (h : FR w0 w ad xs a er) (hk : K er w) : gCall P n_num_Reader_Err (shI .i64) #[.pointer (some ad)] w K := by
  obtain ⟨b, h1, h2, h3⟩ := h; exact gCall_i0 (rErr_any h1) hk
theorem FW.old {w0 w : World} {ad : Addr} {xs : List Int} (h : FW w0 w ad xs) : Ev w0 w := by obtain ⟨_, _, h, _⟩ := h; exact h
theorem gEq_pnil_n {P : Program} {t : TypeId} {ad : Addr} {K : Bool → Prop} (hk : K false) (ht : (match P.underlying t with | some (.pointer _) => true | _ => false) = true := by kernel_rfl) : gEq P .eql t (.pointer (some ad)) (.pointer none) K := gEq_pnil hk ht
end Go.Proofs.YtlkjbilmfgfopaaV
