/- Slices of numbers of one's own, in a frame: an element set, read, a part put behind. -/
import Derived.Test.YtcjopcplhabgkaaVNodes8
namespace Go.Proofs.YtcjopcplhabgkaaV
open Go Go.RowKit
section
variable {P : Program} {w0 w : World} {F : List It}
/-- An element is another one. -/
theorem fSetO {t te : TypeId} {k ki : IntKind} {v : Value} {xs : List Int} {i x : Int} {j : Nat} {K : World → Prop} (f : Fr w0 w F) (q : Nat) (hq : F[q]? = some (oIt k (elOf P t) v xs)) (hij : i = (j : Int)) (hj : j < xs.length) (hx : k.min ≤ x ∧ x ≤ k.max)
    (hk : ∀ w', Fr w0 w' (F.set q (oIt k (elOf P t) v (xs.set j x))) → K w') (ht : slInt P t k = true := by kernel_rfl) (ht1 : flat1 P te = true := by kernel_rfl) :
    gIdx P t v (.int ki i) fun ad => gStore P te (.pointer (some ad)) (.int k x) w K := by
  subst hij
  refine gIdx_on (f.on q hq) (by omega) (by omega) (fun ad hs _ => gStore_on (f.on q hq) hs (by omega) (by omega) hx (fun w' hc _ ho => hk w' ?_) ht1) ht
  exact f.upd (jt := oIt k (elOf P t) v (xs.set j x)) q hq hc (fun k _ hh => .inl hh) (ho.low (Nat.zero_le _)) fun k hk => .inl hk
/-- An element is read, in whatever world comes of this one. -/
theorem gGetB {t te : TypeId} {k ki : IntKind} {v : Value} {xs : List Int} {i : Int} {B : World → Prop} {K : Int → Prop} (h : Nm k w v xs) (h0 : 0 ≤ i) (h1 : i < xs.length) (hB : ∀ w', B w' → Ev w w') (hk : K (rd xs i)) (ht : slInt P t k = true := by kernel_rfl) (htf : flat P te = true := by kernel_rfl) :
    gIdx P t v (.int ki i) fun ad => gLoadB P te (shI k) (.pointer (some ad)) B K :=
  gIdx_nm h h0 h1 (fun ad c _ => gLoadB_i (fun w' hw => Ch.cell (hB w' hw) c fun h => h) hk htf) ht
theorem gGet {t te : TypeId} {k ki : IntKind} {v : Value} {xs : List Int} {i : Int} {K : Int → Prop} (h : Nm k w v xs) (h0 : 0 ≤ i) (h1 : i < xs.length) (hk : K (rd xs i)) (ht : slInt P t k = true := by kernel_rfl) (htf : flat P te = true := by kernel_rfl) :
    gIdx P t v (.int ki i) fun ad => gLoad P te (shI k) (.pointer (some ad)) w K :=
  gIdx_nm h h0 h1 (fun ad c _ => gLoad_i c hk htf) ht
theorem gIf_nnb {b : Bool} {A B : Prop} (ha : b = true → A) (hb : b = false → B) : gIf (!(!b)) A B := by cases b; exact hb rfl; exact ha rfl
theorem evDrew {w w' : World} (h : w' = w.drew) : Ev w w' := by subst h; exact Ev.drew0 w
end
end Go.Proofs.YtcjopcplhabgkaaV
