/- Lists told by what stands at each place. -/
import Derived.Test.YtcjopcplhabgkaaVNodes5
namespace Go.Proofs.YtcjopcplhabgkaaV
open Go Go.RowKit
def tab (n : Nat) (f : Nat → Int) : List Int := (List.range n).map f
theorem tab_len (n : Nat) (f : Nat → Int) : (tab n f).length = n := by simp [tab]
theorem rd_tab {n : Nat} {f : Nat → Int} {i : Nat} (h : i < n) : rd (tab n f) (i : Int) = f i := by simp [rd, tab, h]
theorem tab_ext {n : Nat} {f g : Nat → Int} (h : ∀ i, i < n → f i = g i) : tab n f = tab n g := by
  unfold tab; exact List.map_congr_left fun i hi => h i (by simpa using hi)
theorem tab_rd (xs : List Int) : tab xs.length (fun i => rd xs (i : Int)) = xs := by
  refine List.ext_getElem (tab_len _ _) fun i h1 h2 => ?_
  rw [← rd_nat _ i h1, rd_tab (by rw [tab_len] at h1; exact h1), rd_nat xs i h2]
theorem tab_set {n i : Nat} {f : Nat → Int} {x : Int} (h : i < n) : (tab n f).set i x = tab n (fun q => if q = i then x else f q) := by
  refine List.ext_getElem (by simp [tab_len]) fun j h1 h2 => ?_
  rw [List.getElem_set]
  have hj : j < n := by rw [tab_len] at h2; exact h2
  simp only [tab, List.getElem_map, List.getElem_range]
  by_cases e : j = i
  · subst e; simp
  · rw [if_neg (fun e' => e e'.symm), if_neg e]
theorem tab_in {k : IntKind} {n : Nat} {f : Nat → Int} (h : ∀ i, i < n → k.min ≤ f i ∧ f i ≤ k.max) : inR k (tab n f) := fun x hx => by
  obtain ⟨i, hi, rfl⟩ := List.mem_map.1 hx; exact h i (by simpa using hi)
theorem eq_tab {xs : List Int} {n : Nat} {f : Nat → Int} (hl : xs.length = n) (h : ∀ i : Nat, i < n → rd xs (i : Int) = f i) : xs = tab n f := by
  rw [← tab_rd xs, hl]; exact tab_ext h
/-- Two loads, either first. -/
theorem two_loads {P : Program} {t1 t2 : TypeId} {a1 a2 : Addr} {k1 k2 : IntKind} {x1 x2 : Int} {w : World} {B : World → Prop} {K : Int → Int → Prop} (h1 : w.cell? a1 = some (.int k1 x1)) (h2 : w.cell? a2 = some (.int k2 x2)) (hB : B w) (hk : K x1 x2) (ht1 : flat P t1 = true := by kernel_rfl) (ht2 : flat P t2 = true := by kernel_rfl) :
    (gLoad P t1 (shI k1) (.pointer (some a1)) w fun (u : Int) => B w ∧ gLoad P t2 (shI k2) (.pointer (some a2)) w fun (v : Int) => B w ∧ K u v) ∧ (gLoad P t2 (shI k2) (.pointer (some a2)) w fun (v : Int) => B w ∧ gLoad P t1 (shI k1) (.pointer (some a1)) w fun (u : Int) => B w ∧ K u v) :=
  ⟨gLoad_i h1 ⟨hB, gLoad_i h2 ⟨hB, hk⟩ ht2⟩ ht1, gLoad_i h2 ⟨hB, gLoad_i h1 ⟨hB, hk⟩ ht1⟩ ht2⟩
end Go.Proofs.YtcjopcplhabgkaaV
