/- Nodes, fifth part: slices of what is one cell; lists of slices; buffers that grow behind a pointer. -/
import Derived.Test.YtcjopcplhabgkaaVNodes4
namespace Go.Proofs.YtcjopcplhabgkaaV
open Go Go.RowKit
section
variable {P : Program} {w : World}
theorem Sl.of_own {B n : Nat} {e : TypeId} {v : Value} {cs : List Value} (h : w.ownsRow B e 1 v n cs) : Sl w 1 v n cs := by
  obtain ⟨h1, h2⟩ := h
  rcases h2 with ⟨rfl, h0⟩ | ⟨g, cap, cur, rfl, hb, hg, hn, hm, hs, ht⟩
  · exact ⟨none, 0, by rw [h0], by omega, h1, (fun _ h => by cases h), fun _ => h0⟩
  · refine ⟨some ⟨g, 0, none⟩, cap, rfl, hn, h1, fun ad ha j u hj => ?_, fun h => by cases h⟩
    injection ha with ha; subst ha
    exact World.ownsRow.cells ⟨h1, .inr ⟨g, cap, cur, rfl, hb, hg, hn, hm, hs, ht⟩⟩ (g := g) rfl j u hj
theorem Sl.shape {sz n : Nat} {v : Value} {cs : List Value} (h : Sl w sz v n cs) : ∃ a c, v = .slice a n c ∧ n ≤ c := let ⟨a, c, h1, h2, _⟩ := h; ⟨a, c, h1, h2⟩
theorem gLen_slv {t : TypeId} {sz n : Nat} {v : Value} {cs : List Value} {K : Nat → Prop} (h : Sl w sz v n cs) (hk : K n) (ht : slOf P t (elOf P t) = true := by kernel_rfl) : gLen P t v K := by
  obtain ⟨a, c, rfl, _⟩ := h.shape; exact gLen_sl hk ht
/-- An element's place, where elements are one cell. -/
theorem gIdx_1 {t : TypeId} {ki : IntKind} {v : Value} {n : Nat} {cs : List Value} {i : Int} {K : Addr → Prop} (h : Sl w 1 v n cs) (h0 : 0 ≤ i) (h1 : i < n)
    (hk : ∀ ad u, cs[i.toNat]? = some u → w.cell? ad = some u → v.ownBlock = some ad.block → K ad) (ht : slSz P t 1 = true := by kernel_rfl) : gIdx P t v (.int ki i) K := by
  obtain ⟨hu, ii, hi, hsz⟩ := slSz_ok ht
  obtain ⟨a, c, rfl, _, hl, h3, h4⟩ := h
  cases a with
  | none => have := h4 rfl; omega
  | some ad =>
    have hlt : i.toNat < cs.length := by omega
    refine ⟨ad.add i.toNat, fun w => ?_, hk _ cs[i.toNat] (by simp [hlt]) (h3 ad rfl i.toNat _ (by simp [hlt])) ?_⟩
    · simp only [Instr.indexAt, asIntOf, Sem.run_bind, Sem.run_pure, Result.andThen_ok, run_underlying hu]
      rw [if_pos ⟨h0, h1⟩]
      simp [sizeOf, typeInfo, hi, hsz]
    · show some ad.block = some (ad.add i.toNat).block
      unfold Addr.add; split <;> rfl
/-- A slice of slices of numbers. -/
def NL (k : IntKind) (w : World) (v : Value) (xss : List (List Int)) : Prop := ∃ us : List Value, Sl w 1 v xss.length us ∧ ∀ (i : Nat) (u : Value) (xs : List Int), us[i]? = some u → xss[i]? = some xs → Nm k w u xs
theorem NL.ev {k : IntKind} {w' : World} {v : Value} {xss : List (List Int)} (h : NL k w v xss) (he : Ev w w') : NL k w' v xss := by
  obtain ⟨us, h1, h2⟩ := h; exact ⟨us, h1.ev he, fun i u xs a b => (h2 i u xs a b).ev he⟩
theorem Nm.of_on {k : IntKind} {e : TypeId} {B : Nat} {v : Value} {xs : List Int} (h : ON k e w B v xs) : Nm k w v xs := h.nm
/-- What is stable under changes in S. -/
def Stab (S : SS) (w : World) (Q : World → Prop) : Prop := ∀ w', Ch S w w' → Q w'
theorem Stab.now {S : SS} {Q : World → Prop} (h : Stab S w Q) : Q w := h w (Ch.refl S w)
theorem Nm.stab {k : IntKind} {S : SS} {v : Value} {xs : List Int} (h : Nm k w v xs) (hs : ∀ g i, v.ownBlock = some g → g < w.heap.size → ¬ S g i) : Stab S w fun w' => Nm k w' v xs := fun w' hc => by
  refine ⟨?_, h.2⟩
  obtain ⟨a, c, rfl, h1, h2, h3, h4⟩ := h.1
  refine ⟨a, c, rfl, h1, h2, fun ad ha j u hj => ?_, h4⟩
  subst ha
  have hcell := h3 ad rfl j u hj
  have hb : (ad.add j).block = ad.block := by unfold Addr.add; split <;> rfl
  refine hc.cell hcell ?_
  have hlt := World.block_lt_of_cell? w _ hcell
  rw [hb] at hlt ⊢
  exact hs _ _ rfl hlt

/-! ### Bytes that grow behind a pointer -/
/-- A struct of one slice of bytes of its own. -/
def Wr (e : TypeId) (w : World) (ad : Addr) (v : Value) (xs : List Int) : Prop := St w ad [v] ∧ ON .u8 e w 0 v xs ∧ v.ownBlock ≠ some ad.block
/-- What it stands on. -/
abbrev Ft (ad : Addr) (v : Value) : SS := fun k _ => k = ad.block ∨ v.ownBlock = some k
theorem Wr.ch {e : TypeId} {S : SS} {w' : World} {ad : Addr} {v : Value} {xs : List Int} (h : Wr e w ad v xs) (hc : Ch S w w') (hs : ∀ k i, Ft ad v k i → ¬ S k i) : Wr e w' ad v xs :=
  ⟨h.1.ch hc fun _ _ => hs _ _ (.inl rfl), h.2.1.ch hc fun g i hg => hs g i (.inr hg), h.2.2⟩
theorem Wr.ev {e : TypeId} {w' : World} {ad : Addr} {v : Value} {xs : List Int} (h : Wr e w ad v xs) (hc : Ev w w') : Wr e w' ad v xs := h.ch hc fun _ _ _ h => h
theorem Wr.lt {e : TypeId} {ad : Addr} {v : Value} {xs : List Int} (h : Wr e w ad v xs) {k i : Nat} (hk : Ft ad v k i) : k < w.heap.size := by
  rcases hk with rfl | hk
  · exact h.1.lt
  · exact (h.2.1.base hk).2
/-- A step of such a thing. -/
def WrS (e : TypeId) (w w' : World) (ad : Addr) (v v' : Value) (xs : List Int) : Prop := Wr e w' ad v' xs ∧ Ch (Ft ad v) w w' ∧ Moved w v v'
theorem Wr.step {e : TypeId} {ad : Addr} {v : Value} {xs : List Int} (h : Wr e w ad v xs) : WrS e w w ad v v xs := ⟨h, Ch.refl _ w, .inl rfl⟩
theorem Moved.trans {w w1 : World} {v v1 v2 : Value} (h : Moved w v v1) (h2 : Moved w1 v1 v2) (hs : w.heap.size ≤ w1.heap.size) : Moved w v v2 := by
  rcases h2 with h2 | h2
  · rcases h with h | h
    · exact .inl (h2.trans h)
    · exact .inr fun g hg => h g (by rw [← h2]; exact hg)
  · exact .inr fun g hg => Nat.le_trans hs (h2 g hg)
theorem WrS.trans {e : TypeId} {w w1 w2 : World} {ad : Addr} {v v1 v2 : Value} {xs ys : List Int} (h : WrS e w w1 ad v v1 xs) (h2 : WrS e w1 w2 ad v1 v2 ys) : WrS e w w2 ad v v2 ys := by
  refine ⟨h2.1, Ch.trans h.2.1 h2.2.1 fun n i hn hf => ?_, h.2.2.trans h2.2.2 h.2.1.size⟩
  rcases hf with hf | hf
  · exact .inl hf
  · rcases h.2.2 with hm | hm
    · exact .inr (hm ▸ hf)
    · have := hm n hf; omega
theorem WrS.ev {e : TypeId} {w w1 w2 : World} {ad : Addr} {v v1 : Value} {xs : List Int} (h : WrS e w w1 ad v v1 xs) (he : Ev w1 w2) : WrS e w w2 ad v v1 xs :=
  h.trans ⟨h.1.ev he, he.mono fun _ _ _ h => h.elim, .inl rfl⟩
theorem WrS.pre {e : TypeId} {w w1 w2 : World} {ad : Addr} {v v1 : Value} {xs : List Int} (he : Ev w w1) (h : WrS e w1 w2 ad v v1 xs) : WrS e w w2 ad v v1 xs :=
  ⟨h.1, Ch.trans (he.mono fun _ _ _ h => h.elim) h.2.1 fun _ _ _ h => h, by rcases h.2.2 with h | h; exact .inl h; exact .inr fun g hg => Nat.le_trans he.size (h g hg)⟩
/-- A step seen from a world ahead of all that the thing stands on. -/
theorem WrS.evn {e : TypeId} {w0 w w' : World} {ad : Addr} {v v' : Value} {xs : List Int} (h0 : Ev w0 w) (h : WrS e w w' ad v v' xs) (hb : w0.heap.size ≤ ad.block) (hv : ∀ g, v.ownBlock = some g → w0.heap.size ≤ g) : Ev w0 w' ∧ ∀ g, v'.ownBlock = some g → w0.heap.size ≤ g := by
  refine ⟨h0.new h.2.1 fun n i hf => ?_, fun g hg => ?_⟩
  · rcases hf with rfl | hf
    · exact hb
    · exact hv n hf
  · rcases h.2.2 with hm | hm
    · exact hv g (hm ▸ hg)
    · exact Nat.le_trans h0.size (hm g hg)
/-- Another thing that stands on something else is as it was. -/
theorem WrS.other {e : TypeId} {w w' : World} {ad ad2 : Addr} {v v' v2 : Value} {xs ys : List Int} (h : WrS e w w' ad v v' xs) (h2 : Wr e w ad2 v2 ys) (hd : ∀ k i, Ft ad2 v2 k i → ¬ Ft ad v k i) : Wr e w' ad2 v2 ys ∧ ∀ k i, Ft ad2 v2 k i → ¬ Ft ad v' k i := by
  refine ⟨h2.ch h.2.1 hd, fun k i hk hf => ?_⟩
  rcases hf with hf | hf
  · exact hd k i hk (.inl hf)
  · rcases h.2.2 with hm | hm
    · exact hd k i hk (.inr (hm ▸ hf))
    · have := hm k hf; have := h2.lt hk; omega
end
end Go.Proofs.YtcjopcplhabgkaaV
