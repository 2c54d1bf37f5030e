import Derived.ProofKit
import Derived.OpenShut
import Derived.ShutString
import Derived.ChangeArms
import Derived.SizedLaws
import Derived.RangeFuncNested
import Derived.RangeFuncLeaves
import Derived.RangeFuncCalls
import Derived.OwnWalkIn
import Derived.TacticsIn
import Derived.Test.YtiimlfgjnapgjaaGreatDoorProg
import Derived.Test.YtiimlfgjnapgjaaGreatDoorVPart2
set_option linter.unusedVariables false
set_option linter.unusedSimpArgs false
/- Nodes, fifth part: slices of what is one cell; lists of slices; buffers that grow behind a pointer. -/
namespace Go.Proofs.YtiimlfgjnapgjaaGreatDoorV
open Go Go.RowKit
section
variable {P : Program} {w : World}
theorem Sl.of_own {B n : Nat} {e : TypeId} {v : Value} {cs : List Value} (h : w.ownsRow B e 1 v n cs) : Sl w 1 v n cs := by
  obtain ⟨h1, h2⟩ := h
  rcases h2 with ⟨rfl, h0⟩ | ⟨g, cap, cur, rfl, hb, hg, hn, hm, hs, ht⟩
  · exact ⟨none, 0, by rw [h0], by omega, h1, (fun _ h => by cases h), fun _ => h0⟩
  · refine ⟨some ⟨g, 0, none⟩, cap, rfl, hn, h1, fun ad ha j u hj => ?_, fun h => by cases h⟩
    injection ha with ha; subst ha
    exact World.ownsRow.cells ⟨h1, .inr ⟨g, cap, cur, rfl, hb, hg, hn, hm, hs, ht⟩⟩ (g := g) rfl j u hj
theorem Sl.shape {sz n : Nat} {v : Value} {cs : List Value} (h : Sl w sz v n cs) : ∃ a c, v = .slice a n c ∧ n ≤ c := let ⟨a, c, h1, h2, _⟩ := h; ⟨a, c, h1, h2⟩
theorem gLen_slv {t : TypeId} {sz n : Nat} {v : Value} {cs : List Value} {K : Nat → Prop} (h : Sl w sz v n cs) (hk : K n) (ht : slOf P t (elOf P t) = true := by kernel_rfl) : gLen P t v K := by
  obtain ⟨a, c, rfl, _⟩ := h.shape; exact gLen_sl hk ht
/-- An element's place, where elements are one cell. -/
theorem gIdx_1 {t : TypeId} {ki : IntKind} {v : Value} {n : Nat} {cs : List Value} {i : Int} {K : Addr → Prop} (h : Sl w 1 v n cs) (h0 : 0 ≤ i) (h1 : i < n)
    (hk : ∀ ad u, cs[i.toNat]? = some u → w.cell? ad = some u → v.ownBlock = some ad.block → K ad) (ht : slSz P t 1 = true := by kernel_rfl) : gIdx P t v (.int ki i) K := by
  obtain ⟨hu, ii, hi, hsz⟩ := slSz_ok ht
  obtain ⟨a, c, rfl, _, hl, h3, h4⟩ := h
  cases a with
  | none => have := h4 rfl; omega
  | some ad =>
    have hlt : i.toNat < cs.length := by omega
    refine ⟨ad.add i.toNat, fun w => ?_, hk _ cs[i.toNat] (by simp [hlt]) (h3 ad rfl i.toNat _ (by simp [hlt])) ?_⟩
    · simp only [Instr.indexAt, asIntOf, Sem.run_bind, Sem.run_pure, Result.andThen_ok, run_underlying hu]
      rw [if_pos ⟨h0, h1⟩]
      simp [sizeOf, typeInfo, hi, hsz]
    · show some ad.block = some (ad.add i.toNat).block
      unfold Addr.add; split <;> rfl
/-- A slice of slices of numbers. -/
def NL (k : IntKind) (w : World) (v : Value) (xss : List (List Int)) : Prop := ∃ us : List Value, Sl w 1 v xss.length us ∧ ∀ (i : Nat) (u : Value) (xs : List Int), us[i]? = some u → xss[i]? = some xs → Nm k w u xs
theorem NL.ev {k : IntKind} {w' : World} {v : Value} {xss : List (List Int)} (h : NL k w v xss) (he : Ev w w') : NL k w' v xss := by
  obtain ⟨us, h1, h2⟩ := h; exact ⟨us, h1.ev he, fun i u xs a b => (h2 i u xs a b).ev he⟩
/-- What is stable under changes in S. -/
def Stab (S : SS) (w : World) (Q : World → Prop) : Prop := ∀ w', Ch S w w' → Q w'
theorem Stab.now {S : SS} {Q : World → Prop} (h : Stab S w Q) : Q w := h w (Ch.refl S w)
theorem Nm.stab {k : IntKind} {S : SS} {v : Value} {xs : List Int} (h : Nm k w v xs) (hs : ∀ g i, v.ownBlock = some g → g < w.heap.size → ¬ S g i) : Stab S w fun w' => Nm k w' v xs := fun w' hc => by
  refine ⟨?_, h.2⟩
  obtain ⟨a, c, rfl, h1, h2, h3, h4⟩ := h.1
  refine ⟨a, c, rfl, h1, h2, fun ad ha j u hj => ?_, h4⟩
  subst ha
  have hcell := h3 ad rfl j u hj
  have hb : (ad.add j).block = ad.block := by unfold Addr.add; split <;> rfl
  refine hc.cell hcell ?_
  have hlt := World.block_lt_of_cell? w _ hcell
  rw [hb] at hlt ⊢
  exact hs _ _ rfl hlt

/-! ### Bytes that grow behind a pointer -/
/-- A struct of one slice of bytes of its own. -/
def Wr (e : TypeId) (w : World) (ad : Addr) (v : Value) (xs : List Int) : Prop := St w ad [v] ∧ ON .u8 e w 0 v xs ∧ v.ownBlock ≠ some ad.block
/-- What it stands on. -/
abbrev Ft (ad : Addr) (v : Value) : SS := fun k _ => k = ad.block ∨ v.ownBlock = some k
theorem Wr.ch {e : TypeId} {S : SS} {w' : World} {ad : Addr} {v : Value} {xs : List Int} (h : Wr e w ad v xs) (hc : Ch S w w') (hs : ∀ k i, Ft ad v k i → ¬ S k i) : Wr e w' ad v xs :=
  ⟨h.1.ch hc fun _ _ => hs _ _ (.inl rfl), h.2.1.ch hc fun g i hg => hs g i (.inr hg), h.2.2⟩
theorem Wr.ev {e : TypeId} {w' : World} {ad : Addr} {v : Value} {xs : List Int} (h : Wr e w ad v xs) (hc : Ev w w') : Wr e w' ad v xs := h.ch hc fun _ _ _ h => h
theorem Wr.lt {e : TypeId} {ad : Addr} {v : Value} {xs : List Int} (h : Wr e w ad v xs) {k i : Nat} (hk : Ft ad v k i) : k < w.heap.size := by
  rcases hk with rfl | hk
  · exact h.1.lt
  · exact (h.2.1.base hk).2
/-- A step of such a thing. -/
def WrS (e : TypeId) (w w' : World) (ad : Addr) (v v' : Value) (xs : List Int) : Prop := Wr e w' ad v' xs ∧ Ch (Ft ad v) w w' ∧ Moved w v v'
theorem Wr.step {e : TypeId} {ad : Addr} {v : Value} {xs : List Int} (h : Wr e w ad v xs) : WrS e w w ad v v xs := ⟨h, Ch.refl _ w, .inl rfl⟩
theorem Moved.trans {w w1 : World} {v v1 v2 : Value} (h : Moved w v v1) (h2 : Moved w1 v1 v2) (hs : w.heap.size ≤ w1.heap.size) : Moved w v v2 := by
  rcases h2 with h2 | h2
  · rcases h with h | h
    · exact .inl (h2.trans h)
    · exact .inr fun g hg => h g (by rw [← h2]; exact hg)
  · exact .inr fun g hg => Nat.le_trans hs (h2 g hg)
theorem WrS.trans {e : TypeId} {w w1 w2 : World} {ad : Addr} {v v1 v2 : Value} {xs ys : List Int} (h : WrS e w w1 ad v v1 xs) (h2 : WrS e w1 w2 ad v1 v2 ys) : WrS e w w2 ad v v2 ys := by
  refine ⟨h2.1, Ch.trans h.2.1 h2.2.1 fun n i hn hf => ?_, h.2.2.trans h2.2.2 h.2.1.size⟩
  rcases hf with hf | hf
  · exact .inl hf
  · rcases h.2.2 with hm | hm
    · exact .inr (hm ▸ hf)
    · have := hm n hf; omega
theorem WrS.ev {e : TypeId} {w w1 w2 : World} {ad : Addr} {v v1 : Value} {xs : List Int} (h : WrS e w w1 ad v v1 xs) (he : Ev w1 w2) : WrS e w w2 ad v v1 xs :=
  h.trans ⟨h.1.ev he, he.mono fun _ _ _ h => h.elim, .inl rfl⟩
theorem WrS.pre {e : TypeId} {w w1 w2 : World} {ad : Addr} {v v1 : Value} {xs : List Int} (he : Ev w w1) (h : WrS e w1 w2 ad v v1 xs) : WrS e w w2 ad v v1 xs :=
  ⟨h.1, Ch.trans (he.mono fun _ _ _ h => h.elim) h.2.1 fun _ _ _ h => h, by rcases h.2.2 with h | h; exact .inl h; exact .inr fun g hg => Nat.le_trans he.size (h g hg)⟩
/-- Another thing that stands on something else is as it was. -/
theorem WrS.other {e : TypeId} {w w' : World} {ad ad2 : Addr} {v v' v2 : Value} {xs ys : List Int} (h : WrS e w w' ad v v' xs) (h2 : Wr e w ad2 v2 ys) (hd : ∀ k i, Ft ad2 v2 k i → ¬ Ft ad v k i) : Wr e w' ad2 v2 ys ∧ ∀ k i, Ft ad2 v2 k i → ¬ Ft ad v' k i := by
  refine ⟨h2.ch h.2.1 hd, fun k i hk hf => ?_⟩
  rcases hf with hf | hf
  · exact hd k i hk (.inl hf)
  · rcases h.2.2 with hm | hm
    · exact hd k i hk (.inr (hm ▸ hf))
    · have := hm k hf; have := h2.lt hk; omega
end
end Go.Proofs.YtiimlfgjnapgjaaGreatDoorV

/- Lists told by what stands at each place. -/
namespace Go.Proofs.YtiimlfgjnapgjaaGreatDoorV
open Go Go.RowKit
end Go.Proofs.YtiimlfgjnapgjaaGreatDoorV

/- Bit operations, as sums. -/
namespace Go.Proofs.YtiimlfgjnapgjaaGreatDoorV
open Go Go.RowKit

theorem bits8 : (2 : Nat) ^ IntKind.u8.bits = 256 := rfl
theorem wrap_u {k : IntKind} (hk : k.signed = false) (n : Nat) : k.wrap (n : Int) = ((n % 2 ^ k.bits : Nat) : Int) := by
  simp only [IntKind.wrap, hk]; simp
theorem ofInt_nat (b n : Nat) : BitVec.ofInt b (n : Int) = BitVec.ofNat b n := BitVec.ofInt_natCast b n
theorem iAnd_nat {k : IntKind} (hk : k.signed = false) {a b : Nat} (ha : a < 2 ^ k.bits) (hb : b < 2 ^ k.bits) : iAnd k a b = ((a &&& b : Nat) : Int) := by
  unfold iAnd; rw [ofInt_nat, ofInt_nat, BitVec.toNat_and, BitVec.toNat_ofNat, BitVec.toNat_ofNat, Nat.mod_eq_of_lt ha, Nat.mod_eq_of_lt hb, wrap_u hk, Nat.mod_eq_of_lt (Nat.lt_of_le_of_lt Nat.and_le_left ha)]
theorem iOr_nat {k : IntKind} (hk : k.signed = false) {a b : Nat} (ha : a < 2 ^ k.bits) (hb : b < 2 ^ k.bits) : iOr k a b = ((a ||| b : Nat) : Int) := by
  unfold iOr; rw [ofInt_nat, ofInt_nat, BitVec.toNat_or, BitVec.toNat_ofNat, BitVec.toNat_ofNat, Nat.mod_eq_of_lt ha, Nat.mod_eq_of_lt hb, wrap_u hk, Nat.mod_eq_of_lt (Nat.or_lt_two_pow ha hb)]
theorem iXor_nat {k : IntKind} (hk : k.signed = false) {a b : Nat} (ha : a < 2 ^ k.bits) (hb : b < 2 ^ k.bits) : iXor k a b = ((a ^^^ b : Nat) : Int) := by
  unfold iXor; rw [ofInt_nat, ofInt_nat, BitVec.toNat_xor, BitVec.toNat_ofNat, BitVec.toNat_ofNat, Nat.mod_eq_of_lt ha, Nat.mod_eq_of_lt hb, wrap_u hk, Nat.mod_eq_of_lt (Nat.xor_lt_two_pow ha hb)]
/-- A mask of the lowest bits. -/
theorem iAnd_mask {k : IntKind} (hk : k.signed = false) {a : Int} {m n : Nat} (h0 : 0 ≤ a) (ha : a < 2 ^ k.bits) (hm : 2 ^ m - 1 = n) (hn : n < 2 ^ k.bits) : iAnd k a n = a % ((2 ^ m : Nat) : Int) := by
  obtain ⟨a, rfl⟩ := Int.eq_ofNat_of_zero_le h0
  have ha' : a < 2 ^ k.bits := by exact_mod_cast ha
  rw [iAnd_nat hk ha' hn, ← hm, Nat.and_two_pow_sub_one_eq_mod]; rfl
theorem iShr_div {k : IntKind} {a : Int} {n : Nat} (hn : n ≤ k.bits) (h0 : 0 ≤ a) : iShr k a n = a / ((2 ^ n : Nat) : Int) := by
  unfold iShr
  rw [Int.toNat_natCast, Nat.min_eq_left hn, Int.fdiv_eq_ediv_of_nonneg _ (Int.le_of_lt (Int.pow_pos (by decide)))]
  congr 1
end Go.Proofs.YtiimlfgjnapgjaaGreatDoorV

/- What a law's row hands in, in the engine's words. -/
namespace Go.Proofs.YtiimlfgjnapgjaaGreatDoorV
open Go Go.RowKit
theorem wf_rng {k : IntKind} {n : Int} (h : (Lit.int k n).wf = true) : k.min ≤ n ∧ n ≤ k.max := by simpa [Lit.wf] using h
/-- What a law has to show. -/
def Holds (w : World) (e : Ending) (w' : World) : Prop := e = .returned (.bool true) ∧ Ev w w'
end Go.Proofs.YtiimlfgjnapgjaaGreatDoorV

/- What is handed in, of whatever type. -/
namespace Go.Proofs.YtiimlfgjnapgjaaGreatDoorV
open Go Go.RowKit
/-- These cells read as a value of a type, and nothing that is met in reading it is longer than memory. -/
def Good (P : Program) (w : World) (t : TypeId) (cs : List Value) : Prop := ∃ (H : Type) (enc : TypeId × Value → H) (n : Nat) (y : DataW H × List MemPlace), DataW.trod enc P w 0 (fun _ => true) true n t cs = some y ∧ ∀ m ∈ y.1.weights P t, m ≤ reachBytes
theorem weights_all {H : Type} {P : Program} {e : TypeId} : ∀ {ds : List (DataW H)} {d : DataW H}, d ∈ ds → ∀ n ∈ d.weights P e, n ∈ DataW.weightsAll P e ds
  | d0 :: ds, d, hd, n, hn => by
    simp only [DataW.weightsAll, List.mem_append]
    rcases List.mem_cons.1 hd with rfl | hd
    · exact .inl hn
    · exact .inr (weights_all hd n hn)
section
variable {P : Program} {w : World} {t e : TypeId} {cs : List Value}
theorem good_int {k : IntKind} (ht : P.underlying t = some (.int k)) (h : Good P w t cs) : ∃ n, cs = [.int k n] ∧ k.min ≤ n ∧ n ≤ k.max := by
  obtain ⟨H, enc, n, y, h, _⟩ := h
  obtain ⟨m, rfl, _, hw⟩ := DataW.trod_int ht h
  exact ⟨m, rfl, wf_rng hw⟩
theorem good_stringR (ht : P.underlying t = some .string) (h : Good P w t cs) : ∃ s, cs = [.string s] ∧ s.size ≤ reachBytes := by
  obtain ⟨H, enc, n, y, h, hz⟩ := h
  obtain ⟨m, rfl, rfl, hw⟩ := DataW.trod_string ht h
  refine ⟨m, rfl, ?_⟩
  have := hz m.data.toList.length (by simp [DataW.weights])
  obtain ⟨⟨l⟩⟩ := m; exact this
theorem good_bool (ht : P.underlying t = some .bool) (h : Good P w t cs) : ∃ b, cs = [.bool b] := by
  obtain ⟨H, enc, n, y, h, _⟩ := h
  cases n with
  | zero => simp [DataW.trod] at h
  | succ n =>
    unfold DataW.trod at h
    rw [ht] at h
    split at h <;> simp_all
theorem good_struct {fs : Array Field} (ht : P.underlying t = some (.struct fs)) (h : Good P w t cs) : cs.length = P.cellsOf t ∧ ∀ (i : Nat) (f : Field), fs[i]? = some f → Good P w f.type ((cs.drop f.offset).take (P.cellsOf f.type)) := by
  obtain ⟨H, enc, n, y, h, hz⟩ := h
  obtain ⟨xs, m, _, hy, hl, hx, hf⟩ := DataW.trod_struct ht h
  refine ⟨hl, fun i f hi => ?_⟩
  have hlt : i < xs.length := by rw [hx]; exact (Array.getElem?_eq_some_iff.1 hi).1
  refine ⟨H, enc, m, xs[i], by rw [hf i f hi]; simp [hlt], fun q hq => hz q ?_⟩
  rw [hy]
  simp only [DataW.weights, ht]
  exact DataW.weights_mem_each (j := i) (t := f.type) (d := xs[i].1) (by rw [List.getElem?_map, Array.getElem?_toList, hi]; rfl) (by simp [hlt]) q hq
theorem good_slice (ht : P.underlying t = some (.slice e)) (h : Good P w t cs) : ∃ a len cap, cs = [.slice a len cap] ∧ len ≤ cap ∧ cap ≤ maxLen ∧ (a = none → len = 0 ∧ cap = 0) ∧
    len * P.bytesOf e ≤ reachBytes ∧ ∀ ad, a = some ad → ∀ i, i < len → ∃ c : List Value, c.length = P.cellsOf e ∧ (∀ j, j < P.cellsOf e → w.cell? ((ad.add (i * P.cellsOf e)).add j) = c[j]?) ∧ Good P w e c := by
  obtain ⟨H, enc, n, y, h, hz⟩ := h
  rcases DataW.trod_slice ht h with ⟨rfl, _⟩ | ⟨a, len, cap, elems, rest, m, _, rfl, hy0, hb, hl, hm, hlen, hel, hsp, hns⟩
  · exact ⟨none, 0, 0, rfl, Nat.le_refl _, Nat.zero_le _, (fun _ => ⟨rfl, rfl⟩), by rw [Nat.zero_mul]; exact Nat.zero_le _, (fun ad h => by cases h)⟩
  · rw [hy0] at hz
    refine ⟨some a, len, cap, rfl, hl, hm, (fun h => by cases h), ?_, fun ad had i hi => ?_⟩
    · have := hz (((elems.map (·.1)).length + (rest.map (·.1)).length) * P.bytesOf e) (by simp only [DataW.weights, ht]; exact List.mem_cons_self)
      refine Nat.le_trans (Nat.mul_le_mul_right _ ?_) this
      rw [List.length_map, hlen]; exact Nat.le_add_right _ _
    injection had with had; subst had
    have hE := hel i hi
    have hlt : i < elems.length := by omega
    rw [show elems[i]? = some elems[i] by simp [hlt], Option.bind_eq_some_iff] at hE
    obtain ⟨c, hc, hy⟩ := hE
    obtain ⟨_, hcl, hcc⟩ := World.cells?_some hc
    refine ⟨c, hcl, hcc, H, enc, m, elems[i], hy, fun q hq => hz q ?_⟩
    simp only [DataW.weights, ht]
    refine List.mem_cons_of_mem _ (List.mem_append_left _ (weights_all (d := elems[i].1) ?_ q hq))
    exact List.mem_map.2 ⟨elems[i], List.getElem_mem hlt, rfl⟩
theorem Addr.add2 (ad : Addr) (i j : Nat) (h : ad.spot = none ∨ i = 0 ∨ j = 0) : (ad.add i).add j = ad.add (i + j) := by
  by_cases hi : i = 0
  · subst hi; rw [Addr.add_zero', Nat.zero_add]
  · by_cases hj : j = 0
    · subst hj; rw [Addr.add_zero']; rfl
    · have h1 : ad.add i = ⟨ad.block, ad.off + i, none⟩ := by unfold Addr.add; rw [if_neg hi]
      have h2 : ad.add (i + j) = ⟨ad.block, ad.off + (i + j), none⟩ := by unfold Addr.add; rw [if_neg (by omega)]
      rw [h1, h2, Addr.add_lit]; congr 1; omega
theorem Addr.add2' (ad : Addr) (i j : Nat) : (ad.add i).add j = ad.add (i + j) := by
  by_cases hi : i = 0
  · exact Addr.add2 ad i j (.inr (.inl hi))
  · by_cases hj : j = 0
    · exact Addr.add2 ad i j (.inr (.inr hj))
    · have h1 : ad.add i = ⟨ad.block, ad.off + i, none⟩ := by unfold Addr.add; rw [if_neg hi]
      have h2 : ad.add (i + j) = ⟨ad.block, ad.off + (i + j), none⟩ := by unfold Addr.add; rw [if_neg (by omega)]
      rw [h1, h2, Addr.add_lit]; congr 1; omega
/-- A slice, cell by cell, and how much memory it takes. -/
theorem good_slR {v : Value} {sz : Nat} (ht : P.underlying t = some (.slice e)) (hz : P.cellsOf e = sz) (h : Good P w t [v]) : ∃ n cs, Sl w sz v n cs ∧ n ≤ maxLen ∧ n * P.bytesOf e ≤ reachBytes ∧ ∀ i, i < n → Good P w e ((cs.drop (i * sz)).take sz) := by
  obtain ⟨a, len, cap, hv, hl, hm, hn, hby, hel⟩ := good_slice ht h
  simp only [List.cons.injEq, and_true] at hv
  subst hv; subst hz
  cases a with
  | none =>
    obtain ⟨rfl, rfl⟩ := hn rfl
    exact ⟨0, [], ⟨none, 0, rfl, Nat.le_refl _, by simp, (fun ad h => by cases h), fun _ => rfl⟩, Nat.zero_le _, hby, fun i hi => by omega⟩
  | some ad =>
    have : ∀ m, m ≤ len → ∃ cs : List Value, cs.length = m * P.cellsOf e ∧ (∀ j u, cs[j]? = some u → w.cell? (ad.add j) = some u) ∧ ∀ i, i < m → Good P w e ((cs.drop (i * P.cellsOf e)).take (P.cellsOf e)) := by
      intro m
      induction m with
      | zero => intro _; exact ⟨[], by simp, (fun j u h => by simp at h), fun i h => by omega⟩
      | succ m ih =>
        intro hml
        obtain ⟨cs, h1, h2, h3⟩ := ih (by omega)
        obtain ⟨c, c1, c2, c3⟩ := hel ad rfl m (by omega)
        refine ⟨cs ++ c, by rw [List.length_append, h1, c1, Nat.succ_mul], fun j u hj => ?_, fun i hi => ?_⟩
        · rw [List.getElem?_append] at hj
          split at hj
          · exact h2 j u hj
          · rename_i hge
            have hlt := (List.getElem?_eq_some_iff.1 hj).1
            have := c2 (j - cs.length) (by omega)
            rw [Addr.add2', h1, show m * P.cellsOf e + (j - m * P.cellsOf e) = j by omega] at this
            rw [this, ← h1]; exact hj
        · by_cases e1 : i = m
          · subst e1
            rw [← h1, List.drop_left, ← c1, List.take_length]; exact c3
          · have hle : i * P.cellsOf e + P.cellsOf e ≤ m * P.cellsOf e := by
              have := Nat.mul_le_mul_right (P.cellsOf e) (show i + 1 ≤ m by omega)
              rwa [Nat.succ_mul] at this
            rw [List.drop_append_of_le_length (by omega), List.take_append_of_le_length (by rw [List.length_drop]; omega)]
            exact h3 i (by omega)
    obtain ⟨cs, h1, h2, h3⟩ := this len (Nat.le_refl _)
    exact ⟨len, cs, ⟨some ad, cap, rfl, hl, h1, (fun ad' had j u hj => by injection had with had; subst had; exact h2 j u hj), fun h => by cases h⟩, by omega, hby, h3⟩
/-- A slice of numbers, and how much memory it takes. -/
theorem good_nmR {k : IntKind} {v : Value} (ht : P.underlying t = some (.slice e)) (he : P.underlying e = some (.int k)) (hz : P.cellsOf e = 1) (h : Good P w t [v]) : ∃ xs, Nm k w v xs ∧ xs.length ≤ maxLen ∧ xs.length * P.bytesOf e ≤ reachBytes := by
  obtain ⟨n, cs, hS, hn, hby, hg⟩ := good_slR ht hz h
  have hcl : cs.length = n := by obtain ⟨_, _, _, _, h, _⟩ := hS; omega
  have : ∀ m, m ≤ n → ∃ xs : List Int, cs.take m = xs.map (.int k) ∧ inR k xs := by
    intro m
    induction m with
    | zero => intro _; exact ⟨[], by simp, fun x hx => by cases hx⟩
    | succ m ih =>
      intro hm
      obtain ⟨xs, h1, h2⟩ := ih (by omega)
      obtain ⟨x, hx, hr⟩ := good_int he (hg m (by omega))
      refine ⟨xs ++ [x], ?_, fun y hy => ?_⟩
      · rw [List.take_succ_eq_append_getElem (by omega), h1, List.map_append]
        rw [Nat.mul_one, List.drop_eq_getElem_cons (by omega), List.take_succ_cons, List.take_zero] at hx
        simp only [List.cons.injEq, and_true] at hx
        rw [hx]; rfl
      · rcases List.mem_append.1 hy with hy | hy
        · exact h2 y hy
        · simp at hy; subst hy; exact hr
  obtain ⟨xs, h1, h2⟩ := this n (Nat.le_refl _)
  rw [List.take_of_length_le (by omega)] at h1
  have hxl : xs.length = n := by rw [← hcl, h1, List.length_map]
  exact ⟨xs, ⟨by rw [hxl, ← h1]; exact hS, h2⟩, by omega, by rw [hxl]; exact hby⟩
/-- A slice of numbers. -/
theorem good_nm {k : IntKind} {v : Value} (ht : P.underlying t = some (.slice e)) (he : P.underlying e = some (.int k)) (hz : P.cellsOf e = 1) (h : Good P w t [v]) : ∃ xs, Nm k w v xs ∧ xs.length ≤ maxLen :=
  let ⟨xs, h1, h2, _⟩ := good_nmR ht he hz h
  ⟨xs, h1, h2⟩
/-! ### Fields -/
def fldIs (P : Program) (t : TypeId) (i off : Nat) (ft : TypeId) : Bool := match P.underlying t with
  | some (.struct fs) => match fs[i]? with
    | some f => Nat.beq f.offset off && Nat.beq f.type ft && Nat.beq (P.cellsOf ft) 1 && Nat.blt off (P.cellsOf t)
    | none => false
  | _ => false
theorem good_fld {i off : Nat} {ft : TypeId} (hf : fldIs P t i off ft = true) (h : Good P w t cs) : ∃ v, cs[off]? = some v ∧ Good P w ft [v] := by
  unfold fldIs at hf
  split at hf
  · rename_i fs hu
    split at hf
    · rename_i f hi
      simp only [Bool.and_eq_true] at hf
      obtain ⟨⟨⟨h1, h2⟩, h3⟩, h4⟩ := hf
      have hs := good_struct hu h
      have hg := hs.2 i f hi
      rw [Nat.eq_of_beq_eq_true h1, Nat.eq_of_beq_eq_true h2, Nat.eq_of_beq_eq_true h3] at hg
      have hlt : off < cs.length := by rw [hs.1]; exact Nat.le_of_ble_eq_true h4
      rw [List.drop_eq_getElem_cons hlt, List.take_succ_cons, List.take_zero] at hg
      exact ⟨cs[off], by simp [hlt], hg⟩
    · cases hf
  · cases hf
theorem good_of {H : Type} {enc : TypeId × Value → H} {y : DataW H × List MemPlace} (h : ∃ m, DataW.trod enc P w 0 (fun _ => true) true m t cs = some y) (hz : ∀ m ∈ y.1.weights P t, m ≤ reachBytes) : Good P w t cs := let ⟨m, h⟩ := h; ⟨H, enc, m, y, h, hz⟩
theorem okWide_agg {P : Program} {t : TypeId} {fs : Array Field} {w : World} {r : Reach} {b : Nat} {v : Value} (ht : P.underlying t = some (.struct fs)) (h : Value.okWide P w r b t v) : ∃ cs, v = .agg cs ∧ cs.size = P.cellsOf t := by
  unfold Value.okWide at h
  rw [ht] at h
  obtain ⟨cs, h1, h2, _⟩ := h
  exact ⟨cs, h1, h2⟩
theorem wts_of {H : Type} {P : Program} {ts : List TypeId} {ds : List (DataW H)} (h : (DataW.weightsEach P ts ds).all (· ≤ reachBytes) = true) {j : Nat} {t : TypeId} {d : DataW H} (ht : ts[j]? = some t) (hd : ds[j]? = some d) : ∀ m ∈ d.weights P t, m ≤ reachBytes := fun m hm => by
  have := List.all_eq_true.1 h m (DataW.weights_mem_each ht hd m hm); simpa using this
/-- An element's place, of whatever size. -/
theorem gIdx_sz {t : TypeId} {ki : IntKind} {sz : Nat} {v : Value} {n : Nat} {cs : List Value} {i : Nat} {K : Addr → Prop} (h : Sl w sz v n cs) (h1 : i < n)
    (hk : ∀ ad, (∀ j u, j < sz → cs[i * sz + j]? = some u → w.cell? (ad.add j) = some u) → v.ownBlock = some ad.block → K ad) (ht : slSz P t sz = true := by kernel_rfl) : gIdx P t v (.int ki i) K := by
  obtain ⟨hu, ii, hi, hsz⟩ := slSz_ok ht
  obtain ⟨a, c, rfl, _, hl, h3, h4⟩ := h
  cases a with
  | none => have := h4 rfl; omega
  | some ad =>
    refine ⟨ad.add (i * sz), fun w => ?_, hk _ (fun j u hj hu => by rw [Addr.add2']; exact h3 ad rfl _ u hu) ?_⟩
    · simp only [Instr.indexAt, asIntOf, Sem.run_bind, Sem.run_pure, Result.andThen_ok, run_underlying hu]
      rw [if_pos ⟨by omega, by omega⟩]
      simp [sizeOf, typeInfo, hi, hsz]
    · show some ad.block = some (ad.add (i * sz)).block
      unfold Addr.add; split <;> rfl
end
end Go.Proofs.YtiimlfgjnapgjaaGreatDoorV

/- The engine, fifth part: functions that are ranged over (their calls of yield), and functions that range over a function. -/
namespace Go.Proofs.YtiimlfgjnapgjaaGreatDoorV
open Go Go.RowKit

/-- The wide fence, in a round or not. -/
abbrev FW (ro : Option Nat) : Fence := { fn := fun _ => True, depth := none, alive := false, round := ro }
theorem callsIn_FW {ro : Option Nat} {m : Nat} {P : Program} {f : FuncId} {args : Array Value} {w : World} {R : Ending → World → Prop} : CallsIn (FW ro) m P f args w R ↔ Calls P f args w R := callsIn_wide (n := m)
theorem roundIn_FW {F : Fence} {ro : Option Nat} {m k l : Nat} {P : Program} {f : FuncId} {tmps : Array Value} {cdA bo : Code} {w : World} {R : Ending → World → Prop} (hF : F = Fence.wide) (h : RoundIn F k P l f tmps cdA bo w R) : RoundIn (FW ro) m P l f tmps cdA bo w R := by
  subst hF; exact ⟨trivial, fun c cs _ => h.2 c cs (room_wide _)⟩
def gCallY (P : Program) (fv : Value) (sh : Sh) (args : Array Value) (w : World) (K : TF sh.cks (World → Prop)) : Prop :=
  gCallV P fv sh args w K ∨ ∃ l m, fv = .func (.yield l) #[] #[] ∧ YieldAt Fence.wide m P l args w (retOk sh K)
/-- A call of a function that the model runs itself. -/
def gExt (P : Program) (f : FuncId) (sh : Sh) (args : Array Value) (w : World) (K : TF sh.cks (World → Prop)) : Prop := gAny P sh (callFunc f args) w K
def opY (P : Program) (o : Oper) (σ : Env) (w : World) (K : Value → World → Prop) : Prop := match o.op with
  | .call c => match c.callee with
    | .value (.tmp t) => gCallY P (σ t) (shOf P o.type) (c.args.map (evO σ)) w (tlam _ fun vs w' => K ((shOf P o.type).mk vs) w')
    | _ => opG P o σ w K
  | _ => opG P o σ w K
section
variable {P : Program} {o : Oper} {a : Act} {σ : Env} {w : World} {K : Value → World → Prop} {next : Act → World → Prop} {Q : Exit → Act → World → Prop} {ro : Option Nat} {m : Nat}
theorem opIn_of_wp (h : o.wp P a w next Q) (hd : ∀ c, o.op ≠ .defer c) : o.wpIn (FW ro) m P a w next Q := by
  refine ⟨fun _ _ => trivial, ?_⟩
  rw [Oper.semAt_plain (FW ro) _ _ hd]
  unfold Oper.wp at h
  generalize (execOp a.eval o).run P w = r at h ⊢
  unfold Oper.upon at h
  unfold Oper.uponIn
  split at h
  · exact h
  · exact h
  · exact h
  · exact ⟨fun h => (by cases h), callsIn_FW.2 h⟩
  · exact ⟨fun h => (by cases h), fun c cs _ => let ⟨v, w', r, s⟩ := h c cs; ⟨v, w', r, stepsIn_wide.2 s⟩⟩
  · exact h
  · exact h.elim
theorem opG_nd (h : opG P o σ w K) : ∀ c, o.op ≠ .defer c := by
  intro c hc
  unfold opG isQ at h
  rw [hc] at h
  exact h
theorem opY_in (he : a.eval = evO σ) (h : opY P o σ w K) (hn : ∀ v w', K v w' → next (a.put o.dst v) w') : o.wpIn (FW ro) m P a w next Q := by
  have plain : opG P o σ w K → o.wpIn (FW ro) m P a w next Q := fun h => opIn_of_wp (opG_wp he h hn) (opG_nd h)
  unfold opY at h
  split at h
  · rename_i c ho
    split at h
    · rename_i t hc
      rcases h with h | ⟨l, k, hv, fn, tmps, cdA, bo, hy, hR⟩
      · refine plain ?_
        unfold opG isQ
        rw [ho]; dsimp only; rw [hc]; dsimp only
        unfold callG
        rw [hc]; exact h
      · refine ⟨fun _ _ => trivial, ?_⟩
        rw [Oper.semAt_plain (FW ro) _ _ (by rw [ho]; simp)]
        have hrun : (execOp a.eval o).run P w = .ok (.round l fn tmps cdA bo) w := by
          rw [he]; unfold execOp; rw [ho]; dsimp only
          unfold resolve; rw [hc]; dsimp only [evO]
          rw [hv]
          simp only [Deferred.ofValue, Sem.run_bind, Sem.run_pure, Result.andThen_ok]
          simp only [Array.empty_append, invoke, Array.append_empty]
          exact hy
        rw [hrun]
        refine ⟨fun h => (by cases h), (roundIn_FW rfl hR).mono ?_⟩
        intro e w' hret
        obtain ⟨vs, hv, hk⟩ := tex_tlam hret
        subst hv
        exact hn _ _ hk
    · exact plain h
  · exact plain h
end
structure RepD (ds : List Deferred) (n : Nat) (a : Act) (σ : Env) : Prop where
  size : a.tmps.size = n
  defers : a.defers = ds
  get : ∀ t, a.tmps.getD t undef = σ t
theorem RepD.eval {ds : List Deferred} {n : Nat} {a : Act} {σ : Env} (h : RepD ds n a σ) : a.eval = evO σ := by
  funext x; cases x <;> simp only [Act.eval, evO, h.get]
theorem RepD.put {ds : List Deferred} {n : Nat} {a : Act} {σ : Env} (h : RepD ds n a σ) {d : Option Nat} (hd : ∀ t, d = some t → t < n) (v : Value) : RepD ds n (a.put d v) (updO σ d v) := by
  have h0 : Rep n { a with defers := [] } σ := ⟨h.size, rfl, h.get⟩
  have h1 := h0.put hd v
  exact ⟨by have := h1.size; cases d <;> simpa [Act.put] using this, by cases d <;> exact h.defers, fun t => by have := h1.get t; cases d <;> exact this⟩
def opsY (P : Program) (ops : Array Oper) : List Oper → Env → World → (Env → World → Prop) → Prop
  | [], σ, w, K => K σ w
  | o :: r, σ, w, K => match o.guard with
    | none => opY P o σ w fun v w' => opsY P ops r (updO σ o.dst v) w' K
    | some g => gIf (guardB ops σ g) (opY P o (setG ops σ g true) w fun v w' => opsY P ops r (updO (setG ops σ g true) o.dst v) w' K) (opsY P ops r (updO (setG ops σ g false) o.dst undef) w K)
section
variable {P : Program} {ops : Array Oper} {n : Nat} {ds : List Deferred} {ro : Option Nat} {m : Nat}
theorem wanted_guardD {a : Act} {σ : Env} {o : Oper} {g : Nat × Bool} (hr : RepD ds n a σ) (hg : o.guard = some g) : Region.wanted o (yielded ops a.tmps) = guardB ops σ g :=
  wanted_guard (a := { a with defers := [] }) (n := n) ⟨hr.size, rfl, hr.get⟩ hg
theorem opsY_in {A : List Nat} {σ₀ : Env} {K : Env → World → Prop} {Q : Exit → Act → World → Prop} (hQ : ∀ a σ w, RepD ds n a σ → agree A σ₀ σ → K σ w → Q .normal a w) :
    ∀ (l : List Oper) (a : Act) (σ : Env) (w : World), (∀ t, t ∈ dsts l → t < n ∧ t ∈ A) → RepD ds n a σ → agree A σ₀ σ → opsY P ops l σ w K → wpListIn (FW ro) m P ops Q l a w
  | [], a, σ, w, _, hr, hag, h => hQ a σ w hr hag h
  | o :: r, a, σ, w, hd, hr, hag, h => by
    have hd1 : ∀ t, o.dst = some t → t < n ∧ t ∈ A := fun t ht => hd t (mem_dsts (by simp) ht)
    have hd2 : ∀ t, t ∈ dsts r → t < n ∧ t ∈ A := fun t ht => hd t (by simp only [dsts]; split <;> simp [ht])
    have step : ∀ v w', opsY P ops r (updO σ o.dst v) w' K → wpListIn (FW ro) m P ops Q r (a.put o.dst v) w' := fun v w' h' =>
      opsY_in hQ r _ _ _ hd2 (hr.put (fun t ht => (hd1 t ht).1) v) (hag.trans (agree_updO (fun t ht => (hd1 t ht).2) v)) h'
    simp only [opsY] at h
    split at h
    · rename_i hg
      exact wpListIn_plain hg fun K' hK => opY_in hr.eval h fun v w' hk => hK _ _ (step v w' hk)
    · rename_i g hg
      refine wpListIn_step fun K' hK => ?_
      rw [wanted_guardD hr hg]
      unfold gIf at h
      split at h
      · rename_i hb; rw [hb, if_pos rfl]; rw [setG_eq hb] at h; exact opY_in hr.eval h fun v w' hk => hK _ _ (step v w' hk)
      · rename_i hb; rw [hb, if_neg (by simp)]; rw [setG_eq hb] at h; exact ⟨fun _ _ => trivial, hK _ _ (step undef w h)⟩
end
def denY (P : Program) (dr : Bool) (An : An) : Code → (Env → World → Prop) → (Nat → Env → World → Prop) → (Env → World → Prop) → Env → World → Prop
  | .skip, N, _, _, σ, w => N σ w
  | .label _, N, _, _, σ, w => N σ w
  | .region _ ops d, N, _, _, σ, w => match d with
    | false => opsY P ops ops.toList σ w N
    | true => match dr with
      | true => drawG P ops σ w N
      | false => False
  | .seq a b, N, X, R, σ, w => match lk (key b) An.cut with
    | none => denY P dr An a (fun σ' w' => denY P dr An b N X R σ' w') X R σ w
    | some D => ∃ J : TF (cks D) (World → Prop), denY P dr An a (fun σ' w' => tapp NoI (cks D) J ((ids D).map σ') w') X R σ w ∧
        ∀ g : Env, tall (cks D) fun vs => ∀ w', tapp NoI (cks D) J vs w' → denY P dr An b N X R (over (ids D) vs (mask (asg a) g σ)) w'
  | .cond c a b, N, X, R, σ, w => match evO σ c with
    | .bool t => gIf t (denY P dr An a N X R σ w) (denY P dr An b N X R σ w)
    | _ => False
  | .block id c, N, X, R, σ, w => denY P dr An c N (fun i => match Nat.beq i id with | true => N | false => X i) R σ w
  | .loop c, _, X, R, σ, w => ∃ (I : TF (cks (An.lp c)) (World → Prop)) (μ : TF (cks (An.lp c)) (World → Nat)),
      tapp NoI _ I ((ids (An.lp c)).map σ) w ∧
      ∀ g : Env, tall (cks (An.lp c)) fun vs => ∀ w', tapp NoI _ I vs w' →
        denY P dr An c (fun σ' w'' => tapp NoI _ I ((ids (An.lp c)).map σ') w'' ∧ tapp NoM _ μ ((ids (An.lp c)).map σ') w'' < tapp NoM _ μ vs w') X R
          (over (ids (An.lp c)) vs (mask (asg c) g σ)) w'
  | .exit id, _, X, _, σ, w => X id σ w
  | .ret, _, _, R, σ, w => R σ w
  | _, _, _, _, _, _ => False
def QofD (ds : List Deferred) (n : Nat) (A : List Nat) (σ₀ : Env) (N : Env → World → Prop) (X : Nat → Env → World → Prop) (R : Env → World → Prop) : Exit → Act → World → Prop
  | .normal, a, w => ∃ σ, RepD ds n a σ ∧ agree A σ₀ σ ∧ N σ w
  | .exit id, a, w => ∃ σ, RepD ds n a σ ∧ agree A σ₀ σ ∧ X id σ w
  | .ret, a, w => ∃ σ, RepD ds n a σ ∧ R σ w
  | _, _, _ => False
section
variable {P : Program} {An : An} {n : Nat} {ds : List Deferred} {ro : Option Nat} {m : Nat}
theorem denY_in {dr : Bool} (hdr : dr = true → ro = none ∧ ds = [] ∧ P.follows .mixedOrders = true) : ∀ (c : Code) (A : List Nat), (∀ t, t ∈ asg c → t ∈ A) → inB n (asg c) = true → ∀ (N : Env → World → Prop) (X : Nat → Env → World → Prop) (R : Env → World → Prop) (σ₀ σ : Env) (a : Act) (w : World),
    RepD ds n a σ → agree A σ₀ σ → denY P dr An c N X R σ w → c.wpIn (FW ro) m P (QofD ds n A σ₀ N X R) a w := by
  have inB_l : ∀ {l m : List Nat}, inB n (l ++ m) = true → inB n l = true := by
    intro l; induction l with
    | nil => intros; rfl
    | cons x l ih => intro m h; simp only [List.cons_append, inB] at h ⊢; split <;> simp_all; exact ih h
  have inB_r : ∀ {l m : List Nat}, inB n (l ++ m) = true → inB n m = true := by
    intro l; induction l with
    | nil => intro m h; exact h
    | cons x l ih => intro m h; simp only [List.cons_append, inB] at h; split at h; exact ih h; cases h
  intro c
  induction c with
  | skip => intro A _ _ N X R σ₀ σ a w hr hag h; exact wpIn_skip ⟨σ, hr, hag, h⟩
  | label l => intro A _ _ N X R σ₀ σ a w hr hag h; exact wpIn_label ⟨σ, hr, hag, h⟩
  | region id ops d =>
    intro A hA hn N X R σ₀ σ a w hr hag h
    cases d with
    | false => exact wpIn_region_list (opsY_in (A := A) (σ₀ := σ₀) (fun a σ w hr hag hk => ⟨σ, hr, hag, hk⟩) _ a σ w (fun t ht => ⟨inB_lt hn ht, hA t ht⟩) hr hag h)
    | true =>
      cases dr with
      | false => exact h.elim
      | true =>
        obtain ⟨rfl, rfl, hm⟩ := hdr rfl
        have h0 : (Code.region id ops true).wp P (QofD [] n A σ₀ N X R) a w := drawG_ok hm id n ops σ a w N _ hn ⟨hr.size, hr.defers, hr.get⟩ (fun _ _ _ h => h) (fun a σ' w hr' hag' hk => ⟨σ', ⟨hr'.size, hr'.defers, hr'.get⟩, hag.trans (hag'.mono hA), hk⟩) h
        exact (wpIn_wide (n := m)).2 h0
  | seq x y ihx ihy =>
    intro A hA hn N X R σ₀ σ a w hr hag h
    simp only [asg, List.mem_append] at hA
    have hnx := inB_l (l := asg x) (m := asg y) hn
    have hny := inB_r (l := asg x) (m := asg y) hn
    simp only [denY] at h
    split at h
    · refine wpIn_seq (wpIn_mono (ihx A (fun t ht => hA t (.inl ht)) hnx _ X R σ₀ σ a w hr hag h) ?_)
      intro e a w hq
      cases e <;> try exact hq
      obtain ⟨σ', hr', hag', hk⟩ := hq
      exact ihy A (fun t ht => hA t (.inr ht)) hny N X R σ₀ σ' a w hr' hag' hk
    · rename_i D hD
      obtain ⟨J, h1, h2⟩ := h
      have h1' := ihx (asg x) (fun t ht => ht) hnx _ X R σ σ a w hr (agree.refl _ _) h1
      refine wpIn_seq (wpIn_mono h1' ?_)
      intro e a w hq
      cases e with
      | normal =>
        obtain ⟨σ', hr', hag', hk⟩ := hq
        have := tapp_all hk (h2 σ') w hk
        rw [mask_eq hag', over_map rfl] at this
        exact ihy A (fun t ht => hA t (.inr ht)) hny N X R σ₀ σ' a w hr' (hag.trans (hag'.mono fun t ht => hA t (.inl ht))) this
      | exit id => obtain ⟨σ', hr', hag', hk⟩ := hq; exact ⟨σ', hr', hag.trans (hag'.mono fun t ht => hA t (.inl ht)), hk⟩
      | ret => exact hq
      | goto l => exact hq
      | panic ch => exact hq
      | outgrown => exact hq
  | cond c x y ihx ihy =>
    intro A hA hn N X R σ₀ σ a w hr hag h
    simp only [asg, List.mem_append] at hA
    simp only [denY] at h
    split at h
    · rename_i t ht
      have hc : a.eval c = .bool t := by rw [hr.eval]; exact ht
      unfold gIf at h
      split at h
      · exact wpIn_cond_true hc (ihx A (fun t ht => hA t (.inl ht)) (inB_l (l := asg x) (m := asg y) hn) N X R σ₀ σ a w hr hag h)
      · exact wpIn_cond_false hc (ihy A (fun t ht => hA t (.inr ht)) (inB_r (l := asg x) (m := asg y) hn) N X R σ₀ σ a w hr hag h)
    · exact h.elim
  | block id x ih =>
    intro A hA hn N X R σ₀ σ a w hr hag h
    refine wpIn_block (wpIn_mono (ih A hA hn N _ R σ₀ σ a w hr hag h) ?_)
    intro e a w hq
    cases e <;> try exact hq
    rename_i i
    simp only [Exit.inBlock]
    obtain ⟨σ', hr', hag', hk⟩ := hq
    by_cases hi : i = id
    · rw [if_pos hi]
      rw [show Nat.beq i id = true by rw [hi]; exact Nat.beq_refl id] at hk
      exact ⟨σ', hr', hag', hk⟩
    · rw [if_neg hi]
      rw [show Nat.beq i id = false by cases hb : Nat.beq i id with | false => rfl | true => exact absurd (Nat.eq_of_beq_eq_true hb) hi] at hk
      exact ⟨σ', hr', hag', hk⟩
  | loop x ih =>
    intro A hA hn N X R σ₀ σ a w hr hag h
    obtain ⟨I, μ, h0, h1⟩ := h
    refine wpIn_loop (I := fun a' w' => ∃ σ', RepD ds n a' σ' ∧ agree (asg x) σ σ' ∧ tapp NoI _ I ((ids (An.lp x)).map σ') w')
      (μ := fun a' w' => tapp NoM _ μ ((ids (An.lp x)).map fun t => a'.tmps.getD t undef) w') ⟨σ, hr, agree.refl _ _, h0⟩ ?_
    intro a' w' ⟨σ', hr', hag', hI⟩
    have := tapp_all hI (h1 σ') w' hI
    rw [mask_eq hag', over_map rfl] at this
    refine wpIn_mono (ih (asg x) (fun t ht => ht) hn _ X R σ σ' a' w' hr' hag' this) ?_
    intro e a'' w'' hq
    have hget : ∀ {a : Act} {σ : Env}, RepD ds n a σ → (fun t => a.tmps.getD t undef) = σ := fun hr => funext hr.get
    cases e with
    | normal =>
      obtain ⟨σ'', hr'', hag'', hk1, hk2⟩ := hq
      refine ⟨⟨σ'', hr'', hag'', hk1⟩, ?_⟩
      rw [hget hr'', hget hr']; exact hk2
    | exit id => obtain ⟨σ'', hr'', hag'', hk⟩ := hq; exact ⟨σ'', hr'', hag.trans (hag''.mono hA), hk⟩
    | ret => exact hq
    | goto l => exact hq
    | panic ch => exact hq
    | outgrown => exact hq
  | exit id => intro A _ _ N X R σ₀ σ a w hr hag h; exact wpIn_exit ⟨σ, hr, hag, h⟩
  | ret => intro A _ _ N X R σ₀ σ a w hr _ h; exact wpIn_ret ⟨σ, hr, h⟩
  | rangeFunc => intro A _ _ N X R σ₀ σ a w _ _ h; exact h.elim
  | scope => intro A _ _ N X R σ₀ σ a w _ _ h; exact h.elim
  | goto => intro A _ _ N X R σ₀ σ a w _ _ h; exact h.elim
  | refuse => intro A _ _ N X R σ₀ σ a w _ _ h; exact h.elim
end
theorem rep0 {args : Array Value} {k : Nat} (hs : args.size + (k - args.size) = k) : RepD [] k { tmps := args ++ Array.replicate (k - args.size) undef, defers := [] } (fun t => args.getD t undef) := by
  refine ⟨by simpa using hs, rfl, fun t => ?_⟩
  simp only [Array.getD_eq_getD_getElem?, Array.getElem?_append, Array.getElem?_replicate]
  split
  · rfl
  · rename_i hlt; rw [Array.getElem?_eq_none (by omega)]; split <;> rfl
/-- A call of a function that may call yield. -/
theorem calls_ofY {P : Program} (hm : P.follows .mixedOrders = true) {An : An} {f : FuncId} {fn : Func} {c : Code} {args : Array Value} {w : World} {R : Ending → World → Prop}
    (hf : P.funcs[f]? = some fn) (hb : fn.body = some c) (hs : args.size + (fn.ntmps - args.size) = fn.ntmps) (hn : inB fn.ntmps (asg c) = true)
    (h : denY P true An c (retG P fn R) (fun _ _ _ => False) (retG P fn R) (fun t => args.getD t undef) w) : Calls P f args w R := by
  refine callsIn_FW (ro := none) (m := 0) |>.1 (callsIn_of_wp hf hb trivial (wpIn_mono (denY_in (An := An) (dr := true) (fun _ => ⟨rfl, rfl, hm⟩) c (asg c) (fun _ h => h) hn _ _ _ _ _ _ w (rep0 hs) (agree.refl _ _) h) ?_))
  intro e a w hq
  cases e with
  | normal => obtain ⟨σ, hr, _, hk⟩ := hq; exact ⟨hr.defers, retG_ok hr.get hk⟩
  | ret => obtain ⟨σ, hr, hk⟩ := hq; exact ⟨hr.defers, retG_ok hr.get hk⟩
  | exit id => obtain ⟨_, _, _, hk⟩ := hq; exact hk.elim
  | goto l => exact hq
  | panic ch => exact hq.elim
  | outgrown => exact hq.elim

/-! ### A range over a function -/
structure RF where
  g : Operand
  p : Nat
  d : Nat
  bo : Code
/-- One loop variable, assigned as it comes. -/
def rfOf (g : Operand) (ps : Array Tmp) (cdA bo : Code) : Option RF := match ps.toList with
  | [p] => match cdA with
    | .region _ ops d => match d with
      | true => none
      | false => match ops.toList with
        | [o] => match o.op with
          | .assign x => match x with
            | .tmp q => match o.dst with
              | some d => match o.guard with
                | none => match Nat.beq p q with
                  | true => some ⟨g, p, d, bo⟩
                  | false => none
                | some _ => none
              | none => none
            | _ => none
          | _ => none
        | _ => none
    | _ => none
  | _ => none
/-- The function value fv is ranged over: an iterator's contract; an invariant; the body; what comes behind. -/
def gRange (P : Program) (fv : Value) (w : World) (BODY : Value → World → (World → Prop) → Prop) (POST : Nat → World → Prop) : Prop :=
  ∃ (gf : Nat) (lb : Array Value), fv = .func (.func gf) #[] lb ∧ callOk P gf = true ∧
  ∃ (α : Type) (enc : α → Value) (Kp : World → World → Prop) (S Sp : List α → Prop) (N : Nat) (I : List α → World → Prop),
    SeqStopsK Fence.wide 4 P gf lb (fun x => #[enc x]) Kp S Sp N w ∧ (∀ {A B C : World}, Kp A B → Kp B C → Kp A C) ∧
    (∀ (W : World) (l : Nat) (o o' : Obj), w.heap.size ≤ l → W.heap[l]? = some o → o.isCells = false → o.isWalk = false → Kp W (W.putObj l o')) ∧
    OwnFrom w.heap.size I ∧ I [] w ∧
    (∀ pre x W, I pre W → pre.length < N → BODY (enc x) W fun W' => KeepsOthers W W' ∧ Kp W W' ∧ I (pre ++ [x]) W') ∧
    (∀ D xs W, w.heap.size ≤ D → S xs → I xs W → W.heap[D]? = some (.deferred (some [])) → POST D W)
def hasR : Code → Bool
  | .rangeFunc .. => true
  | .seq a b => match hasR a with | true => true | false => hasR b
  | .block _ c => hasR c
  | _ => false
def asgR : Code → List Nat
  | .seq a b => match hasR a with
    | true => asgR a ++ asg b
    | false => asg a ++ asgR b
  | .block _ c => asgR c
  | .rangeFunc g ps cdA bo => match rfOf g ps cdA bo with
    | some r => r.p :: r.d :: asg r.bo
    | none => []
  | _ => []
/-- Code with one range over a function: N and R1 behind it (D: where the block of its deferred calls lies), R0 ahead of it. -/
def denR (P : Program) (An : An) : Code → (Nat → Env → World → Prop) → (Env → World → Prop) → (Nat → Env → World → Prop) → Env → World → Prop
  | .rangeFunc g ps cdA bo, N, _, _, σ, w => match rfOf g ps cdA bo with
    | some r => gRange P (evO σ r.g) w (fun x W K => denY P false An r.bo (fun _ w' => K w') (fun _ _ _ => False) (fun _ _ => False) (upd (upd σ r.p x) r.d x) W) (fun D w' => N D σ w')
    | none => False
  | .block _ c, N, R0, R1, σ, w => denR P An c N R0 R1 σ w
  | .seq a b, N, R0, R1, σ, w => match hasR a with
    | true => denR P An a (fun D σ' w' => denY P false An b (N D) (fun _ _ _ => False) (R1 D) σ' w') R0 R1 σ w
    | false => match lk (key b) An.cut with
      | none => den P (drawG P) An a (fun σ' w' => denR P An b N R0 R1 σ' w') (fun _ _ _ => False) R0 σ w
      | some D => ∃ J : TF (cks D) (World → Prop), den P (drawG P) An a (fun σ' w' => tapp NoI (cks D) J ((ids D).map σ') w') (fun _ _ _ => False) R0 σ w ∧
        ∀ g : Env, tall (cks D) fun vs => ∀ w', tapp NoI (cks D) J vs w' → denR P An b N R0 R1 (over (ids D) vs (mask (asg a) g σ)) w'
  | _, _, _, _, _, _ => False
abbrev mkD (D : Nat) : List Deferred := [{ target := .collected D, args := #[] }]
def QR (n : Nat) (N : Nat → Env → World → Prop) (R0 : Env → World → Prop) (R1 : Nat → Env → World → Prop) : Exit → Act → World → Prop
  | .normal, a, w => ∃ D σ, RepD (mkD D) n a σ ∧ N D σ w
  | .ret, a, w => (∃ σ, RepD [] n a σ ∧ R0 σ w) ∨ (∃ D σ, RepD (mkD D) n a σ ∧ R1 D σ w)
  | _, _, _ => False
section
variable {P : Program} {An : An} {n : Nat}
theorem inB_app {l m : List Nat} (h : inB n (l ++ m) = true) : inB n l = true ∧ inB n m = true := by
  induction l with
  | nil => exact ⟨rfl, h⟩
  | cons x l ih =>
    simp only [List.cons_append, inB] at h ⊢
    split at h
    · exact ih h
    · cases h
theorem rfOf_some {g : Operand} {ps : Array Tmp} {cdA bo : Code} {r : RF} (h : rfOf g ps cdA bo = some r) :
    r.g = g ∧ r.bo = bo ∧ ps = #[r.p] ∧ ∃ id o, cdA = .region id #[o] false ∧ o.op = .assign (.tmp r.p) ∧ o.dst = some r.d ∧ o.guard = none := by
  unfold rfOf at h
  split at h
  · rename_i p hp
    split at h
    · rename_i id ops d
      split at h
      · cases h
      · split at h
        · rename_i o ho
          split at h
          · rename_i x h1
            split at h
            · rename_i q
              split at h
              · rename_i d h2
                split at h
                · rename_i h3
                  split at h
                  · rename_i hb
                    injection h with h
                    subst h
                    have := Nat.eq_of_beq_eq_true hb
                    subst this
                    have e1 : ps = #[p] := by cases ps; simp_all
                    have e2 : ops = #[o] := by cases ops; simp_all
                    subst e1; subst e2
                    exact ⟨rfl, rfl, rfl, id, o, rfl, h1, h2, h3⟩
                  · cases h
                · cases h
              · cases h
            · cases h
          · cases h
        · cases h
    · cases h
  · cases h
theorem call_ok_enters {P : Program} {gf : Nat} (hok : callOk P gf = true) : ∀ args w, (callFunc gf args).run P w = .ok (.enter gf args) w := fun args w => call_enter hok
theorem range_in {r : RF} {g : Operand} {ps : Array Tmp} {cdA bo : Code} (hrf : rfOf g ps cdA bo = some r) (hn : inB n (r.p :: r.d :: asg r.bo) = true) {σ : Env} {a : Act} {w : World} (hr : RepD [] n a σ) {N : Nat → Env → World → Prop} {R0 : Env → World → Prop} {R1 : Nat → Env → World → Prop}
    (h : gRange P (evO σ r.g) w (fun x W K => denY P false An r.bo (fun _ w' => K w') (fun _ _ _ => False) (fun _ _ => False) (upd (upd σ r.p x) r.d x) W) (fun D w' => N D σ w')) :
    (Code.rangeFunc g ps cdA bo).wpIn (FW none) 5 P (QR n N R0 R1) a w := by
  obtain ⟨hg, hbo, rfl, id, o, rfl, ho1, ho2, ho3⟩ := rfOf_some hrf
  subst hg; subst hbo
  obtain ⟨gf, lb, hv, hok, α, enc, Kp, S, Sp, Nn, I, hseq, hKt, hKb, hI, h0, hbody, hdone⟩ := h
  have hp : r.p < n ∧ r.d < n ∧ inB n (asg r.bo) = true := by
    simp only [inB] at hn
    split at hn
    · rename_i h1
      split at hn
      · rename_i h2; exact ⟨by simpa [Nat.blt_eq] using h1, by simpa [Nat.blt_eq] using h2, hn⟩
      · cases hn
    · cases hn
  have hset : ∀ {a : Act} {σ : Env} {d : Nat} (v : Value), RepD [] n a σ → d < n → RepD [] n { tmps := a.tmps.setIfInBounds d v, defers := [] } (upd σ d v) := fun {a σ d} v hr hd => by
    have := RepD.put (ds := []) (n := n) (a := a) hr (d := some d) (fun t ht => by injection ht with ht; omega) v
    exact ⟨this.size, rfl, this.get⟩
  refine wpIn_rangeFunc_ownF (F := FW none) (n := 5) rfl (by decide) (gf := gf) (lb := lb) (by rw [hr.eval]; exact hv) trivial (call_ok_enters hok) (encs := fun x => #[enc x]) (Kp := Kp) (S := S) (Sp := Sp) (N := Nn) (w0 := w) ?_ hKt hKb (Below.refl _ w) (fun _ => rfl) I (fun _ _ _ => False) hI
    (fun c s W W' row h _ _ => h.elim) h0 (fun x => { tmps := (a.tmps.setIfInBounds r.p (enc x)).setIfInBounds r.d (enc x), defers := [] }) ?_ ?_ ?_ ?_
  · exact hseq
  · intro l x W K hK
    refine wpIn_region_list ?_
    refine wpListIn_plain ho3 fun K' hK' => ?_
    refine ⟨fun _ _ => trivial, ?_⟩
    rw [Oper.semAt_plain _ _ _ (by rw [ho1]; simp)]
    have hz : (#[r.p].zip #[enc x]).foldl (fun t (p : Tmp × Value) => t.setIfInBounds p.1 p.2) a.tmps = a.tmps.setIfInBounds r.p (enc x) := by simp
    have hrun : ∀ ρ : Operand → Value, (execOp ρ o).run P W = .ok (.value (ρ (.tmp r.p))) W := fun ρ => by unfold execOp; rw [ho1]; rfl
    rw [hrun]
    have hval : (a.tmps.setIfInBounds r.p (enc x)).getD r.p undef = enc x := by
      have := (hset (enc x) hr hp.1).get r.p
      rw [this, upd_eq, if_pos rfl]
    show K' _ W
    refine hK' _ _ ?_
    show wpListIn _ _ _ _ _ [] _ W
    show Exit.then K _ .normal _ W
    have he : ∀ {t : Array Value}, t = a.tmps.setIfInBounds r.p (enc x) → (({ tmps := t, defers := [] } : Act).put o.dst (({ tmps := t, defers := [] } : Act).eval (.tmp r.p))) = { tmps := (a.tmps.setIfInBounds r.p (enc x)).setIfInBounds r.d (enc x), defers := [] } := fun ht => by
      subst ht
      rw [ho2]
      simp only [Act.put, Act.eval, hval]
    rw [he (by simp)]
    exact hK
  · intro l pre x W hi hl
    have hrb : RepD [] n { tmps := (a.tmps.setIfInBounds r.p (enc x)).setIfInBounds r.d (enc x), defers := [] } (upd (upd σ r.p (enc x)) r.d (enc x)) :=
      hset (a := { tmps := a.tmps.setIfInBounds r.p (enc x), defers := [] }) (enc x) (hset (enc x) hr hp.1) hp.2.1
    refine wpIn_mono (denY_in (ro := some l) (An := An) (dr := false) (fun h => by cases h) r.bo (asg r.bo) (fun _ h => h) hp.2.2 _ _ _ _ _ _ W hrb (agree.refl _ _) (hbody pre x W hi hl)) ?_
    intro e a' W' hq
    cases e with
    | normal => obtain ⟨_, _, _, hk⟩ := hq; exact hk
    | exit id => obtain ⟨_, _, _, hk⟩ := hq; exact hk.elim
    | ret => obtain ⟨_, _, hk⟩ := hq; exact hk.elim
    | goto l => exact hq.elim
    | panic ch => exact hq.elim
    | outgrown => exact hq.elim
  · intro D xs W hD hS hi hk
    exact ⟨D, σ, ⟨hr.size, by rw [hr.defers], hr.get⟩, hdone D xs W hD hS hi hk⟩
  · intro D c pre W _ _ h _
    exact h.elim
theorem denR_in : ∀ (c : Code), inB n (asgR c) = true → ∀ (N : Nat → Env → World → Prop) (R0 : Env → World → Prop) (R1 : Nat → Env → World → Prop) (σ : Env) (a : Act) (w : World) (hm : P.follows .mixedOrders = true),
    RepD [] n a σ → denR P An c N R0 R1 σ w → c.wpIn (FW none) 5 P (QR n N R0 R1) a w := by
  intro c
  induction c with
  | rangeFunc g ps cdA bo =>
    intro hn N R0 R1 σ a w hm hr h
    simp only [denR] at h
    simp only [asgR] at hn
    split at h
    · rename_i r hrf
      rw [hrf] at hn
      exact range_in hrf hn hr h
    · exact h.elim
  | block id c ih =>
    intro hn N R0 R1 σ a w hm hr h
    refine wpIn_block (wpIn_mono (ih hn N R0 R1 σ a w hm hr h) ?_)
    intro e a w hq
    cases e <;> try exact hq
    exact hq.elim
  | seq x y ihx ihy =>
    intro hn N R0 R1 σ a w hm hr h
    simp only [denR] at h
    simp only [asgR] at hn
    split at h
    · rename_i hx
      rw [hx] at hn
      have hn2 := inB_app hn
      refine wpIn_seq (wpIn_mono (ihx hn2.1 _ R0 R1 σ a w hm hr h) ?_)
      intro e a w hq
      cases e with
      | normal =>
        obtain ⟨D, σ', hr', hk⟩ := hq
        refine wpIn_mono (denY_in (ro := none) (An := An) (dr := false) (fun h => by cases h) y (asg y) (fun _ h => h) hn2.2 _ _ _ _ _ _ w hr' (agree.refl _ _) hk) ?_
        intro e a w hq
        cases e with
        | normal => obtain ⟨σ'', hr'', _, hk⟩ := hq; exact ⟨D, σ'', hr'', hk⟩
        | exit id => obtain ⟨_, _, _, hk⟩ := hq; exact hk.elim
        | ret => obtain ⟨σ'', hr'', hk⟩ := hq; exact .inr ⟨D, σ'', hr'', hk⟩
        | goto l => exact hq
        | panic ch => exact hq
        | outgrown => exact hq
      | ret => exact hq
      | exit id => exact hq
      | goto l => exact hq
      | panic ch => exact hq
      | outgrown => exact hq
    · rename_i hx
      rw [hx] at hn
      have hn2 := inB_app hn
      have hr0 : Rep n a σ := ⟨hr.size, hr.defers, hr.get⟩
      have wide : ∀ {Q : Exit → Act → World → Prop} {a : Act} {w : World}, x.wp P Q a w → x.wpIn (FW none) 5 P Q a w := fun h => (wpIn_wide (n := 5)).2 h
      split at h
      · refine wpIn_seq (wpIn_mono (wide (den_wp (An := An) (drawG_ok hm) x (asg x) (fun _ h => h) hn2.1 _ _ _ _ _ _ w hr0 (agree.refl _ _) h)) ?_)
        intro e a w hq
        cases e with
        | normal => obtain ⟨σ', hr', _, hk⟩ := hq; exact ihy hn2.2 N R0 R1 σ' a w hm ⟨hr'.size, hr'.defers, hr'.get⟩ hk
        | exit id => obtain ⟨_, _, _, hk⟩ := hq; exact hk.elim
        | ret => obtain ⟨σ', hr', hk⟩ := hq; exact .inl ⟨σ', ⟨hr'.size, hr'.defers, hr'.get⟩, hk⟩
        | goto l => exact hq
        | panic ch => exact hq
        | outgrown => exact hq
      · rename_i D hD
        obtain ⟨J, h1, h2⟩ := h
        refine wpIn_seq (wpIn_mono (wide (den_wp (An := An) (drawG_ok hm) x (asg x) (fun _ h => h) hn2.1 _ _ _ _ _ _ w hr0 (agree.refl _ _) h1)) ?_)
        intro e a w hq
        cases e with
        | normal =>
          obtain ⟨σ', hr', hag', hk⟩ := hq
          have := tapp_all hk (h2 σ') w hk
          rw [mask_eq hag', over_map rfl] at this
          exact ihy hn2.2 N R0 R1 σ' a w hm ⟨hr'.size, hr'.defers, hr'.get⟩ this
        | exit id => obtain ⟨_, _, _, hk⟩ := hq; exact hk.elim
        | ret => obtain ⟨σ', hr', hk⟩ := hq; exact .inl ⟨σ', ⟨hr'.size, hr'.defers, hr'.get⟩, hk⟩
        | goto l => exact hq
        | panic ch => exact hq
        | outgrown => exact hq
  | skip => intro _ N R0 R1 σ a w _ _ h; exact h.elim
  | label => intro _ N R0 R1 σ a w _ _ h; exact h.elim
  | region => intro _ N R0 R1 σ a w _ _ h; exact h.elim
  | cond => intro _ N R0 R1 σ a w _ _ h; exact h.elim
  | loop => intro _ N R0 R1 σ a w _ _ h; exact h.elim
  | exit => intro _ N R0 R1 σ a w _ _ h; exact h.elim
  | ret => intro _ N R0 R1 σ a w _ _ h; exact h.elim
  | scope => intro _ N R0 R1 σ a w _ _ h; exact h.elim
  | goto => intro _ N R0 R1 σ a w _ _ h; exact h.elim
  | refuse => intro _ N R0 R1 σ a w _ _ h; exact h.elim
end
/-- What a function that ranged over a function hands back: the block of its rounds' deferred calls is shut. -/
def retGR (P : Program) (fn : Func) (R : Ending → World → Prop) (D : Nat) (σ : Env) (w : World) : Prop := w.heap[D]? = some (.deferred (some [])) ∧ retG P fn R σ (w.putObj D (.deferred none))
/-- A call of a function that ranges over a function. -/
theorem calls_ofR {P : Program} (hm : P.follows .mixedOrders = true) {An : An} {f : FuncId} {fn : Func} {c : Code} {args : Array Value} {w : World} {R : Ending → World → Prop}
    (hf : P.funcs[f]? = some fn) (hb : fn.body = some c) (hs : args.size + (fn.ntmps - args.size) = fn.ntmps) (hn : inB fn.ntmps (asgR c) = true)
    (h : denR P An c (retGR P fn R) (retG P fn R) (retGR P fn R) (fun t => args.getD t undef) w) : Calls P f args w R := by
  refine callsIn_FW (ro := none) (m := 5) |>.1 (callsIn_of_wp_marks hf hb trivial (wpIn_mono (denR_in (An := An) c hn _ _ _ _ _ w hm (rep0 hs) h) ?_))
  have fin : ∀ {a : Act} {w : World} {D : Nat} {σ : Env}, RepD (mkD D) fn.ntmps a σ → retGR P fn R D σ w → LeavesInM (FW none) 5 P fn a.tmps R a.defers .returning w := fun {a w D σ} hr hk => by
    rw [hr.defers]
    exact ⟨by simp, .inl ⟨D, _, rfl, run_takeDeferred hk.1, retG_ok hr.get hk.2⟩⟩
  intro e a w hq
  cases e with
  | normal => obtain ⟨D, σ, hr, hk⟩ := hq; exact fin hr hk
  | ret =>
    rcases hq with ⟨σ, hr, hk⟩ | ⟨D, σ, hr, hk⟩
    · show LeavesInM _ _ _ _ _ _ a.defers .returning w
      rw [hr.defers]; exact retG_ok hr.get hk
    · exact fin hr hk
  | exit id => exact hq.elim
  | goto l => exact hq
  | panic ch => exact hq.elim
  | outgrown => exact hq.elim
end Go.Proofs.YtiimlfgjnapgjaaGreatDoorV

/- The program by name: numbers of functions and of types. -/
namespace Go.Proofs.YtiimlfgjnapgjaaGreatDoorV
open Go
noncomputable abbrev P : Program := Go.Proofs.Tryz.prog
theorem hmix : P.follows .mixedOrders = true := by kernel_rfl
abbrev n_valiselaw31_ScriptNil : Nat := 3
abbrev n_valiselaw31_small : Nat := 5
abbrev n_valiselaw31_awake : Nat := 6
abbrev n_script_Day_Do : Nat := 7
abbrev n_script_New : Nat := 8
abbrev n_script_Day_Archive : Nat := 9
abbrev n_valisehelp_Told : Nat := 10
abbrev n_valiseplay_Few : Nat := 17
abbrev n_script_Day_have : Nat := 18
abbrev n_archive_Create : Nat := 19
abbrev n_archive_Append : Nat := 20
abbrev n_archive_Delete : Nat := 21
abbrev n_archive_List : Nat := 22
abbrev n_archive_Test : Nat := 23
abbrev n_archive_All : Nat := 24
abbrev n_archive_One : Nat := 25
abbrev n_script_first : Nat := 26
abbrev n_valisehelp_Same_api_Entry : Nat := 27
abbrev n_valisehelp_Entry : Nat := 28
abbrev n_valisehelp_Same_api_Info : Nat := 29
abbrev n_valisehelp_Info : Nat := 30
abbrev n_box_Make : Nat := 39
abbrev n_seal_Seal : Nat := 40
abbrev n_valisehelp_Bytes : Nat := 50
abbrev n_box_Right : Nat := 61
abbrev n_names_Sort : Nat := 62
abbrev n_box_turned : Nat := 63
abbrev n_num_Writer_Num : Nat := 64
abbrev n_box_writer_tags : Nat := 65
abbrev n_box_writer_items : Nat := 66
abbrev n_slices_Chunk_byte_byte : Nat := 67
abbrev n_box_writer_block : Nat := 68
abbrev n_num_Writer_Bytes : Nat := 69
abbrev n_num_Writer_Raw : Nat := 70
abbrev n_num_Writer_Little : Nat := 71
abbrev n_crc_Sum : Nat := 72
abbrev n_slices_Clone_api_Entry_api_Entry : Nat := 77
abbrev n_names_byName : Nat := 79
abbrev n_names_much : Nat := 81
abbrev n_names_own : Nat := 82
abbrev n_chain_Right : Nat := 95
abbrev n_slices_ContainsFunc_api_Entry_api_Entry : Nat := 96
abbrev n_names_Sort_1 : Nat := 97
abbrev n_names_Right : Nat := 98
abbrev n_slices_SortStableFunc_api_Entry_api_Entry : Nat := 99
abbrev n_chain_Detect : Nat := 100
abbrev n_chain_Choose : Nat := 101
abbrev n_box_grown : Nat := 102
abbrev n_num_Writer_Text : Nat := 103
abbrev n_slices_Chunk_byte_byte_1 : Nat := 104
abbrev n_num_buffer_put : Nat := 106
abbrev n_crc_Add : Nat := 107
abbrev n_strings_Compare : Nat := 113
abbrev n_chain_of : Nat := 124
abbrev n_slices_Contains_int_int : Nat := 125
abbrev n_slices_IndexFunc_api_Entry_api_Entry : Nat := 126
abbrev n_strings_Contains : Nat := 127
abbrev n_slices_ContainsFunc_string_string : Nat := 128
abbrev n_strings_Split : Nat := 129
abbrev n_names_Right_1 : Nat := 130
abbrev n_slices_stableCmpFunc_api_Entry : Nat := 131
abbrev n_chain_Forward : Nat := 136
abbrev n_chain_Inverse : Nat := 137
abbrev n_bytes_Equal : Nat := 138
abbrev n_bytes_Clone : Nat := 139
abbrev n_crc_Table : Nat := 145
abbrev n_internal_bytealg_CompareString : Nat := 150
abbrev n_audio_Pack : Nat := 159
abbrev n_audio_Unpack : Nat := 160
abbrev n_image_Pack : Nat := 161
abbrev n_image_Unpack : Nat := 162
abbrev n_table_Pack : Nat := 163
abbrev n_table_Unpack : Nat := 164
abbrev n_words_Pack : Nat := 165
abbrev n_words_Unpack : Nat := 166
abbrev n_text_Lines : Nat := 167
abbrev n_text_Unlines : Nat := 168
abbrev n_text_Caps : Nat := 169
abbrev n_text_Uncaps : Nat := 170
abbrev n_slices_Index_int_int : Nat := 171
abbrev n_strings_Index : Nat := 172
abbrev n_slices_IndexFunc_string_string : Nat := 173
abbrev n_strings_genSplit : Nat := 174
abbrev n_slices_insertionSortCmpFunc_api_Entry : Nat := 175
abbrev n_slices_symMergeCmpFunc_api_Entry : Nat := 176
abbrev n_internal_bytealg_abigen_runtime_cmpstring : Nat := 197
abbrev n_internal_stringslite_Index : Nat := 231
abbrev n_strings_explode : Nat := 232
abbrev n_strings_Count : Nat := 233
abbrev n_slices_rotateCmpFunc_api_Entry : Nat := 234
abbrev n_internal_stringslite_IndexByte : Nat := 295
abbrev n_internal_bytealg_IndexString : Nat := 296
abbrev n_internal_bytealg_Cutover : Nat := 297
abbrev n_internal_bytealg_IndexRabinKarp_string : Nat := 298
abbrev n_unicode_utf8_RuneCountInString : Nat := 299
abbrev n_internal_bytealg_CountString : Nat := 301
abbrev n_slices_swapRangeCmpFunc_api_Entry : Nat := 302
abbrev n_internal_bytealg_IndexByteString : Nat := 346
abbrev t_int : Nat := 3
abbrev t_bool : Nat := 4
abbrev t_uint8 : Nat := 5
abbrev t_string : Nat := 9
abbrev t_sl_api_Entry : Nat := 22
abbrev t_sl_string : Nat := 23
abbrev t_sl_int : Nat := 24
abbrev t_sl_uint8 : Nat := 25
abbrev t_api_Options : Nat := 27
abbrev t_api_Op : Nat := 29
abbrev t_pt_script_Day : Nat := 30
abbrev t_api_Errno : Nat := 33
abbrev t_sl_api_Info : Nat := 34
abbrev t_api_Told : Nat := 36
abbrev t_api_Entry : Nat := 51
abbrev t_script_Day : Nat := 56
abbrev t_uint32 : Nat := 70
abbrev t_api_Info : Nat := 72
abbrev t_uint64 : Nat := 83
abbrev t_sl_api_Item : Nat := 121
abbrev t_api_Item : Nat := 123
abbrev t_num_Writer : Nat := 129
abbrev t_box_writer : Nat := 131
abbrev t_pt_num_Writer : Nat := 176
abbrev t_func_sl_uint8_int_sl_uint8_api_Errno : Nat := 179
abbrev t_sl_sl_uint8 : Nat := 180
abbrev t_func_sl_uint8_sl_uint8_bool_204 : Nat := 204
abbrev t_chain_transform : Nat := 206
abbrev t_ar256_uint32 : Nat := 236
end Go.Proofs.YtiimlfgjnapgjaaGreatDoorV
