/- What is handed in, of whatever type. -/
import Derived.Test.YtcjopcplhabgkaaVNodes5
import Derived.Test.YtcjopcplhabgkaaVLaw
import Derived.ChangeArms
import Derived.SizedLaws
namespace Go.Proofs.YtcjopcplhabgkaaV
open Go Go.RowKit
/-- These cells read as a value of a type, and nothing that is met in reading it is longer than memory. -/
def Good (P : Program) (w : World) (t : TypeId) (cs : List Value) : Prop := ∃ (H : Type) (enc : TypeId × Value → H) (n : Nat) (y : DataW H × List MemPlace), DataW.trod enc P w 0 (fun _ => true) true n t cs = some y ∧ ∀ m ∈ y.1.weights P t, m ≤ reachBytes
theorem weights_all {H : Type} {P : Program} {e : TypeId} : ∀ {ds : List (DataW H)} {d : DataW H}, d ∈ ds → ∀ n ∈ d.weights P e, n ∈ DataW.weightsAll P e ds
  | d0 :: ds, d, hd, n, hn => by
    simp only [DataW.weightsAll, List.mem_append]
    rcases List.mem_cons.1 hd with rfl | hd
    · exact .inl hn
    · exact .inr (weights_all hd n hn)
section
variable {P : Program} {w : World} {t e : TypeId} {cs : List Value}
theorem good_int {k : IntKind} (ht : P.underlying t = some (.int k)) (h : Good P w t cs) : ∃ n, cs = [.int k n] ∧ k.min ≤ n ∧ n ≤ k.max := by
  obtain ⟨H, enc, n, y, h, _⟩ := h
  obtain ⟨m, rfl, _, hw⟩ := DataW.trod_int ht h
  exact ⟨m, rfl, wf_rng hw⟩
theorem good_string (ht : P.underlying t = some .string) (h : Good P w t cs) : ∃ s, cs = [.string s] ∧ s.size ≤ maxLen := by
  obtain ⟨H, enc, n, y, h, _⟩ := h
  obtain ⟨m, rfl, _, hw⟩ := DataW.trod_string ht h
  exact ⟨m, rfl, hw⟩
theorem good_stringR (ht : P.underlying t = some .string) (h : Good P w t cs) : ∃ s, cs = [.string s] ∧ s.size ≤ reachBytes := by
  obtain ⟨H, enc, n, y, h, hz⟩ := h
  obtain ⟨m, rfl, rfl, hw⟩ := DataW.trod_string ht h
  refine ⟨m, rfl, ?_⟩
  have := hz m.data.toList.length (by simp [DataW.weights])
  obtain ⟨⟨l⟩⟩ := m; exact this
theorem good_bool (ht : P.underlying t = some .bool) (h : Good P w t cs) : ∃ b, cs = [.bool b] := by
  obtain ⟨H, enc, n, y, h, _⟩ := h
  cases n with
  | zero => simp [DataW.trod] at h
  | succ n =>
    unfold DataW.trod at h
    rw [ht] at h
    split at h <;> simp_all
theorem good_struct {fs : Array Field} (ht : P.underlying t = some (.struct fs)) (h : Good P w t cs) : cs.length = P.cellsOf t ∧ ∀ (i : Nat) (f : Field), fs[i]? = some f → Good P w f.type ((cs.drop f.offset).take (P.cellsOf f.type)) := by
  obtain ⟨H, enc, n, y, h, hz⟩ := h
  obtain ⟨xs, m, _, hy, hl, hx, hf⟩ := DataW.trod_struct ht h
  refine ⟨hl, fun i f hi => ?_⟩
  have hlt : i < xs.length := by rw [hx]; exact (Array.getElem?_eq_some_iff.1 hi).1
  refine ⟨H, enc, m, xs[i], by rw [hf i f hi]; simp [hlt], fun q hq => hz q ?_⟩
  rw [hy]
  simp only [DataW.weights, ht]
  exact DataW.weights_mem_each (j := i) (t := f.type) (d := xs[i].1) (by rw [List.getElem?_map, Array.getElem?_toList, hi]; rfl) (by simp [hlt]) q hq
theorem good_slice (ht : P.underlying t = some (.slice e)) (h : Good P w t cs) : ∃ a len cap, cs = [.slice a len cap] ∧ len ≤ cap ∧ cap ≤ maxLen ∧ (a = none → len = 0 ∧ cap = 0) ∧
    len * P.bytesOf e ≤ reachBytes ∧ ∀ ad, a = some ad → ∀ i, i < len → ∃ c : List Value, c.length = P.cellsOf e ∧ (∀ j, j < P.cellsOf e → w.cell? ((ad.add (i * P.cellsOf e)).add j) = c[j]?) ∧ Good P w e c := by
  obtain ⟨H, enc, n, y, h, hz⟩ := h
  rcases DataW.trod_slice ht h with ⟨rfl, _⟩ | ⟨a, len, cap, elems, rest, m, _, rfl, hy0, hb, hl, hm, hlen, hel, hsp, hns⟩
  · exact ⟨none, 0, 0, rfl, Nat.le_refl _, Nat.zero_le _, (fun _ => ⟨rfl, rfl⟩), by rw [Nat.zero_mul]; exact Nat.zero_le _, (fun ad h => by cases h)⟩
  · rw [hy0] at hz
    refine ⟨some a, len, cap, rfl, hl, hm, (fun h => by cases h), ?_, fun ad had i hi => ?_⟩
    · have := hz (((elems.map (·.1)).length + (rest.map (·.1)).length) * P.bytesOf e) (by simp only [DataW.weights, ht]; exact List.mem_cons_self)
      refine Nat.le_trans (Nat.mul_le_mul_right _ ?_) this
      rw [List.length_map, hlen]; exact Nat.le_add_right _ _
    injection had with had; subst had
    have hE := hel i hi
    have hlt : i < elems.length := by omega
    rw [show elems[i]? = some elems[i] by simp [hlt], Option.bind_eq_some_iff] at hE
    obtain ⟨c, hc, hy⟩ := hE
    obtain ⟨_, hcl, hcc⟩ := World.cells?_some hc
    refine ⟨c, hcl, hcc, H, enc, m, elems[i], hy, fun q hq => hz q ?_⟩
    simp only [DataW.weights, ht]
    refine List.mem_cons_of_mem _ (List.mem_append_left _ (weights_all (d := elems[i].1) ?_ q hq))
    exact List.mem_map.2 ⟨elems[i], List.getElem_mem hlt, rfl⟩
theorem Addr.add2 (ad : Addr) (i j : Nat) (h : ad.spot = none ∨ i = 0 ∨ j = 0) : (ad.add i).add j = ad.add (i + j) := by
  by_cases hi : i = 0
  · subst hi; rw [Addr.add_zero', Nat.zero_add]
  · by_cases hj : j = 0
    · subst hj; rw [Addr.add_zero']; rfl
    · have h1 : ad.add i = ⟨ad.block, ad.off + i, none⟩ := by unfold Addr.add; rw [if_neg hi]
      have h2 : ad.add (i + j) = ⟨ad.block, ad.off + (i + j), none⟩ := by unfold Addr.add; rw [if_neg (by omega)]
      rw [h1, h2, Addr.add_lit]; congr 1; omega
theorem Addr.add2' (ad : Addr) (i j : Nat) : (ad.add i).add j = ad.add (i + j) := by
  by_cases hi : i = 0
  · exact Addr.add2 ad i j (.inr (.inl hi))
  · by_cases hj : j = 0
    · exact Addr.add2 ad i j (.inr (.inr hj))
    · have h1 : ad.add i = ⟨ad.block, ad.off + i, none⟩ := by unfold Addr.add; rw [if_neg hi]
      have h2 : ad.add (i + j) = ⟨ad.block, ad.off + (i + j), none⟩ := by unfold Addr.add; rw [if_neg (by omega)]
      rw [h1, h2, Addr.add_lit]; congr 1; omega
/-- A slice, cell by cell, and how much memory it takes. -/
theorem good_slR {v : Value} {sz : Nat} (ht : P.underlying t = some (.slice e)) (hz : P.cellsOf e = sz) (h : Good P w t [v]) : ∃ n cs, Sl w sz v n cs ∧ n ≤ maxLen ∧ n * P.bytesOf e ≤ reachBytes ∧ ∀ i, i < n → Good P w e ((cs.drop (i * sz)).take sz) := by
  obtain ⟨a, len, cap, hv, hl, hm, hn, hby, hel⟩ := good_slice ht h
  simp only [List.cons.injEq, and_true] at hv
  subst hv; subst hz
  cases a with
  | none =>
    obtain ⟨rfl, rfl⟩ := hn rfl
    exact ⟨0, [], ⟨none, 0, rfl, Nat.le_refl _, by simp, (fun ad h => by cases h), fun _ => rfl⟩, Nat.zero_le _, hby, fun i hi => by omega⟩
  | some ad =>
    have : ∀ m, m ≤ len → ∃ cs : List Value, cs.length = m * P.cellsOf e ∧ (∀ j u, cs[j]? = some u → w.cell? (ad.add j) = some u) ∧ ∀ i, i < m → Good P w e ((cs.drop (i * P.cellsOf e)).take (P.cellsOf e)) := by
      intro m
      induction m with
      | zero => intro _; exact ⟨[], by simp, (fun j u h => by simp at h), fun i h => by omega⟩
      | succ m ih =>
        intro hml
        obtain ⟨cs, h1, h2, h3⟩ := ih (by omega)
        obtain ⟨c, c1, c2, c3⟩ := hel ad rfl m (by omega)
        refine ⟨cs ++ c, by rw [List.length_append, h1, c1, Nat.succ_mul], fun j u hj => ?_, fun i hi => ?_⟩
        · rw [List.getElem?_append] at hj
          split at hj
          · exact h2 j u hj
          · rename_i hge
            have hlt := (List.getElem?_eq_some_iff.1 hj).1
            have := c2 (j - cs.length) (by omega)
            rw [Addr.add2', h1, show m * P.cellsOf e + (j - m * P.cellsOf e) = j by omega] at this
            rw [this, ← h1]; exact hj
        · by_cases e1 : i = m
          · subst e1
            rw [← h1, List.drop_left, ← c1, List.take_length]; exact c3
          · have hle : i * P.cellsOf e + P.cellsOf e ≤ m * P.cellsOf e := by
              have := Nat.mul_le_mul_right (P.cellsOf e) (show i + 1 ≤ m by omega)
              rwa [Nat.succ_mul] at this
            rw [List.drop_append_of_le_length (by omega), List.take_append_of_le_length (by rw [List.length_drop]; omega)]
            exact h3 i (by omega)
    obtain ⟨cs, h1, h2, h3⟩ := this len (Nat.le_refl _)
    exact ⟨len, cs, ⟨some ad, cap, rfl, hl, h1, (fun ad' had j u hj => by injection had with had; subst had; exact h2 j u hj), fun h => by cases h⟩, by omega, hby, h3⟩
/-- A slice, cell by cell. -/
theorem good_sl {v : Value} {sz : Nat} (ht : P.underlying t = some (.slice e)) (hz : P.cellsOf e = sz) (h : Good P w t [v]) : ∃ n cs, Sl w sz v n cs ∧ n ≤ maxLen ∧ ∀ i, i < n → Good P w e ((cs.drop (i * sz)).take sz) :=
  let ⟨n, cs, h1, h2, _, h3⟩ := good_slR ht hz h
  ⟨n, cs, h1, h2, h3⟩
/-- A slice of numbers, and how much memory it takes. -/
theorem good_nmR {k : IntKind} {v : Value} (ht : P.underlying t = some (.slice e)) (he : P.underlying e = some (.int k)) (hz : P.cellsOf e = 1) (h : Good P w t [v]) : ∃ xs, Nm k w v xs ∧ xs.length ≤ maxLen ∧ xs.length * P.bytesOf e ≤ reachBytes := by
  obtain ⟨n, cs, hS, hn, hby, hg⟩ := good_slR ht hz h
  have hcl : cs.length = n := by obtain ⟨_, _, _, _, h, _⟩ := hS; omega
  have : ∀ m, m ≤ n → ∃ xs : List Int, cs.take m = xs.map (.int k) ∧ inR k xs := by
    intro m
    induction m with
    | zero => intro _; exact ⟨[], by simp, fun x hx => by cases hx⟩
    | succ m ih =>
      intro hm
      obtain ⟨xs, h1, h2⟩ := ih (by omega)
      obtain ⟨x, hx, hr⟩ := good_int he (hg m (by omega))
      refine ⟨xs ++ [x], ?_, fun y hy => ?_⟩
      · rw [List.take_succ_eq_append_getElem (by omega), h1, List.map_append]
        rw [Nat.mul_one, List.drop_eq_getElem_cons (by omega), List.take_succ_cons, List.take_zero] at hx
        simp only [List.cons.injEq, and_true] at hx
        rw [hx]; rfl
      · rcases List.mem_append.1 hy with hy | hy
        · exact h2 y hy
        · simp at hy; subst hy; exact hr
  obtain ⟨xs, h1, h2⟩ := this n (Nat.le_refl _)
  rw [List.take_of_length_le (by omega)] at h1
  have hxl : xs.length = n := by rw [← hcl, h1, List.length_map]
  exact ⟨xs, ⟨by rw [hxl, ← h1]; exact hS, h2⟩, by omega, by rw [hxl]; exact hby⟩
/-- A slice of numbers. -/
theorem good_nm {k : IntKind} {v : Value} (ht : P.underlying t = some (.slice e)) (he : P.underlying e = some (.int k)) (hz : P.cellsOf e = 1) (h : Good P w t [v]) : ∃ xs, Nm k w v xs ∧ xs.length ≤ maxLen :=
  let ⟨xs, h1, h2, _⟩ := good_nmR ht he hz h
  ⟨xs, h1, h2⟩
/-! ### Fields -/
def fldIs (P : Program) (t : TypeId) (i off : Nat) (ft : TypeId) : Bool := match P.underlying t with
  | some (.struct fs) => match fs[i]? with
    | some f => Nat.beq f.offset off && Nat.beq f.type ft && Nat.beq (P.cellsOf ft) 1 && Nat.blt off (P.cellsOf t)
    | none => false
  | _ => false
theorem good_fld {i off : Nat} {ft : TypeId} (hf : fldIs P t i off ft = true) (h : Good P w t cs) : ∃ v, cs[off]? = some v ∧ Good P w ft [v] := by
  unfold fldIs at hf
  split at hf
  · rename_i fs hu
    split at hf
    · rename_i f hi
      simp only [Bool.and_eq_true] at hf
      obtain ⟨⟨⟨h1, h2⟩, h3⟩, h4⟩ := hf
      have hs := good_struct hu h
      have hg := hs.2 i f hi
      rw [Nat.eq_of_beq_eq_true h1, Nat.eq_of_beq_eq_true h2, Nat.eq_of_beq_eq_true h3] at hg
      have hlt : off < cs.length := by rw [hs.1]; exact Nat.le_of_ble_eq_true h4
      rw [List.drop_eq_getElem_cons hlt, List.take_succ_cons, List.take_zero] at hg
      exact ⟨cs[off], by simp [hlt], hg⟩
    · cases hf
  · cases hf
theorem good_fi {i off : Nat} {ft : TypeId} {k : IntKind} (hf : fldIs P t i off ft = true) (hk : P.underlying ft = some (.int k)) (h : Good P w t cs) : ∃ n, cs[off]? = some (.int k n) ∧ k.min ≤ n ∧ n ≤ k.max := by
  obtain ⟨v, h1, h2⟩ := good_fld hf h
  obtain ⟨n, h3, h4⟩ := good_int hk h2
  simp only [List.cons.injEq, and_true] at h3
  subst h3; exact ⟨n, h1, h4⟩
theorem good_of {H : Type} {enc : TypeId × Value → H} {y : DataW H × List MemPlace} (h : ∃ m, DataW.trod enc P w 0 (fun _ => true) true m t cs = some y) (hz : ∀ m ∈ y.1.weights P t, m ≤ reachBytes) : Good P w t cs := let ⟨m, h⟩ := h; ⟨H, enc, m, y, h, hz⟩
theorem okWide_agg {P : Program} {t : TypeId} {fs : Array Field} {w : World} {r : Reach} {b : Nat} {v : Value} (ht : P.underlying t = some (.struct fs)) (h : Value.okWide P w r b t v) : ∃ cs, v = .agg cs ∧ cs.size = P.cellsOf t := by
  unfold Value.okWide at h
  rw [ht] at h
  obtain ⟨cs, h1, h2, _⟩ := h
  exact ⟨cs, h1, h2⟩
theorem str_le {s : ByteArray} (h : s.data.toList.length ≤ reachBytes) : s.size ≤ reachBytes := by obtain ⟨⟨l⟩⟩ := s; exact h
theorem wts_of {H : Type} {P : Program} {ts : List TypeId} {ds : List (DataW H)} (h : (DataW.weightsEach P ts ds).all (· ≤ reachBytes) = true) {j : Nat} {t : TypeId} {d : DataW H} (ht : ts[j]? = some t) (hd : ds[j]? = some d) : ∀ m ∈ d.weights P t, m ≤ reachBytes := fun m hm => by
  have := List.all_eq_true.1 h m (DataW.weights_mem_each ht hd m hm); simpa using this
/-- An element's place, of whatever size. -/
theorem gIdx_sz {t : TypeId} {ki : IntKind} {sz : Nat} {v : Value} {n : Nat} {cs : List Value} {i : Nat} {K : Addr → Prop} (h : Sl w sz v n cs) (h1 : i < n)
    (hk : ∀ ad, (∀ j u, j < sz → cs[i * sz + j]? = some u → w.cell? (ad.add j) = some u) → v.ownBlock = some ad.block → K ad) (ht : slSz P t sz = true := by kernel_rfl) : gIdx P t v (.int ki i) K := by
  obtain ⟨hu, ii, hi, hsz⟩ := slSz_ok ht
  obtain ⟨a, c, rfl, _, hl, h3, h4⟩ := h
  cases a with
  | none => have := h4 rfl; omega
  | some ad =>
    refine ⟨ad.add (i * sz), fun w => ?_, hk _ (fun j u hj hu => by rw [Addr.add2']; exact h3 ad rfl _ u hu) ?_⟩
    · simp only [Instr.indexAt, asIntOf, Sem.run_bind, Sem.run_pure, Result.andThen_ok, run_underlying hu]
      rw [if_pos ⟨by omega, by omega⟩]
      simp [sizeOf, typeInfo, hi, hsz]
    · show some ad.block = some (ad.add (i * sz)).block
      unfold Addr.add; split <;> rfl
end
end Go.Proofs.YtcjopcplhabgkaaV
