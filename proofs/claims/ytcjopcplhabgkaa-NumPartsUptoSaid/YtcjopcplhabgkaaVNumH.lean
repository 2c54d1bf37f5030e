/- What is handed in, of a bulk. -/
import Derived.Test.YtcjopcplhabgkaaRows
import Derived.Test.YtcjopcplhabgkaaVNumG
import Derived.Test.YtcjopcplhabgkaaVLawG
namespace Go.Proofs.YtcjopcplhabgkaaV
open Go Go.RowKit
/-- Like Good, and the reading's bulk is at most 1048576. -/
def Good2 (P : Program) (w : World) (t : TypeId) (cs : List Value) : Prop := ∃ (H : Type) (enc : TypeId × Value → H) (n : Nat) (y : DataW H × List MemPlace), DataW.trod enc P w 0 (fun _ => true) true n t cs = some y ∧ (∀ m ∈ y.1.weights P t, m ≤ reachBytes) ∧ Go.Proofs.Ytcjopcplhabgkaa.Rows.uptoBulk y.1 ≤ 1048576
theorem Good2.good {P : Program} {w : World} {t : TypeId} {cs : List Value} (h : Good2 P w t cs) : Good P w t cs := let ⟨H, enc, n, y, h1, h2, _⟩ := h; ⟨H, enc, n, y, h1, h2⟩
theorem good2_of {P : Program} {w : World} {t : TypeId} {cs : List Value} {H : Type} {enc : TypeId × Value → H} {y : DataW H × List MemPlace} (h : ∃ m, DataW.trod enc P w 0 (fun _ => true) true m t cs = some y) (hz : ∀ m ∈ y.1.weights P t, m ≤ reachBytes) (hb : Go.Proofs.Ytcjopcplhabgkaa.Rows.uptoBulk y.1 ≤ 1048576) : Good2 P w t cs := let ⟨m, h⟩ := h; ⟨H, enc, m, y, h, hz, hb⟩
section
open Go.Proofs.Ytcjopcplhabgkaa.Rows (uptoBulk uptoBulkAll)
theorem bulk_pos {H : Type} (d : DataW H) : 1 ≤ uptoBulk d := by
  unfold uptoBulk; split <;> omega
theorem bulk_len {H : Type} : ∀ ds : List (DataW H), ds.length ≤ uptoBulkAll ds
  | [] => Nat.zero_le _
  | d :: ds => by
    have h1 := bulk_pos d
    have h2 := bulk_len ds
    rw [uptoBulkAll, List.length_cons]; omega
theorem bulk_mem {H : Type} {d : DataW H} : ∀ {ds : List (DataW H)}, d ∈ ds → uptoBulk d ≤ uptoBulkAll ds
  | e :: ds, h => by
    rw [uptoBulkAll]
    rcases List.mem_cons.1 h with rfl | h
    · omega
    · have := bulk_mem h; omega
variable {P : Program} {w : World} {t e : TypeId} {cs : List Value}
theorem good2_slice (ht : P.underlying t = some (.slice e)) (h : Good2 P w t cs) : ∃ a len cap, cs = [.slice a len cap] ∧ len ≤ 1048576 ∧ (a = none → len = 0) ∧
    ∀ ad, a = some ad → ∀ i, i < len → ∃ c : List Value, c.length = P.cellsOf e ∧ (∀ j, j < P.cellsOf e → w.cell? ((ad.add (i * P.cellsOf e)).add j) = c[j]?) ∧ Good2 P w e c := by
  obtain ⟨H, enc, n, y, h, hz, hb⟩ := h
  rcases DataW.trod_slice ht h with ⟨rfl, _⟩ | ⟨a, len, cap, elems, rest, m, _, rfl, hy0, _, hl, hm, hlen, hel, hsp, hns⟩
  · exact ⟨none, 0, 0, rfl, Nat.zero_le _, (fun _ => rfl), (fun ad h => by cases h)⟩
  · rw [hy0] at hz hb
    rw [uptoBulk] at hb
    have hbl := bulk_len (elems.map (·.1))
    rw [List.length_map] at hbl
    refine ⟨some a, len, cap, rfl, by omega, (fun h => by cases h), fun ad had i hi => ?_⟩
    injection had with had; subst had
    have hE := hel i hi
    have hlt : i < elems.length := by omega
    rw [show elems[i]? = some elems[i] by simp [hlt], Option.bind_eq_some_iff] at hE
    obtain ⟨c, hc, hy⟩ := hE
    obtain ⟨_, hcl, hcc⟩ := World.cells?_some hc
    have hmem : elems[i].1 ∈ elems.map (·.1) := List.mem_map.2 ⟨elems[i], List.getElem_mem hlt, rfl⟩
    refine ⟨c, hcl, hcc, H, enc, m, elems[i], hy, fun q hq => hz q ?_, by have := bulk_mem hmem; omega⟩
    simp only [DataW.weights, ht]
    exact List.mem_cons_of_mem _ (List.mem_append_left _ (weights_all (d := elems[i].1) hmem q hq))
theorem pick_all {α β : Type} {R : α → β → Prop} : ∀ {us : List α}, (∀ (i : Nat) (u : α), us[i]? = some u → ∃ x, R u x) → ∃ xs : List β, us.length = xs.length ∧ ∀ (i : Nat) (u : α) (x : β), us[i]? = some u → xs[i]? = some x → R u x
  | [], _ => ⟨[], rfl, fun i u x h => by simp at h⟩
  | u0 :: us, h => by
    obtain ⟨x0, h0⟩ := h 0 u0 rfl
    obtain ⟨xs, h1, h2⟩ := pick_all (us := us) fun i u hu => h (i + 1) u (by simpa using hu)
    refine ⟨x0 :: xs, by simp [h1], fun i u x hu hx => ?_⟩
    rcases i with _ | i
    · simp at hu hx; subst hu; subst hx; exact h0
    · exact h2 i u x (by simpa using hu) (by simpa using hx)
theorem good2_parts {v : Value} {f : TypeId} (ht : P.underlying t = some (.slice e)) (he : P.underlying e = some (.slice f)) (hf : P.underlying f = some (.int .u8)) (hze : P.cellsOf e = 1) (hzf : P.cellsOf f = 1) (h : Good2 P w t [v]) :
    ∃ (us : List Value) (xss : List (List Int)), Sl w 1 v us.length us ∧ us.length = xss.length ∧ (∀ (i : Nat) (u : Value) (xs : List Int), us[i]? = some u → xss[i]? = some xs → Nm .u8 w u xs) ∧ ∀ xs ∈ xss, xs.length ≤ 1048576 := by
  obtain ⟨n, us, hS, hn, hg⟩ := good_sl ht hze h.good
  have hul : us.length = n := by obtain ⟨_, _, _, _, h, _⟩ := hS; omega
  obtain ⟨a, len, cap, hv, hlen, hnone, hel⟩ := good2_slice ht h
  simp only [List.cons.injEq, and_true] at hv
  subst hv
  obtain ⟨a', c', hv', _, _, hcell, _⟩ := id hS
  have hln : len = n := by injection hv' with _ h2 _
  have haa : a = a' := by injection hv'
  subst hln; subst haa
  have hall : ∀ (i : Nat) (u : Value), us[i]? = some u → ∃ xs : List Int, Nm .u8 w u xs ∧ xs.length ≤ 1048576 := fun i u hi => by
    have hil : i < us.length := (List.getElem?_eq_some_iff.1 hi).1
    cases a with
    | none => have := hnone rfl; omega
    | some ad =>
      obtain ⟨c, c1, c2, c3⟩ := hel ad rfl i (by omega)
      rw [hze] at c1 c2
      obtain ⟨u', rfl⟩ := List.length_eq_one_iff.1 c1
      have h0 := c2 0 (by omega)
      have h1 := hcell ad rfl i u hi
      rw [Nat.mul_one, Addr.add2', Nat.add_zero, h1] at h0
      simp only [List.getElem?_cons_zero, Option.some.injEq] at h0
      subst h0
      obtain ⟨xs, hx, _⟩ := good_nm he hf hzf c3.good
      obtain ⟨a2, len2, cap2, hu2, hl2, _⟩ := good2_slice he c3
      simp only [List.cons.injEq, and_true] at hu2
      subst hu2
      have := hx.slen
      exact ⟨xs, hx, by simp only [slenV] at this; omega⟩
  obtain ⟨xss, h1, h2⟩ := pick_all (R := fun u xs => Nm .u8 w u xs ∧ xs.length ≤ 1048576) hall
  refine ⟨us, xss, by rw [hul]; exact hS, h1, fun i u xs hu hx => (h2 i u xs hu hx).1, fun xs hx => ?_⟩
  obtain ⟨i, hi⟩ := List.mem_iff_getElem?.1 hx
  have hil : i < us.length := by rw [h1]; exact (List.getElem?_eq_some_iff.1 hi).1
  exact (h2 i us[i] xs (by simp [hil]) hi).2
end
theorem NumParts_upto {p v : Value} {w : World} {ys : List Int} (h : Good2 P w t_sl_sl_uint8 [p]) (hv : Nm .u64 w v ys) : Calls P n_valiselaw02_NumParts #[p, v] w (Holds w) := by
  obtain ⟨us, xss, h1, h2, h3, h4⟩ := good2_parts (e := t_sl_uint8) (f := t_uint8) (by kernel_rfl) (by kernel_rfl) (by kernel_rfl) (by kernel_rfl) (by kernel_rfl) h
  exact NumParts_law h1 h2 h3 h4 hv
end Go.Proofs.YtcjopcplhabgkaaV
