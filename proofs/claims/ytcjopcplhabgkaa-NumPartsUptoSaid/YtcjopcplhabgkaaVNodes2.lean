/- Nodes, second part: stores of several cells, loads of structs, appending, literals, parts of slices, texts. -/
import Derived.Test.YtcjopcplhabgkaaVNodes
namespace Go.Proofs.YtcjopcplhabgkaaV
open Go Go.RowKit
section
variable {P : Program} {w : World}
def sizeIs (P : Program) (t : TypeId) (n : Nat) : Bool := match P.info? t with
  | some i => Nat.beq i.size n
  | none => false
theorem gStore_agg {t : TypeId} {ad : Addr} {cs : List Value} {j : Nat} {ds : Array Value} {K : World → Prop} (h : St w ad cs) (hj : j + ds.size ≤ cs.length) (h1 : ∀ u ∈ ds.toList, u.oneCell' = true)
    (hk : ∀ w', Ch (Rg (ad.add j) ds.size) w w' → w'.heap.size = w.heap.size → St w' ad (cs.take j ++ ds.toList ++ cs.drop (j + ds.size)) → K w') (ht : sizeIs P t ds.size = true) : gStore P t (.pointer (some (ad.add j))) (.agg ds) w K := by
  have hs : ∃ i, P.info? t = some i ∧ i.size = ds.size := by
    unfold sizeIs at ht; split at ht
    · rename_i i hi; exact ⟨i, hi, Nat.eq_of_beq_eq_true ht⟩
    · cases ht
  obtain ⟨i, hi, hsz⟩ := hs
  obtain ⟨h0, c, e, hc1, hc2⟩ := h
  by_cases hz : ds.size = 0
  · have : ds = #[] := Array.eq_empty_of_size_eq_zero hz
    subst this
    refine ⟨w, ?_, hk w (Ch.refl _ w) rfl ⟨h0, c, e, hc1, ?_⟩⟩
    · simp only [Instr.storeAt, Instr.sureAddr, storeVar, Sem.run_bind, Sem.run_pure, Result.andThen_ok, sizeOf, typeInfo, run_program, hi, Value.cells, hsz]
      simp [storeCells]
    · simpa using hc2
  have hend : ad.off + j + ds.size ≤ c.size := by
    have hlt : j + ds.size - 1 < cs.length := by omega
    have := (Array.getElem?_eq_some_iff.1 (hc2 (j + ds.size - 1) cs[j + ds.size - 1] (by simp [hlt]))).1
    omega
  have hadd := Addr.add_none h0 j
  have hrun := run_storeCells_at P ad.block (ad.off + j) e ds.toList 0 c w hc1 (by simpa using hend) h1
  simp only [Nat.add_zero, Array.length_toList] at hrun
  have hcl : (Value.agg ds).cells = ds := rfl
  obtain ⟨c2, hce⟩ : ∃ c2, c2 = (List.take (ad.off + j) c.toList ++ ds.toList ++ List.drop (ad.off + j + ds.size) c.toList).toArray := ⟨_, rfl⟩
  rw [← hce] at hrun
  refine ⟨w.setRow ad.block c2, ?_, hk _ ?_ (by simp) ⟨h0, c2, e, setRow_heap w ad.block c c2 e _ hc1, fun q u hq => ?_⟩⟩
  · rw [hadd]
    simp only [Instr.storeAt, Instr.sureAddr, storeVar, Sem.run_bind, Sem.run_pure, Result.andThen_ok, sizeOf, typeInfo, run_program, hi, hcl, hsz]
    simpa using hrun
  · refine ⟨rfl, rfl, rfl, by simp, fun k hk hn => setRow_other w ad.block k _ (fun hkk => hn (ad.off + j) ⟨by rw [hadd, hkk], by rw [hadd]; exact Nat.le_refl _, by rw [hadd]; dsimp only; omega⟩), fun k c' e' f hk' => ?_, fun k o hk ho => by rw [setRow_other w ad.block k _ (ne_cells hc1 hk ho)]; exact hk⟩
    by_cases hkb : k = ad.block
    · subst hkb
      rw [hc1] at hk'
      injection hk' with hk'; injection hk' with hk1 hk2 hk3
      subst hk1; subst hk2; subst hk3
      refine ⟨c2, setRow_heap w ad.block c c2 e _ hc1, by rw [hce]; simp; omega, fun q hq => ?_⟩
      subst hce
      rw [hadd] at hq
      replace hq : ¬ (ad.off + j ≤ q ∧ q < ad.off + j + ds.size) := fun h => hq ⟨rfl, h.1, h.2⟩
      simp only [List.getElem?_toArray, List.append_assoc]
      rw [List.getElem?_append]
      simp only [List.length_take, Array.length_toList]
      split
      · rw [List.getElem?_take, if_pos (by omega)]; simp
      · rw [List.getElem?_append, if_neg (by simp; omega), List.getElem?_drop]
        simp
        congr 1; omega
    · exact ⟨c', by rw [setRow_other w ad.block k _ hkb]; exact hk', rfl, fun _ _ => rfl⟩
  · subst hce
    simp only [List.getElem?_toArray]
    rw [List.append_assoc, List.getElem?_append] at hq
    simp only [List.length_take] at hq
    rw [List.append_assoc, List.getElem?_append]
    simp only [List.length_take, Array.length_toList]
    split at hq
    · rename_i hlt
      rw [if_pos (by omega), List.getElem?_take, if_pos (by omega)]
      rw [List.getElem?_take] at hq
      split at hq
      · have := hc2 q u hq; simpa using this
      · cases hq
    · rw [if_neg (by omega)]
      rw [List.getElem?_append] at hq ⊢
      split at hq
      · rename_i h1' h2'
        rw [if_pos (by omega)]
        rw [← hq]; congr 1; omega
      · rename_i h1' h2'
        rw [if_neg (by omega)]
        rw [List.getElem?_drop] at hq ⊢
        have := hc2 _ u hq
        rw [← this]
        simp
        congr 1
        simp at h2'
        omega
theorem tex_of_tapp {cs : List Ck} {K : TF cs Prop} {vs : List Value} (h : tapp False cs K vs) (hl : vs.length = cs.length) {p : List Value → Prop} (hp : p vs) : tex cs K fun vs k => p vs ∧ k := by
  induction cs generalizing vs p with
  | nil => cases vs with
    | nil => exact ⟨hp, h⟩
    | cons => simp at hl
  | cons c r ih => cases vs with
    | nil => simp at hl
    | cons v vs =>
      simp only [tapp] at h
      split at h
      · rename_i x hx
        refine ⟨x, ih h (by simpa using hl) ?_⟩
        rw [← Ck.get_inj hx]; exact hp
      · exact h.elim
def aggB (P : Program) (t : TypeId) (n : Nat) : Bool := match P.underlying t with
  | some (.struct _) | some (.array _ _) => sizeIs P t n
  | _ => false
theorem run_loadAgg {t : TypeId} {ad : Addr} {vs : List Value} (hc : ∀ j u, vs[j]? = some u → w.cell? (ad.add j) = some u) (ht : aggB P t vs.length = true) : (Instr.loadAt t (.pointer (some ad))).run P w = .ok (.agg vs.toArray) w := by
  have hagg : (isAgg t).run P w = .ok true w ∧ sizeIs P t vs.length = true := by
    unfold aggB at ht
    split at ht
    · rename_i fs hu; exact ⟨by simp [isAgg, run_underlying hu], ht⟩
    · rename_i n e hu; exact ⟨by simp [isAgg, run_underlying hu], ht⟩
    · cases ht
  obtain ⟨h1, h2⟩ := hagg
  have hs : ∃ i, P.info? t = some i ∧ i.size = vs.length := by
    unfold sizeIs at h2; split at h2
    · rename_i i hi; exact ⟨i, hi, Nat.eq_of_beq_eq_true h2⟩
    · cases h2
  obtain ⟨i, hi, hsz⟩ := hs
  have hl := run_loadCells_list (P := P) w ad vs hc
  simp only [Instr.loadAt, Instr.sureAddr, loadVar, Sem.run_bind, Sem.run_pure, Result.andThen_ok, h1, sizeOf, typeInfo, run_program, hi, hsz, if_true]
  rw [hl]; rfl
/-- A small struct, loaded whole. -/
theorem gLoad_agg {t : TypeId} {cks : List Ck} {ad : Addr} {K : TF cks Prop} (vs : List Value) (hc : ∀ j u, vs[j]? = some u → w.cell? (ad.add j) = some u) (hk : tapp False cks K vs) (hl : vs.length = cks.length) (ht : aggB P t vs.length = true) : gLoad P t (.part (.agg cks)) (.pointer (some ad)) w K :=
  tex_of_tapp (p := fun vs => (Instr.loadAt t (.pointer (some ad))).run P w = .ok (Part.mk (.agg cks) vs) w) hk hl (run_loadAgg hc ht)

/-! ### Appending -/
theorem inR.append {k : IntKind} {xs ys : List Int} (h : inR k xs) (h' : inR k ys) : inR k (xs ++ ys) := fun x hx => (List.mem_append.1 hx).elim (h x) (h' x)
/-- Where a slice lies after it has grown: where it lay, or in a new block. -/
def Moved (w : World) (v v' : Value) : Prop := v'.ownBlock = v.ownBlock ∨ ∀ g, v'.ownBlock = some g → w.heap.size ≤ g
theorem run_append_own' (t ty : TypeId) {e : TypeId} {i : TypeInfo} {z : Value} (ht : P.underlying t = some (.slice e)) (hi : P.info? e = some i) (hz : i.zero = some z) (hsize : i.size = 1) (hzs : z.cells.size = 1)
    {B : Nat} {v : Value} {n : Nat} {xs : List Value} (hown : w.ownsRow B e 1 v n xs) {y : Value} {m : Nat} {news : List Value} (hy : Sl w 1 y m news) (h1 : ∀ u ∈ news, u.oneCell' = true)
    (hb : (n + m) * i.bytes ≤ 140737488355328) (h63 : n + m ≤ maxLen) (hbase : B ≤ w.heap.size) :
    ∃ v' w', (Builtin.append_ #[t, t] ty #[v, y]).run P w = .ok v' w' ∧ w'.ownsRow B e 1 v' (n + m) (xs ++ news) ∧ Ch (Ob v) w w' ∧ Moved w v v' ∧ (news = [] → v' = v) := by
  obtain ⟨a, c, rfl, hnc, hl, hcells, hnil⟩ := hy
  have hcl : ∀ k, v.ownBlock = some k → ∃ c e f, w.heap[k]? = some (.cells c e f) := fun k hk => by
    rcases hown.2 with ⟨rfl, _⟩ | ⟨g, cap, cur, rfl, _, hg, _⟩
    · cases hk
    · simp [Value.ownBlock] at hk; subst hk; exact ⟨_, _, _, hg⟩
  have ofg : ∀ {w' : World}, w.grownBy w' v.ownBlock → (∀ k c e f, v.ownBlock = some k → w.heap[k]? = some (.cells c e f) → ∃ c', w'.heap[k]? = some (.cells c' e f) ∧ c'.size = c.size) → Ch (Ob v) w w' := fun {w'} hg hsh => by
    refine ⟨hg.os, hg.tape, hg.output, hg.size, fun k hk hn => hg.block k hk fun e => hn 0 e.symm, fun k c e f hc => ?_, fun k o hk ho => by
      rw [hg.block k (hlt hk) (fun e => by obtain ⟨c, e2, f, hc⟩ := hcl k e.symm; exact ne_cells hc hk ho rfl)]; exact hk⟩
    by_cases hk : v.ownBlock = some k
    · obtain ⟨c', h1, h2⟩ := hsh k c e f hk hc
      exact ⟨c', h1, h2, fun i hi => absurd hk hi⟩
    · exact ⟨c, by rw [hg.block k (hlt hc) (fun e => hk e.symm)]; exact hc, rfl, fun _ _ => rfl⟩
  cases a with
  | none =>
    have hm := hnil rfl
    subst hm
    have hn0 : news = [] := List.eq_nil_of_length_eq_zero (by simpa using hl)
    subst hn0
    refine ⟨v, w, ?_, by simpa using hown, Ch.refl _ w, .inl rfl, fun _ => rfl⟩
    rcases hown.2 with ⟨rfl, rfl⟩ | ⟨g, cap, cur, rfl, hbg, hg, hn, hm, hcs, htk⟩
    · simp [Builtin.append_, run_underlying ht, sizeOf, typeInfo, hi, Builtin.lenOf, Builtin.firstCells]
    · simp [Builtin.append_, run_underlying ht, sizeOf, typeInfo, hi, Builtin.lenOf, Builtin.firstCells, hn, storeCells]
  | some ad =>
    obtain ⟨v', w', hr, ho, hg, _⟩ := run_append_own (P := P) w B t ty e i z 1 i.bytes ht hi hz hsize rfl hzs (by decide) v n xs hown ad m c news (by simpa using hl) (hcells ad rfl) h1 h63 hb hbase
    refine ⟨v', w', hr, ho, ?_⟩
    -- which way it went
    rcases hown.2 with ⟨rfl, rfl⟩ | ⟨g, cap, cur, rfl, hbg, hgg, hn, hm', hcs, htk⟩
    · by_cases hm0 : m = 0
      · have hn0 : news = [] := List.eq_nil_of_length_eq_zero (by rw [hl, hm0])
        subst hn0; subst hm0
        have hr2 : (Builtin.append_ #[t, t] ty #[.slice none 0 0, .slice (some ad) 0 c]).run P w = .ok (.slice none 0 0) w := by
          simp [Builtin.append_, run_underlying ht, sizeOf, typeInfo, hi, Builtin.lenOf, Builtin.firstCells, loadCells, loadCellsFrom]
        rw [hr2] at hr; injection hr with e1 e2; subst e1; subst e2
        exact ⟨Ch.refl _ w, .inl rfl, fun _ => rfl⟩
      · have hr2 := run_append_nil (P := P) w t ty e i z ht hi hz ad m c news (by rw [hsize]; simpa using hl) (hcells ad rfl) (by omega) (by unfold maxLen at h63; omega) (by simp only [Nat.zero_add] at hb; omega)
        rw [hr2] at hr; injection hr with e1 e2; subst e1
        refine ⟨ofg hg (fun k c e f hk => by cases hk), .inr fun g hg' => ?_, fun h => ?_⟩
        · simp [Value.ownBlock] at hg'; omega
        · subst h; simp at hl; omega
    · by_cases hroom : n + m ≤ cap
      · have hfit : n * i.size + news.length ≤ cur.size := by rw [hl, hsize, hcs]; omega
        have hr2 := run_append_room (P := P) w t ty e i ht hi g n cap cur hgg ad m c news (by rw [hsize]; simpa using hl) (hcells ad rfl) h1 hroom hfit
        rw [hr2] at hr; injection hr with e1 e2; subst e1; subst e2
        refine ⟨ofg hg (fun k c' e' f hk hc => ?_), .inl rfl, fun h => ?_⟩
        · simp [Value.ownBlock] at hk; subst hk
          rw [hgg] at hc; injection hc with hc; injection hc with hc1 hc2 hc3
          subst hc1; subst hc2; subst hc3
          refine ⟨_, setRow_heap w g cur _ e _ hgg, ?_⟩
          simp; omega
        · subst h; simp at hl; simp [← hl]
      · have holds : ∀ j u, xs[j]? = some u → w.cell? ((⟨g, 0, none⟩ : Addr).add j) = some u := hown.cells (g := g) rfl
        have hr2 := run_append_grow (P := P) w t ty e i z ht hi hz ⟨g, 0, none⟩ n cap xs (by rw [hsize]; exact hown.1) holds ad m c news (by rw [hsize]; simpa using hl) (hcells ad rfl) (by omega) (by unfold maxLen at h63; omega) (growslice_fits (by omega) hb)
        rw [hr2] at hr; injection hr with e1 e2; subst e1
        have he2 := e2
        refine ⟨ofg hg (fun k c' e' f hk hc => ⟨c', ?_, rfl⟩), .inr fun g' hg' => ?_, fun h => ?_⟩
        · rw [← he2]
          show (w.heap.push _)[k]? = _
          rw [Array.getElem?_push, if_neg (by have := hlt hc; omega)]; exact hc
        · simp [Value.ownBlock] at hg'; omega
        · subst h; simp at hl; omega
theorem gApp_on {t ty : TypeId} {k : IntKind} {B : Nat} {v y : Value} {xs ys : List Int} {K : Value → World → Prop} (h : ON k (elOf P t) w B v xs) (hy : Nm k w y ys) (hb : (xs.length + ys.length) * 8 ≤ 140737488355328) (hB : B ≤ w.heap.size)
    (hk : ∀ v' w', ON k (elOf P t) w' B v' (xs ++ ys) → Ch (Ob v) w w' → Moved w v v' → K v' w') (ht : slInt P t k = true := by kernel_rfl) : gApp P #[t, t] ty #[v, y] w K := by
  obtain ⟨hu, i, hi, hsz, hby, hby1, hz⟩ := slInt_ok ht
  have hbb : (xs.length + ys.length) * i.bytes ≤ 140737488355328 := Nat.le_trans (Nat.mul_le_mul_left _ hby) hb
  obtain ⟨v', w', hr, ho, hc, hm, _⟩ := run_append_own' (P := P) t ty hu hi hz hsz rfl h.1 hy.1 (fun u hu => by obtain ⟨x, _, rfl⟩ := List.mem_map.1 hu; rfl) hbb (by unfold maxLen; omega) hB
  refine ⟨v', w', hr, hk v' w' ⟨?_, h.2.append hy.2⟩ hc hm⟩
  rw [List.length_append, List.map_append]; exact ho
end
end Go.Proofs.YtcjopcplhabgkaaV
