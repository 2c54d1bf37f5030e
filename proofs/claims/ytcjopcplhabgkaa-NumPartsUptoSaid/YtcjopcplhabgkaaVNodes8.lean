/- Rows that are owned: parts of them, room behind them, copies into them, cleared parts. -/
import Derived.Test.YtcjopcplhabgkaaVNodes7
namespace Go.Proofs.YtcjopcplhabgkaaV
open Go Go.RowKit
/-- An owned row's block, with room for c things. -/
abbrev rowV (g n c : Nat) : Value := .slice (some ⟨g, 0, none⟩) n c
section
variable {P : Program} {w0 w : World} {F : List It} {e : TypeId} {sz g n c : Nat} {cs : List Value}
theorem row_block (h : w.ownsRow 0 e sz (rowV g n c) n cs) : ∃ cur, w.heap[g]? = some (.cells cur e (0, 0)) ∧ n ≤ c ∧ c ≤ maxLen ∧ cur.size = c * sz ∧ cur.toList.take (n * sz) = cs ∧ cs.length = n * sz := by
  rcases h.2 with ⟨hn, _⟩ | ⟨g', cap, cur, hv, hb, hg, hn, hm, hcs, htk⟩
  · simp at hn
  · simp only [Value.slice.injEq, Option.some.injEq, Addr.mk.injEq, and_true, true_and] at hv
    obtain ⟨rfl, rfl⟩ := hv
    exact ⟨cur, hg, hn, hm, hcs, htk, h.1⟩
theorem row_of {cur : Array Value} (hg : w.heap[g]? = some (.cells cur e (0, 0))) (hn : n ≤ c) (hm : c ≤ maxLen) (hs : cur.size = c * sz) (ht : cur.toList.take (n * sz) = cs) : w.ownsRow 0 e sz (rowV g n c) n cs := by
  refine ⟨?_, .inr ⟨g, c, cur, rfl, Nat.zero_le _, hg, hn, hm, hs, ht⟩⟩
  rw [← ht, List.length_take, Array.length_toList, hs]
  exact Nat.min_eq_left (Nat.mul_le_mul_right _ hn)
/-- A row that is nil, or has a block. -/
theorem row_cases {v : Value} (h : w.ownsRow 0 e sz v n cs) : (v = .slice none 0 0 ∧ n = 0) ∨ ∃ g c, v = rowV g n c := by
  rcases h.2 with h | ⟨g, cap, _, hv, _⟩
  · exact .inl h
  · exact .inr ⟨g, cap, hv⟩
/-- Less of a row. -/
theorem fPrefix (h : Fr w0 w (rIt e sz (rowV g n c) n cs :: F)) (i : Nat) (hi : i ≤ n) : Fr w0 w (rIt e sz (rowV g i c) i (cs.take (i * sz)) :: F) := by
  obtain ⟨cur, hg, hn, hm, hs, ht, hl⟩ := row_block h.1
  exact ⟨row_of hg (by omega) hm hs (by rw [← ht, List.take_take, Nat.min_eq_left (Nat.mul_le_mul_right _ hi)]), h.2.1, h.2.2.1, h.2.2.2⟩
/-- More of it: what stands there nobody knows. -/
theorem fWiden (h : Fr w0 w (rIt e sz (rowV g n c) n cs :: F)) (m : Nat) (hi : n ≤ m) (hmc : m ≤ c) : ∃ zs, zs.length = (m - n) * sz ∧ Fr w0 w (rIt e sz (rowV g m c) m (cs ++ zs) :: F) := by
  obtain ⟨cur, hg, hn, hm, hs, ht, hl⟩ := row_block h.1
  have hle : n * sz ≤ m * sz := Nat.mul_le_mul_right _ hi
  have hle2 : m * sz ≤ c * sz := Nat.mul_le_mul_right _ hmc
  refine ⟨(cur.toList.take (m * sz)).drop (n * sz), ?_, row_of hg hmc hm hs ?_, h.2.1, h.2.2.1, h.2.2.2⟩
  · rw [List.length_drop, List.length_take, Array.length_toList, hs, Nat.min_eq_left hle2, Nat.sub_mul]
  · rw [← ht]
    have := (List.take_append_drop (n * sz) (cur.toList.take (m * sz))).symm
    rw [List.take_take, Nat.min_eq_left hle] at this
    exact this
theorem subV_row (sz g n c l h : Nat) : subV sz (rowV g n c) l h = .slice (if c = l then some ⟨g, 0, none⟩ else some ⟨g, l * sz, none⟩) (h - l) (c - l) := by
  show Value.slice (if c = l then some ⟨g, 0, none⟩ else Option.map (fun x : Addr => x.add (l * sz)) (some ⟨g, 0, none⟩)) (h - l) (c - l) = _
  rw [Option.map_some, Addr.add_lit, Nat.zero_add]
theorem run_copy_rowS (w : World) (dT sT ty elem : TypeId) (sz g o dLen dCap : Nat) (a : Addr) (sLen sCap : Nat) (cur : Array Value) (t : TypeId) (cs : List Value)
    (hu : P.underlying dT = some (.slice elem)) (hs : (P.info? elem).map (·.size) = some sz)
    (hg : w.heap[g]? = some (.cells cur t (0, 0))) (hn : cs.length = Nat.min sLen dLen * sz)
    (hsrc : ∀ j v, cs[j]? = some v → w.cell? (a.add j) = some v) (hfit : o + cs.length ≤ cur.size) (h1 : ∀ v ∈ cs, v.oneCell' = true) :
    (Builtin.copy_ #[dT, sT] ty #[.slice (some ⟨g, o, none⟩) dLen dCap, .slice (some a) sLen sCap]).run P w =
      .ok (goInt (Nat.min sLen dLen)) (w.setRow g (cur.toList.take o ++ cs ++ cur.toList.drop (o + cs.length)).toArray) := by
  have hl := run_loadCells_list (P := P) w a cs hsrc
  have hst := run_storeCells_at P g o t cs 0 cur w hg (by simpa using hfit) h1
  cases hq : P.info? elem with
  | none => simp [hq] at hs
  | some i =>
    have hi : i.size = sz := by simpa [hq] using hs
    simp [Builtin.copy_, run_underlying hu, Builtin.lenOf, Builtin.firstCells, sizeOf, typeInfo, hq, hi, ← hn, hl, hst]
theorem setRow_ch {cur : Array Value} {ds : Array Value} (hg : w.heap[g]? = some (.cells cur e (0, 0))) (hs : ds.size = cur.size) : Ch (Bk g) w (w.setRow g ds) := by
  refine ⟨rfl, rfl, rfl, by simp, fun j hj hn => setRow_other w g j _ fun e => hn 0 e, fun j c' e' f hj => ?_, fun k o hk ho => by rw [setRow_other w g k _ (ne_cells hg hk ho)]; exact hk⟩
  by_cases hjg : j = g
  · subst hjg
    rw [hg] at hj
    injection hj with hj; injection hj with h1 h2 h3
    subst h1; subst h2; subst h3
    exact ⟨_, setRow_heap w j cur _ _ _ hg, hs, fun i hi => absurd rfl hi⟩
  · exact ⟨c', by rw [setRow_other w g j _ hjg]; exact hj, rfl, fun _ _ => rfl⟩
/-- copy(row[l:h], y). -/
theorem fCopyR {t ty : TypeId} {l h m : Nat} {y : Value} {ds : List Value} {K : Int → World → Prop} (b : Nat) (f : Fr w0 w (rIt (elOf P t) sz (rowV g n c) n cs :: F)) (hlh : l ≤ h) (hhn : h ≤ n) (hy : Sl w sz y m ds) (h1 : ∀ u ∈ ds.take (min m (h - l) * sz), u.oneCell' = true)
    (hk : ∀ w' q, q = min m (h - l) → Fr w0 w' (rIt (elOf P t) sz (rowV g n c) n (cs.take (l * sz) ++ ds.take (q * sz) ++ cs.drop ((l + q) * sz)) :: F) → K (q : Int) w') (ht : slRow P t sz b = true := by kernel_rfl) :
    gCopy P #[t, t] ty #[subV sz (rowV g n c) l h, y] w K := by
  obtain ⟨hu, ii, z, hii, hz, hsz, hzs, hbb⟩ := slRow_ok ht
  obtain ⟨cur, hg, hn, hm, hs, htk, hl⟩ := row_block f.1
  obtain ⟨a, cy, rfl, hnc, hdl, hcells, hnil⟩ := hy
  have hmap : (P.info? (elOf P t)).map (·.size) = some sz := by rw [hii]; simp [hsz]
  have hdead : ∀ cz, (Builtin.copy_ #[t, t] ty #[subV sz (rowV g n c) l h, .slice none 0 cz]).run P w = .ok (.int .i64 0) w := fun cz => by
    have hsub : ∃ o, subV sz (rowV g n c) l h = .slice (some o) (h - l) (c - l) := by
      rw [subV_row]; split
      · exact ⟨_, rfl⟩
      · exact ⟨_, rfl⟩
    obtain ⟨o, ho⟩ := hsub
    rw [ho]
    simp [Builtin.copy_, run_underlying hu, Builtin.lenOf, Builtin.firstCells, sizeOf, typeInfo, hii, storeCells]; rfl
  cases a with
  | none =>
    have := hnil rfl
    subst this
    refine ⟨((0 : Nat) : Int), w, hdead _, hk w 0 (by omega) ?_⟩
    simpa using f
  | some ad =>
    have hq : min m (h - l) ≤ m := Nat.min_le_left _ _
    have hle : min m (h - l) * sz ≤ m * sz := Nat.mul_le_mul_right _ hq
    have htl : (ds.take (min m (h - l) * sz)).length = min m (h - l) * sz := by rw [List.length_take, hdl]; omega
    have hlc : l * sz + min m (h - l) * sz ≤ n * sz := by rw [← Nat.add_mul]; exact Nat.mul_le_mul_right _ (by omega)
    have hnc2 : n * sz ≤ c * sz := Nat.mul_le_mul_right _ hn
    by_cases hcl : c = l
    · -- nothing there
      have hz0 : min m (h - l) = 0 := by omega
      have hrun : (Builtin.copy_ #[t, t] ty #[subV sz (rowV g n c) l h, .slice (some ad) m cy]).run P w = .ok (.int .i64 0) w := by
        have h0 : Nat.min m (h - l) = 0 := hz0
        have hsub : subV sz (rowV g n c) l h = .slice (some ⟨g, 0, none⟩) (h - l) (c - l) := by rw [subV_row, if_pos hcl]
        rw [hsub]
        simp [Builtin.copy_, run_underlying hu, Builtin.lenOf, Builtin.firstCells, sizeOf, typeInfo, hii, h0, loadCells, loadCellsFrom, storeCells]; rfl
      refine ⟨((0 : Nat) : Int), w, hrun, hk w 0 hz0.symm ?_⟩
      simpa using f
    · have hsub : subV sz (rowV g n c) l h = .slice (some ⟨g, l * sz, none⟩) (h - l) (c - l) := by
        rw [subV_row, if_neg hcl]
      rw [hsub]
      have hrun := run_copy_rowS (P := P) w t t ty (elOf P t) sz g (l * sz) (h - l) (c - l) ad m cy cur (elOf P t) (ds.take (min m (h - l) * sz)) hu hmap hg htl
        (fun j u hj => hcells ad rfl j u (by
          rw [List.getElem?_take] at hj
          split at hj
          · exact hj
          · cases hj)) (by rw [htl, hs]; omega) (fun u hu => h1 u hu)
      have hsz2 : (cur.toList.take (l * sz) ++ ds.take (min m (h - l) * sz) ++ cur.toList.drop (l * sz + (ds.take (min m (h - l) * sz)).length)).toArray.size = cur.size := by
        simp only [List.size_toArray, List.length_append, List.length_take, List.length_drop, Array.length_toList, hs, hdl]; omega
      refine ⟨((min m (h - l) : Nat) : Int), _, hrun, hk _ _ rfl (f.upd (jt := rIt _ _ _ _ _) 0 rfl (setRow_ch hg hsz2) (fun k _ hh => .inl ?_) ?_ fun k hk => .inl hk)⟩
      · show some g = some k; rw [show k = g from hh]
      · refine row_of (setRow_heap w g cur _ _ _ hg) hn hm (by rw [hsz2, hs]) ?_
        dsimp only
        rw [htl, ← Nat.add_mul, List.take_append, List.take_append]
        have e1 : (cur.toList.take (l * sz)).take (n * sz) = cs.take (l * sz) := by
          rw [List.take_take, ← htk, List.take_take]; congr 1; omega
        have e2 : (ds.take (min m (h - l) * sz)).take (n * sz - (cur.toList.take (l * sz)).length) = ds.take (min m (h - l) * sz) := by
          refine List.take_of_length_le ?_
          rw [htl, List.length_take, Array.length_toList, hs]; omega
        have e3 : (cur.toList.drop ((l + min m (h - l)) * sz)).take (n * sz - (cur.toList.take (l * sz) ++ ds.take (min m (h - l) * sz)).length) = cs.drop ((l + min m (h - l)) * sz) := by
          rw [List.length_append, htl, List.length_take, Array.length_toList, hs, ← htk, List.drop_take]
          congr 1
          rw [Nat.add_mul]; omega
        rw [e1, e2, e3]
/-- append, where there is room. -/
theorem fAppFits {t ty : TypeId} {m : Nat} {y : Value} {ds : List Value} {K : Value → World → Prop} (b : Nat) (f : Fr w0 w (rIt (elOf P t) sz (rowV g n c) n cs :: F)) (hy : Sl w sz y m ds) (h1 : ∀ u ∈ ds, u.oneCell' = true) (hr : n + m ≤ c)
    (hk : ∀ w', Fr w0 w' (rIt (elOf P t) sz (rowV g (n + m) c) (n + m) (cs ++ ds) :: F) → K (rowV g (n + m) c) w') (ht : slRow P t sz b = true := by kernel_rfl) : gApp P #[t, t] ty #[rowV g n c, y] w K := by
  obtain ⟨hu, ii, z, hii, hz, hsz, hzs, hbb⟩ := slRow_ok ht
  obtain ⟨cur, hg, hn, hm, hs, htk, hl⟩ := row_block f.1
  obtain ⟨a, cy, rfl, hnc, hdl, hcells, hnil⟩ := hy
  cases a with
  | none =>
    have := hnil rfl
    subst this
    have hd0 : ds = [] := List.eq_nil_of_length_eq_zero (by rw [hdl, Nat.zero_mul])
    subst hd0
    have hr2 : (Builtin.append_ #[t, t] ty #[rowV g n c, .slice none 0 cy]).run P w = .ok (rowV g n c) w := by
      simp [Builtin.append_, run_underlying hu, sizeOf, typeInfo, hii, Builtin.lenOf, Builtin.firstCells, hn, storeCells]
    exact ⟨_, w, hr2, hk w (by simpa using f)⟩
  | some ad =>
    have hfit : n * ii.size + ds.length ≤ cur.size := by rw [hdl, hsz, hs, ← Nat.add_mul]; exact Nat.mul_le_mul_right _ hr
    have hr2 := run_append_room (P := P) w t ty (elOf P t) ii hu hii g n c cur hg ad m cy ds (by rw [hsz]; exact hdl) (hcells ad rfl) h1 hr hfit
    rw [hsz] at hr2 hfit
    have hsz2 : (cur.toList.take (n * sz) ++ ds ++ cur.toList.drop (n * sz + ds.length)).toArray.size = cur.size := by
      simp only [List.size_toArray, List.length_append, List.length_take, List.length_drop, Array.length_toList]; omega
    refine ⟨_, _, hr2, hk _ (f.upd (jt := rIt _ _ _ _ _) 0 rfl (setRow_ch hg hsz2) (fun k _ hh => .inl (by show some g = some k; rw [show k = g from hh])) (row_of (setRow_heap w g cur _ _ _ hg) hr hm (by rw [hsz2, hs]) ?_) fun k hk => .inl hk)⟩
    dsimp only
    rw [htk, List.take_append_of_le_length (by rw [List.length_append, hl, hdl, ← Nat.add_mul]; exact Nat.le_refl _)]
    exact List.take_of_length_le (by rw [List.length_append, hl, hdl, ← Nat.add_mul]; exact Nat.le_refl _)
/-- clear of what stands behind a row. -/
theorem fClear {t ty : TypeId} {m : Nat} {K : Value → World → Prop} (b : Nat) (f : Fr w0 w (rIt (elOf P t) sz (rowV g n c) n cs :: F)) (hmc : n + m ≤ c) (hm0 : 0 < m) (h1 : ∀ z i, P.info? (elOf P t) = some i → i.zero = some z → ∀ u ∈ z.cells.toList, u.oneCell' = true)
    (hk : ∀ v w', Fr w0 w' (rIt (elOf P t) sz (rowV g n c) n cs :: F) → K v w') (ht : slRow P t sz b = true := by kernel_rfl) (hsz0 : 0 < sz := by decide) : gValW P (Builtin.clear_ #[t] ty #[.slice (some ⟨g, n * sz, none⟩) m (c - n)]) w K := by
  obtain ⟨hu, ii, z, hii, hz, hsz, hzs, hbb⟩ := slRow_ok ht
  obtain ⟨cur, hg, hn, hm, hs, htk, hl⟩ := row_block f.1
  have hzl : (Builtin.zeroCells z.cells m).toList.length = m * sz := by rw [Array.length_toList, size_zeroCells, hzs]
  have hz1 : ∀ u ∈ (Builtin.zeroCells z.cells m).toList, u.oneCell' = true := fun u hu => by
    unfold Builtin.zeroCells at hu
    rw [Array.toList_map, List.mem_map] at hu
    obtain ⟨i, _, rfl⟩ := hu
    have hlt : i % z.cells.size < z.cells.size := Nat.mod_lt _ (by omega)
    rw [getElem!_pos z.cells _ hlt]
    exact h1 z ii hii hz _ (Array.getElem_mem_toList hlt)
  have hle : n * sz + m * sz ≤ c * sz := by rw [← Nat.add_mul]; exact Nat.mul_le_mul_right _ hmc
  have hst := run_storeCells_at P g (n * sz) (elOf P t) (Builtin.zeroCells z.cells m).toList 0 cur w hg (by rw [hzl, hs]; exact hle) hz1
  simp only [Nat.add_zero] at hst
  obtain ⟨m', rfl⟩ : ∃ m', m = m' + 1 := ⟨m - 1, by omega⟩
  have hrun : (Builtin.clear_ #[t] ty #[.slice (some ⟨g, n * sz, none⟩) (m' + 1) (c - n)]).run P w = .ok (.tuple #[]) (w.setRow g (cur.toList.take (n * sz) ++ (Builtin.zeroCells z.cells (m' + 1)).toList ++ cur.toList.drop (n * sz + (Builtin.zeroCells z.cells (m' + 1)).toList.length)).toArray) := by
    simp [Builtin.clear_, run_underlying hu, zeroValue, typeInfo, hii, hz, hst]
  have hsz2 : (cur.toList.take (n * sz) ++ (Builtin.zeroCells z.cells (m' + 1)).toList ++ cur.toList.drop (n * sz + (Builtin.zeroCells z.cells (m' + 1)).toList.length)).toArray.size = cur.size := by
    simp only [List.size_toArray, List.length_append, List.length_take, List.length_drop, hzl, Array.length_toList, hs]; omega
  refine ⟨_, _, hrun, hk _ _ (f.upd (jt := rIt _ _ _ _ _) 0 rfl (setRow_ch hg hsz2) (fun k _ hh => .inl (by show some g = some k; rw [show k = g from hh])) (row_of (setRow_heap w g cur _ _ _ hg) hn hm (by rw [hsz2, hs]) ?_) fun k hk => .inl hk)⟩
  dsimp only
  rw [List.append_assoc, List.take_append_of_le_length (by rw [List.length_take, Array.length_toList, hs]; omega), List.take_take, Nat.min_self, htk]
def isIntT (P : Program) (t : TypeId) : Bool := match P.underlying t with
  | some (.int _) => true
  | _ => false
/-- append(row, make(.., m)...), where there is no room. -/
theorem fAppZ {t ti ty : TypeId} {m : Nat} {z : Value} {K : Value → World → Prop} (b : Nat) (f : Fr w0 w F) {ad : Addr} (hS : Sl w sz (.slice (some ad) n c) n cs) (hr : c < n + m) (hb : (n + m) * b ≤ 140737488355328) (hb1 : (n + m) ≤ 140737488355328)
    (hk : ∀ g' c' w', n + m ≤ c' → Fr w0 w' (rIt (elOf P t) sz (rowV g' (n + m) c') (n + m) (cs ++ (Builtin.zeroCells z.cells m).toList) :: F) → K (rowV g' (n + m) c') w') (hz : (P.info? (elOf P t)).bind (·.zero) = some z) (ht : slRow P t sz b = true := by kernel_rfl) (hti : isIntT P ti = true := by kernel_rfl) (hsz0 : 0 < sz := by decide) :
    gApp P #[t, ti] ty #[.slice (some ad) n c, .int .i64 (m : Int)] w K := by
  obtain ⟨hu, ii, z', hii, hz', hsz, hzs, hbb⟩ := slRow_ok ht
  rw [hii] at hz
  simp only [Option.bind_some] at hz
  rw [hz] at hz'; injection hz' with hz'; subst hz'
  have hl : cs.length = n * sz := by obtain ⟨_, _, _, _, h, _⟩ := hS; exact h
  have hn : n ≤ c := by obtain ⟨a, c', e1, h, _⟩ := hS; injection e1 with _ _ e3; omega
  have hcell : ∀ j v, cs[j]? = some v → w.cell? (ad.add j) = some v := fun j v hj => by
    obtain ⟨a, c', e1, _, _, h3, _⟩ := hS
    injection e1 with e1 _ _
    exact h3 ad e1.symm j v hj
  have htu : ∃ k, P.underlying ti = some (.int k) := by
    unfold isIntT at hti; split at hti
    · rename_i k h; exact ⟨k, h⟩
    · cases hti
  obtain ⟨k, htu⟩ := htu
  have holds : ∀ j v, cs[j]? = some v → w.drew.cell? (ad.add j) = some v := fun j v hj => hcell j v hj
  have hfo := run_firstCells_some (P := P) w.drew ii.size n ad n c cs (by rw [hsz]; exact hl) holds
  have hbb2 : (n + m) * ii.bytes ≤ 140737488355328 := Nat.le_trans (Nat.mul_le_mul_left _ hbb) hb
  have hfit := growslice_fits (need := n + m) (old := c) hr hbb2
  have h48 : ¬ (281474976710656 < Builtin.nextslicecap (n + m) c * ii.bytes) := by omega
  have hm48 : ¬ ((281474976710656 : Int) < (m : Int) * (ii.bytes : Int)) := by
    have : m * ii.bytes ≤ (n + m) * ii.bytes := Nat.mul_le_mul_right _ (by omega)
    have h2 : ((m * ii.bytes : Nat) : Int) ≤ 140737488355328 := by omega
    rw [Int.natCast_mul] at h2; omega
  have hwr : IntKind.wrap .i64 (m : Int) = (m : Int) := by have := i64_id (n := (m : Int)) (by omega) (by omega); simpa [i64] using this
  have hneg : ¬ ((m : Int) < 0) := by omega
  have hms : ¬ (m * ii.size = 0) := by
    rw [hsz]; intro h0
    rcases Nat.mul_eq_zero.1 h0 with h | h <;> omega
  have hni : ¬ (9223372036854775807 < ((n : Int) + (m : Int))) := by omega
  have hroom : ¬ (n + m ≤ c) := by omega
  have hrun : (Builtin.append_ #[t, ti] ty #[.slice (some ad) n c, .int .i64 (m : Int)]).run P w = .ok (.slice (some ⟨w.heap.size, 0, none⟩) (n + m) (grownCap w (n + m) c (elOf P t)))
      (w.drew.alloc (.cells (cs.toArray ++ Builtin.zeroCells z.cells m ++ Builtin.zeroCells z.cells (grownCap w (n + m) c (elOf P t) - (n + m))) (elOf P t))) := by
    simp [Builtin.append_, run_underlying hu, run_underlying htu, sizeOf, typeInfo, zeroValue, hii, hz, asInt, asIntOf, hwr, hneg, hm48, hroom, hni, h48, Question.forced, hfo, newRow, grownCap]
    intro h0; exact absurd h0 hms
  have hge := grownCap_ge w (n + m) c (elOf P t)
  refine ⟨_, _, hrun, hk _ _ _ hge (f.new (jt := rIt _ _ _ _ _) ((Ev.drew0 w).trans (Ev.alloc _ _)) (row_of (heap_alloc_new w.drew _) hge (grownCap_le_maxLen w (n + m) c (elOf P t) (by unfold maxLen; omega)) ?_ ?_) fun k hk => ?_)⟩
  · simp only [Array.size_append, List.size_toArray, size_zeroCells, hl, hzs]
    rw [← Nat.add_mul, ← Nat.add_mul]; congr 1; omega
  · simp only [Array.toList_append, List.toList_toArray]
    rw [List.take_append_of_le_length (by rw [List.length_append, hl, Array.length_toList, size_zeroCells, hzs, ← Nat.add_mul]; exact Nat.le_refl _)]
    exact List.take_of_length_le (by rw [List.length_append, hl, Array.length_toList, size_zeroCells, hzs, ← Nat.add_mul]; exact Nat.le_refl _)
  · have hk : some w.heap.size = some k := hk
    injection hk with hk; omega
/-- l[i:j:k]. -/
theorem gSl3 {t : TypeId} {a : Option Addr} {k1 k2 k3 : IntKind} {l h : Nat} {K : Value → Prop} (hl : l ≤ h) (hhn : h ≤ n) (hh : n ≤ c)
    (hk : ∀ v, K v) (ht : slSz P t sz = true) : gSlice P t (.slice a n c) (some (.int k1 l)) (some (.int k2 h)) (some (.int k3 n)) K := by
  obtain ⟨hu, i, hi', hsz⟩ := slSz_ok ht
  refine ⟨.slice (if n = l then a else a.map (·.add (l * sz))) (h - l) (n - l), fun w => ?_, hk _⟩
  have hb : (Instr.sliceBounds true n c (some (.int k1 l)) (some (.int k2 h)) (some (.int k3 n))).run P w = .ok (l, h, n) w := by
    simp [Instr.sliceBounds, Instr.sliceBound, asIntOf, hl, hh, hhn]
  simp only [Instr.sliceAt, Sem.run_bind, run_underlying hu, Result.andThen_ok, Instr.slice, hb, sizeOf, typeInfo, run_program, hi', Sem.run_pure, hsz]
end
end Go.Proofs.YtcjopcplhabgkaaV
