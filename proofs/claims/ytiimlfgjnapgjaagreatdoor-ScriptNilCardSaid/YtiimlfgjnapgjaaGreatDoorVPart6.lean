import Derived.Laws.IdiomStrings
import Derived.Lib.Bytealg
import Derived.Test.YtiimlfgjnapgjaaGreatDoorVPart5
set_option linter.unusedVariables false
set_option linter.unusedSimpArgs false
/- Rows of things of several cells each, owned: append, store, load, make, part. -/
namespace Go.Proofs.YtiimlfgjnapgjaaGreatDoorV
open Go Go.RowKit
section
variable {P : Program} {w0 w : World} {F : List It}
theorem Sl.of_ownS {B n sz : Nat} {e : TypeId} {v : Value} {cs : List Value} (h : w.ownsRow B e sz v n cs) : Sl w sz v n cs := by
  obtain ⟨h1, h2⟩ := h
  rcases h2 with ⟨rfl, h0⟩ | ⟨g, cap, cur, rfl, hb, hg, hn, hm, hs, ht⟩
  · exact ⟨none, 0, by rw [h0], by omega, h1, (fun _ h => by cases h), fun _ => h0⟩
  · refine ⟨some ⟨g, 0, none⟩, cap, rfl, hn, h1, fun ad ha j u hj => ?_, fun h => by cases h⟩
    injection ha with ha; subst ha
    exact World.ownsRow.cells ⟨h1, .inr ⟨g, cap, cur, rfl, hb, hg, hn, hm, hs, ht⟩⟩ (g := g) rfl j u hj
theorem ownsRow_chS {S : SS} {w w' : World} {e : TypeId} {B n sz : Nat} {v : Value} {cs : List Value} (h : w.ownsRow B e sz v n cs) (hc : Ch S w w') (hs : ∀ g i, v.ownBlock = some g → ¬ S g i) : w'.ownsRow B e sz v n cs := by
  refine ⟨h.1, ?_⟩
  rcases h.2 with hn | ⟨g, cap, cur, rfl, hb, hg, r⟩
  · exact .inl hn
  · exact .inr ⟨g, cap, cur, rfl, hb, by rw [hc.blk g (hlt hg) (fun i => hs g i rfl)]; exact hg, r⟩
/-- A row of n things of sz cells each. -/
def rIt (e : TypeId) (sz : Nat) (v : Value) (n : Nat) (cs : List Value) : It := ⟨fun b => v.ownBlock = some b, fun w => w.ownsRow 0 e sz v n cs, fun w k h hk => by
    rcases h.2 with ⟨rfl, _⟩ | ⟨g', cap, cur, rfl, hb, hh, r⟩
    · cases hk
    · simp [Value.ownBlock] at hk; subst hk; exact ⟨_, _, _, hh⟩, fun _ _ _ h hc hs => ownsRow_chS h hc hs, fun w w' h _ hc => by
    refine ⟨h.1, ?_⟩
    rcases h.2 with hn | ⟨g, cap, cur, rfl, hb, hg, r⟩
    · exact .inl hn
    · exact .inr ⟨g, cap, cur, rfl, hb, by rw [hc _ _ _ _ hg]; exact hg, r⟩⟩
theorem Fr.row {e : TypeId} {sz n : Nat} {v : Value} {cs : List Value} (h : Fr w0 w F) (i : Nat) (hi : F[i]? = some (rIt e sz v n cs)) : Sl w sz v n cs := Sl.of_ownS (h.get i hi)
theorem Fr.nilR (h : Fr w0 w F) (e : TypeId) (sz : Nat) : Fr w0 w (rIt e sz (.slice none 0 0) 0 [] :: F) :=
  h.new (Ch.refl _ w) (World.ownsRow_nil w 0 e sz) fun _ hk => by cases hk
theorem rIt_low {e : TypeId} {sz n B : Nat} {v : Value} {cs : List Value} (h : w.ownsRow B e sz v n cs) : w.ownsRow 0 e sz v n cs := by
  refine ⟨h.1, ?_⟩
  rcases h.2 with hh | ⟨g, cap, cur, e1, hb, r⟩
  · exact .inl hh
  · exact .inr ⟨g, cap, cur, e1, Nat.zero_le _, r⟩
def slRow (P : Program) (t : TypeId) (sz by' : Nat) : Bool := match P.underlying t with
  | some (.slice e) => match P.info? e with
    | some i => Nat.beq i.size sz && Nat.ble i.bytes by' && (match i.zero with | some z => Nat.beq z.cells.size sz | none => false)
    | none => false
  | _ => false
theorem slRow_ok {t : TypeId} {sz b : Nat} (h : slRow P t sz b = true) : P.underlying t = some (.slice (elOf P t)) ∧ ∃ i z, P.info? (elOf P t) = some i ∧ i.zero = some z ∧ i.size = sz ∧ z.cells.size = sz ∧ i.bytes ≤ b := by
  unfold slRow at h
  split at h
  · rename_i e hu
    have he : elOf P t = e := by unfold elOf; rw [hu]
    rw [he]
    split at h
    · rename_i i hi
      simp only [Bool.and_eq_true] at h
      obtain ⟨⟨h1, h2⟩, h3⟩ := h
      split at h3
      · rename_i z hz
        exact ⟨hu, i, z, hi, hz, Nat.eq_of_beq_eq_true h1, Nat.eq_of_beq_eq_true h3, Nat.le_of_ble_eq_true h2⟩
      · cases h3
    · cases h
  · cases h
theorem run_append_ownS (t ty : TypeId) {e : TypeId} {i : TypeInfo} {z : Value} {sz : Nat} (ht : P.underlying t = some (.slice e)) (hi : P.info? e = some i) (hz : i.zero = some z) (hsize : i.size = sz) (hzs : z.cells.size = sz) (hsz : 0 < sz)
    {B : Nat} {v : Value} {n : Nat} {xs : List Value} (hown : w.ownsRow B e sz v n xs) {y : Value} {m : Nat} {news : List Value} (hy : Sl w sz y m news) (h1 : ∀ u ∈ news, u.oneCell' = true)
    (hb : (n + m) * i.bytes ≤ 140737488355328) (h63 : n + m ≤ maxLen) (hbase : B ≤ w.heap.size) :
    ∃ v' w', (Builtin.append_ #[t, t] ty #[v, y]).run P w = .ok v' w' ∧ w'.ownsRow B e sz v' (n + m) (xs ++ news) ∧ Ch (Ob v) w w' ∧ Moved w v v' := by
  obtain ⟨a, c, rfl, hnc, hl, hcells, hnil⟩ := hy
  have hcl : ∀ k, v.ownBlock = some k → ∃ c e f, w.heap[k]? = some (.cells c e f) := fun k hk => by
    rcases hown.2 with ⟨rfl, _⟩ | ⟨g, cap, cur, rfl, _, hg, _⟩
    · cases hk
    · simp [Value.ownBlock] at hk; subst hk; exact ⟨_, _, _, hg⟩
  have ofg : ∀ {w' : World}, w.grownBy w' v.ownBlock → (∀ k c e f, v.ownBlock = some k → w.heap[k]? = some (.cells c e f) → ∃ c', w'.heap[k]? = some (.cells c' e f) ∧ c'.size = c.size) → Ch (Ob v) w w' := fun {w'} hg hsh => by
    refine ⟨hg.os, hg.tape, hg.output, hg.size, fun k hk hn => hg.block k hk fun e => hn 0 e.symm, fun k c e f hc => ?_, fun k o hk ho => by
      rw [hg.block k (hlt hk) (fun e => by obtain ⟨c, e2, f, hc⟩ := hcl k e.symm; exact ne_cells hc hk ho rfl)]; exact hk⟩
    by_cases hk : v.ownBlock = some k
    · obtain ⟨c', h1, h2⟩ := hsh k c e f hk hc
      exact ⟨c', h1, h2, fun i hi => absurd hk hi⟩
    · exact ⟨c, by rw [hg.block k (hlt hc) (fun e => hk e.symm)]; exact hc, rfl, fun _ _ => rfl⟩
  have nil0 : ∀ {l : List Value}, l.length = 0 * sz → l = [] := fun h => List.eq_nil_of_length_eq_zero (by rw [h, Nat.zero_mul])
  cases a with
  | none =>
    have hm := hnil rfl
    subst hm
    have hn0 : news = [] := nil0 hl
    subst hn0
    refine ⟨v, w, ?_, by simpa using hown, Ch.refl _ w, .inl rfl⟩
    rcases hown.2 with ⟨rfl, rfl⟩ | ⟨g, cap, cur, rfl, hbg, hg, hn, hm, hcs, htk⟩
    · simp [Builtin.append_, run_underlying ht, sizeOf, typeInfo, hi, Builtin.lenOf, Builtin.firstCells]
    · simp [Builtin.append_, run_underlying ht, sizeOf, typeInfo, hi, Builtin.lenOf, Builtin.firstCells, hn, storeCells]
  | some ad =>
    obtain ⟨v', w', hr, ho, hg, _⟩ := run_append_own (P := P) w B t ty e i z sz i.bytes ht hi hz hsize rfl hzs hsz v n xs hown ad m c news hl (hcells ad rfl) h1 h63 hb hbase
    refine ⟨v', w', hr, ho, ?_⟩
    rcases hown.2 with ⟨rfl, rfl⟩ | ⟨g, cap, cur, rfl, hbg, hgg, hn, hm', hcs, htk⟩
    · by_cases hm0 : m = 0
      · subst hm0
        have hn0 : news = [] := nil0 hl
        subst hn0
        have hr2 : (Builtin.append_ #[t, t] ty #[.slice none 0 0, .slice (some ad) 0 c]).run P w = .ok (.slice none 0 0) w := by
          simp [Builtin.append_, run_underlying ht, sizeOf, typeInfo, hi, Builtin.lenOf, Builtin.firstCells, loadCells, loadCellsFrom]
        rw [hr2] at hr; injection hr with e1 e2; subst e1; subst e2
        exact ⟨Ch.refl _ w, .inl rfl⟩
      · have hr2 := run_append_nil (P := P) w t ty e i z ht hi hz ad m c news (by rw [hsize]; exact hl) (hcells ad rfl) (by omega) (by unfold maxLen at h63; omega) (by simp only [Nat.zero_add] at hb; omega)
        rw [hr2] at hr; injection hr with e1 e2; subst e1
        refine ⟨ofg hg (fun k c e f hk => by cases hk), .inr fun g hg' => ?_⟩
        simp [Value.ownBlock] at hg'; omega
    · by_cases hroom : n + m ≤ cap
      · have hfit : n * i.size + news.length ≤ cur.size := by rw [hl, hsize, hcs, ← Nat.add_mul]; exact Nat.mul_le_mul_right _ hroom
        have hr2 := run_append_room (P := P) w t ty e i ht hi g n cap cur hgg ad m c news (by rw [hsize]; exact hl) (hcells ad rfl) h1 hroom hfit
        rw [hr2] at hr; injection hr with e1 e2; subst e1; subst e2
        refine ⟨ofg hg (fun k c' e' f hk hc => ?_), .inl rfl⟩
        simp [Value.ownBlock] at hk; subst hk
        rw [hgg] at hc; injection hc with hc; injection hc with hc1 hc2 hc3
        subst hc1; subst hc2; subst hc3
        refine ⟨_, setRow_heap w g cur _ e _ hgg, ?_⟩
        simp; omega
      · have holds : ∀ j u, xs[j]? = some u → w.cell? ((⟨g, 0, none⟩ : Addr).add j) = some u := hown.cells (g := g) rfl
        have hr2 := run_append_grow (P := P) w t ty e i z ht hi hz ⟨g, 0, none⟩ n cap xs (by rw [hsize]; exact hown.1) holds ad m c news (by rw [hsize]; exact hl) (hcells ad rfl) (by omega) (by unfold maxLen at h63; omega) (growslice_fits (by omega) hb)
        rw [hr2] at hr; injection hr with e1 e2; subst e1
        have he2 := e2
        refine ⟨ofg hg (fun k c' e' f hk hc => ⟨c', ?_, rfl⟩), .inr fun g' hg' => ?_⟩
        · rw [← he2]
          show (w.heap.push _)[k]? = _
          rw [Array.getElem?_push, if_neg (by have := hlt hc; omega)]; exact hc
        · simp [Value.ownBlock] at hg'; omega
/-- Appending to a row of one's own. -/
theorem fAppR {t ty : TypeId} {sz n m : Nat} {v y : Value} {cs ds : List Value} {K : Value → World → Prop} (b : Nat) (h : Fr w0 w F) (i : Nat) (hi : F[i]? = some (rIt (elOf P t) sz v n cs)) (hy : Sl w sz y m ds) (h1 : ∀ u ∈ ds, u.oneCell' = true) (hb : (n + m) * b ≤ 140737488355328) (hm : n + m ≤ maxLen)
    (hk : ∀ v' w', Fr w0 w' (F.set i (rIt (elOf P t) sz v' (n + m) (cs ++ ds))) → K v' w') (ht : slRow P t sz b = true := by kernel_rfl) (hsz : 0 < sz := by decide) : gApp P #[t, t] ty #[v, y] w K := by
  obtain ⟨hu, ii, z, hii, hz, hs, hzs, hbb⟩ := slRow_ok ht
  obtain ⟨v', w', hr, ho, hc, hmv⟩ := run_append_ownS (P := P) t ty hu hii hz hs hzs hsz (h.get i hi) hy h1 (Nat.le_trans (Nat.mul_le_mul_left _ hbb) hb) hm (Nat.zero_le _)
  refine ⟨v', w', hr, hk v' w' (h.upd i hi hc (fun k _ hh => .inl hh) ho fun k hk => ?_)⟩
  rcases hmv with hmv | hmv
  · have hk : v'.ownBlock = some k := hk
    rw [hmv] at hk; exact .inl hk
  · exact .inr (hmv k hk)
/-- make of a row. -/
theorem fMakeR {t : TypeId} {n sz : Nat} {K : Value → World → Prop} (b : Nat) (z : Value) (h : Fr w0 w F) (hn : b * n ≤ 281474976710656) (hm : n ≤ maxLen)
    (hk : ∀ v w', Fr w0 w' (rIt (elOf P t) sz v n (madeCells z.cells (n * sz)).toList :: F) → K v w') (hz : (P.info? (elOf P t)).bind (·.zero) = some z) (ht : slRow P t sz b = true := by kernel_rfl) : gMake P t (.int .i64 (n : Int)) (.int .i64 (n : Int)) w K := by
  obtain ⟨hu, ii, z', hii, hz', hs, hzs, hbb⟩ := slRow_ok ht
  rw [hii] at hz
  simp only [Option.bind_some] at hz
  rw [hz] at hz'; injection hz' with hz'; subst hz'
  obtain ⟨w', hr, ho, hg⟩ := run_make_full (P := P) w w.heap.size t (elOf P t) ii z sz hu hii hz hs .i64 .i64 n (Nat.le_trans (Nat.mul_le_mul_right _ hbb) hn) hm (Nat.le_refl _)
  refine ⟨_, w', hr, hk _ w' (h.new ?_ (rIt_low ho) fun k hk => (ho.lt k hk).1)⟩
  exact ⟨hg.os, hg.tape, hg.output, hg.size, fun k hk _ => hg.block k hk (by simp), fun k c e f hc => ⟨c, by rw [hg.block k (hlt hc) (by simp)]; exact hc, rfl, fun _ _ => rfl⟩, fun k o hk _ => by rw [hg.block k (hlt hk) (by simp)]; exact hk⟩
/-- Where the j-th of a row stands. -/
def SltR (v : Value) (j sz : Nat) (ad : Addr) : Prop := ∃ g n c, v = .slice (some ⟨g, 0, none⟩) n c ∧ ad = ⟨g, j * sz, none⟩
theorem gIdx_r {t e : TypeId} {ki : IntKind} {B sz n j : Nat} {v : Value} {cs : List Value} {i : Int} {K : Addr → Prop} (h : w.ownsRow B e sz v n cs) (hij : i = (j : Int)) (h1 : j < n) (hk : ∀ ad, SltR v j sz ad → K ad) (ht : slSz P t sz = true := by kernel_rfl) : gIdx P t v (.int ki i) K := by
  obtain ⟨hu, ii, hi, hsz⟩ := slSz_ok ht
  subst hij
  rcases h.2 with ⟨rfl, hn⟩ | ⟨g, cap, cur, rfl, hb, hg, hn, hm, hs, htk⟩
  · omega
  · refine ⟨⟨g, j * sz, none⟩, fun w => ?_, hk _ ⟨g, _, _, rfl, rfl⟩⟩
    simp only [Instr.indexAt, asIntOf, Sem.run_bind, Sem.run_pure, Result.andThen_ok, run_underlying hu]
    rw [if_pos ⟨by omega, by omega⟩]
    simp [sizeOf, typeInfo, hi, hsz, Addr.add_lit]
theorem SltR.cell {e : TypeId} {B sz n j q : Nat} {v u : Value} {cs : List Value} {ad : Addr} (h : w.ownsRow B e sz v n cs) (hs : SltR v j sz ad) (hu : cs[j * sz + q]? = some u) : w.cell? (ad.add q) = some u := by
  obtain ⟨g, n', c, rfl, rfl⟩ := hs
  have := h.cells (g := g) rfl (j * sz + q) u hu
  rw [Addr.add_lit, Nat.zero_add] at this
  rw [Addr.add_lit]; exact this
/-- A thing of a row is another one. -/
theorem fStoreR {t e : TypeId} {sz n j : Nat} {v : Value} {cs : List Value} {ad : Addr} {ds : Array Value} {K : World → Prop} (h : Fr w0 w F) (i : Nat) (hi : F[i]? = some (rIt e sz v n cs)) (hs : SltR v j sz ad) (hj : j < n) (hd : ds.size = sz) (h1 : ∀ u ∈ ds.toList, u.oneCell' = true)
    (hk : ∀ w', Fr w0 w' (F.set i (rIt e sz v n (cs.take (j * sz) ++ ds.toList ++ cs.drop (j * sz + sz)))) → K w') (ht : sizeIs P t sz = true := by kernel_rfl) : gStore P t (.pointer (some ad)) (.agg ds) w K := by
  have ho : w.ownsRow 0 e sz v n cs := h.get i hi
  obtain ⟨g, n', c, rfl, rfl⟩ := hs
  have hle : (j + 1) * sz ≤ n * sz := Nat.mul_le_mul_right _ hj
  rw [Nat.add_mul, Nat.one_mul] at hle
  rcases ho.2 with ⟨hn, _⟩ | ⟨g', cap, cur, hv, hb, hg, hn, hm, hcs, htk⟩
  · simp at hn
  simp only [Value.slice.injEq, Option.some.injEq, Addr.mk.injEq, and_true] at hv
  obtain ⟨rfl, rfl, rfl⟩ := hv
  have hlen : cs.length = n' * sz := ho.1
  have hst : St w ⟨g, 0, none⟩ cs := ⟨rfl, cur, e, hg, fun q u hq => by
    rw [← htk, List.getElem?_take] at hq
    dsimp only; rw [Nat.zero_add]
    split at hq
    · rw [Array.getElem?_toList] at hq; exact hq
    · cases hq⟩
  have hadd : (⟨g, j * sz, none⟩ : Addr) = (⟨g, 0, none⟩ : Addr).add (j * sz) := by rw [Addr.add_lit, Nat.zero_add]
  rw [hadd]
  refine gStore_agg hst (by rw [hd, hlen]; omega) h1 (fun w' hc _ hS => hk w' (h.upd i hi hc (fun k _ hh => .inl ?_) ?_ fun k hk => .inl hk)) (by rw [hd]; exact ht)
  · have h2 := hh.1
    rw [Addr.add_lit] at h2
    show some g = some k
    rw [h2]
  · rw [hd] at hS
    obtain ⟨c', k1, k2, _⟩ := hc.cel _ _ _ _ hg
    refine ⟨?_, .inr ⟨g, c, c', rfl, Nat.zero_le _, k1, hn, hm, by rw [k2]; exact hcs, ?_⟩⟩
    · simp only [List.length_append, List.length_take, List.length_drop, Array.length_toList, hd, hlen]; omega
    · obtain ⟨_, c2, e2, s1, s2⟩ := hS
      dsimp only at s1 s2
      rw [k1] at s1; injection s1 with s1; injection s1 with s1 _ _; subst s1
      refine List.ext_getElem? fun q => ?_
      rw [List.getElem?_take]
      have hl2 : (cs.take (j * sz) ++ ds.toList ++ cs.drop (j * sz + sz)).length = n' * sz := by simp only [List.length_append, List.length_take, List.length_drop, Array.length_toList, hd, hlen]; omega
      split
      · rename_i hq
        have hx := s2 q _ (List.getElem?_eq_getElem (by rw [hl2]; exact hq))
        rw [Nat.zero_add] at hx
        rw [Array.getElem?_toList, hx, List.getElem?_eq_getElem (by rw [hl2]; exact hq)]
      · rename_i hq
        rw [List.getElem?_eq_none (by rw [hl2]; omega)]
/-- The same where a thing is one cell. -/
theorem fStoreR1 {t e : TypeId} {n j : Nat} {v u : Value} {cs : List Value} {ad : Addr} {K : World → Prop} (h : Fr w0 w F) (i : Nat) (hi : F[i]? = some (rIt e 1 v n cs)) (hs : SltR v j 1 ad) (hj : j < n) (hu : u.oneCell' = true) (hcl : u.cells = #[u])
    (hk : ∀ w', Fr w0 w' (F.set i (rIt e 1 v n (cs.set j u))) → K w') (ht : flat1 P t = true := by kernel_rfl) : gStore P t (.pointer (some ad)) u w K := by
  have ho : w.ownsRow 0 e 1 v n cs := h.get i hi
  obtain ⟨g, n', c, rfl, rfl⟩ := hs
  rcases ho.2 with ⟨hn, _⟩ | ⟨g', cap, cur, hv, hb, hg, hn, hm, hcs, htk⟩
  · simp at hn
  simp only [Value.slice.injEq, Option.some.injEq, Addr.mk.injEq, and_true] at hv
  obtain ⟨rfl, rfl, rfl⟩ := hv
  have hlen : cs.length = n' * 1 := ho.1
  have hst : St w ⟨g, 0, none⟩ cs := ⟨rfl, cur, e, hg, fun q u hq => by
    rw [← htk, List.getElem?_take] at hq
    dsimp only; rw [Nat.zero_add]
    split at hq
    · rw [Array.getElem?_toList] at hq; exact hq
    · cases hq⟩
  have hadd : (⟨g, j * 1, none⟩ : Addr) = (⟨g, 0, none⟩ : Addr).add j := by rw [Addr.add_lit, Nat.zero_add, Nat.mul_one]
  rw [hadd]
  refine gStore_st hst (by rw [hlen]; omega) hu hcl (fun w' hc _ hS => hk w' (h.upd i hi hc (fun k _ hh => .inl ?_) ?_ fun k hk => .inl hk)) ht
  · have h2 := hh.1
    rw [Addr.add_lit] at h2
    show some g = some k
    rw [h2]
  · obtain ⟨c', k1, k2, _⟩ := hc.cel _ _ _ _ hg
    refine ⟨by rw [List.length_set]; exact hlen, .inr ⟨g, c, c', rfl, Nat.zero_le _, k1, hn, hm, by rw [k2]; exact hcs, ?_⟩⟩
    obtain ⟨_, c2, e2, s1, s2⟩ := hS
    dsimp only at s1 s2
    rw [k1] at s1; injection s1 with s1; injection s1 with s1 _ _; subst s1
    refine List.ext_getElem? fun q => ?_
    rw [List.getElem?_take]
    have hl2 : (cs.set j u).length = n' * 1 := by rw [List.length_set]; exact hlen
    split
    · rename_i hq
      have hx := s2 q _ (List.getElem?_eq_getElem (by rw [hl2]; exact hq))
      rw [Nat.zero_add] at hx
      rw [Array.getElem?_toList, hx, List.getElem?_eq_getElem (by rw [hl2]; exact hq)]
    · rename_i hq
      rw [List.getElem?_eq_none (by rw [hl2]; omega)]
/-- A load of a struct that comes to the same in every world that meets B. -/
theorem gLoadB_agg {t : TypeId} {cks : List Ck} {ad : Addr} {B : World → Prop} {K : TF cks Prop} (vs : List Value) (hc : ∀ w, B w → ∀ j u, vs[j]? = some u → w.cell? (ad.add j) = some u) (hk : tapp False cks K vs) (hl : vs.length = cks.length := by rfl) (ht : aggB P t vs.length = true := by kernel_rfl) : gLoadB P t (.part (.agg cks)) (.pointer (some ad)) B K :=
  (tex_of_tapp hk hl (p := fun vs => ∀ w, B w → (Instr.loadAt t (.pointer (some ad))).run P w = .ok (.agg vs.toArray) w) (fun w hB => run_loadAgg (hc w hB) ht))
/-- An empty literal. -/
theorem fLitR0 {t : TypeId} {sz : Nat} {parts : Array (Nat × Value)} {K : Value → World → Prop} (h : Fr w0 w F) (hp : parts = #[]) (hk : ∀ v w', Fr w0 w' (rIt (elOf P t) sz v 0 [] :: F) → K v w') (ht : slSz P t sz = true := by kernel_rfl) : gLit P t 0 parts w K := by
  obtain ⟨hu, i, hi, hsz⟩ := slSz_ok ht
  subst hp
  have hrun : (Instr.buildSlice t 0 #[]).run P w = .ok (.slice (some ⟨w.heap.size, 0, none⟩) 0 0) (w.alloc (.cells #[] (elOf P t))) := by
    simp only [Instr.buildSlice, Sem.run_bind, run_underlying hu, Result.andThen_ok, sizeOf, typeInfo, run_program, hi, Sem.run_pure, hsz]
    have he : ∀ f : Nat → Value, Array.map f (Array.range 0) = #[] := fun f => Array.eq_empty_of_size_eq_zero (by simp)
    simp [newRow, he, Instr.fill]
  have ho := World.ownsRow_lit (base := w.heap.size) (e := elOf P t) (size := sz) w #[] 0 (Nat.le_refl _) (by decide) (by simp)
  exact ⟨_, _, hrun, hk _ _ (h.new (jt := rIt (elOf P t) sz (.slice (some ⟨w.heap.size, 0, none⟩) 0 0) 0 []) (Ev.alloc w _) (rIt_low ho) fun k hk => (ho.lt k hk).1)⟩
/-- A slice held against nil. -/
theorem run_equal_snil {t e : TypeId} {a : Option Addr} {n c : Nat} (hu : P.underlying t = some (.slice e)) : (Op.equal t (.slice a n c) (.slice none 0 0)).run P w = .ok a.isNone w := by
  have hm : Op.maxDepth = 9999 + 1 := rfl
  unfold Op.equal
  rw [hm]
  generalize 9999 = d
  unfold Op.equalIn
  simp only [Sem.run_bind, run_underlying hu, Result.andThen_ok]
  cases a <;> rfl
theorem gEq_snil {t : TypeId} {a : Option Addr} {n c : Nat} {K : Bool → Prop} (hk : K a.isNone) (ht : (match P.underlying t with | some (.slice _) => true | _ => false) = true := by kernel_rfl) : gEq P .eql t (.slice a n c) (.slice none 0 0) K := by
  have hu : ∃ e, P.underlying t = some (.slice e) := by
    split at ht
    · rename_i e h; exact ⟨e, h⟩
    · cases ht
  obtain ⟨e, hu⟩ := hu
  refine ⟨a.isNone, fun cx cy w => ⟨by cases a <;> rfl, ?_⟩, hk⟩
  have hb : binOp .eql t (.slice a n c) (.slice none 0 0) = (do pure (.bool (← Op.equal t (.slice a n c) (.slice none 0 0)))) := by cases a <;> rfl
  rw [hb]; simp only [Sem.run_bind, run_equal_snil hu, Result.andThen_ok, Sem.run_pure]
end
end Go.Proofs.YtiimlfgjnapgjaaGreatDoorV

/- Rows that are owned: parts of them, room behind them, copies into them, cleared parts. -/
namespace Go.Proofs.YtiimlfgjnapgjaaGreatDoorV
open Go Go.RowKit
section
variable {P : Program} {w0 w : World} {F : List It} {e : TypeId} {sz g n c : Nat} {cs : List Value}
end
end Go.Proofs.YtiimlfgjnapgjaaGreatDoorV

/- Slices of numbers of one's own, in a frame: an element set, read, a part put behind. -/
namespace Go.Proofs.YtiimlfgjnapgjaaGreatDoorV
open Go Go.RowKit
section
variable {P : Program} {w0 w : World} {F : List It}
theorem gGet {t te : TypeId} {k ki : IntKind} {v : Value} {xs : List Int} {i : Int} {K : Int → Prop} (h : Nm k w v xs) (h0 : 0 ≤ i) (h1 : i < xs.length) (hk : K (rd xs i)) (ht : slInt P t k = true := by kernel_rfl) (htf : flat P te = true := by kernel_rfl) :
    gIdx P t v (.int ki i) fun ad => gLoad P te (shI k) (.pointer (some ad)) w K :=
  gIdx_nm h h0 h1 (fun ad c _ => gLoad_i c hk htf) ht
theorem gIf_nnb {b : Bool} {A B : Prop} (ha : b = true → A) (hb : b = false → B) : gIf (!(!b)) A B := by cases b; exact hb rfl; exact ha rfl
end
end Go.Proofs.YtiimlfgjnapgjaaGreatDoorV

/- Writers and readers of numbers, in a frame. -/
namespace Go.Proofs.YtiimlfgjnapgjaaGreatDoorV
open Go Go.RowKit
section
variable {w0 w w' : World} {F : List It}
theorem Fr.oth {it : It} {S : SS} (h : Fr w0 w F) (i : Nat) (hi : F[i]? = some it) (hc : Ch S w w') (hS : ∀ k q, S k q → it.ft k) : Fr w0 w' (F.eraseIdx i) := by
  refine (h.drop i).ch hc (fun k q hs => (h.ft i hi (hS k q hs)).1) fun jt hj k q hk hs => ?_
  obtain ⟨j, hj2⟩ := List.mem_iff_getElem?.1 hj
  rw [List.getElem?_eraseIdx] at hj2
  split at hj2
  · rename_i hlt
    exact h.apart hi hj2 (by omega) k (hS k q hs) hk
  · rename_i hge
    exact h.apart hi hj2 (by omega) k (hS k q hs) hk
theorem Fr.cons {jt : It} {n : Nat} (h : Fr w0 w F) (hn : w0.heap.size ≤ n) (hF : ∀ it ∈ F, ∀ k, it.ft k → k < n) (ok : jt.ok w) (hf : ∀ k, jt.ft k → n ≤ k) : Fr w0 w (jt :: F) :=
  ⟨ok, fun k hk => Nat.le_trans hn (hf k hk), fun it hi k hk hik => by have := hf k hk; have := hF it hi k hik; omega, h⟩
/-! ### Writers -/
theorem fNewW {K : Addr → World → Prop} (f : Fr w0 w F) (hk : ∀ ad v w', Fr w0 w' (wIt eB ad v [] :: F) → K ad w') : gAlloc P t_num_Writer w K :=
  fAlloc (z := .agg #[.slice none 0 0]) f (by kernel_rfl) fun ad w' f' => hk ad (.slice none 0 0) w' (f'.asW (e := eB) 0 rfl)
theorem fNum {ad : Addr} {v : Value} {xs : List Int} {n : Int} {K : World → Prop} (f : Fr w0 w F) (i : Nat) (hi : F[i]? = some (wIt eB ad v xs)) (hn : 0 ≤ n ∧ n < 18446744073709551616) (hl : xs.length + 10 ≤ 10000000000)
    (hk : ∀ v' w', Fr w0 w' (F.set i (wIt eB ad v' (xs ++ numB n.toNat))) → K w') : gCall P n_num_Writer_Num shU #[.pointer (some ad), .int .u64 n] w K :=
  gCall_u (Num_any (f.get i hi) hn hl) fun w' ⟨v', hw⟩ => hk v' w' (f.wr i hi hw)
/-! ### Readers -/
/-- Slices of which each reads so, in a slice. -/
theorem fTextW {ad : Addr} {v b : Value} {xs ys : List Int} {K : World → Prop} (f : Fr w0 w F) (i : Nat) (hi : F[i]? = some (wIt eB ad v xs)) (hb : ∀ w', Fr w0 w' (F.eraseIdx i) → Nm .u8 w' b ys) (hl : xs.length + ys.length + 10 ≤ 10000000000)
    (hk : ∀ v' w', Fr w0 w' (F.set i (wIt eB ad v' (xs ++ numB ys.length ++ ys))) → K w') : gCall P n_num_Writer_Text shU #[.pointer (some ad), b] w K :=
  gCall_u (Text_any (f.get i hi) (fun w' hc => hb w' (f.oth i hi hc fun k q h => h)) hl) fun w' ⟨v', hw⟩ => hk v' w' (f.wr i hi hw)
theorem NL.of {k : IntKind} {p : Value} {us : List Value} {yss : List (List Int)} (hp : Sl w 1 p us.length us) (hl : us.length = yss.length) (h : ∀ (i : Nat) (u : Value) (ys : List Int), us[i]? = some u → yss[i]? = some ys → Nm k w u ys) : NL k w p yss := ⟨us, by rw [← hl]; exact hp, h⟩
end
end Go.Proofs.YtiimlfgjnapgjaaGreatDoorV

/- Package chain: Right, Clone; Choose without tags. -/
set_option linter.unusedVariables false
set_option linter.unusedSimpArgs false
namespace Go.Proofs.YtiimlfgjnapgjaaGreatDoorV
open Go Go.RowKit
/-- Which tags may be. -/
def okN (ts : List Int) : Nat → Bool
  | 0 => true
  | k + 1 => okN ts k && (decide (1 ≤ rd ts (k : Int) ∧ rd ts (k : Int) ≤ 6) && !decide (rd ts (k : Int) ∈ ts.take k))
def rightB (ts : List Int) : Bool := okN ts ts.length && decide (ts.length ≤ 4)
theorem okN_f {ts : List Int} {k : Nat} (h : okN ts k = false) : ∀ n, k ≤ n → okN ts n = false
  | 0, hk => by
    obtain rfl : k = 0 := by omega
    exact h
  | n + 1, hk => by
    by_cases e : k = n + 1
    · rw [← e]; exact h
    · rw [okN, okN_f h n (by omega)]; rfl
theorem rightB_nil : rightB [] = true := rfl
noncomputable abbrev eN : TypeId := elOf P t_sl_int
def cpV (t : Int) : Value := if t = 1 then .func (.func n_audio_Pack) #[] #[] else if t = 2 then .func (.func n_image_Pack) #[] #[] else if t = 3 then .func (.func n_table_Pack) #[] #[] else if t = 4 then .func (.func n_words_Pack) #[] #[] else if t = 5 then .func (.func n_text_Lines) #[] #[] else if t = 6 then .func (.func n_text_Caps) #[] #[] else .nilFunc
def cuV (t : Int) : Value := if t = 1 then .func (.func n_audio_Unpack) #[] #[] else if t = 2 then .func (.func n_image_Unpack) #[] #[] else if t = 3 then .func (.func n_table_Unpack) #[] #[] else if t = 4 then .func (.func n_words_Unpack) #[] #[] else if t = 5 then .func (.func n_text_Unlines) #[] #[] else if t = 6 then .func (.func n_text_Uncaps) #[] #[] else .nilFunc
theorem cpV_one (t : Int) : (cpV t).oneCell' = true := by unfold cpV; (repeat' split) <;> rfl
theorem cuV_one (t : Int) : (cuV t).oneCell' = true := by unfold cuV; (repeat' split) <;> rfl
/-- Bytes, and tags. -/
noncomputable def FwdE (w : World) (r : List Int × List Int) (e : Ending) (w' : World) : Prop := ∃ x d, e = .returned (.tuple #[x, d]) ∧ Ev w w' ∧ ON .u8 eB w' w.heap.size x r.1 ∧ ON .i64 eN w' w.heap.size d r.2
def DetE (w : World) (r : List Int) (e : Ending) (w' : World) : Prop := ∃ v, e = .returned v ∧ Ev w w' ∧ Nm .i64 w' v r
section
variable {w0 w : World} {F : List It}
theorem gOf {t : Int} {K : Value → Value → Bool → World → Prop} (hk : ∀ w', Ev w w' → K (cpV t) (cuV t) (decide (1 ≤ t ∧ t ≤ 6)) w') : gCall P n_chain_of (.tup [.agg [.val, .val], .one .bool]) #[.int .i64 t] w K := by
  refine gCall_of (R := fun e w' => e = .returned (.tuple #[.agg #[cpV t, cuV t], .bool (decide (1 ≤ t ∧ t ≤ 6))]) ∧ Ev w w') ?_ ?_
  · refine of_chain_of (fAlloc (z := .agg #[.nilFunc, .nilFunc]) (Fr.start w) (by kernel_rfl) fun ad w1 f1 => ?_)
    refine gIf_eq (fun h => ?_) (fun h1 => gIf_eq (fun h => ?_) (fun h2 => gIf_eq (fun h => ?_) (fun h3 => gIf_eq (fun h => ?_) (fun h4 => gIf_eq (fun h => ?_) (fun h5 => gIf_eq (fun h => ?_) (fun h6 => ?_))))))
    · subst h; exact ⟨rfl, rfl, fStoreA f1 0 rfl (fun w2 f2 => fLoadA f2 0 rfl ⟨rfl, f2.old⟩)⟩
    · subst h; exact ⟨rfl, rfl, fStoreA f1 0 rfl (fun w2 f2 => fLoadA f2 0 rfl ⟨rfl, f2.old⟩)⟩
    · subst h; exact ⟨rfl, rfl, fStoreA f1 0 rfl (fun w2 f2 => fLoadA f2 0 rfl ⟨rfl, f2.old⟩)⟩
    · subst h; exact ⟨rfl, rfl, fStoreA f1 0 rfl (fun w2 f2 => fLoadA f2 0 rfl ⟨rfl, f2.old⟩)⟩
    · subst h; exact ⟨rfl, rfl, fStoreA f1 0 rfl (fun w2 f2 => fLoadA f2 0 rfl ⟨rfl, f2.old⟩)⟩
    · subst h; exact ⟨rfl, rfl, fStoreA f1 0 rfl (fun w2 f2 => fLoadA f2 0 rfl ⟨rfl, f2.old⟩)⟩
    · refine fStoreA f1 0 rfl (fun w2 f2 => fLoadA f2 0 rfl ⟨?_, f2.old⟩)
      unfold cpV cuV
      rw [if_neg h1, if_neg h2, if_neg h3, if_neg h4, if_neg h5, if_neg h6, if_neg h1, if_neg h2, if_neg h3, if_neg h4, if_neg h5, if_neg h6, decide_eq_false (by omega)]
  · rintro _ w' ⟨rfl, h⟩
    exact ⟨_, _, _, rfl, hk w' h⟩
theorem cloneX_any {b : Value} {xs : List Int} (hb : Nm .u8 w b xs) (hl : xs.length ≤ 1000000000) : Calls P n_bytes_Clone #[b] w (NewB w xs) := by
  have hb2 := hb
  obtain ⟨⟨a, c, rfl, _, _, _, h0⟩, _⟩ := hb2
  refine of_bytes_Clone (gEq_snil (gIf_b (fun h => ?_) (fun h => ?_)))
  · have e : xs = [] := List.eq_nil_of_length_eq_zero (h0 (by simpa using h))
    subst e
    exact ⟨_, rfl, Ch.refl _ w, ON.nil _ _ _ _⟩
  · refine fLit_n [] (Fr.start w) rfl rfl (fun x hx => by cases hx) fun v w1 f1 => fApp f1 0 rfl (hb.ev f1.old) (by simp; omega) fun v2 w2 f2 => ⟨v2, rfl, f2.old, ?_⟩
    have := f2.on 0 rfl
    exact this
theorem equalX_any {a b : Value} {xs ys : List Int} (ha : Nm .u8 w a xs) (hb : Nm .u8 w b ys) : Calls P n_bytes_Equal #[a, b] w (fun e w' => e = .returned (.bool (decide (xs = ys))) ∧ w' = w) :=
  of_bytes_Equal (gConv_bs ha (gConv_bs hb ⟨by rw [bsOf_eq ha.2 hb.2], rfl⟩))
theorem mem_rd {ts : List Int} {t : Int} : t ∈ ts ↔ ∃ j : Nat, j < ts.length ∧ rd ts (j : Int) = t := by
  constructor
  · intro h
    obtain ⟨j, hj, e⟩ := List.getElem_of_mem h
    exact ⟨j, hj, by rw [rd_nat ts j hj, e]⟩
  · rintro ⟨j, hj, rfl⟩
    rw [rd_nat ts j hj]; exact List.getElem_mem hj
theorem containsI_any {v : Value} {ts : List Int} {t : Int} (h : Nm .i64 w v ts) (hl : ts.length ≤ 1000000000) : Calls P n_slices_Contains_int_int #[v, .int .i64 t] w (fun e w' => e = .returned (.bool (decide (t ∈ ts))) ∧ w' = w) := by
  refine of_slices_Contains_int_int (gCall_of (R := fun e w' => ∃ r : Int, e = .returned (.int .i64 r) ∧ (r ≥ 0 ↔ t ∈ ts) ∧ w' = w) ?_ ?_)
  · refine of_slices_Index_int_int (gLen_nm h ⟨fun i w' => ∃ k : Nat, i = (k : Int) ∧ k ≤ ts.length ∧ (∀ j : Nat, j < k → rd ts (j : Int) ≠ t) ∧ w' = w, fun i _ => (ts.length - i).toNat, ⟨0, rfl, Nat.zero_le _, (fun j hj => by omega), rfl⟩, ?_⟩)
    rintro _ i _ ⟨k, rfl, hk, hall, rfl⟩
    refine gIf_dec (fun hlt => gGet h (by omega) (by omega) (gIf_eq (fun he => ?_) (fun hne => ?_))) (fun hge => ?_)
    · exact ⟨_, rfl, ⟨fun _ => mem_rd.2 ⟨k, by omega, he.symm⟩, fun _ => by omega⟩, rfl⟩
    · refine ⟨⟨k + 1, by rw [i64_id (by omega) (by omega)]; omega, by omega, fun j hj => ?_, rfl⟩, by dsimp only; rw [i64_id (by omega) (by omega)]; omega⟩
      by_cases e : j = k
      · subst e; exact fun e => hne e.symm
      · exact hall j (by omega)
    · refine ⟨_, rfl, ⟨fun h => by omega, fun hm => ?_⟩, rfl⟩
      obtain ⟨j, hj, e⟩ := mem_rd.1 hm
      exact absurd e (hall j (by omega))
  · rintro _ _ ⟨r, rfl, hr, rfl⟩
    exact ⟨_, rfl, by rw [decide_eq_decide.2 hr], rfl⟩
theorem rightB_f {ts : List Int} {k : Nat} (hk : k < ts.length) (h : okN ts (k + 1) = false) : rightB ts = false := by
  unfold rightB; rw [okN_f h ts.length (by omega)]; rfl
theorem cRight_any {v : Value} {ts : List Int} (hb : Nm .i64 w v ts) (hl : ts.length ≤ 1000000000) : Calls P n_chain_Right #[v] w (fun e w' => e = .returned (.bool (rightB ts)) ∧ Ev w w') := by
  refine of_chain_Right (gLen_nm hb ⟨fun i w' => ∃ k : Nat, i = (k : Int) ∧ k ≤ ts.length ∧ okN ts k = true ∧ Ev w w', fun i _ => (ts.length - i).toNat, ⟨0, rfl, Nat.zero_le _, rfl, Ch.refl _ w⟩, ?_⟩)
  rintro _ i w1 ⟨k, rfl, hk, hok, h1⟩
  refine gIf_dec (fun hlt => gGet (hb.ev h1) (by omega) (by omega) (gOf fun w2 h2 => fAlloc (z := .agg #[.nilFunc, .nilFunc]) (Fr.start w2) (by kernel_rfl) fun ad w3 f3 => fStoreA f3 0 rfl (fun w4 f4 => ?_) rfl (fun x hx => ?_))) (fun hge => ?_)
  · have h4 := (h1.trans h2).trans f4.old
    refine gIf_nnb (fun ht => ?_) (fun ht => ⟨?_, h4⟩)
    · refine gSlice_nm (hb.ev h4) 0 k (.inl ⟨rfl, rfl⟩) (.inr ⟨_, rfl⟩) (Nat.zero_le _) hk fun hs => ?_
      rw [List.drop_zero, Nat.sub_zero] at hs
      refine gCall_b0 (containsI_any hs (by rw [List.length_take]; omega)) (gIf_b (fun hc => ⟨?_, h4⟩) (fun hc => ?_))
      · rw [rightB_f (k := k) (by omega) (by rw [okN, hc]; simp)]
      · exact ⟨⟨k + 1, by rw [i64_id (by omega) (by omega)]; omega, by omega, by rw [okN, hok, ht, hc]; rfl, h4⟩, by dsimp only; rw [i64_id (by omega) (by omega)]; omega⟩
    · rw [rightB_f (k := k) (by omega) (by rw [okN, ht]; simp)]
  · simp at hx; rcases hx with rfl | rfl
    · exact cpV_one _
    · exact cuV_one _
  · obtain rfl : k = ts.length := by omega
    refine gLen_nm hb ⟨?_, h1⟩
    unfold rightB
    rw [hok, Bool.true_and]
    congr 2
    exact decide_eq_decide.2 (by omega)
theorem Forward0_any {b tags : Value} {xs : List Int} (hb : Nm .u8 w b xs) (ht : Nm .i64 w tags []) (hl : xs.length ≤ 10000000) : Calls P n_chain_Forward #[b, tags] w (FwdE w (xs, [])) := by
  refine of_chain_Forward (gCall_v (cloneX_any hb (by omega)) fun x w1 ⟨h1, o1⟩ => gCall_b (cRight_any (ht.ev h1) (by simp)) fun w2 h2 => ?_)
  have f2 := ((Fr.start w).newO h1 o1).ev h2
  rw [rightB_nil]
  refine gIf_nt (gLen_nm ((ht.ev h1).ev h2) ⟨fun out did i w' => out = x ∧ did = .slice none 0 0 ∧ i = 0 ∧ w' = w2, fun _ _ _ _ => 0, ⟨rfl, rfl, rfl, rfl⟩, ?_⟩)
  rintro _ _ _ _ _ ⟨rfl, rfl, rfl, rfl⟩
  exact gIf_f ⟨_, _, rfl, f2.old, f2.on 0 rfl, ON.nil .i64 eN _ _⟩
theorem Inverse0_any {x tags : Value} {xs : List Int} {most : Int} (hx : Nm .u8 w x xs) (ht : Nm .i64 w tags []) (hl : xs.length ≤ 10000000) (hm : xs.length ≤ most) : Calls P n_chain_Inverse #[x, .int .i64 most, tags] w (TupE w (xs, 0)) := by
  refine of_chain_Inverse (gCall_b (cRight_any ht (by simp)) fun w1 h1 => ?_)
  rw [rightB_nil]
  refine gIf_nt ⟨fun w' => w' = w1, gLen_nm (ht.ev h1) (gIf_t (gLen_nm (hx.ev h1) (gIf_dec (fun hg => ?_) (fun hg => rfl)))), ?_⟩
  · exfalso
    split at hg <;> omega
  rintro _ w2 hw2
  obtain rfl : w1 = w2 := hw2.symm
  refine gCall_v (cloneX_any (hx.ev h1) (by omega)) fun out w3 ⟨h3, o3⟩ => gLen_nm ((ht.ev h1).ev h3) ?_
  have f3 := ((Fr.start w).ev h1).newO h3 o3
  refine ⟨fun o i w' => o = out ∧ i = -1 ∧ w' = w3, fun _ _ _ => 0, ⟨rfl, rfl, rfl⟩, ?_⟩
  rintro _ _ _ _ ⟨rfl, rfl, rfl⟩
  exact gIf_f ⟨_, rfl, f3.old, f3.on 0 rfl⟩
/-- Without tags bytes are as they are. -/
theorem Choose0_any {b tags : Value} {xs : List Int} (hb : Nm .u8 w b xs) (ht : Nm .i64 w tags []) (hl : xs.length ≤ 10000000) : Calls P n_chain_Choose #[b, tags] w (FwdE w (xs, [])) := by
  refine of_chain_Choose (gCall_of (Forward0_any hb ht hl) ?_)
  rintro _ w1 ⟨x, d, rfl, h1, nx, nd⟩
  refine ⟨_, _, rfl, gLen_nm (hb.ev h1) (gCall_of (Inverse0_any nx.nm nd.nm hl (Int.le_refl _)) ?_)⟩
  rintro _ w2 ⟨y, rfl, h2, oy⟩
  refine ⟨_, _, rfl, gIf_nf (gCall_b0 (equalX_any oy.nm ((hb.ev h1).ev h2)) (gIf_ndec (fun h => (h rfl).elim) (fun _ => ⟨x, d, rfl, h1.trans h2, nx.ev h2, nd.ev h2⟩)))⟩
end
end Go.Proofs.YtiimlfgjnapgjaaGreatDoorV

/- The bytes of a string, made anew: they bear a mark. -/
set_option linter.unusedVariables false
set_option linter.unusedSimpArgs false
namespace Go.Proofs.YtiimlfgjnapgjaaGreatDoorV
open Go Go.RowKit
/-! ### []byte(s) -/
def Tx (e : TypeId) (w : World) (v : Value) (xs : List Int) : Prop := ∃ g c cur, v = .slice (some ⟨g, 0, none⟩) xs.length c ∧ xs.length ≤ c ∧ w.heap[g]? = some (.cells cur e (cur.size, cur.size + 1)) ∧ cur.size = c ∧ cur.toList.take xs.length = xs.map (Value.int .u8) ∧ inR .u8 xs
theorem Tx.ch {e : TypeId} {S : SS} {w w' : World} {v : Value} {xs : List Int} (h : Tx e w v xs) (hc : Ch S w w') (hs : ∀ k i, v.ownBlock = some k → ¬ S k i) : Tx e w' v xs := by
  obtain ⟨g, c, cur, rfl, h1, h2, h3⟩ := h
  exact ⟨g, c, cur, rfl, h1, by rw [hc.blk g (hlt h2) fun i => hs g i rfl]; exact h2, h3⟩
theorem Tx.nm {e : TypeId} {w : World} {v : Value} {xs : List Int} (h : Tx e w v xs) : Nm .u8 w v xs := by
  obtain ⟨g, c, cur, rfl, h1, h2, h3, h4, h5⟩ := h
  refine ⟨⟨some ⟨g, 0, none⟩, c, rfl, h1, by simp, fun ad ha j u hj => ?_, fun h => by cases h⟩, h5⟩
  injection ha with ha; subst ha
  rw [Addr.add_lit]
  have hjl : j < xs.length := by simpa using (List.getElem?_eq_some_iff.1 hj).1
  rw [← h4, List.getElem?_take, if_pos hjl, Array.getElem?_toList] at hj
  simp [World.cell?, h2, hj]
def tIt (e : TypeId) (v : Value) (xs : List Int) : It := ⟨fun b => v.ownBlock = some b, fun w => Tx e w v xs, fun _ _ h hk => by
    obtain ⟨g, c, cur, rfl, _, h1, _⟩ := h
    simp [Value.ownBlock] at hk; subst hk; exact ⟨_, _, _, h1⟩, fun _ _ _ h hc hs => h.ch hc hs, fun _ _ h _ hc => by
    obtain ⟨g, c, cur, rfl, h1, h2, h3⟩ := h; exact ⟨g, c, cur, rfl, h1, by rw [hc _ _ _ _ h2]; exact h2, h3⟩⟩
def strBytes (P : Program) (s d : TypeId) : Bool := match P.underlying s, P.underlying d with
  | some .string, some (.slice e) => (match P.underlying e with | some (.int .u8) => true | _ => false)
  | _, _ => false
section
variable {w0 w : World} {F : List It}
theorem fConvStr {s d : TypeId} {x : ByteArray} {K : Value → World → Prop} (f : Fr w0 w F) (hl : x.size ≤ 1000000) (hk : ∀ v w', KeepsOthers w w' → Fr w0 w' (tIt (elOf P d) v (sOf x) :: F) → K v w') (ht : strBytes P s d = true := by kernel_rfl) : gConv P s d shV (.string x) w K := by
  unfold strBytes at ht
  split at ht
  · rename_i e hs hd
    split at ht
    · rename_i he
      have hel : elOf P d = e := by unfold elOf; rw [hd]
      rw [hel] at hk
      have hge := grownCap_ge w x.size 0 e
      have hil := sOf_len x
      have hdl : x.data.toList.length = x.size := by rw [Array.length_toList]; rfl
      have hrs : (bytesRow x (grownCap w x.size 0 e)).size = grownCap w x.size 0 e := by
        unfold bytesRow
        have : x.data.size = x.size := rfl
        simp only [Array.size_append, Array.size_map, Array.size_replicate, this] at *
        omega
      refine ⟨_, _, run_bytes_of_string w s d e x hs hd he, hk _ _ (Ev.trans (Ev.drew0 w) (Ev.alloc w.drew _)).others (f.new (jt := tIt e _ (sOf x)) (Ev.trans (Ev.drew0 w) (Ev.alloc w.drew _)) ⟨w.heap.size, _, _, by rw [hil], by rw [hil]; omega, heap_alloc_new w.drew _, hrs, ?_, sOf_u8 x⟩ fun k hk => ?_)⟩
      · unfold bytesRow
        rw [Array.toList_append, List.take_left' (by rw [Array.toList_map, List.length_map, hil, hdl])]
        rw [Array.toList_map]
        unfold sOf
        rw [List.map_map]; rfl
      · have : w.heap.size = k := by simpa [tIt, Value.ownBlock] using hk
        omega
    · cases ht
  · cases ht
end
end Go.Proofs.YtiimlfgjnapgjaaGreatDoorV

/- Sorting by exchanges, over functions of the place: what insertion, rotation and merging do. No program in sight. -/
namespace Go.Proofs.YtiimlfgjnapgjaaGreatDoorV
section
variable {α : Type}
/-- f' is f, its places between a and b in another order. -/
def PermOn (a b : Nat) (f f' : Nat → α) : Prop := ∃ s t : Nat → Nat, (∀ i, f' i = f (s i)) ∧ (∀ i, s (t i) = i) ∧ (∀ i, t (s i) = i) ∧ ∀ i, i < a ∨ b ≤ i → s i = i
theorem PermOn.refl (a b : Nat) (f : Nat → α) : PermOn a b f f := ⟨id, id, fun _ => rfl, fun _ => rfl, fun _ => rfl, fun _ _ => rfl⟩
theorem PermOn.trans {a b : Nat} {f g h : Nat → α} (h1 : PermOn a b f g) (h2 : PermOn a b g h) : PermOn a b f h := by
  obtain ⟨s, t, e1, e2, e3, e4⟩ := h1
  obtain ⟨s', t', d1, d2, d3, d4⟩ := h2
  exact ⟨fun i => s (s' i), fun i => t' (t i), fun i => by rw [d1, e1], fun i => by dsimp only; rw [d2, e2], fun i => by dsimp only; rw [e3, d3], fun i hi => by dsimp only; rw [d4 i hi, e4 i hi]⟩
theorem PermOn.mono {a b a' b' : Nat} {f g : Nat → α} (h : PermOn a b f g) (ha : a' ≤ a) (hb : b ≤ b') : PermOn a' b' f g := by
  obtain ⟨s, t, e1, e2, e3, e4⟩ := h
  exact ⟨s, t, e1, e2, e3, fun i hi => e4 i (by omega)⟩
theorem PermOn.out {a b : Nat} {f g : Nat → α} (h : PermOn a b f g) {i : Nat} (hi : i < a ∨ b ≤ i) : g i = f i := by
  obtain ⟨s, t, e1, e2, e3, e4⟩ := h
  rw [e1, e4 i hi]
theorem PermOn.ins {a b : Nat} {f g : Nat → α} (h : PermOn a b f g) {i : Nat} (h1 : a ≤ i) (h2 : i < b) : ∃ j, a ≤ j ∧ j < b ∧ g i = f j := by
  obtain ⟨s, t, e1, e2, e3, e4⟩ := h
  refine ⟨s i, ?_, ?_, e1 i⟩
  · refine Decidable.byContradiction fun hn => ?_
    have := e4 (s i) (.inl (by omega))
    have := congrArg t this
    rw [e3, e3] at this; omega
  · refine Decidable.byContradiction fun hn => ?_
    have := e4 (s i) (.inr (by omega))
    have := congrArg t this
    rw [e3, e3] at this; omega
theorem PermOn.perm {n : Nat} {f g : Nat → α} (h : PermOn 0 n f g) : ((List.range n).map g).Perm ((List.range n).map f) := by
  have hin : ∀ i, i < n → ∃ j, j < n ∧ g i = f j := fun i hi => let ⟨j, _, h2, h3⟩ := h.ins (Nat.zero_le i) hi; ⟨j, h2, h3⟩
  obtain ⟨s, t, e1, e2, e3, e4⟩ := h
  have hs : ∀ i, i < n → s i < n := fun i hi => by
    refine Decidable.byContradiction fun hn => ?_
    have := e4 (s i) (.inr (by omega))
    have := congrArg t this
    rw [e3, e3] at this; omega
  have ht : ∀ i, i < n → t i < n := fun i hi => by
    refine Decidable.byContradiction fun hn => ?_
    have := e4 (t i) (.inr (by omega))
    rw [e2] at this; omega
  have e : (List.range n).map g = ((List.range n).map s).map f := by rw [List.map_map]; exact List.map_congr_left fun i _ => e1 i
  rw [e]
  refine List.Perm.map f ?_
  refine (List.perm_ext_iff_of_nodup ?_ List.nodup_range).2 fun i => ?_
  · refine List.nodup_iff_pairwise_ne.2 ?_
    rw [List.pairwise_map]
    refine List.Pairwise.imp (fun {x y} hxy hs => hxy ?_) (List.nodup_iff_pairwise_ne.1 List.nodup_range)
    have := congrArg t hs
    rw [e3, e3] at this; exact this
  · simp only [List.mem_map, List.mem_range]
    exact ⟨fun ⟨j, h1, h2⟩ => h2 ▸ hs j h1, fun hi => ⟨t i, ht i hi, e2 i⟩⟩
/-- Two are exchanged. -/
def swp (f : Nat → α) (i j : Nat) : Nat → α := fun k => if k = i then f j else if k = j then f i else f k
/-- Two blocks that lie side by side change their places. -/
def rotS (a m b : Nat) (k : Nat) : Nat := if a ≤ k ∧ k < b then (if k < a + (b - m) then k + (m - a) else k - (b - m)) else k
def rot (a m b : Nat) (f : Nat → α) : Nat → α := fun k => f (rotS a m b k)
theorem rot_perm (f : Nat → α) {a m b : Nat} (h1 : a ≤ m) (h2 : m ≤ b) : PermOn a b f (rot a m b f) := by
  refine ⟨rotS a m b, rotS a (a + (b - m)) b, fun k => rfl, fun k => ?_, fun k => ?_, fun k hk => ?_⟩
  · unfold rotS; repeat' split
    all_goals omega
  · unfold rotS; repeat' split
    all_goals omega
  · unfold rotS; rw [if_neg (by omega)]
/-- Two blocks of one length change their places. -/
def swR (a b n : Nat) (f : Nat → α) : Nat → α := fun k => if a ≤ k ∧ k < a + n then f (k + b - a) else if b ≤ k ∧ k < b + n then f (k + a - b) else f k
theorem swR_zero (a b : Nat) (f : Nat → α) : swR a b 0 f = f := by
  funext k; unfold swR; rw [if_neg (by omega), if_neg (by omega)]
theorem swR_step (a b n : Nat) (f : Nat → α) (h : a + n < b) : swp (swR a b n f) (a + n) (b + n) = swR a b (n + 1) f := by
  funext k
  unfold swp swR
  repeat' split
  all_goals first | omega | (congr 1; omega) | rfl
theorem rot_gt (m i j : Nat) (f : Nat → α) (him : i ≤ m) (h : j < i) : rot (m - (i - j)) m (m + j) (swR (m - i) m j f) = rot (m - i) m (m + j) f := by
  funext k
  unfold rot rotS swR
  repeat' split
  all_goals first | omega | (congr 1; omega) | rfl
theorem rot_le (m i j : Nat) (f : Nat → α) (him : i ≤ m) (h : i < j) : rot (m - i) m (m + (j - i)) (swR (m - i) (m + j - i) i f) = rot (m - i) m (m + j) f := by
  funext k
  unfold rot rotS swR
  repeat' split
  all_goals first | omega | (congr 1; omega) | rfl
theorem rot_eq (m i : Nat) (f : Nat → α) (him : i ≤ m) : swR (m - i) m i f = rot (m - i) m (m + i) f := by
  funext k
  unfold rot rotS swR
  repeat' split
  all_goals first | omega | (congr 1; omega) | rfl
/-- An order that need not tell all apart. -/
structure Wk (lt : α → α → Bool) : Prop where
  tr : ∀ x y z, lt y x = false → lt z y = false → lt z x = false
  asy : ∀ x y, lt x y = true → lt y x = false
variable {lt : α → α → Bool}
def Srt (lt : α → α → Bool) (a b : Nat) (f : Nat → α) : Prop := ∀ i j, a ≤ i → i < j → j < b → lt (f j) (f i) = false
theorem Srt.sub {a b a' b' : Nat} {f : Nat → α} (h : Srt lt a b f) (ha : a ≤ a') (hb : b' ≤ b) : Srt lt a' b' f := fun i j h1 h2 h3 => h i j (by omega) h2 (by omega)
theorem Srt.out {a b c d : Nat} {f g : Nat → α} (h : Srt lt a b f) (hp : PermOn c d f g) (hd : b ≤ c ∨ d ≤ a) : Srt lt a b g := fun i j h1 h2 h3 => by
  rw [hp.out (by omega), hp.out (by omega)]; exact h i j h1 h2 h3
/-- An element is brought down to its place. -/
def down (f : Nat → α) (i j : Nat) : Nat → α := fun k => if k < j then f k else if k = j then f i else if k ≤ i then f (k - 1) else f k
theorem down_start (f : Nat → α) (i : Nat) : down f i i = f := by
  funext k; unfold down
  repeat' split
  all_goals first | omega | (congr 1; omega) | rfl
theorem down_step (f : Nat → α) (i j : Nat) (h0 : 0 < j) (h : j ≤ i) : swp (down f i j) j (j - 1) = down f i (j - 1) := by
  funext k; unfold swp down
  repeat' split
  all_goals first | omega | (congr 1; omega) | rfl
theorem down_perm (f : Nat → α) {a i j : Nat} (ha : a ≤ j) (h : j ≤ i) : PermOn a (i + 1) f (down f i j) := by
  refine ⟨fun k => if k < j then k else if k = j then i else if k ≤ i then k - 1 else k, fun k => if k < j then k else if k < i then k + 1 else if k = i then j else k, fun k => ?_, fun k => ?_, fun k => ?_, fun k hk => ?_⟩
  · dsimp only [down]; repeat' split
    all_goals rfl
  · dsimp only; repeat' split
    all_goals omega
  · dsimp only; repeat' split
    all_goals omega
  · dsimp only; repeat' split
    all_goals omega
theorem down_srt (O : Wk lt) {f : Nat → α} {a i j : Nat} (hs : Srt lt a i f) (haj : a ≤ j) (hji : j ≤ i) (h1 : ∀ k, j ≤ k → k < i → lt (f i) (f k) = true) (h2 : j = a ∨ lt (f i) (f (j - 1)) = false) : Srt lt a (i + 1) (down f i j) := by
  have low : ∀ k, a ≤ k → k < j → lt (f i) (f k) = false := fun k hk1 hk2 => by
    rcases h2 with h2 | h2
    · omega
    · by_cases hk : k = j - 1
      · subst hk; exact h2
      · exact O.tr _ _ _ (hs k (j - 1) hk1 (by omega) (by omega)) h2
  intro p q hp hpq hq
  unfold down
  by_cases q1 : q < j
  · rw [if_pos q1, if_pos (by omega)]; exact hs p q hp hpq (by omega)
  · rw [if_neg q1]
    by_cases q2 : q = j
    · rw [if_pos q2, if_pos (by omega)]; exact low p hp (by omega)
    · rw [if_neg q2, if_pos (by omega)]
      by_cases p1 : p < j
      · rw [if_pos p1]
        by_cases e : p = q - 1
        · omega
        · exact hs p (q - 1) hp (by omega) (by omega)
      · rw [if_neg p1]
        by_cases p2 : p = j
        · rw [if_pos p2]; exact O.asy _ _ (h1 (q - 1) (by omega) (by omega))
        · rw [if_neg p2, if_pos (by omega)]; exact hs (p - 1) (q - 1) (by omega) (by omega) (by omega)
/-- An element is brought up to its place. -/
def up (f : Nat → α) (a j : Nat) : Nat → α := fun k => if k < a then f k else if k < j then f (k + 1) else if k = j then f a else f k
theorem up_start (f : Nat → α) (a : Nat) : up f a a = f := by
  funext k; unfold up
  repeat' split
  all_goals first | omega | (congr 1; omega) | rfl
theorem up_step (f : Nat → α) (a j : Nat) (h : a ≤ j) : swp (up f a j) j (j + 1) = up f a (j + 1) := by
  funext k; unfold swp up
  repeat' split
  all_goals first | omega | (congr 1; omega) | rfl
theorem up_perm (f : Nat → α) {a j b : Nat} (h : a ≤ j) (hb : j < b) : PermOn a b f (up f a j) := by
  refine ⟨fun k => if k < a then k else if k < j then k + 1 else if k = j then a else k, fun k => if k < a then k else if k = a then j else if k ≤ j then k - 1 else k, fun k => ?_, fun k => ?_, fun k => ?_, fun k hk => ?_⟩
  · dsimp only [up]; repeat' split
    all_goals rfl
  · dsimp only; repeat' split
    all_goals omega
  · dsimp only; repeat' split
    all_goals omega
  · dsimp only; repeat' split
    all_goals omega
/-- a alone ahead of what is sorted: i is its place. -/
theorem up_srt (O : Wk lt) {f : Nat → α} {a i b : Nat} (hs : Srt lt (a + 1) b f) (hai : a + 1 ≤ i) (hib : i ≤ b) (h1 : ∀ k, a + 1 ≤ k → k < i → lt (f k) (f a) = true) (h2 : ∀ k, i ≤ k → k < b → lt (f k) (f a) = false) : Srt lt a b (up f a (i - 1)) := by
  intro p q hp hpq hq
  unfold up
  rw [if_neg (show ¬ q < a by omega), if_neg (show ¬ p < a by omega)]
  by_cases q1 : q < i - 1
  · rw [if_pos q1, if_pos (by omega)]; exact hs _ _ (by omega) (by omega) (by omega)
  · rw [if_neg q1]
    by_cases q2 : q = i - 1
    · rw [if_pos q2, if_pos (by omega)]; exact O.asy _ _ (h1 (p + 1) (by omega) (by omega))
    · rw [if_neg q2]
      by_cases p1 : p < i - 1
      · rw [if_pos p1]; exact hs _ _ (by omega) (by omega) (by omega)
      · rw [if_neg p1]
        by_cases p2 : p = i - 1
        · rw [if_pos p2]; exact h2 q (by omega) (by omega)
        · rw [if_neg p2]; exact hs _ _ (by omega) (by omega) (by omega)
/-- m alone behind what is sorted. -/
theorem down_srt' (O : Wk lt) {f : Nat → α} {a i m : Nat} (hs : Srt lt a m f) (hai : a ≤ i) (him : i ≤ m) (h1 : ∀ k, a ≤ k → k < i → lt (f m) (f k) = false) (h2 : ∀ k, i ≤ k → k < m → lt (f m) (f k) = true) : Srt lt a (m + 1) (down f m i) :=
  down_srt O hs hai him h2 (by
    by_cases h : i = a
    · exact .inl h
    · exact .inr (h1 (i - 1) (by omega) (by omega)))
/-- The merge: behind a rotation both halves are to be merged alone. -/
theorem merge_parts (O : Wk lt) {f : Nat → α} {a m b mid s : Nat} (hs1 : Srt lt a m f) (hs2 : Srt lt m b f) (hmid : a ≤ mid) (hmb : mid ≤ b) (has : a ≤ s) (hsm : s ≤ m) (hsd : s ≤ mid) (hend : mid + m - s ≤ b)
    (h1 : ∀ c, a ≤ c → c < s → mid + m - b ≤ c → lt (f (mid + m - 1 - c)) (f c) = false) (h2 : s < m → s < mid → lt (f (mid + m - 1 - s)) (f s) = true) :
    Srt lt a s (rot s m (mid + m - s) f) ∧ Srt lt s mid (rot s m (mid + m - s) f) ∧ Srt lt mid (mid + m - s) (rot s m (mid + m - s) f) ∧ Srt lt (mid + m - s) b (rot s m (mid + m - s) f) ∧
    ∀ p q, a ≤ p → p < mid → mid ≤ q → q < b → lt (rot s m (mid + m - s) f q) (rot s m (mid + m - s) f p) = false := by
  have e : ∀ k, rot s m (mid + m - s) f k = if s ≤ k ∧ k < mid + m - s then (if k < mid then f (k + (m - s)) else f (k - (mid - s))) else f k := fun k => by
    unfold rot rotS
    repeat' split
    all_goals first | omega | (congr 1; omega) | rfl
  have hl : ∀ k, a ≤ k → k < s → rot s m (mid + m - s) f k = f k := fun k _ h => by rw [e, if_neg (by omega)]
  have hm1 : ∀ k, s ≤ k → k < mid → rot s m (mid + m - s) f k = f (k + (m - s)) := fun k h1 h2 => by rw [e, if_pos (by omega), if_pos h2]
  have hm2 : ∀ k, mid ≤ k → k < mid + m - s → rot s m (mid + m - s) f k = f (k - (mid - s)) := fun k h1 h2 => by rw [e, if_pos (by omega), if_neg (by omega)]
  have hr : ∀ k, mid + m - s ≤ k → rot s m (mid + m - s) f k = f k := fun k h => by rw [e, if_neg (by omega)]
  refine ⟨fun i j p1 p2 p3 => ?_, fun i j p1 p2 p3 => ?_, fun i j p1 p2 p3 => ?_, fun i j p1 p2 p3 => ?_, fun p q p1 p2 q1 q2 => ?_⟩
  · rw [hl _ p1 (by omega), hl _ (by omega) p3]; exact hs1 i j p1 p2 (by omega)
  · rw [hm1 _ p1 (by omega), hm1 _ (by omega) p3]; exact hs2 _ _ (by omega) (by omega) (by omega)
  · rw [hm2 _ p1 (by omega), hm2 _ (by omega) p3]; exact hs1 _ _ (by omega) (by omega) (by omega)
  · rw [hr _ p1, hr _ (by omega)]; exact hs2 _ _ (by omega) (by omega) (by omega)
  · -- le within the old halves, reflexive
    have le1 : ∀ x y, a ≤ x → x ≤ y → y < m → lt (f y) (f x) = false := fun x y h1 h2 h3 => by
      by_cases h : x = y
      · subst h
        cases hh : lt (f x) (f x) with
        | false => rfl
        | true => rw [O.asy _ _ hh] at hh; cases hh
      · exact hs1 x y h1 (by omega) h3
    have le2 : ∀ x y, m ≤ x → x ≤ y → y < b → lt (f y) (f x) = false := fun x y h1 h2 h3 => by
      by_cases h : x = y
      · subst h
        cases hh : lt (f x) (f x) with
        | false => rfl
        | true => rw [O.asy _ _ hh] at hh; cases hh
      · exact hs2 x y h1 (by omega) h3
    by_cases ps : p < s
    · rw [hl p p1 ps]
      by_cases qe : q < mid + m - s
      · rw [hm2 q q1 qe]; exact le1 _ _ p1 (by omega) (by omega)
      · rw [hr q (by omega)]
        have hc := h1 (s - 1) (by omega) (by omega) (by omega)
        rw [show mid + m - 1 - (s - 1) = mid + m - s by omega] at hc
        exact O.tr _ _ _ (le1 p (s - 1) p1 (by omega) (by omega)) (O.tr _ _ _ hc (le2 _ q (by omega) (by omega) q2))
    · rw [hm1 p (by omega) p2]
      by_cases qe : q < mid + m - s
      · rw [hm2 q q1 qe]
        have hc := O.asy _ _ (h2 (by omega) (by omega))
        exact O.tr _ _ _ (le2 _ (mid + m - 1 - s) (by omega) (by omega) (by omega)) (O.tr _ _ _ hc (le1 s _ (by omega) (by omega) (by omega)))
      · rw [hr q (by omega)]; exact le2 _ _ (by omega) (by omega) q2
/-- Both halves merged: the whole is sorted. -/
theorem merge_join {f g h : Nat → α} {a mid b : Nat} (hcr : ∀ p q, a ≤ p → p < mid → mid ≤ q → q < b → lt (f q) (f p) = false) (p1 : PermOn a mid f g) (s1 : Srt lt a mid g) (p2 : PermOn mid b g h) (s2 : Srt lt mid b h) : Srt lt a b h := by
  intro i j h1 h2 h3
  by_cases hj : j < mid
  · rw [p2.out (.inl hj), p2.out (.inl (by omega))]; exact s1 i j h1 h2 hj
  · by_cases hi : mid ≤ i
    · exact s2 i j hi h2 h3
    · rw [p2.out (i := i) (.inl (by omega))]
      obtain ⟨j', j1, j2, j3⟩ := p2.ins (i := j) (by omega) h3
      obtain ⟨i', i1, i2, i3⟩ := p1.ins (i := i) h1 (by omega)
      rw [j3, p1.out (.inr j1), i3]
      exact hcr i' j' i1 i2 j1 j2
end
end Go.Proofs.YtiimlfgjnapgjaaGreatDoorV

/- Names: their order, lists of entries by rising names, which names may be. No program in sight. -/
namespace Go.Proofs.YtiimlfgjnapgjaaGreatDoorV
open Go Go.RowKit
/-! ### The order of strings -/
theorem bl_irr : ∀ a : List UInt8, Op.bytesLess a a = false
  | [] => rfl
  | a :: x => by simp [Op.bytesLess, bl_irr x, UInt8.lt_irrefl]
theorem bl_as : ∀ {a b : List UInt8}, Op.bytesLess a b = true → Op.bytesLess b a = false
  | _, [], h => by simp [Op.bytesLess] at h
  | [], b :: y, _ => by simp [Op.bytesLess]
  | a :: x, b :: y, h => by
    simp only [Op.bytesLess, Bool.or_eq_true, decide_eq_true_eq, Bool.and_eq_true, beq_iff_eq] at h
    simp only [Op.bytesLess, Bool.or_eq_false_iff, decide_eq_false_iff_not, Bool.and_eq_false_iff, beq_eq_false_iff_ne]
    rcases h with h | ⟨rfl, h⟩
    · exact ⟨UInt8.lt_asymm h, .inl fun e => by subst e; exact UInt8.lt_irrefl _ h⟩
    · exact ⟨UInt8.lt_irrefl _, .inr (bl_as h)⟩
theorem bl_tri : ∀ {a b : List UInt8}, Op.bytesLess a b = false → Op.bytesLess b a = false → a = b
  | [], [], _, _ => rfl
  | [], b :: y, h, _ => by simp [Op.bytesLess] at h
  | a :: x, [], _, h => by simp [Op.bytesLess] at h
  | a :: x, b :: y, h, h' => by
    simp only [Op.bytesLess, Bool.or_eq_false_iff, decide_eq_false_iff_not, Bool.and_eq_false_iff, beq_eq_false_iff_ne] at h h'
    have e : a = b := UInt8.le_antisymm (UInt8.not_lt.1 h'.1) (UInt8.not_lt.1 h.1)
    subst e
    rcases h.2 with h2 | h2
    · exact absurd rfl h2
    rcases h'.2 with h3 | h3
    · exact absurd rfl h3
    rw [bl_tri h2 h3]
theorem bl_tr : ∀ {a b c : List UInt8}, Op.bytesLess a b = true → Op.bytesLess b c = true → Op.bytesLess a c = true
  | _, _, [], _, h => by simp [Op.bytesLess] at h
  | _, [], c :: z, h, _ => by simp [Op.bytesLess] at h
  | [], b :: y, c :: z, _, _ => by simp [Op.bytesLess]
  | a :: x, b :: y, c :: z, h, h' => by
    simp only [Op.bytesLess, Bool.or_eq_true, decide_eq_true_eq, Bool.and_eq_true, beq_iff_eq] at h h' ⊢
    rcases h with h | ⟨rfl, h⟩
    · rcases h' with h' | ⟨rfl, h'⟩
      · exact .inl (UInt8.lt_trans h h')
      · exact .inl h
    · rcases h' with h' | ⟨rfl, h'⟩
      · exact .inl h'
      · exact .inr ⟨rfl, bl_tr h h'⟩
theorem bl_cmp : ∀ a b : List UInt8, Lib.compareBytes a b = if Op.bytesLess a b then -1 else if Op.bytesLess b a then 1 else 0
  | [], [] => rfl
  | [], b :: y => by simp [Op.bytesLess, Lib.compareBytes]
  | a :: x, [] => by simp [Op.bytesLess, Lib.compareBytes]
  | a :: x, b :: y => by
    rw [Lib.compareBytes, bl_cmp x y]
    by_cases h1 : a < b
    · simp [Op.bytesLess, h1]
    · by_cases h2 : b < a
      · have : a ≠ b := fun e => h1 (e ▸ h2)
        simp [Op.bytesLess, h1, h2, this]
      · have e : a = b := UInt8.le_antisymm (UInt8.not_lt.1 h2) (UInt8.not_lt.1 h1)
        subst e
        simp [Op.bytesLess, UInt8.lt_irrefl]
/-- One name is less than another. -/
def nlt (a b : ByteArray) : Bool := Op.bytesLess a.data.toList b.data.toList
theorem nlt_irr (a : ByteArray) : nlt a a = false := bl_irr _
theorem nlt_as {a b : ByteArray} (h : nlt a b = true) : nlt b a = false := bl_as h
theorem nlt_tr {a b c : ByteArray} (h : nlt a b = true) (h' : nlt b c = true) : nlt a c = true := bl_tr h h'
theorem nlt_tri {a b : ByteArray} (h : nlt a b = false) (h' : nlt b a = false) : a = b := by
  have := bl_tri h h'
  obtain ⟨⟨a⟩⟩ := a; obtain ⟨⟨b⟩⟩ := b
  simpa using this
theorem nle_tr {a b c : ByteArray} (h : nlt b a = false) (h' : nlt c b = false) : nlt c a = false := by
  cases hc : nlt c a with
  | false => rfl
  | true =>
    cases hb : nlt b c with
    | true => rw [nlt_tr hb hc] at h; cases h
    | false =>
      have := nlt_tri h' hb
      subst this; rw [hc] at h; cases h
theorem nlt_le {a b c : ByteArray} (h : nlt a b = true) (h' : nlt c b = false) : nlt a c = true := by
  cases hc : nlt a c with
  | true => rfl
  | false =>
    rw [nle_tr h' hc] at h; cases h
theorem ncmp (a b : ByteArray) : Lib.compareBytes a.data.toList b.data.toList = if nlt a b then -1 else if nlt b a then 1 else 0 := bl_cmp _ _
theorem ncmp_lt (a b : ByteArray) : decide (Lib.compareBytes a.data.toList b.data.toList < 0) = nlt a b := by
  rw [ncmp]
  cases h : nlt a b
  · cases nlt b a <;> rfl
  · rfl
/-! ### Entries -/
abbrev En := ByteArray × List Int
/-- By rising names, none twice. -/
def Up (l : List En) : Prop := l.Pairwise fun x y => nlt x.1 y.1 = true
/-- By rising names. -/
def Upw (l : List En) : Prop := l.Pairwise fun x y => nlt y.1 x.1 = false
/-- Where a name stands, or would stand. -/
def atN : List En → ByteArray → Nat
  | [], _ => 0
  | x :: l, n => if nlt x.1 n then atN l n + 1 else 0
theorem atN_lt : ∀ (l : List En) (n : ByteArray) (x : En), x ∈ l.take (atN l n) → nlt x.1 n = true
  | [], _, _, h => by simp at h
  | y :: l, n, x, h => by
    unfold atN at h
    split at h
    · rename_i hy
      rw [List.take_succ_cons] at h
      rcases List.mem_cons.1 h with rfl | h
      · exact hy
      · exact atN_lt l n x h
    · simp at h
theorem atN_ge : ∀ {l : List En} {n : ByteArray} (_ : Upw l) (x : En), x ∈ l.drop (atN l n) → nlt x.1 n = false
  | [], _, _, _, h => by simp at h
  | y :: l, n, hu, x, h => by
    unfold atN at h
    split at h
    · rw [List.drop_succ_cons] at h
      exact atN_ge (List.pairwise_cons.1 hu).2 x h
    · rename_i hy
      have hy : nlt y.1 n = false := by simpa using hy
      rw [List.drop_zero] at h
      rcases List.mem_cons.1 h with rfl | h
      · exact hy
      · exact nle_tr hy ((List.pairwise_cons.1 hu).1 x h)
/-- An entry is laid ahead of the first that is not less. -/
def insN (l : List En) (x : En) : List En := l.take (atN l x.1) ++ x :: l.drop (atN l x.1)
theorem insN_up {l : List En} {x : En} (h : Upw l) : Upw (insN l x) := by
  unfold insN Upw
  rw [List.pairwise_append]
  refine ⟨h.sublist (List.take_sublist _ _), List.pairwise_cons.2 ⟨fun y hy => atN_ge h y hy, h.sublist (List.drop_sublist _ _)⟩, fun a ha b hb => ?_⟩
  have h1 := atN_lt l _ a ha
  rcases List.mem_cons.1 hb with rfl | hb
  · exact nlt_as h1
  · exact nlt_as (nlt_le h1 (atN_ge h b hb))
theorem insN_perm (l : List En) (x : En) : (insN l x).Perm (x :: l) := by
  unfold insN
  exact List.perm_middle.trans (by rw [List.take_append_drop])
/-- Sorted. -/
def srtN (l : List En) : List En := l.foldl insN []
theorem srt_fold : ∀ (l a : List En), Upw a → Upw (l.foldl insN a) ∧ (l.foldl insN a).Perm (a ++ l)
  | [], a, h => ⟨h, by simp⟩
  | x :: l, a, h => by
    obtain ⟨h1, h2⟩ := srt_fold l (insN a x) (insN_up h)
    exact ⟨h1, h2.trans (((insN_perm a x).append_right l).trans List.perm_middle.symm)⟩
theorem srtN_up (l : List En) : Upw (srtN l) := (srt_fold l [] List.Pairwise.nil).1
theorem srtN_perm (l : List En) : (srtN l).Perm l := by have := (srt_fold l [] List.Pairwise.nil).2; rw [List.nil_append] at this; exact this
theorem Upw.up {l : List En} (h : Upw l) (hn : (l.map (·.1)).Nodup) : Up l := by
  have hn := List.nodup_iff_pairwise_ne.1 hn
  rw [List.pairwise_map] at hn
  exact List.Pairwise.imp₂ (fun {a b} h1 h2 => by
    cases hc : nlt a.1 b.1 with
    | true => rfl
    | false => exact absurd (nlt_tri hc h1) h2) h hn
theorem Up.nodup {l : List En} (h : Up l) : (l.map (·.1)).Nodup := by
  refine List.nodup_iff_pairwise_ne.2 ?_
  rw [List.pairwise_map]
  exact List.Pairwise.imp (fun {a b} h1 e => by rw [e, nlt_irr] at h1; cases h1) h
/-- Rising lists of the same entries are the same. -/
theorem Up.ext : ∀ {a b : List En}, Up a → Up b → (∀ x, x ∈ a ↔ x ∈ b) → a = b
  | [], [], _, _, _ => rfl
  | [], y :: b, _, _, h => by have := (h y).2 (by simp); cases this
  | x :: a, [], _, _, h => by have := (h x).1 (by simp); cases this
  | x :: a, y :: b, ha, hb, h => by
    obtain ⟨ha1, ha2⟩ := List.pairwise_cons.1 ha
    obtain ⟨hb1, hb2⟩ := List.pairwise_cons.1 hb
    have e : x = y := by
      rcases List.mem_cons.1 ((h x).1 (by simp)) with e | hx
      · exact e
      rcases List.mem_cons.1 ((h y).2 (by simp)) with e | hy
      · exact e.symm
      have h1 := hb1 x hx
      have h2 := ha1 y hy
      rw [nlt_as h1] at h2; cases h2
    subst e
    congr 1
    refine Up.ext ha2 hb2 fun z => ⟨fun hz => ?_, fun hz => ?_⟩
    · rcases List.mem_cons.1 ((h z).1 (by simp [hz])) with rfl | hz'
      · have := ha1 z hz; rw [nlt_irr] at this; cases this
      · exact hz'
    · rcases List.mem_cons.1 ((h z).2 (by simp [hz])) with rfl | hz'
      · have := hb1 z hz; rw [nlt_irr] at this; cases this
      · exact hz'
theorem up_eq_srt {a l : List En} (ha : Up a) (hp : a.Perm l) : a = srtN l :=
  Up.ext ha ((srtN_up l).up (((srtN_perm l).trans hp.symm).map (·.1) |>.nodup_iff.2 ha.nodup)) fun x => by rw [hp.mem_iff, (srtN_perm l).mem_iff]
/-! ### How much -/
def sumD (l : List En) : Int := (l.map fun x => (x.2.length : Int)).sum
def sumN (l : List En) : Int := (l.map fun x => (x.1.size : Int)).sum
theorem perm_sum {a b : List Int} (h : a.Perm b) : a.sum = b.sum := by
  induction h with
  | nil => rfl
  | cons x _ ih => simp [ih]
  | swap x y l => simp; omega
  | trans _ _ h1 h2 => exact h1.trans h2
theorem sumD_perm {a b : List En} (h : a.Perm b) : sumD a = sumD b := perm_sum (h.map _)
theorem sumN_perm {a b : List En} (h : a.Perm b) : sumN a = sumN b := perm_sum (h.map _)
theorem sumD_nn (l : List En) : 0 ≤ sumD l := by
  induction l with
  | nil => simp [sumD]
  | cons x l ih => simp only [sumD, List.map_cons, List.sum_cons] at *; omega
theorem sumN_nn (l : List En) : 0 ≤ sumN l := by
  induction l with
  | nil => simp [sumN]
  | cons x l ih => simp only [sumN, List.map_cons, List.sum_cons] at *; omega
theorem sumD_app (a b : List En) : sumD (a ++ b) = sumD a + sumD b := by simp [sumD]
theorem sumN_app (a b : List En) : sumN (a ++ b) = sumN a + sumN b := by simp [sumN]
def much (l : List En) : Bool := decide (4096 < l.length) || decide (1048576 < sumD l) || decide (1048576 < sumN l)
theorem much_perm {a b : List En} (h : a.Perm b) : much a = much b := by unfold much; rw [sumD_perm h, sumN_perm h, h.length_eq]
/-! ### Which names may be -/
def partsU : List UInt8 → List (List UInt8)
  | [] => [[]]
  | c :: r => if c = 47 then [] :: partsU r else match partsU r with
    | p :: ps => (c :: p) :: ps
    | [] => [[c]]
def badU (p : List UInt8) : Bool := p == [] || (p == [46] || p == [46, 46])
/-- But for the length. -/
def okU (l : List UInt8) : Bool := (!l.contains 0) && !(partsU l).any badU
def rightU (l : List UInt8) : Bool := decide (l.length ≤ 4096) && okU l
def rightN (s : ByteArray) : Bool := rightU s.data.toList
/-! ### The calls -/
def sortE (l : List En) : List En × Int :=
  if l.any (fun x => !rightN x.1) then ([], 6) else if ¬ (l.map (·.1)).Nodup then ([], 7) else if much l then ([], 5) else (srtN l, 0)
end Go.Proofs.YtiimlfgjnapgjaaGreatDoorV

/- Entries in memory; byName; sorting them by exchanges. -/
namespace Go.Proofs.YtiimlfgjnapgjaaGreatDoorV
open Go Go.RowKit
/-! ### Cells -/
/-- An entry: its name, the slice of its bytes, and what these are. -/
abbrev E3 := ByteArray × Value × List Int
instance : Inhabited E3 := ⟨(⟨#[]⟩, .slice none 0 0, [])⟩
def c3 (u : E3) : List Value := [.string u.1, u.2.1]
def cells3 (us : List E3) : List Value := us.flatMap c3
def er (u : E3) : En := (u.1, u.2.2)
theorem cells3_cons (u : E3) (us : List E3) : cells3 (u :: us) = .string u.1 :: u.2.1 :: cells3 us := rfl
theorem cells3_len : ∀ us : List E3, (cells3 us).length = us.length * 2
  | [] => rfl
  | u :: us => by rw [cells3_cons]; simp only [List.length_cons, cells3_len us]; omega
theorem cells3_app (a b : List E3) : cells3 (a ++ b) = cells3 a ++ cells3 b := by simp [cells3]
theorem cells3_get : ∀ {us : List E3} {i : Nat} {u : E3}, us[i]? = some u → (cells3 us)[i * 2]? = some (.string u.1) ∧ (cells3 us)[i * 2 + 1]? = some u.2.1
  | [], _, _, h => by simp at h
  | x :: us, 0, u, h => by
    simp at h; subst h; exact ⟨rfl, rfl⟩
  | x :: us, i + 1, u, h => by
    have h2 := cells3_get (us := us) (i := i) (u := u) (by simpa using h)
    rw [cells3_cons, show (i + 1) * 2 = i * 2 + 2 by omega]
    simpa using h2
theorem cells3_take (us : List E3) (i : Nat) : (cells3 us).take (i * 2) = cells3 (us.take i) := by
  induction us generalizing i with
  | nil => simp [cells3]
  | cons u us ih =>
    cases i with
    | zero => simp [cells3]
    | succ i => rw [cells3_cons, show (i + 1) * 2 = i * 2 + 1 + 1 by omega, List.take_succ_cons, List.take_succ_cons, ih, List.take_succ_cons, cells3_cons]
theorem cells3_drop (us : List E3) (i : Nat) : (cells3 us).drop (i * 2) = cells3 (us.drop i) := by
  induction us generalizing i with
  | nil => simp [cells3]
  | cons u us ih =>
    cases i with
    | zero => simp
    | succ i => rw [cells3_cons, show (i + 1) * 2 = i * 2 + 1 + 1 by omega, List.drop_succ_cons, List.drop_succ_cons, ih, List.drop_succ_cons]
theorem cells3_set {us : List E3} {i : Nat} {u : E3} (h : i < us.length) : (cells3 us).take (i * 2) ++ c3 u ++ (cells3 us).drop (i * 2 + 2) = cells3 (us.set i u) := by
  rw [cells3_take, show i * 2 + 2 = (i + 1) * 2 by omega, cells3_drop, List.set_eq_take_append_cons_drop, if_pos h, cells3_app, cells3_cons]
  simp [c3]
theorem one3 {us : List E3} (h : ∀ u ∈ us, u.2.1.oneCell' = true) : ∀ v ∈ cells3 us, v.oneCell' = true := fun v hv => by
  obtain ⟨u, hu, hv⟩ := List.mem_flatMap.1 hv
  simp only [c3, List.mem_cons, List.not_mem_nil, or_false] at hv
  rcases hv with rfl | rfl
  · rfl
  · exact h u hu
/-- A slice of entries reads so. -/
def Es (w : World) (v : Value) (us : List E3) : Prop := Sl w 2 v us.length (cells3 us) ∧ ∀ u ∈ us, Nm .u8 w u.2.1 u.2.2
theorem Es.ev {w w' : World} {v : Value} {us : List E3} (h : Es w v us) (he : Ev w w') : Es w' v us := ⟨h.1.ev he, fun u hu => (h.2 u hu).ev he⟩
theorem Nm.oc {k : IntKind} {w : World} {v : Value} {xs : List Int} (h : Nm k w v xs) : v.oneCell' = true := by obtain ⟨a, c, rfl, _⟩ := h.shape; rfl
theorem Es.cell {w : World} {v : Value} {us : List E3} (h : Es w v us) {i : Nat} {u : E3} (hu : us[i]? = some u) {ad : Addr} (hc : ∀ j x, j < 2 → (cells3 us)[i * 2 + j]? = some x → w.cell? (ad.add j) = some x) : w.cell? (ad.add 0) = some (.string u.1) ∧ w.cell? (ad.add 1) = some u.2.1 :=
  ⟨hc 0 _ (by omega) (cells3_get hu).1, hc 1 _ (by omega) (cells3_get hu).2⟩
/-! ### A row that is told by its places -/
def lst (n : Nat) (f : Nat → E3) : List E3 := (List.range n).map f
theorem lst_len (n : Nat) (f : Nat → E3) : (lst n f).length = n := by simp [lst]
theorem lst_get {n i : Nat} (f : Nat → E3) (h : i < n) : (lst n f)[i]? = some (f i) := by simp [lst, h]
def put1 (f : Nat → E3) (i : Nat) (u : E3) : Nat → E3 := fun k => if k = i then u else f k
theorem lst_set {n i : Nat} (f : Nat → E3) (u : E3) (h : i < n) : (lst n f).set i u = lst n (put1 f i u) := by
  refine List.ext_getElem? fun j => ?_
  rw [List.getElem?_set]
  by_cases hj : j < n
  · rw [lst_get (put1 f i u) hj]
    by_cases e : i = j
    · subst e; rw [if_pos rfl, if_pos (by rw [lst_len]; exact h)]; simp [put1]
    · rw [if_neg e, lst_get f hj]; simp [put1, show ¬ j = i from fun h => e h.symm]
  · rw [List.getElem?_eq_none (l := lst n (put1 f i u)) (by rw [lst_len]; omega), if_neg (by omega), List.getElem?_eq_none (by rw [lst_len]; omega)]
theorem lst_of (us : List E3) : us = lst us.length (fun i => us.getD i default) := by
  refine List.ext_getElem? fun j => ?_
  by_cases hj : j < us.length
  · rw [lst_get _ hj, List.getElem?_eq_getElem hj]; simp [hj]
  · rw [List.getElem?_eq_none (by omega), List.getElem?_eq_none (by rw [lst_len]; omega)]
theorem put1_swp (f : Nat → E3) (i j : Nat) : put1 (put1 f i (f j)) j (f i) = swp f i j := by
  funext k; unfold put1 swp
  by_cases h1 : k = j
  · rw [if_pos h1]
    by_cases h2 : k = i
    · rw [if_pos h2, ← h1, ← h2]
    · rw [if_neg h2, if_pos h1]
  · rw [if_neg h1]
    by_cases h2 : k = i
    · rw [if_pos h2, if_pos h2]
    · rw [if_neg h2, if_neg h2, if_neg h1]
def fIt (e : TypeId) (v : Value) (n : Nat) (f : Nat → E3) : It := rIt e 2 v n (cells3 (lst n f))
def Ok1 (f : Nat → E3) : Prop := ∀ k, (f k).2.1.oneCell' = true
theorem Ok1.perm {f g : Nat → E3} {a b : Nat} (h : Ok1 f) (hp : PermOn a b f g) : Ok1 g := fun k => by obtain ⟨s, t, e, _⟩ := hp; rw [e]; exact h _
section
variable {w0 w w' : World} {G : List It} {e : TypeId} {v : Value} {n : Nat} {f : Nat → E3}
theorem fIdxLdB {i : Int} {ki : IntKind} {B : World → Prop} {K : ByteArray → Value → Prop} (h : Fr w0 w (fIt e v n f :: G)) (j : Nat) (hij : i = (j : Int)) (hj : j < n) (hB : ∀ w', B w' → Ev w w') (hk : K (f j).1 (f j).2.1) :
    gIdx P t_sl_api_Entry v (.int ki i) fun ad => gLoadB P t_api_Entry (.part (.agg [.str, .val])) (.pointer (some ad)) B fun s d => K s d := by
  have ho : w.ownsRow 0 e 2 v n (cells3 (lst n f)) := h.1
  refine gIdx_r ho hij hj fun ad hs => gLoadB_agg [.string (f j).1, (f j).2.1] (fun w' hw q u hq => ?_) hk
  have hg := cells3_get (lst_get f hj)
  have hc0 := SltR.cell ho hs (q := 0) hg.1
  have hc1 := SltR.cell ho hs (q := 1) hg.2
  rcases q with _ | _ | q
  · simp at hq; subst hq; exact Ch.cell (hB w' hw) hc0 fun h => h
  · simp at hq; subst hq; exact Ch.cell (hB w' hw) hc1 fun h => h
  · simp at hq
theorem fIdxSt {i : Int} {ki : IntKind} {K : World → Prop} (h : Fr w0 w (fIt e v n f :: G)) (j : Nat) (u : E3) (hij : i = (j : Int)) (hj : j < n) (hu : u.2.1.oneCell' = true) (hk : ∀ w', Fr w0 w' (fIt e v n (put1 f j u) :: G) → K w') :
    gIdx P t_sl_api_Entry v (.int ki i) fun ad => gStore P t_api_Entry (.pointer (some ad)) (.agg #[.string u.1, u.2.1]) w K := by
  have ho : w.ownsRow 0 e 2 v n (cells3 (lst n f)) := h.1
  refine gIdx_r ho hij hj fun ad hs => fStoreR (j := j) h 0 rfl hs hj rfl (fun x hx => ?_) fun w' hw => hk w' ?_
  · simp at hx; rcases hx with rfl | rfl
    · rfl
    · exact hu
  · have hset := cells3_set (us := lst n f) (i := j) (u := u) (by rw [lst_len]; exact hj)
    rw [show (#[Value.string u.1, u.2.1] : Array Value).toList = c3 u from rfl, hset, lst_set f u hj] at hw
    exact hw
theorem drewEv {w w' : World} (h : w' = w.drew) : Ev w.drew w' := by subst h; exact Ch.refl _ _
/-- What a comparison hands back. -/
def cmpN (a b : ByteArray) : Int := Lib.compareBytes a.data.toList b.data.toList
theorem Compare_any (a b : ByteArray) : Calls P n_strings_Compare #[.string a, .string b] w (fun e w' => e = .returned (.int .i64 (cmpN a b)) ∧ w' = w) :=
  of_strings_Compare (gCall_i0 (n := cmpN a b) (of_internal_bytealg_CompareString (gExt_i (by kernel_rfl) (Lib.run_compareString a b w) ⟨rfl, rfl⟩ (by kernel_rfl))) ⟨rfl, rfl⟩)
theorem byName_any (a b : ByteArray) (da db : Value) (ha : da.oneCell' = true) (hb : db.oneCell' = true) : Calls P n_names_byName #[.agg #[.string a, da], .agg #[.string b, db]] w (fun e w' => e = .returned (.int .i64 (cmpN a b)) ∧ Ev w w') :=
  of_names_byName (fBox (Fr.start w) fun a2 w1 f1 => fBox f1 fun b3 w2 f2 => gLoad_s (f2.cell 1 0 rfl rfl) (gLoad_s (f2.cell 0 0 rfl rfl) (gCall_i0 (Compare_any a b) ⟨rfl, f2.old⟩)))
abbrev byV : Value := .func (.func n_names_byName) #[] #[]
/-- byName, called through a value. -/
theorem gCmp {a b : ByteArray} {da db : Value} {K : Int → World → Prop} (ha : da.oneCell' = true) (hb : db.oneCell' = true) (hk : ∀ w', Ev w w' → K (cmpN a b) w') : gCallV P byV (shI .i64) #[.agg #[.string a, da], .agg #[.string b, db]] w K :=
  ⟨_, _, _, rfl, by kernel_rfl, gCall_i (byName_any a b da db ha hb) hk⟩
theorem cmpN_lt (a b : ByteArray) : decide (cmpN a b < 0) = nlt a b := ncmp_lt a b
/-- Two are exchanged, as it stands in the text: x[i], x[j] = x[j], x[i], where j is read first. -/
theorem gSwap {i j : Int} {K : World → Prop} (h : Fr w0 w (fIt e v n f :: G)) (ho : Ok1 f) (p q : Nat) (hip : i = (p : Int)) (hjq : j = (q : Int)) (hp : p < n) (hq : q < n) (hk : ∀ w', Fr w0 w' (fIt e v n (swp f p q) :: G) → K w') :
    ∃ B C : World → Prop, (B w.drew ∧ C w.drew) ∧ gIdx P t_sl_api_Entry v (.int .i64 j) fun ad1 => gLoadB P t_api_Entry (.part (.agg [.str, .val])) (.pointer (some ad1)) C fun s1 d1 => gIdx P t_sl_api_Entry v (.int .i64 i) fun ad2 => gLoadB P t_api_Entry (.part (.agg [.str, .val])) (.pointer (some ad2)) C fun s2 d2 =>
      gIdx P t_sl_api_Entry v (.int .i64 i) fun ad3 => gStore P t_api_Entry (.pointer (some ad3)) (.agg #[.string s1, d1]) w.drew fun w2 => B w2 ∧ gIdx P t_sl_api_Entry v (.int .i64 j) fun ad4 => gStore P t_api_Entry (.pointer (some ad4)) (.agg #[.string s2, d2]) w2 fun w3 => B w3 ∧ K w3 := by
  have hd := h.drew
  refine ⟨fun _ => True, fun w' => w' = w.drew, ⟨trivial, rfl⟩, fIdxLdB hd q hjq hq (fun _ => drewEv) (fIdxLdB hd p hip hp (fun _ => drewEv) (fIdxSt hd p (f q) hip hp (ho q) fun w2 h2 => ⟨trivial, fIdxSt h2 q (f p) hjq hq (ho p) fun w3 h3 => ⟨trivial, hk w3 ?_⟩⟩))⟩
  rw [put1_swp] at h3; exact h3
theorem Ok1.sw (ho : Ok1 f) (i j : Nat) : Ok1 (swp f i j) := fun k => by unfold Go.Proofs.YtiimlfgjnapgjaaGreatDoorV.swp; split; exact ho _; split; exact ho _; exact ho _
theorem swapRange_any (hv : Fr w0 w (fIt e v n f :: G)) (ho : Ok1 f) (a b m : Nat) (cv : Value) (h1 : a + m ≤ b) (h2 : b + m ≤ n) (hn : n ≤ 1000000000000) :
    Calls P n_slices_swapRangeCmpFunc_api_Entry #[v, .int .i64 a, .int .i64 b, .int .i64 m, cv] w (fun e' w' => e' = .returned (.tuple #[]) ∧ Fr w0 w' (fIt e v n (swR a b m f) :: G)) := by
  refine of_slices_swapRangeCmpFunc_api_Entry ⟨fun i w' => ∃ j : Nat, i = (j : Int) ∧ j ≤ m ∧ Ok1 (swR a b j f) ∧ Fr w0 w' (fIt e v n (swR a b j f) :: G), fun i _ => m - i.toNat, ⟨0, rfl, Nat.zero_le _, by rw [swR_zero]; exact ho, by rw [swR_zero]; exact hv⟩, ?_⟩
  rintro _ i w1 ⟨j, rfl, hj, ho1, g1⟩
  refine gIf_dec (fun hlt => ?_) (fun hge => ?_)
  · have hlt' : j < m := by omega
    refine gSwap g1 ho1 (a + j) (b + j) (by rw [i64_id (by omega) (by omega)]; omega) (by rw [i64_id (by omega) (by omega)]; omega) (by omega) (by omega) fun w2 g2 => ?_
    rw [swR_step a b j f (by omega)] at g2
    refine ⟨⟨j + 1, by rw [i64_id (by omega) (by omega)]; omega, by omega, ?_, g2⟩, by dsimp only; rw [i64_id (by omega) (by omega)]; omega⟩
    rw [← swR_step a b j f (by omega)]; exact ho1.sw _ _
  · obtain rfl : j = m := by omega
    exact ⟨rfl, g1⟩
theorem swR_ok (ho : Ok1 f) (a b m : Nat) : Ok1 (swR a b m f) := fun k => by unfold swR; split; exact ho _; split; exact ho _; exact ho _
theorem rotate_any (hv : Fr w0 w (fIt e v n f :: G)) (ho : Ok1 f) (a m b : Nat) (cv : Value) (h1 : a < m) (h2 : m < b) (h3 : b ≤ n) (hn : n ≤ 1000000000000) :
    Calls P n_slices_rotateCmpFunc_api_Entry #[v, .int .i64 a, .int .i64 m, .int .i64 b, cv] w (fun e' w' => e' = .returned (.tuple #[]) ∧ Fr w0 w' (fIt e v n (rot a m b f) :: G)) := by
  refine of_slices_rotateCmpFunc_api_Entry ⟨fun i j w' => ∃ (p q : Nat) (g : Nat → E3), i = (p : Int) ∧ j = (q : Int) ∧ 0 < p ∧ 0 < q ∧ a + p ≤ m ∧ m + q ≤ b ∧ Ok1 g ∧ rot (m - p) m (m + q) g = rot a m b f ∧ Fr w0 w' (fIt e v n g :: G), fun i j _ => (i + j).toNat, ?_, ?_⟩
  · refine ⟨m - a, b - m, f, by rw [i64_id (by omega) (by omega)]; omega, by rw [i64_id (by omega) (by omega)]; omega, by omega, by omega, by omega, by omega, ho, ?_, hv⟩
    rw [show m - (m - a) = a by omega, show m + (b - m) = b by omega]
  rintro _ i j w1 ⟨p, q, g, rfl, rfl, hp, hq, hp1, hq1, hg, hr, g1⟩
  refine gIf_neq (fun hne => gIf_dec (fun hgt => ?_) (fun hle => ?_)) (fun heq => ?_)
  · rw [i64_id (n := (m : Int) - p) (by omega) (by omega), show ((m : Int) - p) = ((m - p : Nat) : Int) by omega]
    refine gCall_u (swapRange_any g1 hg (m - p) m q cv (by omega) (by omega) hn) fun w2 g2 => ?_
    rw [i64_id (n := (p : Int) - q) (by omega) (by omega)]
    refine ⟨⟨p - q, q, _, by omega, rfl, by omega, hq, by omega, hq1, swR_ok hg _ _ _, ?_, g2⟩, by dsimp only; omega⟩
    rw [rot_gt m p q g (by omega) (by omega)]; exact hr
  · have hlt : p < q := by omega
    rw [i64_id (n := (m : Int) - p) (by omega) (by omega), i64_id (n := (m : Int) + q) (by omega) (by omega), i64_id (n := (m : Int) + q - p) (by omega) (by omega), show ((m : Int) - p) = ((m - p : Nat) : Int) by omega, show ((m : Int) + q - p) = ((m + q - p : Nat) : Int) by omega]
    refine gCall_u (swapRange_any g1 hg (m - p) (m + q - p) p cv (by omega) (by omega) hn) fun w2 g2 => ?_
    rw [i64_id (n := (q : Int) - p) (by omega) (by omega)]
    refine ⟨⟨p, q - p, _, rfl, by omega, hp, by omega, hp1, by omega, swR_ok hg _ _ _, ?_, g2⟩, by dsimp only; omega⟩
    rw [rot_le m p q g (by omega) hlt]; exact hr
  · obtain rfl : p = q := by omega
    rw [i64_id (n := (m : Int) - p) (by omega) (by omega), show ((m : Int) - p) = ((m - p : Nat) : Int) by omega]
    refine gCall_u (swapRange_any g1 hg (m - p) m p cv (by omega) (by omega) hn) fun w2 g2 => ⟨rfl, ?_⟩
    rw [rot_eq m p g (by omega), hr] at g2
    exact g2
end
end Go.Proofs.YtiimlfgjnapgjaaGreatDoorV
