import Derived.Lib.Bytealg
import Derived.Maps.Own
import Derived.Maps.Views
import Derived.Maps.Range
import Derived.Carry
import Derived.StringKeys
import Derived.Ground.SlsfProg
import Derived.Ground.GgzProg
import Derived.Shelf.SlSortCmp.NoneTotal
import Derived.Shelf.SlIter.Stops
import Derived.Test.YtijimpchglmkhaaProg
import Derived.Test.YtijimpchglmkhaaVPart6
set_option linter.unusedVariables false
set_option linter.unusedSimpArgs false
/- Rows of things of several cells each, owned: append, store, load, make, part. -/
namespace Go.Proofs.YtijimpchglmkhaaV
open Go Go.RowKit
section
variable {P : Program} {w0 w : World} {F : List It}
theorem Sl.of_ownS {B n sz : Nat} {e : TypeId} {v : Value} {cs : List Value} (h : w.ownsRow B e sz v n cs) : Sl w sz v n cs := by
  obtain ⟨h1, h2⟩ := h
  rcases h2 with ⟨rfl, h0⟩ | ⟨g, cap, cur, rfl, hb, hg, hn, hm, hs, ht⟩
  · exact ⟨none, 0, by rw [h0], by omega, h1, (fun _ h => by cases h), fun _ => h0⟩
  · refine ⟨some ⟨g, 0, none⟩, cap, rfl, hn, h1, fun ad ha j u hj => ?_, fun h => by cases h⟩
    injection ha with ha; subst ha
    exact World.ownsRow.cells ⟨h1, .inr ⟨g, cap, cur, rfl, hb, hg, hn, hm, hs, ht⟩⟩ (g := g) rfl j u hj
theorem ownsRow_chS {S : SS} {w w' : World} {e : TypeId} {B n sz : Nat} {v : Value} {cs : List Value} (h : w.ownsRow B e sz v n cs) (hc : Ch S w w') (hs : ∀ g i, v.ownBlock = some g → ¬ S g i) : w'.ownsRow B e sz v n cs := by
  refine ⟨h.1, ?_⟩
  rcases h.2 with hn | ⟨g, cap, cur, rfl, hb, hg, r⟩
  · exact .inl hn
  · exact .inr ⟨g, cap, cur, rfl, hb, by rw [hc.blk g (hlt hg) (fun i => hs g i rfl)]; exact hg, r⟩
/-- A row of n things of sz cells each. -/
def rIt (e : TypeId) (sz : Nat) (v : Value) (n : Nat) (cs : List Value) : It := ⟨fun b => v.ownBlock = some b, fun w => w.ownsRow 0 e sz v n cs, fun w k h hk => by
    rcases h.2 with ⟨rfl, _⟩ | ⟨g', cap, cur, rfl, hb, hh, r⟩
    · cases hk
    · simp [Value.ownBlock] at hk; subst hk; exact ⟨_, _, _, hh⟩, fun _ _ _ h hc hs => ownsRow_chS h hc hs, fun w w' h _ hc => by
    refine ⟨h.1, ?_⟩
    rcases h.2 with hn | ⟨g, cap, cur, rfl, hb, hg, r⟩
    · exact .inl hn
    · exact .inr ⟨g, cap, cur, rfl, hb, by rw [hc _ _ _ _ hg]; exact hg, r⟩⟩
theorem Fr.row {e : TypeId} {sz n : Nat} {v : Value} {cs : List Value} (h : Fr w0 w F) (i : Nat) (hi : F[i]? = some (rIt e sz v n cs)) : Sl w sz v n cs := Sl.of_ownS (h.get i hi)
theorem Fr.nilR (h : Fr w0 w F) (e : TypeId) (sz : Nat) : Fr w0 w (rIt e sz (.slice none 0 0) 0 [] :: F) :=
  h.new (Ch.refl _ w) (World.ownsRow_nil w 0 e sz) fun _ hk => by cases hk
theorem rIt_low {e : TypeId} {sz n B : Nat} {v : Value} {cs : List Value} (h : w.ownsRow B e sz v n cs) : w.ownsRow 0 e sz v n cs := by
  refine ⟨h.1, ?_⟩
  rcases h.2 with hh | ⟨g, cap, cur, e1, hb, r⟩
  · exact .inl hh
  · exact .inr ⟨g, cap, cur, e1, Nat.zero_le _, r⟩
def slRow (P : Program) (t : TypeId) (sz by' : Nat) : Bool := match P.underlying t with
  | some (.slice e) => match P.info? e with
    | some i => Nat.beq i.size sz && Nat.ble i.bytes by' && (match i.zero with | some z => Nat.beq z.cells.size sz | none => false)
    | none => false
  | _ => false
theorem slRow_ok {t : TypeId} {sz b : Nat} (h : slRow P t sz b = true) : P.underlying t = some (.slice (elOf P t)) ∧ ∃ i z, P.info? (elOf P t) = some i ∧ i.zero = some z ∧ i.size = sz ∧ z.cells.size = sz ∧ i.bytes ≤ b := by
  unfold slRow at h
  split at h
  · rename_i e hu
    have he : elOf P t = e := by unfold elOf; rw [hu]
    rw [he]
    split at h
    · rename_i i hi
      simp only [Bool.and_eq_true] at h
      obtain ⟨⟨h1, h2⟩, h3⟩ := h
      split at h3
      · rename_i z hz
        exact ⟨hu, i, z, hi, hz, Nat.eq_of_beq_eq_true h1, Nat.eq_of_beq_eq_true h3, Nat.le_of_ble_eq_true h2⟩
      · cases h3
    · cases h
  · cases h
theorem run_append_ownS (t ty : TypeId) {e : TypeId} {i : TypeInfo} {z : Value} {sz : Nat} (ht : P.underlying t = some (.slice e)) (hi : P.info? e = some i) (hz : i.zero = some z) (hsize : i.size = sz) (hzs : z.cells.size = sz) (hsz : 0 < sz)
    {B : Nat} {v : Value} {n : Nat} {xs : List Value} (hown : w.ownsRow B e sz v n xs) {y : Value} {m : Nat} {news : List Value} (hy : Sl w sz y m news) (h1 : ∀ u ∈ news, u.oneCell' = true)
    (hb : (n + m) * i.bytes ≤ 140737488355328) (h63 : n + m ≤ maxLen) (hbase : B ≤ w.heap.size) :
    ∃ v' w', (Builtin.append_ #[t, t] ty #[v, y]).run P w = .ok v' w' ∧ w'.ownsRow B e sz v' (n + m) (xs ++ news) ∧ Ch (Ob v) w w' ∧ Moved w v v' := by
  obtain ⟨a, c, rfl, hnc, hl, hcells, hnil⟩ := hy
  have hcl : ∀ k, v.ownBlock = some k → ∃ c e f, w.heap[k]? = some (.cells c e f) := fun k hk => by
    rcases hown.2 with ⟨rfl, _⟩ | ⟨g, cap, cur, rfl, _, hg, _⟩
    · cases hk
    · simp [Value.ownBlock] at hk; subst hk; exact ⟨_, _, _, hg⟩
  have ofg : ∀ {w' : World}, w.grownBy w' v.ownBlock → (∀ k c e f, v.ownBlock = some k → w.heap[k]? = some (.cells c e f) → ∃ c', w'.heap[k]? = some (.cells c' e f) ∧ c'.size = c.size) → Ch (Ob v) w w' := fun {w'} hg hsh => by
    refine ⟨hg.os, hg.tape, hg.output, hg.size, fun k hk hn => hg.block k hk fun e => hn 0 e.symm, fun k c e f hc => ?_, fun k o hk ho => by
      rw [hg.block k (hlt hk) (fun e => by obtain ⟨c, e2, f, hc⟩ := hcl k e.symm; exact ne_cells hc hk ho rfl)]; exact hk⟩
    by_cases hk : v.ownBlock = some k
    · obtain ⟨c', h1, h2⟩ := hsh k c e f hk hc
      exact ⟨c', h1, h2, fun i hi => absurd hk hi⟩
    · exact ⟨c, by rw [hg.block k (hlt hc) (fun e => hk e.symm)]; exact hc, rfl, fun _ _ => rfl⟩
  have nil0 : ∀ {l : List Value}, l.length = 0 * sz → l = [] := fun h => List.eq_nil_of_length_eq_zero (by rw [h, Nat.zero_mul])
  cases a with
  | none =>
    have hm := hnil rfl
    subst hm
    have hn0 : news = [] := nil0 hl
    subst hn0
    refine ⟨v, w, ?_, by simpa using hown, Ch.refl _ w, .inl rfl⟩
    rcases hown.2 with ⟨rfl, rfl⟩ | ⟨g, cap, cur, rfl, hbg, hg, hn, hm, hcs, htk⟩
    · simp [Builtin.append_, run_underlying ht, sizeOf, typeInfo, hi, Builtin.lenOf, Builtin.firstCells]
    · simp [Builtin.append_, run_underlying ht, sizeOf, typeInfo, hi, Builtin.lenOf, Builtin.firstCells, hn, storeCells]
  | some ad =>
    obtain ⟨v', w', hr, ho, hg, _⟩ := run_append_own (P := P) w B t ty e i z sz i.bytes ht hi hz hsize rfl hzs hsz v n xs hown ad m c news hl (hcells ad rfl) h1 h63 hb hbase
    refine ⟨v', w', hr, ho, ?_⟩
    rcases hown.2 with ⟨rfl, rfl⟩ | ⟨g, cap, cur, rfl, hbg, hgg, hn, hm', hcs, htk⟩
    · by_cases hm0 : m = 0
      · subst hm0
        have hn0 : news = [] := nil0 hl
        subst hn0
        have hr2 : (Builtin.append_ #[t, t] ty #[.slice none 0 0, .slice (some ad) 0 c]).run P w = .ok (.slice none 0 0) w := by
          simp [Builtin.append_, run_underlying ht, sizeOf, typeInfo, hi, Builtin.lenOf, Builtin.firstCells, loadCells, loadCellsFrom]
        rw [hr2] at hr; injection hr with e1 e2; subst e1; subst e2
        exact ⟨Ch.refl _ w, .inl rfl⟩
      · have hr2 := run_append_nil (P := P) w t ty e i z ht hi hz ad m c news (by rw [hsize]; exact hl) (hcells ad rfl) (by omega) (by unfold maxLen at h63; omega) (by simp only [Nat.zero_add] at hb; omega)
        rw [hr2] at hr; injection hr with e1 e2; subst e1
        refine ⟨ofg hg (fun k c e f hk => by cases hk), .inr fun g hg' => ?_⟩
        simp [Value.ownBlock] at hg'; omega
    · by_cases hroom : n + m ≤ cap
      · have hfit : n * i.size + news.length ≤ cur.size := by rw [hl, hsize, hcs, ← Nat.add_mul]; exact Nat.mul_le_mul_right _ hroom
        have hr2 := run_append_room (P := P) w t ty e i ht hi g n cap cur hgg ad m c news (by rw [hsize]; exact hl) (hcells ad rfl) h1 hroom hfit
        rw [hr2] at hr; injection hr with e1 e2; subst e1; subst e2
        refine ⟨ofg hg (fun k c' e' f hk hc => ?_), .inl rfl⟩
        simp [Value.ownBlock] at hk; subst hk
        rw [hgg] at hc; injection hc with hc; injection hc with hc1 hc2 hc3
        subst hc1; subst hc2; subst hc3
        refine ⟨_, setRow_heap w g cur _ e _ hgg, ?_⟩
        simp; omega
      · have holds : ∀ j u, xs[j]? = some u → w.cell? ((⟨g, 0, none⟩ : Addr).add j) = some u := hown.cells (g := g) rfl
        have hr2 := run_append_grow (P := P) w t ty e i z ht hi hz ⟨g, 0, none⟩ n cap xs (by rw [hsize]; exact hown.1) holds ad m c news (by rw [hsize]; exact hl) (hcells ad rfl) (by omega) (by unfold maxLen at h63; omega) (growslice_fits (by omega) hb)
        rw [hr2] at hr; injection hr with e1 e2; subst e1
        have he2 := e2
        refine ⟨ofg hg (fun k c' e' f hk hc => ⟨c', ?_, rfl⟩), .inr fun g' hg' => ?_⟩
        · rw [← he2]
          show (w.heap.push _)[k]? = _
          rw [Array.getElem?_push, if_neg (by have := hlt hc; omega)]; exact hc
        · simp [Value.ownBlock] at hg'; omega
/-- Appending to a row of one's own. -/
theorem fAppR {t ty : TypeId} {sz n m : Nat} {v y : Value} {cs ds : List Value} {K : Value → World → Prop} (b : Nat) (h : Fr w0 w F) (i : Nat) (hi : F[i]? = some (rIt (elOf P t) sz v n cs)) (hy : Sl w sz y m ds) (h1 : ∀ u ∈ ds, u.oneCell' = true) (hb : (n + m) * b ≤ 140737488355328) (hm : n + m ≤ maxLen)
    (hk : ∀ v' w', Fr w0 w' (F.set i (rIt (elOf P t) sz v' (n + m) (cs ++ ds))) → K v' w') (ht : slRow P t sz b = true := by kernel_rfl) (hsz : 0 < sz := by decide) : gApp P #[t, t] ty #[v, y] w K := by
  obtain ⟨hu, ii, z, hii, hz, hs, hzs, hbb⟩ := slRow_ok ht
  obtain ⟨v', w', hr, ho, hc, hmv⟩ := run_append_ownS (P := P) t ty hu hii hz hs hzs hsz (h.get i hi) hy h1 (Nat.le_trans (Nat.mul_le_mul_left _ hbb) hb) hm (Nat.zero_le _)
  refine ⟨v', w', hr, hk v' w' (h.upd i hi hc (fun k _ hh => .inl hh) ho fun k hk => ?_)⟩
  rcases hmv with hmv | hmv
  · have hk : v'.ownBlock = some k := hk
    rw [hmv] at hk; exact .inl hk
  · exact .inr (hmv k hk)
/-- Appending to nothing. -/
theorem fAppR0 {t ty : TypeId} {sz m : Nat} {y : Value} {ds : List Value} {K : Value → World → Prop} (b : Nat) (h : Fr w0 w F) (hy : Sl w sz y m ds) (h1 : ∀ u ∈ ds, u.oneCell' = true) (hb : m * b ≤ 140737488355328) (hm : m ≤ maxLen)
    (hk : ∀ v' w', Fr w0 w' (rIt (elOf P t) sz v' m ds :: F) → K v' w') (ht : slRow P t sz b = true := by kernel_rfl) (hsz : 0 < sz := by decide) : gApp P #[t, t] ty #[.slice none 0 0, y] w K :=
  fAppR b (h.nilR (elOf P t) sz) 0 rfl hy h1 (by rw [Nat.zero_add]; exact hb) (by rw [Nat.zero_add]; exact hm) (fun v' w' f => by
    rw [Nat.zero_add, List.nil_append] at f; exact hk v' w' f) ht hsz
/-- make of a row. -/
theorem fMakeR {t : TypeId} {n sz : Nat} {K : Value → World → Prop} (b : Nat) (z : Value) (h : Fr w0 w F) (hn : b * n ≤ 281474976710656) (hm : n ≤ maxLen)
    (hk : ∀ v w', Fr w0 w' (rIt (elOf P t) sz v n (madeCells z.cells (n * sz)).toList :: F) → K v w') (hz : (P.info? (elOf P t)).bind (·.zero) = some z) (ht : slRow P t sz b = true := by kernel_rfl) : gMake P t (.int .i64 (n : Int)) (.int .i64 (n : Int)) w K := by
  obtain ⟨hu, ii, z', hii, hz', hs, hzs, hbb⟩ := slRow_ok ht
  rw [hii] at hz
  simp only [Option.bind_some] at hz
  rw [hz] at hz'; injection hz' with hz'; subst hz'
  obtain ⟨w', hr, ho, hg⟩ := run_make_full (P := P) w w.heap.size t (elOf P t) ii z sz hu hii hz hs .i64 .i64 n (Nat.le_trans (Nat.mul_le_mul_right _ hbb) hn) hm (Nat.le_refl _)
  refine ⟨_, w', hr, hk _ w' (h.new ?_ (rIt_low ho) fun k hk => (ho.lt k hk).1)⟩
  exact ⟨hg.os, hg.tape, hg.output, hg.size, fun k hk _ => hg.block k hk (by simp), fun k c e f hc => ⟨c, by rw [hg.block k (hlt hc) (by simp)]; exact hc, rfl, fun _ _ => rfl⟩, fun k o hk _ => by rw [hg.block k (hlt hk) (by simp)]; exact hk⟩
/-- Where the j-th of a row stands. -/
def SltR (v : Value) (j sz : Nat) (ad : Addr) : Prop := ∃ g n c, v = .slice (some ⟨g, 0, none⟩) n c ∧ ad = ⟨g, j * sz, none⟩
theorem gIdx_r {t e : TypeId} {ki : IntKind} {B sz n j : Nat} {v : Value} {cs : List Value} {i : Int} {K : Addr → Prop} (h : w.ownsRow B e sz v n cs) (hij : i = (j : Int)) (h1 : j < n) (hk : ∀ ad, SltR v j sz ad → K ad) (ht : slSz P t sz = true := by kernel_rfl) : gIdx P t v (.int ki i) K := by
  obtain ⟨hu, ii, hi, hsz⟩ := slSz_ok ht
  subst hij
  rcases h.2 with ⟨rfl, hn⟩ | ⟨g, cap, cur, rfl, hb, hg, hn, hm, hs, htk⟩
  · omega
  · refine ⟨⟨g, j * sz, none⟩, fun w => ?_, hk _ ⟨g, _, _, rfl, rfl⟩⟩
    simp only [Instr.indexAt, asIntOf, Sem.run_bind, Sem.run_pure, Result.andThen_ok, run_underlying hu]
    rw [if_pos ⟨by omega, by omega⟩]
    simp [sizeOf, typeInfo, hi, hsz, Addr.add_lit]
theorem SltR.cell {e : TypeId} {B sz n j q : Nat} {v u : Value} {cs : List Value} {ad : Addr} (h : w.ownsRow B e sz v n cs) (hs : SltR v j sz ad) (hu : cs[j * sz + q]? = some u) : w.cell? (ad.add q) = some u := by
  obtain ⟨g, n', c, rfl, rfl⟩ := hs
  have := h.cells (g := g) rfl (j * sz + q) u hu
  rw [Addr.add_lit, Nat.zero_add] at this
  rw [Addr.add_lit]; exact this
/-- A thing of a row is another one. -/
theorem fStoreR {t e : TypeId} {sz n j : Nat} {v : Value} {cs : List Value} {ad : Addr} {ds : Array Value} {K : World → Prop} (h : Fr w0 w F) (i : Nat) (hi : F[i]? = some (rIt e sz v n cs)) (hs : SltR v j sz ad) (hj : j < n) (hd : ds.size = sz) (h1 : ∀ u ∈ ds.toList, u.oneCell' = true)
    (hk : ∀ w', Fr w0 w' (F.set i (rIt e sz v n (cs.take (j * sz) ++ ds.toList ++ cs.drop (j * sz + sz)))) → K w') (ht : sizeIs P t sz = true := by kernel_rfl) : gStore P t (.pointer (some ad)) (.agg ds) w K := by
  have ho : w.ownsRow 0 e sz v n cs := h.get i hi
  obtain ⟨g, n', c, rfl, rfl⟩ := hs
  have hle : (j + 1) * sz ≤ n * sz := Nat.mul_le_mul_right _ hj
  rw [Nat.add_mul, Nat.one_mul] at hle
  rcases ho.2 with ⟨hn, _⟩ | ⟨g', cap, cur, hv, hb, hg, hn, hm, hcs, htk⟩
  · simp at hn
  simp only [Value.slice.injEq, Option.some.injEq, Addr.mk.injEq, and_true] at hv
  obtain ⟨rfl, rfl, rfl⟩ := hv
  have hlen : cs.length = n' * sz := ho.1
  have hst : St w ⟨g, 0, none⟩ cs := ⟨rfl, cur, e, hg, fun q u hq => by
    rw [← htk, List.getElem?_take] at hq
    dsimp only; rw [Nat.zero_add]
    split at hq
    · rw [Array.getElem?_toList] at hq; exact hq
    · cases hq⟩
  have hadd : (⟨g, j * sz, none⟩ : Addr) = (⟨g, 0, none⟩ : Addr).add (j * sz) := by rw [Addr.add_lit, Nat.zero_add]
  rw [hadd]
  refine gStore_agg hst (by rw [hd, hlen]; omega) h1 (fun w' hc _ hS => hk w' (h.upd i hi hc (fun k _ hh => .inl ?_) ?_ fun k hk => .inl hk)) (by rw [hd]; exact ht)
  · have h2 := hh.1
    rw [Addr.add_lit] at h2
    show some g = some k
    rw [h2]
  · rw [hd] at hS
    obtain ⟨c', k1, k2, _⟩ := hc.cel _ _ _ _ hg
    refine ⟨?_, .inr ⟨g, c, c', rfl, Nat.zero_le _, k1, hn, hm, by rw [k2]; exact hcs, ?_⟩⟩
    · simp only [List.length_append, List.length_take, List.length_drop, Array.length_toList, hd, hlen]; omega
    · obtain ⟨_, c2, e2, s1, s2⟩ := hS
      dsimp only at s1 s2
      rw [k1] at s1; injection s1 with s1; injection s1 with s1 _ _; subst s1
      refine List.ext_getElem? fun q => ?_
      rw [List.getElem?_take]
      have hl2 : (cs.take (j * sz) ++ ds.toList ++ cs.drop (j * sz + sz)).length = n' * sz := by simp only [List.length_append, List.length_take, List.length_drop, Array.length_toList, hd, hlen]; omega
      split
      · rename_i hq
        have hx := s2 q _ (List.getElem?_eq_getElem (by rw [hl2]; exact hq))
        rw [Nat.zero_add] at hx
        rw [Array.getElem?_toList, hx, List.getElem?_eq_getElem (by rw [hl2]; exact hq)]
      · rename_i hq
        rw [List.getElem?_eq_none (by rw [hl2]; omega)]
/-- The same where a thing is one cell. -/
theorem fStoreR1 {t e : TypeId} {n j : Nat} {v u : Value} {cs : List Value} {ad : Addr} {K : World → Prop} (h : Fr w0 w F) (i : Nat) (hi : F[i]? = some (rIt e 1 v n cs)) (hs : SltR v j 1 ad) (hj : j < n) (hu : u.oneCell' = true) (hcl : u.cells = #[u])
    (hk : ∀ w', Fr w0 w' (F.set i (rIt e 1 v n (cs.set j u))) → K w') (ht : flat1 P t = true := by kernel_rfl) : gStore P t (.pointer (some ad)) u w K := by
  have ho : w.ownsRow 0 e 1 v n cs := h.get i hi
  obtain ⟨g, n', c, rfl, rfl⟩ := hs
  rcases ho.2 with ⟨hn, _⟩ | ⟨g', cap, cur, hv, hb, hg, hn, hm, hcs, htk⟩
  · simp at hn
  simp only [Value.slice.injEq, Option.some.injEq, Addr.mk.injEq, and_true] at hv
  obtain ⟨rfl, rfl, rfl⟩ := hv
  have hlen : cs.length = n' * 1 := ho.1
  have hst : St w ⟨g, 0, none⟩ cs := ⟨rfl, cur, e, hg, fun q u hq => by
    rw [← htk, List.getElem?_take] at hq
    dsimp only; rw [Nat.zero_add]
    split at hq
    · rw [Array.getElem?_toList] at hq; exact hq
    · cases hq⟩
  have hadd : (⟨g, j * 1, none⟩ : Addr) = (⟨g, 0, none⟩ : Addr).add j := by rw [Addr.add_lit, Nat.zero_add, Nat.mul_one]
  rw [hadd]
  refine gStore_st hst (by rw [hlen]; omega) hu hcl (fun w' hc _ hS => hk w' (h.upd i hi hc (fun k _ hh => .inl ?_) ?_ fun k hk => .inl hk)) ht
  · have h2 := hh.1
    rw [Addr.add_lit] at h2
    show some g = some k
    rw [h2]
  · obtain ⟨c', k1, k2, _⟩ := hc.cel _ _ _ _ hg
    refine ⟨by rw [List.length_set]; exact hlen, .inr ⟨g, c, c', rfl, Nat.zero_le _, k1, hn, hm, by rw [k2]; exact hcs, ?_⟩⟩
    obtain ⟨_, c2, e2, s1, s2⟩ := hS
    dsimp only at s1 s2
    rw [k1] at s1; injection s1 with s1; injection s1 with s1 _ _; subst s1
    refine List.ext_getElem? fun q => ?_
    rw [List.getElem?_take]
    have hl2 : (cs.set j u).length = n' * 1 := by rw [List.length_set]; exact hlen
    split
    · rename_i hq
      have hx := s2 q _ (List.getElem?_eq_getElem (by rw [hl2]; exact hq))
      rw [Nat.zero_add] at hx
      rw [Array.getElem?_toList, hx, List.getElem?_eq_getElem (by rw [hl2]; exact hq)]
    · rename_i hq
      rw [List.getElem?_eq_none (by rw [hl2]; omega)]
/-- A load of a struct that comes to the same in every world that meets B. -/
theorem gLoadB_agg {t : TypeId} {cks : List Ck} {ad : Addr} {B : World → Prop} {K : TF cks Prop} (vs : List Value) (hc : ∀ w, B w → ∀ j u, vs[j]? = some u → w.cell? (ad.add j) = some u) (hk : tapp False cks K vs) (hl : vs.length = cks.length := by rfl) (ht : aggB P t vs.length = true := by kernel_rfl) : gLoadB P t (.part (.agg cks)) (.pointer (some ad)) B K :=
  (tex_of_tapp hk hl (p := fun vs => ∀ w, B w → (Instr.loadAt t (.pointer (some ad))).run P w = .ok (.agg vs.toArray) w) (fun w hB => run_loadAgg (hc w hB) ht))
/-- An empty literal. -/
theorem fLitR0 {t : TypeId} {sz : Nat} {parts : Array (Nat × Value)} {K : Value → World → Prop} (h : Fr w0 w F) (hp : parts = #[]) (hk : ∀ v w', Fr w0 w' (rIt (elOf P t) sz v 0 [] :: F) → K v w') (ht : slSz P t sz = true := by kernel_rfl) : gLit P t 0 parts w K := by
  obtain ⟨hu, i, hi, hsz⟩ := slSz_ok ht
  subst hp
  have hrun : (Instr.buildSlice t 0 #[]).run P w = .ok (.slice (some ⟨w.heap.size, 0, none⟩) 0 0) (w.alloc (.cells #[] (elOf P t))) := by
    simp only [Instr.buildSlice, Sem.run_bind, run_underlying hu, Result.andThen_ok, sizeOf, typeInfo, run_program, hi, Sem.run_pure, hsz]
    have he : ∀ f : Nat → Value, Array.map f (Array.range 0) = #[] := fun f => Array.eq_empty_of_size_eq_zero (by simp)
    simp [newRow, he, Instr.fill]
  have ho := World.ownsRow_lit (base := w.heap.size) (e := elOf P t) (size := sz) w #[] 0 (Nat.le_refl _) (by decide) (by simp)
  exact ⟨_, _, hrun, hk _ _ (h.new (jt := rIt (elOf P t) sz (.slice (some ⟨w.heap.size, 0, none⟩) 0 0) 0 []) (Ev.alloc w _) (rIt_low ho) fun k hk => (ho.lt k hk).1)⟩
/-- A slice held against nil. -/
theorem run_equal_snil {t e : TypeId} {a : Option Addr} {n c : Nat} (hu : P.underlying t = some (.slice e)) : (Op.equal t (.slice a n c) (.slice none 0 0)).run P w = .ok a.isNone w := by
  have hm : Op.maxDepth = 9999 + 1 := rfl
  unfold Op.equal
  rw [hm]
  generalize 9999 = d
  unfold Op.equalIn
  simp only [Sem.run_bind, run_underlying hu, Result.andThen_ok]
  cases a <;> rfl
theorem gEq_snil {t : TypeId} {a : Option Addr} {n c : Nat} {K : Bool → Prop} (hk : K a.isNone) (ht : (match P.underlying t with | some (.slice _) => true | _ => false) = true := by kernel_rfl) : gEq P .eql t (.slice a n c) (.slice none 0 0) K := by
  have hu : ∃ e, P.underlying t = some (.slice e) := by
    split at ht
    · rename_i e h; exact ⟨e, h⟩
    · cases ht
  obtain ⟨e, hu⟩ := hu
  refine ⟨a.isNone, fun cx cy w => ⟨by cases a <;> rfl, ?_⟩, hk⟩
  have hb : binOp .eql t (.slice a n c) (.slice none 0 0) = (do pure (.bool (← Op.equal t (.slice a n c) (.slice none 0 0)))) := by cases a <;> rfl
  rw [hb]; simp only [Sem.run_bind, run_equal_snil hu, Result.andThen_ok, Sem.run_pure]
end
end Go.Proofs.YtijimpchglmkhaaV

/- Strings: parts of them, Index, Contains, Count at one byte, Split. -/
namespace Go.Proofs.YtijimpchglmkhaaV
open Go Go.RowKit
def mkS (l : List UInt8) : ByteArray := ⟨l.toArray⟩
theorem mkS_data (l : List UInt8) : (mkS l).data.toList = l := by simp [mkS]
theorem mkS_self (s : ByteArray) : mkS s.data.toList = s := by obtain ⟨⟨l⟩⟩ := s; rfl
theorem mkS_size (l : List UInt8) : (mkS l).size = l.length := by show l.toArray.size = _; simp
theorem size_data (s : ByteArray) : s.data.toList.length = s.size := by obtain ⟨⟨l⟩⟩ := s; rfl
theorem mkS_eq (a b : List UInt8) : (mkS a = mkS b) ↔ a = b := ⟨fun h => by have := congrArg (fun s => s.data.toList) h; simpa [mkS] using this, fun h => by rw [h]⟩
theorem tl_mk (l : List UInt8) : (mkS l).toList = l := by rw [ByteArray.toList_eq]; simp [mkS]
theorem sOf_rd {s : ByteArray} {i : Nat} (h : i < s.data.toList.length) : rd (sOf s) (i : Int) = ((s.data.toList[i].toNat : Nat) : Int) := by
  rw [rd_nat _ i (by rw [sOf_len, ← size_data]; exact h)]
  simp [sOf]
theorem mkS_ext (l : List UInt8) (a b : Nat) : (mkS l).extract a b = mkS ((l.drop a).take (b - a)) := by
  have h : ((mkS l).extract a b).data.toList = (l.drop a).take (b - a) := by
    rw [ByteArray.data_extract, Array.toList_extract]
    simp [mkS, List.extract_eq_take_drop]
  rw [← h, mkS_self]
section
variable {P : Program} {w : World}
theorem gSliceS_mk {t : TypeId} {l : List UInt8} {lo hi : Option Value} {a b : Nat} {K : ByteArray → Prop} (hlo : (lo = none ∧ a = 0) ∨ (∃ k, lo = some (.int k a))) (hhi : (hi = none ∧ b = l.length) ∨ (∃ k, hi = some (.int k b))) (hl : a ≤ b) (hh : b ≤ l.length)
    (hk : K (mkS ((l.drop a).take (b - a)))) (ht : strB P t = true := by kernel_rfl) : gSliceS P t (.string (mkS l)) lo hi none K := by
  have hu := strB_ok ht
  refine ⟨mkS ((l.drop a).take (b - a)), fun w => ?_, hk⟩
  have hb : (Instr.sliceBounds false (mkS l).size (mkS l).size lo hi none).run P w = .ok (a, b, (mkS l).size) w := by
    rw [mkS_size]
    simp only [Instr.sliceBounds, Sem.run_bind, Sem.run_pure, Result.andThen_ok]
    rcases hhi with ⟨rfl, rfl⟩ | ⟨k, rfl⟩ <;> rcases hlo with ⟨rfl, rfl⟩ | ⟨k', rfl⟩ <;>
      simp [Instr.sliceBound, asIntOf, hl, hh]
  simp only [Instr.sliceAt, Sem.run_bind, run_underlying hu, Result.andThen_ok, Instr.slice, hb, Sem.run_pure, Option.isSome_none, Bool.false_eq_true, if_false]
  rw [mkS_ext]; rfl
end
/-- A slice of strings. -/
def Ss (w : World) (v : Value) (ss : List ByteArray) : Prop := Sl w 1 v ss.length (ss.map .string)
theorem Ss.ev {w w' : World} {v : Value} {ss : List ByteArray} (h : Ss w v ss) (he : Ev w w') : Ss w' v ss := Sl.ev h he
section
variable {w : World}
theorem eq_single {l : List UInt8} {c : UInt8} (h : (mkS [c]).toList == (mkS l).toList) : l = [c] := by
  rw [tl_mk, tl_mk] at h; exact (beq_iff_eq.1 h).symm
end
end Go.Proofs.YtijimpchglmkhaaV

/- Rows that are owned: parts of them, room behind them, copies into them, cleared parts. -/
namespace Go.Proofs.YtijimpchglmkhaaV
open Go Go.RowKit
/-- An owned row's block, with room for c things. -/
abbrev rowV (g n c : Nat) : Value := .slice (some ⟨g, 0, none⟩) n c
section
variable {P : Program} {w0 w : World} {F : List It} {e : TypeId} {sz g n c : Nat} {cs : List Value}
theorem row_block (h : w.ownsRow 0 e sz (rowV g n c) n cs) : ∃ cur, w.heap[g]? = some (.cells cur e (0, 0)) ∧ n ≤ c ∧ c ≤ maxLen ∧ cur.size = c * sz ∧ cur.toList.take (n * sz) = cs ∧ cs.length = n * sz := by
  rcases h.2 with ⟨hn, _⟩ | ⟨g', cap, cur, hv, hb, hg, hn, hm, hcs, htk⟩
  · simp at hn
  · simp only [Value.slice.injEq, Option.some.injEq, Addr.mk.injEq, and_true, true_and] at hv
    obtain ⟨rfl, rfl⟩ := hv
    exact ⟨cur, hg, hn, hm, hcs, htk, h.1⟩
theorem row_of {cur : Array Value} (hg : w.heap[g]? = some (.cells cur e (0, 0))) (hn : n ≤ c) (hm : c ≤ maxLen) (hs : cur.size = c * sz) (ht : cur.toList.take (n * sz) = cs) : w.ownsRow 0 e sz (rowV g n c) n cs := by
  refine ⟨?_, .inr ⟨g, c, cur, rfl, Nat.zero_le _, hg, hn, hm, hs, ht⟩⟩
  rw [← ht, List.length_take, Array.length_toList, hs]
  exact Nat.min_eq_left (Nat.mul_le_mul_right _ hn)
/-- A row that is nil, or has a block. -/
theorem row_cases {v : Value} (h : w.ownsRow 0 e sz v n cs) : (v = .slice none 0 0 ∧ n = 0) ∨ ∃ g c, v = rowV g n c := by
  rcases h.2 with h | ⟨g, cap, _, hv, _⟩
  · exact .inl h
  · exact .inr ⟨g, cap, hv⟩
/-- Less of a row. -/
theorem fPrefix (h : Fr w0 w (rIt e sz (rowV g n c) n cs :: F)) (i : Nat) (hi : i ≤ n) : Fr w0 w (rIt e sz (rowV g i c) i (cs.take (i * sz)) :: F) := by
  obtain ⟨cur, hg, hn, hm, hs, ht, hl⟩ := row_block h.1
  exact ⟨row_of hg (by omega) hm hs (by rw [← ht, List.take_take, Nat.min_eq_left (Nat.mul_le_mul_right _ hi)]), h.2.1, h.2.2.1, h.2.2.2⟩
/-- More of it: what stands there nobody knows. -/
theorem fWiden (h : Fr w0 w (rIt e sz (rowV g n c) n cs :: F)) (m : Nat) (hi : n ≤ m) (hmc : m ≤ c) : ∃ zs, zs.length = (m - n) * sz ∧ Fr w0 w (rIt e sz (rowV g m c) m (cs ++ zs) :: F) := by
  obtain ⟨cur, hg, hn, hm, hs, ht, hl⟩ := row_block h.1
  have hle : n * sz ≤ m * sz := Nat.mul_le_mul_right _ hi
  have hle2 : m * sz ≤ c * sz := Nat.mul_le_mul_right _ hmc
  refine ⟨(cur.toList.take (m * sz)).drop (n * sz), ?_, row_of hg hmc hm hs ?_, h.2.1, h.2.2.1, h.2.2.2⟩
  · rw [List.length_drop, List.length_take, Array.length_toList, hs, Nat.min_eq_left hle2, Nat.sub_mul]
  · rw [← ht]
    have := (List.take_append_drop (n * sz) (cur.toList.take (m * sz))).symm
    rw [List.take_take, Nat.min_eq_left hle] at this
    exact this
theorem subV_row (sz g n c l h : Nat) : subV sz (rowV g n c) l h = .slice (if c = l then some ⟨g, 0, none⟩ else some ⟨g, l * sz, none⟩) (h - l) (c - l) := by
  show Value.slice (if c = l then some ⟨g, 0, none⟩ else Option.map (fun x : Addr => x.add (l * sz)) (some ⟨g, 0, none⟩)) (h - l) (c - l) = _
  rw [Option.map_some, Addr.add_lit, Nat.zero_add]
theorem run_copy_rowS (w : World) (dT sT ty elem : TypeId) (sz g o dLen dCap : Nat) (a : Addr) (sLen sCap : Nat) (cur : Array Value) (t : TypeId) (cs : List Value)
    (hu : P.underlying dT = some (.slice elem)) (hs : (P.info? elem).map (·.size) = some sz)
    (hg : w.heap[g]? = some (.cells cur t (0, 0))) (hn : cs.length = Nat.min sLen dLen * sz)
    (hsrc : ∀ j v, cs[j]? = some v → w.cell? (a.add j) = some v) (hfit : o + cs.length ≤ cur.size) (h1 : ∀ v ∈ cs, v.oneCell' = true) :
    (Builtin.copy_ #[dT, sT] ty #[.slice (some ⟨g, o, none⟩) dLen dCap, .slice (some a) sLen sCap]).run P w =
      .ok (goInt (Nat.min sLen dLen)) (w.setRow g (cur.toList.take o ++ cs ++ cur.toList.drop (o + cs.length)).toArray) := by
  have hl := run_loadCells_list (P := P) w a cs hsrc
  have hst := run_storeCells_at P g o t cs 0 cur w hg (by simpa using hfit) h1
  cases hq : P.info? elem with
  | none => simp [hq] at hs
  | some i =>
    have hi : i.size = sz := by simpa [hq] using hs
    simp [Builtin.copy_, run_underlying hu, Builtin.lenOf, Builtin.firstCells, sizeOf, typeInfo, hq, hi, ← hn, hl, hst]
theorem setRow_ch {cur : Array Value} {ds : Array Value} (hg : w.heap[g]? = some (.cells cur e (0, 0))) (hs : ds.size = cur.size) : Ch (Bk g) w (w.setRow g ds) := by
  refine ⟨rfl, rfl, rfl, by simp, fun j hj hn => setRow_other w g j _ fun e => hn 0 e, fun j c' e' f hj => ?_, fun k o hk ho => by rw [setRow_other w g k _ (ne_cells hg hk ho)]; exact hk⟩
  by_cases hjg : j = g
  · subst hjg
    rw [hg] at hj
    injection hj with hj; injection hj with h1 h2 h3
    subst h1; subst h2; subst h3
    exact ⟨_, setRow_heap w j cur _ _ _ hg, hs, fun i hi => absurd rfl hi⟩
  · exact ⟨c', by rw [setRow_other w g j _ hjg]; exact hj, rfl, fun _ _ => rfl⟩
/-- copy(row[l:h], y). -/
theorem fCopyR {t ty : TypeId} {l h m : Nat} {y : Value} {ds : List Value} {K : Int → World → Prop} (b : Nat) (f : Fr w0 w (rIt (elOf P t) sz (rowV g n c) n cs :: F)) (hlh : l ≤ h) (hhn : h ≤ n) (hy : Sl w sz y m ds) (h1 : ∀ u ∈ ds.take (min m (h - l) * sz), u.oneCell' = true)
    (hk : ∀ w' q, q = min m (h - l) → Fr w0 w' (rIt (elOf P t) sz (rowV g n c) n (cs.take (l * sz) ++ ds.take (q * sz) ++ cs.drop ((l + q) * sz)) :: F) → K (q : Int) w') (ht : slRow P t sz b = true := by kernel_rfl) :
    gCopy P #[t, t] ty #[subV sz (rowV g n c) l h, y] w K := by
  obtain ⟨hu, ii, z, hii, hz, hsz, hzs, hbb⟩ := slRow_ok ht
  obtain ⟨cur, hg, hn, hm, hs, htk, hl⟩ := row_block f.1
  obtain ⟨a, cy, rfl, hnc, hdl, hcells, hnil⟩ := hy
  have hmap : (P.info? (elOf P t)).map (·.size) = some sz := by rw [hii]; simp [hsz]
  have hdead : ∀ cz, (Builtin.copy_ #[t, t] ty #[subV sz (rowV g n c) l h, .slice none 0 cz]).run P w = .ok (.int .i64 0) w := fun cz => by
    have hsub : ∃ o, subV sz (rowV g n c) l h = .slice (some o) (h - l) (c - l) := by
      rw [subV_row]; split
      · exact ⟨_, rfl⟩
      · exact ⟨_, rfl⟩
    obtain ⟨o, ho⟩ := hsub
    rw [ho]
    simp [Builtin.copy_, run_underlying hu, Builtin.lenOf, Builtin.firstCells, sizeOf, typeInfo, hii, storeCells]; rfl
  cases a with
  | none =>
    have := hnil rfl
    subst this
    refine ⟨((0 : Nat) : Int), w, hdead _, hk w 0 (by omega) ?_⟩
    simpa using f
  | some ad =>
    have hq : min m (h - l) ≤ m := Nat.min_le_left _ _
    have hle : min m (h - l) * sz ≤ m * sz := Nat.mul_le_mul_right _ hq
    have htl : (ds.take (min m (h - l) * sz)).length = min m (h - l) * sz := by rw [List.length_take, hdl]; omega
    have hlc : l * sz + min m (h - l) * sz ≤ n * sz := by rw [← Nat.add_mul]; exact Nat.mul_le_mul_right _ (by omega)
    have hnc2 : n * sz ≤ c * sz := Nat.mul_le_mul_right _ hn
    by_cases hcl : c = l
    · -- nothing there
      have hz0 : min m (h - l) = 0 := by omega
      have hrun : (Builtin.copy_ #[t, t] ty #[subV sz (rowV g n c) l h, .slice (some ad) m cy]).run P w = .ok (.int .i64 0) w := by
        have h0 : Nat.min m (h - l) = 0 := hz0
        have hsub : subV sz (rowV g n c) l h = .slice (some ⟨g, 0, none⟩) (h - l) (c - l) := by rw [subV_row, if_pos hcl]
        rw [hsub]
        simp [Builtin.copy_, run_underlying hu, Builtin.lenOf, Builtin.firstCells, sizeOf, typeInfo, hii, h0, loadCells, loadCellsFrom, storeCells]; rfl
      refine ⟨((0 : Nat) : Int), w, hrun, hk w 0 hz0.symm ?_⟩
      simpa using f
    · have hsub : subV sz (rowV g n c) l h = .slice (some ⟨g, l * sz, none⟩) (h - l) (c - l) := by
        rw [subV_row, if_neg hcl]
      rw [hsub]
      have hrun := run_copy_rowS (P := P) w t t ty (elOf P t) sz g (l * sz) (h - l) (c - l) ad m cy cur (elOf P t) (ds.take (min m (h - l) * sz)) hu hmap hg htl
        (fun j u hj => hcells ad rfl j u (by
          rw [List.getElem?_take] at hj
          split at hj
          · exact hj
          · cases hj)) (by rw [htl, hs]; omega) (fun u hu => h1 u hu)
      have hsz2 : (cur.toList.take (l * sz) ++ ds.take (min m (h - l) * sz) ++ cur.toList.drop (l * sz + (ds.take (min m (h - l) * sz)).length)).toArray.size = cur.size := by
        simp only [List.size_toArray, List.length_append, List.length_take, List.length_drop, Array.length_toList, hs, hdl]; omega
      refine ⟨((min m (h - l) : Nat) : Int), _, hrun, hk _ _ rfl (f.upd (jt := rIt _ _ _ _ _) 0 rfl (setRow_ch hg hsz2) (fun k _ hh => .inl ?_) ?_ fun k hk => .inl hk)⟩
      · show some g = some k; rw [show k = g from hh]
      · refine row_of (setRow_heap w g cur _ _ _ hg) hn hm (by rw [hsz2, hs]) ?_
        dsimp only
        rw [htl, ← Nat.add_mul, List.take_append, List.take_append]
        have e1 : (cur.toList.take (l * sz)).take (n * sz) = cs.take (l * sz) := by
          rw [List.take_take, ← htk, List.take_take]; congr 1; omega
        have e2 : (ds.take (min m (h - l) * sz)).take (n * sz - (cur.toList.take (l * sz)).length) = ds.take (min m (h - l) * sz) := by
          refine List.take_of_length_le ?_
          rw [htl, List.length_take, Array.length_toList, hs]; omega
        have e3 : (cur.toList.drop ((l + min m (h - l)) * sz)).take (n * sz - (cur.toList.take (l * sz) ++ ds.take (min m (h - l) * sz)).length) = cs.drop ((l + min m (h - l)) * sz) := by
          rw [List.length_append, htl, List.length_take, Array.length_toList, hs, ← htk, List.drop_take]
          congr 1
          rw [Nat.add_mul]; omega
        rw [e1, e2, e3]
/-- append, where there is room. -/
theorem fAppFits {t ty : TypeId} {m : Nat} {y : Value} {ds : List Value} {K : Value → World → Prop} (b : Nat) (f : Fr w0 w (rIt (elOf P t) sz (rowV g n c) n cs :: F)) (hy : Sl w sz y m ds) (h1 : ∀ u ∈ ds, u.oneCell' = true) (hr : n + m ≤ c)
    (hk : ∀ w', Fr w0 w' (rIt (elOf P t) sz (rowV g (n + m) c) (n + m) (cs ++ ds) :: F) → K (rowV g (n + m) c) w') (ht : slRow P t sz b = true := by kernel_rfl) : gApp P #[t, t] ty #[rowV g n c, y] w K := by
  obtain ⟨hu, ii, z, hii, hz, hsz, hzs, hbb⟩ := slRow_ok ht
  obtain ⟨cur, hg, hn, hm, hs, htk, hl⟩ := row_block f.1
  obtain ⟨a, cy, rfl, hnc, hdl, hcells, hnil⟩ := hy
  cases a with
  | none =>
    have := hnil rfl
    subst this
    have hd0 : ds = [] := List.eq_nil_of_length_eq_zero (by rw [hdl, Nat.zero_mul])
    subst hd0
    have hr2 : (Builtin.append_ #[t, t] ty #[rowV g n c, .slice none 0 cy]).run P w = .ok (rowV g n c) w := by
      simp [Builtin.append_, run_underlying hu, sizeOf, typeInfo, hii, Builtin.lenOf, Builtin.firstCells, hn, storeCells]
    exact ⟨_, w, hr2, hk w (by simpa using f)⟩
  | some ad =>
    have hfit : n * ii.size + ds.length ≤ cur.size := by rw [hdl, hsz, hs, ← Nat.add_mul]; exact Nat.mul_le_mul_right _ hr
    have hr2 := run_append_room (P := P) w t ty (elOf P t) ii hu hii g n c cur hg ad m cy ds (by rw [hsz]; exact hdl) (hcells ad rfl) h1 hr hfit
    rw [hsz] at hr2 hfit
    have hsz2 : (cur.toList.take (n * sz) ++ ds ++ cur.toList.drop (n * sz + ds.length)).toArray.size = cur.size := by
      simp only [List.size_toArray, List.length_append, List.length_take, List.length_drop, Array.length_toList]; omega
    refine ⟨_, _, hr2, hk _ (f.upd (jt := rIt _ _ _ _ _) 0 rfl (setRow_ch hg hsz2) (fun k _ hh => .inl (by show some g = some k; rw [show k = g from hh])) (row_of (setRow_heap w g cur _ _ _ hg) hr hm (by rw [hsz2, hs]) ?_) fun k hk => .inl hk)⟩
    dsimp only
    rw [htk, List.take_append_of_le_length (by rw [List.length_append, hl, hdl, ← Nat.add_mul]; exact Nat.le_refl _)]
    exact List.take_of_length_le (by rw [List.length_append, hl, hdl, ← Nat.add_mul]; exact Nat.le_refl _)
/-- clear of what stands behind a row. -/
theorem fClear {t ty : TypeId} {m : Nat} {K : Value → World → Prop} (b : Nat) (f : Fr w0 w (rIt (elOf P t) sz (rowV g n c) n cs :: F)) (hmc : n + m ≤ c) (hm0 : 0 < m) (h1 : ∀ z i, P.info? (elOf P t) = some i → i.zero = some z → ∀ u ∈ z.cells.toList, u.oneCell' = true)
    (hk : ∀ v w', Fr w0 w' (rIt (elOf P t) sz (rowV g n c) n cs :: F) → K v w') (ht : slRow P t sz b = true := by kernel_rfl) (hsz0 : 0 < sz := by decide) : gValW P (Builtin.clear_ #[t] ty #[.slice (some ⟨g, n * sz, none⟩) m (c - n)]) w K := by
  obtain ⟨hu, ii, z, hii, hz, hsz, hzs, hbb⟩ := slRow_ok ht
  obtain ⟨cur, hg, hn, hm, hs, htk, hl⟩ := row_block f.1
  have hzl : (Builtin.zeroCells z.cells m).toList.length = m * sz := by rw [Array.length_toList, size_zeroCells, hzs]
  have hz1 : ∀ u ∈ (Builtin.zeroCells z.cells m).toList, u.oneCell' = true := fun u hu => by
    unfold Builtin.zeroCells at hu
    rw [Array.toList_map, List.mem_map] at hu
    obtain ⟨i, _, rfl⟩ := hu
    have hlt : i % z.cells.size < z.cells.size := Nat.mod_lt _ (by omega)
    rw [getElem!_pos z.cells _ hlt]
    exact h1 z ii hii hz _ (Array.getElem_mem_toList hlt)
  have hle : n * sz + m * sz ≤ c * sz := by rw [← Nat.add_mul]; exact Nat.mul_le_mul_right _ hmc
  have hst := run_storeCells_at P g (n * sz) (elOf P t) (Builtin.zeroCells z.cells m).toList 0 cur w hg (by rw [hzl, hs]; exact hle) hz1
  simp only [Nat.add_zero] at hst
  obtain ⟨m', rfl⟩ : ∃ m', m = m' + 1 := ⟨m - 1, by omega⟩
  have hrun : (Builtin.clear_ #[t] ty #[.slice (some ⟨g, n * sz, none⟩) (m' + 1) (c - n)]).run P w = .ok (.tuple #[]) (w.setRow g (cur.toList.take (n * sz) ++ (Builtin.zeroCells z.cells (m' + 1)).toList ++ cur.toList.drop (n * sz + (Builtin.zeroCells z.cells (m' + 1)).toList.length)).toArray) := by
    simp [Builtin.clear_, run_underlying hu, zeroValue, typeInfo, hii, hz, hst]
  have hsz2 : (cur.toList.take (n * sz) ++ (Builtin.zeroCells z.cells (m' + 1)).toList ++ cur.toList.drop (n * sz + (Builtin.zeroCells z.cells (m' + 1)).toList.length)).toArray.size = cur.size := by
    simp only [List.size_toArray, List.length_append, List.length_take, List.length_drop, hzl, Array.length_toList, hs]; omega
  refine ⟨_, _, hrun, hk _ _ (f.upd (jt := rIt _ _ _ _ _) 0 rfl (setRow_ch hg hsz2) (fun k _ hh => .inl (by show some g = some k; rw [show k = g from hh])) (row_of (setRow_heap w g cur _ _ _ hg) hn hm (by rw [hsz2, hs]) ?_) fun k hk => .inl hk)⟩
  dsimp only
  rw [List.append_assoc, List.take_append_of_le_length (by rw [List.length_take, Array.length_toList, hs]; omega), List.take_take, Nat.min_self, htk]
def isIntT (P : Program) (t : TypeId) : Bool := match P.underlying t with
  | some (.int _) => true
  | _ => false
/-- append(row, make(.., m)...), where there is no room. -/
theorem fAppZ {t ti ty : TypeId} {m : Nat} {z : Value} {K : Value → World → Prop} (b : Nat) (f : Fr w0 w F) {ad : Addr} (hS : Sl w sz (.slice (some ad) n c) n cs) (hr : c < n + m) (hb : (n + m) * b ≤ 140737488355328) (hb1 : (n + m) ≤ 140737488355328)
    (hk : ∀ g' c' w', n + m ≤ c' → Fr w0 w' (rIt (elOf P t) sz (rowV g' (n + m) c') (n + m) (cs ++ (Builtin.zeroCells z.cells m).toList) :: F) → K (rowV g' (n + m) c') w') (hz : (P.info? (elOf P t)).bind (·.zero) = some z) (ht : slRow P t sz b = true := by kernel_rfl) (hti : isIntT P ti = true := by kernel_rfl) (hsz0 : 0 < sz := by decide) :
    gApp P #[t, ti] ty #[.slice (some ad) n c, .int .i64 (m : Int)] w K := by
  obtain ⟨hu, ii, z', hii, hz', hsz, hzs, hbb⟩ := slRow_ok ht
  rw [hii] at hz
  simp only [Option.bind_some] at hz
  rw [hz] at hz'; injection hz' with hz'; subst hz'
  have hl : cs.length = n * sz := by obtain ⟨_, _, _, _, h, _⟩ := hS; exact h
  have hn : n ≤ c := by obtain ⟨a, c', e1, h, _⟩ := hS; injection e1 with _ _ e3; omega
  have hcell : ∀ j v, cs[j]? = some v → w.cell? (ad.add j) = some v := fun j v hj => by
    obtain ⟨a, c', e1, _, _, h3, _⟩ := hS
    injection e1 with e1 _ _
    exact h3 ad e1.symm j v hj
  have htu : ∃ k, P.underlying ti = some (.int k) := by
    unfold isIntT at hti; split at hti
    · rename_i k h; exact ⟨k, h⟩
    · cases hti
  obtain ⟨k, htu⟩ := htu
  have holds : ∀ j v, cs[j]? = some v → w.drew.cell? (ad.add j) = some v := fun j v hj => hcell j v hj
  have hfo := run_firstCells_some (P := P) w.drew ii.size n ad n c cs (by rw [hsz]; exact hl) holds
  have hbb2 : (n + m) * ii.bytes ≤ 140737488355328 := Nat.le_trans (Nat.mul_le_mul_left _ hbb) hb
  have hfit := growslice_fits (need := n + m) (old := c) hr hbb2
  have h48 : ¬ (281474976710656 < Builtin.nextslicecap (n + m) c * ii.bytes) := by omega
  have hm48 : ¬ ((281474976710656 : Int) < (m : Int) * (ii.bytes : Int)) := by
    have : m * ii.bytes ≤ (n + m) * ii.bytes := Nat.mul_le_mul_right _ (by omega)
    have h2 : ((m * ii.bytes : Nat) : Int) ≤ 140737488355328 := by omega
    rw [Int.natCast_mul] at h2; omega
  have hwr : IntKind.wrap .i64 (m : Int) = (m : Int) := by have := i64_id (n := (m : Int)) (by omega) (by omega); simpa [i64] using this
  have hneg : ¬ ((m : Int) < 0) := by omega
  have hms : ¬ (m * ii.size = 0) := by
    rw [hsz]; intro h0
    rcases Nat.mul_eq_zero.1 h0 with h | h <;> omega
  have hni : ¬ (9223372036854775807 < ((n : Int) + (m : Int))) := by omega
  have hroom : ¬ (n + m ≤ c) := by omega
  have hrun : (Builtin.append_ #[t, ti] ty #[.slice (some ad) n c, .int .i64 (m : Int)]).run P w = .ok (.slice (some ⟨w.heap.size, 0, none⟩) (n + m) (grownCap w (n + m) c (elOf P t)))
      (w.drew.alloc (.cells (cs.toArray ++ Builtin.zeroCells z.cells m ++ Builtin.zeroCells z.cells (grownCap w (n + m) c (elOf P t) - (n + m))) (elOf P t))) := by
    simp [Builtin.append_, run_underlying hu, run_underlying htu, sizeOf, typeInfo, zeroValue, hii, hz, asInt, asIntOf, hwr, hneg, hm48, hroom, hni, h48, Question.forced, hfo, newRow, grownCap]
    intro h0; exact absurd h0 hms
  have hge := grownCap_ge w (n + m) c (elOf P t)
  refine ⟨_, _, hrun, hk _ _ _ hge (f.new (jt := rIt _ _ _ _ _) ((Ev.drew0 w).trans (Ev.alloc _ _)) (row_of (heap_alloc_new w.drew _) hge (grownCap_le_maxLen w (n + m) c (elOf P t) (by unfold maxLen; omega)) ?_ ?_) fun k hk => ?_)⟩
  · simp only [Array.size_append, List.size_toArray, size_zeroCells, hl, hzs]
    rw [← Nat.add_mul, ← Nat.add_mul]; congr 1; omega
  · simp only [Array.toList_append, List.toList_toArray]
    rw [List.take_append_of_le_length (by rw [List.length_append, hl, Array.length_toList, size_zeroCells, hzs, ← Nat.add_mul]; exact Nat.le_refl _)]
    exact List.take_of_length_le (by rw [List.length_append, hl, Array.length_toList, size_zeroCells, hzs, ← Nat.add_mul]; exact Nat.le_refl _)
  · have hk : some w.heap.size = some k := hk
    injection hk with hk; omega
/-- l[i:j:k]. -/
theorem gSl3 {t : TypeId} {a : Option Addr} {k1 k2 k3 : IntKind} {l h : Nat} {K : Value → Prop} (hl : l ≤ h) (hhn : h ≤ n) (hh : n ≤ c)
    (hk : ∀ v, K v) (ht : slSz P t sz = true) : gSlice P t (.slice a n c) (some (.int k1 l)) (some (.int k2 h)) (some (.int k3 n)) K := by
  obtain ⟨hu, i, hi', hsz⟩ := slSz_ok ht
  refine ⟨.slice (if n = l then a else a.map (·.add (l * sz))) (h - l) (n - l), fun w => ?_, hk _⟩
  have hb : (Instr.sliceBounds true n c (some (.int k1 l)) (some (.int k2 h)) (some (.int k3 n))).run P w = .ok (l, h, n) w := by
    simp [Instr.sliceBounds, Instr.sliceBound, asIntOf, hl, hh, hhn]
  simp only [Instr.sliceAt, Sem.run_bind, run_underlying hu, Result.andThen_ok, Instr.slice, hb, sizeOf, typeInfo, run_program, hi', Sem.run_pure, hsz]
end
end Go.Proofs.YtijimpchglmkhaaV

/- Slices of numbers of one's own, in a frame: an element set, read, a part put behind. -/
namespace Go.Proofs.YtijimpchglmkhaaV
open Go Go.RowKit
section
variable {P : Program} {w0 w : World} {F : List It}
/-- An element is another one. -/
theorem fSetO {t te : TypeId} {k ki : IntKind} {v : Value} {xs : List Int} {i x : Int} {j : Nat} {K : World → Prop} (f : Fr w0 w F) (q : Nat) (hq : F[q]? = some (oIt k (elOf P t) v xs)) (hij : i = (j : Int)) (hj : j < xs.length) (hx : k.min ≤ x ∧ x ≤ k.max)
    (hk : ∀ w', Fr w0 w' (F.set q (oIt k (elOf P t) v (xs.set j x))) → K w') (ht : slInt P t k = true := by kernel_rfl) (ht1 : flat1 P te = true := by kernel_rfl) :
    gIdx P t v (.int ki i) fun ad => gStore P te (.pointer (some ad)) (.int k x) w K := by
  subst hij
  refine gIdx_on (f.on q hq) (by omega) (by omega) (fun ad hs _ => gStore_on (f.on q hq) hs (by omega) (by omega) hx (fun w' hc _ ho => hk w' ?_) ht1) ht
  exact f.upd (jt := oIt k (elOf P t) v (xs.set j x)) q hq hc (fun k _ hh => .inl hh) (ho.low (Nat.zero_le _)) fun k hk => .inl hk
/-- An element is read, in whatever world comes of this one. -/
theorem gGetB {t te : TypeId} {k ki : IntKind} {v : Value} {xs : List Int} {i : Int} {B : World → Prop} {K : Int → Prop} (h : Nm k w v xs) (h0 : 0 ≤ i) (h1 : i < xs.length) (hB : ∀ w', B w' → Ev w w') (hk : K (rd xs i)) (ht : slInt P t k = true := by kernel_rfl) (htf : flat P te = true := by kernel_rfl) :
    gIdx P t v (.int ki i) fun ad => gLoadB P te (shI k) (.pointer (some ad)) B K :=
  gIdx_nm h h0 h1 (fun ad c _ => gLoadB_i (fun w' hw => Ch.cell (hB w' hw) c fun h => h) hk htf) ht
theorem gGet {t te : TypeId} {k ki : IntKind} {v : Value} {xs : List Int} {i : Int} {K : Int → Prop} (h : Nm k w v xs) (h0 : 0 ≤ i) (h1 : i < xs.length) (hk : K (rd xs i)) (ht : slInt P t k = true := by kernel_rfl) (htf : flat P te = true := by kernel_rfl) :
    gIdx P t v (.int ki i) fun ad => gLoad P te (shI k) (.pointer (some ad)) w K :=
  gIdx_nm h h0 h1 (fun ad c _ => gLoad_i c hk htf) ht
theorem gIf_nnb {b : Bool} {A B : Prop} (ha : b = true → A) (hb : b = false → B) : gIf (!(!b)) A B := by cases b; exact hb rfl; exact ha rfl
theorem evDrew {w w' : World} (h : w' = w.drew) : Ev w w' := by subst h; exact Ev.drew0 w
end
end Go.Proofs.YtijimpchglmkhaaV

/- Package words: letters, runs of letters. -/
namespace Go.Proofs.YtijimpchglmkhaaV
open Go Go.RowKit
def letB (c : Int) : Bool := decide (97 ≤ c ∧ c ≤ 122 ∨ 65 ≤ c ∧ c ≤ 90)
/-- How many letters stand ahead. -/
def runN : List Int → Nat
  | [] => 0
  | c :: r => if letB c then runN r + 1 else 0
theorem runN_le : ∀ xs : List Int, runN xs ≤ xs.length
  | [] => Nat.le_refl _
  | c :: r => by
    have := runN_le r
    rw [runN, List.length_cons]; split <;> omega
theorem runN_at : ∀ {xs : List Int} {k : Nat}, k ≤ xs.length → (∀ j, j < k → letB (rd xs (j : Int)) = true) → (∀ h : k < xs.length, letB (rd xs (k : Int)) = false) → runN xs = k
  | [], k, h, _, _ => by
    rw [runN]; simp at h; exact h.symm
  | c :: r, 0, _, _, h2 => by
    have := h2 (by simp)
    rw [rd_nat _ 0 (by simp), List.getElem_cons_zero] at this
    rw [runN, if_neg (by rw [this]; decide)]
  | c :: r, k + 1, h, h1, h2 => by
    have h0 := h1 0 (by omega)
    rw [rd_nat _ 0 (by simp), List.getElem_cons_zero] at h0
    have sh : ∀ j : Nat, j < r.length → rd (c :: r) ((j + 1 : Nat) : Int) = rd r (j : Int) := fun j hj => by
      rw [rd_nat (c :: r) (j + 1) (by simp; omega), rd_nat r j hj, List.getElem_cons_succ]
    rw [runN, if_pos h0, runN_at (k := k) (by simp at h; omega) (fun j hj => by rw [← sh j (by simp at h; omega)]; exact h1 (j + 1) (by omega)) (fun hk => by rw [← sh k hk]; exact h2 (by simp; omega))]
section
variable {w : World}
theorem letter_any {c : Int} : Calls P n_words_letter #[.int .u8 c] w (fun e w' => e = .returned (.bool (letB c)) ∧ w' = w) := by
  refine of_words_letter (gIf_dec (fun h1 => gIf_ndec (fun h2 => gIf_dec (fun h3 => ⟨?_, rfl⟩) (fun h3 => ⟨?_, rfl⟩)) (fun h2 => ⟨?_, rfl⟩)) (fun h1 => gIf_dec (fun h3 => ⟨?_, rfl⟩) (fun h3 => ⟨?_, rfl⟩)))
  all_goals
    unfold letB
    congr 2
    first | exact (decide_eq_true (by omega)).symm | exact (decide_eq_false (by omega)).symm | exact decide_eq_decide.2 (by omega)
theorem run1_any {c : Int} : Calls P n_words_run_1 #[.int .u8 c] w (fun e w' => e = .returned (.bool (!letB c)) ∧ w' = w) := by
  refine of_words_run_1 (gCall_of letter_any ?_)
  rintro _ _ ⟨rfl, rfl⟩
  exact ⟨_, rfl, rfl, rfl⟩
theorem IndexNot_any {b : Value} {xs : List Int} (hb : Nm .u8 w b xs) (hl : xs.length ≤ 1000000000) : Calls P n_slices_IndexFunc_byte_byte' #[b, .func (.func n_words_run_1) #[] #[]] w (fun e w' => e = .returned (.int .i64 (if runN xs < xs.length then (runN xs : Int) else -1)) ∧ w' = w) := by
  refine of_slices_IndexFunc_byte_byte' (gLen_nm hb ⟨fun i w' => ∃ k : Nat, i = (k : Int) ∧ k ≤ xs.length ∧ (∀ j, j < k → letB (rd xs (j : Int)) = true) ∧ w' = w, fun i _ => xs.length - i.toNat, ⟨0, rfl, by omega, (fun j h => by omega), rfl⟩, ?_⟩)
  rintro _ i _ ⟨k, rfl, hk, hall, rfl⟩
  refine gIf_dec (fun hlt => gGet hb (by omega) (by omega) (gCallV_of rfl (by kernel_rfl) (show Calls P n_words_run_1 #[.int .u8 (rd xs (k : Int))] _ _ from run1_any) ?_)) (fun hge => ?_)
  · rintro _ _ ⟨rfl, rfl⟩
    refine ⟨_, rfl, gIf_nb (fun h => ?_) (fun h => ?_)⟩
    · have e : runN xs = k := runN_at hk hall fun _ => h
      rw [e, if_pos (by omega)]; exact ⟨rfl, rfl⟩
    · refine ⟨⟨k + 1, by rw [i64_id (by omega) (by omega)]; omega, by omega, fun j hj => ?_, rfl⟩, by dsimp only; rw [i64_id (by omega) (by omega)]; omega⟩
      by_cases hjk : j = k
      · subst hjk; exact h
      · exact hall j (by omega)
  · have e : runN xs = k := runN_at hk hall fun h => by omega
    rw [e, if_neg (by omega)]; exact ⟨rfl, rfl⟩
theorem run_any {b : Value} {xs : List Int} (hb : Nm .u8 w b xs) (hl : xs.length ≤ 1000000000) : Calls P n_words_run #[b] w (fun e w' => e = .returned (.int .i64 (runN xs : Nat)) ∧ w' = w) := by
  have hle := runN_le xs
  refine of_words_run (gCall_of (IndexNot_any hb hl) ?_)
  rintro _ _ ⟨rfl, rfl⟩
  refine ⟨_, rfl, ?_⟩
  by_cases h : runN xs < xs.length
  · rw [if_pos h]
    exact gIf_dec (fun h => by omega) (fun _ => ⟨rfl, rfl⟩)
  · rw [if_neg h]
    refine gIf_dec (fun _ => gLen_nm hb ⟨?_, rfl⟩) (fun h => absurd (by decide) h)
    rw [show runN xs = xs.length by omega]
/-! ### Comparing -/
def cmpI (x y : Int) : Int := if x < y then -1 else if x > y then 1 else 0
theorem cmpInt_any {x y : Int} : Calls P n_cmp_Compare_int #[.int .i64 x, .int .i64 y] w (fun e w' => e = .returned (.int .i64 (cmpI x y)) ∧ w' = w) := by
  have hn : ∀ {z : Int}, Calls P n_cmp_isNaN_int #[.int .i64 z] w (fun e w' => e = .returned (.bool false) ∧ w' = w) := fun {z} => of_cmp_isNaN_int ⟨by simp, rfl⟩
  refine of_cmp_Compare_int (gCall_of hn ?_)
  rintro _ _ ⟨rfl, rfl⟩
  refine ⟨_, rfl, gCall_of hn ?_⟩
  rintro _ _ ⟨rfl, rfl⟩
  refine ⟨_, rfl, gIf_f (gIf_f (gIf_dec (fun h => ⟨?_, rfl⟩) (fun h => gIf_dec (fun h2 => ⟨?_, rfl⟩) (fun h2 => ⟨?_, rfl⟩))))⟩
  · unfold cmpI; rw [if_pos h]
  · unfold cmpI; rw [if_neg h, if_pos h2]
  · unfold cmpI; rw [if_neg h, if_neg h2]
def cmpS (a b : List UInt8) : Int := if Op.bytesLess a b then -1 else if a = b then 0 else 1
theorem cmpStr_any {a b : List UInt8} : Calls P n_cmp_Compare_string #[.string (mkS a), .string (mkS b)] w (fun e w' => e = .returned (.int .i64 (cmpS a b)) ∧ w' = w) := by
  have hn : ∀ {z : ByteArray}, Calls P n_cmp_isNaN_string #[.string z] w (fun e w' => e = .returned (.bool false) ∧ w' = w) := fun {z} => of_cmp_isNaN_string ⟨by simp, rfl⟩
  refine of_cmp_Compare_string (gCall_of hn ?_)
  rintro _ _ ⟨rfl, rfl⟩
  refine ⟨_, rfl, gCall_of hn ?_⟩
  rintro _ _ ⟨rfl, rfl⟩
  refine ⟨_, rfl, gIf_f (gIf_f ?_)⟩
  rw [tl_mk, tl_mk]
  unfold cmpS
  cases hb : Op.bytesLess a b
  · refine gIf_f ?_
    by_cases he : a = b
    · subst he
      rw [show (a == a) = true by simp]
      simp only [Bool.or_true, Bool.not_true]
      exact gIf_f ⟨by simp, trivial⟩
    · rw [show (a == b) = false by simp [he]]
      simp only [Bool.or_self, Bool.not_false]
      exact gIf_t ⟨by simp [he], trivial⟩
  · exact gIf_t ⟨by simp, rfl⟩
end
end Go.Proofs.YtijimpchglmkhaaV

/- The words of a text, and how they stand: plain. -/
namespace Go.Proofs.YtijimpchglmkhaaV
open Go Go.RowKit
/-- Bytes as a key, and back. -/
def bU (l : List Int) : List UInt8 := l.map fun x => UInt8.ofNat x.toNat
def iU (l : List UInt8) : List Int := l.map fun b => (b.toNat : Int)
theorem bU_len (l : List Int) : (bU l).length = l.length := List.length_map _
theorem iU_len (l : List UInt8) : (iU l).length = l.length := List.length_map _
theorem bsOf_mk (l : List Int) : bsOf l = mkS (bU l) := rfl
theorem sOf_mk (l : List UInt8) : sOf (mkS l) = iU l := by unfold sOf iU; rw [mkS_data]
theorem iU_bU {l : List Int} (h : inR .u8 l) : iU (bU l) = l := by rw [← sOf_mk, ← bsOf_mk, sOf_bsOf h]
theorem iU_inj {a b : List UInt8} (h : iU a = iU b) : a = b := by
  have h1 : mkS a = mkS b := by rw [← bsOf_sOf (mkS a), ← bsOf_sOf (mkS b), sOf_mk, sOf_mk, h]
  exact (mkS_eq a b).1 h1
theorem iU_u8 (l : List UInt8) : inR .u8 (iU l) := by rw [← sOf_mk]; exact sOf_u8 _
/-- The words of 3 to 24 letters, one behind the other. -/
def scanU : Nat → List Int → List (List UInt8)
  | 0, _ => []
  | f + 1, xs => if xs = [] then [] else (if 3 ≤ runN xs ∧ runN xs ≤ 24 then [bU (xs.take (runN xs))] else []) ++ scanU f (xs.drop (if 1 > runN xs then 1 else runN xs))
def wordsU (xs : List Int) : List (List UInt8) := scanU xs.length xs
theorem scanU_nil : ∀ f, scanU f [] = []
  | 0 => rfl
  | f + 1 => by rw [scanU, if_pos rfl]
theorem scanU_fuel : ∀ (f g : Nat) (xs : List Int), xs.length ≤ f → xs.length ≤ g → scanU f xs = scanU g xs
  | 0, g, xs, h, _ => by
    obtain rfl : xs = [] := List.eq_nil_of_length_eq_zero (by omega)
    rw [scanU_nil, scanU_nil]
  | f + 1, 0, xs, _, h => by
    obtain rfl : xs = [] := List.eq_nil_of_length_eq_zero (by omega)
    rw [scanU_nil, scanU_nil]
  | f + 1, g + 1, xs, h1, h2 => by
    rw [scanU, scanU]
    by_cases hx : xs = []
    · rw [if_pos hx, if_pos hx]
    · have : 0 < xs.length := List.length_pos_iff.2 hx
      rw [if_neg hx, if_neg hx, scanU_fuel f g _ (by rw [List.length_drop]; split <;> omega) (by rw [List.length_drop]; split <;> omega)]
theorem wordsU_step {xs : List Int} (h : xs ≠ []) : wordsU xs = (if 3 ≤ runN xs ∧ runN xs ≤ 24 then [bU (xs.take (runN xs))] else []) ++ wordsU (xs.drop (if 1 > runN xs then 1 else runN xs)) := by
  have h0 : 0 < xs.length := List.length_pos_iff.2 h
  unfold wordsU
  conv => lhs; rw [show xs.length = xs.length - 1 + 1 by omega, scanU, if_neg h]
  rw [scanU_fuel _ (xs.drop (if 1 > runN xs then 1 else runN xs)).length _ (by rw [List.length_drop]; split <;> omega) (Nat.le_refl _)]
theorem wordsU_nil : wordsU [] = [] := rfl
theorem wordsU_len : ∀ (n : Nat) (xs : List Int), xs.length ≤ n → (wordsU xs).length ≤ xs.length ∧ ∀ s ∈ wordsU xs, 3 ≤ s.length ∧ s.length ≤ 24
  | 0, xs, h => by
    obtain rfl : xs = [] := List.eq_nil_of_length_eq_zero (by omega)
    rw [wordsU_nil]
    exact ⟨Nat.le_refl _, fun s h => by cases h⟩
  | n + 1, xs, h => by
    by_cases hx : xs = []
    · subst hx; exact ⟨Nat.le_refl _, fun s h => by cases h⟩
    · have h0 : 0 < xs.length := List.length_pos_iff.2 hx
      have ih := wordsU_len n (xs.drop (if 1 > runN xs then 1 else runN xs)) (by rw [List.length_drop]; split <;> omega)
      have hr := runN_le xs
      rw [wordsU_step hx]
      refine ⟨?_, fun s hs => ?_⟩
      · have := ih.1
        have hd : (xs.drop (if 1 > runN xs then 1 else runN xs)).length ≤ xs.length - 1 := by rw [List.length_drop]; split <;> omega
        rw [List.length_append]
        have h1 : (if 3 ≤ runN xs ∧ runN xs ≤ 24 then [bU (xs.take (runN xs))] else []).length ≤ 1 := by split <;> simp
        omega
      · rcases List.mem_append.1 hs with hs | hs
        · split at hs
          · rename_i hc
            rw [List.mem_singleton.1 hs, bU_len, List.length_take, Nat.min_eq_left hr]; exact hc
          · cases hs
        · exact ih.2 s hs
/-! ### The order -/
def wth (c : List UInt8 → Nat) (s : List UInt8) : Int := ((c s : Int) - 1) * s.length
def cfU (c : List UInt8 → Nat) (x y : List UInt8) : Int := if cmpI (wth c y) (wth c x) ≠ 0 then cmpI (wth c y) (wth c x) else cmpS x y
def ltU (c : List UInt8 → Nat) (x y : List UInt8) : Bool := decide (cfU c x y < 0)
theorem bytesLess_iff : ∀ {a b : List UInt8}, Op.bytesLess a b = true ↔ a < b
  | [], [] => by simp [Op.bytesLess]
  | [], b :: q => by simp [Op.bytesLess]
  | a :: r, [] => by simp [Op.bytesLess]
  | a :: r, b :: q => by
    unfold Op.bytesLess
    rw [List.cons_lt_cons_iff]
    by_cases h : a = b
    · subst h
      simp [bytesLess_iff (a := r) (b := q)]
    · simp [h]
theorem cmpS_lt {a b : List UInt8} : cmpS a b < 0 ↔ a < b := by
  unfold cmpS
  by_cases h : Op.bytesLess a b = true
  · rw [if_pos h]; exact ⟨fun _ => bytesLess_iff.1 h, fun _ => by decide⟩
  · rw [if_neg h]
    exact ⟨fun h2 => by split at h2 <;> simp at h2, fun h2 => absurd (bytesLess_iff.2 h2) h⟩
theorem ltU_iff {c : List UInt8 → Nat} {x y : List UInt8} : ltU c x y = true ↔ wth c y < wth c x ∨ (wth c y = wth c x ∧ x < y) := by
  unfold ltU cfU cmpI
  rw [decide_eq_true_iff, ← cmpS_lt]
  by_cases h1 : wth c y < wth c x
  · simp [h1]
  · by_cases h2 : wth c y > wth c x
    · rw [if_neg h1, if_pos h2, if_pos (by decide)]
      constructor
      · intro h; simp at h
      · intro h; omega
    · rw [if_neg h1, if_neg h2]
      simp only [ne_eq, not_true, if_false]
      constructor
      · intro h; exact .inr ⟨by omega, h⟩
      · intro h
        rcases h with h | h
        · omega
        · exact h.2
theorem lt_irrU (x : List UInt8) : ¬ x < x := List.lt_irrefl x
theorem ltU_irr (c : List UInt8 → Nat) (x : List UInt8) : ltU c x x = false := by
  cases h : ltU c x x with
  | false => rfl
  | true =>
    rcases ltU_iff.1 h with h | h
    · omega
    · exact absurd h.2 (lt_irrU x)
theorem ltU_trans {c : List UInt8 → Nat} {x y z : List UInt8} (h1 : ltU c x y = true) (h2 : ltU c y z = true) : ltU c x z = true := by
  rw [ltU_iff] at *
  rcases h1 with h1 | h1 <;> rcases h2 with h2 | h2
  · exact .inl (by omega)
  · exact .inl (by omega)
  · exact .inl (by omega)
  · exact .inr ⟨by omega, List.lt_trans h1.2 h2.2⟩
theorem ltU_total {c : List UInt8 → Nat} {x y : List UInt8} (h1 : ltU c x y = false) (h2 : ltU c y x = false) : x = y := by
  have n1 : ¬ _ := fun h => by rw [ltU_iff.2 h] at h1; cases h1
  have n2 : ¬ _ := fun h => by rw [ltU_iff.2 h] at h2; cases h2
  have e : wth c y = wth c x := by
    refine Decidable.byContradiction fun hne => ?_
    rcases Int.lt_or_gt_of_ne hne with h | h
    · exact n1 (.inl h)
    · exact n2 (.inl h)
  have a : ¬ x < y := fun h => n1 (.inr ⟨e, h⟩)
  have b : ¬ y < x := fun h => n2 (.inr ⟨e.symm, h⟩)
  exact List.le_antisymm b a
/-- Without repeats. -/
def dd : List (List UInt8) → List (List UInt8)
  | [] => []
  | x :: l => if x ∈ dd l then dd l else x :: dd l
theorem mem_dd : ∀ {l : List (List UInt8)} {x : List UInt8}, x ∈ dd l ↔ x ∈ l
  | [], x => by simp [dd]
  | y :: l, x => by
    rw [dd]
    split
    · rename_i h
      rw [mem_dd, List.mem_cons]
      exact ⟨.inr, fun h' => by rcases h' with rfl | h'; exact mem_dd.1 h; exact h'⟩
    · rw [List.mem_cons, List.mem_cons, mem_dd]
theorem nodup_dd : ∀ l : List (List UInt8), (dd l).Nodup
  | [] => List.nodup_nil
  | y :: l => by
    rw [dd]
    split
    · exact nodup_dd l
    · rename_i h; exact List.nodup_cons.2 ⟨h, nodup_dd l⟩
def sortedU (ws : List (List UInt8)) : List (List UInt8) := (dd ws).mergeSort fun x y => !ltU (fun s => ws.count s) y x
/-- The words that are worth the most. -/
def findU (ws : List (List UInt8)) : List (List UInt8) := ((sortedU ws).filter fun s => decide (1 < ws.count s)).take 64
theorem perm_of_mem : ∀ {l m : List (List UInt8)}, l.Nodup → m.Nodup → (∀ x, x ∈ l ↔ x ∈ m) → l.Perm m := fun {l m} hl hm h => by
  refine List.perm_iff_count.2 fun a => ?_
  rw [hl.count, hm.count]
  by_cases ha : a ∈ l
  · rw [if_pos ha, if_pos ((h a).1 ha)]
  · rw [if_neg ha, if_neg fun hh => ha ((h a).2 hh)]
theorem sortedU_perm (ws : List (List UInt8)) : (sortedU ws).Perm (dd ws) := List.mergeSort_perm _ _
theorem leU_trans (c : List UInt8 → Nat) (x y z : List UInt8) (h1 : (!ltU c y x) = true) (h2 : (!ltU c z y) = true) : (!ltU c z x) = true := by
  cases h : ltU c z x with
  | false => rfl
  | true =>
    exfalso
    simp only [Bool.not_eq_true'] at h1 h2
    cases h3 : ltU c x y with
    | true => rw [ltU_trans h h3] at h2; cases h2
    | false =>
      have := ltU_total h3 h1
      subst this
      rw [h] at h2; cases h2
theorem leU_total (c : List UInt8 → Nat) (x y : List UInt8) : (!ltU c y x || !ltU c x y) = true := by
  cases h1 : ltU c y x with
  | false => rfl
  | true =>
    cases h2 : ltU c x y with
    | false => rfl
    | true => have := ltU_trans h1 h2; rw [ltU_irr] at this; cases this
theorem pairwise_U (c : List UInt8 → Nat) {l : List (List UInt8)} (hn : l.Nodup) (h : l.Pairwise fun x y => (!ltU c y x) = true) : l.Pairwise fun x y => ltU c x y = true := by
  have := List.Pairwise.and hn h
  refine this.imp fun {x y} ⟨h1, h2⟩ => ?_
  simp only [Bool.not_eq_true'] at h2
  cases h3 : ltU c x y with
  | true => rfl
  | false => exact absurd (ltU_total h3 h2) h1
theorem sorted_strict (c : List UInt8 → Nat) {l : List (List UInt8)} (hn : l.Nodup) : (l.mergeSort fun x y => !ltU c y x).Pairwise fun x y => ltU c x y = true :=
  pairwise_U c ((List.mergeSort_perm _ _).nodup_iff.2 hn) (List.pairwise_mergeSort (fun a b c' h1 h2 => leU_trans c a b c' h1 h2) (fun a b => leU_total c a b) l)
/-- Two lists that rise strictly and have the same in them are one. -/
theorem rise_eq (c : List UInt8 → Nat) : ∀ {l m : List (List UInt8)}, l.Pairwise (fun x y => ltU c x y = true) → m.Pairwise (fun x y => ltU c x y = true) → (∀ x, x ∈ l ↔ x ∈ m) → l = m
  | [], [], _, _, _ => rfl
  | [], y :: m, _, _, h => absurd ((h y).2 List.mem_cons_self) (by simp)
  | x :: l, [], _, _, h => absurd ((h x).1 List.mem_cons_self) (by simp)
  | x :: l, y :: m, hl, hm, h => by
    have hl' := List.pairwise_cons.1 hl
    have hm' := List.pairwise_cons.1 hm
    have exy : x = y := by
      rcases List.mem_cons.1 ((h x).1 List.mem_cons_self) with e | hx
      · exact e
      · rcases List.mem_cons.1 ((h y).2 List.mem_cons_self) with e | hy
        · exact e.symm
        · have := ltU_trans (hl'.1 y hy) (hm'.1 x hx)
          rw [ltU_irr] at this; cases this
    subst exy
    rw [rise_eq c hl'.2 hm'.2 fun z => ?_]
    constructor
    · intro hz
      rcases List.mem_cons.1 ((h z).1 (List.mem_cons_of_mem _ hz)) with e | hz'
      · subst e; have := hl'.1 z hz; rw [ltU_irr] at this; cases this
      · exact hz'
    · intro hz
      rcases List.mem_cons.1 ((h z).2 (List.mem_cons_of_mem _ hz)) with e | hz'
      · subst e; have := hm'.1 z hz; rw [ltU_irr] at this; cases this
      · exact hz'
theorem sortedU_rise (ws : List (List UInt8)) : (sortedU ws).Pairwise fun x y => ltU (fun s => ws.count s) x y = true := sorted_strict _ (nodup_dd ws)
theorem mem_sortedU {ws : List (List UInt8)} {x : List UInt8} : x ∈ sortedU ws ↔ x ∈ ws := by rw [(sortedU_perm ws).mem_iff, mem_dd]
/-- Whatever list without repeats has just these words: sorted it is this one. -/
theorem sorted_of {ws ss : List (List UInt8)} (hn : ss.Nodup) (hm : ∀ x, x ∈ ss ↔ x ∈ ws) : (ss.mergeSort fun x y => !ltU (fun s => ws.count s) y x) = sortedU ws :=
  rise_eq (fun s => ws.count s) (sorted_strict _ hn) (sortedU_rise ws) fun x => by rw [(List.mergeSort_perm _ _).mem_iff, hm, mem_sortedU]
theorem sortedU_len (ws : List (List UInt8)) : (sortedU ws).length ≤ ws.length := by
  rw [(sortedU_perm ws).length_eq]
  induction ws with
  | nil => exact Nat.le_refl _
  | cons y l ih => rw [dd]; split <;> simp <;> omega
theorem wth_rg {ws : List (List UInt8)} {s : List UInt8} (h1 : ws.length ≤ 1000000000) (h2 : s.length ≤ 24) : -24 ≤ wth (fun s => ws.count s) s ∧ wth (fun s => ws.count s) s ≤ 24000000000 := by
  have hc : ws.count s ≤ ws.length := List.count_le_length
  unfold wth
  show -24 ≤ (((ws.count s : Nat) : Int) - 1) * ((s.length : Nat) : Int) ∧ (((ws.count s : Nat) : Int) - 1) * ((s.length : Nat) : Int) ≤ 24000000000
  generalize ws.count s = k at *
  have hk : ((s.length : Nat) : Int) ≤ 24 := by omega
  by_cases h0 : k = 0
  · subst h0
    omega
  · have a := Int.mul_nonneg (show 0 ≤ (k : Int) - 1 by omega) (show 0 ≤ (s.length : Int) by omega)
    have b := Int.mul_le_mul (show (k : Int) - 1 ≤ 1000000000 by omega) hk (by omega) (by omega)
    omega
end Go.Proofs.YtijimpchglmkhaaV

/- Package words: a map of words and how often they come. -/
namespace Go.Proofs.YtijimpchglmkhaaV
open Go Go.RowKit Go.Maps
theorem keyS : Keyed P t_string := string_keyed (by kernel_rfl)
theorem undM : P.underlying t_maparstring_int = some (.map t_string t_int) := by kernel_rfl
theorem undI : P.underlying t_int = some (.int .i64) := by kernel_rfl
theorem zeroI (w : World) : (zeroValue t_int).run P w = .ok (.int .i64 0) w := by kernel_rfl
abbrev Dt := DataW Unit
noncomputable abbrev RI : Value → Option (DataW Unit × List MemPlace) := plainElem P t_int
/-- Block b is a map that tells how often each word comes. -/
def MapI (w : World) (b : Nat) (ws : List (List UInt8)) : Prop := ∃ D : Dt, w.ownsMap P t_string RI b ws.length D ∧ IsMap D ∧ (∀ s, D.atKey (.string s) (.lit (.int .i64 0)) = .lit (.int .i64 (ws.count s : Nat))) ∧ ∀ s, Maps.has D (.string s) = true ↔ s ∈ ws
theorem MapI.keep {w w' : World} {b : Nat} {ws : List (List UInt8)} (h : MapI w b ws) (hb : ∀ o, w.heap[b]? = some o → w'.heap[b]? = some o) : MapI w' b ws := by
  obtain ⟨D, ⟨es, clock, h1, h2, h3, h4⟩, hr⟩ := h
  exact ⟨D, ⟨es, clock, hb _ h1, h2, h3, h4⟩, hr⟩
theorem MapI.block {w : World} {b : Nat} {ws : List (List UInt8)} (h : MapI w b ws) : ∃ o, w.heap[b]? = some o ∧ o.isCells = false := by
  obtain ⟨D, ⟨es, clock, h1, _⟩, _⟩ := h
  exact ⟨_, h1, rfl⟩
theorem MapI.ch {S : SS} {w w' : World} {b : Nat} {ws : List (List UInt8)} (h : MapI w b ws) (hc : Ch S w w') : MapI w' b ws := by
  obtain ⟨o, h1, h2⟩ := h.block
  exact h.keep fun o' ho => by rw [h1] at ho; injection ho with ho; subst ho; exact hc.oth _ _ h1 h2
section
variable {w0 w : World} {F : List It} {b : Nat} {ws : List (List UInt8)}
theorem gMakeMap {K : Value → World → Prop} (hk : ∀ w', Ev w w' → MapI w' w.heap.size [] → K (.map (some w.heap.size)) w') : gAny P shV (do pure (Next.value (← Instr.makeMap t_maparstring_int none))) w K :=
  ⟨.map (some w.heap.size), w.alloc (.map #[] 0), rfl, hk _ (Ev.alloc w _) ⟨_, World.ownsMap_made w P t_string RI, isMap_empty, fun s => by simp [DataW.atKey], fun s => by simp [Maps.has]⟩⟩
theorem gLookup {s : List UInt8} {K : Int → World → Prop} (h : MapI w b ws) (hs : s.length ≤ 1000) (hk : K (ws.count s : Nat) w) : gAny P (shI .i64) (do pure (Next.value (← Instr.lookup t_maparstring_int (.map (some b)) (.string (mkS s)) false))) w K := by
  obtain ⟨D, h1, _, h3, _⟩ := h
  have hkey : keyOf P t_string (.string (mkS s)) = some (.string s) := by
    have := Go.WideMaps.keyOf_string_mk (P := P) (k := t_string) (by kernel_rfl) (s := mkS s) (by rw [mkS_size]; unfold maxLen; omega)
    rwa [mkS_data] at this
  obtain ⟨c, hrun, hat, _⟩ := h1.lookup_int keyS undM undI (zeroI w) hkey
  rw [h3 s] at hat
  injection hat with hat
  injection hat with _ hat
  subst hat
  exact ⟨_, w, run_v hrun, hk⟩
theorem gBump {s : List UInt8} {n : Int} {K : World → Prop} (h : MapI w b ws) (hs : s.length ≤ 1000) (hl : ws.length ≤ 1000000000) (hn : n = ((ws.count s : Nat) : Int) + 1) (hk : ∀ w', w.grownBy w' (some b) → MapI w' b (ws ++ [s]) → K w') :
    gAnyU P (do Instr.mapUpdate t_maparstring_int (.map (some b)) (.string (mkS s)) (.int .i64 n); pure Next.skip) w K := by
  obtain ⟨D, h1, h2, h3, h4⟩ := h
  have hc : ws.count s ≤ ws.length := List.count_le_length
  have hkey : keyOf P t_string (.string (mkS s)) = some (.string s) := by
    have := Go.WideMaps.keyOf_string_mk (P := P) (k := t_string) (by kernel_rfl) (s := mkS s) (by rw [mkS_size]; unfold maxLen; omega)
    rwa [mkS_data] at this
  have hik : WideAt.IsKeyLit (.string s) := keyS.key hkey
  obtain ⟨w', hrun, h5, h6⟩ := h1.update keyS undM (by unfold maxLen; omega) hkey (plainElem_int (e := t_int) (q := .i64) (a := n) undI (WalkArith.wf_i64 (by omega)))
  refine ⟨w', ?_, hk w' h6 ⟨_, by simpa using h5, h2.put _ _, fun s' => ?_, fun s' => ?_⟩⟩
  · simp only [Sem.run_bind, hrun, Result.andThen_ok, Sem.run_pure]
  · by_cases e : s' = s
    · subst e
      rw [atKey_put_same h2 hik, List.count_append, List.count_singleton_self, hn]; rfl
    · rw [atKey_put_other (by intro h; injection h with h; exact e h), h3 s', List.count_append, List.count_singleton]
      simp [Ne.symm e]
  · by_cases e : s' = s
    · subst e
      rw [has_put_same h2 hik]; simp
    · rw [has_put_other (by intro h; injection h with h; exact e h), h4 s', List.mem_append, List.mem_singleton]
      simp [e]
theorem Fr.grownW {w' : World} {row : Option Nat} (h : Fr w0 w F) (hg : w.grownBy w' row) (hr : ∀ r, row = some r → w0.heap.size ≤ r ∧ ∃ o : Obj, w.heap[r]? = some o ∧ o.isCells = false) : Fr w0 w' F :=
  h.gr hg.size hg.os hg.tape hg.output (fun k hk => hg.block k (Nat.lt_of_lt_of_le hk h.old.size) fun e => by have := (hr k e.symm).1; omega)
    fun k c e f hc => hg.block k (hlt hc) fun e' => by obtain ⟨_, o, ho, hn⟩ := hr k e'.symm; exact ne_cells hc ho hn rfl
theorem Fr.putObjW {D : Nat} {o o' : Obj} (h : Fr w0 w F) (hD : w0.heap.size ≤ D) (hk : w.heap[D]? = some o) (ho : o.isCells = false) : Fr w0 (w.putObj D o') F :=
  h.gr (by simp) rfl rfl rfl (fun k hk' => World.putObj_heap_other (by omega)) fun k c e f hc => World.putObj_heap_other (ne_cells hc hk ho).symm
theorem fStore0 {t : TypeId} {ad : Addr} {c u : Value} {K : World → Prop} (h : Fr w0 w F) (i : Nat) (hi : F[i]? = some (sIt ad [c])) (hk : ∀ w', Fr w0 w' (F.set i (sIt ad [u])) → K w') (hu : u.oneCell' = true := by rfl) (hcl : u.cells = #[u] := by rfl) (ht : flat1 P t = true := by kernel_rfl) :
    gStore P t (.pointer (some ad)) u w K := by
  have := fStore (t := t) (u := u) h i 0 hi (K := K) (fun w' f => hk w' f) (by simp) hu hcl ht
  rwa [Addr.add_zero'] at this
theorem Fr.cell0 {ad : Addr} {u : Value} (h : Fr w0 w F) (i : Nat) (hi : F[i]? = some (sIt ad [u])) : w.cell? ad = some u := by
  have := h.cell i 0 hi rfl
  rwa [Addr.add_zero'] at this
end
end Go.Proofs.YtijimpchglmkhaaV

/- Contracts of the library at this program, laid by the kit. -/
namespace Go.Proofs
open Go.Shelf
def Try.laysSlF6_f50_ren : Go.Shelf.Ren := ⟨fun | 6 => 50 | 15 => 62 | 14 => 61 | 28 => 72 | 29 => 73 | 20 => 64 | 21 => 65 | 22 => 66 | 23 => 67 | 24 => 68 | 25 => 69 | 26 => 70 | 27 => 71 | 46 => 74 | 47 => 75 | 48 => 76 | 49 => 77 | 50 => 78 | 57 => 79 | n => n, fun | 22 => 45 | 24 => 9 | 25 => 52 | 3 => 3 | 39 => 31 | 0 => 0 | 53 => 104 | 55 => 67 | 4 => 4 | 46 => 97 | 45 => 96 | 50 => 101 | 5 => 5 | 9 => 9 | 66 => 106 | 70 => 109 | 76 => 111 | 77 => 112 | n => n, fun | n => n⟩
theorem Try.laysSlF6_f50 : Go.Proofs.SlLaysF.n6 Try.prog Try.laysSlF6_f50_ren := {
  mixed := by kernel_rfl
  f6 := ⟨Try.f50.name, by decide, Try.func50.trans (congrArg some (by kernel_rfl))⟩
  f14 := ⟨Try.f61.name, by decide, Try.func61.trans (congrArg some (by kernel_rfl))⟩
  f15 := Try.func62.trans (congrArg some (by kernel_rfl))
  f20 := ⟨Try.f64.name, by decide, Try.func64.trans (congrArg some (by kernel_rfl))⟩
  f21 := ⟨Try.f65.name, by decide, Try.func65.trans (congrArg some (by kernel_rfl))⟩
  f22 := ⟨Try.f66.name, by decide, Try.func66.trans (congrArg some (by kernel_rfl))⟩
  f23 := ⟨Try.f67.name, by decide, Try.func67.trans (congrArg some (by kernel_rfl))⟩
  f24 := ⟨Try.f68.name, by decide, Try.func68.trans (congrArg some (by kernel_rfl))⟩
  f25 := ⟨Try.f69.name, by decide, Try.func69.trans (congrArg some (by kernel_rfl))⟩
  f26 := ⟨Try.f70.name, by decide, Try.func70.trans (congrArg some (by kernel_rfl))⟩
  f27 := ⟨Try.f71.name, by decide, Try.func71.trans (congrArg some (by kernel_rfl))⟩
  f28 := Try.func72.trans (congrArg some (by kernel_rfl))
  f29 := Try.func73.trans (congrArg some (by kernel_rfl))
  f46 := ⟨Try.f74.name, by decide, Try.func74.trans (congrArg some (by kernel_rfl))⟩
  f47 := Try.func75.trans (congrArg some (by kernel_rfl))
  f48 := Try.func76.trans (congrArg some (by kernel_rfl))
  f49 := ⟨Try.f77.name, by decide, Try.func77.trans (congrArg some (by kernel_rfl))⟩
  f50 := ⟨Try.f78.name, by decide, Try.func78.trans (congrArg some (by kernel_rfl))⟩
  f57 := ⟨Try.f79.name, by decide, Try.func79.trans (congrArg some (by kernel_rfl))⟩
  t0 := Try.underlying0
  a0 := Try.isAgg0
  z0 := Try.sizeOf0
  v0 := Try.zeroValue0
  t3 := Try.underlying3
  a3 := Try.isAgg3
  z3 := Try.sizeOf3
  v3 := Try.zeroValue3
  t4 := Try.underlying4
  a4 := Try.isAgg4
  z4 := Try.sizeOf4
  v4 := Try.zeroValue4
  t5 := Try.underlying5
  a5 := Try.isAgg5
  z5 := Try.sizeOf5
  v5 := Try.zeroValue5
  t9 := Try.underlying9
  a9 := Try.isAgg9
  z9 := Try.sizeOf9
  v9 := Try.zeroValue9
  t22 := Try.underlying45
  a22 := Try.isAgg45
  z22 := Try.sizeOf45
  v22 := Try.zeroValue45
  a24 := Try.isAgg9
  z24 := Try.sizeOf9
  t25 := Try.underlying52
  a25 := Try.isAgg52
  z25 := Try.sizeOf52
  v25 := Try.zeroValue52
  t39 := Try.underlying31
  a39 := Try.isAgg31
  z39 := Try.sizeOf31
  v39 := Try.zeroValue31
  t45 := Try.underlying96
  a45 := Try.isAgg96
  z45 := Try.sizeOf96
  v45 := Try.zeroValue96
  t46 := Try.underlying97
  a46 := Try.isAgg97
  z46 := Try.sizeOf97
  v46 := Try.zeroValue97
  t50 := Try.underlying101
  a50 := Try.isAgg101
  z50 := Try.sizeOf101
  v50 := Try.zeroValue101
  t53 := Try.underlying104
  a53 := Try.isAgg104
  z53 := Try.sizeOf104
  v53 := Try.zeroValue104
  t55 := Try.underlying67
  a55 := Try.isAgg67
  z55 := Try.sizeOf67
  v55 := Try.zeroValue67
  t66 := Try.underlying106
  a66 := Try.isAgg106
  z66 := Try.sizeOf106
  v66 := Try.zeroValue106
  t70 := Try.underlying109
  a70 := Try.isAgg109
  z70 := Try.sizeOf109
  v70 := Try.zeroValue109
  t76 := Try.underlying111
  a76 := Try.isAgg111
  z76 := Try.sizeOf111
  v76 := Try.zeroValue111
  t77 := Try.underlying112
  a77 := Try.isAgg112
  z77 := Try.sizeOf112
  v77 := Try.zeroValue112 }
def Try.laysSlF06_f50_ren : Go.Shelf.Ren := ⟨fun | 6 => 50 | 15 => 62 | 14 => 61 | 28 => 72 | 29 => 73 | 20 => 64 | 21 => 65 | 22 => 66 | 23 => 67 | 24 => 68 | 25 => 69 | 26 => 70 | 27 => 71 | 46 => 74 | 47 => 75 | 48 => 76 | 49 => 77 | 50 => 78 | 57 => 79 | n => n, fun | 22 => 45 | 24 => 9 | 25 => 52 | 3 => 3 | 39 => 31 | 0 => 0 | 53 => 104 | 55 => 67 | 4 => 4 | 46 => 97 | 45 => 96 | 50 => 101 | 5 => 5 | 9 => 9 | 66 => 106 | 70 => 109 | 76 => 111 | 77 => 112 | n => n, fun | n => n⟩
theorem Try.laysSlF06_f50 : Go.Proofs.SlLaysF0.n6 Try.prog Try.laysSlF06_f50_ren := {
  mixed := by kernel_rfl
  f6 := ⟨Try.f50.name, by decide, Try.func50.trans (congrArg some (by kernel_rfl))⟩
  f14 := ⟨Try.f61.name, by decide, Try.func61.trans (congrArg some (by kernel_rfl))⟩
  f15 := Try.func62.trans (congrArg some (by kernel_rfl))
  f20 := ⟨Try.f64.name, by decide, Try.func64.trans (congrArg some (by kernel_rfl))⟩
  f21 := ⟨Try.f65.name, by decide, Try.func65.trans (congrArg some (by kernel_rfl))⟩
  f22 := ⟨Try.f66.name, by decide, Try.func66.trans (congrArg some (by kernel_rfl))⟩
  f23 := ⟨Try.f67.name, by decide, Try.func67.trans (congrArg some (by kernel_rfl))⟩
  f24 := ⟨Try.f68.name, by decide, Try.func68.trans (congrArg some (by kernel_rfl))⟩
  f25 := ⟨Try.f69.name, by decide, Try.func69.trans (congrArg some (by kernel_rfl))⟩
  f26 := ⟨Try.f70.name, by decide, Try.func70.trans (congrArg some (by kernel_rfl))⟩
  f27 := ⟨Try.f71.name, by decide, Try.func71.trans (congrArg some (by kernel_rfl))⟩
  f28 := Try.func72.trans (congrArg some (by kernel_rfl))
  f29 := Try.func73.trans (congrArg some (by kernel_rfl))
  f46 := ⟨Try.f74.name, by decide, Try.func74.trans (congrArg some (by kernel_rfl))⟩
  f47 := Try.func75.trans (congrArg some (by kernel_rfl))
  f48 := Try.func76.trans (congrArg some (by kernel_rfl))
  f49 := ⟨Try.f77.name, by decide, Try.func77.trans (congrArg some (by kernel_rfl))⟩
  f50 := ⟨Try.f78.name, by decide, Try.func78.trans (congrArg some (by kernel_rfl))⟩
  f57 := ⟨Try.f79.name, by decide, Try.func79.trans (congrArg some (by kernel_rfl))⟩
  t0 := Try.underlying0
  a0 := Try.isAgg0
  z0 := Try.sizeOf0
  v0 := Try.zeroValue0
  t3 := Try.underlying3
  a3 := Try.isAgg3
  z3 := Try.sizeOf3
  v3 := Try.zeroValue3
  t4 := Try.underlying4
  a4 := Try.isAgg4
  z4 := Try.sizeOf4
  v4 := Try.zeroValue4
  t5 := Try.underlying5
  a5 := Try.isAgg5
  z5 := Try.sizeOf5
  v5 := Try.zeroValue5
  t9 := Try.underlying9
  a9 := Try.isAgg9
  z9 := Try.sizeOf9
  v9 := Try.zeroValue9
  t22 := Try.underlying45
  a22 := Try.isAgg45
  z22 := Try.sizeOf45
  v22 := Try.zeroValue45
  t25 := Try.underlying52
  a25 := Try.isAgg52
  z25 := Try.sizeOf52
  v25 := Try.zeroValue52
  t39 := Try.underlying31
  a39 := Try.isAgg31
  z39 := Try.sizeOf31
  v39 := Try.zeroValue31
  t45 := Try.underlying96
  a45 := Try.isAgg96
  z45 := Try.sizeOf96
  v45 := Try.zeroValue96
  t46 := Try.underlying97
  a46 := Try.isAgg97
  z46 := Try.sizeOf97
  v46 := Try.zeroValue97
  t50 := Try.underlying101
  a50 := Try.isAgg101
  z50 := Try.sizeOf101
  v50 := Try.zeroValue101
  t53 := Try.underlying104
  a53 := Try.isAgg104
  z53 := Try.sizeOf104
  v53 := Try.zeroValue104
  t55 := Try.underlying67
  a55 := Try.isAgg67
  z55 := Try.sizeOf67
  v55 := Try.zeroValue67
  t66 := Try.underlying106
  a66 := Try.isAgg106
  z66 := Try.sizeOf106
  v66 := Try.zeroValue106
  t70 := Try.underlying109
  a70 := Try.isAgg109
  z70 := Try.sizeOf109
  v70 := Try.zeroValue109
  t76 := Try.underlying111
  a76 := Try.isAgg111
  z76 := Try.sizeOf111
  v76 := Try.zeroValue111
  t77 := Try.underlying112
  a77 := Try.isAgg112
  z77 := Try.sizeOf112
  v77 := Try.zeroValue112 }
open Go.RowKit Go.Lib Go.Sort in
theorem Try.slices_SortFunc_none {α : Type} [Inhabited α] (p : Option Addr) (cap : Nat) (fv : Value) (w : World) :
    Calls Try.prog 50 #[.slice p 0 cap, fv] w fun e w' => e = .returned (.tuple #[]) ∧ w' = w := AnyF.slices_SortFunc_none Try.laysSlF06_f50 p cap fv w
open Go.RowKit Go.Lib Go.Sort in
theorem Try.slices_SortFunc_total {α : Type} [Inhabited α] (enc : α → Value) (h1 : OneCell enc) (cf : α → α → Int) (hO : SWO (ltOf cf)) (g : Nat) (cb : Array Value) (blk off cap : Nat) (d : Array α) (w : World) (eg : ∀ args w, (callFunc g args).run Try.prog w = .ok (.enter g args) w) (hcmp : CmpLays1 Try.prog g cb enc cf blk off d.size w) (hH : Holds enc w blk off d) (hblk : blk < w.heap.size) (hsz : d.size < 4611686018427387904) (hT : ∀ x y, (ltOf cf) x y = false → (ltOf cf) y x = false → x = y) :
    Calls Try.prog 50 #[.slice (some ⟨blk, off, none⟩) d.size cap, .func (.func g) #[] cb] w fun e w' =>
      e = .returned (.tuple #[]) ∧ ∃ n os, w' = sortWorld enc w blk off n (d.toList.mergeSort fun x y => !(ltOf cf) y x).toArray os := Any.slices_SortFunc_total Try.laysSlF6_f50 enc h1 cf hO g cb blk off cap d w eg hcmp hH hblk hsz hT
def Try.laysKeys_ren : Go.Shelf.Ren := ⟨fun | 10 => 51 | n => n, fun | 33 => 80 | 23 => 42 | 0 => 0 | 4 => 4 | 26 => 9 | 3 => 3 | n => n, fun | n => n⟩
theorem Try.laysKeys : Go.Proofs.SlLaysZ.n10 Try.prog Try.laysKeys_ren := {
  mixed := by kernel_rfl
  f10 := ⟨Try.f51.name, by decide, Try.func51.trans (congrArg some (by kernel_rfl))⟩
  t0 := Try.underlying0
  a0 := Try.isAgg0
  z0 := Try.sizeOf0
  v0 := Try.zeroValue0
  t4 := Try.underlying4
  a4 := Try.isAgg4
  z4 := Try.sizeOf4
  v4 := Try.zeroValue4
  t23 := Try.underlying42
  a23 := Try.isAgg42
  z23 := Try.sizeOf42
  v23 := Try.zeroValue42
  t26 := Try.underlying9
  a26 := Try.isAgg9
  z26 := Try.sizeOf9
  v26 := Try.zeroValue9
  t33 := Try.underlying80
  a33 := Try.isAgg80
  z33 := Try.sizeOf80
  v33 := Try.zeroValue80 }
end Go.Proofs
