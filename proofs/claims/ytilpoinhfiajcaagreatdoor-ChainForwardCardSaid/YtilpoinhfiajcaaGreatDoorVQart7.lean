import Derived.Laws.StructEq
import Derived.Lib.AppendStr
import Derived.Lib.SlBytesConst
import Derived.Laws.Concat
import Derived.Laws.IdiomCopy
import Derived.Laws.Externs
import Derived.Test.YtilpoinhfiajcaaGreatDoorVQart6
set_option linter.unusedVariables false
set_option linter.unusedSimpArgs false
/- Things of one's own, all told at once: what a call has made so far, apart from each other and from all that is old. -/
namespace Go.Proofs.YtilpoinhfiajcaaGreatDoorV
open Go Go.RowKit
/-- A thing: the blocks that it stands on, and what is told of it. -/
structure It where
  ft : Nat → Prop
  ok : World → Prop
  ce : ∀ (w : World) (k : Nat), ok w → ft k → ∃ c e f, w.heap[k]? = some (Obj.cells c e f)
  st : ∀ (w w' : World) S, ok w → Ch S w w' → (∀ k i, ft k → ¬ S k i) → ok w'
  gr : ∀ w w' : World, ok w → w.heap.size ≤ w'.heap.size → (∀ (k : Nat) c e f, w.heap[k]? = some (Obj.cells c e f) → w'.heap[k]? = w.heap[k]?) → ok w'
theorem It.lt (it : It) (w : World) (k : Nat) (h : it.ok w) (hk : it.ft k) : k < w.heap.size := let ⟨_, _, _, hc⟩ := it.ce w k h hk; hlt hc
def Fr (w0 w : World) : List It → Prop
  | [] => Ev w0 w
  | it :: F => it.ok w ∧ (∀ k, it.ft k → w0.heap.size ≤ k) ∧ (∀ jt ∈ F, ∀ k, it.ft k → ¬ jt.ft k) ∧ Fr w0 w F
section
variable {w0 w w' : World} {F : List It}
theorem Fr.old : ∀ {F : List It}, Fr w0 w F → Ev w0 w
  | [], h => h
  | _ :: _, h => Fr.old h.2.2.2
theorem Fr.start (w : World) : Fr w w [] := Ch.refl _ w
theorem Fr.mem : ∀ {F : List It} {it : It}, Fr w0 w F → it ∈ F → it.ok w ∧ ∀ k, it.ft k → w0.heap.size ≤ k
  | _ :: _, _, h, hm => by
    rcases List.mem_cons.1 hm with rfl | hm
    · exact ⟨h.1, h.2.1⟩
    · exact Fr.mem h.2.2.2 hm
theorem Fr.get {it : It} (h : Fr w0 w F) (i : Nat) (hi : F[i]? = some it) : it.ok w := (h.mem (List.mem_of_getElem? hi)).1
theorem Fr.ft {it : It} (h : Fr w0 w F) (i : Nat) (hi : F[i]? = some it) {k : Nat} (hk : it.ft k) : w0.heap.size ≤ k ∧ k < w.heap.size :=
  ⟨(h.mem (List.mem_of_getElem? hi)).2 k hk, it.lt w k (h.get i hi) hk⟩
/-- A change of what is apart from all of them, and of no old thing. -/
theorem Fr.ch {S : SS} : ∀ {F : List It}, Fr w0 w F → Ch S w w' → (∀ k i, S k i → w0.heap.size ≤ k) → (∀ it ∈ F, ∀ k i, it.ft k → ¬ S k i) → Fr w0 w' F
  | [], h, hc, h0, _ => Ev.new h hc h0
  | it :: F, h, hc, h0, hs => ⟨it.st w w' S h.1 hc (hs it (by simp)), h.2.1, h.2.2.1, Fr.ch h.2.2.2 hc h0 fun jt hj => hs jt (by simp [hj])⟩
theorem Fr.ev (h : Fr w0 w F) (he : Ev w w') : Fr w0 w' F := h.ch he (fun _ _ h => h.elim) fun _ _ _ _ _ h => h
theorem Fr.drew (h : Fr w0 w F) : Fr w0 w.drew F := h.ev (Ev.drew0 w)
/-- A new thing. -/
theorem Fr.new {jt : It} (h : Fr w0 w F) (he : Ev w w') (ok : jt.ok w') (hf : ∀ k, jt.ft k → w.heap.size ≤ k) : Fr w0 w' (jt :: F) :=
  ⟨ok, fun k hk => Nat.le_trans h.old.size (hf k hk), fun it hi k hk hik => by
    have := hf k hk
    have := it.lt w k (h.mem hi).1 hik
    omega, h.ev he⟩
theorem Fr.set_apart {it jt : It} : ∀ {F : List It} {i : Nat}, Fr w0 w F → F[i]? = some it → (∀ k, jt.ft k → it.ft k ∨ w.heap.size ≤ k) → ∀ {S : SS}, Ch S w w' → (∀ k i, S k i → it.ft k ∨ w.heap.size ≤ k) → jt.ok w' → Fr w0 w' (F.set i jt)
  | it' :: F, 0, h, hi, hf, S, hc, hS, ok => by
    simp only [List.getElem?_cons_zero, Option.some.injEq] at hi
    subst hi
    have ho := h.2.2.2.old.size
    refine ⟨ok, fun k hk => ?_, fun jt' hj k hk hjk => ?_, h.2.2.2.ch hc (fun k i hs => ?_) fun jt' hj k i hjk hs => ?_⟩
    · rcases hf k hk with h1 | h1
      · exact h.2.1 k h1
      · omega
    · rcases hf k hk with h1 | h1
      · exact h.2.2.1 jt' hj k h1 hjk
      · have := jt'.lt w k (h.2.2.2.mem hj).1 hjk; omega
    · rcases hS k i hs with h1 | h1
      · exact h.2.1 k h1
      · omega
    · rcases hS k i hs with h1 | h1
      · exact h.2.2.1 jt' hj k h1 hjk
      · have := jt'.lt w k (h.2.2.2.mem hj).1 hjk; omega
  | it' :: F, i + 1, h, hi, hf, S, hc, hS, ok => by
    simp only [List.getElem?_cons_succ] at hi
    have hm := List.mem_of_getElem? hi
    refine ⟨it'.st w w' S h.1 hc fun k i hk hs => ?_, h.2.1, fun jt' hj k hk hjk => ?_, Fr.set_apart h.2.2.2 hi hf hc hS ok⟩
    · rcases hS k i hs with h1 | h1
      · exact h.2.2.1 it hm k hk h1
      · have := it'.lt w k h.1 hk; omega
    · rcases List.mem_or_eq_of_mem_set hj with hj | rfl
      · exact h.2.2.1 jt' hj k hk hjk
      · rcases hf k hjk with h1 | h1
        · exact h.2.2.1 it hm k hk h1
        · have := it'.lt w k h.1 hk; omega
/-- A thing that changes. -/
theorem Fr.upd {it jt : It} {S : SS} (h : Fr w0 w F) (i : Nat) (hi : F[i]? = some it) (hc : Ch S w w') (hS : ∀ k i, S k i → it.ft k ∨ w.heap.size ≤ k) (ok : jt.ok w') (hf : ∀ k, jt.ft k → it.ft k ∨ w.heap.size ≤ k) : Fr w0 w' (F.set i jt) :=
  h.set_apart hi hf hc hS ok
theorem Fr.apart {it jt : It} : ∀ {F : List It} {i j : Nat}, Fr w0 w F → F[i]? = some it → F[j]? = some jt → i ≠ j → ∀ k, it.ft k → ¬ jt.ft k
  | _ :: _, 0, 0, _, _, _, hn, _, _ => absurd rfl hn
  | a :: F, 0, j + 1, h, hi, hj, _, k, hk => by
    simp only [List.getElem?_cons_zero, Option.some.injEq] at hi
    subst hi
    exact h.2.2.1 jt (List.mem_of_getElem? (by simpa using hj)) k hk
  | a :: F, i + 1, 0, h, hi, hj, _, k, hk => by
    simp only [List.getElem?_cons_zero, Option.some.injEq] at hj
    subst hj
    exact fun hk2 => h.2.2.1 it (List.mem_of_getElem? (by simpa using hi)) k hk2 hk
  | a :: F, i + 1, j + 1, h, hi, hj, hn, k, hk => Fr.apart h.2.2.2 (by simpa using hi) (by simpa using hj) (by omega) k hk
/-- Blocks that are no cells, and no old ones, may turn. -/
theorem Fr.gr : ∀ {F : List It}, Fr w0 w F → w.heap.size ≤ w'.heap.size → w'.os = w.os → w'.tape = w.tape → w'.output = w.output → (∀ k : Nat, k < w0.heap.size → w'.heap[k]? = w.heap[k]?) → (∀ (k : Nat) c e f, w.heap[k]? = some (Obj.cells c e f) → w'.heap[k]? = w.heap[k]?) → Fr w0 w' F
  | [], h, hs, h1, h2, h3, hb, hc => ⟨h1.trans h.os, h2.trans h.tape, h3.trans h.output, Nat.le_trans h.size hs, fun k hk _ => (hb k hk).trans (h.blk k hk fun _ h => h),
      fun k c e f hk => ⟨c, by rw [hb k (hlt hk), h.blk k (hlt hk) fun _ h => h]; exact hk, rfl, fun _ _ => rfl⟩, fun k o hk _ => by rw [hb k (hlt hk), h.blk k (hlt hk) fun _ h => h]; exact hk⟩
  | it :: F, h, hs, h1, h2, h3, hb, hc => ⟨it.gr w w' h.1 hs hc, h.2.1, h.2.2.1, Fr.gr h.2.2.2 hs h1 h2 h3 hb hc⟩
theorem Fr.eraseM : ∀ {F : List It} {i : Nat}, Fr w0 w F → Fr w0 w (F.eraseIdx i)
  | [], _, h => by simpa using h
  | _ :: _, 0, h => h.2.2.2
  | it :: F, i + 1, h => ⟨h.1, h.2.1, fun jt hj => h.2.2.1 jt (List.mem_of_mem_eraseIdx hj), Fr.eraseM h.2.2.2⟩
/-- A thing that is let go. -/
theorem Fr.drop (h : Fr w0 w F) (i : Nat) : Fr w0 w (F.eraseIdx i) := h.eraseM
end
theorem gIf_nndec {p : Prop} [Decidable p] {A B : Prop} (ha : p → A) (hb : ¬ p → B) : gIf (!(!decide p)) A B := gIf_of (fun h => ha (by simpa using h)) (fun h => hb (by simpa using h))
theorem gIf_b {b : Bool} {A B : Prop} (ha : b = true → A) (hb : b = false → B) : gIf b A B := gIf_of ha hb
theorem gIf_nb {b : Bool} {A B : Prop} (ha : b = false → A) (hb : b = true → B) : gIf (!b) A B := by cases b; exact ha rfl; exact hb rfl
/-! ### Things -/
theorem St.gr {w w' : World} {ad : Addr} {cs : List Value} (h : St w ad cs) (hc : ∀ (k : Nat) c e f, w.heap[k]? = some (Obj.cells c e f) → w'.heap[k]? = w.heap[k]?) : St w' ad cs := by
  obtain ⟨h0, c, e, h1, h2⟩ := h; exact ⟨h0, c, e, by rw [hc _ _ _ _ h1]; exact h1, h2⟩
theorem ON.gr {k : IntKind} {e : TypeId} {w w' : World} {B : Nat} {v : Value} {xs : List Int} (h : ON k e w B v xs) (hc : ∀ (k : Nat) c e f, w.heap[k]? = some (Obj.cells c e f) → w'.heap[k]? = w.heap[k]?) : ON k e w' B v xs := by
  refine ⟨⟨h.1.1, ?_⟩, h.2⟩
  rcases h.1.2 with hn | ⟨g, cap, cur, rfl, hb, hg, r⟩
  · exact .inl hn
  · exact .inr ⟨g, cap, cur, rfl, hb, by rw [hc _ _ _ _ hg]; exact hg, r⟩
theorem ON.ce {k : IntKind} {e : TypeId} {w : World} {B : Nat} {v : Value} {xs : List Int} (h : ON k e w B v xs) {g : Nat} (hg : v.ownBlock = some g) : ∃ c e f, w.heap[g]? = some (Obj.cells c e f) := by
  rcases h.1.2 with ⟨rfl, _⟩ | ⟨g', cap, cur, rfl, hb, hh, r⟩
  · cases hg
  · simp [Value.ownBlock] at hg; subst hg; exact ⟨_, _, _, hh⟩
theorem St.ce {w : World} {ad : Addr} {cs : List Value} (h : St w ad cs) : ∃ c e f, w.heap[ad.block]? = some (Obj.cells c e f) := let ⟨_, c, e, h1, _⟩ := h; ⟨c, e, _, h1⟩
def sIt (ad : Addr) (cs : List Value) : It := ⟨fun k => k = ad.block, fun w => St w ad cs, fun _ _ h hk => by rw [hk]; exact h.ce, fun _ _ _ h hc hs => h.ch hc fun j _ => hs _ _ rfl, fun _ _ h _ hc => h.gr hc⟩
def oIt (k : IntKind) (e : TypeId) (v : Value) (xs : List Int) : It := ⟨fun b => v.ownBlock = some b, fun w => ON k e w 0 v xs, fun _ _ h hk => h.ce hk, fun _ _ _ h hc hs => h.ch hc hs, fun _ _ h _ hc => h.gr hc⟩
def wIt (e : TypeId) (ad : Addr) (v : Value) (xs : List Int) : It := ⟨fun k => k = ad.block ∨ v.ownBlock = some k, fun w => Wr e w ad v xs, fun _ _ h hk => by rcases hk with hk | hk; (rw [hk]; exact h.1.ce); exact h.2.1.ce hk, fun _ _ _ h hc hs => h.ch hc fun k i hk => hs k i hk, fun _ _ h _ hc => ⟨h.1.gr hc, h.2.1.gr hc, h.2.2⟩⟩
section
variable {P : Program} {w0 w : World} {F : List It}
theorem Fr.cell {ad : Addr} {cs : List Value} (h : Fr w0 w F) (i : Nat) (j : Nat) {u : Value} (hi : F[i]? = some (sIt ad cs)) (hj : cs[j]? = some u) : w.cell? (ad.add j) = some u := St.cell (h.get i hi) hj
theorem fAlloc {t : TypeId} {z : Value} {K : Addr → World → Prop} (h : Fr w0 w F) (hz : (P.info? t).bind (·.zero) = some z) (hk : ∀ ad w', Fr w0 w' (sIt ad z.cells.toList :: F) → K ad w') : gAlloc P t w K :=
  gAlloc_of hz fun ad w' he ha _ hS => hk ad w' (h.new he hS fun k hk => by have hk : k = ad.block := hk; subst ha; dsimp only at hk; omega)
theorem fBox {t : TypeId} {v : Value} {K : Addr → World → Prop} (h : Fr w0 w F) (hk : ∀ ad w', Fr w0 w' (sIt ad v.cells.toList :: F) → K ad w') : gBox P t v w K :=
  gBox_of fun ad w' he ha _ hS => hk ad w' (h.new he hS fun k hk => by have hk : k = ad.block := hk; subst ha; dsimp only at hk; omega)
theorem fStore {t : TypeId} {ad : Addr} {cs : List Value} {u : Value} {K : World → Prop} (h : Fr w0 w F) (i j : Nat) (hi : F[i]? = some (sIt ad cs)) (hk : ∀ w', Fr w0 w' (F.set i (sIt ad (cs.set j u))) → K w') (hj : j < cs.length := by exact Nat.le_of_ble_eq_true rfl) (hu : u.oneCell' = true := by rfl) (hcl : u.cells = #[u] := by rfl) (ht : flat1 P t = true := by kernel_rfl) :
    gStore P t (.pointer (some (ad.add j))) u w K :=
  gStore_st (h.get i hi) hj hu hcl (fun w' hc _ hS => hk w' (h.upd i hi hc (fun k _ hh => .inl (by
    have h0 : ad.spot = none := (show St w ad cs from h.get i hi).1
    have h1 := hh.1
    rw [Addr.add_none h0] at h1; exact h1)) hS fun k hk => .inl hk)) ht
theorem fStoreA {t : TypeId} {ad : Addr} {cs : List Value} {ds : Array Value} {K : World → Prop} (h : Fr w0 w F) (i : Nat) (hi : F[i]? = some (sIt ad cs)) (hk : ∀ w', Fr w0 w' (F.set i (sIt ad ds.toList)) → K w') (hj : ds.size = cs.length := by rfl) (h1 : ∀ u ∈ ds.toList, u.oneCell' = true := by simp [Value.oneCell']) (ht : sizeIs P t ds.size = true := by kernel_rfl) :
    gStore P t (.pointer (some ad)) (.agg ds) w K :=
  gStore_agg0 (h.get i hi) (by omega) h1 (fun w' hc _ hS => hk w' (h.upd i hi hc (fun k _ hh => .inl hh.1) (by
    have : cs.drop ds.size = [] := List.drop_of_length_le (by omega)
    rw [this, List.append_nil] at hS; exact hS) fun k hk => .inl hk)) ht
theorem fLoadA {t : TypeId} {cks : List Ck} {ad : Addr} {K : TF cks Prop} {cs : List Value} (h : Fr w0 w F) (i : Nat) (hi : F[i]? = some (sIt ad cs)) (hk : tapp False cks K cs) (hl : cs.length = cks.length := by rfl) (ht : aggB P t cs.length = true := by kernel_rfl) : gLoad P t (.part (.agg cks)) (.pointer (some ad)) w K :=
  gLoad_agg cs (fun j u hj => h.cell i j hi hj) hk hl ht
theorem fLoad_i {t : TypeId} {k : IntKind} {n : Int} {ad : Addr} {cs : List Value} {K : Int → Prop} (h : Fr w0 w F) (i j : Nat) (hi : F[i]? = some (sIt ad cs)) (hj : cs[j]? = some (.int k n)) (hk : K n) (ht : flat P t = true := by kernel_rfl) : gLoad P t (shI k) (.pointer (some (ad.add j))) w K := gLoad_i (h.cell i j hi hj) hk ht
theorem fLoad_v {t : TypeId} {v : Value} {ad : Addr} {cs : List Value} {K : Value → Prop} (h : Fr w0 w F) (i j : Nat) (hi : F[i]? = some (sIt ad cs)) (hj : cs[j]? = some v) (hk : K v) (ht : flat P t = true := by kernel_rfl) : gLoad P t shV (.pointer (some (ad.add j))) w K := gLoad_v (h.cell i j hi hj) hk ht
theorem fLoad_p {t : TypeId} {v : Option Addr} {ad : Addr} {cs : List Value} {K : Option Addr → Prop} (h : Fr w0 w F) (i j : Nat) (hi : F[i]? = some (sIt ad cs)) (hj : cs[j]? = some (.pointer v)) (hk : K v) (ht : flat P t = true := by kernel_rfl) : gLoad P t shP (.pointer (some (ad.add j))) w K := gLoad_p (h.cell i j hi hj) hk ht
theorem fLit_n {t : TypeId} {n : Nat} {k : IntKind} {parts : Array (Nat × Value)} {K : Value → World → Prop} (xs : List Int) (h : Fr w0 w F) (hp : parts.toList = enumV 0 (xs.map (.int k))) (hn : xs.length = n) (hr : inR k xs)
    (hk : ∀ v w', Fr w0 w' (oIt k (elOf P t) v xs :: F) → K v w') (hm : n ≤ 1000000 := by decide) (ht : sl1 P t = true := by kernel_rfl) : gLit P t n parts w K :=
  gLit_n xs hp hn hm hr (fun v w' he ho => hk v w' (h.new he (ho.low (Nat.zero_le _)) fun k hk => (ho.base hk).1)) ht
/-- Appending to a slice of one's own: it is another one. -/
theorem fApp {t ty : TypeId} {k : IntKind} {v y : Value} {xs ys : List Int} {K : Value → World → Prop} (h : Fr w0 w F) (i : Nat) (hi : F[i]? = some (oIt k (elOf P t) v xs)) (hy : Nm k w y ys) (hb : (xs.length + ys.length) * 8 ≤ 140737488355328)
    (hk : ∀ v' w', Fr w0 w' (F.set i (oIt k (elOf P t) v' (xs ++ ys))) → K v' w') (ht : slInt P t k = true := by kernel_rfl) : gApp P #[t, t] ty #[v, y] w K :=
  gApp_on (h.get i hi) hy hb (Nat.zero_le _) (fun v' w' ho hc hm => hk v' w' (h.upd i hi hc (fun k _ hh => .inl hh) ho fun k hk => by
    rcases hm with hm | hm
    · exact .inl (by have hk : v'.ownBlock = some k := hk; rw [hm] at hk; exact hk)
    · exact .inr (hm k hk))) ht
/-- Appending to nothing. -/
theorem fApp0 {t ty : TypeId} {k : IntKind} {y : Value} {ys : List Int} {K : Value → World → Prop} (h : Fr w0 w F) (hy : Nm k w y ys) (hb : ys.length * 8 ≤ 140737488355328)
    (hk : ∀ v' w', Fr w0 w' (oIt k (elOf P t) v' ys :: F) → K v' w') (ht : slInt P t k = true := by kernel_rfl) : gApp P #[t, t] ty #[.slice none 0 0, y] w K :=
  gApp_on (ON.nil k (elOf P t) w w.heap.size) hy (by simpa using hb) (Nat.le_refl _) (fun v' w' ho hc hm => hk v' w' (h.new (hc.mono fun _ _ _ hh => by cases hh) (by rw [List.nil_append] at ho; exact ho.low (Nat.zero_le _)) fun k hk => (ho.base hk).1)) ht
theorem on_new {k : IntKind} {e : TypeId} {B : Nat} {v : Value} {xs : List Int} (ho : ON k e w 0 v xs) (hb : ∀ g, v.ownBlock = some g → B ≤ g) : ON k e w B v xs := by
  refine ⟨⟨ho.1.1, ?_⟩, ho.2⟩
  rcases ho.1.2 with hn | ⟨g, cap, cur, rfl, _, r⟩
  · exact .inl hn
  · exact .inr ⟨g, cap, cur, rfl, hb g rfl, r⟩
theorem Fr.on {k : IntKind} {e : TypeId} {v : Value} {xs : List Int} (h : Fr w0 w F) (i : Nat) (hi : F[i]? = some (oIt k e v xs)) : ON k e w w0.heap.size v xs := by
  have ho : ON k e w 0 v xs := h.get i hi
  refine ⟨⟨ho.1.1, ?_⟩, ho.2⟩
  rcases ho.1.2 with hn | ⟨g, cap, cur, rfl, hb, r⟩
  · exact .inl hn
  · exact .inr ⟨g, cap, cur, rfl, (h.ft i hi (k := g) rfl).1, r⟩
theorem Fr.nm {k : IntKind} {e : TypeId} {v : Value} {xs : List Int} (h : Fr w0 w F) (i : Nat) (hi : F[i]? = some (oIt k e v xs)) : Nm k w v xs := (h.on i hi).nm
theorem Fr.nil0 (h : Fr w0 w F) (k : IntKind) (e : TypeId) : Fr w0 w (oIt k e (.slice none 0 0) [] :: F) :=
  h.new (Ch.refl _ w) (ON.nil k e w 0) fun _ hk => by cases hk
/-- A new slice that a call hands back. -/
theorem Fr.newO {k : IntKind} {e : TypeId} {w' : World} {v : Value} {xs : List Int} (h : Fr w0 w F) (he : Ev w w') (ho : ON k e w' w.heap.size v xs) : Fr w0 w' (oIt k e v xs :: F) :=
  h.new he (ho.low (Nat.zero_le _)) fun _ hk => (ho.base hk).1

/-! ### Structs of numbers, held against each other -/
end
end Go.Proofs.YtilpoinhfiajcaaGreatDoorV

/- Nodes, sixth part: literals of structs, places of arrays, []byte of constant texts, appending texts. -/
namespace Go.Proofs.YtilpoinhfiajcaaGreatDoorV
open Go Go.RowKit
theorem getD_app_l {α : Type} {l r : List α} {i : Nat} {d : α} (h : i < l.length) : (l ++ r).getD i d = l.getD i d := by simp [List.getD_eq_getElem?_getD, List.getElem?_append_left h]
theorem getD_app_r {α : Type} {l r : List α} {i : Nat} {d : α} (h : l.length ≤ i) : (l ++ r).getD i d = r.getD (i - l.length) d := by simp [List.getD_eq_getElem?_getD, List.getElem?_append_right h]
section
variable {P : Program} {w0 w : World} {F : List It}
/-! ### Literals of structs -/
theorem setAll_size (vs : List Value) : ∀ (c : Array Value) (a : Nat), (setAll c a vs).size = c.size := by
  induction vs with
  | nil => intros; rfl
  | cons v r ih => intro c a; simp only [setAll]; rw [ih]; simp
theorem setAll_app (xs ys : List Value) : ∀ (c : Array Value) (a : Nat), setAll c a (xs ++ ys) = setAll (setAll c a xs) (a + xs.length) ys := by
  induction xs with
  | nil => intros; rfl
  | cons v r ih => intro c a; simp only [List.cons_append, setAll]; rw [ih]; simp only [List.length_cons]; rw [Nat.add_right_comm, Nat.add_assoc]
def enumA : Nat → List (List Value) → List (Nat × Value)
  | _, [] => []
  | i, v :: r => (i, .agg v.toArray) :: enumA (i + 1) r
theorem fill_enumA (sz : Nat) (vss : List (List Value)) (h1 : ∀ v ∈ vss, v.length = sz) : ∀ (j : Nat) (cells : Array Value), (j + vss.length) * sz ≤ cells.size → Instr.fill (fun i => some (i * sz, sz)) cells (enumA j vss) = some (setAll cells (j * sz) vss.flatten) := by
  induction vss with
  | nil => intros; rfl
  | cons v r ih =>
    intro j cells h
    have hv := h1 v (by simp)
    have hle : j * sz + sz ≤ cells.size := by
      have : (j + 1) * sz ≤ (j + (v :: r).length) * sz := Nat.mul_le_mul_right _ (by simp)
      rw [Nat.succ_mul] at this; omega
    simp only [enumA, Instr.fill]
    rw [if_neg (by simp [Value.cells]; omega), fill_step, ih (fun v hv => h1 v (by simp [hv])) (j + 1) _ (by rw [setAll_size]; simp only [List.length_cons] at h; rwa [show j + 1 + r.length = j + (r.length + 1) by omega])]
    rw [List.flatten_cons, setAll_app, hv, Nat.succ_mul]; rfl
theorem fLit_sz {t : TypeId} {n : Nat} {parts : Array (Nat × Value)} {K : Value → World → Prop} (sz : Nat) (vss : List (List Value)) (h : Fr w0 w F) (hp : parts.toList = enumA 0 vss) (hn : vss.length = n) (h1 : ∀ v ∈ vss, v.length = sz)
    (hk : ∀ ad w', Fr w0 w' (sIt ad vss.flatten :: F) → K (.slice (some ad) n n) w') (hm : n * sz ≤ 1000000 := by decide) (ht : slSz P t sz = true := by kernel_rfl) (hz : (P.info? (elOf P t)).bind (·.zero) ≠ none := by decide) : gLit P t n parts w K := by
  obtain ⟨hu, i, hi, hsz⟩ := slSz_ok ht
  have hz' : ∃ z, i.zero = some z := by
    rw [hi] at hz; simp only [Option.bind_some] at hz
    cases hh : i.zero with
    | none => exact absurd hh hz
    | some z => exact ⟨z, rfl⟩
  obtain ⟨z, hz⟩ := hz'
  have hfl : vss.flatten.length = n * sz := by
    subst hn; clear hp hk hm
    induction vss with
    | nil => simp
    | cons v r ih => simp only [List.flatten_cons, List.length_append, h1 v (by simp), ih (fun v hv => h1 v (by simp [hv])), List.length_cons, Nat.succ_mul]; omega
  obtain ⟨c0, hc0, hrun⟩ : ∃ c0 : Array Value, c0.size = n * sz ∧ (Instr.buildSlice t n parts).run P w = .ok (.slice (some ⟨w.heap.size, 0, none⟩) n n) (w.alloc (.cells (setAll c0 0 vss.flatten) (elOf P t))) := by
    simp only [Instr.buildSlice, Sem.run_bind, run_underlying hu, Result.andThen_ok, sizeOf, typeInfo, run_program, hi, Sem.run_pure, hsz]
    rw [if_neg (by omega)]
    by_cases h0 : n * sz = 0
    · refine ⟨#[], by simp [h0], ?_⟩
      have he : ∀ f : Nat → Value, Array.map f (Array.range 0) = #[] := fun f => Array.eq_empty_of_size_eq_zero (by simp)
      rw [hp, h0]
      simp only [if_true, Sem.run_bind, Sem.run_pure, Result.andThen_ok, he]
      rw [fill_enumA sz vss h1 0 #[] (by rw [Nat.zero_add, hn, h0]; exact Nat.zero_le _)]
      simp [newRow]
    · refine ⟨(Array.range (n * sz)).map (z.cells[· % z.cells.size]!), by simp, ?_⟩
      rw [if_neg h0]
      simp only [Sem.run_bind, zeroValue, typeInfo, run_program, Result.andThen_ok, hi, hz, Sem.run_pure]
      rw [hp, fill_enumA sz vss h1 0 _ (by simp [hn])]
      simp [newRow]
  have hl := setAll_list vss.flatten 0 c0 (by omega)
  simp only [List.take_zero, List.nil_append] at hl
  refine ⟨_, _, hrun, hk _ _ (h.new (jt := sIt ⟨w.heap.size, 0, none⟩ vss.flatten) (Ev.alloc w _) ?_ fun k hk => by have hk : k = w.heap.size := hk; omega)⟩
  have := St.alloc w (setAll c0 0 vss.flatten) (elOf P t)
  rwa [hl] at this
/-- The place of an element, as an address. -/
theorem gIdx_lit {t : TypeId} {ki : IntKind} {sz n c : Nat} {ad : Addr} {i : Int} {K : Addr → Prop} (j : Nat) (hij : i = (j : Int)) (h1 : j < n) (hk : K (ad.add (j * sz))) (ht : slSz P t sz = true := by kernel_rfl) : gIdx P t (.slice (some ad) n c) (.int ki i) K := by
  obtain ⟨hu, ii, hi, hsz⟩ := slSz_ok ht
  subst hij
  refine ⟨ad.add (j * sz), fun w => ?_, hk⟩
  simp only [Instr.indexAt, asIntOf, Sem.run_bind, Sem.run_pure, Result.andThen_ok, run_underlying hu]
  rw [if_pos ⟨by omega, by omega⟩]
  simp [sizeOf, typeInfo, hi, hsz]
def arSz (P : Program) (t : TypeId) (n sz : Nat) : Bool := match P.underlying t with
  | some (.array m e) => Nat.beq m n && (match P.info? e with | some i => Nat.beq i.size sz | none => false)
  | _ => false
theorem gIdx_ar {t : TypeId} {ki : IntKind} {sz : Nat} {ad : Addr} {i : Int} {K : Addr → Prop} (n j : Nat) (hij : i = (j : Int)) (h1 : j < n) (hk : K (ad.add (j * sz))) (ht : arSz P t n sz = true := by kernel_rfl) : gIdx P t (.pointer (some ad)) (.int ki i) K := by
  unfold arSz at ht
  split at ht
  · rename_i m e hu
    simp only [Bool.and_eq_true] at ht
    have hm := Nat.eq_of_beq_eq_true ht.1
    subst hm; subst hij
    replace ht := ht.2
    split at ht
    · rename_i ii hi
      refine ⟨ad.add (j * sz), fun w => ?_, hk⟩
      simp only [Instr.indexAt, asIntOf, Sem.run_bind, Sem.run_pure, Result.andThen_ok, run_underlying hu, Instr.sureAddr]
      rw [if_pos ⟨by omega, by omega⟩]
      simp [sizeOf, typeInfo, hi, Nat.eq_of_beq_eq_true ht]
    · cases ht
  · cases ht
theorem gIdx_ar1 {t : TypeId} {ki : IntKind} {ad : Addr} {i : Int} {K : Addr → Prop} (n j : Nat) (hij : i = (j : Int)) (h1 : j < n) (hk : K (ad.add j)) (ht : arSz P t n 1 = true := by kernel_rfl) : gIdx P t (.pointer (some ad)) (.int ki i) K :=
  gIdx_ar (sz := 1) n j hij h1 (by rwa [Nat.mul_one]) ht
/-! ### []byte of a constant text -/
/-- Its row is marked as one that stands for a text: it has no room. -/
def Cn (e : TypeId) (w : World) (v : Value) (xs : List Int) : Prop := ∃ g, v = .slice (some ⟨g, 0, none⟩) xs.length xs.length ∧ w.heap[g]? = some (.cells (xs.map (Value.int .u8)).toArray e (xs.length, xs.length + 1)) ∧ inR .u8 xs
theorem Cn.ch {e : TypeId} {S : SS} {w' : World} {v : Value} {xs : List Int} (h : Cn e w v xs) (hc : Ch S w w') (hs : ∀ k i, v.ownBlock = some k → ¬ S k i) : Cn e w' v xs := by
  obtain ⟨g, rfl, h1, h2⟩ := h
  exact ⟨g, rfl, by rw [hc.blk g (hlt h1) fun i => hs g i rfl]; exact h1, h2⟩
theorem Cn.lt {e : TypeId} {v : Value} {xs : List Int} (h : Cn e w v xs) {k : Nat} (hk : v.ownBlock = some k) : k < w.heap.size := by
  obtain ⟨g, rfl, h1, h2⟩ := h
  have : g = k := by simpa [Value.ownBlock] using hk
  subst this; exact hlt h1
theorem Cn.nm {e : TypeId} {v : Value} {xs : List Int} (h : Cn e w v xs) : Nm .u8 w v xs := by
  obtain ⟨g, rfl, h1, h2⟩ := h
  refine ⟨⟨some ⟨g, 0, none⟩, xs.length, rfl, Nat.le_refl _, by simp, fun ad ha j u hj => ?_, fun h => by cases h⟩, h2⟩
  injection ha with ha; subst ha
  rw [Addr.add_lit]
  simp [World.cell?, h1, hj]
def cIt (e : TypeId) (v : Value) (xs : List Int) : It := ⟨fun b => v.ownBlock = some b, fun w => Cn e w v xs, fun _ _ h hk => by
    obtain ⟨g, rfl, h1, _⟩ := h
    simp [Value.ownBlock] at hk; subst hk; exact ⟨_, _, _, h1⟩, fun _ _ _ h hc hs => h.ch hc hs, fun _ _ h _ hc => by
    obtain ⟨g, rfl, h1, h2⟩ := h; exact ⟨g, rfl, by rw [hc _ _ _ _ h1]; exact h1, h2⟩⟩
def slU8 (P : Program) (t : TypeId) : Bool := match P.underlying t with
  | some (.slice e) => (match P.underlying e with | some (.int .u8) => true | _ => false) && (match P.info? e with | some i => Nat.beq i.size 1 && i.zero.isSome | none => false)
  | _ => false
theorem slU8_ok {t : TypeId} (h : slU8 P t = true) : P.underlying t = some (.slice (elOf P t)) ∧ P.underlying (elOf P t) = some (.int .u8) ∧ ∃ i z, P.info? (elOf P t) = some i ∧ i.size = 1 ∧ i.zero = some z := by
  unfold slU8 at h
  split at h
  · rename_i e he
    have hel : elOf P t = e := by unfold elOf; rw [he]
    rw [hel]
    simp only [Bool.and_eq_true] at h
    obtain ⟨h1, h2⟩ := h
    split at h1
    · rename_i hu
      split at h2
      · rename_i i hi
        simp only [Bool.and_eq_true] at h2
        obtain ⟨z, hz⟩ := Option.isSome_iff_exists.1 h2.2
        exact ⟨he, hu, i, z, hi, Nat.eq_of_beq_eq_true h2.1, hz⟩
      · cases h2
    · cases h1
  · cases h
theorem fLitC {t : TypeId} {n : Nat} {parts : Array (Nat × Value)} {K : Value → World → Prop} (xs : List Int) (h : Fr w0 w F) (hp : parts.toList = enumV 0 (xs.map (.int .u8))) (hn : xs.length = n) (hr : inR .u8 xs)
    (hk : ∀ v w', Fr w0 w' (cIt (elOf P t) v xs :: F) → K v w') (hm : n ≤ 1000000 := by decide) (ht : slU8 P t = true := by kernel_rfl) : gLit P t n parts w fun v w1 => gConv P t t shV v w1 K := by
  obtain ⟨hu, hue, i, z, hi, hsz, hz⟩ := slU8_ok ht
  obtain ⟨c0, hc0, hrun⟩ : ∃ c0 : Array Value, c0.size = n ∧ (Instr.buildSlice t n parts).run P w = .ok (.slice (some ⟨w.heap.size, 0, none⟩) n n) (w.alloc (.cells (setAll c0 0 (xs.map (.int .u8))) (elOf P t))) := by
    simp only [Instr.buildSlice, Sem.run_bind, run_underlying hu, Result.andThen_ok, sizeOf, typeInfo, run_program, hi, Sem.run_pure, hsz, Nat.mul_one]
    rw [if_neg (by omega)]
    by_cases h0 : n = 0
    · subst h0
      have : xs = [] := List.eq_nil_of_length_eq_zero hn
      subst this
      refine ⟨#[], rfl, ?_⟩
      have he : ∀ f : Nat → Value, Array.map f (Array.range 0) = #[] := fun f => Array.eq_empty_of_size_eq_zero (by simp)
      rw [hp]
      simp [enumV, Instr.fill, newRow, setAll, he]
    · refine ⟨(Array.range n).map (z.cells[· % z.cells.size]!), by simp, ?_⟩
      rw [if_neg h0]
      simp only [Sem.run_bind, zeroValue, typeInfo, run_program, Result.andThen_ok, hi, hz, Sem.run_pure]
      rw [hp, show (fun i => some (i, 1)) = (fun i => some (i * 1, 1)) by funext i; rw [Nat.mul_one], fill_enum _ (fun v hv => by obtain ⟨x, _, rfl⟩ := List.mem_map.1 hv; rfl) 0 _ (by simp; omega)]
      simp [newRow]
  have hl := setAll_list (xs.map (.int .u8)) 0 c0 (by simp; omega)
  simp only [List.take_zero, List.nil_append] at hl
  have hc : setAll c0 0 (xs.map (.int .u8)) = (xs.map (Value.int .u8)).toArray := by have := congrArg List.toArray hl; simpa using this
  rw [hc] at hrun
  have hconv := Go.Lib.run_convert_bytes_const (P := P) w t (elOf P t) (xs.map (Value.int .u8)).toArray n n hu hue
  have hs : (xs.map (Value.int .u8)).toArray.size = xs.length := by simp
  rw [hs] at hconv
  refine ⟨_, _, hrun, _, _, hconv, hk _ _ (h.new (Ev.alloc w _) ⟨w.heap.size, by rw [hn], heap_alloc_new w _, hr⟩ fun k hk => ?_)⟩
  have : w.heap.size = k := by simpa [cIt, Value.ownBlock] using hk
  omega
/-! ### Texts put behind bytes -/
/-- A text's bytes. -/
def sOf (s : ByteArray) : List Int := s.data.toList.map fun b => (b.toNat : Int)
theorem sOf_u8 (s : ByteArray) : inR .u8 (sOf s) := fun x hx => by
  obtain ⟨b, _, rfl⟩ := List.mem_map.1 hx
  have := b.toNat_lt
  simp [IntKind.min, IntKind.max, IntKind.signed, IntKind.bits]; omega
theorem sOf_bsOf {xs : List Int} (h : inR .u8 xs) : sOf (bsOf xs) = xs := by
  unfold sOf bsOf
  simp only [List.map_map]
  conv => rhs; rw [← List.map_id xs]
  refine List.map_congr_left fun x hx => ?_
  have := h.u8 hx
  simp only [Function.comp_apply, id_eq, UInt8.toNat_ofNat']
  omega
theorem bsOf_sOf (s : ByteArray) : bsOf (sOf s) = s := by
  obtain ⟨⟨l⟩⟩ := s
  unfold sOf bsOf
  simp [Function.comp_def]
end
end Go.Proofs.YtilpoinhfiajcaaGreatDoorV

/- Small things that texts of functions share, second part. -/
namespace Go.Proofs.YtilpoinhfiajcaaGreatDoorV
open Go Go.RowKit
section
variable {w0 w : World} {F : List It} {f : FuncId} {args : Array Value}
/-- A call that hands back new bytes. -/
theorem fCallB {K : Value → World → Prop} {xs : List Int} (h : Fr w0 w F) (hc : Calls P f args w (NewB w xs)) (hk : ∀ v w', Fr w0 w' (oIt .u8 eB v xs :: F) → K v w') : gCall P f shV args w K :=
  gCall_v hc fun v w' ⟨h1, h2⟩ => hk v w' (h.newO h1 h2)
theorem fAppB {ty : TypeId} {b : Value} {K : Value → World → Prop} {xs : List Int} {x : Int} {parts : Array (Nat × Value)} (hp : parts = #[(0, .int .u8 x)]) (h : Fr w0 w (oIt .u8 eB b xs :: F)) (hx : 0 ≤ x ∧ x < 256) (hb : (xs.length + 1) * 8 ≤ 140737488355328) (hk : ∀ b' w', Fr w0 w' (oIt .u8 eB b' (xs ++ [x]) :: F) → K b' w') :
    gLit P t_sl_uint8 1 parts w fun l w1 => gApp P #[t_sl_uint8, t_sl_uint8] ty #[b, l] w1 K :=
  fLit_n [x] h (by rw [hp]; rfl) rfl (fun y hy => by simp at hy; subst hy; exact u8i hx) fun _ _ f1 => fApp f1 1 rfl (f1.nm 0 rfl) hb fun b' w' f2 => hk b' w' (f2.drop 0)
end
/-- Bytes, and whether there are any; bytes, and an error. -/
def TupB (w : World) (r : List Int × Bool) (e : Ending) (w' : World) : Prop := ∃ v, e = .returned (.tuple #[v, .bool r.2]) ∧ Ev w w' ∧ ON .u8 eB w' w.heap.size v r.1
section
variable {w0 w : World} {F : List It} {f : FuncId} {args : Array Value}
/-! ### Bytes that grow behind a pointer -/
theorem Fr.asW (h : Fr w0 w F) (i : Nat) {ad : Addr} {e : TypeId} (hi : F[i]? = some (sIt ad [.slice none 0 0])) : Fr w0 w (F.set i (wIt e ad (.slice none 0 0) [])) :=
  h.upd (S := No) i hi (Ch.refl _ w) (fun _ _ h => h.elim) ⟨h.get i hi, ON.nil _ _ _ _, fun h => by cases h⟩ fun k hk => .inl (by rcases hk with hk | hk; exact hk; cases hk)
theorem Fr.wr {w' : World} {ad : Addr} {e : TypeId} {v v' : Value} {xs ys : List Int} (h : Fr w0 w F) (i : Nat) (hi : F[i]? = some (wIt e ad v xs)) (g : WrS e w w' ad v v' ys) : Fr w0 w' (F.set i (wIt e ad v' ys)) :=
  h.upd i hi g.2.1 (fun k _ hh => .inl hh) g.1 fun k hk => by
    rcases hk with hk | hk
    · exact .inl (.inl hk)
    · rcases g.2.2 with hm | hm
      · exact .inl (.inr (hm ▸ hk))
      · exact .inr (hm k hk)
theorem wrApp {ty : TypeId} {ad : Addr} {v y : Value} {xs ys : List Int} {K : World → Prop} (h : Wr eB w ad v xs) (hy : Nm .u8 w y ys) (hb : (xs.length + ys.length) * 8 ≤ 140737488355328) (hk : ∀ v' w', WrS eB w w' ad v v' (xs ++ ys) → K w') :
    gApp P #[t_sl_uint8, t_sl_uint8] ty #[v, y] w fun t ww1 => gNil (some ad) fun a => gStore P t_sl_uint8 (.pointer (some (Addr.add a 0))) t ww1 fun ww2 => K ww2 := by
  refine gApp_on h.2.1 hy hb (Nat.zero_le _) fun v2 w2 hO2 hc2 hm2 => gNil_some ?_
  have hS2 : St w2 ad [v] := h.1.ch hc2 fun _ _ hh => h.2.2 hh
  rw [Addr.add_zero']
  refine gStore_st0 hS2 (by simp) (by obtain ⟨a, c, rfl, _⟩ := hO2.nm.shape; rfl) hO2.one fun w3 h3 hs3 hS3 => hk v2 w3 ?_
  have hv2 : v2.ownBlock ≠ some ad.block := by
    rcases hm2 with hh | hh
    · rw [hh]; exact h.2.2
    · intro hg; have := hh _ hg; have := h.1.lt; omega
  exact ⟨⟨by simpa using hS3, hO2.ch h3 fun g i hg hh => hv2 (by rw [hg, hh.1]), hv2⟩, Ch.trans (hc2.mono fun _ _ _ h => .inr h) h3 fun n i _ hh => .inl hh.1, hm2⟩
end
theorem drop_rd {xs : List Int} {a : Nat} (h : a < xs.length) : xs.drop a = rd xs a :: xs.drop (a + 1) := by rw [List.drop_eq_getElem_cons h, rd_nat xs a h]
/-! ### Texts -/
end Go.Proofs.YtilpoinhfiajcaaGreatDoorV

/- copy(), and buffers that are written into. -/
namespace Go.Proofs.YtilpoinhfiajcaaGreatDoorV
open Go Go.RowKit
section
variable {P : Program} {w0 w : World} {F : List It}
/-- copy(b[l:h], y), where b is the whole of a buffer. -/
theorem gCopy_sub {t ty : TypeId} {k : IntKind} {g n l h : Nat} {y : Value} {zs ys : List Int} {K : Int → World → Prop} (hF : FB k (elOf P t) w g zs) (hlh : l ≤ h) (hhc : h ≤ zs.length) (hy : Nm k w y ys)
    (hk : ∀ w' m, m = min (h - l) ys.length → Ch (Bk g) w w' → w'.heap.size = w.heap.size → FB k (elOf P t) w' g (zs.take l ++ ys.take m ++ zs.drop (l + m)) → K (m : Int) w') (ht : slInt P t k = true := by kernel_rfl) :
    gCopy P #[t, t] ty #[subV 1 (.slice (some ⟨g, 0, none⟩) n zs.length) l h, y] w K := by
  obtain ⟨hu, i, hi, hsz, hby, hby1, hz⟩ := slInt_ok ht
  have hsz1 : (P.info? (elOf P t)).map (·.size) = some 1 := by rw [hi]; simp [hsz]
  obtain ⟨cur, hg, hcur, hR, hm⟩ := hF
  have hs : cur.size = zs.length := by rw [← Array.length_toList, hcur, List.length_map]
  obtain ⟨a, c, rfl, hnc, hl, hcells, hnil⟩ := hy.1
  have hgo : ∀ m : Nat, m ≤ ys.length → goInt m = .int .i64 (m : Int) := fun m _ => rfl
  by_cases h0 : min (h - l) ys.length = 0
  · have hrun : (Builtin.copy_ #[t, t] ty #[subV 1 (.slice (some ⟨g, 0, none⟩) n zs.length) l h, .slice a ys.length c]).run P w = .ok (goInt 0) w := by
      simp only [subV]
      exact run_copy_none (P := P) w t t ty _ _ _ _ _ _ _ hu hsz1 (by show min ys.length (h - l) = 0; omega)
    refine ⟨((0 : Nat) : Int), w, hrun, hk w 0 h0.symm (Ch.refl _ w) rfl ?_⟩
    refine ⟨cur, hg, ?_, ?_, ?_⟩
    · simpa using hcur
    · simpa using hR
    · simpa using hm
  · cases a with
    | none => have := hnil rfl; omega
    | some ad =>
      have hlen : ((ys.take (min (h - l) ys.length)).map (Value.int k)).length = min (h - l) ys.length := by rw [List.length_map, List.length_take]; omega
      have hrun := run_copy_row (P := P) w t t ty (elOf P t) g l (h - l) (zs.length - l) ad ys.length c cur (elOf P t) ((ys.take (min (h - l) ys.length)).map (.int k)) hu hsz1 hg (by rw [hlen]; show min _ _ = min ys.length (h - l); omega)
        (fun j u hj => hcells ad rfl j u (by
          rw [List.getElem?_map, List.getElem?_take] at hj
          rw [List.getElem?_map]
          split at hj
          · exact hj
          · simp at hj)) (by rw [hlen, hs]; omega) (fun u hu => by obtain ⟨x, _, rfl⟩ := List.mem_map.1 hu; rfl)
      have hsub : subV 1 (.slice (some ⟨g, 0, none⟩) n zs.length) l h = .slice (some ⟨g, l, none⟩) (h - l) (zs.length - l) := by
        simp only [subV]
        rw [if_neg (by omega), Option.map_some, Nat.mul_one, Addr.add_lit, Nat.zero_add]
      rw [← hsub, hlen] at hrun
      refine ⟨((min (h - l) ys.length : Nat) : Int), _, hrun, hk _ _ rfl ?_ (by simp) ⟨_, setRow_heap w g cur _ _ _ hg, ?_, ?_, ?_⟩⟩
      · refine ⟨rfl, rfl, rfl, by simp, fun j hj hn => setRow_other w g j _ fun e => hn 0 e, fun j c' e' f hj => ?_, fun k o hk ho => by rw [setRow_other w g k _ (ne_cells hg hk ho)]; exact hk⟩
        by_cases hjg : j = g
        · subst hjg
          rw [hg] at hj
          injection hj with hj; injection hj with h1 h2 h3
          subst h1; subst h2; subst h3
          exact ⟨_, setRow_heap w j cur _ _ _ hg, by simp; omega, fun i hi => absurd rfl hi⟩
        · exact ⟨c', by rw [setRow_other w g j _ hjg]; exact hj, rfl, fun _ _ => rfl⟩
      · simp only [hcur, List.map_append, List.map_take, List.map_drop]
      · exact ((hR.take l).append (hy.2.take _)).append (hR.drop _)
      · have : (zs.take l ++ ys.take (min (h - l) ys.length) ++ zs.drop (l + min (h - l) ys.length)).length = zs.length := by simp; omega
        rw [this]; exact hm
/-- A function that the model runs itself. -/
def isExt (P : Program) (f : FuncId) : Bool := match P.funcs[f]? with
  | some fn => !(fn.name == "runtime.NumGoroutine") && fn.body.isNone && (Extern.findNext fn).isNone
  | none => false
theorem run_ext {f : FuncId} {args : Array Value} {e : Array Value → Sem Value} {v : Value} (h : isExt P f = true) (he : (P.funcs[f]?).bind Extern.find = some e) (hr : (e args).run P w = .ok v w) : (callFunc f args).run P w = .ok (.value v) w := by
  unfold isExt at h
  split at h
  · rename_i fn hf
    rw [hf] at he
    simp only [Bool.and_eq_true, Bool.not_eq_true'] at h
    rw [run_callFunc_extern hf h.1.1 h.1.2 (Option.isNone_iff_eq_none.1 h.2) he, hr]; rfl
  · cases h
theorem gExt_i {f : FuncId} {args : Array Value} {e : Array Value → Sem Value} {k : IntKind} {n : Int} {K : Int → World → Prop} (he : (P.funcs[f]?).bind Extern.find = some e) (hr : (e args).run P w = .ok (.int k n) w) (hk : K n w) (h : isExt P f = true := by kernel_rfl) : gExt P f (shI k) args w K :=
  ⟨n, w, run_ext h he hr, hk⟩
/-- A buffer: all of a block. -/
def bufIt (k : IntKind) (e : TypeId) (g : Nat) (zs : List Int) : It := ⟨fun b => b = g, fun w => FB k e w g zs, fun _ _ ⟨_, h1, _⟩ hk => by rw [hk]; exact ⟨_, _, _, h1⟩, fun _ _ _ ⟨cur, h1, h2⟩ hc hs => ⟨cur, by rw [hc.blk g (hlt h1) fun i hi => hs g i rfl hi]; exact h1, h2⟩, fun _ _ ⟨cur, h1, h2⟩ _ hc => ⟨cur, by rw [hc _ _ _ _ h1]; exact h1, h2⟩⟩
theorem fMake_len {t : TypeId} {k : IntKind} {n : Nat} {K : Value → World → Prop} (f : Fr w0 w F) (hn : n * 8 ≤ 281474976710656)
    (hk : ∀ g w', Fr w0 w' (bufIt k (elOf P t) g (List.replicate n 0) :: F) → K (.slice (some ⟨g, 0, none⟩) n n) w') (ht : slInt P t k = true := by kernel_rfl) : gMake P t (.int .i64 (n : Int)) (.int .i64 (n : Int)) w K := by
  obtain ⟨hu, i, hi, hsz, hby, hby1, hz⟩ := slInt_ok ht
  have h48 : i.bytes * (n : Int) ≤ 2 ^ 48 := by
    have : (i.bytes * n : Nat) ≤ n * 8 := by rw [Nat.mul_comm]; exact Nat.mul_le_mul_left n hby
    have h2 : ((i.bytes * n : Nat) : Int) ≤ 281474976710656 := by omega
    rw [Int.natCast_mul] at h2; simpa using h2
  have hw : IntKind.wrap .i64 (n : Int) = n := by have := i64_id (n := (n : Int)) (by omega) (by omega); simpa [i64] using this
  have hrun : (Instr.makeSlice t (.int .i64 (n : Int)) (.int .i64 (n : Int))).run P w = .ok (.slice (some ⟨w.heap.size, 0, none⟩) n n) (w.alloc (.cells (Array.replicate n (.int k 0)) (elOf P t))) := by
    simp only [Instr.makeSlice, Sem.run_bind, run_underlying hu, Result.andThen_ok, asInt, asIntOf, Sem.run_pure, typeInfo, run_program, hi, hw]
    have h1 : ¬ ((n : Int) < 0) := by omega
    have h2 : ¬ ((i.bytes : Int) * (n : Int) > 2 ^ 48) := by omega
    simp only [h1, h2, decide_false, Bool.or_self, Bool.false_or, gt_iff_lt, Int.lt_irrefl, if_false, Bool.false_eq_true]
    have har : (askRoom (Int.toNat (n : Int) * i.bytes)).run P w = .ok () w := by unfold askRoom; split <;> rfl
    simp only [har, Result.andThen_ok, sizeOf, typeInfo, Sem.run_bind, run_program, hi, Sem.run_pure, hsz, Int.toNat_natCast, Nat.mul_one, zeroValue, hz]
    by_cases h0 : n = 0
    · subst h0; have he : ∀ f : Nat → Value, Array.map f (Array.range 0) = #[] := fun f => Array.eq_empty_of_size_eq_zero (by simp)
      simp [newRow, he]
    · simp only [h0, if_false, Sem.run_bind, run_program, Result.andThen_ok, hi, hz, Sem.run_pure, newRow]
      simp [Value.cells]
      congr 2
      apply Array.ext
      · simp
      · intro j h1 h2; simp [Nat.mod_one]
  refine ⟨_, _, hrun, hk _ _ (f.new (Ev.alloc w _) (jt := bufIt k (elOf P t) w.heap.size (List.replicate n 0)) ⟨_, heap_alloc_new w _, by simp, inR_rep k n, ?_⟩ fun b hb => by rw [show b = w.heap.size from hb]; exact Nat.le_refl _)⟩
  unfold maxLen; rw [List.length_replicate]; omega
theorem fCopy {t ty : TypeId} {k : IntKind} {g n l h c : Nat} {y : Value} {zs ys : List Int} {K : Int → World → Prop} (f : Fr w0 w F) (i : Nat) (hi : F[i]? = some (bufIt k (elOf P t) g zs)) (hc : zs.length = c) (hlh : l ≤ h) (hhc : h ≤ c) (hy : Nm k w y ys)
    (hk : ∀ w' m, m = min (h - l) ys.length → Fr w0 w' (F.set i (bufIt k (elOf P t) g (zs.take l ++ ys.take m ++ zs.drop (l + m)))) → K (m : Int) w') (ht : slInt P t k = true := by kernel_rfl) :
    gCopy P #[t, t] ty #[subV 1 (.slice (some ⟨g, 0, none⟩) n c) l h, y] w K := by
  subst hc
  exact gCopy_sub (f.get i hi) hlh hhc hy (fun w' m hm hc _ hF => hk w' m hm (f.upd i hi hc (fun k _ hh => .inl hh) hF fun k hk => .inl hk)) ht
end
end Go.Proofs.YtilpoinhfiajcaaGreatDoorV

/- Arrays: loaded whole, indexed, sliced, copied into. -/
namespace Go.Proofs.YtilpoinhfiajcaaGreatDoorV
open Go Go.RowKit
section
variable {P : Program} {w0 w : World} {F : List It}
theorem gSlice_arr {t : TypeId} {ad : Addr} {n sz : Nat} {K : Value → Prop} (hk : K (.slice (some ad) n n)) (ht : arSz P t n sz = true) : gSlice P t (.pointer (some ad)) none none none K := by
  unfold arSz at ht
  split at ht
  · rename_i m e hu
    simp only [Bool.and_eq_true] at ht
    have hm := Nat.eq_of_beq_eq_true ht.1
    subst hm
    obtain ⟨i, hi⟩ : ∃ i, P.info? e = some i := by
      have := ht.2
      split at this
      · rename_i i hi; exact ⟨i, hi⟩
      · cases this
    refine ⟨_, fun w => ?_, hk⟩
    have hb : (Instr.sliceBounds false m m none none none).run P w = .ok (0, m, m) w := by simp [Instr.sliceBounds, Instr.sliceBound]
    simp only [Instr.sliceAt, Instr.sureAddr, Sem.run_bind, Sem.run_pure, run_underlying hu, Result.andThen_ok, hb, sizeOf, typeInfo, run_program, hi]
    simp [Addr.add_zero']
  · cases ht
theorem gIndex_arr {t : TypeId} {k ki : IntKind} {cs : Array Value} {xs : List Int} {i : Int} {K : Int → Prop} (n j : Nat) (hcs : cs.toList = xs.map (.int k)) (hn : xs.length = n) (hij : i = (j : Int)) (hj : j < n) (hk : K (rd xs j)) (ht : arSz P t n 1 = true := by kernel_rfl) (hf : (match P.underlying t with | some (.array _ e) => (match P.underlying e with | some (.int _) => true | _ => false) | _ => false) = true := by kernel_rfl) : gIndex P t (shI k) (.agg cs) (.int ki i) K := by
  subst hij
  unfold arSz at ht
  split at ht
  · rename_i m e hu
    simp only [Bool.and_eq_true] at ht
    have hm := Nat.eq_of_beq_eq_true ht.1
    subst hm
    rw [hu] at hf
    dsimp only at hf
    have hek : ∃ k', P.underlying e = some (.int k') := by
      split at hf
      · rename_i k' hk'; exact ⟨k', hk'⟩
      · cases hf
    obtain ⟨k', hek⟩ := hek
    obtain ⟨ii, hi, hsz⟩ : ∃ i, P.info? e = some i ∧ i.size = 1 := by
      have := ht.2
      split at this
      · rename_i i hi; exact ⟨i, hi, Nat.eq_of_beq_eq_true this⟩
      · cases this
    have hget : cs[j]? = some (.int k (rd xs j)) := by
      rw [← Array.getElem?_toList, hcs, List.getElem?_map, List.getElem?_eq_getElem (by omega), rd_nat xs j (by omega)]; rfl
    refine ⟨rd xs j, fun w => ?_, hk⟩
    simp only [Instr.index, asIntOf, Sem.run_bind, Sem.run_pure, Result.andThen_ok, run_underlying hu]
    rw [if_pos ⟨by omega, by omega⟩]
    simp only [Sem.run_bind, sizeOf, typeInfo, run_program, Result.andThen_ok, hi, Sem.run_pure, hsz, Int.toNat_natCast, Nat.mul_one]
    unfold part
    have hlt : j < cs.size := (Array.getElem?_eq_some_iff.1 hget).1
    simp [isAgg, run_underlying hek, hget]
    rfl
  · cases ht
/-- A slice of values of one cell each. -/
theorem ownsRow_ch {S : SS} {w w' : World} {e : TypeId} {B n : Nat} {v : Value} {cs : List Value} (h : w.ownsRow B e 1 v n cs) (hc : Ch S w w') (hs : ∀ g i, v.ownBlock = some g → ¬ S g i) : w'.ownsRow B e 1 v n cs := by
  refine ⟨h.1, ?_⟩
  rcases h.2 with hn | ⟨g, cap, cur, rfl, hb, hg, r⟩
  · exact .inl hn
  · exact .inr ⟨g, cap, cur, rfl, hb, by rw [hc.blk g (hlt hg) (fun i => hs g i rfl)]; exact hg, r⟩
def lIt (e : TypeId) (v : Value) (us : List Value) : It := ⟨fun b => v.ownBlock = some b, fun w => w.ownsRow 0 e 1 v us.length us, fun w k h hk => by
    rcases h.2 with ⟨rfl, _⟩ | ⟨g', cap, cur, rfl, hb, hh, r⟩
    · cases hk
    · simp [Value.ownBlock] at hk; subst hk; exact ⟨_, _, _, hh⟩, fun _ _ _ h hc hs => ownsRow_ch h hc hs, fun w w' h _ hc => by
    refine ⟨h.1, ?_⟩
    rcases h.2 with hn | ⟨g, cap, cur, rfl, hb, hg, r⟩
    · exact .inl hn
    · exact .inr ⟨g, cap, cur, rfl, hb, by rw [hc _ _ _ _ hg]; exact hg, r⟩⟩
theorem Fr.sl {e : TypeId} {v : Value} {us : List Value} (h : Fr w0 w F) (i : Nat) (hi : F[i]? = some (lIt e v us)) : Sl w 1 v us.length us := Sl.of_own (h.get i hi)
theorem fLitV {t : TypeId} {n : Nat} {parts : Array (Nat × Value)} {K : Value → World → Prop} (us : List Value) (h : Fr w0 w F) (hp : parts.toList = enumV 0 us) (hn : us.length = n) (h1 : ∀ v ∈ us, v.cells = #[v])
    (hk : ∀ v w', Fr w0 w' (lIt (elOf P t) v us :: F) → K v w') (hm : n ≤ 1000000 := by decide) (ht : sl1 P t = true := by kernel_rfl) : gLit P t n parts w K :=
  gLit_1 us hp hn hm h1 (fun v w' he ho => hk v w' (h.new (jt := lIt (elOf P t) v us) he (by
    subst hn
    refine ⟨ho.1, ?_⟩
    rcases ho.2 with hh | ⟨g, cap, cur, e1, hb, r⟩
    · exact .inl hh
    · exact .inr ⟨g, cap, cur, e1, Nat.zero_le _, r⟩) fun k hk => (ho.lt k hk).1)) ht
/-- Some of them, in another order. -/
theorem Fr.picks (h : Fr w0 w F) : ∀ (is : List Nat), is.Nodup → Fr w0 w (is.filterMap fun i => F[i]?)
  | [], _ => h.old
  | i :: r, hd => by
    have ih := h.picks r (List.nodup_cons.1 hd).2
    cases hi : F[i]? with
    | none => rw [List.filterMap_cons_none hi]; exact ih
    | some it =>
      rw [List.filterMap_cons_some hi]
      have hm := h.mem (List.mem_of_getElem? hi)
      refine ⟨hm.1, hm.2, fun jt hj k hk => ?_, ih⟩
      obtain ⟨j, hj1, hj2⟩ := List.mem_filterMap.1 hj
      have hne : i ≠ j := fun e => (List.nodup_cons.1 hd).1 (e ▸ hj1)
      exact h.apart hi hj2 hne k hk
theorem Fr.dropN : ∀ {F : List It} (n : Nat), Fr w0 w F → Fr w0 w (F.drop n)
  | _, 0, h => h
  | [], _ + 1, h => h
  | _ :: _, n + 1, h => Fr.dropN n h.2.2.2
/-- Some of the first n, in another order, ahead of the others. -/
theorem Fr.picksN (h : Fr w0 w F) (n : Nat) : ∀ (is : List Nat), is.Nodup → (∀ i ∈ is, i < n) → Fr w0 w ((is.filterMap fun i => F[i]?) ++ F.drop n)
  | [], _, _ => h.dropN n
  | i :: r, hd, hn => by
    have ih := h.picksN n r (List.nodup_cons.1 hd).2 fun j hj => hn j (by simp [hj])
    cases hi : F[i]? with
    | none => rw [List.filterMap_cons_none hi]; exact ih
    | some it =>
      rw [List.filterMap_cons_some hi]
      have hm := h.mem (List.mem_of_getElem? hi)
      refine ⟨hm.1, hm.2, fun jt hj k hk => ?_, ih⟩
      rcases List.mem_append.1 hj with hj | hj
      · obtain ⟨j, hj1, hj2⟩ := List.mem_filterMap.1 hj
        have hne : i ≠ j := fun e => (List.nodup_cons.1 hd).1 (e ▸ hj1)
        exact h.apart hi hj2 hne k hk
      · obtain ⟨q, hq⟩ := List.mem_iff_getElem?.1 hj
        rw [List.getElem?_drop] at hq
        have := hn i (by simp)
        exact h.apart hi hq (by omega) k hk
/-- What was made behind a world, put to what was made ahead of it. -/
theorem Fr.glue {w1 : World} : ∀ {G : List It}, Fr w0 w1 F → Fr w1 w G → Fr w0 w (G ++ F)
  | [], h, h2 => h.ev h2
  | it :: G, h, h2 => by
    refine ⟨h2.1, fun k hk => Nat.le_trans h.old.size (h2.2.1 k hk), fun jt hj k hk hjk => ?_, Fr.glue h h2.2.2.2⟩
    rcases List.mem_append.1 hj with hj | hj
    · exact h2.2.2.1 jt hj k hk hjk
    · have h3 := h2.2.1 k hk
      have h4 := jt.lt w1 k (h.mem hj).1 hjk
      omega
end
end Go.Proofs.YtilpoinhfiajcaaGreatDoorV

/- Rows of things of several cells each, owned: append, store, load, make, part. -/
namespace Go.Proofs.YtilpoinhfiajcaaGreatDoorV
open Go Go.RowKit
section
variable {P : Program} {w0 w : World} {F : List It}
theorem Sl.of_ownS {B n sz : Nat} {e : TypeId} {v : Value} {cs : List Value} (h : w.ownsRow B e sz v n cs) : Sl w sz v n cs := by
  obtain ⟨h1, h2⟩ := h
  rcases h2 with ⟨rfl, h0⟩ | ⟨g, cap, cur, rfl, hb, hg, hn, hm, hs, ht⟩
  · exact ⟨none, 0, by rw [h0], by omega, h1, (fun _ h => by cases h), fun _ => h0⟩
  · refine ⟨some ⟨g, 0, none⟩, cap, rfl, hn, h1, fun ad ha j u hj => ?_, fun h => by cases h⟩
    injection ha with ha; subst ha
    exact World.ownsRow.cells ⟨h1, .inr ⟨g, cap, cur, rfl, hb, hg, hn, hm, hs, ht⟩⟩ (g := g) rfl j u hj
theorem ownsRow_chS {S : SS} {w w' : World} {e : TypeId} {B n sz : Nat} {v : Value} {cs : List Value} (h : w.ownsRow B e sz v n cs) (hc : Ch S w w') (hs : ∀ g i, v.ownBlock = some g → ¬ S g i) : w'.ownsRow B e sz v n cs := by
  refine ⟨h.1, ?_⟩
  rcases h.2 with hn | ⟨g, cap, cur, rfl, hb, hg, r⟩
  · exact .inl hn
  · exact .inr ⟨g, cap, cur, rfl, hb, by rw [hc.blk g (hlt hg) (fun i => hs g i rfl)]; exact hg, r⟩
/-- A row of n things of sz cells each. -/
def rIt (e : TypeId) (sz : Nat) (v : Value) (n : Nat) (cs : List Value) : It := ⟨fun b => v.ownBlock = some b, fun w => w.ownsRow 0 e sz v n cs, fun w k h hk => by
    rcases h.2 with ⟨rfl, _⟩ | ⟨g', cap, cur, rfl, hb, hh, r⟩
    · cases hk
    · simp [Value.ownBlock] at hk; subst hk; exact ⟨_, _, _, hh⟩, fun _ _ _ h hc hs => ownsRow_chS h hc hs, fun w w' h _ hc => by
    refine ⟨h.1, ?_⟩
    rcases h.2 with hn | ⟨g, cap, cur, rfl, hb, hg, r⟩
    · exact .inl hn
    · exact .inr ⟨g, cap, cur, rfl, hb, by rw [hc _ _ _ _ hg]; exact hg, r⟩⟩
theorem Fr.row {e : TypeId} {sz n : Nat} {v : Value} {cs : List Value} (h : Fr w0 w F) (i : Nat) (hi : F[i]? = some (rIt e sz v n cs)) : Sl w sz v n cs := Sl.of_ownS (h.get i hi)
theorem Fr.nilR (h : Fr w0 w F) (e : TypeId) (sz : Nat) : Fr w0 w (rIt e sz (.slice none 0 0) 0 [] :: F) :=
  h.new (Ch.refl _ w) (World.ownsRow_nil w 0 e sz) fun _ hk => by cases hk
theorem rIt_low {e : TypeId} {sz n B : Nat} {v : Value} {cs : List Value} (h : w.ownsRow B e sz v n cs) : w.ownsRow 0 e sz v n cs := by
  refine ⟨h.1, ?_⟩
  rcases h.2 with hh | ⟨g, cap, cur, e1, hb, r⟩
  · exact .inl hh
  · exact .inr ⟨g, cap, cur, e1, Nat.zero_le _, r⟩
def slRow (P : Program) (t : TypeId) (sz by' : Nat) : Bool := match P.underlying t with
  | some (.slice e) => match P.info? e with
    | some i => Nat.beq i.size sz && Nat.ble i.bytes by' && (match i.zero with | some z => Nat.beq z.cells.size sz | none => false)
    | none => false
  | _ => false
theorem slRow_ok {t : TypeId} {sz b : Nat} (h : slRow P t sz b = true) : P.underlying t = some (.slice (elOf P t)) ∧ ∃ i z, P.info? (elOf P t) = some i ∧ i.zero = some z ∧ i.size = sz ∧ z.cells.size = sz ∧ i.bytes ≤ b := by
  unfold slRow at h
  split at h
  · rename_i e hu
    have he : elOf P t = e := by unfold elOf; rw [hu]
    rw [he]
    split at h
    · rename_i i hi
      simp only [Bool.and_eq_true] at h
      obtain ⟨⟨h1, h2⟩, h3⟩ := h
      split at h3
      · rename_i z hz
        exact ⟨hu, i, z, hi, hz, Nat.eq_of_beq_eq_true h1, Nat.eq_of_beq_eq_true h3, Nat.le_of_ble_eq_true h2⟩
      · cases h3
    · cases h
  · cases h
theorem run_append_ownS (t ty : TypeId) {e : TypeId} {i : TypeInfo} {z : Value} {sz : Nat} (ht : P.underlying t = some (.slice e)) (hi : P.info? e = some i) (hz : i.zero = some z) (hsize : i.size = sz) (hzs : z.cells.size = sz) (hsz : 0 < sz)
    {B : Nat} {v : Value} {n : Nat} {xs : List Value} (hown : w.ownsRow B e sz v n xs) {y : Value} {m : Nat} {news : List Value} (hy : Sl w sz y m news) (h1 : ∀ u ∈ news, u.oneCell' = true)
    (hb : (n + m) * i.bytes ≤ 140737488355328) (h63 : n + m ≤ maxLen) (hbase : B ≤ w.heap.size) :
    ∃ v' w', (Builtin.append_ #[t, t] ty #[v, y]).run P w = .ok v' w' ∧ w'.ownsRow B e sz v' (n + m) (xs ++ news) ∧ Ch (Ob v) w w' ∧ Moved w v v' := by
  obtain ⟨a, c, rfl, hnc, hl, hcells, hnil⟩ := hy
  have hcl : ∀ k, v.ownBlock = some k → ∃ c e f, w.heap[k]? = some (.cells c e f) := fun k hk => by
    rcases hown.2 with ⟨rfl, _⟩ | ⟨g, cap, cur, rfl, _, hg, _⟩
    · cases hk
    · simp [Value.ownBlock] at hk; subst hk; exact ⟨_, _, _, hg⟩
  have ofg : ∀ {w' : World}, w.grownBy w' v.ownBlock → (∀ k c e f, v.ownBlock = some k → w.heap[k]? = some (.cells c e f) → ∃ c', w'.heap[k]? = some (.cells c' e f) ∧ c'.size = c.size) → Ch (Ob v) w w' := fun {w'} hg hsh => by
    refine ⟨hg.os, hg.tape, hg.output, hg.size, fun k hk hn => hg.block k hk fun e => hn 0 e.symm, fun k c e f hc => ?_, fun k o hk ho => by
      rw [hg.block k (hlt hk) (fun e => by obtain ⟨c, e2, f, hc⟩ := hcl k e.symm; exact ne_cells hc hk ho rfl)]; exact hk⟩
    by_cases hk : v.ownBlock = some k
    · obtain ⟨c', h1, h2⟩ := hsh k c e f hk hc
      exact ⟨c', h1, h2, fun i hi => absurd hk hi⟩
    · exact ⟨c, by rw [hg.block k (hlt hc) (fun e => hk e.symm)]; exact hc, rfl, fun _ _ => rfl⟩
  have nil0 : ∀ {l : List Value}, l.length = 0 * sz → l = [] := fun h => List.eq_nil_of_length_eq_zero (by rw [h, Nat.zero_mul])
  cases a with
  | none =>
    have hm := hnil rfl
    subst hm
    have hn0 : news = [] := nil0 hl
    subst hn0
    refine ⟨v, w, ?_, by simpa using hown, Ch.refl _ w, .inl rfl⟩
    rcases hown.2 with ⟨rfl, rfl⟩ | ⟨g, cap, cur, rfl, hbg, hg, hn, hm, hcs, htk⟩
    · simp [Builtin.append_, run_underlying ht, sizeOf, typeInfo, hi, Builtin.lenOf, Builtin.firstCells]
    · simp [Builtin.append_, run_underlying ht, sizeOf, typeInfo, hi, Builtin.lenOf, Builtin.firstCells, hn, storeCells]
  | some ad =>
    obtain ⟨v', w', hr, ho, hg, _⟩ := run_append_own (P := P) w B t ty e i z sz i.bytes ht hi hz hsize rfl hzs hsz v n xs hown ad m c news hl (hcells ad rfl) h1 h63 hb hbase
    refine ⟨v', w', hr, ho, ?_⟩
    rcases hown.2 with ⟨rfl, rfl⟩ | ⟨g, cap, cur, rfl, hbg, hgg, hn, hm', hcs, htk⟩
    · by_cases hm0 : m = 0
      · subst hm0
        have hn0 : news = [] := nil0 hl
        subst hn0
        have hr2 : (Builtin.append_ #[t, t] ty #[.slice none 0 0, .slice (some ad) 0 c]).run P w = .ok (.slice none 0 0) w := by
          simp [Builtin.append_, run_underlying ht, sizeOf, typeInfo, hi, Builtin.lenOf, Builtin.firstCells, loadCells, loadCellsFrom]
        rw [hr2] at hr; injection hr with e1 e2; subst e1; subst e2
        exact ⟨Ch.refl _ w, .inl rfl⟩
      · have hr2 := run_append_nil (P := P) w t ty e i z ht hi hz ad m c news (by rw [hsize]; exact hl) (hcells ad rfl) (by omega) (by unfold maxLen at h63; omega) (by simp only [Nat.zero_add] at hb; omega)
        rw [hr2] at hr; injection hr with e1 e2; subst e1
        refine ⟨ofg hg (fun k c e f hk => by cases hk), .inr fun g hg' => ?_⟩
        simp [Value.ownBlock] at hg'; omega
    · by_cases hroom : n + m ≤ cap
      · have hfit : n * i.size + news.length ≤ cur.size := by rw [hl, hsize, hcs, ← Nat.add_mul]; exact Nat.mul_le_mul_right _ hroom
        have hr2 := run_append_room (P := P) w t ty e i ht hi g n cap cur hgg ad m c news (by rw [hsize]; exact hl) (hcells ad rfl) h1 hroom hfit
        rw [hr2] at hr; injection hr with e1 e2; subst e1; subst e2
        refine ⟨ofg hg (fun k c' e' f hk hc => ?_), .inl rfl⟩
        simp [Value.ownBlock] at hk; subst hk
        rw [hgg] at hc; injection hc with hc; injection hc with hc1 hc2 hc3
        subst hc1; subst hc2; subst hc3
        refine ⟨_, setRow_heap w g cur _ e _ hgg, ?_⟩
        simp; omega
      · have holds : ∀ j u, xs[j]? = some u → w.cell? ((⟨g, 0, none⟩ : Addr).add j) = some u := hown.cells (g := g) rfl
        have hr2 := run_append_grow (P := P) w t ty e i z ht hi hz ⟨g, 0, none⟩ n cap xs (by rw [hsize]; exact hown.1) holds ad m c news (by rw [hsize]; exact hl) (hcells ad rfl) (by omega) (by unfold maxLen at h63; omega) (growslice_fits (by omega) hb)
        rw [hr2] at hr; injection hr with e1 e2; subst e1
        have he2 := e2
        refine ⟨ofg hg (fun k c' e' f hk hc => ⟨c', ?_, rfl⟩), .inr fun g' hg' => ?_⟩
        · rw [← he2]
          show (w.heap.push _)[k]? = _
          rw [Array.getElem?_push, if_neg (by have := hlt hc; omega)]; exact hc
        · simp [Value.ownBlock] at hg'; omega
/-- Appending to a row of one's own. -/
theorem fAppR {t ty : TypeId} {sz n m : Nat} {v y : Value} {cs ds : List Value} {K : Value → World → Prop} (b : Nat) (h : Fr w0 w F) (i : Nat) (hi : F[i]? = some (rIt (elOf P t) sz v n cs)) (hy : Sl w sz y m ds) (h1 : ∀ u ∈ ds, u.oneCell' = true) (hb : (n + m) * b ≤ 140737488355328) (hm : n + m ≤ maxLen)
    (hk : ∀ v' w', Fr w0 w' (F.set i (rIt (elOf P t) sz v' (n + m) (cs ++ ds))) → K v' w') (ht : slRow P t sz b = true := by kernel_rfl) (hsz : 0 < sz := by decide) : gApp P #[t, t] ty #[v, y] w K := by
  obtain ⟨hu, ii, z, hii, hz, hs, hzs, hbb⟩ := slRow_ok ht
  obtain ⟨v', w', hr, ho, hc, hmv⟩ := run_append_ownS (P := P) t ty hu hii hz hs hzs hsz (h.get i hi) hy h1 (Nat.le_trans (Nat.mul_le_mul_left _ hbb) hb) hm (Nat.zero_le _)
  refine ⟨v', w', hr, hk v' w' (h.upd i hi hc (fun k _ hh => .inl hh) ho fun k hk => ?_)⟩
  rcases hmv with hmv | hmv
  · have hk : v'.ownBlock = some k := hk
    rw [hmv] at hk; exact .inl hk
  · exact .inr (hmv k hk)
/-- Appending to nothing. -/
theorem fAppR0 {t ty : TypeId} {sz m : Nat} {y : Value} {ds : List Value} {K : Value → World → Prop} (b : Nat) (h : Fr w0 w F) (hy : Sl w sz y m ds) (h1 : ∀ u ∈ ds, u.oneCell' = true) (hb : m * b ≤ 140737488355328) (hm : m ≤ maxLen)
    (hk : ∀ v' w', Fr w0 w' (rIt (elOf P t) sz v' m ds :: F) → K v' w') (ht : slRow P t sz b = true := by kernel_rfl) (hsz : 0 < sz := by decide) : gApp P #[t, t] ty #[.slice none 0 0, y] w K :=
  fAppR b (h.nilR (elOf P t) sz) 0 rfl hy h1 (by rw [Nat.zero_add]; exact hb) (by rw [Nat.zero_add]; exact hm) (fun v' w' f => by
    rw [Nat.zero_add, List.nil_append] at f; exact hk v' w' f) ht hsz
/-- make of a row. -/
theorem fMakeR {t : TypeId} {n sz : Nat} {K : Value → World → Prop} (b : Nat) (z : Value) (h : Fr w0 w F) (hn : b * n ≤ 281474976710656) (hm : n ≤ maxLen)
    (hk : ∀ v w', Fr w0 w' (rIt (elOf P t) sz v n (madeCells z.cells (n * sz)).toList :: F) → K v w') (hz : (P.info? (elOf P t)).bind (·.zero) = some z) (ht : slRow P t sz b = true := by kernel_rfl) : gMake P t (.int .i64 (n : Int)) (.int .i64 (n : Int)) w K := by
  obtain ⟨hu, ii, z', hii, hz', hs, hzs, hbb⟩ := slRow_ok ht
  rw [hii] at hz
  simp only [Option.bind_some] at hz
  rw [hz] at hz'; injection hz' with hz'; subst hz'
  obtain ⟨w', hr, ho, hg⟩ := run_make_full (P := P) w w.heap.size t (elOf P t) ii z sz hu hii hz hs .i64 .i64 n (Nat.le_trans (Nat.mul_le_mul_right _ hbb) hn) hm (Nat.le_refl _)
  refine ⟨_, w', hr, hk _ w' (h.new ?_ (rIt_low ho) fun k hk => (ho.lt k hk).1)⟩
  exact ⟨hg.os, hg.tape, hg.output, hg.size, fun k hk _ => hg.block k hk (by simp), fun k c e f hc => ⟨c, by rw [hg.block k (hlt hc) (by simp)]; exact hc, rfl, fun _ _ => rfl⟩, fun k o hk _ => by rw [hg.block k (hlt hk) (by simp)]; exact hk⟩
/-- Where the j-th of a row stands. -/
def SltR (v : Value) (j sz : Nat) (ad : Addr) : Prop := ∃ g n c, v = .slice (some ⟨g, 0, none⟩) n c ∧ ad = ⟨g, j * sz, none⟩
theorem gIdx_r {t e : TypeId} {ki : IntKind} {B sz n j : Nat} {v : Value} {cs : List Value} {i : Int} {K : Addr → Prop} (h : w.ownsRow B e sz v n cs) (hij : i = (j : Int)) (h1 : j < n) (hk : ∀ ad, SltR v j sz ad → K ad) (ht : slSz P t sz = true := by kernel_rfl) : gIdx P t v (.int ki i) K := by
  obtain ⟨hu, ii, hi, hsz⟩ := slSz_ok ht
  subst hij
  rcases h.2 with ⟨rfl, hn⟩ | ⟨g, cap, cur, rfl, hb, hg, hn, hm, hs, htk⟩
  · omega
  · refine ⟨⟨g, j * sz, none⟩, fun w => ?_, hk _ ⟨g, _, _, rfl, rfl⟩⟩
    simp only [Instr.indexAt, asIntOf, Sem.run_bind, Sem.run_pure, Result.andThen_ok, run_underlying hu]
    rw [if_pos ⟨by omega, by omega⟩]
    simp [sizeOf, typeInfo, hi, hsz, Addr.add_lit]
theorem SltR.cell {e : TypeId} {B sz n j q : Nat} {v u : Value} {cs : List Value} {ad : Addr} (h : w.ownsRow B e sz v n cs) (hs : SltR v j sz ad) (hu : cs[j * sz + q]? = some u) : w.cell? (ad.add q) = some u := by
  obtain ⟨g, n', c, rfl, rfl⟩ := hs
  have := h.cells (g := g) rfl (j * sz + q) u hu
  rw [Addr.add_lit, Nat.zero_add] at this
  rw [Addr.add_lit]; exact this
/-- The same where a thing is one cell. -/
theorem fStoreR1 {t e : TypeId} {n j : Nat} {v u : Value} {cs : List Value} {ad : Addr} {K : World → Prop} (h : Fr w0 w F) (i : Nat) (hi : F[i]? = some (rIt e 1 v n cs)) (hs : SltR v j 1 ad) (hj : j < n) (hu : u.oneCell' = true) (hcl : u.cells = #[u])
    (hk : ∀ w', Fr w0 w' (F.set i (rIt e 1 v n (cs.set j u))) → K w') (ht : flat1 P t = true := by kernel_rfl) : gStore P t (.pointer (some ad)) u w K := by
  have ho : w.ownsRow 0 e 1 v n cs := h.get i hi
  obtain ⟨g, n', c, rfl, rfl⟩ := hs
  rcases ho.2 with ⟨hn, _⟩ | ⟨g', cap, cur, hv, hb, hg, hn, hm, hcs, htk⟩
  · simp at hn
  simp only [Value.slice.injEq, Option.some.injEq, Addr.mk.injEq, and_true] at hv
  obtain ⟨rfl, rfl, rfl⟩ := hv
  have hlen : cs.length = n' * 1 := ho.1
  have hst : St w ⟨g, 0, none⟩ cs := ⟨rfl, cur, e, hg, fun q u hq => by
    rw [← htk, List.getElem?_take] at hq
    dsimp only; rw [Nat.zero_add]
    split at hq
    · rw [Array.getElem?_toList] at hq; exact hq
    · cases hq⟩
  have hadd : (⟨g, j * 1, none⟩ : Addr) = (⟨g, 0, none⟩ : Addr).add j := by rw [Addr.add_lit, Nat.zero_add, Nat.mul_one]
  rw [hadd]
  refine gStore_st hst (by rw [hlen]; omega) hu hcl (fun w' hc _ hS => hk w' (h.upd i hi hc (fun k _ hh => .inl ?_) ?_ fun k hk => .inl hk)) ht
  · have h2 := hh.1
    rw [Addr.add_lit] at h2
    show some g = some k
    rw [h2]
  · obtain ⟨c', k1, k2, _⟩ := hc.cel _ _ _ _ hg
    refine ⟨by rw [List.length_set]; exact hlen, .inr ⟨g, c, c', rfl, Nat.zero_le _, k1, hn, hm, by rw [k2]; exact hcs, ?_⟩⟩
    obtain ⟨_, c2, e2, s1, s2⟩ := hS
    dsimp only at s1 s2
    rw [k1] at s1; injection s1 with s1; injection s1 with s1 _ _; subst s1
    refine List.ext_getElem? fun q => ?_
    rw [List.getElem?_take]
    have hl2 : (cs.set j u).length = n' * 1 := by rw [List.length_set]; exact hlen
    split
    · rename_i hq
      have hx := s2 q _ (List.getElem?_eq_getElem (by rw [hl2]; exact hq))
      rw [Nat.zero_add] at hx
      rw [Array.getElem?_toList, hx, List.getElem?_eq_getElem (by rw [hl2]; exact hq)]
    · rename_i hq
      rw [List.getElem?_eq_none (by rw [hl2]; omega)]
/-- A load of a struct that comes to the same in every world that meets B. -/
theorem gLoadB_agg {t : TypeId} {cks : List Ck} {ad : Addr} {B : World → Prop} {K : TF cks Prop} (vs : List Value) (hc : ∀ w, B w → ∀ j u, vs[j]? = some u → w.cell? (ad.add j) = some u) (hk : tapp False cks K vs) (hl : vs.length = cks.length := by rfl) (ht : aggB P t vs.length = true := by kernel_rfl) : gLoadB P t (.part (.agg cks)) (.pointer (some ad)) B K :=
  (tex_of_tapp hk hl (p := fun vs => ∀ w, B w → (Instr.loadAt t (.pointer (some ad))).run P w = .ok (.agg vs.toArray) w) (fun w hB => run_loadAgg (hc w hB) ht))
/-- A slice held against nil. -/
theorem run_equal_snil {t e : TypeId} {a : Option Addr} {n c : Nat} (hu : P.underlying t = some (.slice e)) : (Op.equal t (.slice a n c) (.slice none 0 0)).run P w = .ok a.isNone w := by
  have hm : Op.maxDepth = 9999 + 1 := rfl
  unfold Op.equal
  rw [hm]
  generalize 9999 = d
  unfold Op.equalIn
  simp only [Sem.run_bind, run_underlying hu, Result.andThen_ok]
  cases a <;> rfl
theorem gEq_snil {t : TypeId} {a : Option Addr} {n c : Nat} {K : Bool → Prop} (hk : K a.isNone) (ht : (match P.underlying t with | some (.slice _) => true | _ => false) = true := by kernel_rfl) : gEq P .eql t (.slice a n c) (.slice none 0 0) K := by
  have hu : ∃ e, P.underlying t = some (.slice e) := by
    split at ht
    · rename_i e h; exact ⟨e, h⟩
    · cases ht
  obtain ⟨e, hu⟩ := hu
  refine ⟨a.isNone, fun cx cy w => ⟨by cases a <;> rfl, ?_⟩, hk⟩
  have hb : binOp .eql t (.slice a n c) (.slice none 0 0) = (do pure (.bool (← Op.equal t (.slice a n c) (.slice none 0 0)))) := by cases a <;> rfl
  rw [hb]; simp only [Sem.run_bind, run_equal_snil hu, Result.andThen_ok, Sem.run_pure]
end
end Go.Proofs.YtilpoinhfiajcaaGreatDoorV

/- Rows that are owned: parts of them, room behind them, copies into them, cleared parts. -/
namespace Go.Proofs.YtilpoinhfiajcaaGreatDoorV
open Go Go.RowKit
/-- An owned row's block, with room for c things. -/
abbrev rowV (g n c : Nat) : Value := .slice (some ⟨g, 0, none⟩) n c
section
variable {P : Program} {w0 w : World} {F : List It} {e : TypeId} {sz g n c : Nat} {cs : List Value}
theorem row_block (h : w.ownsRow 0 e sz (rowV g n c) n cs) : ∃ cur, w.heap[g]? = some (.cells cur e (0, 0)) ∧ n ≤ c ∧ c ≤ maxLen ∧ cur.size = c * sz ∧ cur.toList.take (n * sz) = cs ∧ cs.length = n * sz := by
  rcases h.2 with ⟨hn, _⟩ | ⟨g', cap, cur, hv, hb, hg, hn, hm, hcs, htk⟩
  · simp at hn
  · simp only [Value.slice.injEq, Option.some.injEq, Addr.mk.injEq, and_true, true_and] at hv
    obtain ⟨rfl, rfl⟩ := hv
    exact ⟨cur, hg, hn, hm, hcs, htk, h.1⟩
theorem row_of {cur : Array Value} (hg : w.heap[g]? = some (.cells cur e (0, 0))) (hn : n ≤ c) (hm : c ≤ maxLen) (hs : cur.size = c * sz) (ht : cur.toList.take (n * sz) = cs) : w.ownsRow 0 e sz (rowV g n c) n cs := by
  refine ⟨?_, .inr ⟨g, c, cur, rfl, Nat.zero_le _, hg, hn, hm, hs, ht⟩⟩
  rw [← ht, List.length_take, Array.length_toList, hs]
  exact Nat.min_eq_left (Nat.mul_le_mul_right _ hn)
/-- A row that is nil, or has a block. -/
theorem row_cases {v : Value} (h : w.ownsRow 0 e sz v n cs) : (v = .slice none 0 0 ∧ n = 0) ∨ ∃ g c, v = rowV g n c := by
  rcases h.2 with h | ⟨g, cap, _, hv, _⟩
  · exact .inl h
  · exact .inr ⟨g, cap, hv⟩
end
end Go.Proofs.YtilpoinhfiajcaaGreatDoorV

/- Slices of numbers of one's own, in a frame: an element set, read, a part put behind. -/
namespace Go.Proofs.YtilpoinhfiajcaaGreatDoorV
open Go Go.RowKit
section
variable {P : Program} {w0 w : World} {F : List It}
/-- An element is another one. -/
theorem fSetO {t te : TypeId} {k ki : IntKind} {v : Value} {xs : List Int} {i x : Int} {j : Nat} {K : World → Prop} (f : Fr w0 w F) (q : Nat) (hq : F[q]? = some (oIt k (elOf P t) v xs)) (hij : i = (j : Int)) (hj : j < xs.length) (hx : k.min ≤ x ∧ x ≤ k.max)
    (hk : ∀ w', Fr w0 w' (F.set q (oIt k (elOf P t) v (xs.set j x))) → K w') (ht : slInt P t k = true := by kernel_rfl) (ht1 : flat1 P te = true := by kernel_rfl) :
    gIdx P t v (.int ki i) fun ad => gStore P te (.pointer (some ad)) (.int k x) w K := by
  subst hij
  refine gIdx_on (f.on q hq) (by omega) (by omega) (fun ad hs _ => gStore_on (f.on q hq) hs (by omega) (by omega) hx (fun w' hc _ ho => hk w' ?_) ht1) ht
  exact f.upd (jt := oIt k (elOf P t) v (xs.set j x)) q hq hc (fun k _ hh => .inl hh) (ho.low (Nat.zero_le _)) fun k hk => .inl hk
/-- An element is read, in whatever world comes of this one. -/
theorem gGetB {t te : TypeId} {k ki : IntKind} {v : Value} {xs : List Int} {i : Int} {B : World → Prop} {K : Int → Prop} (h : Nm k w v xs) (h0 : 0 ≤ i) (h1 : i < xs.length) (hB : ∀ w', B w' → Ev w w') (hk : K (rd xs i)) (ht : slInt P t k = true := by kernel_rfl) (htf : flat P te = true := by kernel_rfl) :
    gIdx P t v (.int ki i) fun ad => gLoadB P te (shI k) (.pointer (some ad)) B K :=
  gIdx_nm h h0 h1 (fun ad c _ => gLoadB_i (fun w' hw => Ch.cell (hB w' hw) c fun h => h) hk htf) ht
theorem gGet {t te : TypeId} {k ki : IntKind} {v : Value} {xs : List Int} {i : Int} {K : Int → Prop} (h : Nm k w v xs) (h0 : 0 ≤ i) (h1 : i < xs.length) (hk : K (rd xs i)) (ht : slInt P t k = true := by kernel_rfl) (htf : flat P te = true := by kernel_rfl) :
    gIdx P t v (.int ki i) fun ad => gLoad P te (shI k) (.pointer (some ad)) w K :=
  gIdx_nm h h0 h1 (fun ad c _ => gLoad_i c hk htf) ht
theorem gIf_nnb {b : Bool} {A B : Prop} (ha : b = true → A) (hb : b = false → B) : gIf (!(!b)) A B := by cases b; exact hb rfl; exact ha rfl
theorem evDrew {w w' : World} (h : w' = w.drew) : Ev w w' := by subst h; exact Ev.drew0 w
end
end Go.Proofs.YtilpoinhfiajcaaGreatDoorV

/- Plain laws of predictors and tracks: no program in sight. -/
namespace Go.Proofs.YtilpoinhfiajcaaGreatDoorV
open Go Go.RowKit
/-! ### A guess of the numbers ahead; what is left -/
def resG (g : List Int → Int) (l : List Int) : List Int := tab l.length fun i => i32 (rd l (i : Int) - g (l.take i))
theorem resG_len (g : List Int → Int) (l : List Int) : (resG g l).length = l.length := tab_len _ _
theorem i32_rg (n : Int) : -2147483648 ≤ i32 n ∧ i32 n ≤ 2147483647 := by rw [i32_def]; omega
theorem inR32 {l : List Int} : inR .i32 l ↔ ∀ x ∈ l, -2147483648 ≤ x ∧ x ≤ 2147483647 := by
  have h1 : IntKind.i32.min = -2147483648 := by decide
  have h2 : IntKind.i32.max = 2147483647 := by decide
  unfold inR; rw [h1, h2]
/-- The number so far behind the last one. -/
def atF (l : List Int) (k : Nat) : Int := if l.length < k then 0 else rd l ((l.length - k : Nat) : Int)
def fixG (o : Nat) (l : List Int) : Int :=
  if o = 1 then atF l 1 else if o = 2 then i32 (i32 (2 * atF l 1) - atF l 2) else if o = 3 then i32 (i32 (i32 (3 * atF l 1) - i32 (3 * atF l 2)) + atF l 3) else 0
def ordN (o : Int) : Nat := (if (if o < 3 then o else 3) < 0 then 0 else if o < 3 then o else 3).toNat
/-! ### Weights that learn -/
def signI (v : Int) : Int := if v > 0 then 1 else if v < 0 then -1 else 0
def sumW (ws ns : List Int) : Nat → Int
  | 0 => 0
  | k + 1 => i64 (sumW ws ns k + i64 (rd ws (k : Int) * rd ns (k : Int)))
def lmsG (s : List Int × List Int) : Int := i32 (iShr .i64 (sumW s.1 s.2 8) 8)
def lmsW (e : Int) (ws ns : List Int) : List Int := tab 8 fun k => i64 (rd ws (k : Int) + i64 (e * signI (rd ns (k : Int))))
def lmsL (s : List Int × List Int) (v : Int) : List Int × List Int := (lmsW (signI (i32 (v - lmsG s))) s.1 s.2, v :: s.2.take 7)
def lmsS (l : List Int) : List Int × List Int := l.foldl lmsL (List.replicate 8 0, List.replicate 8 0)
def learnG (l : List Int) : Int := lmsG (lmsS l)
theorem lmsS_next {l : List Int} {k : Nat} (h : k < l.length) : lmsS (l.take (k + 1)) = lmsL (lmsS (l.take k)) l[k] := by
  unfold lmsS; rw [List.take_succ_eq_append_getElem h, List.foldl_append]; rfl
/-! ### Tracks -/
def smp (xs : List Int) (size i : Nat) : Int := if size = 2 then i16 (rd xs (i : Int) + 256 * rd xs ((i + 1 : Nat) : Int)) else rd xs (i : Int) - 128
/-- How many of so many samples are a channel's. -/
def cntT (ch t k : Nat) : Nat := (t + ch - 1 - k) / ch
def trackN (xs : List Int) (ch size t k : Nat) : List Int := tab (cntT ch t k) fun j => smp xs size ((j * ch + k) * size)
def splitN (xs : List Int) (ch size t : Nat) : List (List Int) := (List.range ch).map (trackN xs ch size t)
theorem splitN_len (xs : List Int) (ch size t : Nat) : (splitN xs ch size t).length = ch := by simp [splitN]
theorem cntT_0 {ch k : Nat} (hk : k < ch) : cntT ch 0 k = 0 := by unfold cntT; exact Nat.div_eq_of_lt (by omega)
theorem cntT_all {ch n k : Nat} (hk : k < ch) : cntT ch (n * ch) k = n := by
  unfold cntT
  have : n * ch + ch - 1 - k = n * ch + (ch - 1 - k) := by omega
  rw [this, Nat.mul_comm, Nat.mul_add_div (by omega), Nat.div_eq_of_lt (by omega)]; rfl
theorem cntT_step {ch t k : Nat} (hk : k < ch) : cntT ch (t + 1) k = if t % ch = k then cntT ch t k + 1 else cntT ch t k := by
  obtain ⟨q, r, hr, rfl⟩ : ∃ q r, r < ch ∧ t = q * ch + r := ⟨t / ch, t % ch, Nat.mod_lt _ (by omega), by rw [Nat.mul_comm, Nat.div_add_mod]⟩
  have hm : (q * ch + r) % ch = r := by rw [Nat.add_comm, Nat.add_mul_mod_self_right, Nat.mod_eq_of_lt hr]
  have hd : ∀ a, (q * ch + a) / ch = q + a / ch := fun a => by rw [Nat.mul_comm, Nat.mul_add_div (by omega)]
  rw [hm]
  unfold cntT
  rw [show q * ch + r + 1 + ch - 1 - k = q * ch + (r + ch - k) by omega, show q * ch + r + ch - 1 - k = q * ch + (r + ch - 1 - k) by omega, hd, hd]
  have one : ∀ {a}, ch ≤ a → a < 2 * ch → a / ch = 1 := fun {a} h1 h2 => Nat.div_eq_of_lt_le (by omega) (by omega)
  split
  · subst_vars
    rw [one (by omega) (by omega), Nat.div_eq_of_lt (show r + ch - 1 - r < ch by omega)]
  · rcases Nat.lt_or_ge r k with h | h
    · rw [Nat.div_eq_of_lt (show r + ch - k < ch by omega), Nat.div_eq_of_lt (show r + ch - 1 - k < ch by omega)]
    · rw [one (show ch ≤ r + ch - k by omega) (by omega), one (show ch ≤ r + ch - 1 - k by omega) (by omega)]
theorem cntT_mod {ch t : Nat} (hc : 0 < ch) : cntT ch t (t % ch) = t / ch := by
  unfold cntT
  have h1 := Nat.mod_lt t hc
  have h2 := Nat.div_add_mod t ch
  rw [show t + ch - 1 - t % ch = ch * (t / ch) + (ch - 1) by omega, Nat.mul_add_div hc, Nat.div_eq_of_lt (show ch - 1 < ch by omega)]; rfl
theorem tab_succ (n : Nat) (f : Nat → Int) : tab (n + 1) f = tab n f ++ [f n] := by unfold tab; rw [List.range_succ, List.map_append]; rfl
theorem trackN_step {xs : List Int} {ch size t k : Nat} (hk : k < ch) : trackN xs ch size (t + 1) k = if t % ch = k then trackN xs ch size t k ++ [smp xs size (t * size)] else trackN xs ch size t k := by
  unfold trackN
  rw [cntT_step hk]
  split
  · rename_i h
    subst h
    rw [tab_succ, cntT_mod (by omega), Nat.mul_comm (t / ch) ch, Nat.div_add_mod]
  · rfl
theorem splitN_step {xs : List Int} {ch size t : Nat} (hc : 0 < ch) : splitN xs ch size (t + 1) = (splitN xs ch size t).set (t % ch) (trackN xs ch size t (t % ch) ++ [smp xs size (t * size)]) := by
  refine List.ext_getElem (by simp [splitN]) fun k h1 h2 => ?_
  have hk : k < ch := by simpa [splitN] using h1
  rw [List.getElem_set]
  simp only [splitN, List.getElem_map, List.getElem_range]
  rw [trackN_step hk]
  split
  · rename_i h; subst h; rfl
  · rfl
theorem smp_rg {xs : List Int} (hx : inR .u8 xs) {size i : Nat} (hs : size = 1 ∨ size = 2) (hi : i + size ≤ xs.length) : (size = 1 → -128 ≤ smp xs size i ∧ smp xs size i < 128) ∧ (-32768 ≤ smp xs size i ∧ smp xs size i < 32768) := by
  have hb := fun j (hj : j < xs.length) => hx xs[j] (List.getElem_mem hj)
  have h1 : IntKind.u8.min = 0 := by decide
  have h2 : IntKind.u8.max = 255 := by decide
  simp only [h1, h2] at hb
  unfold smp
  rcases hs with rfl | rfl
  · rw [if_neg (by omega), rd_nat xs i (by omega)]
    have := hb i (by omega)
    exact ⟨fun _ => by omega, by omega⟩
  · rw [if_pos rfl, i16_def]
    exact ⟨fun h => by omega, by omega⟩
/-! ### Middle and side -/
def sideL (l r : List Int) : List Int := tab l.length fun i => i32 (rd l (i : Int) - rd r (i : Int))
def midL (l r : List Int) : List Int := tab l.length fun i => i32 (rd r (i : Int) + iShr .i32 (i32 (rd l (i : Int) - rd r (i : Int))) 1)
end Go.Proofs.YtilpoinhfiajcaaGreatDoorV

/- Package fixed. -/
namespace Go.Proofs.YtilpoinhfiajcaaGreatDoorV
open Go Go.RowKit
/-- What a slice of numbers is a slice of. -/
noncomputable abbrev eI : TypeId := elOf P t_sl_int32
theorem i32_io (n : Int) : IntKind.i32.min ≤ i32 n ∧ i32 n ≤ IntKind.i32.max := by
  have h1 : IntKind.i32.min = -2147483648 := by decide
  have h2 : IntKind.i32.max = 2147483647 := by decide
  rw [h1, h2]; exact i32_rg _
theorem fill_set {a : List Int} {n k : Nat} (ha : a.length = k) (hk : k < n) (v : Int) : (a ++ List.replicate (n - k) 0).set k v = (a ++ [v]) ++ List.replicate (n - (k + 1)) 0 := by
  rw [show n - k = (n - (k + 1)) + 1 by omega, List.replicate_succ, List.set_append_right _ _ (by omega), ha, Nat.sub_self, List.set_cons_zero, List.append_assoc]; rfl
def atI (xs : List Int) (i k : Nat) : Int := if i < k then 0 else rd xs ((i - k : Nat) : Int)
theorem atF_take {xs : List Int} {i k : Nat} (hi : i ≤ xs.length) (hk : 1 ≤ k) : atF (xs.take i) k = atI xs i k := by
  unfold atF atI
  have hl : (xs.take i).length = i := by rw [List.length_take]; omega
  rw [hl]
  split
  · rfl
  · unfold rd
    simp only [Int.toNat_natCast, List.getD_eq_getElem?_getD]
    rw [List.getElem?_take, if_pos (by omega)]
/-- The sum of all amounts, as it is reckoned. -/
def wtN (l : List Int) : Nat → Int
  | 0 => 0
  | k + 1 => u64 (wtN l k + u64 (if i64 (0 - i64 (rd l (k : Int))) > i64 (rd l (k : Int)) then i64 (0 - i64 (rd l (k : Int))) else i64 (rd l (k : Int))))
def wtF (l : List Int) : Int := wtN l l.length
def bfN (l : List Int) : Nat → Nat × Int
  | 0 => (0, wtF l)
  | k + 1 => if wtF (resG (fixG (k + 1)) l) < (bfN l k).2 then (k + 1, wtF (resG (fixG (k + 1)) l)) else bfN l k
theorem bfN_le (l : List Int) : ∀ k, (bfN l k).1 ≤ k
  | 0 => Nat.le_refl _
  | k + 1 => by
    rw [bfN]; split
    · exact Nat.le_refl _
    · have := bfN_le l k; omega
def bestO (l : List Int) : Nat := (bfN l 3).1
section
variable {w0 w : World} {F : List It}
theorem fMakeI {n : Nat} {K : Value → World → Prop} (f : Fr w0 w F) (hn : n ≤ 1000000000) (hk : ∀ v w', Fr w0 w' (oIt .i32 eI v (List.replicate n 0) :: F) → K v w') : gMake P t_sl_int32 (.int .i64 (n : Int)) (.int .i64 (n : Int)) w K :=
  gMake_n (k := .i32) (by omega) (by omega) fun v w' he ho => hk v w' (f.newO he ho)
theorem guess_at {ad bd : Addr} {l0 : Value} {xs : List Int} {i k : Nat} {K : Int → World → Prop} (hi : w.cell? ad = some (.int .i64 (i : Int))) (hl0 : w.cell? bd = some l0) (h : Nm .i32 w l0 xs) (hlt : i ≤ xs.length) (hl : xs.length ≤ 1000000000) (h1 : 1 ≤ k) (h3 : k ≤ 3) (hk : K (atI xs i k) w) :
    gCallV P (.func (.func n_fixed_guess_1) #[] #[.pointer (some ad), .pointer (some bd)]) (shI .i32) #[.int .i64 (k : Int)] w K := by
  refine gCallV_of rfl (by kernel_rfl) (of_fixed_guess_1 (R := fun e w' => e = .returned (.int .i32 (atI xs i k)) ∧ w' = w) ?_) ?_
  · refine gLoad_i hi (gIf_dec (fun hlt' => ⟨?_, rfl⟩) (fun hge => gLoad_v hl0 (gLoad_i hi ?_)))
    · unfold atI; rw [if_pos (by omega)]
    · rw [i64_id (by omega) (by omega), show (i : Int) - (k : Int) = ((i - k : Nat) : Int) by omega]
      refine gGet h (by omega) (by omega) ⟨?_, rfl⟩
      unfold atI; rw [if_neg (by omega)]
  · rintro _ _ ⟨rfl, rfl⟩
    exact ⟨_, rfl, hk⟩
theorem fguess_any {l0 : Value} {xs : List Int} {i o : Nat} (h : Nm .i32 w l0 xs) (hi : i ≤ xs.length) (hl : xs.length ≤ 1000000000) : Calls P n_fixed_guess #[l0, .int .i64 (i : Int), .int .i64 (o : Int)] w (fun e w' => e = .returned (.int .i32 (fixG o (xs.take i))) ∧ Ev w w') := by
  have hc : l0.cells.toList = [l0] := by obtain ⟨a, c, rfl, _⟩ := h.shape; rfl
  refine of_fixed_guess (fBox (Fr.start w) fun l3 w1 f1 => fBox f1 fun i4 w2 f2 => ?_)
  rw [hc] at f2
  have c1 : w2.cell? i4 = some (.int .i64 (i : Int)) := by have := f2.cell 0 0 rfl rfl; rwa [Addr.add_zero'] at this
  have c2 : w2.cell? l3 = some l0 := by have := f2.cell 1 0 rfl rfl; rwa [Addr.add_zero'] at this
  have hn := h.ev f2.old
  have at1 := fun {k : Nat} {K : Int → World → Prop} (h1 : 1 ≤ k) (h3 : k ≤ 3) (hk : K (atI xs i k) w2) => guess_at (K := K) c1 c2 hn hi hl h1 h3 hk
  have e1 : atF (xs.take i) 1 = atI xs i 1 := atF_take hi (by omega)
  have e2 : atF (xs.take i) 2 = atI xs i 2 := atF_take hi (by omega)
  have e3 : atF (xs.take i) 3 = atI xs i 3 := atF_take hi (by omega)
  refine gIf_eq (fun h1 => at1 (k := 1) (by omega) (by omega) ⟨?_, f2.old⟩) (fun h1 => gIf_eq (fun h2 => at1 (k := 1) (by omega) (by omega) (at1 (k := 2) (by omega) (by omega) ⟨?_, f2.old⟩)) (fun h2 => gIf_eq (fun h3 => at1 (k := 1) (by omega) (by omega) (at1 (k := 2) (by omega) (by omega) (at1 (k := 3) (by omega) (by omega) ⟨?_, f2.old⟩))) (fun h3 => ⟨?_, f2.old⟩)))
  · rw [show o = 1 by omega]; unfold fixG; rw [if_pos rfl, e1]
  · rw [show o = 2 by omega]; unfold fixG; rw [if_neg (by decide), if_pos rfl, e1, e2]
  · rw [show o = 3 by omega]; unfold fixG; rw [if_neg (by decide), if_neg (by decide), if_pos rfl, e1, e2, e3]
  · unfold fixG; rw [if_neg (by omega), if_neg (by omega), if_neg (by omega)]
theorem fright_any {o : Int} : Calls P n_fixed_right #[.int .i64 o] w (fun e w' => e = .returned (.int .i64 (ordN o)) ∧ w' = w) :=
  of_fixed_right ⟨by
    have : (if (if 3 < o then 3 else o) > 0 then (if 3 < o then 3 else o) else 0) = ((ordN o : Nat) : Int) := by
      unfold ordN
      split <;> split <;> split <;> split <;> omega
    rw [this], rfl⟩
def NewI (w : World) (xs : List Int) (e : Ending) (w' : World) : Prop := ∃ v, e = .returned v ∧ Ev w w' ∧ ON .i32 eI w' w.heap.size v xs
theorem fRes_any {l0 : Value} {xs : List Int} {o : Int} (h : Nm .i32 w l0 xs) (hl : xs.length ≤ 1000000000) : Calls P n_fixed_Residual #[l0, .int .i64 o] w (NewI w (resG (fixG (ordN o)) xs)) := by
  refine of_fixed_Residual (gLen_nm h (fMakeI (Fr.start w) hl fun t10 w1 f1 => gLen_nm (h.ev f1.old) ?_))
  obtain ⟨g, hg⟩ : ∃ g, g = fixG (ordN o) := ⟨_, rfl⟩
  refine ⟨fun i w' => ∃ k : Nat, i = (k : Int) ∧ k ≤ xs.length ∧ Fr w w' [oIt .i32 eI t10 ((resG g xs).take k ++ List.replicate (xs.length - k) 0)], fun i _ => (xs.length - i).toNat, ⟨0, rfl, Nat.zero_le _, f1⟩, ?_⟩
  rintro _ i w2 ⟨k, rfl, hk, f2⟩
  refine gIf_dec (fun hlt => ?_) (fun hge => ?_)
  · have hkl : k < xs.length := by omega
    refine gGet (h.ev f2.old) (by omega) (by omega) (gCall_i0 fright_any (gCall_i (fguess_any (h.ev f2.old) hk hl) fun w3 h3 => ?_))
    have hlen : ((resG g xs).take k).length = k := by rw [List.length_take, resG_len]; omega
    refine fSetO (f2.ev h3) 0 rfl rfl (by rw [List.length_append, hlen, List.length_replicate]; omega) (i32_io _) fun w4 f4 => ?_
    have hv : i32 (rd xs (k : Int) - fixG (ordN o) (xs.take k)) = rd (resG g xs) (k : Int) := by rw [← hg]; exact (rd_tab (f := fun i => i32 (rd xs (i : Int) - g (xs.take i))) hkl).symm
    have f4 : Fr w w4 [oIt .i32 eI t10 (((resG g xs).take k ++ List.replicate (xs.length - k) 0).set k (i32 (rd xs (k : Int) - fixG (ordN o) (xs.take k))))] := f4
    rw [fill_set hlen hkl, hv, rd_nat _ k (by rw [resG_len]; exact hkl), ← List.take_succ_eq_append_getElem (by rw [resG_len]; exact hkl)] at f4
    exact ⟨⟨k + 1, by rw [i64_id (by omega) (by omega)]; omega, hkl, f4⟩, by dsimp only; rw [i64_id (by omega) (by omega)]; omega⟩
  · obtain rfl : k = xs.length := by omega
    rw [Nat.sub_self, List.replicate_zero, List.append_nil, List.take_of_length_le (by rw [resG_len]; exact Nat.le_refl _), hg] at f2
    exact ⟨t10, rfl, f2.old, f2.on 0 rfl⟩
theorem fWeight_any {l0 : Value} {xs : List Int} (h : Nm .i32 w l0 xs) (hl : xs.length ≤ 1000000000) : Calls P n_fixed_Weight #[l0] w (fun e w' => e = .returned (.int .u64 (wtF xs)) ∧ w' = w) := by
  refine of_fixed_Weight (gLen_nm h ⟨fun n i w' => ∃ k : Nat, i = (k : Int) ∧ k ≤ xs.length ∧ n = wtN xs k ∧ w' = w, fun _ i _ => (xs.length - i).toNat, ⟨0, rfl, Nat.zero_le _, rfl, rfl⟩, ?_⟩)
  rintro _ n i w1 ⟨k, rfl, hk, rfl, hw⟩
  obtain rfl : w = w1 := hw.symm
  refine gIf_dec (fun hlt => ?_) (fun hge => ?_)
  · refine gGet h (by omega) (by omega) ⟨⟨k + 1, by rw [i64_id (by omega) (by omega)]; omega, by omega, ?_, rfl⟩, by dsimp only; rw [i64_id (n := (k : Int) + 1) (by omega) (by omega)]; omega⟩
    rw [wtN]
  · obtain rfl : k = xs.length := by omega
    exact ⟨rfl, rfl⟩
theorem fBest_any {l0 : Value} {xs : List Int} (h : Nm .i32 w l0 xs) (hl : xs.length ≤ 1000000000) : Calls P n_fixed_Best #[l0] w (fun e w' => e = .returned (.int .i64 (bestO xs : Nat)) ∧ Ev w w') := by
  refine of_fixed_Best (gCall_i0 (fWeight_any h hl) ⟨fun b l i w' => ∃ k : Nat, i = (k : Int) + 1 ∧ k ≤ 3 ∧ b = ((bfN xs k).1 : Int) ∧ l = (bfN xs k).2 ∧ Ev w w', fun _ _ i _ => (4 - i).toNat, ⟨0, rfl, Nat.zero_le _, rfl, rfl, Ch.refl _ _⟩, ?_⟩)
  rintro _ b l i w1 ⟨k, rfl, hk, rfl, rfl, h1⟩
  refine gIf_dec (fun hlt => ?_) (fun hge => ?_)
  · refine gCall_of (fRes_any (o := (k : Int) + 1) (h.ev h1) hl) ?_
    rintro _ w2 ⟨v, rfl, h2, hv⟩
    have ho : ordN ((k : Int) + 1) = k + 1 := by unfold ordN; split <;> split <;> omega
    rw [ho] at hv
    refine ⟨v, rfl, gCall_i0 (fWeight_any hv.nm (by rw [resG_len]; exact hl)) (gIf_dec (fun hb => ?_) (fun hb => ?_))⟩
    · have e : bfN xs (k + 1) = (k + 1, wtF (resG (fixG (k + 1)) xs)) := by rw [bfN, if_pos hb]
      exact ⟨⟨k + 1, by rw [i64_id (by omega) (by omega)]; omega, by omega, by rw [e]; rfl, by rw [e], h1.trans h2⟩, by dsimp only; rw [i64_id (by omega) (by omega)]; omega⟩
    · have e : bfN xs (k + 1) = bfN xs k := by rw [bfN, if_neg hb]
      exact ⟨⟨k + 1, by rw [i64_id (by omega) (by omega)]; omega, by omega, by rw [e], by rw [e], h1.trans h2⟩, by dsimp only; rw [i64_id (by omega) (by omega)]; omega⟩
  · obtain rfl : k = 3 := by omega
    exact ⟨rfl, h1⟩
end
end Go.Proofs.YtilpoinhfiajcaaGreatDoorV
