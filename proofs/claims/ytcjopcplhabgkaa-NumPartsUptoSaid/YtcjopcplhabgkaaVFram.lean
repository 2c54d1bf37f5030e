/- Things of one's own, all told at once: what a call has made so far, apart from each other and from all that is old. -/
import Derived.Test.YtcjopcplhabgkaaVNodes5
import Derived.Laws.StructEq
namespace Go.Proofs.YtcjopcplhabgkaaV
open Go Go.RowKit
/-- A thing: the blocks that it stands on, and what is told of it. -/
structure It where
  ft : Nat → Prop
  ok : World → Prop
  ce : ∀ (w : World) (k : Nat), ok w → ft k → ∃ c e f, w.heap[k]? = some (Obj.cells c e f)
  st : ∀ (w w' : World) S, ok w → Ch S w w' → (∀ k i, ft k → ¬ S k i) → ok w'
  gr : ∀ w w' : World, ok w → w.heap.size ≤ w'.heap.size → (∀ (k : Nat) c e f, w.heap[k]? = some (Obj.cells c e f) → w'.heap[k]? = w.heap[k]?) → ok w'
theorem It.lt (it : It) (w : World) (k : Nat) (h : it.ok w) (hk : it.ft k) : k < w.heap.size := let ⟨_, _, _, hc⟩ := it.ce w k h hk; hlt hc
def Fr (w0 w : World) : List It → Prop
  | [] => Ev w0 w
  | it :: F => it.ok w ∧ (∀ k, it.ft k → w0.heap.size ≤ k) ∧ (∀ jt ∈ F, ∀ k, it.ft k → ¬ jt.ft k) ∧ Fr w0 w F
section
variable {w0 w w' : World} {F : List It}
theorem Fr.old : ∀ {F : List It}, Fr w0 w F → Ev w0 w
  | [], h => h
  | _ :: _, h => Fr.old h.2.2.2
theorem Fr.start (w : World) : Fr w w [] := Ch.refl _ w
theorem Fr.mem : ∀ {F : List It} {it : It}, Fr w0 w F → it ∈ F → it.ok w ∧ ∀ k, it.ft k → w0.heap.size ≤ k
  | _ :: _, _, h, hm => by
    rcases List.mem_cons.1 hm with rfl | hm
    · exact ⟨h.1, h.2.1⟩
    · exact Fr.mem h.2.2.2 hm
theorem Fr.get {it : It} (h : Fr w0 w F) (i : Nat) (hi : F[i]? = some it) : it.ok w := (h.mem (List.mem_of_getElem? hi)).1
theorem Fr.ft {it : It} (h : Fr w0 w F) (i : Nat) (hi : F[i]? = some it) {k : Nat} (hk : it.ft k) : w0.heap.size ≤ k ∧ k < w.heap.size :=
  ⟨(h.mem (List.mem_of_getElem? hi)).2 k hk, it.lt w k (h.get i hi) hk⟩
/-- A change of what is apart from all of them, and of no old thing. -/
theorem Fr.ch {S : SS} : ∀ {F : List It}, Fr w0 w F → Ch S w w' → (∀ k i, S k i → w0.heap.size ≤ k) → (∀ it ∈ F, ∀ k i, it.ft k → ¬ S k i) → Fr w0 w' F
  | [], h, hc, h0, _ => Ev.new h hc h0
  | it :: F, h, hc, h0, hs => ⟨it.st w w' S h.1 hc (hs it (by simp)), h.2.1, h.2.2.1, Fr.ch h.2.2.2 hc h0 fun jt hj => hs jt (by simp [hj])⟩
theorem Fr.ev (h : Fr w0 w F) (he : Ev w w') : Fr w0 w' F := h.ch he (fun _ _ h => h.elim) fun _ _ _ _ _ h => h
theorem Fr.drew (h : Fr w0 w F) : Fr w0 w.drew F := h.ev (Ev.drew0 w)
/-- A new thing. -/
theorem Fr.new {jt : It} (h : Fr w0 w F) (he : Ev w w') (ok : jt.ok w') (hf : ∀ k, jt.ft k → w.heap.size ≤ k) : Fr w0 w' (jt :: F) :=
  ⟨ok, fun k hk => Nat.le_trans h.old.size (hf k hk), fun it hi k hk hik => by
    have := hf k hk
    have := it.lt w k (h.mem hi).1 hik
    omega, h.ev he⟩
theorem Fr.set_apart {it jt : It} : ∀ {F : List It} {i : Nat}, Fr w0 w F → F[i]? = some it → (∀ k, jt.ft k → it.ft k ∨ w.heap.size ≤ k) → ∀ {S : SS}, Ch S w w' → (∀ k i, S k i → it.ft k ∨ w.heap.size ≤ k) → jt.ok w' → Fr w0 w' (F.set i jt)
  | it' :: F, 0, h, hi, hf, S, hc, hS, ok => by
    simp only [List.getElem?_cons_zero, Option.some.injEq] at hi
    subst hi
    have ho := h.2.2.2.old.size
    refine ⟨ok, fun k hk => ?_, fun jt' hj k hk hjk => ?_, h.2.2.2.ch hc (fun k i hs => ?_) fun jt' hj k i hjk hs => ?_⟩
    · rcases hf k hk with h1 | h1
      · exact h.2.1 k h1
      · omega
    · rcases hf k hk with h1 | h1
      · exact h.2.2.1 jt' hj k h1 hjk
      · have := jt'.lt w k (h.2.2.2.mem hj).1 hjk; omega
    · rcases hS k i hs with h1 | h1
      · exact h.2.1 k h1
      · omega
    · rcases hS k i hs with h1 | h1
      · exact h.2.2.1 jt' hj k h1 hjk
      · have := jt'.lt w k (h.2.2.2.mem hj).1 hjk; omega
  | it' :: F, i + 1, h, hi, hf, S, hc, hS, ok => by
    simp only [List.getElem?_cons_succ] at hi
    have hm := List.mem_of_getElem? hi
    refine ⟨it'.st w w' S h.1 hc fun k i hk hs => ?_, h.2.1, fun jt' hj k hk hjk => ?_, Fr.set_apart h.2.2.2 hi hf hc hS ok⟩
    · rcases hS k i hs with h1 | h1
      · exact h.2.2.1 it hm k hk h1
      · have := it'.lt w k h.1 hk; omega
    · rcases List.mem_or_eq_of_mem_set hj with hj | rfl
      · exact h.2.2.1 jt' hj k hk hjk
      · rcases hf k hjk with h1 | h1
        · exact h.2.2.1 it hm k hk h1
        · have := it'.lt w k h.1 hk; omega
/-- A thing that changes. -/
theorem Fr.upd {it jt : It} {S : SS} (h : Fr w0 w F) (i : Nat) (hi : F[i]? = some it) (hc : Ch S w w') (hS : ∀ k i, S k i → it.ft k ∨ w.heap.size ≤ k) (ok : jt.ok w') (hf : ∀ k, jt.ft k → it.ft k ∨ w.heap.size ≤ k) : Fr w0 w' (F.set i jt) :=
  h.set_apart hi hf hc hS ok
theorem Fr.apart {it jt : It} : ∀ {F : List It} {i j : Nat}, Fr w0 w F → F[i]? = some it → F[j]? = some jt → i ≠ j → ∀ k, it.ft k → ¬ jt.ft k
  | _ :: _, 0, 0, _, _, _, hn, _, _ => absurd rfl hn
  | a :: F, 0, j + 1, h, hi, hj, _, k, hk => by
    simp only [List.getElem?_cons_zero, Option.some.injEq] at hi
    subst hi
    exact h.2.2.1 jt (List.mem_of_getElem? (by simpa using hj)) k hk
  | a :: F, i + 1, 0, h, hi, hj, _, k, hk => by
    simp only [List.getElem?_cons_zero, Option.some.injEq] at hj
    subst hj
    exact fun hk2 => h.2.2.1 it (List.mem_of_getElem? (by simpa using hi)) k hk2 hk
  | a :: F, i + 1, j + 1, h, hi, hj, hn, k, hk => Fr.apart h.2.2.2 (by simpa using hi) (by simpa using hj) (by omega) k hk
/-- Blocks that are no cells, and no old ones, may turn. -/
theorem Fr.gr : ∀ {F : List It}, Fr w0 w F → w.heap.size ≤ w'.heap.size → w'.os = w.os → w'.tape = w.tape → w'.output = w.output → (∀ k : Nat, k < w0.heap.size → w'.heap[k]? = w.heap[k]?) → (∀ (k : Nat) c e f, w.heap[k]? = some (Obj.cells c e f) → w'.heap[k]? = w.heap[k]?) → Fr w0 w' F
  | [], h, hs, h1, h2, h3, hb, hc => ⟨h1.trans h.os, h2.trans h.tape, h3.trans h.output, Nat.le_trans h.size hs, fun k hk _ => (hb k hk).trans (h.blk k hk fun _ h => h),
      fun k c e f hk => ⟨c, by rw [hb k (hlt hk), h.blk k (hlt hk) fun _ h => h]; exact hk, rfl, fun _ _ => rfl⟩, fun k o hk _ => by rw [hb k (hlt hk), h.blk k (hlt hk) fun _ h => h]; exact hk⟩
  | it :: F, h, hs, h1, h2, h3, hb, hc => ⟨it.gr w w' h.1 hs hc, h.2.1, h.2.2.1, Fr.gr h.2.2.2 hs h1 h2 h3 hb hc⟩
theorem Fr.eraseM : ∀ {F : List It} {i : Nat}, Fr w0 w F → Fr w0 w (F.eraseIdx i)
  | [], _, h => by simpa using h
  | _ :: _, 0, h => h.2.2.2
  | it :: F, i + 1, h => ⟨h.1, h.2.1, fun jt hj => h.2.2.1 jt (List.mem_of_mem_eraseIdx hj), Fr.eraseM h.2.2.2⟩
/-- A thing that is let go. -/
theorem Fr.drop (h : Fr w0 w F) (i : Nat) : Fr w0 w (F.eraseIdx i) := h.eraseM
end
theorem gIf_nndec {p : Prop} [Decidable p] {A B : Prop} (ha : p → A) (hb : ¬ p → B) : gIf (!(!decide p)) A B := gIf_of (fun h => ha (by simpa using h)) (fun h => hb (by simpa using h))
theorem gIf_b {b : Bool} {A B : Prop} (ha : b = true → A) (hb : b = false → B) : gIf b A B := gIf_of ha hb
theorem gIf_nb {b : Bool} {A B : Prop} (ha : b = false → A) (hb : b = true → B) : gIf (!b) A B := by cases b; exact ha rfl; exact hb rfl
/-! ### Things -/
theorem St.gr {w w' : World} {ad : Addr} {cs : List Value} (h : St w ad cs) (hc : ∀ (k : Nat) c e f, w.heap[k]? = some (Obj.cells c e f) → w'.heap[k]? = w.heap[k]?) : St w' ad cs := by
  obtain ⟨h0, c, e, h1, h2⟩ := h; exact ⟨h0, c, e, by rw [hc _ _ _ _ h1]; exact h1, h2⟩
theorem ON.gr {k : IntKind} {e : TypeId} {w w' : World} {B : Nat} {v : Value} {xs : List Int} (h : ON k e w B v xs) (hc : ∀ (k : Nat) c e f, w.heap[k]? = some (Obj.cells c e f) → w'.heap[k]? = w.heap[k]?) : ON k e w' B v xs := by
  refine ⟨⟨h.1.1, ?_⟩, h.2⟩
  rcases h.1.2 with hn | ⟨g, cap, cur, rfl, hb, hg, r⟩
  · exact .inl hn
  · exact .inr ⟨g, cap, cur, rfl, hb, by rw [hc _ _ _ _ hg]; exact hg, r⟩
theorem ON.ce {k : IntKind} {e : TypeId} {w : World} {B : Nat} {v : Value} {xs : List Int} (h : ON k e w B v xs) {g : Nat} (hg : v.ownBlock = some g) : ∃ c e f, w.heap[g]? = some (Obj.cells c e f) := by
  rcases h.1.2 with ⟨rfl, _⟩ | ⟨g', cap, cur, rfl, hb, hh, r⟩
  · cases hg
  · simp [Value.ownBlock] at hg; subst hg; exact ⟨_, _, _, hh⟩
theorem St.ce {w : World} {ad : Addr} {cs : List Value} (h : St w ad cs) : ∃ c e f, w.heap[ad.block]? = some (Obj.cells c e f) := let ⟨_, c, e, h1, _⟩ := h; ⟨c, e, _, h1⟩
def sIt (ad : Addr) (cs : List Value) : It := ⟨fun k => k = ad.block, fun w => St w ad cs, fun _ _ h hk => by rw [hk]; exact h.ce, fun _ _ _ h hc hs => h.ch hc fun j _ => hs _ _ rfl, fun _ _ h _ hc => h.gr hc⟩
def oIt (k : IntKind) (e : TypeId) (v : Value) (xs : List Int) : It := ⟨fun b => v.ownBlock = some b, fun w => ON k e w 0 v xs, fun _ _ h hk => h.ce hk, fun _ _ _ h hc hs => h.ch hc hs, fun _ _ h _ hc => h.gr hc⟩
def wIt (e : TypeId) (ad : Addr) (v : Value) (xs : List Int) : It := ⟨fun k => k = ad.block ∨ v.ownBlock = some k, fun w => Wr e w ad v xs, fun _ _ h hk => by rcases hk with hk | hk; (rw [hk]; exact h.1.ce); exact h.2.1.ce hk, fun _ _ _ h hc hs => h.ch hc fun k i hk => hs k i hk, fun _ _ h _ hc => ⟨h.1.gr hc, h.2.1.gr hc, h.2.2⟩⟩
section
variable {P : Program} {w0 w : World} {F : List It}
theorem Fr.cell {ad : Addr} {cs : List Value} (h : Fr w0 w F) (i : Nat) (j : Nat) {u : Value} (hi : F[i]? = some (sIt ad cs)) (hj : cs[j]? = some u) : w.cell? (ad.add j) = some u := St.cell (h.get i hi) hj
theorem fAlloc {t : TypeId} {z : Value} {K : Addr → World → Prop} (h : Fr w0 w F) (hz : (P.info? t).bind (·.zero) = some z) (hk : ∀ ad w', Fr w0 w' (sIt ad z.cells.toList :: F) → K ad w') : gAlloc P t w K :=
  gAlloc_of hz fun ad w' he ha _ hS => hk ad w' (h.new he hS fun k hk => by have hk : k = ad.block := hk; subst ha; dsimp only at hk; omega)
theorem fBox {t : TypeId} {v : Value} {K : Addr → World → Prop} (h : Fr w0 w F) (hk : ∀ ad w', Fr w0 w' (sIt ad v.cells.toList :: F) → K ad w') : gBox P t v w K :=
  gBox_of fun ad w' he ha _ hS => hk ad w' (h.new he hS fun k hk => by have hk : k = ad.block := hk; subst ha; dsimp only at hk; omega)
theorem fStore {t : TypeId} {ad : Addr} {cs : List Value} {u : Value} {K : World → Prop} (h : Fr w0 w F) (i j : Nat) (hi : F[i]? = some (sIt ad cs)) (hk : ∀ w', Fr w0 w' (F.set i (sIt ad (cs.set j u))) → K w') (hj : j < cs.length := by exact Nat.le_of_ble_eq_true rfl) (hu : u.oneCell' = true := by rfl) (hcl : u.cells = #[u] := by rfl) (ht : flat1 P t = true := by kernel_rfl) :
    gStore P t (.pointer (some (ad.add j))) u w K :=
  gStore_st (h.get i hi) hj hu hcl (fun w' hc _ hS => hk w' (h.upd i hi hc (fun k _ hh => .inl (by
    have h0 : ad.spot = none := (show St w ad cs from h.get i hi).1
    have h1 := hh.1
    rw [Addr.add_none h0] at h1; exact h1)) hS fun k hk => .inl hk)) ht
theorem fStoreA {t : TypeId} {ad : Addr} {cs : List Value} {ds : Array Value} {K : World → Prop} (h : Fr w0 w F) (i : Nat) (hi : F[i]? = some (sIt ad cs)) (hk : ∀ w', Fr w0 w' (F.set i (sIt ad ds.toList)) → K w') (hj : ds.size = cs.length := by rfl) (h1 : ∀ u ∈ ds.toList, u.oneCell' = true := by simp [Value.oneCell']) (ht : sizeIs P t ds.size = true := by kernel_rfl) :
    gStore P t (.pointer (some ad)) (.agg ds) w K :=
  gStore_agg0 (h.get i hi) (by omega) h1 (fun w' hc _ hS => hk w' (h.upd i hi hc (fun k _ hh => .inl hh.1) (by
    have : cs.drop ds.size = [] := List.drop_of_length_le (by omega)
    rw [this, List.append_nil] at hS; exact hS) fun k hk => .inl hk)) ht
theorem fLoadA {t : TypeId} {cks : List Ck} {ad : Addr} {K : TF cks Prop} {cs : List Value} (h : Fr w0 w F) (i : Nat) (hi : F[i]? = some (sIt ad cs)) (hk : tapp False cks K cs) (hl : cs.length = cks.length := by rfl) (ht : aggB P t cs.length = true := by kernel_rfl) : gLoad P t (.part (.agg cks)) (.pointer (some ad)) w K :=
  gLoad_agg cs (fun j u hj => h.cell i j hi hj) hk hl ht
theorem fLoad_i {t : TypeId} {k : IntKind} {n : Int} {ad : Addr} {cs : List Value} {K : Int → Prop} (h : Fr w0 w F) (i j : Nat) (hi : F[i]? = some (sIt ad cs)) (hj : cs[j]? = some (.int k n)) (hk : K n) (ht : flat P t = true := by kernel_rfl) : gLoad P t (shI k) (.pointer (some (ad.add j))) w K := gLoad_i (h.cell i j hi hj) hk ht
theorem fLoad_v {t : TypeId} {v : Value} {ad : Addr} {cs : List Value} {K : Value → Prop} (h : Fr w0 w F) (i j : Nat) (hi : F[i]? = some (sIt ad cs)) (hj : cs[j]? = some v) (hk : K v) (ht : flat P t = true := by kernel_rfl) : gLoad P t shV (.pointer (some (ad.add j))) w K := gLoad_v (h.cell i j hi hj) hk ht
theorem fLoad_p {t : TypeId} {v : Option Addr} {ad : Addr} {cs : List Value} {K : Option Addr → Prop} (h : Fr w0 w F) (i j : Nat) (hi : F[i]? = some (sIt ad cs)) (hj : cs[j]? = some (.pointer v)) (hk : K v) (ht : flat P t = true := by kernel_rfl) : gLoad P t shP (.pointer (some (ad.add j))) w K := gLoad_p (h.cell i j hi hj) hk ht
theorem fLoad_b {t : TypeId} {v : Bool} {ad : Addr} {cs : List Value} {K : Bool → Prop} (h : Fr w0 w F) (i j : Nat) (hi : F[i]? = some (sIt ad cs)) (hj : cs[j]? = some (.bool v)) (hk : K v) (ht : flat P t = true := by kernel_rfl) : gLoad P t shB (.pointer (some (ad.add j))) w K := gLoad_b (h.cell i j hi hj) hk ht
theorem fLit_n {t : TypeId} {n : Nat} {k : IntKind} {parts : Array (Nat × Value)} {K : Value → World → Prop} (xs : List Int) (h : Fr w0 w F) (hp : parts.toList = enumV 0 (xs.map (.int k))) (hn : xs.length = n) (hr : inR k xs)
    (hk : ∀ v w', Fr w0 w' (oIt k (elOf P t) v xs :: F) → K v w') (hm : n ≤ 1000000 := by decide) (ht : sl1 P t = true := by kernel_rfl) : gLit P t n parts w K :=
  gLit_n xs hp hn hm hr (fun v w' he ho => hk v w' (h.new he (ho.low (Nat.zero_le _)) fun k hk => (ho.base hk).1)) ht
/-- Appending to a slice of one's own: it is another one. -/
theorem fApp {t ty : TypeId} {k : IntKind} {v y : Value} {xs ys : List Int} {K : Value → World → Prop} (h : Fr w0 w F) (i : Nat) (hi : F[i]? = some (oIt k (elOf P t) v xs)) (hy : Nm k w y ys) (hb : (xs.length + ys.length) * 8 ≤ 140737488355328)
    (hk : ∀ v' w', Fr w0 w' (F.set i (oIt k (elOf P t) v' (xs ++ ys))) → K v' w') (ht : slInt P t k = true := by kernel_rfl) : gApp P #[t, t] ty #[v, y] w K :=
  gApp_on (h.get i hi) hy hb (Nat.zero_le _) (fun v' w' ho hc hm => hk v' w' (h.upd i hi hc (fun k _ hh => .inl hh) ho fun k hk => by
    rcases hm with hm | hm
    · exact .inl (by have hk : v'.ownBlock = some k := hk; rw [hm] at hk; exact hk)
    · exact .inr (hm k hk))) ht
/-- Appending to nothing. -/
theorem fApp0 {t ty : TypeId} {k : IntKind} {y : Value} {ys : List Int} {K : Value → World → Prop} (h : Fr w0 w F) (hy : Nm k w y ys) (hb : ys.length * 8 ≤ 140737488355328)
    (hk : ∀ v' w', Fr w0 w' (oIt k (elOf P t) v' ys :: F) → K v' w') (ht : slInt P t k = true := by kernel_rfl) : gApp P #[t, t] ty #[.slice none 0 0, y] w K :=
  gApp_on (ON.nil k (elOf P t) w w.heap.size) hy (by simpa using hb) (Nat.le_refl _) (fun v' w' ho hc hm => hk v' w' (h.new (hc.mono fun _ _ _ hh => by cases hh) (by rw [List.nil_append] at ho; exact ho.low (Nat.zero_le _)) fun k hk => (ho.base hk).1)) ht
theorem on_new {k : IntKind} {e : TypeId} {B : Nat} {v : Value} {xs : List Int} (ho : ON k e w 0 v xs) (hb : ∀ g, v.ownBlock = some g → B ≤ g) : ON k e w B v xs := by
  refine ⟨⟨ho.1.1, ?_⟩, ho.2⟩
  rcases ho.1.2 with hn | ⟨g, cap, cur, rfl, _, r⟩
  · exact .inl hn
  · exact .inr ⟨g, cap, cur, rfl, hb g rfl, r⟩
theorem Fr.on {k : IntKind} {e : TypeId} {v : Value} {xs : List Int} (h : Fr w0 w F) (i : Nat) (hi : F[i]? = some (oIt k e v xs)) : ON k e w w0.heap.size v xs := by
  have ho : ON k e w 0 v xs := h.get i hi
  refine ⟨⟨ho.1.1, ?_⟩, ho.2⟩
  rcases ho.1.2 with hn | ⟨g, cap, cur, rfl, hb, r⟩
  · exact .inl hn
  · exact .inr ⟨g, cap, cur, rfl, (h.ft i hi (k := g) rfl).1, r⟩
theorem Fr.nm {k : IntKind} {e : TypeId} {v : Value} {xs : List Int} (h : Fr w0 w F) (i : Nat) (hi : F[i]? = some (oIt k e v xs)) : Nm k w v xs := (h.on i hi).nm
theorem Fr.nil0 (h : Fr w0 w F) (k : IntKind) (e : TypeId) : Fr w0 w (oIt k e (.slice none 0 0) [] :: F) :=
  h.new (Ch.refl _ w) (ON.nil k e w 0) fun _ hk => by cases hk
/-- A new slice that a call hands back. -/
theorem Fr.newO {k : IntKind} {e : TypeId} {w' : World} {v : Value} {xs : List Int} (h : Fr w0 w F) (he : Ev w w') (ho : ON k e w' w.heap.size v xs) : Fr w0 w' (oIt k e v xs :: F) :=
  h.new he (ho.low (Nat.zero_le _)) fun _ hk => (ho.base hk).1

/-! ### Structs of numbers, held against each other -/
def intSt (P : Program) (t : TypeId) (n : Nat) : Bool := match P.underlying t with
  | some (.struct fs) => Nat.beq fs.size n && (List.range n).all (fun i => match fs[i]? with
      | some f => Nat.beq f.offset i && (f.name != "_") && (match P.underlying f.type with | some (.int .i64) => true | _ => false)
      | none => false) && !P.stoodInHeld t && !P.eqGuardType P.depth t
  | _ => false
theorem run_eqFields_ints {d : Nat} {xs ys : List Int} (hl : xs.length = ys.length) : ∀ (fs : List Field) (i : Nat), (∀ j f, fs[j]? = some f → f.offset = i + j ∧ f.name ≠ "_" ∧ P.underlying f.type = some (.int .i64)) → i + fs.length = xs.length →
    (Op.eqFields (d + 1) (xs.map (Value.int .i64)).toArray (ys.map (Value.int .i64)).toArray fs).run P w = .ok (decide (xs.drop i = ys.drop i)) w
  | [], i, _, h => by
    have h1 : xs.drop i = [] := List.drop_of_length_le (by simp at h; omega)
    have h2 : ys.drop i = [] := List.drop_of_length_le (by simp at h; omega)
    simp [Op.eqFields, h1, h2]
  | f :: fs, i, hf, h => by
    obtain ⟨h1, h2, h3⟩ := hf 0 f rfl
    simp only [List.length_cons] at h
    have hx : i < xs.length := by omega
    have hy : i < ys.length := by omega
    have ih := run_eqFields_ints (d := d) hl fs (i + 1) (fun j f hj => by have := hf (j + 1) f (by simpa using hj); rw [show i + 1 + j = i + (j + 1) by omega]; exact this) (by omega)
    have pt : ∀ {zs : List Int} (hz : i < zs.length), (part f.type (zs.map (Value.int .i64)).toArray f.offset).run P w = .ok (.int .i64 zs[i]) w := fun {zs} hz => by
      rw [h1]; unfold part
      simp [isAgg, run_underlying h3, hz]
    unfold Op.eqFields
    rw [if_pos h2]
    simp only [Sem.run_bind, pt hx, pt hy, Result.andThen_ok, run_equalIn_int w d _ _ _ _ _ h3, Sem.run_ite]
    rw [List.drop_eq_getElem_cons hx, List.drop_eq_getElem_cons hy]
    by_cases e : xs[i] = ys[i]
    · rw [show (xs[i] == ys[i]) = true by simpa using e]
      simp only [Bool.not_true, Bool.false_eq_true, if_false, ih, e, List.cons.injEq, true_and]
    · rw [show (xs[i] == ys[i]) = false by simpa using e]
      simp only [Bool.not_false, if_true, Sem.run_pure]
      rw [decide_eq_false]
      intro hc; injection hc with hc _; exact e hc
theorem gEq_ints {t : TypeId} {cs bs : Array Value} {K : Bool → Prop} (xs ys : List Int) (ha : cs = (xs.map (Value.int .i64)).toArray) (hb : bs = (ys.map (Value.int .i64)).toArray) (hl : xs.length = ys.length) (hk : K (decide (xs = ys))) (ht : intSt P t xs.length = true := by kernel_rfl) : gEq P .eql t (.agg cs) (.agg bs) K := by
  subst ha; subst hb
  unfold intSt at ht
  split at ht
  · rename_i fs hu
    simp only [Bool.and_eq_true, List.all_eq_true, List.mem_range, Bool.not_eq_true'] at ht
    obtain ⟨⟨⟨h1, h2⟩, h3⟩, h4⟩ := ht
    have h1 := Nat.eq_of_beq_eq_true h1
    have hfo : P.fieldsOf t = fs := by unfold Program.fieldsOf; rw [hu]
    have hu' : P.underlying t = some (.struct (P.fieldsOf t)) := by rw [hfo]; exact hu
    refine ⟨decide (xs = ys), fun cx cy w => ⟨run_eqGuard_agg w .eql t cx cy _ _ h4, ?_⟩, hk⟩
    rw [run_eql_struct, show (10000 : Nat) = 9998 + 1 + 1 from rfl, run_equalIn_struct w (9998 + 1) t _ _ hu' h3, hfo]
    rw [run_eqFields_ints hl fs.toList 0 (fun j f hj => ?_) (by simp [h1])]
    · simp
    · rw [Array.getElem?_toList] at hj
      have hlt : j < xs.length := by rw [← h1]; exact (Array.getElem?_eq_some_iff.1 hj).1
      have := h2 j hlt
      rw [hj] at this
      simp only [Bool.and_eq_true] at this
      obtain ⟨⟨e1, e2⟩, e3⟩ := this
      refine ⟨by rw [Nat.zero_add]; exact Nat.eq_of_beq_eq_true e1, by simpa using e2, ?_⟩
      split at e3
      · rename_i he; exact he
      · cases e3
  · cases ht
theorem gEq_bool {t : TypeId} {a b : Bool} {K : Bool → Prop} (hk : K (a == b)) (ht : (match P.underlying t with | some .bool => true | _ => false) = true := by kernel_rfl) : gEq P .eql t (.bool a) (.bool b) K := by
  have hu : P.underlying t = some .bool := by
    split at ht
    · rename_i h; exact h
    · cases ht
  refine ⟨a == b, fun cx cy w => ⟨rfl, ?_⟩, hk⟩
  have hb : binOp .eql t (.bool a) (.bool b) = (do pure (.bool (← Op.equal t (.bool a) (.bool b)))) := rfl
  rw [hb]; simp only [Sem.run_bind, run_equal_bool w t a b hu, Result.andThen_ok, Sem.run_pure]
theorem gNe_bool {t : TypeId} {a b : Bool} {K : Bool → Prop} (hk : K (!(a == b))) (ht : (match P.underlying t with | some .bool => true | _ => false) = true := by kernel_rfl) : gEq P .neq t (.bool a) (.bool b) K := by
  have hu : P.underlying t = some .bool := by
    split at ht
    · rename_i h; exact h
    · cases ht
  refine ⟨!(a == b), fun cx cy w => ⟨rfl, ?_⟩, hk⟩
  have hb : binOp .neq t (.bool a) (.bool b) = (do pure (.bool (!(← Op.equal t (.bool a) (.bool b))))) := rfl
  rw [hb]; simp only [Sem.run_bind, run_equal_bool w t a b hu, Result.andThen_ok, Sem.run_pure]
end
end Go.Proofs.YtcjopcplhabgkaaV
