/- Memory: how worlds change (Ch), slices that are read (Sl, Nm) and owned (Ow, ON), structs behind pointers (St), and one lemma a node. -/
import Derived.Test.YtcjopcplhabgkaaVDraw
import Derived.Below
import Derived.Laws.OwnMore
import Derived.Laws.MakeOwn
import Derived.Laws.CopyOwn
import Derived.RangeFuncOwn
namespace Go.Proofs.YtcjopcplhabgkaaV
open Go Go.RowKit

/-! ### Numbers -/
theorem i64_id {n : Int} (h1 : -9223372036854775808 ≤ n) (h2 : n ≤ 9223372036854775807) : i64 n = n := by simp only [i64, IntKind.wrap, IntKind.signed, IntKind.bits]; simp; omega
theorem u8_def (n : Int) : u8 n = n % 256 := by simp [u8, IntKind.wrap, IntKind.signed, IntKind.bits]
theorem u8_id {n : Int} (h1 : 0 ≤ n) (h2 : n < 256) : u8 n = n := by rw [u8_def]; omega
theorem u16_def (n : Int) : u16 n = n % 65536 := by simp [u16, IntKind.wrap, IntKind.signed, IntKind.bits]
theorem u32_def (n : Int) : u32 n = n % 4294967296 := by simp [u32, IntKind.wrap, IntKind.signed, IntKind.bits]
theorem u64_def (n : Int) : u64 n = n % 18446744073709551616 := by simp [u64, IntKind.wrap, IntKind.signed, IntKind.bits]
theorem i64_def (n : Int) : i64 n = (n + 9223372036854775808) % 18446744073709551616 - 9223372036854775808 := by simp only [i64, IntKind.wrap, IntKind.signed, IntKind.bits]; simp; omega
theorem i32_def (n : Int) : i32 n = (n + 2147483648) % 4294967296 - 2147483648 := by simp only [i32, IntKind.wrap, IntKind.signed, IntKind.bits]; simp; omega
theorem i16_def (n : Int) : i16 n = (n + 32768) % 65536 - 32768 := by simp only [i16, IntKind.wrap, IntKind.signed, IntKind.bits]; simp; omega
/-- The element at a place; none: 0. -/
def rd (xs : List Int) (i : Int) : Int := xs.getD i.toNat 0
theorem rd_get {xs : List Int} {i : Int} (h0 : 0 ≤ i) (h : i < xs.length) : xs[i.toNat]? = some (rd xs i) := by
  have : i.toNat < xs.length := by omega
  simp [rd, this]
theorem rd_mem {xs : List Int} {i : Int} (h0 : 0 ≤ i) (h : i < xs.length) : rd xs i ∈ xs := List.mem_of_getElem? (rd_get h0 h)
theorem rd_nat (xs : List Int) (i : Nat) (h : i < xs.length) : rd xs i = xs[i] := by simp [rd, h]

/-! ### How worlds change -/
abbrev SS := Nat → Nat → Prop
abbrev No : SS := fun _ _ => False
/-- What stood outside S is as it was; blocks keep their shape. -/
structure Ch (S : SS) (w w' : World) : Prop where
  os : w'.os = w.os
  tape : w'.tape = w.tape
  output : w'.output = w.output
  size : w.heap.size ≤ w'.heap.size
  blk : ∀ k, k < w.heap.size → (∀ i, ¬ S k i) → w'.heap[k]? = w.heap[k]?
  cel : ∀ k c e f, w.heap[k]? = some (.cells c e f) → ∃ c', w'.heap[k]? = some (.cells c' e f) ∧ c'.size = c.size ∧ ∀ i, ¬ S k i → c'[i]? = c[i]?
  oth : ∀ (k : Nat) (o : Obj), w.heap[k]? = some o → o.isCells = false → w'.heap[k]? = some o
abbrev Ev (w w' : World) : Prop := Ch No w w'
theorem hlt {w : World} {k : Nat} {o : Obj} (h : w.heap[k]? = some o) : k < w.heap.size := (Array.getElem?_eq_some_iff.1 h).1
theorem Ch.refl (S : SS) (w : World) : Ch S w w := ⟨rfl, rfl, rfl, Nat.le_refl _, fun _ _ _ => rfl, fun _ c _ _ h => ⟨c, h, rfl, fun _ _ => rfl⟩, fun _ _ h _ => h⟩
theorem Ch.mono {S T : SS} {w w' : World} (h : Ch S w w') (hs : ∀ k i, k < w.heap.size → S k i → T k i) : Ch T w w' :=
  ⟨h.os, h.tape, h.output, h.size, fun k hk hn => h.blk k hk fun i hi => hn i (hs k i hk hi), fun k c e f hc =>
    let ⟨c', h1, h2, h3⟩ := h.cel k c e f hc; ⟨c', h1, h2, fun i hi => h3 i fun hh => hi (hs k i (hlt hc) hh)⟩, h.oth⟩
theorem Ch.trans {S T : SS} {a b c : World} (h : Ch S a b) (k : Ch T b c) (hs : ∀ n i, n < a.heap.size → T n i → S n i) : Ch S a c :=
  ⟨k.os.trans h.os, k.tape.trans h.tape, k.output.trans h.output, Nat.le_trans h.size k.size,
    fun n hn hS => (k.blk n (Nat.lt_of_lt_of_le hn h.size) fun i hi => hS i (hs n i hn hi)).trans (h.blk n hn hS),
    fun n x e f hx =>
      let ⟨y, h1, h2, h3⟩ := h.cel n x e f hx
      let ⟨z, k1, k2, k3⟩ := k.cel n y e f h1
      ⟨z, k1, k2.trans h2, fun i hi => (k3 i fun hh => hi (hs n i (hlt hx) hh)).trans (h3 i hi)⟩, fun n o hn ho => k.oth n o (h.oth n o hn ho) ho⟩
theorem ne_cells {w : World} {k g : Nat} {o : Obj} {c : Array Value} {e : TypeId} {f : Nat × Nat} (hg : w.heap[g]? = some (.cells c e f)) (hk : w.heap[k]? = some o) (ho : o.isCells = false) : k ≠ g := by
  rintro rfl; rw [hg] at hk; injection hk with hk; subst hk; cases ho
theorem Ch.others {S : SS} {w w' : World} (h : Ch S w w') : KeepsOthers w w' := ⟨h.size, h.oth⟩
theorem Ev.trans {a b c : World} (h : Ev a b) (k : Ev b c) : Ev a c := Ch.trans h k fun _ _ _ h => h
/-- What changes new blocks alone changes nothing. -/
theorem Ev.new {T : SS} {a b c : World} (h : Ev a b) (k : Ch T b c) (ht : ∀ n i, T n i → a.heap.size ≤ n) : Ev a c :=
  Ch.trans h k fun n i hn hT => absurd (ht n i hT) (by omega)
theorem Ch.drew {S : SS} {a b : World} (h : Ch S a b) : Ch S a b.drew := ⟨h.os, h.tape, h.output, h.size, h.blk, h.cel, h.oth⟩
theorem Ev.drew {a b : World} (h : Ev a b) : Ev a b.drew := Ch.drew h
theorem Ev.drew0 (w : World) : Ev w w.drew := (Ch.refl No w).drew
theorem Ch.below {w w' : World} (h : Ev w w') : Below w.heap.size w w' := ⟨h.os, h.tape, h.output, h.size, fun k hk => h.blk k hk fun _ h => h⟩
theorem Ev.of_below {w w' : World} (h : Below w.heap.size w w') : Ev w w' :=
  ⟨h.os, h.tape, h.output, h.size, fun k hk _ => h.block k hk, fun k c e f hc => ⟨c, by rw [h.block k (hlt hc), hc], rfl, fun _ _ => rfl⟩, fun k o hk _ => by rw [h.block k (hlt hk), hk]⟩
theorem Ev.alloc (w : World) (o : Obj) : Ev w (w.alloc o) := Ev.of_below ((Below.refl _ w).alloc (Nat.le_refl _) o)
abbrev Bk (b : Nat) : SS := fun k _ => k = b
abbrev Rg (a : Addr) (n : Nat) : SS := fun k i => k = a.block ∧ a.off ≤ i ∧ i < a.off + n
/-- The block of a slice. -/
abbrev Ob (v : Value) : SS := fun k _ => v.ownBlock = some k
theorem Ch.cell {S : SS} {w w' : World} (h : Ch S w w') {a : Addr} {u : Value} (hc : w.cell? a = some u) (hs : ¬ S a.block a.off) : w'.cell? a = some u := by
  unfold World.cell? at hc ⊢
  split at hc
  · rename_i c e f hb
    obtain ⟨c', h1, _, h3⟩ := h.cel _ _ _ _ hb
    rw [h1]
    dsimp only
    split at hc
    · cases hc
    · rename_i hsp
      rw [if_neg hsp, h3 _ hs]; exact hc
  · cases hc

/-! ### Slices that are read -/
def Sl (w : World) (sz : Nat) (v : Value) (n : Nat) (cs : List Value) : Prop :=
  ∃ a c, v = .slice a n c ∧ n ≤ c ∧ cs.length = n * sz ∧ (∀ ad, a = some ad → ∀ j u, cs[j]? = some u → w.cell? (ad.add j) = some u) ∧ (a = none → n = 0)
def inR (k : IntKind) (xs : List Int) : Prop := ∀ x ∈ xs, k.min ≤ x ∧ x ≤ k.max
/-- A slice of numbers of a kind reads as a list. -/
def Nm (k : IntKind) (w : World) (v : Value) (xs : List Int) : Prop := Sl w 1 v xs.length (xs.map (.int k)) ∧ inR k xs
theorem inR.u8 {xs : List Int} (h : inR .u8 xs) {x : Int} (hx : x ∈ xs) : 0 ≤ x ∧ x < 256 := by
  have := h x hx; simp [IntKind.min, IntKind.max, IntKind.signed, IntKind.bits] at this; omega
theorem rd_u8 {xs : List Int} (h : inR .u8 xs) (i : Int) : 0 ≤ rd xs i ∧ rd xs i < 256 := by
  by_cases hi : i.toNat < xs.length
  · have : rd xs i ∈ xs := by simp [rd, hi]
    exact h.u8 this
  · simp [rd, List.getD_eq_getElem?_getD, List.getElem?_eq_none (Nat.le_of_not_lt hi)]
theorem Sl.ch {S : SS} {w w' : World} {sz n : Nat} {v : Value} {cs : List Value} (h : Sl w sz v n cs) (hc : Ch S w w') (hs : ∀ g i, v.ownBlock = some g → ¬ S g i) : Sl w' sz v n cs := by
  obtain ⟨a, c, rfl, h1, h2, h3, h4⟩ := h
  refine ⟨a, c, rfl, h1, h2, fun ad ha j u hj => hc.cell (h3 ad ha j u hj) ?_, h4⟩
  subst ha
  have : (ad.add j).block = ad.block := by unfold Addr.add; split <;> rfl
  rw [this]
  exact hs _ _ rfl
theorem Sl.ev {w w' : World} {sz n : Nat} {v : Value} {cs : List Value} (h : Sl w sz v n cs) (hc : Ev w w') : Sl w' sz v n cs := h.ch hc fun _ _ _ h => h
theorem Nm.ch {k : IntKind} {S : SS} {w w' : World} {v : Value} {xs : List Int} (h : Nm k w v xs) (hc : Ch S w w') (hs : ∀ g i, v.ownBlock = some g → ¬ S g i) : Nm k w' v xs := ⟨h.1.ch hc hs, h.2⟩
theorem Nm.ev {k : IntKind} {w w' : World} {v : Value} {xs : List Int} (h : Nm k w v xs) (hc : Ev w w') : Nm k w' v xs := ⟨h.1.ev hc, h.2⟩
theorem Nm.drew {k : IntKind} {w : World} {v : Value} {xs : List Int} (h : Nm k w v xs) : Nm k w.drew v xs := h
theorem Nm.nil (k : IntKind) (w : World) : Nm k w (.slice none 0 0) [] := ⟨⟨none, 0, rfl, Nat.le_refl _, rfl, (fun _ h => by cases h), fun _ => rfl⟩, fun _ h => by cases h⟩
theorem Nm.shape {k : IntKind} {w : World} {v : Value} {xs : List Int} (h : Nm k w v xs) : ∃ a c, v = .slice a xs.length c ∧ xs.length ≤ c := let ⟨a, c, h1, h2, _⟩ := h.1; ⟨a, c, h1, h2⟩
theorem Nm.one {k : IntKind} {w : World} {v : Value} {xs : List Int} (h : Nm k w v xs) : v.cells = #[v] := by obtain ⟨a, c, rfl, _⟩ := h.shape; rfl
/-- Its block is there. -/
theorem Nm.old {k : IntKind} {w : World} {v : Value} {xs : List Int} (h : Nm k w v xs) (hp : xs ≠ []) {g : Nat} (hg : v.ownBlock = some g) : g < w.heap.size := by
  obtain ⟨a, c, rfl, h1, h2, h3, h4⟩ := h.1
  cases a with
  | none => cases hg
  | some ad =>
    simp only [Value.ownBlock, Option.some.injEq] at hg
    subst hg
    obtain ⟨x, r, rfl⟩ := List.exists_cons_of_ne_nil hp
    have := World.block_lt_of_cell? w _ (h3 ad rfl 0 (.int k x) rfl)
    rwa [Addr.add_zero'] at this

/-! ### Slices of one's own -/
/-- A slice of numbers of one's own, in a block from B on. -/
def ON (k : IntKind) (e : TypeId) (w : World) (B : Nat) (v : Value) (xs : List Int) : Prop := w.ownsRow B e 1 v xs.length (xs.map (.int k)) ∧ inR k xs
theorem ON.nil (k : IntKind) (e : TypeId) (w : World) (B : Nat) : ON k e w B (.slice none 0 0) [] := ⟨World.ownsRow_nil w B e 1, fun _ h => by cases h⟩
theorem ON.nm {k : IntKind} {e : TypeId} {w : World} {B : Nat} {v : Value} {xs : List Int} (h : ON k e w B v xs) : Nm k w v xs := by
  refine ⟨?_, h.2⟩
  obtain ⟨h1, h2⟩ := h.1
  rcases h2 with ⟨rfl, h0⟩ | ⟨g, cap, cur, rfl, hb, hg, hn, hm, hs, ht⟩
  · exact ⟨none, 0, by rw [h0], by omega, h1, (fun _ h => by cases h), fun _ => h0⟩
  · refine ⟨some ⟨g, 0, none⟩, cap, rfl, hn, h1, fun ad ha j u hj => ?_, fun h => by cases h⟩
    injection ha with ha; subst ha
    exact World.ownsRow.cells h.1 (g := g) rfl j u hj
theorem ON.ch {k : IntKind} {e : TypeId} {S : SS} {w w' : World} {B : Nat} {v : Value} {xs : List Int} (h : ON k e w B v xs) (hc : Ch S w w') (hs : ∀ g i, v.ownBlock = some g → ¬ S g i) : ON k e w' B v xs := by
  refine ⟨⟨h.1.1, ?_⟩, h.2⟩
  rcases h.1.2 with hn | ⟨g, cap, cur, rfl, hb, hg, r⟩
  · exact .inl hn
  · exact .inr ⟨g, cap, cur, rfl, hb, by rw [hc.blk g (hlt hg) (fun i => hs g i rfl)]; exact hg, r⟩
theorem ON.ev {k : IntKind} {e : TypeId} {w w' : World} {B : Nat} {v : Value} {xs : List Int} (h : ON k e w B v xs) (hc : Ev w w') : ON k e w' B v xs := h.ch hc fun _ _ _ h => h
theorem ON.drew {k : IntKind} {e : TypeId} {w : World} {B : Nat} {v : Value} {xs : List Int} (h : ON k e w B v xs) : ON k e w.drew B v xs := h
theorem ON.base {k : IntKind} {e : TypeId} {w : World} {B : Nat} {v : Value} {xs : List Int} (h : ON k e w B v xs) {g : Nat} (hg : v.ownBlock = some g) : B ≤ g ∧ g < w.heap.size := h.1.lt g hg
theorem ON.low {k : IntKind} {e : TypeId} {w : World} {B B' : Nat} {v : Value} {xs : List Int} (h : ON k e w B v xs) (hb : B' ≤ B) : ON k e w B' v xs := by
  refine ⟨⟨h.1.1, ?_⟩, h.2⟩
  rcases h.1.2 with hn | ⟨g, cap, cur, hv, hb', r⟩
  · exact .inl hn
  · exact .inr ⟨g, cap, cur, hv, Nat.le_trans hb hb', r⟩
theorem ON.one {k : IntKind} {e : TypeId} {w : World} {B : Nat} {v : Value} {xs : List Int} (h : ON k e w B v xs) : v.cells = #[v] := h.nm.one

/-! ### Structs behind pointers -/
/-- At ad stand these cells; they may be written. -/
def St (w : World) (ad : Addr) (cs : List Value) : Prop := ad.spot = none ∧ ∃ c e, w.heap[ad.block]? = some (.cells c e (0, 0)) ∧ ∀ j u, cs[j]? = some u → c[ad.off + j]? = some u
theorem St.ch {S : SS} {w w' : World} {ad : Addr} {cs : List Value} (h : St w ad cs) (hc : Ch S w w') (hs : ∀ j, j < cs.length → ¬ S ad.block (ad.off + j)) : St w' ad cs := by
  obtain ⟨h0, c, e, h1, h2⟩ := h
  obtain ⟨c', k1, _, k3⟩ := hc.cel _ _ _ _ h1
  refine ⟨h0, c', e, k1, fun j u hj => ?_⟩
  rw [k3 _ (hs j (List.getElem?_eq_some_iff.1 hj).1)]; exact h2 j u hj
theorem St.ev {w w' : World} {ad : Addr} {cs : List Value} (h : St w ad cs) (hc : Ev w w') : St w' ad cs := h.ch hc fun _ _ h => h
theorem St.drew {w : World} {ad : Addr} {cs : List Value} (h : St w ad cs) : St w.drew ad cs := h
theorem St.lt {w : World} {ad : Addr} {cs : List Value} (h : St w ad cs) : ad.block < w.heap.size := let ⟨_, _, _, h1, _⟩ := h; hlt h1
theorem Addr.add_none {ad : Addr} (h : ad.spot = none) (n : Nat) : ad.add n = ⟨ad.block, ad.off + n, none⟩ := by obtain ⟨b, o, s⟩ := ad; cases h; exact Addr.add_lit b o n
theorem St.cell {w : World} {ad : Addr} {cs : List Value} (h : St w ad cs) {j : Nat} {u : Value} (hj : cs[j]? = some u) : w.cell? (ad.add j) = some u := by
  obtain ⟨h0, c, e, h1, h2⟩ := h
  rw [Addr.add_none h0]
  simp [World.cell?, h1, h2 j u hj]
theorem St.sub {w : World} {ad : Addr} {cs : List Value} (h : St w ad cs) (k n : Nat) : St w (ad.add k) ((cs.drop k).take n) := by
  obtain ⟨h0, c, e, h1, h2⟩ := h
  rw [Addr.add_none h0]
  refine ⟨rfl, c, e, h1, fun j u hj => ?_⟩
  rw [List.getElem?_take] at hj
  split at hj
  · rw [List.getElem?_drop] at hj
    have := h2 _ u hj
    rwa [← Nat.add_assoc] at this
  · cases hj
/-- A struct of whose cells some at its place k are told anew. -/
theorem St.put {S : SS} {w w' : World} {ad : Addr} {cs ds : List Value} {k : Nat} (h : St w ad cs) (hc : Ch S w w') (hd : St w' (ad.add k) ds) (hs : ∀ j, j < cs.length → (j < k ∨ k + ds.length ≤ j) → ¬ S ad.block (ad.off + j)) (hl : k + ds.length ≤ cs.length) :
    St w' ad (cs.take k ++ ds ++ cs.drop (k + ds.length)) := by
  obtain ⟨h0, c, e, h1, h2⟩ := h
  obtain ⟨c', k1, _, k3⟩ := hc.cel _ _ _ _ h1
  obtain ⟨_, c2, e2, d1, d2⟩ := hd
  rw [Addr.add_none h0] at d1 d2
  dsimp only at d1 d2
  rw [k1] at d1
  injection d1 with d1; injection d1 with d1 _ _; subst d1
  refine ⟨h0, c', e, k1, fun j u hj => ?_⟩
  rw [List.append_assoc, List.getElem?_append] at hj
  simp only [List.length_take] at hj
  split at hj
  · rename_i hlt
    rw [List.getElem?_take] at hj
    split at hj
    · rw [k3 _ (hs j (by omega) (.inl (by omega)))]; exact h2 j u hj
    · cases hj
  · rename_i hge
    rw [List.getElem?_append] at hj
    split at hj
    · have := d2 _ u hj
      rwa [show ad.off + k + (j - min k cs.length) = ad.off + j by omega] at this
    · rw [List.getElem?_drop] at hj
      have hj' : cs[j]? = some u := by rw [← hj]; congr 1; omega
      have hlt := (List.getElem?_eq_some_iff.1 hj').1
      rw [k3 _ (hs j hlt (.inr (by omega)))]; exact h2 j u hj'
end Go.Proofs.YtcjopcplhabgkaaV
