/- Nodes, third part: literals, parts of slices, bytes as texts, division and shifts by what is no constant. -/
import Derived.Test.YtcjopcplhabgkaaVNodes2
import Derived.Laws.BytesString
import Derived.Laws.Strings
namespace Go.Proofs.YtcjopcplhabgkaaV
open Go Go.RowKit
section
variable {P : Program} {w : World}
theorem gStore_agg0 {t : TypeId} {ad : Addr} {cs : List Value} {ds : Array Value} {K : World → Prop} (h : St w ad cs) (hj : ds.size ≤ cs.length) (h1 : ∀ u ∈ ds.toList, u.oneCell' = true)
    (hk : ∀ w', Ch (Rg ad ds.size) w w' → w'.heap.size = w.heap.size → St w' ad (ds.toList ++ cs.drop ds.size) → K w') (ht : sizeIs P t ds.size = true) : gStore P t (.pointer (some ad)) (.agg ds) w K := by
  have := gStore_agg (P := P) (t := t) (K := K) h (j := 0) (by omega) h1 (fun w' h1 h2 h3 => hk w' (by rwa [Addr.add_zero'] at h1) h2 (by simpa using h3)) ht
  rwa [Addr.add_zero'] at this
theorem gStore_st0 {t : TypeId} {ad : Addr} {cs : List Value} {u : Value} {K : World → Prop} (h : St w ad cs) (hj : 0 < cs.length) (hu : u.oneCell' = true) (hcl : u.cells = #[u])
    (hk : ∀ w', Ch (Rg ad 1) w w' → w'.heap.size = w.heap.size → St w' ad (cs.set 0 u) → K w') (ht : flat1 P t = true := by kernel_rfl) : gStore P t (.pointer (some ad)) u w K := by
  have := gStore_st (P := P) (t := t) (K := K) h (j := 0) hj hu hcl (fun w' h1 h2 h3 => hk w' (by rwa [Addr.add_zero'] at h1) h2 h3) ht
  rwa [Addr.add_zero'] at this
/-! ### Literals -/
def enumV : Nat → List Value → List (Nat × Value)
  | _, [] => []
  | i, v :: r => (i, v) :: enumV (i + 1) r
theorem fill_enum (vs : List Value) (h1 : ∀ v ∈ vs, v.cells = #[v]) : ∀ (j : Nat) (cells : Array Value), j + vs.length ≤ cells.size → Instr.fill (fun i => some (i * 1, 1)) cells (enumV j vs) = some (setAll cells j vs) := by
  induction vs with
  | nil => intros; rfl
  | cons v r ih =>
    intro j cells h
    have hv := h1 v (by simp)
    simp only [List.length_cons] at h
    simp only [enumV, Instr.fill, hv]
    rw [if_neg (by simp; omega)]
    have : (#[v] : Array Value).zipIdx.foldl (fun cs (x : Value × Nat) => cs.setIfInBounds (j * 1 + x.2) x.1) cells = cells.setIfInBounds j v := by simp
    rw [this, ih (fun v hv => h1 v (by simp [hv])) (j + 1) _ (by simp; omega)]
    rfl
theorem setAll_list (vs : List Value) : ∀ (j : Nat) (cells : Array Value), j + vs.length = cells.size → (setAll cells j vs).toList = cells.toList.take j ++ vs := by
  induction vs with
  | nil => intro j cells h; simp only [setAll, List.append_nil]; rw [List.take_of_length_le (by simp at h ⊢; omega)]
  | cons v r ih =>
    intro j cells h
    simp only [List.length_cons] at h
    simp only [setAll]
    rw [ih (j + 1) _ (by simp; omega), Array.toList_setIfInBounds, List.take_set, List.take_succ_eq_append_getElem (by simp; omega)]
    rw [List.set_append_right _ _ (by simp; omega)]
    simp
    rw [Nat.min_eq_left (by omega), Nat.sub_self]; rfl
/-- A slice whose elements are one cell each. -/
def sl1 (P : Program) (t : TypeId) : Bool := match P.underlying t with
  | some (.slice e) => match P.info? e with
    | some i => Nat.beq i.size 1 && i.zero.isSome
    | none => false
  | _ => false
theorem sl1_ok {t : TypeId} (h : sl1 P t = true) : P.underlying t = some (.slice (elOf P t)) ∧ ∃ i z, P.info? (elOf P t) = some i ∧ i.size = 1 ∧ i.zero = some z := by
  unfold sl1 at h
  split at h
  · rename_i e he
    have hel : elOf P t = e := by unfold elOf; rw [he]
    rw [hel]
    split at h
    · rename_i i hi
      simp only [Bool.and_eq_true] at h
      obtain ⟨z, hz⟩ := Option.isSome_iff_exists.1 h.2
      exact ⟨he, i, z, hi, Nat.eq_of_beq_eq_true h.1, hz⟩
    · cases h
  · cases h
theorem gLit_1 {t : TypeId} {n : Nat} {parts : Array (Nat × Value)} {K : Value → World → Prop} (vs : List Value) (hp : parts.toList = enumV 0 vs) (hn : vs.length = n) (hm : n ≤ 1000000) (h1 : ∀ v ∈ vs, v.cells = #[v])
    (hk : ∀ v w', Ev w w' → w'.ownsRow w.heap.size (elOf P t) 1 v n vs → K v w') (ht : sl1 P t = true := by kernel_rfl) : gLit P t n parts w K := by
  obtain ⟨hu, i, z, hi, hsz, hz⟩ := sl1_ok ht
  obtain ⟨c0, hc0, hrun⟩ : ∃ c0 : Array Value, c0.size = n ∧ (Instr.buildSlice t n parts).run P w = .ok (.slice (some ⟨w.heap.size, 0, none⟩) n n) (w.alloc (.cells (setAll c0 0 vs) (elOf P t))) := by
    simp only [Instr.buildSlice, Sem.run_bind, run_underlying hu, Result.andThen_ok, sizeOf, typeInfo, run_program, hi, Sem.run_pure, hsz, Nat.mul_one]
    rw [if_neg (by omega)]
    by_cases h0 : n = 0
    · subst h0
      have : vs = [] := List.eq_nil_of_length_eq_zero hn
      subst this
      refine ⟨#[], rfl, ?_⟩
      have he : ∀ f : Nat → Value, Array.map f (Array.range 0) = #[] := fun f => Array.eq_empty_of_size_eq_zero (by simp)
      rw [hp]
      simp [enumV, Instr.fill, newRow, setAll, he]
    · refine ⟨(Array.range n).map (z.cells[· % z.cells.size]!), by simp, ?_⟩
      rw [if_neg h0]
      simp only [Sem.run_bind, zeroValue, typeInfo, run_program, Result.andThen_ok, hi, hz, Sem.run_pure]
      rw [hp, show (fun i => some (i, 1)) = (fun i => some (i * 1, 1)) by funext i; rw [Nat.mul_one], fill_enum vs h1 0 _ (by simp; omega)]
      simp [newRow]
  have hl := setAll_list vs 0 c0 (by omega)
  simp only [List.take_zero, List.nil_append] at hl
  refine ⟨_, _, hrun, hk _ _ (Ev.alloc w _) ?_⟩
  have hs : (setAll c0 0 vs).size = n := by rw [← Array.length_toList, hl, hn]
  exact ownsRow_new w (elOf P t) _ n n (Nat.le_refl _) (by unfold maxLen; omega) hs (by rw [hl, List.take_of_length_le (by omega)]) hn
theorem gLit_n {t : TypeId} {n : Nat} {k : IntKind} {parts : Array (Nat × Value)} {K : Value → World → Prop} (xs : List Int) (hp : parts.toList = enumV 0 (xs.map (.int k))) (hn : xs.length = n) (hm : n ≤ 1000000) (hr : inR k xs)
    (hk : ∀ v w', Ev w w' → ON k (elOf P t) w' w.heap.size v xs → K v w') (ht : sl1 P t = true := by kernel_rfl) : gLit P t n parts w K :=
  gLit_1 (xs.map (.int k)) hp (by simpa using hn) hm (fun v hv => by obtain ⟨x, _, rfl⟩ := List.mem_map.1 hv; rfl) (fun v w' he ho => hk v w' he ⟨by rw [hn]; exact ho, hr⟩) ht

/-! ### Parts of slices -/
theorem inR.take {k : IntKind} {xs : List Int} (h : inR k xs) (n : Nat) : inR k (xs.take n) := fun x hx => h x (List.mem_of_mem_take hx)
theorem inR.drop {k : IntKind} {xs : List Int} (h : inR k xs) (n : Nat) : inR k (xs.drop n) := fun x hx => h x (List.mem_of_mem_drop hx)
def slSz (P : Program) (t : TypeId) (sz : Nat) : Bool := match P.underlying t with
  | some (.slice e) => match P.info? e with
    | some i => Nat.beq i.size sz
    | none => false
  | _ => false
theorem slSz_ok {t : TypeId} {sz : Nat} (h : slSz P t sz = true) : P.underlying t = some (.slice (elOf P t)) ∧ ∃ i, P.info? (elOf P t) = some i ∧ i.size = sz := by
  unfold slSz at h
  split at h
  · rename_i e he
    have hel : elOf P t = e := by unfold elOf; rw [he]
    rw [hel]
    split at h
    · rename_i i hi; exact ⟨he, i, hi, Nat.eq_of_beq_eq_true h⟩
    · cases h
  · cases h
/-- What v[l:h] is. -/
def subV (sz : Nat) (v : Value) (l h : Nat) : Value := match v with
  | .slice a _ c => .slice (if c = l then a else a.map (·.add (l * sz))) (h - l) (c - l)
  | v => v
theorem gSlice_any {t : TypeId} {sz : Nat} {a : Option Addr} {n c : Nat} {lo hi : Option Value} {l h : Nat} {K : Value → Prop} (hlo : (lo = none ∧ l = 0) ∨ (∃ k, lo = some (.int k l))) (hhi : (hi = none ∧ h = n) ∨ (∃ k, hi = some (.int k h))) (hl : l ≤ h) (hh : h ≤ c)
    (hk : K (subV sz (.slice a n c) l h)) (ht : slSz P t sz = true) : gSlice P t (.slice a n c) lo hi none K := by
  obtain ⟨hu, i, hi', hsz⟩ := slSz_ok ht
  refine ⟨_, fun w => ?_, hk⟩
  have hb : (Instr.sliceBounds true n c lo hi none).run P w = .ok (l, h, c) w := by
    simp only [Instr.sliceBounds, Sem.run_bind, Sem.run_pure, Result.andThen_ok]
    rcases hhi with ⟨rfl, rfl⟩ | ⟨k, rfl⟩ <;> rcases hlo with ⟨rfl, rfl⟩ | ⟨k', rfl⟩ <;>
      simp [Instr.sliceBound, asIntOf, hl, hh]
  simp only [Instr.sliceAt, Sem.run_bind, run_underlying hu, Result.andThen_ok, Instr.slice, hb, sizeOf, typeInfo, run_program, hi', Sem.run_pure, hsz, subV]
theorem Sl.sub {sz n : Nat} {v : Value} {cs : List Value} (h : Sl w sz v n cs) (l m : Nat) (hl : l ≤ m) (hm : m ≤ n) : Sl w sz (subV sz v l m) (m - l) ((cs.drop (l * sz)).take ((m - l) * sz)) := by
  obtain ⟨a, c, rfl, h1, h2, h3, h4⟩ := h
  refine ⟨_, _, rfl, by omega, ?_, fun ad ha j u hj => ?_, fun ha => ?_⟩
  · rw [List.length_take, List.length_drop, h2, ← Nat.sub_mul, Nat.min_eq_left (Nat.mul_le_mul_right _ (by omega))]
  · rw [List.getElem?_take] at hj
    split at hj
    · rename_i hjlt
      rw [List.getElem?_drop] at hj
      split at ha
      · rename_i hcl
        have : (m - l) * sz = 0 := by rw [show m - l = 0 by omega, Nat.zero_mul]
        omega
      · obtain ⟨ad0, rfl, hadd⟩ := Option.map_eq_some_iff.1 ha
        have := h3 ad0 rfl _ u hj
        rw [← hadd]
        by_cases hz : l * sz = 0
        · rw [hz, Addr.add_zero']; rwa [hz, Nat.zero_add] at this
        · have e1 : ad0.add (l * sz) = ⟨ad0.block, ad0.off + l * sz, none⟩ := by simp [Addr.add, hz]
          rw [e1, Addr.add_lit]
          by_cases hz2 : l * sz + j = 0
          · omega
          · have e2 : ad0.add (l * sz + j) = ⟨ad0.block, ad0.off + (l * sz + j), none⟩ := by unfold Addr.add; rw [if_neg hz2]
            rw [e2] at this; rwa [← Nat.add_assoc] at this
    · cases hj
  · split at ha
    · have := h4 ha; omega
    · have := h4 (Option.map_eq_none_iff.1 ha); omega
theorem subV_own (sz : Nat) (v : Value) (l m : Nat) : (subV sz v l m).ownBlock = v.ownBlock := by
  cases v <;> try rfl
  rename_i a n c
  simp only [subV]
  split
  · cases a <;> rfl
  · cases a with
    | none => rfl
    | some ad => simp only [Option.map_some, Value.ownBlock]; unfold Addr.add; split <;> rfl
theorem Nm.sub {k : IntKind} {v : Value} {xs : List Int} (h : Nm k w v xs) (l m : Nat) (hl : l ≤ m) (hm : m ≤ xs.length) : Nm k w (subV 1 v l m) ((xs.drop l).take (m - l)) := by
  refine ⟨?_, (h.2.drop l).take _⟩
  have := h.1.sub l m hl hm
  rw [Nat.mul_one, Nat.mul_one, ← List.map_drop, ← List.map_take] at this
  rwa [List.length_take, List.length_drop, Nat.min_eq_left (by omega)]
theorem gSlice_nm {t : TypeId} {k : IntKind} {v : Value} {xs : List Int} {lo hi : Option Value} {K : Value → Prop} (h : Nm k w v xs) (l m : Nat) (hlo : (lo = none ∧ l = 0) ∨ (∃ k, lo = some (.int k l))) (hhi : (hi = none ∧ m = xs.length) ∨ (∃ k, hi = some (.int k m))) (hl : l ≤ m) (hm : m ≤ xs.length)
    (hk : Nm k w (subV 1 v l m) ((xs.drop l).take (m - l)) → K (subV 1 v l m)) (ht : slSz P t 1 = true := by kernel_rfl) : gSlice P t v lo hi none K := by
  obtain ⟨a, c, rfl, hc⟩ := h.shape
  exact gSlice_any hlo hhi hl (by omega) (hk (h.sub l m hl hm)) ht

/-- The length of a slice. -/
def slenV : Value → Nat
  | .slice _ n _ => n
  | _ => 0
theorem Nm.slen {k : IntKind} {v : Value} {xs : List Int} (h : Nm k w v xs) : slenV v = xs.length := by obtain ⟨a, c, rfl, _⟩ := h.shape; rfl

/-! ### Bytes as texts -/
def bsOf (xs : List Int) : ByteArray := ⟨(xs.map fun x => UInt8.ofNat x.toNat).toArray⟩
theorem bsOf_foldl (xs : List Int) : ∀ (s : ByteArray), (xs.foldl (fun r n => r.push (UInt8.ofNat n.toNat)) s) = ⟨s.data ++ (xs.map fun x => UInt8.ofNat x.toNat).toArray⟩ := by
  induction xs with
  | nil => intro s; simp
  | cons x r ih => intro s; rw [List.foldl_cons, ih]; simp [ByteArray.push]
theorem bsOf_toList (xs : List Int) : (bsOf xs).toList = xs.map fun x => UInt8.ofNat x.toNat := by rw [ByteArray.toList_eq]; simp [bsOf]
theorem bsOf_inj {xs ys : List Int} (hx : inR .u8 xs) (hy : inR .u8 ys) (h : (bsOf xs).toList = (bsOf ys).toList) : xs = ys := by
  rw [bsOf_toList, bsOf_toList] at h
  induction xs generalizing ys with
  | nil => cases ys with
    | nil => rfl
    | cons => simp at h
  | cons x r ih => cases ys with
    | nil => simp at h
    | cons y s =>
      simp only [List.map_cons, List.cons.injEq] at h
      have h1 := hx.u8 (x := x) (by simp)
      have h2 := hy.u8 (x := y) (by simp)
      have h3 := congrArg UInt8.toNat h.1
      simp only [UInt8.toNat_ofNat'] at h3
      rw [show x = y by omega, ih (fun z hz => hx z (by simp [hz])) (fun z hz => hy z (by simp [hz])) h.2]
theorem bsOf_eq {xs ys : List Int} (hx : inR .u8 xs) (hy : inR .u8 ys) : ((bsOf xs).toList == (bsOf ys).toList) = decide (xs = ys) := by
  by_cases h : xs = ys
  · subst h; simp
  · rw [decide_eq_false h]
    have : (bsOf xs).toList ≠ (bsOf ys).toList := fun e => h (bsOf_inj hx hy e)
    simp [this]
def bytesStr (P : Program) (s d : TypeId) : Bool := match P.underlying s, P.underlying d with
  | some (.slice e), some .string => (match P.underlying e with | some (.int .u8) => true | _ => false)
  | _, _ => false
theorem gConv_bs {s d : TypeId} {v : Value} {xs : List Int} {K : ByteArray → World → Prop} (h : Nm .u8 w v xs) (hk : K (bsOf xs) w) (ht : bytesStr P s d = true := by kernel_rfl) : gConv P s d shS v w K := by
  unfold bytesStr at ht
  split at ht
  · rename_i e hs hd
    split at ht
    · rename_i he
      obtain ⟨a, c, rfl, h1, h2, h3, h4⟩ := h.1
      refine ⟨bsOf xs, w, ?_, hk⟩
      rw [run_convert_bytes_string w s d e a _ c hs he hd]
      cases a with
      | none =>
        have : xs = [] := List.eq_nil_of_length_eq_zero (h4 rfl)
        subst this; rfl
      | some ad =>
        rw [run_bytesToString w ad xs.length c xs ?_, bsOf_foldl]
        · simp [bsOf]; rfl
        · have := run_loadCells_list (P := P) w ad (xs.map (.int .u8)) (h3 ad rfl)
          rwa [List.length_map] at this
    · cases ht
  · cases ht

/-! ### Division and shifts by what is no constant -/
theorem gBin_quo {t : TypeId} {k : IntKind} {a b : Int} {K : Int → Prop} (hb : b ≠ 0) (hk : K (k.wrap (a.tdiv b))) : gBin P .quo t (shI k) (.int k a) (.int k b) K := ⟨_, fun w => by simp [binOp, Op.intDiv, hb]; rfl, hk⟩
theorem gBin_rem {t : TypeId} {k : IntKind} {a b : Int} {K : Int → Prop} (hb : b ≠ 0) (hk : K (a.tmod b)) : gBin P .rem t (shI k) (.int k a) (.int k b) K := ⟨_, fun w => by simp [binOp, Op.intDiv, hb]; rfl, hk⟩
theorem gBin_shl {t : TypeId} {k k' : IntKind} {a b : Int} {K : Int → Prop} (hb : 0 ≤ b) (hk : K (iShl k a b)) : gBin P .shl t (shI k) (.int k a) (.int k' b) K := ⟨_, fun w => by simp [binOp, Op.shift, show ¬ b < 0 by omega]; rfl, hk⟩
theorem gBin_shr {t : TypeId} {k k' : IntKind} {a b : Int} {K : Int → Prop} (hb : 0 ≤ b) (hk : K (iShr k a b)) : gBin P .shr t (shI k) (.int k a) (.int k' b) K := ⟨_, fun w => by simp [binOp, Op.shift, show ¬ b < 0 by omega]; rfl, hk⟩
end
end Go.Proofs.YtcjopcplhabgkaaV
