import Derived.Laws.BytesString
import Derived.Laws.Strings
import Derived.ProofKit
import Derived.OpenShut
import Derived.ShutString
import Derived.ChangeArms
import Derived.SizedLaws
import Derived.RangeFuncNested
import Derived.RangeFuncLeaves
import Derived.RangeFuncCalls
import Derived.OwnWalkIn
import Derived.TacticsIn
import Derived.Test.YtiimlfgjnapgjaaGreatDoorProg
import Derived.Test.YtiimlfgjnapgjaaGreatDoorVPart2
set_option linter.unusedVariables false
set_option linter.unusedSimpArgs false
/- Nodes, third part: literals, parts of slices, bytes as texts, division and shifts by what is no constant. -/
namespace Go.Proofs.YtiimlfgjnapgjaaGreatDoorV
open Go Go.RowKit
section
variable {P : Program} {w : World}
theorem gStore_agg0 {t : TypeId} {ad : Addr} {cs : List Value} {ds : Array Value} {K : World → Prop} (h : St w ad cs) (hj : ds.size ≤ cs.length) (h1 : ∀ u ∈ ds.toList, u.oneCell' = true)
    (hk : ∀ w', Ch (Rg ad ds.size) w w' → w'.heap.size = w.heap.size → St w' ad (ds.toList ++ cs.drop ds.size) → K w') (ht : sizeIs P t ds.size = true) : gStore P t (.pointer (some ad)) (.agg ds) w K := by
  have := gStore_agg (P := P) (t := t) (K := K) h (j := 0) (by omega) h1 (fun w' h1 h2 h3 => hk w' (by rwa [Addr.add_zero'] at h1) h2 (by simpa using h3)) ht
  rwa [Addr.add_zero'] at this
theorem gStore_st0 {t : TypeId} {ad : Addr} {cs : List Value} {u : Value} {K : World → Prop} (h : St w ad cs) (hj : 0 < cs.length) (hu : u.oneCell' = true) (hcl : u.cells = #[u])
    (hk : ∀ w', Ch (Rg ad 1) w w' → w'.heap.size = w.heap.size → St w' ad (cs.set 0 u) → K w') (ht : flat1 P t = true := by kernel_rfl) : gStore P t (.pointer (some ad)) u w K := by
  have := gStore_st (P := P) (t := t) (K := K) h (j := 0) hj hu hcl (fun w' h1 h2 h3 => hk w' (by rwa [Addr.add_zero'] at h1) h2 h3) ht
  rwa [Addr.add_zero'] at this
/-! ### Literals -/
def enumV : Nat → List Value → List (Nat × Value)
  | _, [] => []
  | i, v :: r => (i, v) :: enumV (i + 1) r
theorem fill_enum (vs : List Value) (h1 : ∀ v ∈ vs, v.cells = #[v]) : ∀ (j : Nat) (cells : Array Value), j + vs.length ≤ cells.size → Instr.fill (fun i => some (i * 1, 1)) cells (enumV j vs) = some (setAll cells j vs) := by
  induction vs with
  | nil => intros; rfl
  | cons v r ih =>
    intro j cells h
    have hv := h1 v (by simp)
    simp only [List.length_cons] at h
    simp only [enumV, Instr.fill, hv]
    rw [if_neg (by simp; omega)]
    have : (#[v] : Array Value).zipIdx.foldl (fun cs (x : Value × Nat) => cs.setIfInBounds (j * 1 + x.2) x.1) cells = cells.setIfInBounds j v := by simp
    rw [this, ih (fun v hv => h1 v (by simp [hv])) (j + 1) _ (by simp; omega)]
    rfl
theorem setAll_list (vs : List Value) : ∀ (j : Nat) (cells : Array Value), j + vs.length = cells.size → (setAll cells j vs).toList = cells.toList.take j ++ vs := by
  induction vs with
  | nil => intro j cells h; simp only [setAll, List.append_nil]; rw [List.take_of_length_le (by simp at h ⊢; omega)]
  | cons v r ih =>
    intro j cells h
    simp only [List.length_cons] at h
    simp only [setAll]
    rw [ih (j + 1) _ (by simp; omega), Array.toList_setIfInBounds, List.take_set, List.take_succ_eq_append_getElem (by simp; omega)]
    rw [List.set_append_right _ _ (by simp; omega)]
    simp
    rw [Nat.min_eq_left (by omega), Nat.sub_self]; rfl
/-- A slice whose elements are one cell each. -/
def sl1 (P : Program) (t : TypeId) : Bool := match P.underlying t with
  | some (.slice e) => match P.info? e with
    | some i => Nat.beq i.size 1 && i.zero.isSome
    | none => false
  | _ => false
theorem sl1_ok {t : TypeId} (h : sl1 P t = true) : P.underlying t = some (.slice (elOf P t)) ∧ ∃ i z, P.info? (elOf P t) = some i ∧ i.size = 1 ∧ i.zero = some z := by
  unfold sl1 at h
  split at h
  · rename_i e he
    have hel : elOf P t = e := by unfold elOf; rw [he]
    rw [hel]
    split at h
    · rename_i i hi
      simp only [Bool.and_eq_true] at h
      obtain ⟨z, hz⟩ := Option.isSome_iff_exists.1 h.2
      exact ⟨he, i, z, hi, Nat.eq_of_beq_eq_true h.1, hz⟩
    · cases h
  · cases h
theorem gLit_1 {t : TypeId} {n : Nat} {parts : Array (Nat × Value)} {K : Value → World → Prop} (vs : List Value) (hp : parts.toList = enumV 0 vs) (hn : vs.length = n) (hm : n ≤ 1000000) (h1 : ∀ v ∈ vs, v.cells = #[v])
    (hk : ∀ v w', Ev w w' → w'.ownsRow w.heap.size (elOf P t) 1 v n vs → K v w') (ht : sl1 P t = true := by kernel_rfl) : gLit P t n parts w K := by
  obtain ⟨hu, i, z, hi, hsz, hz⟩ := sl1_ok ht
  obtain ⟨c0, hc0, hrun⟩ : ∃ c0 : Array Value, c0.size = n ∧ (Instr.buildSlice t n parts).run P w = .ok (.slice (some ⟨w.heap.size, 0, none⟩) n n) (w.alloc (.cells (setAll c0 0 vs) (elOf P t))) := by
    simp only [Instr.buildSlice, Sem.run_bind, run_underlying hu, Result.andThen_ok, sizeOf, typeInfo, run_program, hi, Sem.run_pure, hsz, Nat.mul_one]
    rw [if_neg (by omega)]
    by_cases h0 : n = 0
    · subst h0
      have : vs = [] := List.eq_nil_of_length_eq_zero hn
      subst this
      refine ⟨#[], rfl, ?_⟩
      have he : ∀ f : Nat → Value, Array.map f (Array.range 0) = #[] := fun f => Array.eq_empty_of_size_eq_zero (by simp)
      rw [hp]
      simp [enumV, Instr.fill, newRow, setAll, he]
    · refine ⟨(Array.range n).map (z.cells[· % z.cells.size]!), by simp, ?_⟩
      rw [if_neg h0]
      simp only [Sem.run_bind, zeroValue, typeInfo, run_program, Result.andThen_ok, hi, hz, Sem.run_pure]
      rw [hp, show (fun i => some (i, 1)) = (fun i => some (i * 1, 1)) by funext i; rw [Nat.mul_one], fill_enum vs h1 0 _ (by simp; omega)]
      simp [newRow]
  have hl := setAll_list vs 0 c0 (by omega)
  simp only [List.take_zero, List.nil_append] at hl
  refine ⟨_, _, hrun, hk _ _ (Ev.alloc w _) ?_⟩
  have hs : (setAll c0 0 vs).size = n := by rw [← Array.length_toList, hl, hn]
  exact ownsRow_new w (elOf P t) _ n n (Nat.le_refl _) (by unfold maxLen; omega) hs (by rw [hl, List.take_of_length_le (by omega)]) hn
theorem gLit_n {t : TypeId} {n : Nat} {k : IntKind} {parts : Array (Nat × Value)} {K : Value → World → Prop} (xs : List Int) (hp : parts.toList = enumV 0 (xs.map (.int k))) (hn : xs.length = n) (hm : n ≤ 1000000) (hr : inR k xs)
    (hk : ∀ v w', Ev w w' → ON k (elOf P t) w' w.heap.size v xs → K v w') (ht : sl1 P t = true := by kernel_rfl) : gLit P t n parts w K :=
  gLit_1 (xs.map (.int k)) hp (by simpa using hn) hm (fun v hv => by obtain ⟨x, _, rfl⟩ := List.mem_map.1 hv; rfl) (fun v w' he ho => hk v w' he ⟨by rw [hn]; exact ho, hr⟩) ht

/-! ### Parts of slices -/
theorem inR.take {k : IntKind} {xs : List Int} (h : inR k xs) (n : Nat) : inR k (xs.take n) := fun x hx => h x (List.mem_of_mem_take hx)
theorem inR.drop {k : IntKind} {xs : List Int} (h : inR k xs) (n : Nat) : inR k (xs.drop n) := fun x hx => h x (List.mem_of_mem_drop hx)
def slSz (P : Program) (t : TypeId) (sz : Nat) : Bool := match P.underlying t with
  | some (.slice e) => match P.info? e with
    | some i => Nat.beq i.size sz
    | none => false
  | _ => false
theorem slSz_ok {t : TypeId} {sz : Nat} (h : slSz P t sz = true) : P.underlying t = some (.slice (elOf P t)) ∧ ∃ i, P.info? (elOf P t) = some i ∧ i.size = sz := by
  unfold slSz at h
  split at h
  · rename_i e he
    have hel : elOf P t = e := by unfold elOf; rw [he]
    rw [hel]
    split at h
    · rename_i i hi; exact ⟨he, i, hi, Nat.eq_of_beq_eq_true h⟩
    · cases h
  · cases h
/-- What v[l:h] is. -/
def subV (sz : Nat) (v : Value) (l h : Nat) : Value := match v with
  | .slice a _ c => .slice (if c = l then a else a.map (·.add (l * sz))) (h - l) (c - l)
  | v => v
theorem gSlice_any {t : TypeId} {sz : Nat} {a : Option Addr} {n c : Nat} {lo hi : Option Value} {l h : Nat} {K : Value → Prop} (hlo : (lo = none ∧ l = 0) ∨ (∃ k, lo = some (.int k l))) (hhi : (hi = none ∧ h = n) ∨ (∃ k, hi = some (.int k h))) (hl : l ≤ h) (hh : h ≤ c)
    (hk : K (subV sz (.slice a n c) l h)) (ht : slSz P t sz = true) : gSlice P t (.slice a n c) lo hi none K := by
  obtain ⟨hu, i, hi', hsz⟩ := slSz_ok ht
  refine ⟨_, fun w => ?_, hk⟩
  have hb : (Instr.sliceBounds true n c lo hi none).run P w = .ok (l, h, c) w := by
    simp only [Instr.sliceBounds, Sem.run_bind, Sem.run_pure, Result.andThen_ok]
    rcases hhi with ⟨rfl, rfl⟩ | ⟨k, rfl⟩ <;> rcases hlo with ⟨rfl, rfl⟩ | ⟨k', rfl⟩ <;>
      simp [Instr.sliceBound, asIntOf, hl, hh]
  simp only [Instr.sliceAt, Sem.run_bind, run_underlying hu, Result.andThen_ok, Instr.slice, hb, sizeOf, typeInfo, run_program, hi', Sem.run_pure, hsz, subV]
theorem Sl.sub {sz n : Nat} {v : Value} {cs : List Value} (h : Sl w sz v n cs) (l m : Nat) (hl : l ≤ m) (hm : m ≤ n) : Sl w sz (subV sz v l m) (m - l) ((cs.drop (l * sz)).take ((m - l) * sz)) := by
  obtain ⟨a, c, rfl, h1, h2, h3, h4⟩ := h
  refine ⟨_, _, rfl, by omega, ?_, fun ad ha j u hj => ?_, fun ha => ?_⟩
  · rw [List.length_take, List.length_drop, h2, ← Nat.sub_mul, Nat.min_eq_left (Nat.mul_le_mul_right _ (by omega))]
  · rw [List.getElem?_take] at hj
    split at hj
    · rename_i hjlt
      rw [List.getElem?_drop] at hj
      split at ha
      · rename_i hcl
        have : (m - l) * sz = 0 := by rw [show m - l = 0 by omega, Nat.zero_mul]
        omega
      · obtain ⟨ad0, rfl, hadd⟩ := Option.map_eq_some_iff.1 ha
        have := h3 ad0 rfl _ u hj
        rw [← hadd]
        by_cases hz : l * sz = 0
        · rw [hz, Addr.add_zero']; rwa [hz, Nat.zero_add] at this
        · have e1 : ad0.add (l * sz) = ⟨ad0.block, ad0.off + l * sz, none⟩ := by simp [Addr.add, hz]
          rw [e1, Addr.add_lit]
          by_cases hz2 : l * sz + j = 0
          · omega
          · have e2 : ad0.add (l * sz + j) = ⟨ad0.block, ad0.off + (l * sz + j), none⟩ := by unfold Addr.add; rw [if_neg hz2]
            rw [e2] at this; rwa [← Nat.add_assoc] at this
    · cases hj
  · split at ha
    · have := h4 ha; omega
    · have := h4 (Option.map_eq_none_iff.1 ha); omega
theorem Nm.sub {k : IntKind} {v : Value} {xs : List Int} (h : Nm k w v xs) (l m : Nat) (hl : l ≤ m) (hm : m ≤ xs.length) : Nm k w (subV 1 v l m) ((xs.drop l).take (m - l)) := by
  refine ⟨?_, (h.2.drop l).take _⟩
  have := h.1.sub l m hl hm
  rw [Nat.mul_one, Nat.mul_one, ← List.map_drop, ← List.map_take] at this
  rwa [List.length_take, List.length_drop, Nat.min_eq_left (by omega)]
theorem gSlice_nm {t : TypeId} {k : IntKind} {v : Value} {xs : List Int} {lo hi : Option Value} {K : Value → Prop} (h : Nm k w v xs) (l m : Nat) (hlo : (lo = none ∧ l = 0) ∨ (∃ k, lo = some (.int k l))) (hhi : (hi = none ∧ m = xs.length) ∨ (∃ k, hi = some (.int k m))) (hl : l ≤ m) (hm : m ≤ xs.length)
    (hk : Nm k w (subV 1 v l m) ((xs.drop l).take (m - l)) → K (subV 1 v l m)) (ht : slSz P t 1 = true := by kernel_rfl) : gSlice P t v lo hi none K := by
  obtain ⟨a, c, rfl, hc⟩ := h.shape
  exact gSlice_any hlo hhi hl (by omega) (hk (h.sub l m hl hm)) ht

/-! ### Bytes as texts -/
def bsOf (xs : List Int) : ByteArray := ⟨(xs.map fun x => UInt8.ofNat x.toNat).toArray⟩
theorem bsOf_foldl (xs : List Int) : ∀ (s : ByteArray), (xs.foldl (fun r n => r.push (UInt8.ofNat n.toNat)) s) = ⟨s.data ++ (xs.map fun x => UInt8.ofNat x.toNat).toArray⟩ := by
  induction xs with
  | nil => intro s; simp
  | cons x r ih => intro s; rw [List.foldl_cons, ih]; simp [ByteArray.push]
theorem bsOf_toList (xs : List Int) : (bsOf xs).toList = xs.map fun x => UInt8.ofNat x.toNat := by rw [ByteArray.toList_eq]; simp [bsOf]
theorem bsOf_inj {xs ys : List Int} (hx : inR .u8 xs) (hy : inR .u8 ys) (h : (bsOf xs).toList = (bsOf ys).toList) : xs = ys := by
  rw [bsOf_toList, bsOf_toList] at h
  induction xs generalizing ys with
  | nil => cases ys with
    | nil => rfl
    | cons => simp at h
  | cons x r ih => cases ys with
    | nil => simp at h
    | cons y s =>
      simp only [List.map_cons, List.cons.injEq] at h
      have h1 := hx.u8 (x := x) (by simp)
      have h2 := hy.u8 (x := y) (by simp)
      have h3 := congrArg UInt8.toNat h.1
      simp only [UInt8.toNat_ofNat'] at h3
      rw [show x = y by omega, ih (fun z hz => hx z (by simp [hz])) (fun z hz => hy z (by simp [hz])) h.2]
theorem bsOf_eq {xs ys : List Int} (hx : inR .u8 xs) (hy : inR .u8 ys) : ((bsOf xs).toList == (bsOf ys).toList) = decide (xs = ys) := by
  by_cases h : xs = ys
  · subst h; simp
  · rw [decide_eq_false h]
    have : (bsOf xs).toList ≠ (bsOf ys).toList := fun e => h (bsOf_inj hx hy e)
    simp [this]
def bytesStr (P : Program) (s d : TypeId) : Bool := match P.underlying s, P.underlying d with
  | some (.slice e), some .string => (match P.underlying e with | some (.int .u8) => true | _ => false)
  | _, _ => false
theorem gConv_bs {s d : TypeId} {v : Value} {xs : List Int} {K : ByteArray → World → Prop} (h : Nm .u8 w v xs) (hk : K (bsOf xs) w) (ht : bytesStr P s d = true := by kernel_rfl) : gConv P s d shS v w K := by
  unfold bytesStr at ht
  split at ht
  · rename_i e hs hd
    split at ht
    · rename_i he
      obtain ⟨a, c, rfl, h1, h2, h3, h4⟩ := h.1
      refine ⟨bsOf xs, w, ?_, hk⟩
      rw [run_convert_bytes_string w s d e a _ c hs he hd]
      cases a with
      | none =>
        have : xs = [] := List.eq_nil_of_length_eq_zero (h4 rfl)
        subst this; rfl
      | some ad =>
        rw [run_bytesToString w ad xs.length c xs ?_, bsOf_foldl]
        · simp [bsOf]; rfl
        · have := run_loadCells_list (P := P) w ad (xs.map (.int .u8)) (h3 ad rfl)
          rwa [List.length_map] at this
    · cases ht
  · cases ht

/-! ### Division and shifts by what is no constant -/
theorem gBin_shl {t : TypeId} {k k' : IntKind} {a b : Int} {K : Int → Prop} (hb : 0 ≤ b) (hk : K (iShl k a b)) : gBin P .shl t (shI k) (.int k a) (.int k' b) K := ⟨_, fun w => by simp [binOp, Op.shift, show ¬ b < 0 by omega]; rfl, hk⟩
theorem gBin_shr {t : TypeId} {k k' : IntKind} {a b : Int} {K : Int → Prop} (hb : 0 ≤ b) (hk : K (iShr k a b)) : gBin P .shr t (shI k) (.int k a) (.int k' b) K := ⟨_, fun w => by simp [binOp, Op.shift, show ¬ b < 0 by omega]; rfl, hk⟩
end
end Go.Proofs.YtiimlfgjnapgjaaGreatDoorV

/- Nodes, fourth part: slices with room behind them. -/
namespace Go.Proofs.YtiimlfgjnapgjaaGreatDoorV
open Go Go.RowKit
section
variable {P : Program} {w : World}
/-- A block of numbers, all told. -/
def FB (k : IntKind) (e : TypeId) (w : World) (g : Nat) (zs : List Int) : Prop := ∃ cur, w.heap[g]? = some (.cells cur e (0, 0)) ∧ cur.toList = zs.map (.int k) ∧ inR k zs ∧ zs.length ≤ maxLen
theorem FB.on {k : IntKind} {e : TypeId} {g : Nat} {zs : List Int} (h : FB k e w g zs) (n : Nat) (hn : n ≤ zs.length) : ON k e w g (.slice (some ⟨g, 0, none⟩) n zs.length) (zs.take n) := by
  obtain ⟨cur, h1, h2, h3, h4⟩ := h
  have hl : (zs.take n).length = n := by rw [List.length_take]; omega
  have hs : cur.size = zs.length := by rw [← Array.length_toList, h2, List.length_map]
  refine ⟨⟨by simp, .inr ⟨g, zs.length, cur, by rw [hl], Nat.le_refl _, h1, by rw [hl]; exact hn, h4, by omega, ?_⟩⟩, h3.take n⟩
  rw [hl, Nat.mul_one, h2, ← List.map_take]
theorem ON.pre {k : IntKind} {e : TypeId} {B g n c : Nat} {xs : List Int} (h : ON k e w B (.slice (some ⟨g, 0, none⟩) n c) xs) (m : Nat) (hm : m ≤ n) : ON k e w B (.slice (some ⟨g, 0, none⟩) m c) (xs.take m) := by
  obtain ⟨⟨h1, h2⟩, h3⟩ := h
  rcases h2 with ⟨hv, _⟩ | ⟨g', cap, cur, hv, hb, hg, hn, hmx, hs, ht⟩
  · cases hv
  · injection hv with hv1 hv2 hv3; injection hv1 with hv1; injection hv1 with hv1 _ _
    subst hv1; subst hv3
    have hl : (xs.take m).length = m := by rw [List.length_take]; omega
    refine ⟨⟨by simp, .inr ⟨g, c, cur, by rw [hl], hb, hg, by omega, hmx, hs, ?_⟩⟩, h3.take m⟩
    rw [hl, List.map_take, ← ht, List.take_take]; congr 1; omega
theorem FB.ev {k : IntKind} {e : TypeId} {w' : World} {g : Nat} {zs : List Int} (h : FB k e w g zs) (hc : Ev w w') : FB k e w' g zs := by
  obtain ⟨cur, h1, h2⟩ := h
  exact ⟨cur, by rw [hc.blk g (hlt h1) fun _ h => h]; exact h1, h2⟩
theorem subV_z {sz n c m : Nat} {a : Option Addr} (h : 0 < c) : subV sz (.slice a n c) 0 m = .slice a m c := by
  simp only [subV, Nat.zero_mul, Nat.sub_zero]
  rw [if_neg (by omega)]
  cases a <;> simp [Addr.add_zero']
/-- New memory with room for n. -/
theorem gMake_cap {t : TypeId} {k : IntKind} {n : Nat} {K : Value → World → Prop} (hn : n * 8 ≤ 281474976710656)
    (hk : ∀ w', Ev w w' → w'.heap.size = w.heap.size + 1 → FB k (elOf P t) w' w.heap.size (List.replicate n 0) → K (.slice (some ⟨w.heap.size, 0, none⟩) 0 n) w') (ht : slInt P t k = true := by kernel_rfl) : gMake P t (.int .i64 0) (.int .i64 (n : Int)) w K := by
  obtain ⟨hu, i, hi, hsz, hby, hby1, hz⟩ := slInt_ok ht
  have h48 : i.bytes * (n : Int) ≤ 2 ^ 48 := by
    have : (i.bytes * n : Nat) ≤ n * 8 := by rw [Nat.mul_comm]; exact Nat.mul_le_mul_left n hby
    have h2 : ((i.bytes * n : Nat) : Int) ≤ 281474976710656 := by omega
    rw [Int.natCast_mul] at h2; simpa using h2
  have hw : IntKind.wrap .i64 (n : Int) = n := by have := i64_id (n := (n : Int)) (by omega) (by omega); simpa [i64] using this
  have hw0 : IntKind.wrap .i64 (0 : Int) = 0 := by decide
  have hrun : (Instr.makeSlice t (.int .i64 0) (.int .i64 (n : Int))).run P w = .ok (.slice (some ⟨w.heap.size, 0, none⟩) 0 n) (w.alloc (.cells (Array.replicate n (.int k 0)) (elOf P t))) := by
    simp only [Instr.makeSlice, Sem.run_bind, run_underlying hu, Result.andThen_ok, asInt, asIntOf, Sem.run_pure, typeInfo, run_program, hi, hw, hw0]
    have h1 : ¬ ((n : Int) < 0) := by omega
    have h2 : ¬ ((i.bytes : Int) * (n : Int) > 2 ^ 48) := by omega
    have h3 : ¬ ((i.bytes : Int) * 0 > 2 ^ 48) := by omega
    simp only [h1, h2, h3, decide_false, Bool.or_self, Bool.false_or, gt_iff_lt, Int.lt_irrefl, if_false, Bool.false_eq_true]
    have har : (askRoom (Int.toNat (n : Int) * i.bytes)).run P w = .ok () w := by unfold askRoom; split <;> rfl
    simp only [har, Result.andThen_ok, sizeOf, typeInfo, Sem.run_bind, run_program, hi, Sem.run_pure, hsz, Int.toNat_natCast, Nat.mul_one, zeroValue, hz]
    by_cases h0 : n = 0
    · subst h0; have he : ∀ f : Nat → Value, Array.map f (Array.range 0) = #[] := fun f => Array.eq_empty_of_size_eq_zero (by simp)
      simp [newRow, he]
    · simp only [h0, if_false, Sem.run_bind, run_program, Result.andThen_ok, hi, hz, Sem.run_pure, newRow]
      simp [Value.cells]
      congr 2
      apply Array.ext
      · simp
      · intro j h1 h2; simp [Nat.mod_one]
  refine ⟨_, _, hrun, hk _ (Ev.alloc w _) (by simp) ⟨_, heap_alloc_new w _, by simp, inR_rep k n, ?_⟩⟩
  unfold maxLen; rw [List.length_replicate]; omega
/-- Appending into the room. -/
theorem gApp_room {t ty : TypeId} {k : IntKind} {g n c : Nat} {y : Value} {zs ys : List Int} {K : Value → World → Prop} (h : FB k (elOf P t) w g zs) (hcap : zs.length = c) (hy : Nm k w y ys) (hr : n + ys.length ≤ c)
    (hk : ∀ w', Ch (Bk g) w w' → w'.heap.size = w.heap.size → FB k (elOf P t) w' g (zs.take n ++ ys ++ zs.drop (n + ys.length)) → K (.slice (some ⟨g, 0, none⟩) (n + ys.length) c) w') (ht : slInt P t k = true := by kernel_rfl) :
    gApp P #[t, t] ty #[.slice (some ⟨g, 0, none⟩) n c, y] w K := by
  subst hcap
  obtain ⟨hu, i, hi, hsz, hby, hby1, hz⟩ := slInt_ok ht
  obtain ⟨cur, hg, hcur, hR, hm⟩ := h
  have hs : cur.size = zs.length := by rw [← Array.length_toList, hcur, List.length_map]
  obtain ⟨a, c, rfl, hnc, hl, hcells, hnil⟩ := hy.1
  cases a with
  | none =>
    have h0 := hnil rfl
    have hys : ys = [] := List.eq_nil_of_length_eq_zero h0
    subst hys
    refine ⟨_, w, ?_, hk w (Ch.refl _ w) rfl ?_⟩
    · have hn : n ≤ zs.length := by simpa using hr
      simp [Builtin.append_, run_underlying hu, sizeOf, typeInfo, hi, Builtin.lenOf, Builtin.firstCells, hn, storeCells]
    · exact ⟨cur, hg, by simpa using hcur, by simpa using hR, by simpa using hm⟩
  | some ad =>
    have hrun := run_append_room (P := P) w t ty _ i hu hi g n zs.length cur hg ad ys.length c (ys.map (.int k)) (by rw [hsz]; simp) (hcells ad rfl) (fun u hu => by obtain ⟨x, _, rfl⟩ := List.mem_map.1 hu; rfl) hr (by rw [hsz, List.length_map]; omega)
    refine ⟨_, _, hrun, hk _ ?_ (by simp) ⟨_, setRow_heap w g cur _ _ _ hg, ?_, ?_, ?_⟩⟩
    · refine ⟨rfl, rfl, rfl, by simp, fun j hj hn => setRow_other w g j _ fun e => hn 0 e, fun j c' e' f hj => ?_, fun k o hk ho => by rw [setRow_other w g k _ (ne_cells hg hk ho)]; exact hk⟩
      by_cases hjg : j = g
      · subst hjg
        rw [hg] at hj
        injection hj with hj; injection hj with h1 h2 h3
        subst h1; subst h2; subst h3
        exact ⟨_, setRow_heap w j cur _ _ _ hg, by simp [hsz]; omega, fun i hi => absurd rfl hi⟩
      · exact ⟨c', by rw [setRow_other w g j _ hjg]; exact hj, rfl, fun _ _ => rfl⟩
    · simp only [hsz, Nat.mul_one, List.length_map, hcur, List.map_append, List.map_take, List.map_drop]
    · exact ((hR.take n).append hy.2).append (hR.drop _)
    · have : (zs.take n ++ ys ++ zs.drop (n + ys.length)).length = zs.length := by simp; omega
      rw [this]; exact hm
/-! ### Calls of which one knows what they hand back -/
theorem gCall_i {f : FuncId} {args : Array Value} {k : IntKind} {n : Int} {Q : World → Prop} {K : Int → World → Prop} (h : Calls P f args w fun e w' => e = .returned (.int k n) ∧ Q w') (hk : ∀ w', Q w' → K n w') : gCall P f (shI k) args w K :=
  gCall_of h fun _ w' ⟨h1, h2⟩ => ⟨n, h1, hk w' h2⟩
theorem gCall_i0 {f : FuncId} {args : Array Value} {k : IntKind} {n : Int} {K : Int → World → Prop} (h : Calls P f args w fun e w' => e = .returned (.int k n) ∧ w' = w) (hk : K n w) : gCall P f (shI k) args w K :=
  gCall_of h fun _ w' ⟨h1, h2⟩ => ⟨n, h1, by subst h2; exact hk⟩
theorem gCall_b {f : FuncId} {args : Array Value} {b : Bool} {Q : World → Prop} {K : Bool → World → Prop} (h : Calls P f args w fun e w' => e = .returned (.bool b) ∧ Q w') (hk : ∀ w', Q w' → K b w') : gCall P f shB args w K :=
  gCall_of h fun _ w' ⟨h1, h2⟩ => ⟨b, h1, hk w' h2⟩
theorem gCall_b0 {f : FuncId} {args : Array Value} {b : Bool} {K : Bool → World → Prop} (h : Calls P f args w fun e w' => e = .returned (.bool b) ∧ w' = w) (hk : K b w) : gCall P f shB args w K :=
  gCall_of h fun _ w' ⟨h1, h2⟩ => ⟨b, h1, by subst h2; exact hk⟩
theorem gCall_v {f : FuncId} {args : Array Value} {Q : Value → World → Prop} {K : Value → World → Prop} (h : Calls P f args w fun e w' => ∃ v, e = .returned v ∧ Q v w') (hk : ∀ v w', Q v w' → K v w') : gCall P f shV args w K :=
  gCall_of h fun _ w' ⟨v, h1, h2⟩ => ⟨v, h1, hk v w' h2⟩
theorem gCall_u {f : FuncId} {args : Array Value} {Q : World → Prop} {K : World → Prop} (h : Calls P f args w fun e w' => e = .returned (.tuple #[]) ∧ Q w') (hk : ∀ w', Q w' → K w') : gCall P f shU args w K :=
  gCall_of h fun _ w' ⟨h1, h2⟩ => ⟨h1, hk w' h2⟩
end
/-- A slice with three more behind it. -/
def Owd (k : IntKind) (w : World) (v : Value) (xs : List Int) (f : Int) : Prop := ∃ a c, v = .slice a xs.length c ∧ xs.length + 3 ≤ c ∧ Nm k w (.slice a (xs.length + 3) c) (xs ++ [f, f, f])
theorem Owd.nm {k : IntKind} {w : World} {v : Value} {xs : List Int} {f : Int} (h : Owd k w v xs f) : Nm k w v xs := by
  obtain ⟨a, c, rfl, hc, hn⟩ := h
  have := hn.sub 0 xs.length (by omega) (by simp)
  simp only [List.drop_zero, Nat.sub_zero, List.take_left] at this
  rwa [subV_z (by omega)] at this
theorem Owd.ev {k : IntKind} {w w' : World} {v : Value} {xs : List Int} {f : Int} (h : Owd k w v xs f) (he : Ev w w') : Owd k w' v xs f := by
  obtain ⟨a, c, h1, h2, h3⟩ := h; exact ⟨a, c, h1, h2, h3.ev he⟩
end Go.Proofs.YtiimlfgjnapgjaaGreatDoorV

/- Nodes, fifth part: slices of what is one cell; lists of slices; buffers that grow behind a pointer. -/
namespace Go.Proofs.YtiimlfgjnapgjaaGreatDoorV
open Go Go.RowKit
section
variable {P : Program} {w : World}
theorem Sl.of_own {B n : Nat} {e : TypeId} {v : Value} {cs : List Value} (h : w.ownsRow B e 1 v n cs) : Sl w 1 v n cs := by
  obtain ⟨h1, h2⟩ := h
  rcases h2 with ⟨rfl, h0⟩ | ⟨g, cap, cur, rfl, hb, hg, hn, hm, hs, ht⟩
  · exact ⟨none, 0, by rw [h0], by omega, h1, (fun _ h => by cases h), fun _ => h0⟩
  · refine ⟨some ⟨g, 0, none⟩, cap, rfl, hn, h1, fun ad ha j u hj => ?_, fun h => by cases h⟩
    injection ha with ha; subst ha
    exact World.ownsRow.cells ⟨h1, .inr ⟨g, cap, cur, rfl, hb, hg, hn, hm, hs, ht⟩⟩ (g := g) rfl j u hj
theorem Sl.shape {sz n : Nat} {v : Value} {cs : List Value} (h : Sl w sz v n cs) : ∃ a c, v = .slice a n c ∧ n ≤ c := let ⟨a, c, h1, h2, _⟩ := h; ⟨a, c, h1, h2⟩
theorem gLen_slv {t : TypeId} {sz n : Nat} {v : Value} {cs : List Value} {K : Nat → Prop} (h : Sl w sz v n cs) (hk : K n) (ht : slOf P t (elOf P t) = true := by kernel_rfl) : gLen P t v K := by
  obtain ⟨a, c, rfl, _⟩ := h.shape; exact gLen_sl hk ht
/-- An element's place, where elements are one cell. -/
theorem gIdx_1 {t : TypeId} {ki : IntKind} {v : Value} {n : Nat} {cs : List Value} {i : Int} {K : Addr → Prop} (h : Sl w 1 v n cs) (h0 : 0 ≤ i) (h1 : i < n)
    (hk : ∀ ad u, cs[i.toNat]? = some u → w.cell? ad = some u → v.ownBlock = some ad.block → K ad) (ht : slSz P t 1 = true := by kernel_rfl) : gIdx P t v (.int ki i) K := by
  obtain ⟨hu, ii, hi, hsz⟩ := slSz_ok ht
  obtain ⟨a, c, rfl, _, hl, h3, h4⟩ := h
  cases a with
  | none => have := h4 rfl; omega
  | some ad =>
    have hlt : i.toNat < cs.length := by omega
    refine ⟨ad.add i.toNat, fun w => ?_, hk _ cs[i.toNat] (by simp [hlt]) (h3 ad rfl i.toNat _ (by simp [hlt])) ?_⟩
    · simp only [Instr.indexAt, asIntOf, Sem.run_bind, Sem.run_pure, Result.andThen_ok, run_underlying hu]
      rw [if_pos ⟨h0, h1⟩]
      simp [sizeOf, typeInfo, hi, hsz]
    · show some ad.block = some (ad.add i.toNat).block
      unfold Addr.add; split <;> rfl
/-- A slice of slices of numbers. -/
def NL (k : IntKind) (w : World) (v : Value) (xss : List (List Int)) : Prop := ∃ us : List Value, Sl w 1 v xss.length us ∧ ∀ (i : Nat) (u : Value) (xs : List Int), us[i]? = some u → xss[i]? = some xs → Nm k w u xs
theorem NL.ev {k : IntKind} {w' : World} {v : Value} {xss : List (List Int)} (h : NL k w v xss) (he : Ev w w') : NL k w' v xss := by
  obtain ⟨us, h1, h2⟩ := h; exact ⟨us, h1.ev he, fun i u xs a b => (h2 i u xs a b).ev he⟩
/-- What is stable under changes in S. -/
def Stab (S : SS) (w : World) (Q : World → Prop) : Prop := ∀ w', Ch S w w' → Q w'
theorem Stab.now {S : SS} {Q : World → Prop} (h : Stab S w Q) : Q w := h w (Ch.refl S w)
theorem Nm.stab {k : IntKind} {S : SS} {v : Value} {xs : List Int} (h : Nm k w v xs) (hs : ∀ g i, v.ownBlock = some g → g < w.heap.size → ¬ S g i) : Stab S w fun w' => Nm k w' v xs := fun w' hc => by
  refine ⟨?_, h.2⟩
  obtain ⟨a, c, rfl, h1, h2, h3, h4⟩ := h.1
  refine ⟨a, c, rfl, h1, h2, fun ad ha j u hj => ?_, h4⟩
  subst ha
  have hcell := h3 ad rfl j u hj
  have hb : (ad.add j).block = ad.block := by unfold Addr.add; split <;> rfl
  refine hc.cell hcell ?_
  have hlt := World.block_lt_of_cell? w _ hcell
  rw [hb] at hlt ⊢
  exact hs _ _ rfl hlt

/-! ### Bytes that grow behind a pointer -/
/-- A struct of one slice of bytes of its own. -/
def Wr (e : TypeId) (w : World) (ad : Addr) (v : Value) (xs : List Int) : Prop := St w ad [v] ∧ ON .u8 e w 0 v xs ∧ v.ownBlock ≠ some ad.block
/-- What it stands on. -/
abbrev Ft (ad : Addr) (v : Value) : SS := fun k _ => k = ad.block ∨ v.ownBlock = some k
theorem Wr.ch {e : TypeId} {S : SS} {w' : World} {ad : Addr} {v : Value} {xs : List Int} (h : Wr e w ad v xs) (hc : Ch S w w') (hs : ∀ k i, Ft ad v k i → ¬ S k i) : Wr e w' ad v xs :=
  ⟨h.1.ch hc fun _ _ => hs _ _ (.inl rfl), h.2.1.ch hc fun g i hg => hs g i (.inr hg), h.2.2⟩
theorem Wr.ev {e : TypeId} {w' : World} {ad : Addr} {v : Value} {xs : List Int} (h : Wr e w ad v xs) (hc : Ev w w') : Wr e w' ad v xs := h.ch hc fun _ _ _ h => h
theorem Wr.lt {e : TypeId} {ad : Addr} {v : Value} {xs : List Int} (h : Wr e w ad v xs) {k i : Nat} (hk : Ft ad v k i) : k < w.heap.size := by
  rcases hk with rfl | hk
  · exact h.1.lt
  · exact (h.2.1.base hk).2
/-- A step of such a thing. -/
def WrS (e : TypeId) (w w' : World) (ad : Addr) (v v' : Value) (xs : List Int) : Prop := Wr e w' ad v' xs ∧ Ch (Ft ad v) w w' ∧ Moved w v v'
theorem Wr.step {e : TypeId} {ad : Addr} {v : Value} {xs : List Int} (h : Wr e w ad v xs) : WrS e w w ad v v xs := ⟨h, Ch.refl _ w, .inl rfl⟩
theorem Moved.trans {w w1 : World} {v v1 v2 : Value} (h : Moved w v v1) (h2 : Moved w1 v1 v2) (hs : w.heap.size ≤ w1.heap.size) : Moved w v v2 := by
  rcases h2 with h2 | h2
  · rcases h with h | h
    · exact .inl (h2.trans h)
    · exact .inr fun g hg => h g (by rw [← h2]; exact hg)
  · exact .inr fun g hg => Nat.le_trans hs (h2 g hg)
theorem WrS.trans {e : TypeId} {w w1 w2 : World} {ad : Addr} {v v1 v2 : Value} {xs ys : List Int} (h : WrS e w w1 ad v v1 xs) (h2 : WrS e w1 w2 ad v1 v2 ys) : WrS e w w2 ad v v2 ys := by
  refine ⟨h2.1, Ch.trans h.2.1 h2.2.1 fun n i hn hf => ?_, h.2.2.trans h2.2.2 h.2.1.size⟩
  rcases hf with hf | hf
  · exact .inl hf
  · rcases h.2.2 with hm | hm
    · exact .inr (hm ▸ hf)
    · have := hm n hf; omega
theorem WrS.ev {e : TypeId} {w w1 w2 : World} {ad : Addr} {v v1 : Value} {xs : List Int} (h : WrS e w w1 ad v v1 xs) (he : Ev w1 w2) : WrS e w w2 ad v v1 xs :=
  h.trans ⟨h.1.ev he, he.mono fun _ _ _ h => h.elim, .inl rfl⟩
theorem WrS.pre {e : TypeId} {w w1 w2 : World} {ad : Addr} {v v1 : Value} {xs : List Int} (he : Ev w w1) (h : WrS e w1 w2 ad v v1 xs) : WrS e w w2 ad v v1 xs :=
  ⟨h.1, Ch.trans (he.mono fun _ _ _ h => h.elim) h.2.1 fun _ _ _ h => h, by rcases h.2.2 with h | h; exact .inl h; exact .inr fun g hg => Nat.le_trans he.size (h g hg)⟩
/-- Another thing that stands on something else is as it was. -/
theorem WrS.other {e : TypeId} {w w' : World} {ad ad2 : Addr} {v v' v2 : Value} {xs ys : List Int} (h : WrS e w w' ad v v' xs) (h2 : Wr e w ad2 v2 ys) (hd : ∀ k i, Ft ad2 v2 k i → ¬ Ft ad v k i) : Wr e w' ad2 v2 ys ∧ ∀ k i, Ft ad2 v2 k i → ¬ Ft ad v' k i := by
  refine ⟨h2.ch h.2.1 hd, fun k i hk hf => ?_⟩
  rcases hf with hf | hf
  · exact hd k i hk (.inl hf)
  · rcases h.2.2 with hm | hm
    · exact hd k i hk (.inr (hm ▸ hf))
    · have := hm k hf; have := h2.lt hk; omega
end
end Go.Proofs.YtiimlfgjnapgjaaGreatDoorV

/- Lists told by what stands at each place. -/
namespace Go.Proofs.YtiimlfgjnapgjaaGreatDoorV
open Go Go.RowKit
end Go.Proofs.YtiimlfgjnapgjaaGreatDoorV

/- Bit operations, as sums. -/
namespace Go.Proofs.YtiimlfgjnapgjaaGreatDoorV
open Go Go.RowKit

theorem bits8 : (2 : Nat) ^ IntKind.u8.bits = 256 := rfl
theorem bits64 : (2 : Nat) ^ IntKind.u64.bits = 18446744073709551616 := rfl
theorem wrap_u {k : IntKind} (hk : k.signed = false) (n : Nat) : k.wrap (n : Int) = ((n % 2 ^ k.bits : Nat) : Int) := by
  simp only [IntKind.wrap, hk]; simp
theorem ofInt_nat (b n : Nat) : BitVec.ofInt b (n : Int) = BitVec.ofNat b n := BitVec.ofInt_natCast b n
theorem iAnd_nat {k : IntKind} (hk : k.signed = false) {a b : Nat} (ha : a < 2 ^ k.bits) (hb : b < 2 ^ k.bits) : iAnd k a b = ((a &&& b : Nat) : Int) := by
  unfold iAnd; rw [ofInt_nat, ofInt_nat, BitVec.toNat_and, BitVec.toNat_ofNat, BitVec.toNat_ofNat, Nat.mod_eq_of_lt ha, Nat.mod_eq_of_lt hb, wrap_u hk, Nat.mod_eq_of_lt (Nat.lt_of_le_of_lt Nat.and_le_left ha)]
theorem iOr_nat {k : IntKind} (hk : k.signed = false) {a b : Nat} (ha : a < 2 ^ k.bits) (hb : b < 2 ^ k.bits) : iOr k a b = ((a ||| b : Nat) : Int) := by
  unfold iOr; rw [ofInt_nat, ofInt_nat, BitVec.toNat_or, BitVec.toNat_ofNat, BitVec.toNat_ofNat, Nat.mod_eq_of_lt ha, Nat.mod_eq_of_lt hb, wrap_u hk, Nat.mod_eq_of_lt (Nat.or_lt_two_pow ha hb)]
theorem iXor_nat {k : IntKind} (hk : k.signed = false) {a b : Nat} (ha : a < 2 ^ k.bits) (hb : b < 2 ^ k.bits) : iXor k a b = ((a ^^^ b : Nat) : Int) := by
  unfold iXor; rw [ofInt_nat, ofInt_nat, BitVec.toNat_xor, BitVec.toNat_ofNat, BitVec.toNat_ofNat, Nat.mod_eq_of_lt ha, Nat.mod_eq_of_lt hb, wrap_u hk, Nat.mod_eq_of_lt (Nat.xor_lt_two_pow ha hb)]
/-- A mask of the lowest bits. -/
theorem iAnd_mask {k : IntKind} (hk : k.signed = false) {a : Int} {m n : Nat} (h0 : 0 ≤ a) (ha : a < 2 ^ k.bits) (hm : 2 ^ m - 1 = n) (hn : n < 2 ^ k.bits) : iAnd k a n = a % ((2 ^ m : Nat) : Int) := by
  obtain ⟨a, rfl⟩ := Int.eq_ofNat_of_zero_le h0
  have ha' : a < 2 ^ k.bits := by exact_mod_cast ha
  rw [iAnd_nat hk ha' hn, ← hm, Nat.and_two_pow_sub_one_eq_mod]; rfl
theorem Nat.lor_add {a b m : Nat} (ha : a < 2 ^ m) : a ||| b * 2 ^ m = a + b * 2 ^ m := by
  rw [Nat.or_comm, Nat.mul_comm, ← Nat.two_pow_add_eq_or_of_lt ha, Nat.add_comm]
/-- Bits that do not meet. -/
theorem iOr_add {k : IntKind} (hk : k.signed = false) {a b : Int} {m : Nat} (ha0 : 0 ≤ a) (ha : a < ((2 ^ m : Nat) : Int)) (hb0 : 0 ≤ b) (hs : a + b * ((2 ^ m : Nat) : Int) < ((2 ^ k.bits : Nat) : Int)) : iOr k a (b * ((2 ^ m : Nat) : Int)) = a + b * ((2 ^ m : Nat) : Int) := by
  obtain ⟨a, rfl⟩ := Int.eq_ofNat_of_zero_le ha0
  obtain ⟨b, rfl⟩ := Int.eq_ofNat_of_zero_le hb0
  have e : ((b : Int) * ((2 ^ m : Nat) : Int)) = ((b * 2 ^ m : Nat) : Int) := (Int.natCast_mul _ _).symm
  rw [e] at hs ⊢
  have hs' : a + b * 2 ^ m < 2 ^ k.bits := by exact_mod_cast hs
  rw [iOr_nat hk (by omega) (by omega), Nat.lor_add (by exact_mod_cast ha)]; rfl
theorem iShl_u {k : IntKind} (hk : k.signed = false) {a : Int} {n : Nat} (hn : n ≤ k.bits) (h0 : 0 ≤ a) : iShl k a n = (a * ((2 ^ n : Nat) : Int)) % ((2 ^ k.bits : Nat) : Int) := by
  obtain ⟨a, rfl⟩ := Int.eq_ofNat_of_zero_le h0
  unfold iShl
  rw [Int.toNat_natCast, Nat.min_eq_left hn]
  have e : ((a : Int) * 2 ^ n) = ((a * 2 ^ n : Nat) : Int) := by rw [Int.natCast_mul]; congr 1
  rw [e, wrap_u hk, Int.natCast_emod, Int.natCast_mul]
theorem iShr_div {k : IntKind} {a : Int} {n : Nat} (hn : n ≤ k.bits) (h0 : 0 ≤ a) : iShr k a n = a / ((2 ^ n : Nat) : Int) := by
  unfold iShr
  rw [Int.toNat_natCast, Nat.min_eq_left hn, Int.fdiv_eq_ediv_of_nonneg _ (Int.le_of_lt (Int.pow_pos (by decide)))]
  congr 1
end Go.Proofs.YtiimlfgjnapgjaaGreatDoorV

/- What a law's row hands in, in the engine's words. -/
namespace Go.Proofs.YtiimlfgjnapgjaaGreatDoorV
open Go Go.RowKit
def IsRow (k : IntKind) (w : World) (a : Option Addr) (len cap : Nat) (zs : List Int) : Prop :=
  (a = none ∧ len = 0 ∧ cap = 0 ∧ zs = []) ∨
  ∃ x, a = some x ∧ len ≤ cap ∧ cap ≤ maxLen ∧ zs.length = cap ∧ (∀ i, i < zs.length → w.cell? (x.add i) = some (.int k (zs.getD i 0))) ∧ ∀ n ∈ zs, (Lit.int k n).wf = true
theorem wf_rng {k : IntKind} {n : Int} (h : (Lit.int k n).wf = true) : k.min ≤ n ∧ n ≤ k.max := by simpa [Lit.wf] using h
theorem Nm.of_row {k : IntKind} {w : World} {a : Option Addr} {len cap : Nat} {zs : List Int} (h : IsRow k w a len cap zs) : Nm k w (.slice a len cap) (zs.take len) ∧ len ≤ maxLen := by
  rcases h with ⟨rfl, rfl, rfl, rfl⟩ | ⟨x, rfl, hl, hm, hz, hc, hw⟩
  · exact ⟨Nm.nil k w, Nat.zero_le _⟩
  · have hlen : (zs.take len).length = len := by rw [List.length_take]; omega
    refine ⟨⟨⟨some x, cap, by rw [hlen], by omega, by simp, fun ad ha j u hj => ?_, fun h => by cases h⟩, fun y hy => wf_rng (hw y (List.mem_of_mem_take hy))⟩, by omega⟩
    injection ha with ha; subst ha
    rw [List.getElem?_map, List.getElem?_take] at hj
    split at hj
    · rename_i hjl
      have hjz : j < zs.length := by omega
      rw [hc j hjz]
      simp [hjz] at hj
      simp [hjz, hj]
    · cases hj
/-- What a law has to show. -/
def Holds (w : World) (e : Ending) (w' : World) : Prop := e = .returned (.bool true) ∧ Ev w w'
end Go.Proofs.YtiimlfgjnapgjaaGreatDoorV

/- What is handed in, of whatever type. -/
namespace Go.Proofs.YtiimlfgjnapgjaaGreatDoorV
open Go Go.RowKit
section
variable {P : Program} {w : World} {t e : TypeId} {cs : List Value}
theorem Addr.add2 (ad : Addr) (i j : Nat) (h : ad.spot = none ∨ i = 0 ∨ j = 0) : (ad.add i).add j = ad.add (i + j) := by
  by_cases hi : i = 0
  · subst hi; rw [Addr.add_zero', Nat.zero_add]
  · by_cases hj : j = 0
    · subst hj; rw [Addr.add_zero']; rfl
    · have h1 : ad.add i = ⟨ad.block, ad.off + i, none⟩ := by unfold Addr.add; rw [if_neg hi]
      have h2 : ad.add (i + j) = ⟨ad.block, ad.off + (i + j), none⟩ := by unfold Addr.add; rw [if_neg (by omega)]
      rw [h1, h2, Addr.add_lit]; congr 1; omega
theorem Addr.add2' (ad : Addr) (i j : Nat) : (ad.add i).add j = ad.add (i + j) := by
  by_cases hi : i = 0
  · exact Addr.add2 ad i j (.inr (.inl hi))
  · by_cases hj : j = 0
    · exact Addr.add2 ad i j (.inr (.inr hj))
    · have h1 : ad.add i = ⟨ad.block, ad.off + i, none⟩ := by unfold Addr.add; rw [if_neg hi]
      have h2 : ad.add (i + j) = ⟨ad.block, ad.off + (i + j), none⟩ := by unfold Addr.add; rw [if_neg (by omega)]
      rw [h1, h2, Addr.add_lit]; congr 1; omega
/-! ### Fields -/
/-- An element's place, of whatever size. -/
theorem gIdx_sz {t : TypeId} {ki : IntKind} {sz : Nat} {v : Value} {n : Nat} {cs : List Value} {i : Nat} {K : Addr → Prop} (h : Sl w sz v n cs) (h1 : i < n)
    (hk : ∀ ad, (∀ j u, j < sz → cs[i * sz + j]? = some u → w.cell? (ad.add j) = some u) → v.ownBlock = some ad.block → K ad) (ht : slSz P t sz = true := by kernel_rfl) : gIdx P t v (.int ki i) K := by
  obtain ⟨hu, ii, hi, hsz⟩ := slSz_ok ht
  obtain ⟨a, c, rfl, _, hl, h3, h4⟩ := h
  cases a with
  | none => have := h4 rfl; omega
  | some ad =>
    refine ⟨ad.add (i * sz), fun w => ?_, hk _ (fun j u hj hu => by rw [Addr.add2']; exact h3 ad rfl _ u hu) ?_⟩
    · simp only [Instr.indexAt, asIntOf, Sem.run_bind, Sem.run_pure, Result.andThen_ok, run_underlying hu]
      rw [if_pos ⟨by omega, by omega⟩]
      simp [sizeOf, typeInfo, hi, hsz]
    · show some ad.block = some (ad.add (i * sz)).block
      unfold Addr.add; split <;> rfl
end
end Go.Proofs.YtiimlfgjnapgjaaGreatDoorV

/- The engine, fifth part: functions that are ranged over (their calls of yield), and functions that range over a function. -/
namespace Go.Proofs.YtiimlfgjnapgjaaGreatDoorV
open Go Go.RowKit

/-- The wide fence, in a round or not. -/
abbrev FW (ro : Option Nat) : Fence := { fn := fun _ => True, depth := none, alive := false, round := ro }
theorem callsIn_FW {ro : Option Nat} {m : Nat} {P : Program} {f : FuncId} {args : Array Value} {w : World} {R : Ending → World → Prop} : CallsIn (FW ro) m P f args w R ↔ Calls P f args w R := callsIn_wide (n := m)
theorem roundIn_FW {F : Fence} {ro : Option Nat} {m k l : Nat} {P : Program} {f : FuncId} {tmps : Array Value} {cdA bo : Code} {w : World} {R : Ending → World → Prop} (hF : F = Fence.wide) (h : RoundIn F k P l f tmps cdA bo w R) : RoundIn (FW ro) m P l f tmps cdA bo w R := by
  subst hF; exact ⟨trivial, fun c cs _ => h.2 c cs (room_wide _)⟩
def gCallY (P : Program) (fv : Value) (sh : Sh) (args : Array Value) (w : World) (K : TF sh.cks (World → Prop)) : Prop :=
  gCallV P fv sh args w K ∨ ∃ l m, fv = .func (.yield l) #[] #[] ∧ YieldAt Fence.wide m P l args w (retOk sh K)
/-- A call of a function that the model runs itself. -/
def gExt (P : Program) (f : FuncId) (sh : Sh) (args : Array Value) (w : World) (K : TF sh.cks (World → Prop)) : Prop := gAny P sh (callFunc f args) w K
def opY (P : Program) (o : Oper) (σ : Env) (w : World) (K : Value → World → Prop) : Prop := match o.op with
  | .call c => match c.callee with
    | .value (.tmp t) => gCallY P (σ t) (shOf P o.type) (c.args.map (evO σ)) w (tlam _ fun vs w' => K ((shOf P o.type).mk vs) w')
    | _ => opG P o σ w K
  | _ => opG P o σ w K
section
variable {P : Program} {o : Oper} {a : Act} {σ : Env} {w : World} {K : Value → World → Prop} {next : Act → World → Prop} {Q : Exit → Act → World → Prop} {ro : Option Nat} {m : Nat}
theorem opIn_of_wp (h : o.wp P a w next Q) (hd : ∀ c, o.op ≠ .defer c) : o.wpIn (FW ro) m P a w next Q := by
  refine ⟨fun _ _ => trivial, ?_⟩
  rw [Oper.semAt_plain (FW ro) _ _ hd]
  unfold Oper.wp at h
  generalize (execOp a.eval o).run P w = r at h ⊢
  unfold Oper.upon at h
  unfold Oper.uponIn
  split at h
  · exact h
  · exact h
  · exact h
  · exact ⟨fun h => (by cases h), callsIn_FW.2 h⟩
  · exact ⟨fun h => (by cases h), fun c cs _ => let ⟨v, w', r, s⟩ := h c cs; ⟨v, w', r, stepsIn_wide.2 s⟩⟩
  · exact h
  · exact h.elim
theorem opG_nd (h : opG P o σ w K) : ∀ c, o.op ≠ .defer c := by
  intro c hc
  unfold opG isQ at h
  rw [hc] at h
  exact h
theorem opY_in (he : a.eval = evO σ) (h : opY P o σ w K) (hn : ∀ v w', K v w' → next (a.put o.dst v) w') : o.wpIn (FW ro) m P a w next Q := by
  have plain : opG P o σ w K → o.wpIn (FW ro) m P a w next Q := fun h => opIn_of_wp (opG_wp he h hn) (opG_nd h)
  unfold opY at h
  split at h
  · rename_i c ho
    split at h
    · rename_i t hc
      rcases h with h | ⟨l, k, hv, fn, tmps, cdA, bo, hy, hR⟩
      · refine plain ?_
        unfold opG isQ
        rw [ho]; dsimp only; rw [hc]; dsimp only
        unfold callG
        rw [hc]; exact h
      · refine ⟨fun _ _ => trivial, ?_⟩
        rw [Oper.semAt_plain (FW ro) _ _ (by rw [ho]; simp)]
        have hrun : (execOp a.eval o).run P w = .ok (.round l fn tmps cdA bo) w := by
          rw [he]; unfold execOp; rw [ho]; dsimp only
          unfold resolve; rw [hc]; dsimp only [evO]
          rw [hv]
          simp only [Deferred.ofValue, Sem.run_bind, Sem.run_pure, Result.andThen_ok]
          simp only [Array.empty_append, invoke, Array.append_empty]
          exact hy
        rw [hrun]
        refine ⟨fun h => (by cases h), (roundIn_FW rfl hR).mono ?_⟩
        intro e w' hret
        obtain ⟨vs, hv, hk⟩ := tex_tlam hret
        subst hv
        exact hn _ _ hk
    · exact plain h
  · exact plain h
end
structure RepD (ds : List Deferred) (n : Nat) (a : Act) (σ : Env) : Prop where
  size : a.tmps.size = n
  defers : a.defers = ds
  get : ∀ t, a.tmps.getD t undef = σ t
theorem RepD.eval {ds : List Deferred} {n : Nat} {a : Act} {σ : Env} (h : RepD ds n a σ) : a.eval = evO σ := by
  funext x; cases x <;> simp only [Act.eval, evO, h.get]
theorem RepD.put {ds : List Deferred} {n : Nat} {a : Act} {σ : Env} (h : RepD ds n a σ) {d : Option Nat} (hd : ∀ t, d = some t → t < n) (v : Value) : RepD ds n (a.put d v) (updO σ d v) := by
  have h0 : Rep n { a with defers := [] } σ := ⟨h.size, rfl, h.get⟩
  have h1 := h0.put hd v
  exact ⟨by have := h1.size; cases d <;> simpa [Act.put] using this, by cases d <;> exact h.defers, fun t => by have := h1.get t; cases d <;> exact this⟩
def opsY (P : Program) (ops : Array Oper) : List Oper → Env → World → (Env → World → Prop) → Prop
  | [], σ, w, K => K σ w
  | o :: r, σ, w, K => match o.guard with
    | none => opY P o σ w fun v w' => opsY P ops r (updO σ o.dst v) w' K
    | some g => gIf (guardB ops σ g) (opY P o (setG ops σ g true) w fun v w' => opsY P ops r (updO (setG ops σ g true) o.dst v) w' K) (opsY P ops r (updO (setG ops σ g false) o.dst undef) w K)
section
variable {P : Program} {ops : Array Oper} {n : Nat} {ds : List Deferred} {ro : Option Nat} {m : Nat}
theorem wanted_guardD {a : Act} {σ : Env} {o : Oper} {g : Nat × Bool} (hr : RepD ds n a σ) (hg : o.guard = some g) : Region.wanted o (yielded ops a.tmps) = guardB ops σ g :=
  wanted_guard (a := { a with defers := [] }) (n := n) ⟨hr.size, rfl, hr.get⟩ hg
theorem opsY_in {A : List Nat} {σ₀ : Env} {K : Env → World → Prop} {Q : Exit → Act → World → Prop} (hQ : ∀ a σ w, RepD ds n a σ → agree A σ₀ σ → K σ w → Q .normal a w) :
    ∀ (l : List Oper) (a : Act) (σ : Env) (w : World), (∀ t, t ∈ dsts l → t < n ∧ t ∈ A) → RepD ds n a σ → agree A σ₀ σ → opsY P ops l σ w K → wpListIn (FW ro) m P ops Q l a w
  | [], a, σ, w, _, hr, hag, h => hQ a σ w hr hag h
  | o :: r, a, σ, w, hd, hr, hag, h => by
    have hd1 : ∀ t, o.dst = some t → t < n ∧ t ∈ A := fun t ht => hd t (mem_dsts (by simp) ht)
    have hd2 : ∀ t, t ∈ dsts r → t < n ∧ t ∈ A := fun t ht => hd t (by simp only [dsts]; split <;> simp [ht])
    have step : ∀ v w', opsY P ops r (updO σ o.dst v) w' K → wpListIn (FW ro) m P ops Q r (a.put o.dst v) w' := fun v w' h' =>
      opsY_in hQ r _ _ _ hd2 (hr.put (fun t ht => (hd1 t ht).1) v) (hag.trans (agree_updO (fun t ht => (hd1 t ht).2) v)) h'
    simp only [opsY] at h
    split at h
    · rename_i hg
      exact wpListIn_plain hg fun K' hK => opY_in hr.eval h fun v w' hk => hK _ _ (step v w' hk)
    · rename_i g hg
      refine wpListIn_step fun K' hK => ?_
      rw [wanted_guardD hr hg]
      unfold gIf at h
      split at h
      · rename_i hb; rw [hb, if_pos rfl]; rw [setG_eq hb] at h; exact opY_in hr.eval h fun v w' hk => hK _ _ (step v w' hk)
      · rename_i hb; rw [hb, if_neg (by simp)]; rw [setG_eq hb] at h; exact ⟨fun _ _ => trivial, hK _ _ (step undef w h)⟩
end
def denY (P : Program) (dr : Bool) (An : An) : Code → (Env → World → Prop) → (Nat → Env → World → Prop) → (Env → World → Prop) → Env → World → Prop
  | .skip, N, _, _, σ, w => N σ w
  | .label _, N, _, _, σ, w => N σ w
  | .region _ ops d, N, _, _, σ, w => match d with
    | false => opsY P ops ops.toList σ w N
    | true => match dr with
      | true => drawG P ops σ w N
      | false => False
  | .seq a b, N, X, R, σ, w => match lk (key b) An.cut with
    | none => denY P dr An a (fun σ' w' => denY P dr An b N X R σ' w') X R σ w
    | some D => ∃ J : TF (cks D) (World → Prop), denY P dr An a (fun σ' w' => tapp NoI (cks D) J ((ids D).map σ') w') X R σ w ∧
        ∀ g : Env, tall (cks D) fun vs => ∀ w', tapp NoI (cks D) J vs w' → denY P dr An b N X R (over (ids D) vs (mask (asg a) g σ)) w'
  | .cond c a b, N, X, R, σ, w => match evO σ c with
    | .bool t => gIf t (denY P dr An a N X R σ w) (denY P dr An b N X R σ w)
    | _ => False
  | .block id c, N, X, R, σ, w => denY P dr An c N (fun i => match Nat.beq i id with | true => N | false => X i) R σ w
  | .loop c, _, X, R, σ, w => ∃ (I : TF (cks (An.lp c)) (World → Prop)) (μ : TF (cks (An.lp c)) (World → Nat)),
      tapp NoI _ I ((ids (An.lp c)).map σ) w ∧
      ∀ g : Env, tall (cks (An.lp c)) fun vs => ∀ w', tapp NoI _ I vs w' →
        denY P dr An c (fun σ' w'' => tapp NoI _ I ((ids (An.lp c)).map σ') w'' ∧ tapp NoM _ μ ((ids (An.lp c)).map σ') w'' < tapp NoM _ μ vs w') X R
          (over (ids (An.lp c)) vs (mask (asg c) g σ)) w'
  | .exit id, _, X, _, σ, w => X id σ w
  | .ret, _, _, R, σ, w => R σ w
  | _, _, _, _, _, _ => False
def QofD (ds : List Deferred) (n : Nat) (A : List Nat) (σ₀ : Env) (N : Env → World → Prop) (X : Nat → Env → World → Prop) (R : Env → World → Prop) : Exit → Act → World → Prop
  | .normal, a, w => ∃ σ, RepD ds n a σ ∧ agree A σ₀ σ ∧ N σ w
  | .exit id, a, w => ∃ σ, RepD ds n a σ ∧ agree A σ₀ σ ∧ X id σ w
  | .ret, a, w => ∃ σ, RepD ds n a σ ∧ R σ w
  | _, _, _ => False
section
variable {P : Program} {An : An} {n : Nat} {ds : List Deferred} {ro : Option Nat} {m : Nat}
theorem denY_in {dr : Bool} (hdr : dr = true → ro = none ∧ ds = [] ∧ P.follows .mixedOrders = true) : ∀ (c : Code) (A : List Nat), (∀ t, t ∈ asg c → t ∈ A) → inB n (asg c) = true → ∀ (N : Env → World → Prop) (X : Nat → Env → World → Prop) (R : Env → World → Prop) (σ₀ σ : Env) (a : Act) (w : World),
    RepD ds n a σ → agree A σ₀ σ → denY P dr An c N X R σ w → c.wpIn (FW ro) m P (QofD ds n A σ₀ N X R) a w := by
  have inB_l : ∀ {l m : List Nat}, inB n (l ++ m) = true → inB n l = true := by
    intro l; induction l with
    | nil => intros; rfl
    | cons x l ih => intro m h; simp only [List.cons_append, inB] at h ⊢; split <;> simp_all; exact ih h
  have inB_r : ∀ {l m : List Nat}, inB n (l ++ m) = true → inB n m = true := by
    intro l; induction l with
    | nil => intro m h; exact h
    | cons x l ih => intro m h; simp only [List.cons_append, inB] at h; split at h; exact ih h; cases h
  intro c
  induction c with
  | skip => intro A _ _ N X R σ₀ σ a w hr hag h; exact wpIn_skip ⟨σ, hr, hag, h⟩
  | label l => intro A _ _ N X R σ₀ σ a w hr hag h; exact wpIn_label ⟨σ, hr, hag, h⟩
  | region id ops d =>
    intro A hA hn N X R σ₀ σ a w hr hag h
    cases d with
    | false => exact wpIn_region_list (opsY_in (A := A) (σ₀ := σ₀) (fun a σ w hr hag hk => ⟨σ, hr, hag, hk⟩) _ a σ w (fun t ht => ⟨inB_lt hn ht, hA t ht⟩) hr hag h)
    | true =>
      cases dr with
      | false => exact h.elim
      | true =>
        obtain ⟨rfl, rfl, hm⟩ := hdr rfl
        have h0 : (Code.region id ops true).wp P (QofD [] n A σ₀ N X R) a w := drawG_ok hm id n ops σ a w N _ hn ⟨hr.size, hr.defers, hr.get⟩ (fun _ _ _ h => h) (fun a σ' w hr' hag' hk => ⟨σ', ⟨hr'.size, hr'.defers, hr'.get⟩, hag.trans (hag'.mono hA), hk⟩) h
        exact (wpIn_wide (n := m)).2 h0
  | seq x y ihx ihy =>
    intro A hA hn N X R σ₀ σ a w hr hag h
    simp only [asg, List.mem_append] at hA
    have hnx := inB_l (l := asg x) (m := asg y) hn
    have hny := inB_r (l := asg x) (m := asg y) hn
    simp only [denY] at h
    split at h
    · refine wpIn_seq (wpIn_mono (ihx A (fun t ht => hA t (.inl ht)) hnx _ X R σ₀ σ a w hr hag h) ?_)
      intro e a w hq
      cases e <;> try exact hq
      obtain ⟨σ', hr', hag', hk⟩ := hq
      exact ihy A (fun t ht => hA t (.inr ht)) hny N X R σ₀ σ' a w hr' hag' hk
    · rename_i D hD
      obtain ⟨J, h1, h2⟩ := h
      have h1' := ihx (asg x) (fun t ht => ht) hnx _ X R σ σ a w hr (agree.refl _ _) h1
      refine wpIn_seq (wpIn_mono h1' ?_)
      intro e a w hq
      cases e with
      | normal =>
        obtain ⟨σ', hr', hag', hk⟩ := hq
        have := tapp_all hk (h2 σ') w hk
        rw [mask_eq hag', over_map rfl] at this
        exact ihy A (fun t ht => hA t (.inr ht)) hny N X R σ₀ σ' a w hr' (hag.trans (hag'.mono fun t ht => hA t (.inl ht))) this
      | exit id => obtain ⟨σ', hr', hag', hk⟩ := hq; exact ⟨σ', hr', hag.trans (hag'.mono fun t ht => hA t (.inl ht)), hk⟩
      | ret => exact hq
      | goto l => exact hq
      | panic ch => exact hq
      | outgrown => exact hq
  | cond c x y ihx ihy =>
    intro A hA hn N X R σ₀ σ a w hr hag h
    simp only [asg, List.mem_append] at hA
    simp only [denY] at h
    split at h
    · rename_i t ht
      have hc : a.eval c = .bool t := by rw [hr.eval]; exact ht
      unfold gIf at h
      split at h
      · exact wpIn_cond_true hc (ihx A (fun t ht => hA t (.inl ht)) (inB_l (l := asg x) (m := asg y) hn) N X R σ₀ σ a w hr hag h)
      · exact wpIn_cond_false hc (ihy A (fun t ht => hA t (.inr ht)) (inB_r (l := asg x) (m := asg y) hn) N X R σ₀ σ a w hr hag h)
    · exact h.elim
  | block id x ih =>
    intro A hA hn N X R σ₀ σ a w hr hag h
    refine wpIn_block (wpIn_mono (ih A hA hn N _ R σ₀ σ a w hr hag h) ?_)
    intro e a w hq
    cases e <;> try exact hq
    rename_i i
    simp only [Exit.inBlock]
    obtain ⟨σ', hr', hag', hk⟩ := hq
    by_cases hi : i = id
    · rw [if_pos hi]
      rw [show Nat.beq i id = true by rw [hi]; exact Nat.beq_refl id] at hk
      exact ⟨σ', hr', hag', hk⟩
    · rw [if_neg hi]
      rw [show Nat.beq i id = false by cases hb : Nat.beq i id with | false => rfl | true => exact absurd (Nat.eq_of_beq_eq_true hb) hi] at hk
      exact ⟨σ', hr', hag', hk⟩
  | loop x ih =>
    intro A hA hn N X R σ₀ σ a w hr hag h
    obtain ⟨I, μ, h0, h1⟩ := h
    refine wpIn_loop (I := fun a' w' => ∃ σ', RepD ds n a' σ' ∧ agree (asg x) σ σ' ∧ tapp NoI _ I ((ids (An.lp x)).map σ') w')
      (μ := fun a' w' => tapp NoM _ μ ((ids (An.lp x)).map fun t => a'.tmps.getD t undef) w') ⟨σ, hr, agree.refl _ _, h0⟩ ?_
    intro a' w' ⟨σ', hr', hag', hI⟩
    have := tapp_all hI (h1 σ') w' hI
    rw [mask_eq hag', over_map rfl] at this
    refine wpIn_mono (ih (asg x) (fun t ht => ht) hn _ X R σ σ' a' w' hr' hag' this) ?_
    intro e a'' w'' hq
    have hget : ∀ {a : Act} {σ : Env}, RepD ds n a σ → (fun t => a.tmps.getD t undef) = σ := fun hr => funext hr.get
    cases e with
    | normal =>
      obtain ⟨σ'', hr'', hag'', hk1, hk2⟩ := hq
      refine ⟨⟨σ'', hr'', hag'', hk1⟩, ?_⟩
      rw [hget hr'', hget hr']; exact hk2
    | exit id => obtain ⟨σ'', hr'', hag'', hk⟩ := hq; exact ⟨σ'', hr'', hag.trans (hag''.mono hA), hk⟩
    | ret => exact hq
    | goto l => exact hq
    | panic ch => exact hq
    | outgrown => exact hq
  | exit id => intro A _ _ N X R σ₀ σ a w hr hag h; exact wpIn_exit ⟨σ, hr, hag, h⟩
  | ret => intro A _ _ N X R σ₀ σ a w hr _ h; exact wpIn_ret ⟨σ, hr, h⟩
  | rangeFunc => intro A _ _ N X R σ₀ σ a w _ _ h; exact h.elim
  | scope => intro A _ _ N X R σ₀ σ a w _ _ h; exact h.elim
  | goto => intro A _ _ N X R σ₀ σ a w _ _ h; exact h.elim
  | refuse => intro A _ _ N X R σ₀ σ a w _ _ h; exact h.elim
end
theorem rep0 {args : Array Value} {k : Nat} (hs : args.size + (k - args.size) = k) : RepD [] k { tmps := args ++ Array.replicate (k - args.size) undef, defers := [] } (fun t => args.getD t undef) := by
  refine ⟨by simpa using hs, rfl, fun t => ?_⟩
  simp only [Array.getD_eq_getD_getElem?, Array.getElem?_append, Array.getElem?_replicate]
  split
  · rfl
  · rename_i hlt; rw [Array.getElem?_eq_none (by omega)]; split <;> rfl
/-- A call of a function that may call yield. -/
theorem calls_ofY {P : Program} (hm : P.follows .mixedOrders = true) {An : An} {f : FuncId} {fn : Func} {c : Code} {args : Array Value} {w : World} {R : Ending → World → Prop}
    (hf : P.funcs[f]? = some fn) (hb : fn.body = some c) (hs : args.size + (fn.ntmps - args.size) = fn.ntmps) (hn : inB fn.ntmps (asg c) = true)
    (h : denY P true An c (retG P fn R) (fun _ _ _ => False) (retG P fn R) (fun t => args.getD t undef) w) : Calls P f args w R := by
  refine callsIn_FW (ro := none) (m := 0) |>.1 (callsIn_of_wp hf hb trivial (wpIn_mono (denY_in (An := An) (dr := true) (fun _ => ⟨rfl, rfl, hm⟩) c (asg c) (fun _ h => h) hn _ _ _ _ _ _ w (rep0 hs) (agree.refl _ _) h) ?_))
  intro e a w hq
  cases e with
  | normal => obtain ⟨σ, hr, _, hk⟩ := hq; exact ⟨hr.defers, retG_ok hr.get hk⟩
  | ret => obtain ⟨σ, hr, hk⟩ := hq; exact ⟨hr.defers, retG_ok hr.get hk⟩
  | exit id => obtain ⟨_, _, _, hk⟩ := hq; exact hk.elim
  | goto l => exact hq
  | panic ch => exact hq.elim
  | outgrown => exact hq.elim

/-! ### A range over a function -/
structure RF where
  g : Operand
  p : Nat
  d : Nat
  bo : Code
/-- One loop variable, assigned as it comes. -/
def rfOf (g : Operand) (ps : Array Tmp) (cdA bo : Code) : Option RF := match ps.toList with
  | [p] => match cdA with
    | .region _ ops d => match d with
      | true => none
      | false => match ops.toList with
        | [o] => match o.op with
          | .assign x => match x with
            | .tmp q => match o.dst with
              | some d => match o.guard with
                | none => match Nat.beq p q with
                  | true => some ⟨g, p, d, bo⟩
                  | false => none
                | some _ => none
              | none => none
            | _ => none
          | _ => none
        | _ => none
    | _ => none
  | _ => none
/-- The function value fv is ranged over: an iterator's contract; an invariant; the body; what comes behind. -/
def gRange (P : Program) (fv : Value) (w : World) (BODY : Value → World → (World → Prop) → Prop) (POST : Nat → World → Prop) : Prop :=
  ∃ (gf : Nat) (lb : Array Value), fv = .func (.func gf) #[] lb ∧ callOk P gf = true ∧
  ∃ (α : Type) (enc : α → Value) (Kp : World → World → Prop) (S Sp : List α → Prop) (N : Nat) (I : List α → World → Prop),
    SeqStopsK Fence.wide 4 P gf lb (fun x => #[enc x]) Kp S Sp N w ∧ (∀ {A B C : World}, Kp A B → Kp B C → Kp A C) ∧
    (∀ (W : World) (l : Nat) (o o' : Obj), w.heap.size ≤ l → W.heap[l]? = some o → o.isCells = false → o.isWalk = false → Kp W (W.putObj l o')) ∧
    OwnFrom w.heap.size I ∧ I [] w ∧
    (∀ pre x W, I pre W → pre.length < N → BODY (enc x) W fun W' => KeepsOthers W W' ∧ Kp W W' ∧ I (pre ++ [x]) W') ∧
    (∀ D xs W, w.heap.size ≤ D → S xs → I xs W → W.heap[D]? = some (.deferred (some [])) → POST D W)
def hasR : Code → Bool
  | .rangeFunc .. => true
  | .seq a b => match hasR a with | true => true | false => hasR b
  | .block _ c => hasR c
  | _ => false
def asgR : Code → List Nat
  | .seq a b => match hasR a with
    | true => asgR a ++ asg b
    | false => asg a ++ asgR b
  | .block _ c => asgR c
  | .rangeFunc g ps cdA bo => match rfOf g ps cdA bo with
    | some r => r.p :: r.d :: asg r.bo
    | none => []
  | _ => []
/-- Code with one range over a function: N and R1 behind it (D: where the block of its deferred calls lies), R0 ahead of it. -/
def denR (P : Program) (An : An) : Code → (Nat → Env → World → Prop) → (Env → World → Prop) → (Nat → Env → World → Prop) → Env → World → Prop
  | .rangeFunc g ps cdA bo, N, _, _, σ, w => match rfOf g ps cdA bo with
    | some r => gRange P (evO σ r.g) w (fun x W K => denY P false An r.bo (fun _ w' => K w') (fun _ _ _ => False) (fun _ _ => False) (upd (upd σ r.p x) r.d x) W) (fun D w' => N D σ w')
    | none => False
  | .block _ c, N, R0, R1, σ, w => denR P An c N R0 R1 σ w
  | .seq a b, N, R0, R1, σ, w => match hasR a with
    | true => denR P An a (fun D σ' w' => denY P false An b (N D) (fun _ _ _ => False) (R1 D) σ' w') R0 R1 σ w
    | false => match lk (key b) An.cut with
      | none => den P (drawG P) An a (fun σ' w' => denR P An b N R0 R1 σ' w') (fun _ _ _ => False) R0 σ w
      | some D => ∃ J : TF (cks D) (World → Prop), den P (drawG P) An a (fun σ' w' => tapp NoI (cks D) J ((ids D).map σ') w') (fun _ _ _ => False) R0 σ w ∧
        ∀ g : Env, tall (cks D) fun vs => ∀ w', tapp NoI (cks D) J vs w' → denR P An b N R0 R1 (over (ids D) vs (mask (asg a) g σ)) w'
  | _, _, _, _, _, _ => False
abbrev mkD (D : Nat) : List Deferred := [{ target := .collected D, args := #[] }]
def QR (n : Nat) (N : Nat → Env → World → Prop) (R0 : Env → World → Prop) (R1 : Nat → Env → World → Prop) : Exit → Act → World → Prop
  | .normal, a, w => ∃ D σ, RepD (mkD D) n a σ ∧ N D σ w
  | .ret, a, w => (∃ σ, RepD [] n a σ ∧ R0 σ w) ∨ (∃ D σ, RepD (mkD D) n a σ ∧ R1 D σ w)
  | _, _, _ => False
section
variable {P : Program} {An : An} {n : Nat}
theorem inB_app {l m : List Nat} (h : inB n (l ++ m) = true) : inB n l = true ∧ inB n m = true := by
  induction l with
  | nil => exact ⟨rfl, h⟩
  | cons x l ih =>
    simp only [List.cons_append, inB] at h ⊢
    split at h
    · exact ih h
    · cases h
theorem rfOf_some {g : Operand} {ps : Array Tmp} {cdA bo : Code} {r : RF} (h : rfOf g ps cdA bo = some r) :
    r.g = g ∧ r.bo = bo ∧ ps = #[r.p] ∧ ∃ id o, cdA = .region id #[o] false ∧ o.op = .assign (.tmp r.p) ∧ o.dst = some r.d ∧ o.guard = none := by
  unfold rfOf at h
  split at h
  · rename_i p hp
    split at h
    · rename_i id ops d
      split at h
      · cases h
      · split at h
        · rename_i o ho
          split at h
          · rename_i x h1
            split at h
            · rename_i q
              split at h
              · rename_i d h2
                split at h
                · rename_i h3
                  split at h
                  · rename_i hb
                    injection h with h
                    subst h
                    have := Nat.eq_of_beq_eq_true hb
                    subst this
                    have e1 : ps = #[p] := by cases ps; simp_all
                    have e2 : ops = #[o] := by cases ops; simp_all
                    subst e1; subst e2
                    exact ⟨rfl, rfl, rfl, id, o, rfl, h1, h2, h3⟩
                  · cases h
                · cases h
              · cases h
            · cases h
          · cases h
        · cases h
    · cases h
  · cases h
theorem call_ok_enters {P : Program} {gf : Nat} (hok : callOk P gf = true) : ∀ args w, (callFunc gf args).run P w = .ok (.enter gf args) w := fun args w => call_enter hok
theorem range_in {r : RF} {g : Operand} {ps : Array Tmp} {cdA bo : Code} (hrf : rfOf g ps cdA bo = some r) (hn : inB n (r.p :: r.d :: asg r.bo) = true) {σ : Env} {a : Act} {w : World} (hr : RepD [] n a σ) {N : Nat → Env → World → Prop} {R0 : Env → World → Prop} {R1 : Nat → Env → World → Prop}
    (h : gRange P (evO σ r.g) w (fun x W K => denY P false An r.bo (fun _ w' => K w') (fun _ _ _ => False) (fun _ _ => False) (upd (upd σ r.p x) r.d x) W) (fun D w' => N D σ w')) :
    (Code.rangeFunc g ps cdA bo).wpIn (FW none) 5 P (QR n N R0 R1) a w := by
  obtain ⟨hg, hbo, rfl, id, o, rfl, ho1, ho2, ho3⟩ := rfOf_some hrf
  subst hg; subst hbo
  obtain ⟨gf, lb, hv, hok, α, enc, Kp, S, Sp, Nn, I, hseq, hKt, hKb, hI, h0, hbody, hdone⟩ := h
  have hp : r.p < n ∧ r.d < n ∧ inB n (asg r.bo) = true := by
    simp only [inB] at hn
    split at hn
    · rename_i h1
      split at hn
      · rename_i h2; exact ⟨by simpa [Nat.blt_eq] using h1, by simpa [Nat.blt_eq] using h2, hn⟩
      · cases hn
    · cases hn
  have hset : ∀ {a : Act} {σ : Env} {d : Nat} (v : Value), RepD [] n a σ → d < n → RepD [] n { tmps := a.tmps.setIfInBounds d v, defers := [] } (upd σ d v) := fun {a σ d} v hr hd => by
    have := RepD.put (ds := []) (n := n) (a := a) hr (d := some d) (fun t ht => by injection ht with ht; omega) v
    exact ⟨this.size, rfl, this.get⟩
  refine wpIn_rangeFunc_ownF (F := FW none) (n := 5) rfl (by decide) (gf := gf) (lb := lb) (by rw [hr.eval]; exact hv) trivial (call_ok_enters hok) (encs := fun x => #[enc x]) (Kp := Kp) (S := S) (Sp := Sp) (N := Nn) (w0 := w) ?_ hKt hKb (Below.refl _ w) (fun _ => rfl) I (fun _ _ _ => False) hI
    (fun c s W W' row h _ _ => h.elim) h0 (fun x => { tmps := (a.tmps.setIfInBounds r.p (enc x)).setIfInBounds r.d (enc x), defers := [] }) ?_ ?_ ?_ ?_
  · exact hseq
  · intro l x W K hK
    refine wpIn_region_list ?_
    refine wpListIn_plain ho3 fun K' hK' => ?_
    refine ⟨fun _ _ => trivial, ?_⟩
    rw [Oper.semAt_plain _ _ _ (by rw [ho1]; simp)]
    have hz : (#[r.p].zip #[enc x]).foldl (fun t (p : Tmp × Value) => t.setIfInBounds p.1 p.2) a.tmps = a.tmps.setIfInBounds r.p (enc x) := by simp
    have hrun : ∀ ρ : Operand → Value, (execOp ρ o).run P W = .ok (.value (ρ (.tmp r.p))) W := fun ρ => by unfold execOp; rw [ho1]; rfl
    rw [hrun]
    have hval : (a.tmps.setIfInBounds r.p (enc x)).getD r.p undef = enc x := by
      have := (hset (enc x) hr hp.1).get r.p
      rw [this, upd_eq, if_pos rfl]
    show K' _ W
    refine hK' _ _ ?_
    show wpListIn _ _ _ _ _ [] _ W
    show Exit.then K _ .normal _ W
    have he : ∀ {t : Array Value}, t = a.tmps.setIfInBounds r.p (enc x) → (({ tmps := t, defers := [] } : Act).put o.dst (({ tmps := t, defers := [] } : Act).eval (.tmp r.p))) = { tmps := (a.tmps.setIfInBounds r.p (enc x)).setIfInBounds r.d (enc x), defers := [] } := fun ht => by
      subst ht
      rw [ho2]
      simp only [Act.put, Act.eval, hval]
    rw [he (by simp)]
    exact hK
  · intro l pre x W hi hl
    have hrb : RepD [] n { tmps := (a.tmps.setIfInBounds r.p (enc x)).setIfInBounds r.d (enc x), defers := [] } (upd (upd σ r.p (enc x)) r.d (enc x)) :=
      hset (a := { tmps := a.tmps.setIfInBounds r.p (enc x), defers := [] }) (enc x) (hset (enc x) hr hp.1) hp.2.1
    refine wpIn_mono (denY_in (ro := some l) (An := An) (dr := false) (fun h => by cases h) r.bo (asg r.bo) (fun _ h => h) hp.2.2 _ _ _ _ _ _ W hrb (agree.refl _ _) (hbody pre x W hi hl)) ?_
    intro e a' W' hq
    cases e with
    | normal => obtain ⟨_, _, _, hk⟩ := hq; exact hk
    | exit id => obtain ⟨_, _, _, hk⟩ := hq; exact hk.elim
    | ret => obtain ⟨_, _, hk⟩ := hq; exact hk.elim
    | goto l => exact hq.elim
    | panic ch => exact hq.elim
    | outgrown => exact hq.elim
  · intro D xs W hD hS hi hk
    exact ⟨D, σ, ⟨hr.size, by rw [hr.defers], hr.get⟩, hdone D xs W hD hS hi hk⟩
  · intro D c pre W _ _ h _
    exact h.elim
theorem denR_in : ∀ (c : Code), inB n (asgR c) = true → ∀ (N : Nat → Env → World → Prop) (R0 : Env → World → Prop) (R1 : Nat → Env → World → Prop) (σ : Env) (a : Act) (w : World) (hm : P.follows .mixedOrders = true),
    RepD [] n a σ → denR P An c N R0 R1 σ w → c.wpIn (FW none) 5 P (QR n N R0 R1) a w := by
  intro c
  induction c with
  | rangeFunc g ps cdA bo =>
    intro hn N R0 R1 σ a w hm hr h
    simp only [denR] at h
    simp only [asgR] at hn
    split at h
    · rename_i r hrf
      rw [hrf] at hn
      exact range_in hrf hn hr h
    · exact h.elim
  | block id c ih =>
    intro hn N R0 R1 σ a w hm hr h
    refine wpIn_block (wpIn_mono (ih hn N R0 R1 σ a w hm hr h) ?_)
    intro e a w hq
    cases e <;> try exact hq
    exact hq.elim
  | seq x y ihx ihy =>
    intro hn N R0 R1 σ a w hm hr h
    simp only [denR] at h
    simp only [asgR] at hn
    split at h
    · rename_i hx
      rw [hx] at hn
      have hn2 := inB_app hn
      refine wpIn_seq (wpIn_mono (ihx hn2.1 _ R0 R1 σ a w hm hr h) ?_)
      intro e a w hq
      cases e with
      | normal =>
        obtain ⟨D, σ', hr', hk⟩ := hq
        refine wpIn_mono (denY_in (ro := none) (An := An) (dr := false) (fun h => by cases h) y (asg y) (fun _ h => h) hn2.2 _ _ _ _ _ _ w hr' (agree.refl _ _) hk) ?_
        intro e a w hq
        cases e with
        | normal => obtain ⟨σ'', hr'', _, hk⟩ := hq; exact ⟨D, σ'', hr'', hk⟩
        | exit id => obtain ⟨_, _, _, hk⟩ := hq; exact hk.elim
        | ret => obtain ⟨σ'', hr'', hk⟩ := hq; exact .inr ⟨D, σ'', hr'', hk⟩
        | goto l => exact hq
        | panic ch => exact hq
        | outgrown => exact hq
      | ret => exact hq
      | exit id => exact hq
      | goto l => exact hq
      | panic ch => exact hq
      | outgrown => exact hq
    · rename_i hx
      rw [hx] at hn
      have hn2 := inB_app hn
      have hr0 : Rep n a σ := ⟨hr.size, hr.defers, hr.get⟩
      have wide : ∀ {Q : Exit → Act → World → Prop} {a : Act} {w : World}, x.wp P Q a w → x.wpIn (FW none) 5 P Q a w := fun h => (wpIn_wide (n := 5)).2 h
      split at h
      · refine wpIn_seq (wpIn_mono (wide (den_wp (An := An) (drawG_ok hm) x (asg x) (fun _ h => h) hn2.1 _ _ _ _ _ _ w hr0 (agree.refl _ _) h)) ?_)
        intro e a w hq
        cases e with
        | normal => obtain ⟨σ', hr', _, hk⟩ := hq; exact ihy hn2.2 N R0 R1 σ' a w hm ⟨hr'.size, hr'.defers, hr'.get⟩ hk
        | exit id => obtain ⟨_, _, _, hk⟩ := hq; exact hk.elim
        | ret => obtain ⟨σ', hr', hk⟩ := hq; exact .inl ⟨σ', ⟨hr'.size, hr'.defers, hr'.get⟩, hk⟩
        | goto l => exact hq
        | panic ch => exact hq
        | outgrown => exact hq
      · rename_i D hD
        obtain ⟨J, h1, h2⟩ := h
        refine wpIn_seq (wpIn_mono (wide (den_wp (An := An) (drawG_ok hm) x (asg x) (fun _ h => h) hn2.1 _ _ _ _ _ _ w hr0 (agree.refl _ _) h1)) ?_)
        intro e a w hq
        cases e with
        | normal =>
          obtain ⟨σ', hr', hag', hk⟩ := hq
          have := tapp_all hk (h2 σ') w hk
          rw [mask_eq hag', over_map rfl] at this
          exact ihy hn2.2 N R0 R1 σ' a w hm ⟨hr'.size, hr'.defers, hr'.get⟩ this
        | exit id => obtain ⟨_, _, _, hk⟩ := hq; exact hk.elim
        | ret => obtain ⟨σ', hr', hk⟩ := hq; exact .inl ⟨σ', ⟨hr'.size, hr'.defers, hr'.get⟩, hk⟩
        | goto l => exact hq
        | panic ch => exact hq
        | outgrown => exact hq
  | skip => intro _ N R0 R1 σ a w _ _ h; exact h.elim
  | label => intro _ N R0 R1 σ a w _ _ h; exact h.elim
  | region => intro _ N R0 R1 σ a w _ _ h; exact h.elim
  | cond => intro _ N R0 R1 σ a w _ _ h; exact h.elim
  | loop => intro _ N R0 R1 σ a w _ _ h; exact h.elim
  | exit => intro _ N R0 R1 σ a w _ _ h; exact h.elim
  | ret => intro _ N R0 R1 σ a w _ _ h; exact h.elim
  | scope => intro _ N R0 R1 σ a w _ _ h; exact h.elim
  | goto => intro _ N R0 R1 σ a w _ _ h; exact h.elim
  | refuse => intro _ N R0 R1 σ a w _ _ h; exact h.elim
end
/-- What a function that ranged over a function hands back: the block of its rounds' deferred calls is shut. -/
def retGR (P : Program) (fn : Func) (R : Ending → World → Prop) (D : Nat) (σ : Env) (w : World) : Prop := w.heap[D]? = some (.deferred (some [])) ∧ retG P fn R σ (w.putObj D (.deferred none))
/-- A call of a function that ranges over a function. -/
theorem calls_ofR {P : Program} (hm : P.follows .mixedOrders = true) {An : An} {f : FuncId} {fn : Func} {c : Code} {args : Array Value} {w : World} {R : Ending → World → Prop}
    (hf : P.funcs[f]? = some fn) (hb : fn.body = some c) (hs : args.size + (fn.ntmps - args.size) = fn.ntmps) (hn : inB fn.ntmps (asgR c) = true)
    (h : denR P An c (retGR P fn R) (retG P fn R) (retGR P fn R) (fun t => args.getD t undef) w) : Calls P f args w R := by
  refine callsIn_FW (ro := none) (m := 5) |>.1 (callsIn_of_wp_marks hf hb trivial (wpIn_mono (denR_in (An := An) c hn _ _ _ _ _ w hm (rep0 hs) h) ?_))
  have fin : ∀ {a : Act} {w : World} {D : Nat} {σ : Env}, RepD (mkD D) fn.ntmps a σ → retGR P fn R D σ w → LeavesInM (FW none) 5 P fn a.tmps R a.defers .returning w := fun {a w D σ} hr hk => by
    rw [hr.defers]
    exact ⟨by simp, .inl ⟨D, _, rfl, run_takeDeferred hk.1, retG_ok hr.get hk.2⟩⟩
  intro e a w hq
  cases e with
  | normal => obtain ⟨D, σ, hr, hk⟩ := hq; exact fin hr hk
  | ret =>
    rcases hq with ⟨σ, hr, hk⟩ | ⟨D, σ, hr, hk⟩
    · show LeavesInM _ _ _ _ _ _ a.defers .returning w
      rw [hr.defers]; exact retG_ok hr.get hk
    · exact fin hr hk
  | exit id => exact hq.elim
  | goto l => exact hq
  | panic ch => exact hq.elim
  | outgrown => exact hq.elim
end Go.Proofs.YtiimlfgjnapgjaaGreatDoorV

/- The program by name: numbers of functions and of types. -/
namespace Go.Proofs.YtiimlfgjnapgjaaGreatDoorV
open Go
noncomputable abbrev P : Program := Go.Proofs.Tryz.prog
theorem hmix : P.follows .mixedOrders = true := by kernel_rfl
abbrev n_valiselaw31_ScriptDecodes : Nat := 4
abbrev n_valiselaw31_awake : Nat := 6
abbrev n_script_Day_Do : Nat := 7
abbrev n_script_New : Nat := 8
abbrev n_script_Day_Archive : Nat := 9
abbrev n_valisehelp_Own_byte : Nat := 11
abbrev n_valisehelp_Same_api_Op : Nat := 12
abbrev n_script_Decode : Nat := 13
abbrev n_valiseref31_Decode : Nat := 14
abbrev n_valisehelp_Op : Nat := 15
abbrev n_valisehelp_Kept_byte : Nat := 16
abbrev n_script_Day_have : Nat := 18
abbrev n_archive_Create : Nat := 19
abbrev n_archive_Append : Nat := 20
abbrev n_archive_Delete : Nat := 21
abbrev n_archive_List : Nat := 22
abbrev n_archive_Test : Nat := 23
abbrev n_archive_All : Nat := 24
abbrev n_archive_One : Nat := 25
abbrev n_script_first : Nat := 26
abbrev n_valisehelp_Same_api_Entry : Nat := 27
abbrev n_valisehelp_Entry : Nat := 28
abbrev n_num_New : Nat := 31
abbrev n_script_decoder_op : Nat := 32
abbrev n_valiseref02_New : Nat := 33
abbrev n_valiseref31_num : Nat := 34
abbrev n_valiseref02_Reader_Text : Nat := 35
abbrev n_valisehelp_Plain_string : Nat := 36
abbrev n_valisehelp_Options : Nat := 37
abbrev n_valisehelp_Plain_byte : Nat := 38
abbrev n_box_Make : Nat := 39
abbrev n_seal_Seal : Nat := 40
abbrev n_valisehelp_Bytes : Nat := 50
abbrev n_valisehelp_Plain_int : Nat := 51
abbrev n_script_decoder_number : Nat := 52
abbrev n_script_decoder_text : Nat := 53
abbrev n_script_decoder_bytes : Nat := 54
abbrev n_valiseref02_Reader_Num : Nat := 55
abbrev n_valiseref02_Reader_number : Nat := 56
abbrev n_valisehelp_Same_string : Nat := 57
abbrev n_valisehelp_Plain_string_1 : Nat := 58
abbrev n_valisehelp_Same_byte : Nat := 59
abbrev n_valisehelp_Plain_byte_1 : Nat := 60
abbrev n_box_Right : Nat := 61
abbrev n_names_Sort : Nat := 62
abbrev n_box_turned : Nat := 63
abbrev n_num_Writer_Num : Nat := 64
abbrev n_box_writer_tags : Nat := 65
abbrev n_box_writer_items : Nat := 66
abbrev n_slices_Chunk_byte_byte : Nat := 67
abbrev n_box_writer_block : Nat := 68
abbrev n_num_Writer_Bytes : Nat := 69
abbrev n_num_Writer_Raw : Nat := 70
abbrev n_num_Writer_Little : Nat := 71
abbrev n_crc_Sum : Nat := 72
abbrev n_slices_Clone_api_Entry_api_Entry : Nat := 77
abbrev n_names_byName : Nat := 79
abbrev n_names_much : Nat := 81
abbrev n_names_own : Nat := 82
abbrev n_valisehelp_Same_int : Nat := 91
abbrev n_valisehelp_Plain_int_1 : Nat := 92
abbrev n_num_Reader_Num : Nat := 93
abbrev n_num_Reader_Text : Nat := 94
abbrev n_chain_Right : Nat := 95
abbrev n_slices_ContainsFunc_api_Entry_api_Entry : Nat := 96
abbrev n_names_Sort_1 : Nat := 97
abbrev n_names_Right : Nat := 98
abbrev n_slices_SortStableFunc_api_Entry_api_Entry : Nat := 99
abbrev n_chain_Detect : Nat := 100
abbrev n_chain_Choose : Nat := 101
abbrev n_box_grown : Nat := 102
abbrev n_num_Writer_Text : Nat := 103
abbrev n_slices_Chunk_byte_byte_1 : Nat := 104
abbrev n_num_buffer_put : Nat := 106
abbrev n_crc_Add : Nat := 107
abbrev n_strings_Compare : Nat := 113
abbrev n_num_Reader_Raw : Nat := 117
abbrev n_num_Reader_num : Nat := 123
abbrev n_chain_of : Nat := 124
abbrev n_slices_Contains_int_int : Nat := 125
abbrev n_slices_IndexFunc_api_Entry_api_Entry : Nat := 126
abbrev n_strings_Contains : Nat := 127
abbrev n_slices_ContainsFunc_string_string : Nat := 128
abbrev n_strings_Split : Nat := 129
abbrev n_names_Right_1 : Nat := 130
abbrev n_slices_stableCmpFunc_api_Entry : Nat := 131
abbrev n_chain_Forward : Nat := 136
abbrev n_chain_Inverse : Nat := 137
abbrev n_bytes_Equal : Nat := 138
abbrev n_bytes_Clone : Nat := 139
abbrev n_crc_Table : Nat := 145
abbrev n_internal_bytealg_CompareString : Nat := 150
abbrev n_num_Reader_look : Nat := 158
abbrev n_audio_Pack : Nat := 159
abbrev n_audio_Unpack : Nat := 160
abbrev n_image_Pack : Nat := 161
abbrev n_image_Unpack : Nat := 162
abbrev n_table_Pack : Nat := 163
abbrev n_table_Unpack : Nat := 164
abbrev n_words_Pack : Nat := 165
abbrev n_words_Unpack : Nat := 166
abbrev n_text_Lines : Nat := 167
abbrev n_text_Unlines : Nat := 168
abbrev n_text_Caps : Nat := 169
abbrev n_text_Uncaps : Nat := 170
abbrev n_slices_Index_int_int : Nat := 171
abbrev n_strings_Index : Nat := 172
abbrev n_slices_IndexFunc_string_string : Nat := 173
abbrev n_strings_genSplit : Nat := 174
abbrev n_slices_insertionSortCmpFunc_api_Entry : Nat := 175
abbrev n_slices_symMergeCmpFunc_api_Entry : Nat := 176
abbrev n_internal_bytealg_abigen_runtime_cmpstring : Nat := 197
abbrev n_internal_stringslite_Index : Nat := 231
abbrev n_strings_explode : Nat := 232
abbrev n_strings_Count : Nat := 233
abbrev n_slices_rotateCmpFunc_api_Entry : Nat := 234
abbrev n_internal_stringslite_IndexByte : Nat := 295
abbrev n_internal_bytealg_IndexString : Nat := 296
abbrev n_internal_bytealg_Cutover : Nat := 297
abbrev n_internal_bytealg_IndexRabinKarp_string : Nat := 298
abbrev n_unicode_utf8_RuneCountInString : Nat := 299
abbrev n_internal_bytealg_CountString : Nat := 301
abbrev n_slices_swapRangeCmpFunc_api_Entry : Nat := 302
abbrev n_internal_bytealg_IndexByteString : Nat := 346
abbrev t_int : Nat := 3
abbrev t_bool : Nat := 4
abbrev t_uint8 : Nat := 5
abbrev t_string : Nat := 9
abbrev t_sl_api_Entry : Nat := 22
abbrev t_sl_string : Nat := 23
abbrev t_sl_int : Nat := 24
abbrev t_sl_uint8 : Nat := 25
abbrev t_api_Options : Nat := 27
abbrev t_api_Op : Nat := 29
abbrev t_pt_script_Day : Nat := 30
abbrev t_api_Errno : Nat := 33
abbrev t_sl_api_Info : Nat := 34
abbrev t_api_Told : Nat := 36
abbrev t_sl_api_Op : Nat := 44
abbrev t_api_Entry : Nat := 51
abbrev t_script_Day : Nat := 56
abbrev t_uint32 : Nat := 70
abbrev t_pt_num_Reader : Nat := 75
abbrev t_script_decoder : Nat := 78
abbrev t_uint64 : Nat := 83
abbrev t_num_Reader : Nat := 107
abbrev t_valiseref02_Reader : Nat := 112
abbrev t_sl_api_Item : Nat := 121
abbrev t_api_Item : Nat := 123
abbrev t_num_Writer : Nat := 129
abbrev t_box_writer : Nat := 131
abbrev t_pt_num_Writer : Nat := 176
abbrev t_func_sl_uint8_int_sl_uint8_api_Errno : Nat := 179
abbrev t_sl_sl_uint8 : Nat := 180
abbrev t_func_sl_uint8_sl_uint8_bool_204 : Nat := 204
abbrev t_chain_transform : Nat := 206
abbrev t_ar256_uint32 : Nat := 236
end Go.Proofs.YtiimlfgjnapgjaaGreatDoorV
