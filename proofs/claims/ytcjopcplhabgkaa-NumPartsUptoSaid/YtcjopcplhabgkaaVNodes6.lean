/- Nodes, sixth part: literals of structs, places of arrays, []byte of constant texts, appending texts. -/
import Derived.Test.YtcjopcplhabgkaaVFram
import Derived.Lib.AppendStr
import Derived.Lib.SlBytesConst
namespace Go.Proofs.YtcjopcplhabgkaaV
open Go Go.RowKit
theorem getD_app_l {α : Type} {l r : List α} {i : Nat} {d : α} (h : i < l.length) : (l ++ r).getD i d = l.getD i d := by simp [List.getD_eq_getElem?_getD, List.getElem?_append_left h]
theorem getD_app_r {α : Type} {l r : List α} {i : Nat} {d : α} (h : l.length ≤ i) : (l ++ r).getD i d = r.getD (i - l.length) d := by simp [List.getD_eq_getElem?_getD, List.getElem?_append_right h]
section
variable {P : Program} {w0 w : World} {F : List It}
/-! ### Literals of structs -/
theorem setAll_size (vs : List Value) : ∀ (c : Array Value) (a : Nat), (setAll c a vs).size = c.size := by
  induction vs with
  | nil => intros; rfl
  | cons v r ih => intro c a; simp only [setAll]; rw [ih]; simp
theorem setAll_app (xs ys : List Value) : ∀ (c : Array Value) (a : Nat), setAll c a (xs ++ ys) = setAll (setAll c a xs) (a + xs.length) ys := by
  induction xs with
  | nil => intros; rfl
  | cons v r ih => intro c a; simp only [List.cons_append, setAll]; rw [ih]; simp only [List.length_cons]; rw [Nat.add_right_comm, Nat.add_assoc]
def enumA : Nat → List (List Value) → List (Nat × Value)
  | _, [] => []
  | i, v :: r => (i, .agg v.toArray) :: enumA (i + 1) r
theorem fill_enumA (sz : Nat) (vss : List (List Value)) (h1 : ∀ v ∈ vss, v.length = sz) : ∀ (j : Nat) (cells : Array Value), (j + vss.length) * sz ≤ cells.size → Instr.fill (fun i => some (i * sz, sz)) cells (enumA j vss) = some (setAll cells (j * sz) vss.flatten) := by
  induction vss with
  | nil => intros; rfl
  | cons v r ih =>
    intro j cells h
    have hv := h1 v (by simp)
    have hle : j * sz + sz ≤ cells.size := by
      have : (j + 1) * sz ≤ (j + (v :: r).length) * sz := Nat.mul_le_mul_right _ (by simp)
      rw [Nat.succ_mul] at this; omega
    simp only [enumA, Instr.fill]
    rw [if_neg (by simp [Value.cells]; omega), fill_step, ih (fun v hv => h1 v (by simp [hv])) (j + 1) _ (by rw [setAll_size]; simp only [List.length_cons] at h; rwa [show j + 1 + r.length = j + (r.length + 1) by omega])]
    rw [List.flatten_cons, setAll_app, hv, Nat.succ_mul]; rfl
theorem fLit_sz {t : TypeId} {n : Nat} {parts : Array (Nat × Value)} {K : Value → World → Prop} (sz : Nat) (vss : List (List Value)) (h : Fr w0 w F) (hp : parts.toList = enumA 0 vss) (hn : vss.length = n) (h1 : ∀ v ∈ vss, v.length = sz)
    (hk : ∀ ad w', Fr w0 w' (sIt ad vss.flatten :: F) → K (.slice (some ad) n n) w') (hm : n * sz ≤ 1000000 := by decide) (ht : slSz P t sz = true := by kernel_rfl) (hz : (P.info? (elOf P t)).bind (·.zero) ≠ none := by decide) : gLit P t n parts w K := by
  obtain ⟨hu, i, hi, hsz⟩ := slSz_ok ht
  have hz' : ∃ z, i.zero = some z := by
    rw [hi] at hz; simp only [Option.bind_some] at hz
    cases hh : i.zero with
    | none => exact absurd hh hz
    | some z => exact ⟨z, rfl⟩
  obtain ⟨z, hz⟩ := hz'
  have hfl : vss.flatten.length = n * sz := by
    subst hn; clear hp hk hm
    induction vss with
    | nil => simp
    | cons v r ih => simp only [List.flatten_cons, List.length_append, h1 v (by simp), ih (fun v hv => h1 v (by simp [hv])), List.length_cons, Nat.succ_mul]; omega
  obtain ⟨c0, hc0, hrun⟩ : ∃ c0 : Array Value, c0.size = n * sz ∧ (Instr.buildSlice t n parts).run P w = .ok (.slice (some ⟨w.heap.size, 0, none⟩) n n) (w.alloc (.cells (setAll c0 0 vss.flatten) (elOf P t))) := by
    simp only [Instr.buildSlice, Sem.run_bind, run_underlying hu, Result.andThen_ok, sizeOf, typeInfo, run_program, hi, Sem.run_pure, hsz]
    rw [if_neg (by omega)]
    by_cases h0 : n * sz = 0
    · refine ⟨#[], by simp [h0], ?_⟩
      have he : ∀ f : Nat → Value, Array.map f (Array.range 0) = #[] := fun f => Array.eq_empty_of_size_eq_zero (by simp)
      rw [hp, h0]
      simp only [if_true, Sem.run_bind, Sem.run_pure, Result.andThen_ok, he]
      rw [fill_enumA sz vss h1 0 #[] (by rw [Nat.zero_add, hn, h0]; exact Nat.zero_le _)]
      simp [newRow]
    · refine ⟨(Array.range (n * sz)).map (z.cells[· % z.cells.size]!), by simp, ?_⟩
      rw [if_neg h0]
      simp only [Sem.run_bind, zeroValue, typeInfo, run_program, Result.andThen_ok, hi, hz, Sem.run_pure]
      rw [hp, fill_enumA sz vss h1 0 _ (by simp [hn])]
      simp [newRow]
  have hl := setAll_list vss.flatten 0 c0 (by omega)
  simp only [List.take_zero, List.nil_append] at hl
  refine ⟨_, _, hrun, hk _ _ (h.new (jt := sIt ⟨w.heap.size, 0, none⟩ vss.flatten) (Ev.alloc w _) ?_ fun k hk => by have hk : k = w.heap.size := hk; omega)⟩
  have := St.alloc w (setAll c0 0 vss.flatten) (elOf P t)
  rwa [hl] at this
/-- The place of an element, as an address. -/
theorem gIdx_lit {t : TypeId} {ki : IntKind} {sz n c : Nat} {ad : Addr} {i : Int} {K : Addr → Prop} (j : Nat) (hij : i = (j : Int)) (h1 : j < n) (hk : K (ad.add (j * sz))) (ht : slSz P t sz = true := by kernel_rfl) : gIdx P t (.slice (some ad) n c) (.int ki i) K := by
  obtain ⟨hu, ii, hi, hsz⟩ := slSz_ok ht
  subst hij
  refine ⟨ad.add (j * sz), fun w => ?_, hk⟩
  simp only [Instr.indexAt, asIntOf, Sem.run_bind, Sem.run_pure, Result.andThen_ok, run_underlying hu]
  rw [if_pos ⟨by omega, by omega⟩]
  simp [sizeOf, typeInfo, hi, hsz]
def arSz (P : Program) (t : TypeId) (n sz : Nat) : Bool := match P.underlying t with
  | some (.array m e) => Nat.beq m n && (match P.info? e with | some i => Nat.beq i.size sz | none => false)
  | _ => false
theorem gIdx_ar {t : TypeId} {ki : IntKind} {sz : Nat} {ad : Addr} {i : Int} {K : Addr → Prop} (n j : Nat) (hij : i = (j : Int)) (h1 : j < n) (hk : K (ad.add (j * sz))) (ht : arSz P t n sz = true := by kernel_rfl) : gIdx P t (.pointer (some ad)) (.int ki i) K := by
  unfold arSz at ht
  split at ht
  · rename_i m e hu
    simp only [Bool.and_eq_true] at ht
    have hm := Nat.eq_of_beq_eq_true ht.1
    subst hm; subst hij
    replace ht := ht.2
    split at ht
    · rename_i ii hi
      refine ⟨ad.add (j * sz), fun w => ?_, hk⟩
      simp only [Instr.indexAt, asIntOf, Sem.run_bind, Sem.run_pure, Result.andThen_ok, run_underlying hu, Instr.sureAddr]
      rw [if_pos ⟨by omega, by omega⟩]
      simp [sizeOf, typeInfo, hi, Nat.eq_of_beq_eq_true ht]
    · cases ht
  · cases ht
theorem gIdx_ar1 {t : TypeId} {ki : IntKind} {ad : Addr} {i : Int} {K : Addr → Prop} (n j : Nat) (hij : i = (j : Int)) (h1 : j < n) (hk : K (ad.add j)) (ht : arSz P t n 1 = true := by kernel_rfl) : gIdx P t (.pointer (some ad)) (.int ki i) K :=
  gIdx_ar (sz := 1) n j hij h1 (by rwa [Nat.mul_one]) ht
/-! ### []byte of a constant text -/
/-- Its row is marked as one that stands for a text: it has no room. -/
def Cn (e : TypeId) (w : World) (v : Value) (xs : List Int) : Prop := ∃ g, v = .slice (some ⟨g, 0, none⟩) xs.length xs.length ∧ w.heap[g]? = some (.cells (xs.map (Value.int .u8)).toArray e (xs.length, xs.length + 1)) ∧ inR .u8 xs
theorem Cn.ch {e : TypeId} {S : SS} {w' : World} {v : Value} {xs : List Int} (h : Cn e w v xs) (hc : Ch S w w') (hs : ∀ k i, v.ownBlock = some k → ¬ S k i) : Cn e w' v xs := by
  obtain ⟨g, rfl, h1, h2⟩ := h
  exact ⟨g, rfl, by rw [hc.blk g (hlt h1) fun i => hs g i rfl]; exact h1, h2⟩
theorem Cn.lt {e : TypeId} {v : Value} {xs : List Int} (h : Cn e w v xs) {k : Nat} (hk : v.ownBlock = some k) : k < w.heap.size := by
  obtain ⟨g, rfl, h1, h2⟩ := h
  have : g = k := by simpa [Value.ownBlock] using hk
  subst this; exact hlt h1
theorem Cn.nm {e : TypeId} {v : Value} {xs : List Int} (h : Cn e w v xs) : Nm .u8 w v xs := by
  obtain ⟨g, rfl, h1, h2⟩ := h
  refine ⟨⟨some ⟨g, 0, none⟩, xs.length, rfl, Nat.le_refl _, by simp, fun ad ha j u hj => ?_, fun h => by cases h⟩, h2⟩
  injection ha with ha; subst ha
  rw [Addr.add_lit]
  simp [World.cell?, h1, hj]
def cIt (e : TypeId) (v : Value) (xs : List Int) : It := ⟨fun b => v.ownBlock = some b, fun w => Cn e w v xs, fun _ _ h hk => by
    obtain ⟨g, rfl, h1, _⟩ := h
    simp [Value.ownBlock] at hk; subst hk; exact ⟨_, _, _, h1⟩, fun _ _ _ h hc hs => h.ch hc hs, fun _ _ h _ hc => by
    obtain ⟨g, rfl, h1, h2⟩ := h; exact ⟨g, rfl, by rw [hc _ _ _ _ h1]; exact h1, h2⟩⟩
def slU8 (P : Program) (t : TypeId) : Bool := match P.underlying t with
  | some (.slice e) => (match P.underlying e with | some (.int .u8) => true | _ => false) && (match P.info? e with | some i => Nat.beq i.size 1 && i.zero.isSome | none => false)
  | _ => false
theorem slU8_ok {t : TypeId} (h : slU8 P t = true) : P.underlying t = some (.slice (elOf P t)) ∧ P.underlying (elOf P t) = some (.int .u8) ∧ ∃ i z, P.info? (elOf P t) = some i ∧ i.size = 1 ∧ i.zero = some z := by
  unfold slU8 at h
  split at h
  · rename_i e he
    have hel : elOf P t = e := by unfold elOf; rw [he]
    rw [hel]
    simp only [Bool.and_eq_true] at h
    obtain ⟨h1, h2⟩ := h
    split at h1
    · rename_i hu
      split at h2
      · rename_i i hi
        simp only [Bool.and_eq_true] at h2
        obtain ⟨z, hz⟩ := Option.isSome_iff_exists.1 h2.2
        exact ⟨he, hu, i, z, hi, Nat.eq_of_beq_eq_true h2.1, hz⟩
      · cases h2
    · cases h1
  · cases h
theorem fLitC {t : TypeId} {n : Nat} {parts : Array (Nat × Value)} {K : Value → World → Prop} (xs : List Int) (h : Fr w0 w F) (hp : parts.toList = enumV 0 (xs.map (.int .u8))) (hn : xs.length = n) (hr : inR .u8 xs)
    (hk : ∀ v w', Fr w0 w' (cIt (elOf P t) v xs :: F) → K v w') (hm : n ≤ 1000000 := by decide) (ht : slU8 P t = true := by kernel_rfl) : gLit P t n parts w fun v w1 => gConv P t t shV v w1 K := by
  obtain ⟨hu, hue, i, z, hi, hsz, hz⟩ := slU8_ok ht
  obtain ⟨c0, hc0, hrun⟩ : ∃ c0 : Array Value, c0.size = n ∧ (Instr.buildSlice t n parts).run P w = .ok (.slice (some ⟨w.heap.size, 0, none⟩) n n) (w.alloc (.cells (setAll c0 0 (xs.map (.int .u8))) (elOf P t))) := by
    simp only [Instr.buildSlice, Sem.run_bind, run_underlying hu, Result.andThen_ok, sizeOf, typeInfo, run_program, hi, Sem.run_pure, hsz, Nat.mul_one]
    rw [if_neg (by omega)]
    by_cases h0 : n = 0
    · subst h0
      have : xs = [] := List.eq_nil_of_length_eq_zero hn
      subst this
      refine ⟨#[], rfl, ?_⟩
      have he : ∀ f : Nat → Value, Array.map f (Array.range 0) = #[] := fun f => Array.eq_empty_of_size_eq_zero (by simp)
      rw [hp]
      simp [enumV, Instr.fill, newRow, setAll, he]
    · refine ⟨(Array.range n).map (z.cells[· % z.cells.size]!), by simp, ?_⟩
      rw [if_neg h0]
      simp only [Sem.run_bind, zeroValue, typeInfo, run_program, Result.andThen_ok, hi, hz, Sem.run_pure]
      rw [hp, show (fun i => some (i, 1)) = (fun i => some (i * 1, 1)) by funext i; rw [Nat.mul_one], fill_enum _ (fun v hv => by obtain ⟨x, _, rfl⟩ := List.mem_map.1 hv; rfl) 0 _ (by simp; omega)]
      simp [newRow]
  have hl := setAll_list (xs.map (.int .u8)) 0 c0 (by simp; omega)
  simp only [List.take_zero, List.nil_append] at hl
  have hc : setAll c0 0 (xs.map (.int .u8)) = (xs.map (Value.int .u8)).toArray := by have := congrArg List.toArray hl; simpa using this
  rw [hc] at hrun
  have hconv := Go.Lib.run_convert_bytes_const (P := P) w t (elOf P t) (xs.map (Value.int .u8)).toArray n n hu hue
  have hs : (xs.map (Value.int .u8)).toArray.size = xs.length := by simp
  rw [hs] at hconv
  refine ⟨_, _, hrun, _, _, hconv, hk _ _ (h.new (Ev.alloc w _) ⟨w.heap.size, by rw [hn], heap_alloc_new w _, hr⟩ fun k hk => ?_)⟩
  have : w.heap.size = k := by simpa [cIt, Value.ownBlock] using hk
  omega
/-- What is put behind it goes into new memory. -/
theorem fAppC {t ty : TypeId} {v y : Value} {xs ys : List Int} {K : Value → World → Prop} (h : Fr w0 w F) (i : Nat) (hi : F[i]? = some (cIt (elOf P t) v xs)) (hy : Nm .u8 w y ys) (h0 : ys ≠ []) (hb : (xs.length + ys.length) * 8 ≤ 140737488355328)
    (hk : ∀ v' w', Fr w0 w' (oIt .u8 (elOf P t) v' (xs ++ ys) :: F) → K v' w') (ht : slInt P t .u8 = true := by kernel_rfl) : gApp P #[t, t] ty #[v, y] w K := by
  obtain ⟨hu, ii, hii, hsz, hby, hby1, hz⟩ := slInt_ok ht
  have hC : Cn (elOf P t) w v xs := h.get i hi
  have hN := hC.nm
  obtain ⟨g, rfl, hg, hr⟩ := hC
  obtain ⟨⟨a, c, rfl, hyc, hl, hcells, hnil⟩, hry⟩ := hy
  have hlen : ys.length ≠ 0 := fun e => h0 (List.eq_nil_of_length_eq_zero e)
  cases a with
  | none => exact absurd (hnil rfl) hlen
  | some ad =>
    have holds : ∀ j u, (xs.map (Value.int .u8))[j]? = some u → w.cell? ((⟨g, 0, none⟩ : Addr).add j) = some u := by
      obtain ⟨⟨a, c, hv, _, _, h3, _⟩, _⟩ := hN
      injection hv with hv _ _; subst hv
      exact h3 _ rfl
    have hbb : (xs.length + ys.length) * ii.bytes ≤ 140737488355328 := Nat.le_trans (Nat.mul_le_mul_left _ hby) hb
    have hrun := run_append_grow (P := P) w t ty (elOf P t) ii (.int .u8 0) hu hii hz ⟨g, 0, none⟩ xs.length xs.length (xs.map (.int .u8)) (by simp [hsz]) holds ad ys.length c (ys.map (.int .u8)) (by simp [hsz]) (hcells ad rfl) (by omega) (by omega) (growslice_fits (by omega) hbb)
    have hge := grownCap_ge w (xs.length + ys.length) xs.length (elOf P t)
    have hcm : grownCap w (xs.length + ys.length) xs.length (elOf P t) ≤ maxLen := grownCap_le_maxLen w _ _ _ (by unfold maxLen; omega)
    refine ⟨_, _, hrun, hk _ _ (h.new (Ev.trans (Ev.drew0 w) (Ev.alloc w.drew _)) ⟨⟨by simp, .inr ⟨w.heap.size, _, _, by simp, Nat.zero_le _, heap_alloc_new w.drew _, by simpa using hge, hcm, ?_, ?_⟩⟩, hr.append hry⟩ fun k hk => ?_)⟩
    · simp [Builtin.zeroCells, Value.cells]; omega
    · simp only [Array.toList_append, List.append_assoc, List.length_append, Nat.mul_one, List.map_append]
      rw [← List.append_assoc, List.take_left' (by simp)]
    · have : w.heap.size = k := by simpa [oIt, Value.ownBlock] using hk
      omega
/-- One of its places is written. -/
theorem fSetC {t te : TypeId} {ki : IntKind} {v : Value} {xs : List Int} {i x : Int} {K : World → Prop} (h : Fr w0 w F) (q : Nat) (hq : F[q]? = some (cIt (elOf P t) v xs)) (j : Nat) (hij : i = (j : Int)) (hj : j < xs.length) (hx : IntKind.u8.min ≤ x ∧ x ≤ IntKind.u8.max)
    (hk : ∀ w', Fr w0 w' (F.set q (cIt (elOf P t) v (xs.set j x))) → K w') (ht : slSz P t 1 = true := by kernel_rfl) (hte : flat1 P te = true := by kernel_rfl) : gIdx P t v (.int ki i) fun ad => gStore P te (.pointer (some ad)) (.int .u8 x) w K := by
  have hC : Cn (elOf P t) w v xs := h.get q hq
  obtain ⟨g, rfl, hg, hr⟩ := hC
  refine gIdx_lit (sz := 1) j hij hj ?_ ht
  rw [Nat.mul_one, Addr.add_lit, Nat.zero_add]
  have hc : w.cell? ⟨g, j, none⟩ = some (.int .u8 xs[j]) := by simp [World.cell?, hg, hj]
  have hf : w.frozen? ⟨g, j, none⟩ = false := by simp [World.frozen?, hg]; omega
  refine ⟨w.setCell ⟨g, j, none⟩ (.int .u8 x), run_storeAt hc hf rfl rfl hte, hk _ (h.upd q hq (setCell_ch w ⟨g, j, none⟩ (.int .u8 x)) (fun k i hh => .inl (by show some g = some k; rw [hh.1])) ⟨g, by simp, ?_, fun y hy => ?_⟩ fun k hk => .inl hk)⟩
  · simp only [World.setCell, Array.getElem?_modify, if_true, hg, Option.map_some, List.length_set]
    simp
  · rcases List.mem_or_eq_of_mem_set hy with hy | rfl
    · exact hr y hy
    · exact hx
/-! ### Texts put behind bytes -/
/-- A text's bytes. -/
def sOf (s : ByteArray) : List Int := s.data.toList.map fun b => (b.toNat : Int)
theorem sOf_len (s : ByteArray) : (sOf s).length = s.size := by unfold sOf; rw [List.length_map, Array.length_toList]; rfl
theorem sOf_u8 (s : ByteArray) : inR .u8 (sOf s) := fun x hx => by
  obtain ⟨b, _, rfl⟩ := List.mem_map.1 hx
  have := b.toNat_lt
  simp [IntKind.min, IntKind.max, IntKind.signed, IntKind.bits]; omega
theorem sOf_cells (s : ByteArray) : Go.Lib.strCells s = (sOf s).map (Value.int .u8) := by unfold Go.Lib.strCells sOf; rw [List.map_map]; rfl
theorem sOf_bsOf {xs : List Int} (h : inR .u8 xs) : sOf (bsOf xs) = xs := by
  unfold sOf bsOf
  simp only [List.map_map]
  conv => rhs; rw [← List.map_id xs]
  refine List.map_congr_left fun x hx => ?_
  have := h.u8 hx
  simp only [Function.comp_apply, id_eq, UInt8.toNat_ofNat']
  omega
theorem bsOf_sOf (s : ByteArray) : bsOf (sOf s) = s := by
  obtain ⟨⟨l⟩⟩ := s
  unfold sOf bsOf
  simp [Function.comp_def]
def strB (P : Program) (t : TypeId) : Bool := match P.underlying t with
  | some .string => true
  | _ => false
theorem strB_ok {t : TypeId} (h : strB P t = true) : P.underlying t = some .string := by
  unfold strB at h; split at h
  · rename_i hh; exact hh
  · cases h
theorem gIndex_s {t : TypeId} {k : IntKind} {s : ByteArray} {j : Nat} {i : Int} {K : Int → Prop} (hij : i = (j : Int)) (hj : j < s.size) (hk : K (rd (sOf s) i)) (ht : strB P t = true := by kernel_rfl) : gIndex P t (shI .u8) (.string s) (.int k i) K := by
  subst hij
  have hu := strB_ok ht
  refine ⟨rd (sOf s) (j : Int), fun w => ?_, hk⟩
  have hg : s[j]? = some s[j] := by simp [hj]
  simp only [Instr.index, asIntOf, Sem.run_bind, Sem.run_pure, Result.andThen_ok, run_underlying hu]
  rw [if_pos (by omega), Int.toNat_natCast, hg]
  show Result.ok (Value.int .u8 (s[j].toNat : Int)) w = .ok (Value.int .u8 (rd (sOf s) (j : Int))) w
  have : rd (sOf s) (j : Int) = (s[j].toNat : Int) := by
    rw [rd_nat _ _ (by rw [sOf_len]; exact hj)]
    simp [sOf]; rfl
  rw [this]
theorem gApp_s {t u ty : TypeId} {B : Nat} {v : Value} {xs : List Int} {s : ByteArray} {K : Value → World → Prop} (h : ON .u8 (elOf P t) w B v xs) (hb : (xs.length + s.size) * 8 ≤ 140737488355328) (hB : B ≤ w.heap.size)
    (hk : ∀ v' w', ON .u8 (elOf P t) w' B v' (xs ++ sOf s) → Ch (Ob v) w w' → Moved w v v' → K v' w') (ht : slInt P t .u8 = true := by kernel_rfl) (hus : strB P u = true := by kernel_rfl) : gApp P #[t, u] ty #[v, .string s] w K := by
  obtain ⟨hu, i, hi, hsz, hby, hby1, hz⟩ := slInt_ok ht
  have hus := strB_ok hus
  have hbb : (xs.length + s.size) * i.bytes ≤ 140737488355328 := Nat.le_trans (Nat.mul_le_mul_left _ hby) hb
  have hc8 := sOf_cells s
  have hR := h.2.append (sOf_u8 s)
  have evd : ∀ c e, Ev w (w.drew.alloc (.cells c e)) := fun c e => Ev.trans (Ev.drew0 w) (Ev.alloc w.drew _)
  have grown : ∀ (old : Nat), old < xs.length + s.size → ON .u8 (elOf P t) (w.drew.alloc (.cells ((xs.map (Value.int .u8)).toArray ++ (Go.Lib.strCells s).toArray ++ Builtin.zeroCells (Value.int .u8 0).cells (grownCap w (xs.length + s.size) old (elOf P t) - (xs.length + s.size))) (elOf P t))) B
      (.slice (some ⟨w.heap.size, 0, none⟩) (xs.length + s.size) (grownCap w (xs.length + s.size) old (elOf P t))) (xs ++ sOf s) := fun old ho => by
    have hge := grownCap_ge w (xs.length + s.size) old (elOf P t)
    have hcm : grownCap w (xs.length + s.size) old (elOf P t) ≤ maxLen := grownCap_le_maxLen w _ _ _ (by unfold maxLen; omega)
    have hsl := sOf_len s
    refine ⟨⟨by simp, .inr ⟨w.heap.size, _, _, by simp [hsl], hB, heap_alloc_new w.drew _, by simpa [hsl] using hge, hcm, ?_, ?_⟩⟩, hR⟩
    · simp [Builtin.zeroCells, Value.cells, Go.Lib.strCells_length]; omega
    · simp only [Array.toList_append, List.append_assoc, List.length_append, Nat.mul_one, List.map_append, hc8]
      rw [← List.append_assoc, List.take_left' (by simp)]
  rcases h.1.2 with ⟨rfl, hn0⟩ | ⟨g, cap, cur, rfl, hbg, hgg, hn, hm', hcs, htk⟩
  · have hx : xs = [] := List.eq_nil_of_length_eq_zero hn0
    subst hx
    by_cases h0 : 0 < s.size
    · have hr2 := run_append_nil_string (P := P) w t u ty _ i _ hu hus hi hz s h0 (by omega) (Nat.le_trans (Nat.mul_le_mul_right _ (Nat.le_add_left _ _)) (Nat.le_trans hbb (by decide)))
      have hg2 := grown 0 (by omega)
      simp only [List.length_nil, Nat.zero_add, List.map_nil, Array.empty_append] at hg2
      have e1 : (Go.Lib.strCells s).toArray = s.data.map (fun b => Value.int .u8 b.toNat) := by apply Array.ext'; simp [Go.Lib.strCells]
      rw [e1] at hg2
      simp only [List.nil_append] at hg2 hk
      refine ⟨_, _, hr2, hk _ _ (by simpa using hg2) ((evd _ _).mono fun _ _ _ hh => hh.elim) (.inr fun g' hg' => ?_)⟩
      have : w.heap.size = g' := by simpa [Value.ownBlock] using hg'
      omega
    · have hs0 : s.size = 0 := by omega
      have hso : sOf s = [] := List.eq_nil_of_length_eq_zero (by rw [sOf_len, hs0])
      refine ⟨.slice none 0 0, w, ?_, hk _ _ (by rw [hso]; exact h) (Ch.refl _ w) (.inl rfl)⟩
      simp [Builtin.append_, run_underlying hu, run_underlying hus, sizeOf, typeInfo, hi, Builtin.lenOf, Builtin.firstCells, hs0]
  · by_cases hroom : xs.length + s.size ≤ cap
    · have hr2 := Go.Lib.run_append_room_string (P := P) w t u ty _ i hu hus hi hsz g xs.length cap cur hgg s hroom (by omega)
      refine ⟨_, _, hr2, hk _ _ ⟨⟨by simp, .inr ⟨g, cap, _, by simp [sOf_len], hbg, setRow_heap w g cur _ _ _ hgg, by simpa [sOf_len] using hroom, hm', ?_, ?_⟩⟩, hR⟩ ?_ (.inl rfl)⟩
      · simp [Go.Lib.strCells_length]; omega
      · simp only [List.length_append, Nat.mul_one, List.map_append, ← hc8]
        rw [List.take_left' (by simp [Go.Lib.strCells_length, sOf_len]; omega)]
        rw [Nat.mul_one] at htk; rw [htk]
      · refine ⟨rfl, rfl, rfl, by simp, fun k hk hn => setRow_other w g k _ fun e => hn 0 (by rw [e]; rfl), fun k c' e' f hkk => ?_, fun k o hk ho => by rw [setRow_other w g k _ (ne_cells hgg hk ho)]; exact hk⟩
        by_cases hkg : k = g
        · subst hkg
          rw [hgg] at hkk
          injection hkk with hkk; injection hkk with h1 h2 h3
          subst h1; subst h2; subst h3
          exact ⟨_, setRow_heap w k cur _ _ _ hgg, by simp [Go.Lib.strCells_length]; omega, fun i hi => absurd rfl hi⟩
        · exact ⟨c', by rw [setRow_other w g k _ hkg]; exact hkk, rfl, fun _ _ => rfl⟩
    · have holds : ∀ j u, (xs.map (Value.int .u8))[j]? = some u → w.cell? ((⟨g, 0, none⟩ : Addr).add j) = some u := h.1.cells (g := g) rfl
      have hr2 := Go.Lib.run_append_grow_string (P := P) w t u ty _ i _ hu hus hi hz ⟨g, 0, none⟩ xs.length cap (xs.map (.int .u8)) (by simp [hsz]) holds s (by omega) (by omega) (growslice_fits (by omega) hbb)
      refine ⟨_, _, hr2, hk _ _ (grown cap (by omega)) ((evd _ _).mono fun _ _ _ hh => hh.elim) (.inr fun g' hg' => ?_)⟩
      have : w.heap.size = g' := by simpa [Value.ownBlock] using hg'
      omega
theorem fAppS {t u ty : TypeId} {v : Value} {xs : List Int} {s : ByteArray} {K : Value → World → Prop} (h : Fr w0 w F) (i : Nat) (hi : F[i]? = some (oIt .u8 (elOf P t) v xs)) (hb : (xs.length + s.size) * 8 ≤ 140737488355328)
    (hk : ∀ v' w', Fr w0 w' (F.set i (oIt .u8 (elOf P t) v' (xs ++ sOf s))) → K v' w') (ht : slInt P t .u8 = true := by kernel_rfl) (hus : strB P u = true := by kernel_rfl) : gApp P #[t, u] ty #[v, .string s] w K :=
  gApp_s (h.get i hi) hb (Nat.zero_le _) (fun v' w' ho hc hm => hk v' w' (h.upd i hi hc (fun k _ hh => .inl hh) ho fun k hk => by
    rcases hm with hm | hm
    · exact .inl (by have hk : v'.ownBlock = some k := hk; rw [hm] at hk; exact hk)
    · exact .inr (hm k hk))) ht hus
end
end Go.Proofs.YtcjopcplhabgkaaV
