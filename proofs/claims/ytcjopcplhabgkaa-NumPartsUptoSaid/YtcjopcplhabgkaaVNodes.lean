/- One lemma a node: how each piece of a shallow form is shown. -/
import Derived.Test.YtcjopcplhabgkaaVMem
namespace Go.Proofs.YtcjopcplhabgkaaV
open Go Go.RowKit

/-! ### Facts on types, closed by the kernel -/
def slOf (P : Program) (t e : TypeId) : Bool := match P.underlying t with
  | some (.slice e') => Nat.beq e' e
  | _ => false
def flat (P : Program) (t : TypeId) : Bool := match P.underlying t with
  | some (.struct _) | some (.array _ _) => false
  | some _ => true
  | none => false
def flat1 (P : Program) (t : TypeId) : Bool := match P.info? t with
  | some i => Nat.beq i.size 1
  | none => false
/-- A slice of numbers: its element's kind. -/
def slInt (P : Program) (t : TypeId) (k : IntKind) : Bool := match P.underlying t with
  | some (.slice e) => match P.info? e with
    | some i => Nat.beq i.size 1 && Nat.ble i.bytes 8 && Nat.ble 1 i.bytes && (match i.zero with | some (.int k' n) => ikEq k k' && decide (n = 0) | _ => false)
    | none => false
  | _ => false
def elOf (P : Program) (t : TypeId) : TypeId := match P.underlying t with
  | some (.slice e) => e
  | _ => 0
theorem slInt_ok {P : Program} {t : TypeId} {k : IntKind} (h : slInt P t k = true) : P.underlying t = some (.slice (elOf P t)) ∧ ∃ i, P.info? (elOf P t) = some i ∧ i.size = 1 ∧ i.bytes ≤ 8 ∧ 1 ≤ i.bytes ∧ i.zero = some (.int k 0) := by
  unfold slInt at h
  split at h
  · rename_i e he
    have hel : elOf P t = e := by unfold elOf; rw [he]
    rw [hel]
    split at h
    · rename_i i hi
      simp only [Bool.and_eq_true] at h
      obtain ⟨⟨⟨h1, h2⟩, h3⟩, h4⟩ := h
      refine ⟨he, i, hi, Nat.eq_of_beq_eq_true h1, Nat.le_of_ble_eq_true h2, Nat.le_of_ble_eq_true h3, ?_⟩
      split at h4
      · rename_i k' n hz
        simp only [Bool.and_eq_true, decide_eq_true_eq] at h4
        rw [hz, ikEq_eq h4.1, h4.2]
      · cases h4
    · cases h
  · cases h
section
variable {P : Program} {w : World}

/-! ### Tests -/
theorem gIf_of {b : Bool} {A B : Prop} (ha : b = true → A) (hb : b = false → B) : gIf b A B := by cases b; exact hb rfl; exact ha rfl
theorem gIf_dec {p : Prop} [Decidable p] {A B : Prop} (ha : p → A) (hb : ¬ p → B) : gIf (decide p) A B := gIf_of (fun h => ha (of_decide_eq_true h)) (fun h => hb (of_decide_eq_false h))
theorem gIf_ndec {p : Prop} [Decidable p] {A B : Prop} (ha : ¬ p → A) (hb : p → B) : gIf (!decide p) A B := gIf_of (fun h => ha (by simpa using h)) (fun h => hb (by simpa using h))
theorem gIf_eq {a b : Int} {A B : Prop} (ha : a = b → A) (hb : a ≠ b → B) : gIf (a == b) A B := gIf_of (fun h => ha (by simpa using h)) (fun h => hb (by simpa using h))
theorem gIf_neq {a b : Int} {A B : Prop} (ha : a ≠ b → A) (hb : a = b → B) : gIf (a != b) A B := gIf_of (fun h => ha (by simpa using h)) (fun h => hb (by simpa using h))
theorem gIf_nneq {a b : Int} {A B : Prop} (ha : a = b → A) (hb : a ≠ b → B) : gIf (!(a != b)) A B := gIf_of (fun h => ha (by simpa using h)) (fun h => hb (by simpa using h))
theorem gIf_neqq {a b : Int} {A B : Prop} (ha : a ≠ b → A) (hb : a = b → B) : gIf (!(a == b)) A B := gIf_of (fun h => ha (by simpa using h)) (fun h => hb (by simpa using h))
theorem gIf_t {A B : Prop} (h : A) : gIf true A B := h
theorem gIf_f {A B : Prop} (h : B) : gIf false A B := h
theorem gIf_nn {A B : Prop} (h : A) : gIf (!(!true)) A B := h
theorem gIf_nnf {A B : Prop} (h : B) : gIf (!(!false)) A B := h
theorem gIf_nt {A B : Prop} (h : B) : gIf (!true) A B := h
theorem gIf_nf {A B : Prop} (h : A) : gIf (!false) A B := h
theorem gIf_not {b : Bool} {A B : Prop} (h : gIf b B A) : gIf (!b) A B := by cases b <;> exact h

/-! ### Calls -/
theorem gCall_of {f : FuncId} {sh : Sh} {args : Array Value} {K : TF sh.cks (World → Prop)} {R : Ending → World → Prop} (h : Calls P f args w R) (hk : ∀ e w', R e w' → retOk sh K e w') : gCall P f sh args w K := h.mono hk
theorem gCallV_of {f : FuncId} {fv : Value} {first cap : Array Value} {sh : Sh} {args : Array Value} {K : TF sh.cks (World → Prop)} {R : Ending → World → Prop} (hv : fv = .func (.func f) first cap) (hok : callOk P f = true) (h : Calls P f (first ++ args ++ cap) w R) (hk : ∀ e w', R e w' → retOk sh K e w') :
    gCallV P fv sh args w K := ⟨f, first, cap, hv, hok, h.mono hk⟩

/-! ### Slices that are read -/
theorem gLen_sl {t : TypeId} {a : Option Addr} {n c : Nat} {K : Nat → Prop} (hk : K n) (ht : slOf P t (elOf P t) = true := by kernel_rfl) : gLen P t (.slice a n c) K := by
  have hu : P.underlying t = some (.slice (elOf P t)) := by unfold slOf at ht; split at ht; rename_i e he; rw [he, Nat.eq_of_beq_eq_true ht]; cases ht
  exact ⟨n, fun w => by simp [Builtin.len_, run_underlying hu, goInt], hk⟩
theorem gLen_nm {t : TypeId} {k : IntKind} {v : Value} {xs : List Int} {K : Nat → Prop} (h : Nm k w v xs) (hk : K xs.length) (ht : slOf P t (elOf P t) = true := by kernel_rfl) : gLen P t v K := by
  obtain ⟨a, c, rfl, _⟩ := h.shape; exact gLen_sl hk ht
theorem gCap_sl {t : TypeId} {a : Option Addr} {n c : Nat} {K : Nat → Prop} (hk : K c) (ht : slOf P t (elOf P t) = true := by kernel_rfl) : gCap P t (.slice a n c) K := by
  have hu : P.underlying t = some (.slice (elOf P t)) := by unfold slOf at ht; split at ht; rename_i e he; rw [he, Nat.eq_of_beq_eq_true ht]; cases ht
  exact ⟨c, fun w => by simp [Builtin.cap_, run_underlying hu, goInt], hk⟩
/-- An element's place, and what stands there. -/
theorem gIdx_nm {t : TypeId} {k ki : IntKind} {v : Value} {xs : List Int} {i : Int} {K : Addr → Prop} (h : Nm k w v xs) (h0 : 0 ≤ i) (h1 : i < xs.length)
    (hk : ∀ ad, w.cell? ad = some (.int k (rd xs i)) → v.ownBlock = some ad.block → K ad) (ht : slInt P t k = true := by kernel_rfl) : gIdx P t v (.int ki i) K := by
  obtain ⟨hu, ii, hi, hsz, _⟩ := slInt_ok ht
  obtain ⟨a, c, rfl, _, _, h3, h4⟩ := h.1
  cases a with
  | none => have := h4 rfl; omega
  | some ad =>
    refine ⟨ad.add i.toNat, fun w => ?_, hk _ ?_ ?_⟩
    · simp only [Instr.indexAt, asIntOf, Sem.run_bind, Sem.run_pure, Result.andThen_ok, run_underlying hu]
      rw [if_pos ⟨h0, h1⟩]
      simp [sizeOf, typeInfo, hi, hsz]
    · exact h3 ad rfl i.toNat _ (by rw [List.getElem?_map, rd_get h0 h1]; rfl)
    · show some ad.block = some (ad.add i.toNat).block
      unfold Addr.add; split <;> rfl
theorem run_loadAt {t : TypeId} {ad : Addr} {u : Value} (hc : w.cell? ad = some u) (ht : flat P t = true) : (Instr.loadAt t (.pointer (some ad))).run P w = .ok u w := by
  have hu : ∃ d, P.underlying t = some d ∧ (match d with | .struct _ | .array _ _ => false | _ => true) = true := by
    unfold flat at ht
    split at ht <;> first | cases ht | skip
    rename_i d h1 h2 h3
    refine ⟨d, h3, ?_⟩
    cases d <;> first | rfl | simp_all
  obtain ⟨d, hu, hd⟩ := hu
  have : (isAgg t).run P w = .ok false w := by
    simp only [isAgg, Sem.run_bind, run_underlying hu, Result.andThen_ok]
    cases d <;> first | rfl | simp_all
  simp only [Instr.loadAt, Instr.sureAddr, loadVar, Sem.run_bind, Sem.run_pure, Result.andThen_ok, this]
  simp [hc]
theorem gLoad_i {t : TypeId} {k : IntKind} {n : Int} {ad : Addr} {K : Int → Prop} (hc : w.cell? ad = some (.int k n)) (hk : K n) (ht : flat P t = true := by kernel_rfl) : gLoad P t (shI k) (.pointer (some ad)) w K := ⟨n, run_loadAt hc ht, hk⟩
theorem gLoad_v {t : TypeId} {v : Value} {ad : Addr} {K : Value → Prop} (hc : w.cell? ad = some v) (hk : K v) (ht : flat P t = true := by kernel_rfl) : gLoad P t shV (.pointer (some ad)) w K := ⟨v, run_loadAt hc ht, hk⟩
theorem gLoad_b {t : TypeId} {v : Bool} {ad : Addr} {K : Bool → Prop} (hc : w.cell? ad = some (.bool v)) (hk : K v) (ht : flat P t = true := by kernel_rfl) : gLoad P t shB (.pointer (some ad)) w K := ⟨v, run_loadAt hc ht, hk⟩
theorem gLoad_s {t : TypeId} {v : ByteArray} {ad : Addr} {K : ByteArray → Prop} (hc : w.cell? ad = some (.string v)) (hk : K v) (ht : flat P t = true := by kernel_rfl) : gLoad P t shS (.pointer (some ad)) w K := ⟨v, run_loadAt hc ht, hk⟩
theorem gLoad_p {t : TypeId} {v : Option Addr} {ad : Addr} {K : Option Addr → Prop} (hc : w.cell? ad = some (.pointer v)) (hk : K v) (ht : flat P t = true := by kernel_rfl) : gLoad P t shP (.pointer (some ad)) w K := ⟨v, run_loadAt hc ht, hk⟩
/-- Loads that hold throughout a region that draws. -/
theorem gLoadB_i {t : TypeId} {k : IntKind} {n : Int} {ad : Addr} {B : World → Prop} {K : Int → Prop} (hc : ∀ w, B w → w.cell? ad = some (.int k n)) (hk : K n) (ht : flat P t = true := by kernel_rfl) : gLoadB P t (shI k) (.pointer (some ad)) B K := ⟨n, fun w hB => run_loadAt (hc w hB) ht, hk⟩
theorem gLoadB_v {t : TypeId} {v : Value} {ad : Addr} {B : World → Prop} {K : Value → Prop} (hc : ∀ w, B w → w.cell? ad = some v) (hk : K v) (ht : flat P t = true := by kernel_rfl) : gLoadB P t shV (.pointer (some ad)) B K := ⟨v, fun w hB => run_loadAt (hc w hB) ht, hk⟩
theorem gLoadB_b {t : TypeId} {v : Bool} {ad : Addr} {B : World → Prop} {K : Bool → Prop} (hc : ∀ w, B w → w.cell? ad = some (.bool v)) (hk : K v) (ht : flat P t = true := by kernel_rfl) : gLoadB P t shB (.pointer (some ad)) B K := ⟨v, fun w hB => run_loadAt (hc w hB) ht, hk⟩
theorem gLoadB_s {t : TypeId} {v : ByteArray} {ad : Addr} {B : World → Prop} {K : ByteArray → Prop} (hc : ∀ w, B w → w.cell? ad = some (.string v)) (hk : K v) (ht : flat P t = true := by kernel_rfl) : gLoadB P t shS (.pointer (some ad)) B K := ⟨v, fun w hB => run_loadAt (hc w hB) ht, hk⟩
theorem gLoadB_p {t : TypeId} {v : Option Addr} {ad : Addr} {B : World → Prop} {K : Option Addr → Prop} (hc : ∀ w, B w → w.cell? ad = some (.pointer v)) (hk : K v) (ht : flat P t = true := by kernel_rfl) : gLoadB P t shP (.pointer (some ad)) B K := ⟨v, fun w hB => run_loadAt (hc w hB) ht, hk⟩
/-- A region that only reads: the one world. -/
theorem at1 {w : World} {ad : Addr} {u : Value} (hc : w.cell? ad = some u) : ∀ w', w' = w.drew → w'.cell? ad = some u := fun w' h => by subst h; exact hc

/-! ### Pointers -/
theorem gNil_some {ad : Addr} {K : Addr → Prop} (hk : K ad) : gNil (some ad) K := ⟨ad, rfl, hk⟩
theorem run_equal_pnil {t e : TypeId} {p : Option Addr} (hu : P.underlying t = some (.pointer e)) : (Op.equal t (.pointer p) (.pointer none)).run P w = .ok p.isNone w := by
  have hm : Op.maxDepth = 9999 + 1 := rfl
  unfold Op.equal
  rw [hm]
  generalize 9999 = d
  unfold Op.equalIn
  simp only [Sem.run_bind, run_underlying hu, Result.andThen_ok]
  cases p <;> rfl
theorem isPtr_ok {t : TypeId} (ht : (match P.underlying t with | some (.pointer _) => true | _ => false) = true) : ∃ e, P.underlying t = some (.pointer e) := by
  split at ht
  · rename_i e he; exact ⟨e, he⟩
  · cases ht
theorem gEq_pnil {t : TypeId} {p : Option Addr} {K : Bool → Prop} (hk : K p.isNone) (ht : (match P.underlying t with | some (.pointer _) => true | _ => false) = true := by kernel_rfl) : gEq P .eql t (.pointer p) (.pointer none) K := by
  obtain ⟨e, hu⟩ := isPtr_ok ht
  refine ⟨p.isNone, fun cx cy w => ⟨by cases p <;> rfl, ?_⟩, hk⟩
  have hb : binOp .eql t (.pointer p) (.pointer none) = (do pure (.bool (← Op.equal t (.pointer p) (.pointer none)))) := by cases p <;> rfl
  rw [hb]; simp only [Sem.run_bind, run_equal_pnil hu, Result.andThen_ok, Sem.run_pure]
theorem gNe_pnil {t : TypeId} {p : Option Addr} {K : Bool → Prop} (hk : K p.isSome) (ht : (match P.underlying t with | some (.pointer _) => true | _ => false) = true := by kernel_rfl) : gEq P .neq t (.pointer p) (.pointer none) K := by
  obtain ⟨e, hu⟩ := isPtr_ok ht
  refine ⟨p.isSome, fun cx cy w => ⟨by cases p <;> rfl, ?_⟩, hk⟩
  have hb : binOp .neq t (.pointer p) (.pointer none) = (do pure (.bool (!(← Op.equal t (.pointer p) (.pointer none))))) := by cases p <;> rfl
  rw [hb]; simp only [Sem.run_bind, run_equal_pnil hu, Result.andThen_ok, Sem.run_pure]
  cases p <;> rfl
/-- A field's offset; none: of no size, or no such field. -/
def fldOff (P : Program) (t : TypeId) (f : Nat) : Option Nat := match P.underlying t with
  | some (.struct fs) => match fs[f]? with
    | some x => match P.info? x.type with
      | some i => match i.size with
        | 0 => none
        | _ + 1 => some x.offset
      | none => none
    | none => none
  | _ => none
theorem gFld_some {t : TypeId} {f o : Nat} {ad : Addr} {K : Addr → Prop} (hk : K (ad.add o)) (ht : fldOff P t f = some o := by kernel_rfl) : gFld P t (.pointer (some ad)) f K := by
  unfold fldOff at ht
  split at ht
  · rename_i fs hu
    split at ht
    · rename_i x hx
      split at ht
      · rename_i i hi
        split at ht
        · cases ht
        · rename_i n hn
          injection ht with ht; subst ht
          refine ⟨ad.add x.offset, fun w => ?_, hk⟩
          simp [Instr.fieldAt, run_underlying hu, hx, Instr.sureAddr, fieldPlace, sizeOf, typeInfo, hi, hn]
      · cases ht
    · cases ht
  · cases ht

/-! ### Making memory -/
theorem St.alloc (w : World) (c : Array Value) (e : TypeId) : St (w.alloc (.cells c e)) ⟨w.heap.size, 0, none⟩ c.toList :=
  ⟨rfl, c, e, heap_alloc_new w _, fun j u hj => by simpa using hj⟩
theorem gBox_of {t : TypeId} {v : Value} {K : Addr → World → Prop} (hk : ∀ ad w', Ev w w' → ad = ⟨w.heap.size, 0, none⟩ → w'.heap.size = w.heap.size + 1 → St w' ad v.cells.toList → K ad w') : gBox P t v w K :=
  ⟨⟨w.heap.size, 0, none⟩, w.alloc (.cells v.cells t), by simp [Instr.box, newVar, newRow], hk _ _ (Ev.alloc w _) rfl (by simp) (St.alloc w _ t)⟩
theorem gAlloc_of {t : TypeId} {z : Value} {K : Addr → World → Prop} (hz : (P.info? t).bind (·.zero) = some z) (hk : ∀ ad w', Ev w w' → ad = ⟨w.heap.size, 0, none⟩ → w'.heap.size = w.heap.size + 1 → St w' ad z.cells.toList → K ad w') : gAlloc P t w K := by
  obtain ⟨i, hi, hz⟩ := Option.bind_eq_some_iff.1 hz
  exact ⟨⟨w.heap.size, 0, none⟩, w.alloc (.cells z.cells t), by simp [Instr.alloc, zeroValue, typeInfo, hi, hz, newVar, newRow], hk _ _ (Ev.alloc w _) rfl (by simp) (St.alloc w _ t)⟩
theorem ownsRow_new (w : World) (e : TypeId) (cs : Array Value) (n c : Nat) (hn : n ≤ c) (hc : c ≤ maxLen) (hs : cs.size = c) {xs : List Value} (hx : cs.toList.take n = xs) (hl : xs.length = n) :
    (w.alloc (.cells cs e)).ownsRow w.heap.size e 1 (.slice (some ⟨w.heap.size, 0, none⟩) n c) n xs :=
  ⟨by omega, .inr ⟨w.heap.size, c, cs, rfl, Nat.le_refl _, heap_alloc_new w _, hn, hc, by omega, by rw [Nat.mul_one]; exact hx⟩⟩
theorem inR_rep (k : IntKind) (n : Nat) : inR k (List.replicate n 0) := fun x hx => by rw [List.eq_of_mem_replicate hx]; cases k <;> decide
theorem gMake_n {t : TypeId} {k : IntKind} {n : Nat} {K : Value → World → Prop} (hn : n ≤ 140737488355328) (hb : n * 8 ≤ 281474976710656)
    (hk : ∀ v w', Ev w w' → ON k (elOf P t) w' w.heap.size v (List.replicate n 0) → K v w') (ht : slInt P t k = true := by kernel_rfl) : gMake P t (.int .i64 (n : Int)) (.int .i64 (n : Int)) w K := by
  obtain ⟨hu, i, hi, hsz, hby, hby1, hz⟩ := slInt_ok ht
  have h48 : i.bytes * (n : Int) ≤ 2 ^ 48 := by
    have : (i.bytes * n : Nat) ≤ n * 8 := by rw [Nat.mul_comm]; exact Nat.mul_le_mul_left n hby
    have h2 : ((i.bytes * n : Nat) : Int) ≤ 281474976710656 := by omega
    rw [Int.natCast_mul] at h2; simpa using h2
  have hw : IntKind.wrap .i64 (n : Int) = n := by have := i64_id (n := (n : Int)) (by omega) (by omega); simpa [i64] using this
  have hrun : (Instr.makeSlice t (.int .i64 (n : Int)) (.int .i64 (n : Int))).run P w = .ok (.slice (some ⟨w.heap.size, 0, none⟩) n n) (w.alloc (.cells (Array.replicate n (.int k 0)) (elOf P t))) := by
    simp only [Instr.makeSlice, Sem.run_bind, run_underlying hu, Result.andThen_ok, asInt, asIntOf, Sem.run_pure, typeInfo, run_program, hi, hw]
    have h1 : ¬ ((n : Int) < 0) := by omega
    have h2 : ¬ ((i.bytes : Int) * (n : Int) > 2 ^ 48) := by omega
    simp only [h1, h2, decide_false, Bool.or_self, Bool.false_or, gt_iff_lt, Int.lt_irrefl, if_false, Bool.false_eq_true]
    have har : (askRoom (Int.toNat (n : Int) * i.bytes)).run P w = .ok () w := by unfold askRoom; split <;> rfl
    simp only [har, Result.andThen_ok, sizeOf, typeInfo, Sem.run_bind, run_program, hi, Sem.run_pure, hsz, Int.toNat_natCast, Nat.mul_one, zeroValue, hz]
    by_cases h0 : n = 0
    · subst h0; have he : ∀ f : Nat → Value, Array.map f (Array.range 0) = #[] := fun f => Array.eq_empty_of_size_eq_zero (by simp)
      simp [newRow, he]
    · simp only [h0, if_false, Sem.run_bind, run_program, Result.andThen_ok, hi, hz, Sem.run_pure, newRow]
      simp [Value.cells]
      congr 2
      apply Array.ext
      · simp
      · intro j h1 h2; simp [Nat.mod_one]
  refine ⟨_, _, hrun, hk _ _ (Ev.alloc w _) ⟨?_, inR_rep k n⟩⟩
  have := ownsRow_new w (elOf P t) (Array.replicate n (.int k 0)) n n (Nat.le_refl _) (by unfold maxLen; omega) (by simp) (xs := List.replicate n (.int k 0)) (by simp) (by simp)
  simpa using this

/-! ### Stores -/
theorem setCell_ch (w : World) (a : Addr) (u : Value) : Ch (fun k i => k = a.block ∧ i = a.off) w (w.setCell a u) := by
  refine ⟨rfl, rfl, rfl, by simp, fun k hk hn => ?_, fun k c e f hc => ?_, (KeepsOthers.setCell w a u).same⟩
  · exact Below.heap_setCell w a u k fun h => hn a.off ⟨h, rfl⟩
  · by_cases hk : k = a.block
    · subst hk
      refine ⟨if a.spot.isSome then c else c.setIfInBounds a.off u, ?_, ?_, fun i hi => ?_⟩
      · simp only [World.setCell, Array.getElem?_modify, if_true, hc, Option.map_some]
      · split <;> simp
      · have hne : a.off ≠ i := fun e => hi ⟨rfl, e.symm⟩
        split
        · rfl
        · rw [Array.getElem?_setIfInBounds_ne hne]
    · exact ⟨c, by rw [Below.heap_setCell w a u k hk]; exact hc, rfl, fun _ _ => rfl⟩
theorem run_storeAt {t : TypeId} {ad : Addr} {u x : Value} (hc : w.cell? ad = some x) (hf : w.frozen? ad = false) (hu : u.oneCell' = true) (hcl : u.cells = #[u]) (ht : flat1 P t = true) : (Instr.storeAt t (.pointer (some ad)) u).run P w = .ok () (w.setCell ad u) := by
  have hs : ∃ i, P.info? t = some i ∧ i.size = 1 := by
    unfold flat1 at ht; split at ht
    · rename_i i hi; exact ⟨i, hi, Nat.eq_of_beq_eq_true ht⟩
    · cases ht
  obtain ⟨i, hi, hsz⟩ := hs
  simp only [Instr.storeAt, Instr.sureAddr, storeVar, Sem.run_bind, Sem.run_pure, Result.andThen_ok, sizeOf, typeInfo, run_program, hi, hcl, hsz]
  simp [storeCells, Addr.add_zero', run_store P w ad u .plain hu, hc, hf]
theorem one_int (k : IntKind) (n : Int) : (Value.int k n).oneCell' = true ∧ (Value.int k n).cells = #[.int k n] := ⟨rfl, rfl⟩
/-- A store into a struct's field. -/
theorem gStore_st {t : TypeId} {ad : Addr} {cs : List Value} {j : Nat} {u : Value} {K : World → Prop} (h : St w ad cs) (hj : j < cs.length) (hu : u.oneCell' = true) (hcl : u.cells = #[u])
    (hk : ∀ w', Ch (Rg (ad.add j) 1) w w' → w'.heap.size = w.heap.size → St w' ad (cs.set j u) → K w') (ht : flat1 P t = true := by kernel_rfl) : gStore P t (.pointer (some (ad.add j))) u w K := by
  obtain ⟨h0, c, e, h1, h2⟩ := h
  have hc := St.cell (w := w) ⟨h0, c, e, h1, h2⟩ (j := j) (u := cs[j]) (by simp [hj])
  have hadd := Addr.add_none h0 j
  have hf : w.frozen? (ad.add j) = false := by rw [hadd]; simp [World.frozen?, h1]
  refine ⟨w.setCell (ad.add j) u, run_storeAt hc hf hu hcl ht, hk _ ?_ (by simp) ⟨h0, c.setIfInBounds (ad.off + j) u, e, ?_, fun i x hx => ?_⟩⟩
  · exact (setCell_ch w _ u).mono fun k i _ ⟨h1, h2⟩ => ⟨h1, by omega, by omega⟩
  · rw [hadd]; simp only [World.setCell, Array.getElem?_modify, if_true, h1, Option.map_some]; rfl
  · have hlt : ad.off + j < c.size := (Array.getElem?_eq_some_iff.1 (h2 j cs[j] (by simp [hj]))).1
    rw [List.getElem?_set] at hx
    by_cases e : j = i
    · subst e
      simp only [if_true, hj] at hx
      rw [Array.getElem?_setIfInBounds_self_of_lt hlt]; exact hx
    · rw [if_neg e] at hx
      rw [Array.getElem?_setIfInBounds_ne (by omega)]; exact h2 i x hx
/-- A place of a slice of one's own. -/
def Slt (v : Value) (i : Int) (ad : Addr) : Prop := ∃ g n c, v = .slice (some ⟨g, 0, none⟩) n c ∧ ad = ⟨g, i.toNat, none⟩
theorem gIdx_on {t e : TypeId} {k ki : IntKind} {B : Nat} {v : Value} {xs : List Int} {i : Int} {K : Addr → Prop} (h : ON k e w B v xs) (h0 : 0 ≤ i) (h1 : i < xs.length)
    (hk : ∀ ad, Slt v i ad → w.cell? ad = some (.int k (rd xs i)) → K ad) (ht : slInt P t k = true := by kernel_rfl) : gIdx P t v (.int ki i) K := by
  obtain ⟨hu, ii, hi, hsz, _⟩ := slInt_ok ht
  rcases h.1.2 with ⟨rfl, hn⟩ | ⟨g, cap, cur, rfl, hb, hg, hn, hm, hs, htk⟩
  · omega
  · refine ⟨⟨g, i.toNat, none⟩, fun w => ?_, hk _ ⟨g, _, _, rfl, rfl⟩ ?_⟩
    · simp only [Instr.indexAt, asIntOf, Sem.run_bind, Sem.run_pure, Result.andThen_ok, run_underlying hu]
      rw [if_pos ⟨h0, h1⟩]
      simp [sizeOf, typeInfo, hi, hsz, Addr.add_lit]
    · have := World.ownsRow.cells h.1 (g := g) rfl i.toNat (.int k (rd xs i)) (by rw [List.getElem?_map, rd_get h0 h1]; rfl)
      rwa [Addr.add_lit, Nat.zero_add] at this
/-- A store into a slice of one's own. -/
theorem gStore_on {t e : TypeId} {k : IntKind} {B : Nat} {v : Value} {xs : List Int} {i x : Int} {ad : Addr} {K : World → Prop} (h : ON k e w B v xs) (hs : Slt v i ad) (h0 : 0 ≤ i) (h1 : i < xs.length) (hx : k.min ≤ x ∧ x ≤ k.max)
    (hk : ∀ w', Ch (Ob v) w w' → w'.heap.size = w.heap.size → ON k e w' B v (xs.set i.toNat x) → K w') (ht : flat1 P t = true := by kernel_rfl) : gStore P t (.pointer (some ad)) (.int k x) w K := by
  obtain ⟨g, n, c, hv, rfl⟩ := hs
  have hi : i.toNat < xs.length := by omega
  rcases h.1.2 with ⟨hv', _⟩ | ⟨g', cap, cur, hv', hb, hg, hn, hm, hsz, htk⟩
  · rw [hv'] at hv; cases hv
  · rw [hv'] at hv
    injection hv with hv1 _ _; injection hv1 with hv1; injection hv1 with hv1 _ _; subst hv1
    have hlt : i.toNat < cur.size := by omega
    have hc : w.cell? ⟨g', i.toNat, none⟩ = some cur[i.toNat] := by simp [World.cell?, hg, hlt]
    have hf : w.frozen? ⟨g', i.toNat, none⟩ = false := by simp [World.frozen?, hg]
    refine ⟨w.setCell ⟨g', i.toNat, none⟩ (.int k x), run_storeAt hc hf rfl rfl ht, hk _ ?_ (by simp) ⟨⟨by simp, .inr ⟨g', cap, cur.setIfInBounds i.toNat (.int k x), by rw [hv']; simp, hb, ?_, by simpa using hn, hm, by simpa using hsz, ?_⟩⟩, ?_⟩⟩
    · refine (setCell_ch w _ _).mono fun k i _ ⟨h1, _⟩ => ?_
      rw [hv', h1]; rfl
    · simp only [World.setCell, Array.getElem?_modify, if_true, hg, Option.map_some]; rfl
    · simp only [Array.toList_setIfInBounds, List.length_set, List.map_set, ← htk, List.take_set]
    · intro y hy
      rcases List.mem_or_eq_of_mem_set hy with hy | rfl
      · exact h.2 y hy
      · exact hx
end
end Go.Proofs.YtcjopcplhabgkaaV
