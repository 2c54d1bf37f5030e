/- Nodes, fourth part: slices with room behind them. -/
import Derived.Test.YtcjopcplhabgkaaVNodes3
namespace Go.Proofs.YtcjopcplhabgkaaV
open Go Go.RowKit
section
variable {P : Program} {w : World}
/-- A block of numbers, all told. -/
def FB (k : IntKind) (e : TypeId) (w : World) (g : Nat) (zs : List Int) : Prop := ∃ cur, w.heap[g]? = some (.cells cur e (0, 0)) ∧ cur.toList = zs.map (.int k) ∧ inR k zs ∧ zs.length ≤ maxLen
theorem FB.on {k : IntKind} {e : TypeId} {g : Nat} {zs : List Int} (h : FB k e w g zs) (n : Nat) (hn : n ≤ zs.length) : ON k e w g (.slice (some ⟨g, 0, none⟩) n zs.length) (zs.take n) := by
  obtain ⟨cur, h1, h2, h3, h4⟩ := h
  have hl : (zs.take n).length = n := by rw [List.length_take]; omega
  have hs : cur.size = zs.length := by rw [← Array.length_toList, h2, List.length_map]
  refine ⟨⟨by simp, .inr ⟨g, zs.length, cur, by rw [hl], Nat.le_refl _, h1, by rw [hl]; exact hn, h4, by omega, ?_⟩⟩, h3.take n⟩
  rw [hl, Nat.mul_one, h2, ← List.map_take]
theorem ON.pre {k : IntKind} {e : TypeId} {B g n c : Nat} {xs : List Int} (h : ON k e w B (.slice (some ⟨g, 0, none⟩) n c) xs) (m : Nat) (hm : m ≤ n) : ON k e w B (.slice (some ⟨g, 0, none⟩) m c) (xs.take m) := by
  obtain ⟨⟨h1, h2⟩, h3⟩ := h
  rcases h2 with ⟨hv, _⟩ | ⟨g', cap, cur, hv, hb, hg, hn, hmx, hs, ht⟩
  · cases hv
  · injection hv with hv1 hv2 hv3; injection hv1 with hv1; injection hv1 with hv1 _ _
    subst hv1; subst hv3
    have hl : (xs.take m).length = m := by rw [List.length_take]; omega
    refine ⟨⟨by simp, .inr ⟨g, c, cur, by rw [hl], hb, hg, by omega, hmx, hs, ?_⟩⟩, h3.take m⟩
    rw [hl, List.map_take, ← ht, List.take_take]; congr 1; omega
theorem FB.ev {k : IntKind} {e : TypeId} {w' : World} {g : Nat} {zs : List Int} (h : FB k e w g zs) (hc : Ev w w') : FB k e w' g zs := by
  obtain ⟨cur, h1, h2⟩ := h
  exact ⟨cur, by rw [hc.blk g (hlt h1) fun _ h => h]; exact h1, h2⟩
theorem subV_z {sz n c m : Nat} {a : Option Addr} (h : 0 < c) : subV sz (.slice a n c) 0 m = .slice a m c := by
  simp only [subV, Nat.zero_mul, Nat.sub_zero]
  rw [if_neg (by omega)]
  cases a <;> simp [Addr.add_zero']
/-- New memory with room for n. -/
theorem gMake_cap {t : TypeId} {k : IntKind} {n : Nat} {K : Value → World → Prop} (hn : n * 8 ≤ 281474976710656)
    (hk : ∀ w', Ev w w' → w'.heap.size = w.heap.size + 1 → FB k (elOf P t) w' w.heap.size (List.replicate n 0) → K (.slice (some ⟨w.heap.size, 0, none⟩) 0 n) w') (ht : slInt P t k = true := by kernel_rfl) : gMake P t (.int .i64 0) (.int .i64 (n : Int)) w K := by
  obtain ⟨hu, i, hi, hsz, hby, hby1, hz⟩ := slInt_ok ht
  have h48 : i.bytes * (n : Int) ≤ 2 ^ 48 := by
    have : (i.bytes * n : Nat) ≤ n * 8 := by rw [Nat.mul_comm]; exact Nat.mul_le_mul_left n hby
    have h2 : ((i.bytes * n : Nat) : Int) ≤ 281474976710656 := by omega
    rw [Int.natCast_mul] at h2; simpa using h2
  have hw : IntKind.wrap .i64 (n : Int) = n := by have := i64_id (n := (n : Int)) (by omega) (by omega); simpa [i64] using this
  have hw0 : IntKind.wrap .i64 (0 : Int) = 0 := by decide
  have hrun : (Instr.makeSlice t (.int .i64 0) (.int .i64 (n : Int))).run P w = .ok (.slice (some ⟨w.heap.size, 0, none⟩) 0 n) (w.alloc (.cells (Array.replicate n (.int k 0)) (elOf P t))) := by
    simp only [Instr.makeSlice, Sem.run_bind, run_underlying hu, Result.andThen_ok, asInt, asIntOf, Sem.run_pure, typeInfo, run_program, hi, hw, hw0]
    have h1 : ¬ ((n : Int) < 0) := by omega
    have h2 : ¬ ((i.bytes : Int) * (n : Int) > 2 ^ 48) := by omega
    have h3 : ¬ ((i.bytes : Int) * 0 > 2 ^ 48) := by omega
    simp only [h1, h2, h3, decide_false, Bool.or_self, Bool.false_or, gt_iff_lt, Int.lt_irrefl, if_false, Bool.false_eq_true]
    have har : (askRoom (Int.toNat (n : Int) * i.bytes)).run P w = .ok () w := by unfold askRoom; split <;> rfl
    simp only [har, Result.andThen_ok, sizeOf, typeInfo, Sem.run_bind, run_program, hi, Sem.run_pure, hsz, Int.toNat_natCast, Nat.mul_one, zeroValue, hz]
    by_cases h0 : n = 0
    · subst h0; have he : ∀ f : Nat → Value, Array.map f (Array.range 0) = #[] := fun f => Array.eq_empty_of_size_eq_zero (by simp)
      simp [newRow, he]
    · simp only [h0, if_false, Sem.run_bind, run_program, Result.andThen_ok, hi, hz, Sem.run_pure, newRow]
      simp [Value.cells]
      congr 2
      apply Array.ext
      · simp
      · intro j h1 h2; simp [Nat.mod_one]
  refine ⟨_, _, hrun, hk _ (Ev.alloc w _) (by simp) ⟨_, heap_alloc_new w _, by simp, inR_rep k n, ?_⟩⟩
  unfold maxLen; rw [List.length_replicate]; omega
/-- Appending into the room. -/
theorem gApp_room {t ty : TypeId} {k : IntKind} {g n c : Nat} {y : Value} {zs ys : List Int} {K : Value → World → Prop} (h : FB k (elOf P t) w g zs) (hcap : zs.length = c) (hy : Nm k w y ys) (hr : n + ys.length ≤ c)
    (hk : ∀ w', Ch (Bk g) w w' → w'.heap.size = w.heap.size → FB k (elOf P t) w' g (zs.take n ++ ys ++ zs.drop (n + ys.length)) → K (.slice (some ⟨g, 0, none⟩) (n + ys.length) c) w') (ht : slInt P t k = true := by kernel_rfl) :
    gApp P #[t, t] ty #[.slice (some ⟨g, 0, none⟩) n c, y] w K := by
  subst hcap
  obtain ⟨hu, i, hi, hsz, hby, hby1, hz⟩ := slInt_ok ht
  obtain ⟨cur, hg, hcur, hR, hm⟩ := h
  have hs : cur.size = zs.length := by rw [← Array.length_toList, hcur, List.length_map]
  obtain ⟨a, c, rfl, hnc, hl, hcells, hnil⟩ := hy.1
  cases a with
  | none =>
    have h0 := hnil rfl
    have hys : ys = [] := List.eq_nil_of_length_eq_zero h0
    subst hys
    refine ⟨_, w, ?_, hk w (Ch.refl _ w) rfl ?_⟩
    · have hn : n ≤ zs.length := by simpa using hr
      simp [Builtin.append_, run_underlying hu, sizeOf, typeInfo, hi, Builtin.lenOf, Builtin.firstCells, hn, storeCells]
    · exact ⟨cur, hg, by simpa using hcur, by simpa using hR, by simpa using hm⟩
  | some ad =>
    have hrun := run_append_room (P := P) w t ty _ i hu hi g n zs.length cur hg ad ys.length c (ys.map (.int k)) (by rw [hsz]; simp) (hcells ad rfl) (fun u hu => by obtain ⟨x, _, rfl⟩ := List.mem_map.1 hu; rfl) hr (by rw [hsz, List.length_map]; omega)
    refine ⟨_, _, hrun, hk _ ?_ (by simp) ⟨_, setRow_heap w g cur _ _ _ hg, ?_, ?_, ?_⟩⟩
    · refine ⟨rfl, rfl, rfl, by simp, fun j hj hn => setRow_other w g j _ fun e => hn 0 e, fun j c' e' f hj => ?_, fun k o hk ho => by rw [setRow_other w g k _ (ne_cells hg hk ho)]; exact hk⟩
      by_cases hjg : j = g
      · subst hjg
        rw [hg] at hj
        injection hj with hj; injection hj with h1 h2 h3
        subst h1; subst h2; subst h3
        exact ⟨_, setRow_heap w j cur _ _ _ hg, by simp [hsz]; omega, fun i hi => absurd rfl hi⟩
      · exact ⟨c', by rw [setRow_other w g j _ hjg]; exact hj, rfl, fun _ _ => rfl⟩
    · simp only [hsz, Nat.mul_one, List.length_map, hcur, List.map_append, List.map_take, List.map_drop]
    · exact ((hR.take n).append hy.2).append (hR.drop _)
    · have : (zs.take n ++ ys ++ zs.drop (n + ys.length)).length = zs.length := by simp; omega
      rw [this]; exact hm
/-! ### Calls of which one knows what they hand back -/
theorem gCall_i {f : FuncId} {args : Array Value} {k : IntKind} {n : Int} {Q : World → Prop} {K : Int → World → Prop} (h : Calls P f args w fun e w' => e = .returned (.int k n) ∧ Q w') (hk : ∀ w', Q w' → K n w') : gCall P f (shI k) args w K :=
  gCall_of h fun _ w' ⟨h1, h2⟩ => ⟨n, h1, hk w' h2⟩
theorem gCall_i0 {f : FuncId} {args : Array Value} {k : IntKind} {n : Int} {K : Int → World → Prop} (h : Calls P f args w fun e w' => e = .returned (.int k n) ∧ w' = w) (hk : K n w) : gCall P f (shI k) args w K :=
  gCall_of h fun _ w' ⟨h1, h2⟩ => ⟨n, h1, by subst h2; exact hk⟩
theorem gCall_b {f : FuncId} {args : Array Value} {b : Bool} {Q : World → Prop} {K : Bool → World → Prop} (h : Calls P f args w fun e w' => e = .returned (.bool b) ∧ Q w') (hk : ∀ w', Q w' → K b w') : gCall P f shB args w K :=
  gCall_of h fun _ w' ⟨h1, h2⟩ => ⟨b, h1, hk w' h2⟩
theorem gCall_b0 {f : FuncId} {args : Array Value} {b : Bool} {K : Bool → World → Prop} (h : Calls P f args w fun e w' => e = .returned (.bool b) ∧ w' = w) (hk : K b w) : gCall P f shB args w K :=
  gCall_of h fun _ w' ⟨h1, h2⟩ => ⟨b, h1, by subst h2; exact hk⟩
theorem gCall_v {f : FuncId} {args : Array Value} {Q : Value → World → Prop} {K : Value → World → Prop} (h : Calls P f args w fun e w' => ∃ v, e = .returned v ∧ Q v w') (hk : ∀ v w', Q v w' → K v w') : gCall P f shV args w K :=
  gCall_of h fun _ w' ⟨v, h1, h2⟩ => ⟨v, h1, hk v w' h2⟩
theorem gCall_u {f : FuncId} {args : Array Value} {Q : World → Prop} {K : World → Prop} (h : Calls P f args w fun e w' => e = .returned (.tuple #[]) ∧ Q w') (hk : ∀ w', Q w' → K w') : gCall P f shU args w K :=
  gCall_of h fun _ w' ⟨h1, h2⟩ => ⟨h1, hk w' h2⟩
end
/-- A slice with three more behind it. -/
def Owd (k : IntKind) (w : World) (v : Value) (xs : List Int) (f : Int) : Prop := ∃ a c, v = .slice a xs.length c ∧ xs.length + 3 ≤ c ∧ Nm k w (.slice a (xs.length + 3) c) (xs ++ [f, f, f])
theorem Owd.nm {k : IntKind} {w : World} {v : Value} {xs : List Int} {f : Int} (h : Owd k w v xs f) : Nm k w v xs := by
  obtain ⟨a, c, rfl, hc, hn⟩ := h
  have := hn.sub 0 xs.length (by omega) (by simp)
  simp only [List.drop_zero, Nat.sub_zero, List.take_left] at this
  rwa [subV_z (by omega)] at this
theorem Owd.ev {k : IntKind} {w w' : World} {v : Value} {xs : List Int} {f : Int} (h : Owd k w v xs f) (he : Ev w w') : Owd k w' v xs f := by
  obtain ⟨a, c, h1, h2, h3⟩ := h; exact ⟨a, c, h1, h2, h3.ev he⟩
end Go.Proofs.YtcjopcplhabgkaaV
