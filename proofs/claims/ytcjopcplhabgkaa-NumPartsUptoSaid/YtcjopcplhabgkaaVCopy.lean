/- copy(), and buffers that are written into. -/
import Derived.Test.YtcjopcplhabgkaaVBase2
import Derived.Laws.IdiomCopy
import Derived.Laws.Externs
namespace Go.Proofs.YtcjopcplhabgkaaV
open Go Go.RowKit
section
variable {P : Program} {w0 w : World} {F : List It}
/-- copy(b[l:h], y), where b is the whole of a buffer. -/
theorem gCopy_sub {t ty : TypeId} {k : IntKind} {g n l h : Nat} {y : Value} {zs ys : List Int} {K : Int → World → Prop} (hF : FB k (elOf P t) w g zs) (hlh : l ≤ h) (hhc : h ≤ zs.length) (hy : Nm k w y ys)
    (hk : ∀ w' m, m = min (h - l) ys.length → Ch (Bk g) w w' → w'.heap.size = w.heap.size → FB k (elOf P t) w' g (zs.take l ++ ys.take m ++ zs.drop (l + m)) → K (m : Int) w') (ht : slInt P t k = true := by kernel_rfl) :
    gCopy P #[t, t] ty #[subV 1 (.slice (some ⟨g, 0, none⟩) n zs.length) l h, y] w K := by
  obtain ⟨hu, i, hi, hsz, hby, hby1, hz⟩ := slInt_ok ht
  have hsz1 : (P.info? (elOf P t)).map (·.size) = some 1 := by rw [hi]; simp [hsz]
  obtain ⟨cur, hg, hcur, hR, hm⟩ := hF
  have hs : cur.size = zs.length := by rw [← Array.length_toList, hcur, List.length_map]
  obtain ⟨a, c, rfl, hnc, hl, hcells, hnil⟩ := hy.1
  have hgo : ∀ m : Nat, m ≤ ys.length → goInt m = .int .i64 (m : Int) := fun m _ => rfl
  by_cases h0 : min (h - l) ys.length = 0
  · have hrun : (Builtin.copy_ #[t, t] ty #[subV 1 (.slice (some ⟨g, 0, none⟩) n zs.length) l h, .slice a ys.length c]).run P w = .ok (goInt 0) w := by
      simp only [subV]
      exact run_copy_none (P := P) w t t ty _ _ _ _ _ _ _ hu hsz1 (by show min ys.length (h - l) = 0; omega)
    refine ⟨((0 : Nat) : Int), w, hrun, hk w 0 h0.symm (Ch.refl _ w) rfl ?_⟩
    refine ⟨cur, hg, ?_, ?_, ?_⟩
    · simpa using hcur
    · simpa using hR
    · simpa using hm
  · cases a with
    | none => have := hnil rfl; omega
    | some ad =>
      have hlen : ((ys.take (min (h - l) ys.length)).map (Value.int k)).length = min (h - l) ys.length := by rw [List.length_map, List.length_take]; omega
      have hrun := run_copy_row (P := P) w t t ty (elOf P t) g l (h - l) (zs.length - l) ad ys.length c cur (elOf P t) ((ys.take (min (h - l) ys.length)).map (.int k)) hu hsz1 hg (by rw [hlen]; show min _ _ = min ys.length (h - l); omega)
        (fun j u hj => hcells ad rfl j u (by
          rw [List.getElem?_map, List.getElem?_take] at hj
          rw [List.getElem?_map]
          split at hj
          · exact hj
          · simp at hj)) (by rw [hlen, hs]; omega) (fun u hu => by obtain ⟨x, _, rfl⟩ := List.mem_map.1 hu; rfl)
      have hsub : subV 1 (.slice (some ⟨g, 0, none⟩) n zs.length) l h = .slice (some ⟨g, l, none⟩) (h - l) (zs.length - l) := by
        simp only [subV]
        rw [if_neg (by omega), Option.map_some, Nat.mul_one, Addr.add_lit, Nat.zero_add]
      rw [← hsub, hlen] at hrun
      refine ⟨((min (h - l) ys.length : Nat) : Int), _, hrun, hk _ _ rfl ?_ (by simp) ⟨_, setRow_heap w g cur _ _ _ hg, ?_, ?_, ?_⟩⟩
      · refine ⟨rfl, rfl, rfl, by simp, fun j hj hn => setRow_other w g j _ fun e => hn 0 e, fun j c' e' f hj => ?_, fun k o hk ho => by rw [setRow_other w g k _ (ne_cells hg hk ho)]; exact hk⟩
        by_cases hjg : j = g
        · subst hjg
          rw [hg] at hj
          injection hj with hj; injection hj with h1 h2 h3
          subst h1; subst h2; subst h3
          exact ⟨_, setRow_heap w j cur _ _ _ hg, by simp; omega, fun i hi => absurd rfl hi⟩
        · exact ⟨c', by rw [setRow_other w g j _ hjg]; exact hj, rfl, fun _ _ => rfl⟩
      · simp only [hcur, List.map_append, List.map_take, List.map_drop]
      · exact ((hR.take l).append (hy.2.take _)).append (hR.drop _)
      · have : (zs.take l ++ ys.take (min (h - l) ys.length) ++ zs.drop (l + min (h - l) ys.length)).length = zs.length := by simp; omega
        rw [this]; exact hm
/-- A function that the model runs itself. -/
def isExt (P : Program) (f : FuncId) : Bool := match P.funcs[f]? with
  | some fn => !(fn.name == "runtime.NumGoroutine") && fn.body.isNone && (Extern.findNext fn).isNone
  | none => false
theorem run_ext {f : FuncId} {args : Array Value} {e : Array Value → Sem Value} {v : Value} (h : isExt P f = true) (he : (P.funcs[f]?).bind Extern.find = some e) (hr : (e args).run P w = .ok v w) : (callFunc f args).run P w = .ok (.value v) w := by
  unfold isExt at h
  split at h
  · rename_i fn hf
    rw [hf] at he
    simp only [Bool.and_eq_true, Bool.not_eq_true'] at h
    rw [run_callFunc_extern hf h.1.1 h.1.2 (Option.isNone_iff_eq_none.1 h.2) he, hr]; rfl
  · cases h
theorem gExt_i {f : FuncId} {args : Array Value} {e : Array Value → Sem Value} {k : IntKind} {n : Int} {K : Int → World → Prop} (he : (P.funcs[f]?).bind Extern.find = some e) (hr : (e args).run P w = .ok (.int k n) w) (hk : K n w) (h : isExt P f = true := by kernel_rfl) : gExt P f (shI k) args w K :=
  ⟨n, w, run_ext h he hr, hk⟩
/-- A buffer: all of a block. -/
def bufIt (k : IntKind) (e : TypeId) (g : Nat) (zs : List Int) : It := ⟨fun b => b = g, fun w => FB k e w g zs, fun _ _ ⟨_, h1, _⟩ hk => by rw [hk]; exact ⟨_, _, _, h1⟩, fun _ _ _ ⟨cur, h1, h2⟩ hc hs => ⟨cur, by rw [hc.blk g (hlt h1) fun i hi => hs g i rfl hi]; exact h1, h2⟩, fun _ _ ⟨cur, h1, h2⟩ _ hc => ⟨cur, by rw [hc _ _ _ _ h1]; exact h1, h2⟩⟩
theorem fMake_len {t : TypeId} {k : IntKind} {n : Nat} {K : Value → World → Prop} (f : Fr w0 w F) (hn : n * 8 ≤ 281474976710656)
    (hk : ∀ g w', Fr w0 w' (bufIt k (elOf P t) g (List.replicate n 0) :: F) → K (.slice (some ⟨g, 0, none⟩) n n) w') (ht : slInt P t k = true := by kernel_rfl) : gMake P t (.int .i64 (n : Int)) (.int .i64 (n : Int)) w K := by
  obtain ⟨hu, i, hi, hsz, hby, hby1, hz⟩ := slInt_ok ht
  have h48 : i.bytes * (n : Int) ≤ 2 ^ 48 := by
    have : (i.bytes * n : Nat) ≤ n * 8 := by rw [Nat.mul_comm]; exact Nat.mul_le_mul_left n hby
    have h2 : ((i.bytes * n : Nat) : Int) ≤ 281474976710656 := by omega
    rw [Int.natCast_mul] at h2; simpa using h2
  have hw : IntKind.wrap .i64 (n : Int) = n := by have := i64_id (n := (n : Int)) (by omega) (by omega); simpa [i64] using this
  have hrun : (Instr.makeSlice t (.int .i64 (n : Int)) (.int .i64 (n : Int))).run P w = .ok (.slice (some ⟨w.heap.size, 0, none⟩) n n) (w.alloc (.cells (Array.replicate n (.int k 0)) (elOf P t))) := by
    simp only [Instr.makeSlice, Sem.run_bind, run_underlying hu, Result.andThen_ok, asInt, asIntOf, Sem.run_pure, typeInfo, run_program, hi, hw]
    have h1 : ¬ ((n : Int) < 0) := by omega
    have h2 : ¬ ((i.bytes : Int) * (n : Int) > 2 ^ 48) := by omega
    simp only [h1, h2, decide_false, Bool.or_self, Bool.false_or, gt_iff_lt, Int.lt_irrefl, if_false, Bool.false_eq_true]
    have har : (askRoom (Int.toNat (n : Int) * i.bytes)).run P w = .ok () w := by unfold askRoom; split <;> rfl
    simp only [har, Result.andThen_ok, sizeOf, typeInfo, Sem.run_bind, run_program, hi, Sem.run_pure, hsz, Int.toNat_natCast, Nat.mul_one, zeroValue, hz]
    by_cases h0 : n = 0
    · subst h0; have he : ∀ f : Nat → Value, Array.map f (Array.range 0) = #[] := fun f => Array.eq_empty_of_size_eq_zero (by simp)
      simp [newRow, he]
    · simp only [h0, if_false, Sem.run_bind, run_program, Result.andThen_ok, hi, hz, Sem.run_pure, newRow]
      simp [Value.cells]
      congr 2
      apply Array.ext
      · simp
      · intro j h1 h2; simp [Nat.mod_one]
  refine ⟨_, _, hrun, hk _ _ (f.new (Ev.alloc w _) (jt := bufIt k (elOf P t) w.heap.size (List.replicate n 0)) ⟨_, heap_alloc_new w _, by simp, inR_rep k n, ?_⟩ fun b hb => by rw [show b = w.heap.size from hb]; exact Nat.le_refl _)⟩
  unfold maxLen; rw [List.length_replicate]; omega
theorem fCopy {t ty : TypeId} {k : IntKind} {g n l h c : Nat} {y : Value} {zs ys : List Int} {K : Int → World → Prop} (f : Fr w0 w F) (i : Nat) (hi : F[i]? = some (bufIt k (elOf P t) g zs)) (hc : zs.length = c) (hlh : l ≤ h) (hhc : h ≤ c) (hy : Nm k w y ys)
    (hk : ∀ w' m, m = min (h - l) ys.length → Fr w0 w' (F.set i (bufIt k (elOf P t) g (zs.take l ++ ys.take m ++ zs.drop (l + m)))) → K (m : Int) w') (ht : slInt P t k = true := by kernel_rfl) :
    gCopy P #[t, t] ty #[subV 1 (.slice (some ⟨g, 0, none⟩) n c) l h, y] w K := by
  subst hc
  exact gCopy_sub (f.get i hi) hlh hhc hy (fun w' m hm hc _ hF => hk w' m hm (f.upd i hi hc (fun k _ hh => .inl hh) hF fun k hk => .inl hk)) ht
end
end Go.Proofs.YtcjopcplhabgkaaV
