import Derived.Laws.Concat
import Derived.Laws.IdiomCopy
import Derived.Laws.Externs
import Derived.Test.YtjmdoflcmipejaaVPart6
set_option linter.unusedVariables false
set_option linter.unusedSimpArgs false
/- Small things that texts of functions share, second part. -/
namespace Go.Proofs.YtjmdoflcmipejaaV
open Go Go.RowKit
section
variable {w0 w : World} {F : List It} {f : FuncId} {args : Array Value}
/-- A call that hands back new bytes. -/
theorem fCallB {K : Value → World → Prop} {xs : List Int} (h : Fr w0 w F) (hc : Calls P f args w (NewB w xs)) (hk : ∀ v w', Fr w0 w' (oIt .u8 eB v xs :: F) → K v w') : gCall P f shV args w K :=
  gCall_v hc fun v w' ⟨h1, h2⟩ => hk v w' (h.newO h1 h2)
/-- They are put behind one's own. -/
theorem fAppL {ty : TypeId} {b : Value} {K : Value → World → Prop} {xs ys : List Int} (h : Fr w0 w (oIt .u8 eB b xs :: F)) (hc : Calls P f args w (NewB w ys)) (hb : (xs.length + ys.length) * 8 ≤ 140737488355328) (hk : ∀ b' w', Fr w0 w' (oIt .u8 eB b' (xs ++ ys) :: F) → K b' w') :
    gCall P f shV args w fun l w1 => gApp P #[t_sl_uint8, t_sl_uint8] ty #[b, l] w1 K :=
  fCallB h hc fun _ _ f1 => fApp f1 1 rfl (f1.nm 0 rfl) hb fun b' w' f2 => hk b' w' (f2.drop 0)
theorem fAppB {ty : TypeId} {b : Value} {K : Value → World → Prop} {xs : List Int} {x : Int} {parts : Array (Nat × Value)} (hp : parts = #[(0, .int .u8 x)]) (h : Fr w0 w (oIt .u8 eB b xs :: F)) (hx : 0 ≤ x ∧ x < 256) (hb : (xs.length + 1) * 8 ≤ 140737488355328) (hk : ∀ b' w', Fr w0 w' (oIt .u8 eB b' (xs ++ [x]) :: F) → K b' w') :
    gLit P t_sl_uint8 1 parts w fun l w1 => gApp P #[t_sl_uint8, t_sl_uint8] ty #[b, l] w1 K :=
  fLit_n [x] h (by rw [hp]; rfl) rfl (fun y hy => by simp at hy; subst hy; exact u8i hx) fun _ _ f1 => fApp f1 1 rfl (f1.nm 0 rfl) hb fun b' w' f2 => hk b' w' (f2.drop 0)
end
/-- Bytes, and whether there are any; bytes, and an error. -/
def TupB (w : World) (r : List Int × Bool) (e : Ending) (w' : World) : Prop := ∃ v, e = .returned (.tuple #[v, .bool r.2]) ∧ Ev w w' ∧ ON .u8 eB w' w.heap.size v r.1
section
variable {w0 w : World} {F : List It} {f : FuncId} {args : Array Value}
theorem fCallTB {r : List Int × Bool} {K : Value → Bool → World → Prop} (h : Fr w0 w F) (hc : Calls P f args w (TupB w r)) (hk : ∀ v w', Fr w0 w' (oIt .u8 eB v r.1 :: F) → K v r.2 w') : gCall P f (.tup [.one .val, .one .bool]) args w K :=
  gCall_of hc fun _ w' ⟨v, h1, h2, h3⟩ => ⟨v, r.2, h1, hk v w' (h.newO h2 h3)⟩
theorem fCallTE {r : List Int × Int} {K : Value → Int → World → Prop} (h : Fr w0 w F) (hc : Calls P f args w (TupE w r)) (hk : ∀ v w', Fr w0 w' (oIt .u8 eB v r.1 :: F) → K v r.2 w') : gCall P f (.tup [.one .val, .one (.int .i64)]) args w K :=
  gCall_of hc fun _ w' ⟨v, h1, h2, h3⟩ => ⟨v, r.2, h1, hk v w' (h.newO h2 h3)⟩
/-! ### Bytes that grow behind a pointer -/
theorem Fr.asW (h : Fr w0 w F) (i : Nat) {ad : Addr} {e : TypeId} (hi : F[i]? = some (sIt ad [.slice none 0 0])) : Fr w0 w (F.set i (wIt e ad (.slice none 0 0) [])) :=
  h.upd (S := No) i hi (Ch.refl _ w) (fun _ _ h => h.elim) ⟨h.get i hi, ON.nil _ _ _ _, fun h => by cases h⟩ fun k hk => .inl (by rcases hk with hk | hk; exact hk; cases hk)
theorem Fr.wr {w' : World} {ad : Addr} {e : TypeId} {v v' : Value} {xs ys : List Int} (h : Fr w0 w F) (i : Nat) (hi : F[i]? = some (wIt e ad v xs)) (g : WrS e w w' ad v v' ys) : Fr w0 w' (F.set i (wIt e ad v' ys)) :=
  h.upd i hi g.2.1 (fun k _ hh => .inl hh) g.1 fun k hk => by
    rcases hk with hk | hk
    · exact .inl (.inl hk)
    · rcases g.2.2 with hm | hm
      · exact .inl (.inr (hm ▸ hk))
      · exact .inr (hm k hk)
theorem wrApp {ty : TypeId} {ad : Addr} {v y : Value} {xs ys : List Int} {K : World → Prop} (h : Wr eB w ad v xs) (hy : Nm .u8 w y ys) (hb : (xs.length + ys.length) * 8 ≤ 140737488355328) (hk : ∀ v' w', WrS eB w w' ad v v' (xs ++ ys) → K w') :
    gApp P #[t_sl_uint8, t_sl_uint8] ty #[v, y] w fun t ww1 => gNil (some ad) fun a => gStore P t_sl_uint8 (.pointer (some (Addr.add a 0))) t ww1 fun ww2 => K ww2 := by
  refine gApp_on h.2.1 hy hb (Nat.zero_le _) fun v2 w2 hO2 hc2 hm2 => gNil_some ?_
  have hS2 : St w2 ad [v] := h.1.ch hc2 fun _ _ hh => h.2.2 hh
  rw [Addr.add_zero']
  refine gStore_st0 hS2 (by simp) (by obtain ⟨a, c, rfl, _⟩ := hO2.nm.shape; rfl) hO2.one fun w3 h3 hs3 hS3 => hk v2 w3 ?_
  have hv2 : v2.ownBlock ≠ some ad.block := by
    rcases hm2 with hh | hh
    · rw [hh]; exact h.2.2
    · intro hg; have := hh _ hg; have := h.1.lt; omega
  exact ⟨⟨by simpa using hS3, hO2.ch h3 fun g i hg hh => hv2 (by rw [hg, hh.1]), hv2⟩, Ch.trans (hc2.mono fun _ _ _ h => .inr h) h3 fun n i _ hh => .inl hh.1, hm2⟩
end
theorem rd_drop {xs r : List Int} {a : Nat} {c : Int} (h : xs.drop a = c :: r) : rd xs a = c ∧ a < xs.length ∧ xs.drop (a + 1) = r := by
  have hlt : a < xs.length := by
    rcases Nat.lt_or_ge a xs.length with h1 | h1
    · exact h1
    · rw [List.drop_of_length_le h1] at h; cases h
  rw [List.drop_eq_getElem_cons hlt] at h
  injection h with h1 h2
  exact ⟨by rw [rd_nat xs a hlt]; exact h1, hlt, h2⟩
theorem drop_rd {xs : List Int} {a : Nat} (h : a < xs.length) : xs.drop a = rd xs a :: xs.drop (a + 1) := by rw [List.drop_eq_getElem_cons h, rd_nat xs a h]
theorem drop_more {xs ys zs : List Int} {a : Nat} (h : xs.drop a = ys ++ zs) : xs.drop (a + ys.length) = zs := by rw [← List.drop_drop, h, List.drop_left]
theorem tmod_nat (a : Int) {m : Int} (h0 : 0 < m) (h1 : m ≤ 1000000000000) : ∃ k : Nat, (k : Int) < m ∧ i64 (Int.tmod (u64 a) m) = (k : Int) := by
  have hu : 0 ≤ u64 a := by rw [u64_def]; omega
  have h2 := Int.emod_nonneg (u64 a) (show m ≠ 0 by omega)
  have h3 := Int.emod_lt_of_pos (u64 a) h0
  refine ⟨(u64 a % m).toNat, by omega, ?_⟩
  rw [Int.tmod_eq_emod_of_nonneg hu, i64_id (by omega) (by omega)]; omega
/-! ### Texts -/
theorem bsOf_size (xs : List Int) : (bsOf xs).size = xs.length := by show (List.map _ xs).toArray.size = _; simp
theorem bsOf_app (xs ys : List Int) : bsOf xs ++ bsOf ys = bsOf (xs ++ ys) := by
  apply ByteArray.ext
  rw [ByteArray.data_append]
  simp [bsOf]
theorem gBin_cat {P : Program} {t : TypeId} {xs ys : List Int} {K : ByteArray → Prop} (hl : xs.length + ys.length ≤ 1000000000000) (hk : K (bsOf (xs ++ ys))) : gBin P .add t shS (.string (bsOf xs)) (.string (bsOf ys)) K := by
  refine ⟨bsOf (xs ++ ys), fun w => ?_, hk⟩
  rw [← bsOf_app]
  rw [binOp_string_add, run_string_add_sum w _ _ (by rw [bsOf_size, bsOf_size]; omega)]
  rfl
end Go.Proofs.YtjmdoflcmipejaaV

/- copy(), and buffers that are written into. -/
namespace Go.Proofs.YtjmdoflcmipejaaV
open Go Go.RowKit
section
variable {P : Program} {w0 w : World} {F : List It}
/-- copy(b[l:h], y), where b is the whole of a buffer. -/
theorem gCopy_sub {t ty : TypeId} {k : IntKind} {g n l h : Nat} {y : Value} {zs ys : List Int} {K : Int → World → Prop} (hF : FB k (elOf P t) w g zs) (hlh : l ≤ h) (hhc : h ≤ zs.length) (hy : Nm k w y ys)
    (hk : ∀ w' m, m = min (h - l) ys.length → Ch (Bk g) w w' → w'.heap.size = w.heap.size → FB k (elOf P t) w' g (zs.take l ++ ys.take m ++ zs.drop (l + m)) → K (m : Int) w') (ht : slInt P t k = true := by kernel_rfl) :
    gCopy P #[t, t] ty #[subV 1 (.slice (some ⟨g, 0, none⟩) n zs.length) l h, y] w K := by
  obtain ⟨hu, i, hi, hsz, hby, hby1, hz⟩ := slInt_ok ht
  have hsz1 : (P.info? (elOf P t)).map (·.size) = some 1 := by rw [hi]; simp [hsz]
  obtain ⟨cur, hg, hcur, hR, hm⟩ := hF
  have hs : cur.size = zs.length := by rw [← Array.length_toList, hcur, List.length_map]
  obtain ⟨a, c, rfl, hnc, hl, hcells, hnil⟩ := hy.1
  have hgo : ∀ m : Nat, m ≤ ys.length → goInt m = .int .i64 (m : Int) := fun m _ => rfl
  by_cases h0 : min (h - l) ys.length = 0
  · have hrun : (Builtin.copy_ #[t, t] ty #[subV 1 (.slice (some ⟨g, 0, none⟩) n zs.length) l h, .slice a ys.length c]).run P w = .ok (goInt 0) w := by
      simp only [subV]
      exact run_copy_none (P := P) w t t ty _ _ _ _ _ _ _ hu hsz1 (by show min ys.length (h - l) = 0; omega)
    refine ⟨((0 : Nat) : Int), w, hrun, hk w 0 h0.symm (Ch.refl _ w) rfl ?_⟩
    refine ⟨cur, hg, ?_, ?_, ?_⟩
    · simpa using hcur
    · simpa using hR
    · simpa using hm
  · cases a with
    | none => have := hnil rfl; omega
    | some ad =>
      have hlen : ((ys.take (min (h - l) ys.length)).map (Value.int k)).length = min (h - l) ys.length := by rw [List.length_map, List.length_take]; omega
      have hrun := run_copy_row (P := P) w t t ty (elOf P t) g l (h - l) (zs.length - l) ad ys.length c cur (elOf P t) ((ys.take (min (h - l) ys.length)).map (.int k)) hu hsz1 hg (by rw [hlen]; show min _ _ = min ys.length (h - l); omega)
        (fun j u hj => hcells ad rfl j u (by
          rw [List.getElem?_map, List.getElem?_take] at hj
          rw [List.getElem?_map]
          split at hj
          · exact hj
          · simp at hj)) (by rw [hlen, hs]; omega) (fun u hu => by obtain ⟨x, _, rfl⟩ := List.mem_map.1 hu; rfl)
      have hsub : subV 1 (.slice (some ⟨g, 0, none⟩) n zs.length) l h = .slice (some ⟨g, l, none⟩) (h - l) (zs.length - l) := by
        simp only [subV]
        rw [if_neg (by omega), Option.map_some, Nat.mul_one, Addr.add_lit, Nat.zero_add]
      rw [← hsub, hlen] at hrun
      refine ⟨((min (h - l) ys.length : Nat) : Int), _, hrun, hk _ _ rfl ?_ (by simp) ⟨_, setRow_heap w g cur _ _ _ hg, ?_, ?_, ?_⟩⟩
      · refine ⟨rfl, rfl, rfl, by simp, fun j hj hn => setRow_other w g j _ fun e => hn 0 e, fun j c' e' f hj => ?_, fun k o hk ho => by rw [setRow_other w g k _ (ne_cells hg hk ho)]; exact hk⟩
        by_cases hjg : j = g
        · subst hjg
          rw [hg] at hj
          injection hj with hj; injection hj with h1 h2 h3
          subst h1; subst h2; subst h3
          exact ⟨_, setRow_heap w j cur _ _ _ hg, by simp; omega, fun i hi => absurd rfl hi⟩
        · exact ⟨c', by rw [setRow_other w g j _ hjg]; exact hj, rfl, fun _ _ => rfl⟩
      · simp only [hcur, List.map_append, List.map_take, List.map_drop]
      · exact ((hR.take l).append (hy.2.take _)).append (hR.drop _)
      · have : (zs.take l ++ ys.take (min (h - l) ys.length) ++ zs.drop (l + min (h - l) ys.length)).length = zs.length := by simp; omega
        rw [this]; exact hm
/-- A function that the model runs itself. -/
def isExt (P : Program) (f : FuncId) : Bool := match P.funcs[f]? with
  | some fn => !(fn.name == "runtime.NumGoroutine") && fn.body.isNone && (Extern.findNext fn).isNone
  | none => false
theorem run_ext {f : FuncId} {args : Array Value} {e : Array Value → Sem Value} {v : Value} (h : isExt P f = true) (he : (P.funcs[f]?).bind Extern.find = some e) (hr : (e args).run P w = .ok v w) : (callFunc f args).run P w = .ok (.value v) w := by
  unfold isExt at h
  split at h
  · rename_i fn hf
    rw [hf] at he
    simp only [Bool.and_eq_true, Bool.not_eq_true'] at h
    rw [run_callFunc_extern hf h.1.1 h.1.2 (Option.isNone_iff_eq_none.1 h.2) he, hr]; rfl
  · cases h
theorem gExt_i {f : FuncId} {args : Array Value} {e : Array Value → Sem Value} {k : IntKind} {n : Int} {K : Int → World → Prop} (he : (P.funcs[f]?).bind Extern.find = some e) (hr : (e args).run P w = .ok (.int k n) w) (hk : K n w) (h : isExt P f = true := by kernel_rfl) : gExt P f (shI k) args w K :=
  ⟨n, w, run_ext h he hr, hk⟩
/-- A buffer: all of a block. -/
def bufIt (k : IntKind) (e : TypeId) (g : Nat) (zs : List Int) : It := ⟨fun b => b = g, fun w => FB k e w g zs, fun _ _ ⟨_, h1, _⟩ hk => by rw [hk]; exact ⟨_, _, _, h1⟩, fun _ _ _ ⟨cur, h1, h2⟩ hc hs => ⟨cur, by rw [hc.blk g (hlt h1) fun i hi => hs g i rfl hi]; exact h1, h2⟩, fun _ _ ⟨cur, h1, h2⟩ _ hc => ⟨cur, by rw [hc _ _ _ _ h1]; exact h1, h2⟩⟩
theorem fMake_len {t : TypeId} {k : IntKind} {n : Nat} {K : Value → World → Prop} (f : Fr w0 w F) (hn : n * 8 ≤ 281474976710656)
    (hk : ∀ g w', Fr w0 w' (bufIt k (elOf P t) g (List.replicate n 0) :: F) → K (.slice (some ⟨g, 0, none⟩) n n) w') (ht : slInt P t k = true := by kernel_rfl) : gMake P t (.int .i64 (n : Int)) (.int .i64 (n : Int)) w K := by
  obtain ⟨hu, i, hi, hsz, hby, hby1, hz⟩ := slInt_ok ht
  have h48 : i.bytes * (n : Int) ≤ 2 ^ 48 := by
    have : (i.bytes * n : Nat) ≤ n * 8 := by rw [Nat.mul_comm]; exact Nat.mul_le_mul_left n hby
    have h2 : ((i.bytes * n : Nat) : Int) ≤ 281474976710656 := by omega
    rw [Int.natCast_mul] at h2; simpa using h2
  have hw : IntKind.wrap .i64 (n : Int) = n := by have := i64_id (n := (n : Int)) (by omega) (by omega); simpa [i64] using this
  have hrun : (Instr.makeSlice t (.int .i64 (n : Int)) (.int .i64 (n : Int))).run P w = .ok (.slice (some ⟨w.heap.size, 0, none⟩) n n) (w.alloc (.cells (Array.replicate n (.int k 0)) (elOf P t))) := by
    simp only [Instr.makeSlice, Sem.run_bind, run_underlying hu, Result.andThen_ok, asInt, asIntOf, Sem.run_pure, typeInfo, run_program, hi, hw]
    have h1 : ¬ ((n : Int) < 0) := by omega
    have h2 : ¬ ((i.bytes : Int) * (n : Int) > 2 ^ 48) := by omega
    simp only [h1, h2, decide_false, Bool.or_self, Bool.false_or, gt_iff_lt, Int.lt_irrefl, if_false, Bool.false_eq_true]
    have har : (askRoom (Int.toNat (n : Int) * i.bytes)).run P w = .ok () w := by unfold askRoom; split <;> rfl
    simp only [har, Result.andThen_ok, sizeOf, typeInfo, Sem.run_bind, run_program, hi, Sem.run_pure, hsz, Int.toNat_natCast, Nat.mul_one, zeroValue, hz]
    by_cases h0 : n = 0
    · subst h0; have he : ∀ f : Nat → Value, Array.map f (Array.range 0) = #[] := fun f => Array.eq_empty_of_size_eq_zero (by simp)
      simp [newRow, he]
    · simp only [h0, if_false, Sem.run_bind, run_program, Result.andThen_ok, hi, hz, Sem.run_pure, newRow]
      simp [Value.cells]
      congr 2
      apply Array.ext
      · simp
      · intro j h1 h2; simp [Nat.mod_one]
  refine ⟨_, _, hrun, hk _ _ (f.new (Ev.alloc w _) (jt := bufIt k (elOf P t) w.heap.size (List.replicate n 0)) ⟨_, heap_alloc_new w _, by simp, inR_rep k n, ?_⟩ fun b hb => by rw [show b = w.heap.size from hb]; exact Nat.le_refl _)⟩
  unfold maxLen; rw [List.length_replicate]; omega
theorem fCopy {t ty : TypeId} {k : IntKind} {g n l h c : Nat} {y : Value} {zs ys : List Int} {K : Int → World → Prop} (f : Fr w0 w F) (i : Nat) (hi : F[i]? = some (bufIt k (elOf P t) g zs)) (hc : zs.length = c) (hlh : l ≤ h) (hhc : h ≤ c) (hy : Nm k w y ys)
    (hk : ∀ w' m, m = min (h - l) ys.length → Fr w0 w' (F.set i (bufIt k (elOf P t) g (zs.take l ++ ys.take m ++ zs.drop (l + m)))) → K (m : Int) w') (ht : slInt P t k = true := by kernel_rfl) :
    gCopy P #[t, t] ty #[subV 1 (.slice (some ⟨g, 0, none⟩) n c) l h, y] w K := by
  subst hc
  exact gCopy_sub (f.get i hi) hlh hhc hy (fun w' m hm hc _ hF => hk w' m hm (f.upd i hi hc (fun k _ hh => .inl hh) hF fun k hk => .inl hk)) ht
end
end Go.Proofs.YtjmdoflcmipejaaV

/- Arrays: loaded whole, indexed, sliced, copied into. -/
namespace Go.Proofs.YtjmdoflcmipejaaV
open Go Go.RowKit
def slLen : Value → Nat
  | .slice _ n _ => n
  | _ => 0
theorem Nm.slLen {k : IntKind} {w : World} {v : Value} {xs : List Int} (h : Nm k w v xs) : slLen v = xs.length := by obtain ⟨a, c, rfl, _⟩ := h.shape; rfl
section
variable {P : Program} {w0 w : World} {F : List It}
theorem gLoad_arr {t : TypeId} {ad : Addr} {K : Array Value → Prop} (vs : List Value) (hc : ∀ j u, vs[j]? = some u → w.cell? (ad.add j) = some u) (hk : K vs.toArray) (ht : aggB P t vs.length = true) : gLoad P t shA (.pointer (some ad)) w K :=
  ⟨vs.toArray, run_loadAgg hc ht, hk⟩
theorem fLoadArr {t : TypeId} {ad : Addr} {cs : List Value} {K : Array Value → Prop} (h : Fr w0 w F) (i : Nat) (hi : F[i]? = some (sIt ad cs)) (hk : K cs.toArray) (ht : aggB P t cs.length = true) : gLoad P t shA (.pointer (some ad)) w K :=
  gLoad_arr cs (fun j u hj => h.cell i j hi hj) hk ht
theorem gSlice_arr {t : TypeId} {ad : Addr} {n sz : Nat} {K : Value → Prop} (hk : K (.slice (some ad) n n)) (ht : arSz P t n sz = true) : gSlice P t (.pointer (some ad)) none none none K := by
  unfold arSz at ht
  split at ht
  · rename_i m e hu
    simp only [Bool.and_eq_true] at ht
    have hm := Nat.eq_of_beq_eq_true ht.1
    subst hm
    obtain ⟨i, hi⟩ : ∃ i, P.info? e = some i := by
      have := ht.2
      split at this
      · rename_i i hi; exact ⟨i, hi⟩
      · cases this
    refine ⟨_, fun w => ?_, hk⟩
    have hb : (Instr.sliceBounds false m m none none none).run P w = .ok (0, m, m) w := by simp [Instr.sliceBounds, Instr.sliceBound]
    simp only [Instr.sliceAt, Instr.sureAddr, Sem.run_bind, Sem.run_pure, run_underlying hu, Result.andThen_ok, hb, sizeOf, typeInfo, run_program, hi]
    simp [Addr.add_zero']
  · cases ht
theorem gIndex_arr {t : TypeId} {k ki : IntKind} {cs : Array Value} {xs : List Int} {i : Int} {K : Int → Prop} (n j : Nat) (hcs : cs.toList = xs.map (.int k)) (hn : xs.length = n) (hij : i = (j : Int)) (hj : j < n) (hk : K (rd xs j)) (ht : arSz P t n 1 = true := by kernel_rfl) (hf : (match P.underlying t with | some (.array _ e) => (match P.underlying e with | some (.int _) => true | _ => false) | _ => false) = true := by kernel_rfl) : gIndex P t (shI k) (.agg cs) (.int ki i) K := by
  subst hij
  unfold arSz at ht
  split at ht
  · rename_i m e hu
    simp only [Bool.and_eq_true] at ht
    have hm := Nat.eq_of_beq_eq_true ht.1
    subst hm
    rw [hu] at hf
    dsimp only at hf
    have hek : ∃ k', P.underlying e = some (.int k') := by
      split at hf
      · rename_i k' hk'; exact ⟨k', hk'⟩
      · cases hf
    obtain ⟨k', hek⟩ := hek
    obtain ⟨ii, hi, hsz⟩ : ∃ i, P.info? e = some i ∧ i.size = 1 := by
      have := ht.2
      split at this
      · rename_i i hi; exact ⟨i, hi, Nat.eq_of_beq_eq_true this⟩
      · cases this
    have hget : cs[j]? = some (.int k (rd xs j)) := by
      rw [← Array.getElem?_toList, hcs, List.getElem?_map, List.getElem?_eq_getElem (by omega), rd_nat xs j (by omega)]; rfl
    refine ⟨rd xs j, fun w => ?_, hk⟩
    simp only [Instr.index, asIntOf, Sem.run_bind, Sem.run_pure, Result.andThen_ok, run_underlying hu]
    rw [if_pos ⟨by omega, by omega⟩]
    simp only [Sem.run_bind, sizeOf, typeInfo, run_program, Result.andThen_ok, hi, Sem.run_pure, hsz, Int.toNat_natCast, Nat.mul_one]
    unfold part
    have hlt : j < cs.size := (Array.getElem?_eq_some_iff.1 hget).1
    simp [isAgg, run_underlying hek, hget]
    rfl
  · cases ht
/-- An array, as a slice. -/
theorem Nm.of_st {k : IntKind} {ad : Addr} {xs : List Int} {n : Nat} (h : St w ad (xs.map (.int k))) (hr : inR k xs) (hn : xs.length = n) : Nm k w (.slice (some ad) n n) xs := by
  subst hn
  exact ⟨⟨some ad, xs.length, rfl, Nat.le_refl _, by simp, fun ad' ha j u hj => by injection ha with ha; subst ha; exact h.cell hj, fun h => by cases h⟩, hr⟩
theorem Fr.arr {k : IntKind} {ad : Addr} {xs : List Int} {n : Nat} (h : Fr w0 w F) (i : Nat) (hi : F[i]? = some (sIt ad (xs.map (.int k)))) (hr : inR k xs) (hn : xs.length = n) : Nm k w (.slice (some ad) n n) xs := Nm.of_st (h.get i hi) hr hn
/-- copy(a[:], y). -/
theorem fCopyA {t ty : TypeId} {k : IntKind} {ad : Addr} {n c : Nat} {y : Value} {zs ys : List Int} {K : Int → World → Prop} (f : Fr w0 w F) (i : Nat) (hi : F[i]? = some (sIt ad (zs.map (.int k)))) (hn : zs.length = n) (hy : Nm k w y ys)
    (hk : ∀ w' m, m = min n ys.length → Fr w0 w' (F.set i (sIt ad ((ys.take m ++ zs.drop m).map (.int k)))) → K (m : Int) w') (ht : slInt P t k = true := by kernel_rfl) :
    gCopy P #[t, t] ty #[.slice (some ad) n c, y] w K := by
  obtain ⟨hu, ii, hii, hsz, hby, hby1, hz⟩ := slInt_ok ht
  have hsz1 : (P.info? (elOf P t)).map (·.size) = some 1 := by rw [hii]; simp [hsz]
  have hS : St w ad (zs.map (.int k)) := f.get i hi
  obtain ⟨a, cy, rfl, hnc, hl, hcells, hnil⟩ := hy.1
  by_cases h0 : min n ys.length = 0
  · have hrun := run_copy_none (P := P) w t t ty (elOf P t) (some ad) a n c ys.length cy hu hsz1 (by show min ys.length n = 0; omega)
    refine ⟨((0 : Nat) : Int), w, hrun, hk w 0 h0.symm ?_⟩
    have := f.upd (jt := sIt ad ((ys.take 0 ++ zs.drop 0).map (.int k))) (S := No) i hi (Ch.refl _ w) (fun _ _ h => h.elim) (by rw [List.take_zero, List.drop_zero, List.nil_append]; exact hS) fun k hk => .inl hk
    exact this
  · cases a with
    | none => have := hnil rfl; omega
    | some sd =>
      obtain ⟨hsp, cur, e, hg, hcur⟩ := hS
      obtain ⟨b, o, s⟩ := ad
      cases hsp
      dsimp only at hg hcur
      have hlen : ((ys.take (min n ys.length)).map (Value.int k)).length = min n ys.length := by rw [List.length_map, List.length_take]; omega
      have hfit : o + min n ys.length ≤ cur.size := by
        have h1 := hcur (min n ys.length - 1) (.int k (zs[min n ys.length - 1]'(by omega))) (by rw [List.getElem?_map, List.getElem?_eq_getElem (by omega)]; rfl)
        have := (Array.getElem?_eq_some_iff.1 h1).1
        omega
      have hrun := run_copy_row (P := P) w t t ty (elOf P t) b o n c sd ys.length cy cur e ((ys.take (min n ys.length)).map (.int k)) hu hsz1 hg (by rw [hlen]; show min _ _ = min ys.length n; omega)
        (fun j u hj => hcells sd rfl j u (by
          rw [List.getElem?_map, List.getElem?_take] at hj
          rw [List.getElem?_map]
          split at hj
          · exact hj
          · simp at hj)) (by rw [hlen]; exact hfit) (fun u hu => by obtain ⟨x, _, rfl⟩ := List.mem_map.1 hu; rfl)
      rw [hlen] at hrun
      refine ⟨((min n ys.length : Nat) : Int), _, hrun, hk _ _ rfl ?_⟩
      refine f.upd (jt := sIt ⟨b, o, none⟩ ((ys.take (min n ys.length) ++ zs.drop (min n ys.length)).map (.int k))) (S := Bk b) i hi ?_ (fun k _ hh => .inl hh) ⟨rfl, _, e, setRow_heap w b cur _ _ _ hg, fun j u hj => ?_⟩ fun k hk => .inl hk
      · refine ⟨rfl, rfl, rfl, by simp, fun j hj hn => setRow_other w b j _ fun e => hn 0 e, fun j c' e' f hj => ?_, fun k o hk ho => by rw [setRow_other w b k _ (ne_cells hg hk ho)]; exact hk⟩
        by_cases hjg : j = b
        · subst hjg
          rw [hg] at hj
          injection hj with hj; injection hj with h1 h2 h3
          subst h1; subst h2; subst h3
          exact ⟨_, setRow_heap w j cur _ _ _ hg, by simp; omega, fun i hi => absurd rfl hi⟩
        · exact ⟨c', by rw [setRow_other w b j _ hjg]; exact hj, rfl, fun _ _ => rfl⟩
      · show (Array.mk _)[o + j]? = some u
        rw [List.getElem?_toArray]
        have hto : (cur.toList.take o).length = o := by rw [List.length_take, Array.length_toList]; omega
        rw [List.append_assoc, List.getElem?_append_right (by omega), hto, Nat.add_sub_cancel_left]
        rw [List.map_append] at hj
        rw [List.getElem?_append] at hj ⊢
        split at hj
        · rename_i hlt
          rw [if_pos hlt]; exact hj
        · rename_i hge
          rw [if_neg hge]
          rw [hlen] at hge hj ⊢
          rw [List.getElem?_map, List.getElem?_drop] at hj
          rw [List.getElem?_drop, Array.getElem?_toList]
          have := hcur (min n ys.length + (j - min n ys.length)) u (by rw [List.getElem?_map]; exact hj)
          rw [← Nat.add_assoc] at this
          exact this
/-- A slice of values of one cell each. -/
theorem ownsRow_ch {S : SS} {w w' : World} {e : TypeId} {B n : Nat} {v : Value} {cs : List Value} (h : w.ownsRow B e 1 v n cs) (hc : Ch S w w') (hs : ∀ g i, v.ownBlock = some g → ¬ S g i) : w'.ownsRow B e 1 v n cs := by
  refine ⟨h.1, ?_⟩
  rcases h.2 with hn | ⟨g, cap, cur, rfl, hb, hg, r⟩
  · exact .inl hn
  · exact .inr ⟨g, cap, cur, rfl, hb, by rw [hc.blk g (hlt hg) (fun i => hs g i rfl)]; exact hg, r⟩
def lIt (e : TypeId) (v : Value) (us : List Value) : It := ⟨fun b => v.ownBlock = some b, fun w => w.ownsRow 0 e 1 v us.length us, fun w k h hk => by
    rcases h.2 with ⟨rfl, _⟩ | ⟨g', cap, cur, rfl, hb, hh, r⟩
    · cases hk
    · simp [Value.ownBlock] at hk; subst hk; exact ⟨_, _, _, hh⟩, fun _ _ _ h hc hs => ownsRow_ch h hc hs, fun w w' h _ hc => by
    refine ⟨h.1, ?_⟩
    rcases h.2 with hn | ⟨g, cap, cur, rfl, hb, hg, r⟩
    · exact .inl hn
    · exact .inr ⟨g, cap, cur, rfl, hb, by rw [hc _ _ _ _ hg]; exact hg, r⟩⟩
theorem Fr.sl {e : TypeId} {v : Value} {us : List Value} (h : Fr w0 w F) (i : Nat) (hi : F[i]? = some (lIt e v us)) : Sl w 1 v us.length us := Sl.of_own (h.get i hi)
theorem fLitV {t : TypeId} {n : Nat} {parts : Array (Nat × Value)} {K : Value → World → Prop} (us : List Value) (h : Fr w0 w F) (hp : parts.toList = enumV 0 us) (hn : us.length = n) (h1 : ∀ v ∈ us, v.cells = #[v])
    (hk : ∀ v w', Fr w0 w' (lIt (elOf P t) v us :: F) → K v w') (hm : n ≤ 1000000 := by decide) (ht : sl1 P t = true := by kernel_rfl) : gLit P t n parts w K :=
  gLit_1 us hp hn hm h1 (fun v w' he ho => hk v w' (h.new (jt := lIt (elOf P t) v us) he (by
    subst hn
    refine ⟨ho.1, ?_⟩
    rcases ho.2 with hh | ⟨g, cap, cur, e1, hb, r⟩
    · exact .inl hh
    · exact .inr ⟨g, cap, cur, e1, Nat.zero_le _, r⟩) fun k hk => (ho.lt k hk).1)) ht
/-- Some of them, in another order. -/
theorem Fr.picks (h : Fr w0 w F) : ∀ (is : List Nat), is.Nodup → Fr w0 w (is.filterMap fun i => F[i]?)
  | [], _ => h.old
  | i :: r, hd => by
    have ih := h.picks r (List.nodup_cons.1 hd).2
    cases hi : F[i]? with
    | none => rw [List.filterMap_cons_none hi]; exact ih
    | some it =>
      rw [List.filterMap_cons_some hi]
      have hm := h.mem (List.mem_of_getElem? hi)
      refine ⟨hm.1, hm.2, fun jt hj k hk => ?_, ih⟩
      obtain ⟨j, hj1, hj2⟩ := List.mem_filterMap.1 hj
      have hne : i ≠ j := fun e => (List.nodup_cons.1 hd).1 (e ▸ hj1)
      exact h.apart hi hj2 hne k hk
theorem Fr.dropN : ∀ {F : List It} (n : Nat), Fr w0 w F → Fr w0 w (F.drop n)
  | _, 0, h => h
  | [], _ + 1, h => h
  | _ :: _, n + 1, h => Fr.dropN n h.2.2.2
/-- Some of the first n, in another order, ahead of the others. -/
theorem Fr.picksN (h : Fr w0 w F) (n : Nat) : ∀ (is : List Nat), is.Nodup → (∀ i ∈ is, i < n) → Fr w0 w ((is.filterMap fun i => F[i]?) ++ F.drop n)
  | [], _, _ => h.dropN n
  | i :: r, hd, hn => by
    have ih := h.picksN n r (List.nodup_cons.1 hd).2 fun j hj => hn j (by simp [hj])
    cases hi : F[i]? with
    | none => rw [List.filterMap_cons_none hi]; exact ih
    | some it =>
      rw [List.filterMap_cons_some hi]
      have hm := h.mem (List.mem_of_getElem? hi)
      refine ⟨hm.1, hm.2, fun jt hj k hk => ?_, ih⟩
      rcases List.mem_append.1 hj with hj | hj
      · obtain ⟨j, hj1, hj2⟩ := List.mem_filterMap.1 hj
        have hne : i ≠ j := fun e => (List.nodup_cons.1 hd).1 (e ▸ hj1)
        exact h.apart hi hj2 hne k hk
      · obtain ⟨q, hq⟩ := List.mem_iff_getElem?.1 hj
        rw [List.getElem?_drop] at hq
        have := hn i (by simp)
        exact h.apart hi hq (by omega) k hk
/-- What was made behind a world, put to what was made ahead of it. -/
theorem Fr.glue {w1 : World} : ∀ {G : List It}, Fr w0 w1 F → Fr w1 w G → Fr w0 w (G ++ F)
  | [], h, h2 => h.ev h2
  | it :: G, h, h2 => by
    refine ⟨h2.1, fun k hk => Nat.le_trans h.old.size (h2.2.1 k hk), fun jt hj k hk hjk => ?_, Fr.glue h h2.2.2.2⟩
    rcases List.mem_append.1 hj with hj | hj
    · exact h2.2.2.1 jt hj k hk hjk
    · have h3 := h2.2.1 k hk
      have h4 := jt.lt w1 k (h.mem hj).1 hjk
      omega
end
end Go.Proofs.YtjmdoflcmipejaaV

/- Rows of things of several cells each, owned: append, store, load, make, part. -/
namespace Go.Proofs.YtjmdoflcmipejaaV
open Go Go.RowKit
section
variable {P : Program} {w0 w : World} {F : List It}
theorem Sl.of_ownS {B n sz : Nat} {e : TypeId} {v : Value} {cs : List Value} (h : w.ownsRow B e sz v n cs) : Sl w sz v n cs := by
  obtain ⟨h1, h2⟩ := h
  rcases h2 with ⟨rfl, h0⟩ | ⟨g, cap, cur, rfl, hb, hg, hn, hm, hs, ht⟩
  · exact ⟨none, 0, by rw [h0], by omega, h1, (fun _ h => by cases h), fun _ => h0⟩
  · refine ⟨some ⟨g, 0, none⟩, cap, rfl, hn, h1, fun ad ha j u hj => ?_, fun h => by cases h⟩
    injection ha with ha; subst ha
    exact World.ownsRow.cells ⟨h1, .inr ⟨g, cap, cur, rfl, hb, hg, hn, hm, hs, ht⟩⟩ (g := g) rfl j u hj
theorem ownsRow_chS {S : SS} {w w' : World} {e : TypeId} {B n sz : Nat} {v : Value} {cs : List Value} (h : w.ownsRow B e sz v n cs) (hc : Ch S w w') (hs : ∀ g i, v.ownBlock = some g → ¬ S g i) : w'.ownsRow B e sz v n cs := by
  refine ⟨h.1, ?_⟩
  rcases h.2 with hn | ⟨g, cap, cur, rfl, hb, hg, r⟩
  · exact .inl hn
  · exact .inr ⟨g, cap, cur, rfl, hb, by rw [hc.blk g (hlt hg) (fun i => hs g i rfl)]; exact hg, r⟩
/-- A row of n things of sz cells each. -/
def rIt (e : TypeId) (sz : Nat) (v : Value) (n : Nat) (cs : List Value) : It := ⟨fun b => v.ownBlock = some b, fun w => w.ownsRow 0 e sz v n cs, fun w k h hk => by
    rcases h.2 with ⟨rfl, _⟩ | ⟨g', cap, cur, rfl, hb, hh, r⟩
    · cases hk
    · simp [Value.ownBlock] at hk; subst hk; exact ⟨_, _, _, hh⟩, fun _ _ _ h hc hs => ownsRow_chS h hc hs, fun w w' h _ hc => by
    refine ⟨h.1, ?_⟩
    rcases h.2 with hn | ⟨g, cap, cur, rfl, hb, hg, r⟩
    · exact .inl hn
    · exact .inr ⟨g, cap, cur, rfl, hb, by rw [hc _ _ _ _ hg]; exact hg, r⟩⟩
theorem Fr.row {e : TypeId} {sz n : Nat} {v : Value} {cs : List Value} (h : Fr w0 w F) (i : Nat) (hi : F[i]? = some (rIt e sz v n cs)) : Sl w sz v n cs := Sl.of_ownS (h.get i hi)
theorem Fr.nilR (h : Fr w0 w F) (e : TypeId) (sz : Nat) : Fr w0 w (rIt e sz (.slice none 0 0) 0 [] :: F) :=
  h.new (Ch.refl _ w) (World.ownsRow_nil w 0 e sz) fun _ hk => by cases hk
theorem rIt_low {e : TypeId} {sz n B : Nat} {v : Value} {cs : List Value} (h : w.ownsRow B e sz v n cs) : w.ownsRow 0 e sz v n cs := by
  refine ⟨h.1, ?_⟩
  rcases h.2 with hh | ⟨g, cap, cur, e1, hb, r⟩
  · exact .inl hh
  · exact .inr ⟨g, cap, cur, e1, Nat.zero_le _, r⟩
def slRow (P : Program) (t : TypeId) (sz by' : Nat) : Bool := match P.underlying t with
  | some (.slice e) => match P.info? e with
    | some i => Nat.beq i.size sz && Nat.ble i.bytes by' && (match i.zero with | some z => Nat.beq z.cells.size sz | none => false)
    | none => false
  | _ => false
theorem slRow_ok {t : TypeId} {sz b : Nat} (h : slRow P t sz b = true) : P.underlying t = some (.slice (elOf P t)) ∧ ∃ i z, P.info? (elOf P t) = some i ∧ i.zero = some z ∧ i.size = sz ∧ z.cells.size = sz ∧ i.bytes ≤ b := by
  unfold slRow at h
  split at h
  · rename_i e hu
    have he : elOf P t = e := by unfold elOf; rw [hu]
    rw [he]
    split at h
    · rename_i i hi
      simp only [Bool.and_eq_true] at h
      obtain ⟨⟨h1, h2⟩, h3⟩ := h
      split at h3
      · rename_i z hz
        exact ⟨hu, i, z, hi, hz, Nat.eq_of_beq_eq_true h1, Nat.eq_of_beq_eq_true h3, Nat.le_of_ble_eq_true h2⟩
      · cases h3
    · cases h
  · cases h
theorem run_append_ownS (t ty : TypeId) {e : TypeId} {i : TypeInfo} {z : Value} {sz : Nat} (ht : P.underlying t = some (.slice e)) (hi : P.info? e = some i) (hz : i.zero = some z) (hsize : i.size = sz) (hzs : z.cells.size = sz) (hsz : 0 < sz)
    {B : Nat} {v : Value} {n : Nat} {xs : List Value} (hown : w.ownsRow B e sz v n xs) {y : Value} {m : Nat} {news : List Value} (hy : Sl w sz y m news) (h1 : ∀ u ∈ news, u.oneCell' = true)
    (hb : (n + m) * i.bytes ≤ 140737488355328) (h63 : n + m ≤ maxLen) (hbase : B ≤ w.heap.size) :
    ∃ v' w', (Builtin.append_ #[t, t] ty #[v, y]).run P w = .ok v' w' ∧ w'.ownsRow B e sz v' (n + m) (xs ++ news) ∧ Ch (Ob v) w w' ∧ Moved w v v' := by
  obtain ⟨a, c, rfl, hnc, hl, hcells, hnil⟩ := hy
  have hcl : ∀ k, v.ownBlock = some k → ∃ c e f, w.heap[k]? = some (.cells c e f) := fun k hk => by
    rcases hown.2 with ⟨rfl, _⟩ | ⟨g, cap, cur, rfl, _, hg, _⟩
    · cases hk
    · simp [Value.ownBlock] at hk; subst hk; exact ⟨_, _, _, hg⟩
  have ofg : ∀ {w' : World}, w.grownBy w' v.ownBlock → (∀ k c e f, v.ownBlock = some k → w.heap[k]? = some (.cells c e f) → ∃ c', w'.heap[k]? = some (.cells c' e f) ∧ c'.size = c.size) → Ch (Ob v) w w' := fun {w'} hg hsh => by
    refine ⟨hg.os, hg.tape, hg.output, hg.size, fun k hk hn => hg.block k hk fun e => hn 0 e.symm, fun k c e f hc => ?_, fun k o hk ho => by
      rw [hg.block k (hlt hk) (fun e => by obtain ⟨c, e2, f, hc⟩ := hcl k e.symm; exact ne_cells hc hk ho rfl)]; exact hk⟩
    by_cases hk : v.ownBlock = some k
    · obtain ⟨c', h1, h2⟩ := hsh k c e f hk hc
      exact ⟨c', h1, h2, fun i hi => absurd hk hi⟩
    · exact ⟨c, by rw [hg.block k (hlt hc) (fun e => hk e.symm)]; exact hc, rfl, fun _ _ => rfl⟩
  have nil0 : ∀ {l : List Value}, l.length = 0 * sz → l = [] := fun h => List.eq_nil_of_length_eq_zero (by rw [h, Nat.zero_mul])
  cases a with
  | none =>
    have hm := hnil rfl
    subst hm
    have hn0 : news = [] := nil0 hl
    subst hn0
    refine ⟨v, w, ?_, by simpa using hown, Ch.refl _ w, .inl rfl⟩
    rcases hown.2 with ⟨rfl, rfl⟩ | ⟨g, cap, cur, rfl, hbg, hg, hn, hm, hcs, htk⟩
    · simp [Builtin.append_, run_underlying ht, sizeOf, typeInfo, hi, Builtin.lenOf, Builtin.firstCells]
    · simp [Builtin.append_, run_underlying ht, sizeOf, typeInfo, hi, Builtin.lenOf, Builtin.firstCells, hn, storeCells]
  | some ad =>
    obtain ⟨v', w', hr, ho, hg, _⟩ := run_append_own (P := P) w B t ty e i z sz i.bytes ht hi hz hsize rfl hzs hsz v n xs hown ad m c news hl (hcells ad rfl) h1 h63 hb hbase
    refine ⟨v', w', hr, ho, ?_⟩
    rcases hown.2 with ⟨rfl, rfl⟩ | ⟨g, cap, cur, rfl, hbg, hgg, hn, hm', hcs, htk⟩
    · by_cases hm0 : m = 0
      · subst hm0
        have hn0 : news = [] := nil0 hl
        subst hn0
        have hr2 : (Builtin.append_ #[t, t] ty #[.slice none 0 0, .slice (some ad) 0 c]).run P w = .ok (.slice none 0 0) w := by
          simp [Builtin.append_, run_underlying ht, sizeOf, typeInfo, hi, Builtin.lenOf, Builtin.firstCells, loadCells, loadCellsFrom]
        rw [hr2] at hr; injection hr with e1 e2; subst e1; subst e2
        exact ⟨Ch.refl _ w, .inl rfl⟩
      · have hr2 := run_append_nil (P := P) w t ty e i z ht hi hz ad m c news (by rw [hsize]; exact hl) (hcells ad rfl) (by omega) (by unfold maxLen at h63; omega) (by simp only [Nat.zero_add] at hb; omega)
        rw [hr2] at hr; injection hr with e1 e2; subst e1
        refine ⟨ofg hg (fun k c e f hk => by cases hk), .inr fun g hg' => ?_⟩
        simp [Value.ownBlock] at hg'; omega
    · by_cases hroom : n + m ≤ cap
      · have hfit : n * i.size + news.length ≤ cur.size := by rw [hl, hsize, hcs, ← Nat.add_mul]; exact Nat.mul_le_mul_right _ hroom
        have hr2 := run_append_room (P := P) w t ty e i ht hi g n cap cur hgg ad m c news (by rw [hsize]; exact hl) (hcells ad rfl) h1 hroom hfit
        rw [hr2] at hr; injection hr with e1 e2; subst e1; subst e2
        refine ⟨ofg hg (fun k c' e' f hk hc => ?_), .inl rfl⟩
        simp [Value.ownBlock] at hk; subst hk
        rw [hgg] at hc; injection hc with hc; injection hc with hc1 hc2 hc3
        subst hc1; subst hc2; subst hc3
        refine ⟨_, setRow_heap w g cur _ e _ hgg, ?_⟩
        simp; omega
      · have holds : ∀ j u, xs[j]? = some u → w.cell? ((⟨g, 0, none⟩ : Addr).add j) = some u := hown.cells (g := g) rfl
        have hr2 := run_append_grow (P := P) w t ty e i z ht hi hz ⟨g, 0, none⟩ n cap xs (by rw [hsize]; exact hown.1) holds ad m c news (by rw [hsize]; exact hl) (hcells ad rfl) (by omega) (by unfold maxLen at h63; omega) (growslice_fits (by omega) hb)
        rw [hr2] at hr; injection hr with e1 e2; subst e1
        have he2 := e2
        refine ⟨ofg hg (fun k c' e' f hk hc => ⟨c', ?_, rfl⟩), .inr fun g' hg' => ?_⟩
        · rw [← he2]
          show (w.heap.push _)[k]? = _
          rw [Array.getElem?_push, if_neg (by have := hlt hc; omega)]; exact hc
        · simp [Value.ownBlock] at hg'; omega
/-- Appending to a row of one's own. -/
theorem fAppR {t ty : TypeId} {sz n m : Nat} {v y : Value} {cs ds : List Value} {K : Value → World → Prop} (b : Nat) (h : Fr w0 w F) (i : Nat) (hi : F[i]? = some (rIt (elOf P t) sz v n cs)) (hy : Sl w sz y m ds) (h1 : ∀ u ∈ ds, u.oneCell' = true) (hb : (n + m) * b ≤ 140737488355328) (hm : n + m ≤ maxLen)
    (hk : ∀ v' w', Fr w0 w' (F.set i (rIt (elOf P t) sz v' (n + m) (cs ++ ds))) → K v' w') (ht : slRow P t sz b = true := by kernel_rfl) (hsz : 0 < sz := by decide) : gApp P #[t, t] ty #[v, y] w K := by
  obtain ⟨hu, ii, z, hii, hz, hs, hzs, hbb⟩ := slRow_ok ht
  obtain ⟨v', w', hr, ho, hc, hmv⟩ := run_append_ownS (P := P) t ty hu hii hz hs hzs hsz (h.get i hi) hy h1 (Nat.le_trans (Nat.mul_le_mul_left _ hbb) hb) hm (Nat.zero_le _)
  refine ⟨v', w', hr, hk v' w' (h.upd i hi hc (fun k _ hh => .inl hh) ho fun k hk => ?_)⟩
  rcases hmv with hmv | hmv
  · have hk : v'.ownBlock = some k := hk
    rw [hmv] at hk; exact .inl hk
  · exact .inr (hmv k hk)
/-- Appending to nothing. -/
theorem fAppR0 {t ty : TypeId} {sz m : Nat} {y : Value} {ds : List Value} {K : Value → World → Prop} (b : Nat) (h : Fr w0 w F) (hy : Sl w sz y m ds) (h1 : ∀ u ∈ ds, u.oneCell' = true) (hb : m * b ≤ 140737488355328) (hm : m ≤ maxLen)
    (hk : ∀ v' w', Fr w0 w' (rIt (elOf P t) sz v' m ds :: F) → K v' w') (ht : slRow P t sz b = true := by kernel_rfl) (hsz : 0 < sz := by decide) : gApp P #[t, t] ty #[.slice none 0 0, y] w K :=
  fAppR b (h.nilR (elOf P t) sz) 0 rfl hy h1 (by rw [Nat.zero_add]; exact hb) (by rw [Nat.zero_add]; exact hm) (fun v' w' f => by
    rw [Nat.zero_add, List.nil_append] at f; exact hk v' w' f) ht hsz
/-- make of a row. -/
theorem fMakeR {t : TypeId} {n sz : Nat} {K : Value → World → Prop} (b : Nat) (z : Value) (h : Fr w0 w F) (hn : b * n ≤ 281474976710656) (hm : n ≤ maxLen)
    (hk : ∀ v w', Fr w0 w' (rIt (elOf P t) sz v n (madeCells z.cells (n * sz)).toList :: F) → K v w') (hz : (P.info? (elOf P t)).bind (·.zero) = some z) (ht : slRow P t sz b = true := by kernel_rfl) : gMake P t (.int .i64 (n : Int)) (.int .i64 (n : Int)) w K := by
  obtain ⟨hu, ii, z', hii, hz', hs, hzs, hbb⟩ := slRow_ok ht
  rw [hii] at hz
  simp only [Option.bind_some] at hz
  rw [hz] at hz'; injection hz' with hz'; subst hz'
  obtain ⟨w', hr, ho, hg⟩ := run_make_full (P := P) w w.heap.size t (elOf P t) ii z sz hu hii hz hs .i64 .i64 n (Nat.le_trans (Nat.mul_le_mul_right _ hbb) hn) hm (Nat.le_refl _)
  refine ⟨_, w', hr, hk _ w' (h.new ?_ (rIt_low ho) fun k hk => (ho.lt k hk).1)⟩
  exact ⟨hg.os, hg.tape, hg.output, hg.size, fun k hk _ => hg.block k hk (by simp), fun k c e f hc => ⟨c, by rw [hg.block k (hlt hc) (by simp)]; exact hc, rfl, fun _ _ => rfl⟩, fun k o hk _ => by rw [hg.block k (hlt hk) (by simp)]; exact hk⟩
/-- Where the j-th of a row stands. -/
def SltR (v : Value) (j sz : Nat) (ad : Addr) : Prop := ∃ g n c, v = .slice (some ⟨g, 0, none⟩) n c ∧ ad = ⟨g, j * sz, none⟩
theorem gIdx_r {t e : TypeId} {ki : IntKind} {B sz n j : Nat} {v : Value} {cs : List Value} {i : Int} {K : Addr → Prop} (h : w.ownsRow B e sz v n cs) (hij : i = (j : Int)) (h1 : j < n) (hk : ∀ ad, SltR v j sz ad → K ad) (ht : slSz P t sz = true := by kernel_rfl) : gIdx P t v (.int ki i) K := by
  obtain ⟨hu, ii, hi, hsz⟩ := slSz_ok ht
  subst hij
  rcases h.2 with ⟨rfl, hn⟩ | ⟨g, cap, cur, rfl, hb, hg, hn, hm, hs, htk⟩
  · omega
  · refine ⟨⟨g, j * sz, none⟩, fun w => ?_, hk _ ⟨g, _, _, rfl, rfl⟩⟩
    simp only [Instr.indexAt, asIntOf, Sem.run_bind, Sem.run_pure, Result.andThen_ok, run_underlying hu]
    rw [if_pos ⟨by omega, by omega⟩]
    simp [sizeOf, typeInfo, hi, hsz, Addr.add_lit]
theorem SltR.cell {e : TypeId} {B sz n j q : Nat} {v u : Value} {cs : List Value} {ad : Addr} (h : w.ownsRow B e sz v n cs) (hs : SltR v j sz ad) (hu : cs[j * sz + q]? = some u) : w.cell? (ad.add q) = some u := by
  obtain ⟨g, n', c, rfl, rfl⟩ := hs
  have := h.cells (g := g) rfl (j * sz + q) u hu
  rw [Addr.add_lit, Nat.zero_add] at this
  rw [Addr.add_lit]; exact this
/-- A thing of a row is another one. -/
theorem fStoreR {t e : TypeId} {sz n j : Nat} {v : Value} {cs : List Value} {ad : Addr} {ds : Array Value} {K : World → Prop} (h : Fr w0 w F) (i : Nat) (hi : F[i]? = some (rIt e sz v n cs)) (hs : SltR v j sz ad) (hj : j < n) (hd : ds.size = sz) (h1 : ∀ u ∈ ds.toList, u.oneCell' = true)
    (hk : ∀ w', Fr w0 w' (F.set i (rIt e sz v n (cs.take (j * sz) ++ ds.toList ++ cs.drop (j * sz + sz)))) → K w') (ht : sizeIs P t sz = true := by kernel_rfl) : gStore P t (.pointer (some ad)) (.agg ds) w K := by
  have ho : w.ownsRow 0 e sz v n cs := h.get i hi
  obtain ⟨g, n', c, rfl, rfl⟩ := hs
  have hle : (j + 1) * sz ≤ n * sz := Nat.mul_le_mul_right _ hj
  rw [Nat.add_mul, Nat.one_mul] at hle
  rcases ho.2 with ⟨hn, _⟩ | ⟨g', cap, cur, hv, hb, hg, hn, hm, hcs, htk⟩
  · simp at hn
  simp only [Value.slice.injEq, Option.some.injEq, Addr.mk.injEq, and_true] at hv
  obtain ⟨rfl, rfl, rfl⟩ := hv
  have hlen : cs.length = n' * sz := ho.1
  have hst : St w ⟨g, 0, none⟩ cs := ⟨rfl, cur, e, hg, fun q u hq => by
    rw [← htk, List.getElem?_take] at hq
    dsimp only; rw [Nat.zero_add]
    split at hq
    · rw [Array.getElem?_toList] at hq; exact hq
    · cases hq⟩
  have hadd : (⟨g, j * sz, none⟩ : Addr) = (⟨g, 0, none⟩ : Addr).add (j * sz) := by rw [Addr.add_lit, Nat.zero_add]
  rw [hadd]
  refine gStore_agg hst (by rw [hd, hlen]; omega) h1 (fun w' hc _ hS => hk w' (h.upd i hi hc (fun k _ hh => .inl ?_) ?_ fun k hk => .inl hk)) (by rw [hd]; exact ht)
  · have h2 := hh.1
    rw [Addr.add_lit] at h2
    show some g = some k
    rw [h2]
  · rw [hd] at hS
    obtain ⟨c', k1, k2, _⟩ := hc.cel _ _ _ _ hg
    refine ⟨?_, .inr ⟨g, c, c', rfl, Nat.zero_le _, k1, hn, hm, by rw [k2]; exact hcs, ?_⟩⟩
    · simp only [List.length_append, List.length_take, List.length_drop, Array.length_toList, hd, hlen]; omega
    · obtain ⟨_, c2, e2, s1, s2⟩ := hS
      dsimp only at s1 s2
      rw [k1] at s1; injection s1 with s1; injection s1 with s1 _ _; subst s1
      refine List.ext_getElem? fun q => ?_
      rw [List.getElem?_take]
      have hl2 : (cs.take (j * sz) ++ ds.toList ++ cs.drop (j * sz + sz)).length = n' * sz := by simp only [List.length_append, List.length_take, List.length_drop, Array.length_toList, hd, hlen]; omega
      split
      · rename_i hq
        have hx := s2 q _ (List.getElem?_eq_getElem (by rw [hl2]; exact hq))
        rw [Nat.zero_add] at hx
        rw [Array.getElem?_toList, hx, List.getElem?_eq_getElem (by rw [hl2]; exact hq)]
      · rename_i hq
        rw [List.getElem?_eq_none (by rw [hl2]; omega)]
/-- The same where a thing is one cell. -/
theorem fStoreR1 {t e : TypeId} {n j : Nat} {v u : Value} {cs : List Value} {ad : Addr} {K : World → Prop} (h : Fr w0 w F) (i : Nat) (hi : F[i]? = some (rIt e 1 v n cs)) (hs : SltR v j 1 ad) (hj : j < n) (hu : u.oneCell' = true) (hcl : u.cells = #[u])
    (hk : ∀ w', Fr w0 w' (F.set i (rIt e 1 v n (cs.set j u))) → K w') (ht : flat1 P t = true := by kernel_rfl) : gStore P t (.pointer (some ad)) u w K := by
  have ho : w.ownsRow 0 e 1 v n cs := h.get i hi
  obtain ⟨g, n', c, rfl, rfl⟩ := hs
  rcases ho.2 with ⟨hn, _⟩ | ⟨g', cap, cur, hv, hb, hg, hn, hm, hcs, htk⟩
  · simp at hn
  simp only [Value.slice.injEq, Option.some.injEq, Addr.mk.injEq, and_true] at hv
  obtain ⟨rfl, rfl, rfl⟩ := hv
  have hlen : cs.length = n' * 1 := ho.1
  have hst : St w ⟨g, 0, none⟩ cs := ⟨rfl, cur, e, hg, fun q u hq => by
    rw [← htk, List.getElem?_take] at hq
    dsimp only; rw [Nat.zero_add]
    split at hq
    · rw [Array.getElem?_toList] at hq; exact hq
    · cases hq⟩
  have hadd : (⟨g, j * 1, none⟩ : Addr) = (⟨g, 0, none⟩ : Addr).add j := by rw [Addr.add_lit, Nat.zero_add, Nat.mul_one]
  rw [hadd]
  refine gStore_st hst (by rw [hlen]; omega) hu hcl (fun w' hc _ hS => hk w' (h.upd i hi hc (fun k _ hh => .inl ?_) ?_ fun k hk => .inl hk)) ht
  · have h2 := hh.1
    rw [Addr.add_lit] at h2
    show some g = some k
    rw [h2]
  · obtain ⟨c', k1, k2, _⟩ := hc.cel _ _ _ _ hg
    refine ⟨by rw [List.length_set]; exact hlen, .inr ⟨g, c, c', rfl, Nat.zero_le _, k1, hn, hm, by rw [k2]; exact hcs, ?_⟩⟩
    obtain ⟨_, c2, e2, s1, s2⟩ := hS
    dsimp only at s1 s2
    rw [k1] at s1; injection s1 with s1; injection s1 with s1 _ _; subst s1
    refine List.ext_getElem? fun q => ?_
    rw [List.getElem?_take]
    have hl2 : (cs.set j u).length = n' * 1 := by rw [List.length_set]; exact hlen
    split
    · rename_i hq
      have hx := s2 q _ (List.getElem?_eq_getElem (by rw [hl2]; exact hq))
      rw [Nat.zero_add] at hx
      rw [Array.getElem?_toList, hx, List.getElem?_eq_getElem (by rw [hl2]; exact hq)]
    · rename_i hq
      rw [List.getElem?_eq_none (by rw [hl2]; omega)]
/-- A load of a struct that comes to the same in every world that meets B. -/
theorem gLoadB_agg {t : TypeId} {cks : List Ck} {ad : Addr} {B : World → Prop} {K : TF cks Prop} (vs : List Value) (hc : ∀ w, B w → ∀ j u, vs[j]? = some u → w.cell? (ad.add j) = some u) (hk : tapp False cks K vs) (hl : vs.length = cks.length := by rfl) (ht : aggB P t vs.length = true := by kernel_rfl) : gLoadB P t (.part (.agg cks)) (.pointer (some ad)) B K :=
  (tex_of_tapp hk hl (p := fun vs => ∀ w, B w → (Instr.loadAt t (.pointer (some ad))).run P w = .ok (.agg vs.toArray) w) (fun w hB => run_loadAgg (hc w hB) ht))
/-- An empty literal. -/
theorem fLitR0 {t : TypeId} {sz : Nat} {parts : Array (Nat × Value)} {K : Value → World → Prop} (h : Fr w0 w F) (hp : parts = #[]) (hk : ∀ v w', Fr w0 w' (rIt (elOf P t) sz v 0 [] :: F) → K v w') (ht : slSz P t sz = true := by kernel_rfl) : gLit P t 0 parts w K := by
  obtain ⟨hu, i, hi, hsz⟩ := slSz_ok ht
  subst hp
  have hrun : (Instr.buildSlice t 0 #[]).run P w = .ok (.slice (some ⟨w.heap.size, 0, none⟩) 0 0) (w.alloc (.cells #[] (elOf P t))) := by
    simp only [Instr.buildSlice, Sem.run_bind, run_underlying hu, Result.andThen_ok, sizeOf, typeInfo, run_program, hi, Sem.run_pure, hsz]
    have he : ∀ f : Nat → Value, Array.map f (Array.range 0) = #[] := fun f => Array.eq_empty_of_size_eq_zero (by simp)
    simp [newRow, he, Instr.fill]
  have ho := World.ownsRow_lit (base := w.heap.size) (e := elOf P t) (size := sz) w #[] 0 (Nat.le_refl _) (by decide) (by simp)
  exact ⟨_, _, hrun, hk _ _ (h.new (jt := rIt (elOf P t) sz (.slice (some ⟨w.heap.size, 0, none⟩) 0 0) 0 []) (Ev.alloc w _) (rIt_low ho) fun k hk => (ho.lt k hk).1)⟩
/-- A slice held against nil. -/
theorem run_equal_snil {t e : TypeId} {a : Option Addr} {n c : Nat} (hu : P.underlying t = some (.slice e)) : (Op.equal t (.slice a n c) (.slice none 0 0)).run P w = .ok a.isNone w := by
  have hm : Op.maxDepth = 9999 + 1 := rfl
  unfold Op.equal
  rw [hm]
  generalize 9999 = d
  unfold Op.equalIn
  simp only [Sem.run_bind, run_underlying hu, Result.andThen_ok]
  cases a <;> rfl
theorem gEq_snil {t : TypeId} {a : Option Addr} {n c : Nat} {K : Bool → Prop} (hk : K a.isNone) (ht : (match P.underlying t with | some (.slice _) => true | _ => false) = true := by kernel_rfl) : gEq P .eql t (.slice a n c) (.slice none 0 0) K := by
  have hu : ∃ e, P.underlying t = some (.slice e) := by
    split at ht
    · rename_i e h; exact ⟨e, h⟩
    · cases ht
  obtain ⟨e, hu⟩ := hu
  refine ⟨a.isNone, fun cx cy w => ⟨by cases a <;> rfl, ?_⟩, hk⟩
  have hb : binOp .eql t (.slice a n c) (.slice none 0 0) = (do pure (.bool (← Op.equal t (.slice a n c) (.slice none 0 0)))) := by cases a <;> rfl
  rw [hb]; simp only [Sem.run_bind, run_equal_snil hu, Result.andThen_ok, Sem.run_pure]
end
end Go.Proofs.YtjmdoflcmipejaaV

/- Rows that are owned: parts of them, room behind them, copies into them, cleared parts. -/
namespace Go.Proofs.YtjmdoflcmipejaaV
open Go Go.RowKit
/-- An owned row's block, with room for c things. -/
abbrev rowV (g n c : Nat) : Value := .slice (some ⟨g, 0, none⟩) n c
section
variable {P : Program} {w0 w : World} {F : List It} {e : TypeId} {sz g n c : Nat} {cs : List Value}
theorem row_block (h : w.ownsRow 0 e sz (rowV g n c) n cs) : ∃ cur, w.heap[g]? = some (.cells cur e (0, 0)) ∧ n ≤ c ∧ c ≤ maxLen ∧ cur.size = c * sz ∧ cur.toList.take (n * sz) = cs ∧ cs.length = n * sz := by
  rcases h.2 with ⟨hn, _⟩ | ⟨g', cap, cur, hv, hb, hg, hn, hm, hcs, htk⟩
  · simp at hn
  · simp only [Value.slice.injEq, Option.some.injEq, Addr.mk.injEq, and_true, true_and] at hv
    obtain ⟨rfl, rfl⟩ := hv
    exact ⟨cur, hg, hn, hm, hcs, htk, h.1⟩
theorem row_of {cur : Array Value} (hg : w.heap[g]? = some (.cells cur e (0, 0))) (hn : n ≤ c) (hm : c ≤ maxLen) (hs : cur.size = c * sz) (ht : cur.toList.take (n * sz) = cs) : w.ownsRow 0 e sz (rowV g n c) n cs := by
  refine ⟨?_, .inr ⟨g, c, cur, rfl, Nat.zero_le _, hg, hn, hm, hs, ht⟩⟩
  rw [← ht, List.length_take, Array.length_toList, hs]
  exact Nat.min_eq_left (Nat.mul_le_mul_right _ hn)
/-- A row that is nil, or has a block. -/
theorem row_cases {v : Value} (h : w.ownsRow 0 e sz v n cs) : (v = .slice none 0 0 ∧ n = 0) ∨ ∃ g c, v = rowV g n c := by
  rcases h.2 with h | ⟨g, cap, _, hv, _⟩
  · exact .inl h
  · exact .inr ⟨g, cap, hv⟩
/-- Less of a row. -/
theorem fPrefix (h : Fr w0 w (rIt e sz (rowV g n c) n cs :: F)) (i : Nat) (hi : i ≤ n) : Fr w0 w (rIt e sz (rowV g i c) i (cs.take (i * sz)) :: F) := by
  obtain ⟨cur, hg, hn, hm, hs, ht, hl⟩ := row_block h.1
  exact ⟨row_of hg (by omega) hm hs (by rw [← ht, List.take_take, Nat.min_eq_left (Nat.mul_le_mul_right _ hi)]), h.2.1, h.2.2.1, h.2.2.2⟩
/-- More of it: what stands there nobody knows. -/
theorem fWiden (h : Fr w0 w (rIt e sz (rowV g n c) n cs :: F)) (m : Nat) (hi : n ≤ m) (hmc : m ≤ c) : ∃ zs, zs.length = (m - n) * sz ∧ Fr w0 w (rIt e sz (rowV g m c) m (cs ++ zs) :: F) := by
  obtain ⟨cur, hg, hn, hm, hs, ht, hl⟩ := row_block h.1
  have hle : n * sz ≤ m * sz := Nat.mul_le_mul_right _ hi
  have hle2 : m * sz ≤ c * sz := Nat.mul_le_mul_right _ hmc
  refine ⟨(cur.toList.take (m * sz)).drop (n * sz), ?_, row_of hg hmc hm hs ?_, h.2.1, h.2.2.1, h.2.2.2⟩
  · rw [List.length_drop, List.length_take, Array.length_toList, hs, Nat.min_eq_left hle2, Nat.sub_mul]
  · rw [← ht]
    have := (List.take_append_drop (n * sz) (cur.toList.take (m * sz))).symm
    rw [List.take_take, Nat.min_eq_left hle] at this
    exact this
theorem subV_row (sz g n c l h : Nat) : subV sz (rowV g n c) l h = .slice (if c = l then some ⟨g, 0, none⟩ else some ⟨g, l * sz, none⟩) (h - l) (c - l) := by
  show Value.slice (if c = l then some ⟨g, 0, none⟩ else Option.map (fun x : Addr => x.add (l * sz)) (some ⟨g, 0, none⟩)) (h - l) (c - l) = _
  rw [Option.map_some, Addr.add_lit, Nat.zero_add]
theorem run_copy_rowS (w : World) (dT sT ty elem : TypeId) (sz g o dLen dCap : Nat) (a : Addr) (sLen sCap : Nat) (cur : Array Value) (t : TypeId) (cs : List Value)
    (hu : P.underlying dT = some (.slice elem)) (hs : (P.info? elem).map (·.size) = some sz)
    (hg : w.heap[g]? = some (.cells cur t (0, 0))) (hn : cs.length = Nat.min sLen dLen * sz)
    (hsrc : ∀ j v, cs[j]? = some v → w.cell? (a.add j) = some v) (hfit : o + cs.length ≤ cur.size) (h1 : ∀ v ∈ cs, v.oneCell' = true) :
    (Builtin.copy_ #[dT, sT] ty #[.slice (some ⟨g, o, none⟩) dLen dCap, .slice (some a) sLen sCap]).run P w =
      .ok (goInt (Nat.min sLen dLen)) (w.setRow g (cur.toList.take o ++ cs ++ cur.toList.drop (o + cs.length)).toArray) := by
  have hl := run_loadCells_list (P := P) w a cs hsrc
  have hst := run_storeCells_at P g o t cs 0 cur w hg (by simpa using hfit) h1
  cases hq : P.info? elem with
  | none => simp [hq] at hs
  | some i =>
    have hi : i.size = sz := by simpa [hq] using hs
    simp [Builtin.copy_, run_underlying hu, Builtin.lenOf, Builtin.firstCells, sizeOf, typeInfo, hq, hi, ← hn, hl, hst]
theorem setRow_ch {cur : Array Value} {ds : Array Value} (hg : w.heap[g]? = some (.cells cur e (0, 0))) (hs : ds.size = cur.size) : Ch (Bk g) w (w.setRow g ds) := by
  refine ⟨rfl, rfl, rfl, by simp, fun j hj hn => setRow_other w g j _ fun e => hn 0 e, fun j c' e' f hj => ?_, fun k o hk ho => by rw [setRow_other w g k _ (ne_cells hg hk ho)]; exact hk⟩
  by_cases hjg : j = g
  · subst hjg
    rw [hg] at hj
    injection hj with hj; injection hj with h1 h2 h3
    subst h1; subst h2; subst h3
    exact ⟨_, setRow_heap w j cur _ _ _ hg, hs, fun i hi => absurd rfl hi⟩
  · exact ⟨c', by rw [setRow_other w g j _ hjg]; exact hj, rfl, fun _ _ => rfl⟩
/-- copy(row[l:h], y). -/
theorem fCopyR {t ty : TypeId} {l h m : Nat} {y : Value} {ds : List Value} {K : Int → World → Prop} (b : Nat) (f : Fr w0 w (rIt (elOf P t) sz (rowV g n c) n cs :: F)) (hlh : l ≤ h) (hhn : h ≤ n) (hy : Sl w sz y m ds) (h1 : ∀ u ∈ ds.take (min m (h - l) * sz), u.oneCell' = true)
    (hk : ∀ w' q, q = min m (h - l) → Fr w0 w' (rIt (elOf P t) sz (rowV g n c) n (cs.take (l * sz) ++ ds.take (q * sz) ++ cs.drop ((l + q) * sz)) :: F) → K (q : Int) w') (ht : slRow P t sz b = true := by kernel_rfl) :
    gCopy P #[t, t] ty #[subV sz (rowV g n c) l h, y] w K := by
  obtain ⟨hu, ii, z, hii, hz, hsz, hzs, hbb⟩ := slRow_ok ht
  obtain ⟨cur, hg, hn, hm, hs, htk, hl⟩ := row_block f.1
  obtain ⟨a, cy, rfl, hnc, hdl, hcells, hnil⟩ := hy
  have hmap : (P.info? (elOf P t)).map (·.size) = some sz := by rw [hii]; simp [hsz]
  have hdead : ∀ cz, (Builtin.copy_ #[t, t] ty #[subV sz (rowV g n c) l h, .slice none 0 cz]).run P w = .ok (.int .i64 0) w := fun cz => by
    have hsub : ∃ o, subV sz (rowV g n c) l h = .slice (some o) (h - l) (c - l) := by
      rw [subV_row]; split
      · exact ⟨_, rfl⟩
      · exact ⟨_, rfl⟩
    obtain ⟨o, ho⟩ := hsub
    rw [ho]
    simp [Builtin.copy_, run_underlying hu, Builtin.lenOf, Builtin.firstCells, sizeOf, typeInfo, hii, storeCells]; rfl
  cases a with
  | none =>
    have := hnil rfl
    subst this
    refine ⟨((0 : Nat) : Int), w, hdead _, hk w 0 (by omega) ?_⟩
    simpa using f
  | some ad =>
    have hq : min m (h - l) ≤ m := Nat.min_le_left _ _
    have hle : min m (h - l) * sz ≤ m * sz := Nat.mul_le_mul_right _ hq
    have htl : (ds.take (min m (h - l) * sz)).length = min m (h - l) * sz := by rw [List.length_take, hdl]; omega
    have hlc : l * sz + min m (h - l) * sz ≤ n * sz := by rw [← Nat.add_mul]; exact Nat.mul_le_mul_right _ (by omega)
    have hnc2 : n * sz ≤ c * sz := Nat.mul_le_mul_right _ hn
    by_cases hcl : c = l
    · -- nothing there
      have hz0 : min m (h - l) = 0 := by omega
      have hrun : (Builtin.copy_ #[t, t] ty #[subV sz (rowV g n c) l h, .slice (some ad) m cy]).run P w = .ok (.int .i64 0) w := by
        have h0 : Nat.min m (h - l) = 0 := hz0
        have hsub : subV sz (rowV g n c) l h = .slice (some ⟨g, 0, none⟩) (h - l) (c - l) := by rw [subV_row, if_pos hcl]
        rw [hsub]
        simp [Builtin.copy_, run_underlying hu, Builtin.lenOf, Builtin.firstCells, sizeOf, typeInfo, hii, h0, loadCells, loadCellsFrom, storeCells]; rfl
      refine ⟨((0 : Nat) : Int), w, hrun, hk w 0 hz0.symm ?_⟩
      simpa using f
    · have hsub : subV sz (rowV g n c) l h = .slice (some ⟨g, l * sz, none⟩) (h - l) (c - l) := by
        rw [subV_row, if_neg hcl]
      rw [hsub]
      have hrun := run_copy_rowS (P := P) w t t ty (elOf P t) sz g (l * sz) (h - l) (c - l) ad m cy cur (elOf P t) (ds.take (min m (h - l) * sz)) hu hmap hg htl
        (fun j u hj => hcells ad rfl j u (by
          rw [List.getElem?_take] at hj
          split at hj
          · exact hj
          · cases hj)) (by rw [htl, hs]; omega) (fun u hu => h1 u hu)
      have hsz2 : (cur.toList.take (l * sz) ++ ds.take (min m (h - l) * sz) ++ cur.toList.drop (l * sz + (ds.take (min m (h - l) * sz)).length)).toArray.size = cur.size := by
        simp only [List.size_toArray, List.length_append, List.length_take, List.length_drop, Array.length_toList, hs, hdl]; omega
      refine ⟨((min m (h - l) : Nat) : Int), _, hrun, hk _ _ rfl (f.upd (jt := rIt _ _ _ _ _) 0 rfl (setRow_ch hg hsz2) (fun k _ hh => .inl ?_) ?_ fun k hk => .inl hk)⟩
      · show some g = some k; rw [show k = g from hh]
      · refine row_of (setRow_heap w g cur _ _ _ hg) hn hm (by rw [hsz2, hs]) ?_
        dsimp only
        rw [htl, ← Nat.add_mul, List.take_append, List.take_append]
        have e1 : (cur.toList.take (l * sz)).take (n * sz) = cs.take (l * sz) := by
          rw [List.take_take, ← htk, List.take_take]; congr 1; omega
        have e2 : (ds.take (min m (h - l) * sz)).take (n * sz - (cur.toList.take (l * sz)).length) = ds.take (min m (h - l) * sz) := by
          refine List.take_of_length_le ?_
          rw [htl, List.length_take, Array.length_toList, hs]; omega
        have e3 : (cur.toList.drop ((l + min m (h - l)) * sz)).take (n * sz - (cur.toList.take (l * sz) ++ ds.take (min m (h - l) * sz)).length) = cs.drop ((l + min m (h - l)) * sz) := by
          rw [List.length_append, htl, List.length_take, Array.length_toList, hs, ← htk, List.drop_take]
          congr 1
          rw [Nat.add_mul]; omega
        rw [e1, e2, e3]
/-- append, where there is room. -/
theorem fAppFits {t ty : TypeId} {m : Nat} {y : Value} {ds : List Value} {K : Value → World → Prop} (b : Nat) (f : Fr w0 w (rIt (elOf P t) sz (rowV g n c) n cs :: F)) (hy : Sl w sz y m ds) (h1 : ∀ u ∈ ds, u.oneCell' = true) (hr : n + m ≤ c)
    (hk : ∀ w', Fr w0 w' (rIt (elOf P t) sz (rowV g (n + m) c) (n + m) (cs ++ ds) :: F) → K (rowV g (n + m) c) w') (ht : slRow P t sz b = true := by kernel_rfl) : gApp P #[t, t] ty #[rowV g n c, y] w K := by
  obtain ⟨hu, ii, z, hii, hz, hsz, hzs, hbb⟩ := slRow_ok ht
  obtain ⟨cur, hg, hn, hm, hs, htk, hl⟩ := row_block f.1
  obtain ⟨a, cy, rfl, hnc, hdl, hcells, hnil⟩ := hy
  cases a with
  | none =>
    have := hnil rfl
    subst this
    have hd0 : ds = [] := List.eq_nil_of_length_eq_zero (by rw [hdl, Nat.zero_mul])
    subst hd0
    have hr2 : (Builtin.append_ #[t, t] ty #[rowV g n c, .slice none 0 cy]).run P w = .ok (rowV g n c) w := by
      simp [Builtin.append_, run_underlying hu, sizeOf, typeInfo, hii, Builtin.lenOf, Builtin.firstCells, hn, storeCells]
    exact ⟨_, w, hr2, hk w (by simpa using f)⟩
  | some ad =>
    have hfit : n * ii.size + ds.length ≤ cur.size := by rw [hdl, hsz, hs, ← Nat.add_mul]; exact Nat.mul_le_mul_right _ hr
    have hr2 := run_append_room (P := P) w t ty (elOf P t) ii hu hii g n c cur hg ad m cy ds (by rw [hsz]; exact hdl) (hcells ad rfl) h1 hr hfit
    rw [hsz] at hr2 hfit
    have hsz2 : (cur.toList.take (n * sz) ++ ds ++ cur.toList.drop (n * sz + ds.length)).toArray.size = cur.size := by
      simp only [List.size_toArray, List.length_append, List.length_take, List.length_drop, Array.length_toList]; omega
    refine ⟨_, _, hr2, hk _ (f.upd (jt := rIt _ _ _ _ _) 0 rfl (setRow_ch hg hsz2) (fun k _ hh => .inl (by show some g = some k; rw [show k = g from hh])) (row_of (setRow_heap w g cur _ _ _ hg) hr hm (by rw [hsz2, hs]) ?_) fun k hk => .inl hk)⟩
    dsimp only
    rw [htk, List.take_append_of_le_length (by rw [List.length_append, hl, hdl, ← Nat.add_mul]; exact Nat.le_refl _)]
    exact List.take_of_length_le (by rw [List.length_append, hl, hdl, ← Nat.add_mul]; exact Nat.le_refl _)
/-- clear of what stands behind a row. -/
theorem fClear {t ty : TypeId} {m : Nat} {K : Value → World → Prop} (b : Nat) (f : Fr w0 w (rIt (elOf P t) sz (rowV g n c) n cs :: F)) (hmc : n + m ≤ c) (hm0 : 0 < m) (h1 : ∀ z i, P.info? (elOf P t) = some i → i.zero = some z → ∀ u ∈ z.cells.toList, u.oneCell' = true)
    (hk : ∀ v w', Fr w0 w' (rIt (elOf P t) sz (rowV g n c) n cs :: F) → K v w') (ht : slRow P t sz b = true := by kernel_rfl) (hsz0 : 0 < sz := by decide) : gValW P (Builtin.clear_ #[t] ty #[.slice (some ⟨g, n * sz, none⟩) m (c - n)]) w K := by
  obtain ⟨hu, ii, z, hii, hz, hsz, hzs, hbb⟩ := slRow_ok ht
  obtain ⟨cur, hg, hn, hm, hs, htk, hl⟩ := row_block f.1
  have hzl : (Builtin.zeroCells z.cells m).toList.length = m * sz := by rw [Array.length_toList, size_zeroCells, hzs]
  have hz1 : ∀ u ∈ (Builtin.zeroCells z.cells m).toList, u.oneCell' = true := fun u hu => by
    unfold Builtin.zeroCells at hu
    rw [Array.toList_map, List.mem_map] at hu
    obtain ⟨i, _, rfl⟩ := hu
    have hlt : i % z.cells.size < z.cells.size := Nat.mod_lt _ (by omega)
    rw [getElem!_pos z.cells _ hlt]
    exact h1 z ii hii hz _ (Array.getElem_mem_toList hlt)
  have hle : n * sz + m * sz ≤ c * sz := by rw [← Nat.add_mul]; exact Nat.mul_le_mul_right _ hmc
  have hst := run_storeCells_at P g (n * sz) (elOf P t) (Builtin.zeroCells z.cells m).toList 0 cur w hg (by rw [hzl, hs]; exact hle) hz1
  simp only [Nat.add_zero] at hst
  obtain ⟨m', rfl⟩ : ∃ m', m = m' + 1 := ⟨m - 1, by omega⟩
  have hrun : (Builtin.clear_ #[t] ty #[.slice (some ⟨g, n * sz, none⟩) (m' + 1) (c - n)]).run P w = .ok (.tuple #[]) (w.setRow g (cur.toList.take (n * sz) ++ (Builtin.zeroCells z.cells (m' + 1)).toList ++ cur.toList.drop (n * sz + (Builtin.zeroCells z.cells (m' + 1)).toList.length)).toArray) := by
    simp [Builtin.clear_, run_underlying hu, zeroValue, typeInfo, hii, hz, hst]
  have hsz2 : (cur.toList.take (n * sz) ++ (Builtin.zeroCells z.cells (m' + 1)).toList ++ cur.toList.drop (n * sz + (Builtin.zeroCells z.cells (m' + 1)).toList.length)).toArray.size = cur.size := by
    simp only [List.size_toArray, List.length_append, List.length_take, List.length_drop, hzl, Array.length_toList, hs]; omega
  refine ⟨_, _, hrun, hk _ _ (f.upd (jt := rIt _ _ _ _ _) 0 rfl (setRow_ch hg hsz2) (fun k _ hh => .inl (by show some g = some k; rw [show k = g from hh])) (row_of (setRow_heap w g cur _ _ _ hg) hn hm (by rw [hsz2, hs]) ?_) fun k hk => .inl hk)⟩
  dsimp only
  rw [List.append_assoc, List.take_append_of_le_length (by rw [List.length_take, Array.length_toList, hs]; omega), List.take_take, Nat.min_self, htk]
def isIntT (P : Program) (t : TypeId) : Bool := match P.underlying t with
  | some (.int _) => true
  | _ => false
/-- append(row, make(.., m)...), where there is no room. -/
theorem fAppZ {t ti ty : TypeId} {m : Nat} {z : Value} {K : Value → World → Prop} (b : Nat) (f : Fr w0 w F) {ad : Addr} (hS : Sl w sz (.slice (some ad) n c) n cs) (hr : c < n + m) (hb : (n + m) * b ≤ 140737488355328) (hb1 : (n + m) ≤ 140737488355328)
    (hk : ∀ g' c' w', n + m ≤ c' → Fr w0 w' (rIt (elOf P t) sz (rowV g' (n + m) c') (n + m) (cs ++ (Builtin.zeroCells z.cells m).toList) :: F) → K (rowV g' (n + m) c') w') (hz : (P.info? (elOf P t)).bind (·.zero) = some z) (ht : slRow P t sz b = true := by kernel_rfl) (hti : isIntT P ti = true := by kernel_rfl) (hsz0 : 0 < sz := by decide) :
    gApp P #[t, ti] ty #[.slice (some ad) n c, .int .i64 (m : Int)] w K := by
  obtain ⟨hu, ii, z', hii, hz', hsz, hzs, hbb⟩ := slRow_ok ht
  rw [hii] at hz
  simp only [Option.bind_some] at hz
  rw [hz] at hz'; injection hz' with hz'; subst hz'
  have hl : cs.length = n * sz := by obtain ⟨_, _, _, _, h, _⟩ := hS; exact h
  have hn : n ≤ c := by obtain ⟨a, c', e1, h, _⟩ := hS; injection e1 with _ _ e3; omega
  have hcell : ∀ j v, cs[j]? = some v → w.cell? (ad.add j) = some v := fun j v hj => by
    obtain ⟨a, c', e1, _, _, h3, _⟩ := hS
    injection e1 with e1 _ _
    exact h3 ad e1.symm j v hj
  have htu : ∃ k, P.underlying ti = some (.int k) := by
    unfold isIntT at hti; split at hti
    · rename_i k h; exact ⟨k, h⟩
    · cases hti
  obtain ⟨k, htu⟩ := htu
  have holds : ∀ j v, cs[j]? = some v → w.drew.cell? (ad.add j) = some v := fun j v hj => hcell j v hj
  have hfo := run_firstCells_some (P := P) w.drew ii.size n ad n c cs (by rw [hsz]; exact hl) holds
  have hbb2 : (n + m) * ii.bytes ≤ 140737488355328 := Nat.le_trans (Nat.mul_le_mul_left _ hbb) hb
  have hfit := growslice_fits (need := n + m) (old := c) hr hbb2
  have h48 : ¬ (281474976710656 < Builtin.nextslicecap (n + m) c * ii.bytes) := by omega
  have hm48 : ¬ ((281474976710656 : Int) < (m : Int) * (ii.bytes : Int)) := by
    have : m * ii.bytes ≤ (n + m) * ii.bytes := Nat.mul_le_mul_right _ (by omega)
    have h2 : ((m * ii.bytes : Nat) : Int) ≤ 140737488355328 := by omega
    rw [Int.natCast_mul] at h2; omega
  have hwr : IntKind.wrap .i64 (m : Int) = (m : Int) := by have := i64_id (n := (m : Int)) (by omega) (by omega); simpa [i64] using this
  have hneg : ¬ ((m : Int) < 0) := by omega
  have hms : ¬ (m * ii.size = 0) := by
    rw [hsz]; intro h0
    rcases Nat.mul_eq_zero.1 h0 with h | h <;> omega
  have hni : ¬ (9223372036854775807 < ((n : Int) + (m : Int))) := by omega
  have hroom : ¬ (n + m ≤ c) := by omega
  have hrun : (Builtin.append_ #[t, ti] ty #[.slice (some ad) n c, .int .i64 (m : Int)]).run P w = .ok (.slice (some ⟨w.heap.size, 0, none⟩) (n + m) (grownCap w (n + m) c (elOf P t)))
      (w.drew.alloc (.cells (cs.toArray ++ Builtin.zeroCells z.cells m ++ Builtin.zeroCells z.cells (grownCap w (n + m) c (elOf P t) - (n + m))) (elOf P t))) := by
    simp [Builtin.append_, run_underlying hu, run_underlying htu, sizeOf, typeInfo, zeroValue, hii, hz, asInt, asIntOf, hwr, hneg, hm48, hroom, hni, h48, Question.forced, hfo, newRow, grownCap]
    intro h0; exact absurd h0 hms
  have hge := grownCap_ge w (n + m) c (elOf P t)
  refine ⟨_, _, hrun, hk _ _ _ hge (f.new (jt := rIt _ _ _ _ _) ((Ev.drew0 w).trans (Ev.alloc _ _)) (row_of (heap_alloc_new w.drew _) hge (grownCap_le_maxLen w (n + m) c (elOf P t) (by unfold maxLen; omega)) ?_ ?_) fun k hk => ?_)⟩
  · simp only [Array.size_append, List.size_toArray, size_zeroCells, hl, hzs]
    rw [← Nat.add_mul, ← Nat.add_mul]; congr 1; omega
  · simp only [Array.toList_append, List.toList_toArray]
    rw [List.take_append_of_le_length (by rw [List.length_append, hl, Array.length_toList, size_zeroCells, hzs, ← Nat.add_mul]; exact Nat.le_refl _)]
    exact List.take_of_length_le (by rw [List.length_append, hl, Array.length_toList, size_zeroCells, hzs, ← Nat.add_mul]; exact Nat.le_refl _)
  · have hk : some w.heap.size = some k := hk
    injection hk with hk; omega
/-- l[i:j:k]. -/
theorem gSl3 {t : TypeId} {a : Option Addr} {k1 k2 k3 : IntKind} {l h : Nat} {K : Value → Prop} (hl : l ≤ h) (hhn : h ≤ n) (hh : n ≤ c)
    (hk : ∀ v, K v) (ht : slSz P t sz = true) : gSlice P t (.slice a n c) (some (.int k1 l)) (some (.int k2 h)) (some (.int k3 n)) K := by
  obtain ⟨hu, i, hi', hsz⟩ := slSz_ok ht
  refine ⟨.slice (if n = l then a else a.map (·.add (l * sz))) (h - l) (n - l), fun w => ?_, hk _⟩
  have hb : (Instr.sliceBounds true n c (some (.int k1 l)) (some (.int k2 h)) (some (.int k3 n))).run P w = .ok (l, h, n) w := by
    simp [Instr.sliceBounds, Instr.sliceBound, asIntOf, hl, hh, hhn]
  simp only [Instr.sliceAt, Sem.run_bind, run_underlying hu, Result.andThen_ok, Instr.slice, hb, sizeOf, typeInfo, run_program, hi', Sem.run_pure, hsz]
end
end Go.Proofs.YtjmdoflcmipejaaV

/- Slices of numbers of one's own, in a frame: an element set, read, a part put behind. -/
namespace Go.Proofs.YtjmdoflcmipejaaV
open Go Go.RowKit
section
variable {P : Program} {w0 w : World} {F : List It}
/-- An element is another one. -/
theorem fSetO {t te : TypeId} {k ki : IntKind} {v : Value} {xs : List Int} {i x : Int} {j : Nat} {K : World → Prop} (f : Fr w0 w F) (q : Nat) (hq : F[q]? = some (oIt k (elOf P t) v xs)) (hij : i = (j : Int)) (hj : j < xs.length) (hx : k.min ≤ x ∧ x ≤ k.max)
    (hk : ∀ w', Fr w0 w' (F.set q (oIt k (elOf P t) v (xs.set j x))) → K w') (ht : slInt P t k = true := by kernel_rfl) (ht1 : flat1 P te = true := by kernel_rfl) :
    gIdx P t v (.int ki i) fun ad => gStore P te (.pointer (some ad)) (.int k x) w K := by
  subst hij
  refine gIdx_on (f.on q hq) (by omega) (by omega) (fun ad hs _ => gStore_on (f.on q hq) hs (by omega) (by omega) hx (fun w' hc _ ho => hk w' ?_) ht1) ht
  exact f.upd (jt := oIt k (elOf P t) v (xs.set j x)) q hq hc (fun k _ hh => .inl hh) (ho.low (Nat.zero_le _)) fun k hk => .inl hk
/-- An element is read, in whatever world comes of this one. -/
theorem gGetB {t te : TypeId} {k ki : IntKind} {v : Value} {xs : List Int} {i : Int} {B : World → Prop} {K : Int → Prop} (h : Nm k w v xs) (h0 : 0 ≤ i) (h1 : i < xs.length) (hB : ∀ w', B w' → Ev w w') (hk : K (rd xs i)) (ht : slInt P t k = true := by kernel_rfl) (htf : flat P te = true := by kernel_rfl) :
    gIdx P t v (.int ki i) fun ad => gLoadB P te (shI k) (.pointer (some ad)) B K :=
  gIdx_nm h h0 h1 (fun ad c _ => gLoadB_i (fun w' hw => Ch.cell (hB w' hw) c fun h => h) hk htf) ht
theorem gGet {t te : TypeId} {k ki : IntKind} {v : Value} {xs : List Int} {i : Int} {K : Int → Prop} (h : Nm k w v xs) (h0 : 0 ≤ i) (h1 : i < xs.length) (hk : K (rd xs i)) (ht : slInt P t k = true := by kernel_rfl) (htf : flat P te = true := by kernel_rfl) :
    gIdx P t v (.int ki i) fun ad => gLoad P te (shI k) (.pointer (some ad)) w K :=
  gIdx_nm h h0 h1 (fun ad c _ => gLoad_i c hk htf) ht
theorem gIf_nnb {b : Bool} {A B : Prop} (ha : b = true → A) (hb : b = false → B) : gIf (!(!b)) A B := by cases b; exact hb rfl; exact ha rfl
theorem evDrew {w w' : World} (h : w' = w.drew) : Ev w w' := by subst h; exact Ev.drew0 w
end
end Go.Proofs.YtjmdoflcmipejaaV

/- Plain laws of predictors and tracks: no program in sight. -/
namespace Go.Proofs.YtjmdoflcmipejaaV
open Go Go.RowKit
/-! ### A guess of the numbers ahead; what is left -/
def resG (g : List Int → Int) (l : List Int) : List Int := tab l.length fun i => i32 (rd l (i : Int) - g (l.take i))
def restG (g : List Int → Int) (l : List Int) : Nat → List Int
  | 0 => []
  | k + 1 => restG g l k ++ [i32 (rd l (k : Int) + g (restG g l k))]
theorem resG_len (g : List Int → Int) (l : List Int) : (resG g l).length = l.length := tab_len _ _
theorem restG_len (g : List Int → Int) (l : List Int) : ∀ k, (restG g l k).length = k
  | 0 => rfl
  | k + 1 => by rw [restG, List.length_append, restG_len g l k]; rfl
theorem i32_rg (n : Int) : -2147483648 ≤ i32 n ∧ i32 n ≤ 2147483647 := by rw [i32_def]; omega
theorem inR32 {l : List Int} : inR .i32 l ↔ ∀ x ∈ l, -2147483648 ≤ x ∧ x ≤ 2147483647 := by
  have h1 : IntKind.i32.min = -2147483648 := by decide
  have h2 : IntKind.i32.max = 2147483647 := by decide
  unfold inR; rw [h1, h2]
theorem restG_in (g : List Int → Int) (l : List Int) : ∀ k, inR .i32 (restG g l k)
  | 0 => fun x hx => by cases hx
  | k + 1 => inR32.2 fun x hx => by
    rw [restG] at hx
    rcases List.mem_append.1 hx with h | h
    · exact inR32.1 (restG_in g l k) x h
    · simp at h; subst h; exact i32_rg _
theorem resG_in (g : List Int → Int) (l : List Int) : inR .i32 (resG g l) := inR32.2 fun x hx => by
  unfold resG tab at hx
  obtain ⟨i, _, rfl⟩ := List.mem_map.1 hx
  exact i32_rg _
theorem rest_res {g : List Int → Int} {l : List Int} (hl : inR .i32 l) : ∀ {k}, k ≤ l.length → restG g (resG g l) k = l.take k
  | 0, _ => by simp [restG]
  | k + 1, h => by
    have hr : rd (resG g l) (k : Int) = i32 (rd l (k : Int) - g (l.take k)) := rd_tab (by omega)
    have hb := inR32.1 hl l[k] (List.getElem_mem (by omega))
    rw [restG, rest_res hl (show k ≤ l.length by omega), hr, List.take_succ_eq_append_getElem (by omega), rd_nat l k (by omega)]
    congr 2
    simp only [i32_def]; omega
theorem rest_all {g : List Int → Int} {l : List Int} (hl : inR .i32 l) : restG g (resG g l) l.length = l := by
  rw [rest_res hl (Nat.le_refl _), List.take_length]
/-- The number so far behind the last one. -/
def atF (l : List Int) (k : Nat) : Int := if l.length < k then 0 else rd l ((l.length - k : Nat) : Int)
def fixG (o : Nat) (l : List Int) : Int :=
  if o = 1 then atF l 1 else if o = 2 then i32 (i32 (2 * atF l 1) - atF l 2) else if o = 3 then i32 (i32 (i32 (3 * atF l 1) - i32 (3 * atF l 2)) + atF l 3) else 0
def ordN (o : Int) : Nat := (if (if o < 3 then o else 3) < 0 then 0 else if o < 3 then o else 3).toNat
theorem ordN_le (o : Int) : ordN o ≤ 3 := by unfold ordN; split <;> split <;> omega
/-- What the guesses miss, together. -/
def weightL : List Int → Int
  | [] => 0
  | v :: l => u64 (u64 (if v < 0 then -v else v) + weightL l)
/-! ### Weights that learn -/
def signI (v : Int) : Int := if v > 0 then 1 else if v < 0 then -1 else 0
def sumW (ws ns : List Int) : Nat → Int
  | 0 => 0
  | k + 1 => i64 (sumW ws ns k + i64 (rd ws (k : Int) * rd ns (k : Int)))
def lmsG (s : List Int × List Int) : Int := i32 (iShr .i64 (sumW s.1 s.2 8) 8)
def lmsW (e : Int) (ws ns : List Int) : List Int := tab 8 fun k => i64 (rd ws (k : Int) + i64 (e * signI (rd ns (k : Int))))
def lmsL (s : List Int × List Int) (v : Int) : List Int × List Int := (lmsW (signI (i32 (v - lmsG s))) s.1 s.2, v :: s.2.take 7)
def lmsS (l : List Int) : List Int × List Int := l.foldl lmsL (List.replicate 8 0, List.replicate 8 0)
def learnG (l : List Int) : Int := lmsG (lmsS l)
theorem lmsS_next {l : List Int} {k : Nat} (h : k < l.length) : lmsS (l.take (k + 1)) = lmsL (lmsS (l.take k)) l[k] := by
  unfold lmsS; rw [List.take_succ_eq_append_getElem h, List.foldl_append]; rfl
theorem lmsS_snoc (l : List Int) (v : Int) : lmsS (l ++ [v]) = lmsL (lmsS l) v := by unfold lmsS; rw [List.foldl_append]; rfl
/-! ### Tracks -/
def smp (xs : List Int) (size i : Nat) : Int := if size = 2 then i16 (rd xs (i : Int) + 256 * rd xs ((i + 1 : Nat) : Int)) else rd xs (i : Int) - 128
/-- How many of so many samples are a channel's. -/
def cntT (ch t k : Nat) : Nat := (t + ch - 1 - k) / ch
def trackN (xs : List Int) (ch size t k : Nat) : List Int := tab (cntT ch t k) fun j => smp xs size ((j * ch + k) * size)
def splitN (xs : List Int) (ch size t : Nat) : List (List Int) := (List.range ch).map (trackN xs ch size t)
theorem splitN_len (xs : List Int) (ch size t : Nat) : (splitN xs ch size t).length = ch := by simp [splitN]
theorem cntT_0 {ch k : Nat} (hk : k < ch) : cntT ch 0 k = 0 := by unfold cntT; exact Nat.div_eq_of_lt (by omega)
theorem cntT_all {ch n k : Nat} (hk : k < ch) : cntT ch (n * ch) k = n := by
  unfold cntT
  have : n * ch + ch - 1 - k = n * ch + (ch - 1 - k) := by omega
  rw [this, Nat.mul_comm, Nat.mul_add_div (by omega), Nat.div_eq_of_lt (by omega)]; rfl
theorem cntT_step {ch t k : Nat} (hk : k < ch) : cntT ch (t + 1) k = if t % ch = k then cntT ch t k + 1 else cntT ch t k := by
  obtain ⟨q, r, hr, rfl⟩ : ∃ q r, r < ch ∧ t = q * ch + r := ⟨t / ch, t % ch, Nat.mod_lt _ (by omega), by rw [Nat.mul_comm, Nat.div_add_mod]⟩
  have hm : (q * ch + r) % ch = r := by rw [Nat.add_comm, Nat.add_mul_mod_self_right, Nat.mod_eq_of_lt hr]
  have hd : ∀ a, (q * ch + a) / ch = q + a / ch := fun a => by rw [Nat.mul_comm, Nat.mul_add_div (by omega)]
  rw [hm]
  unfold cntT
  rw [show q * ch + r + 1 + ch - 1 - k = q * ch + (r + ch - k) by omega, show q * ch + r + ch - 1 - k = q * ch + (r + ch - 1 - k) by omega, hd, hd]
  have one : ∀ {a}, ch ≤ a → a < 2 * ch → a / ch = 1 := fun {a} h1 h2 => Nat.div_eq_of_lt_le (by omega) (by omega)
  split
  · subst_vars
    rw [one (by omega) (by omega), Nat.div_eq_of_lt (show r + ch - 1 - r < ch by omega)]
  · rcases Nat.lt_or_ge r k with h | h
    · rw [Nat.div_eq_of_lt (show r + ch - k < ch by omega), Nat.div_eq_of_lt (show r + ch - 1 - k < ch by omega)]
    · rw [one (show ch ≤ r + ch - k by omega) (by omega), one (show ch ≤ r + ch - 1 - k by omega) (by omega)]
theorem cntT_mod {ch t : Nat} (hc : 0 < ch) : cntT ch t (t % ch) = t / ch := by
  unfold cntT
  have h1 := Nat.mod_lt t hc
  have h2 := Nat.div_add_mod t ch
  rw [show t + ch - 1 - t % ch = ch * (t / ch) + (ch - 1) by omega, Nat.mul_add_div hc, Nat.div_eq_of_lt (show ch - 1 < ch by omega)]; rfl
theorem tab_succ (n : Nat) (f : Nat → Int) : tab (n + 1) f = tab n f ++ [f n] := by unfold tab; rw [List.range_succ, List.map_append]; rfl
theorem trackN_step {xs : List Int} {ch size t k : Nat} (hk : k < ch) : trackN xs ch size (t + 1) k = if t % ch = k then trackN xs ch size t k ++ [smp xs size (t * size)] else trackN xs ch size t k := by
  unfold trackN
  rw [cntT_step hk]
  split
  · rename_i h
    subst h
    rw [tab_succ, cntT_mod (by omega), Nat.mul_comm (t / ch) ch, Nat.div_add_mod]
  · rfl
theorem splitN_step {xs : List Int} {ch size t : Nat} (hc : 0 < ch) : splitN xs ch size (t + 1) = (splitN xs ch size t).set (t % ch) (trackN xs ch size t (t % ch) ++ [smp xs size (t * size)]) := by
  refine List.ext_getElem (by simp [splitN]) fun k h1 h2 => ?_
  have hk : k < ch := by simpa [splitN] using h1
  rw [List.getElem_set]
  simp only [splitN, List.getElem_map, List.getElem_range]
  rw [trackN_step hk]
  split
  · rename_i h; subst h; rfl
  · rfl
/-- A sample's bytes. -/
def smpB (size : Nat) (v : Int) : List Int := if size = 2 then [u8 v, u8 (v / 256)] else [u8 (v + 128)]
theorem smp_back {xs : List Int} (hx : inR .u8 xs) {size i : Nat} (hs : size = 1 ∨ size = 2) (hi : i + size ≤ xs.length) : smpB size (smp xs size i) = (xs.drop i).take size := by
  have hb := fun j (hj : j < xs.length) => hx xs[j] (List.getElem_mem hj)
  have h1 : IntKind.u8.min = 0 := by decide
  have h2 : IntKind.u8.max = 255 := by decide
  simp only [h1, h2] at hb
  unfold smpB smp
  rcases hs with rfl | rfl
  · rw [if_neg (by omega), if_neg (by omega), List.drop_eq_getElem_cons (by omega), rd_nat xs i (by omega)]
    have := hb i (by omega)
    simp only [List.take_succ_cons, List.take_zero, u8_def]
    congr 1; omega
  · rw [if_pos rfl, if_pos rfl, List.drop_eq_getElem_cons (by omega), List.drop_eq_getElem_cons (by omega), rd_nat xs i (by omega), rd_nat xs (i + 1) (by omega)]
    have h3 := hb i (by omega)
    have h4 := hb (i + 1) (by omega)
    simp only [List.take_succ_cons, List.take_zero, u8_def, i16_def]
    congr 1
    · omega
    · congr 1; omega
theorem smp_rg {xs : List Int} (hx : inR .u8 xs) {size i : Nat} (hs : size = 1 ∨ size = 2) (hi : i + size ≤ xs.length) : (size = 1 → -128 ≤ smp xs size i ∧ smp xs size i < 128) ∧ (-32768 ≤ smp xs size i ∧ smp xs size i < 32768) := by
  have hb := fun j (hj : j < xs.length) => hx xs[j] (List.getElem_mem hj)
  have h1 : IntKind.u8.min = 0 := by decide
  have h2 : IntKind.u8.max = 255 := by decide
  simp only [h1, h2] at hb
  unfold smp
  rcases hs with rfl | rfl
  · rw [if_neg (by omega), rd_nat xs i (by omega)]
    have := hb i (by omega)
    exact ⟨fun _ => by omega, by omega⟩
  · rw [if_pos rfl, i16_def]
    exact ⟨fun h => by omega, by omega⟩
def joinN (size : Nat) (ls : List (List Int)) (n : Nat) : List Int := ((List.range n).map fun (i : Nat) => (ls.map fun l => smpB size (rd l (i : Int))).flatten).flatten
theorem joinN_succ (size : Nat) (ls : List (List Int)) (n : Nat) : joinN size ls (n + 1) = joinN size ls n ++ (ls.map fun l => smpB size (rd l (n : Int))).flatten := by
  unfold joinN; rw [List.range_succ, List.map_append, List.flatten_append]; simp
theorem smpB_len {size : Nat} (hs : size = 1 ∨ size = 2) (v : Int) : (smpB size v).length = size := by
  unfold smpB; rcases hs with rfl | rfl <;> rfl
theorem join_len {size : Nat} (hs : size = 1 ∨ size = 2) (ls : List (List Int)) : ∀ n, (joinN size ls n).length = n * (ls.length * size)
  | 0 => by simp [joinN]
  | n + 1 => by
    have : ((ls.map fun l => smpB size (rd l (n : Int))).flatten).length = ls.length * size := by
      induction ls with
      | nil => simp
      | cons l ls ih => rw [List.map_cons, List.flatten_cons, List.length_append, ih, smpB_len hs, List.length_cons, Nat.succ_mul]; omega
    rw [joinN_succ, List.length_append, join_len hs ls n, this, Nat.succ_mul]
/-- What was split is joined. -/
theorem join_split {xs : List Int} {ch size n : Nat} (hx : inR .u8 xs) (hs : size = 1 ∨ size = 2) (hc : 0 < ch) (hl : xs.length = n * (ch * size)) : ∀ {i}, i ≤ n → joinN size (splitN xs ch size (n * ch)) i = xs.take (i * (ch * size))
  | 0, _ => by simp [joinN]
  | i + 1, h => by
    have hin : i * (ch * size) + ch * size ≤ n * (ch * size) := by have := Nat.mul_le_mul_right (ch * size) h; rwa [Nat.succ_mul] at this
    have hrow : ∀ k, k ≤ ch → (((splitN xs ch size (n * ch)).take k).map fun l => smpB size (rd l (i : Int))).flatten = (xs.drop (i * (ch * size))).take (k * size) := by
      intro k
      induction k with
      | zero => intro _; simp
      | succ k ih =>
        intro hk
        have hks : k * size + size ≤ ch * size := by have := Nat.mul_le_mul_right size hk; rwa [Nat.succ_mul] at this
        have hkl : k < (splitN xs ch size (n * ch)).length := by rw [splitN_len]; omega
        have hat : (i * ch + k) * size = i * (ch * size) + k * size := by rw [Nat.add_mul, Nat.mul_assoc]
        have hval : rd (splitN xs ch size (n * ch))[k] (i : Int) = smp xs size ((i * ch + k) * size) := by
          simp only [splitN, List.getElem_map, List.getElem_range]
          unfold trackN
          rw [cntT_all (by omega), rd_tab (by omega)]
        rw [List.take_succ_eq_append_getElem hkl, List.map_append, List.flatten_append, ih (by omega)]
        simp only [List.map_cons, List.map_nil, List.flatten_cons, List.flatten_nil, List.append_nil]
        rw [hval, smp_back hx hs (by rw [hat]; omega), hat, Nat.succ_mul, List.take_add, List.drop_drop]
    rw [joinN_succ, join_split hx hs hc hl (show i ≤ n by omega)]
    have := hrow ch (Nat.le_refl _)
    rw [List.take_of_length_le (by rw [splitN_len]; exact Nat.le_refl _)] at this
    rw [this, Nat.succ_mul, List.take_add]
/-! ### Middle and side -/
def sideL (l r : List Int) : List Int := tab l.length fun i => i32 (rd l (i : Int) - rd r (i : Int))
def midL (l r : List Int) : List Int := tab l.length fun i => i32 (rd r (i : Int) + iShr .i32 (i32 (rd l (i : Int) - rd r (i : Int))) 1)
def rightL (m s : List Int) : List Int := tab m.length fun i => i32 (rd m (i : Int) - iShr .i32 (rd s (i : Int)) 1)
def leftL (m s : List Int) : List Int := tab m.length fun i => i32 (rd (rightL m s) (i : Int) + rd s (i : Int))
theorem un_right {l r : List Int} (hr : inR .i32 r) (h : l.length = r.length) : rightL (midL l r) (sideL l r) = r := by
  have e : (midL l r).length = r.length := by unfold midL; rw [tab_len, h]
  refine (eq_tab (xs := r) e.symm fun i hi => ?_).symm
  have hi' : i < r.length := by omega
  rw [show rd (midL l r) (i : Int) = _ from rd_tab (by omega), show rd (sideL l r) (i : Int) = _ from rd_tab (by omega)]
  have hb := inR32.1 hr r[i] (List.getElem_mem hi')
  rw [rd_nat r i hi']
  generalize iShr .i32 _ 1 = z
  simp only [i32_def]; omega
theorem un_left {l r : List Int} (hl : inR .i32 l) (hr : inR .i32 r) (h : l.length = r.length) : leftL (midL l r) (sideL l r) = l := by
  have e : (midL l r).length = l.length := by unfold midL; rw [tab_len]
  have e2 := un_right hr h
  unfold leftL
  rw [e2]
  refine (eq_tab (xs := l) e.symm fun i hi => ?_).symm
  rw [e] at hi
  rw [show rd (sideL l r) (i : Int) = _ from rd_tab hi]
  have hb := inR32.1 hl l[i] (List.getElem_mem hi)
  rw [rd_nat l i hi]
  simp only [i32_def]; omega
end Go.Proofs.YtjmdoflcmipejaaV
