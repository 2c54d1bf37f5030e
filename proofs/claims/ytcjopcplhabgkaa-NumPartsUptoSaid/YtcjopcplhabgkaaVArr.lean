/- Arrays: loaded whole, indexed, sliced, copied into. -/
import Derived.Test.YtcjopcplhabgkaaVCopy
namespace Go.Proofs.YtcjopcplhabgkaaV
open Go Go.RowKit
def slLen : Value → Nat
  | .slice _ n _ => n
  | _ => 0
theorem Nm.slLen {k : IntKind} {w : World} {v : Value} {xs : List Int} (h : Nm k w v xs) : slLen v = xs.length := by obtain ⟨a, c, rfl, _⟩ := h.shape; rfl
section
variable {P : Program} {w0 w : World} {F : List It}
theorem gLoad_arr {t : TypeId} {ad : Addr} {K : Array Value → Prop} (vs : List Value) (hc : ∀ j u, vs[j]? = some u → w.cell? (ad.add j) = some u) (hk : K vs.toArray) (ht : aggB P t vs.length = true) : gLoad P t shA (.pointer (some ad)) w K :=
  ⟨vs.toArray, run_loadAgg hc ht, hk⟩
theorem fLoadArr {t : TypeId} {ad : Addr} {cs : List Value} {K : Array Value → Prop} (h : Fr w0 w F) (i : Nat) (hi : F[i]? = some (sIt ad cs)) (hk : K cs.toArray) (ht : aggB P t cs.length = true) : gLoad P t shA (.pointer (some ad)) w K :=
  gLoad_arr cs (fun j u hj => h.cell i j hi hj) hk ht
theorem gSlice_arr {t : TypeId} {ad : Addr} {n sz : Nat} {K : Value → Prop} (hk : K (.slice (some ad) n n)) (ht : arSz P t n sz = true) : gSlice P t (.pointer (some ad)) none none none K := by
  unfold arSz at ht
  split at ht
  · rename_i m e hu
    simp only [Bool.and_eq_true] at ht
    have hm := Nat.eq_of_beq_eq_true ht.1
    subst hm
    obtain ⟨i, hi⟩ : ∃ i, P.info? e = some i := by
      have := ht.2
      split at this
      · rename_i i hi; exact ⟨i, hi⟩
      · cases this
    refine ⟨_, fun w => ?_, hk⟩
    have hb : (Instr.sliceBounds false m m none none none).run P w = .ok (0, m, m) w := by simp [Instr.sliceBounds, Instr.sliceBound]
    simp only [Instr.sliceAt, Instr.sureAddr, Sem.run_bind, Sem.run_pure, run_underlying hu, Result.andThen_ok, hb, sizeOf, typeInfo, run_program, hi]
    simp [Addr.add_zero']
  · cases ht
theorem gIndex_arr {t : TypeId} {k ki : IntKind} {cs : Array Value} {xs : List Int} {i : Int} {K : Int → Prop} (n j : Nat) (hcs : cs.toList = xs.map (.int k)) (hn : xs.length = n) (hij : i = (j : Int)) (hj : j < n) (hk : K (rd xs j)) (ht : arSz P t n 1 = true := by kernel_rfl) (hf : (match P.underlying t with | some (.array _ e) => (match P.underlying e with | some (.int _) => true | _ => false) | _ => false) = true := by kernel_rfl) : gIndex P t (shI k) (.agg cs) (.int ki i) K := by
  subst hij
  unfold arSz at ht
  split at ht
  · rename_i m e hu
    simp only [Bool.and_eq_true] at ht
    have hm := Nat.eq_of_beq_eq_true ht.1
    subst hm
    rw [hu] at hf
    dsimp only at hf
    have hek : ∃ k', P.underlying e = some (.int k') := by
      split at hf
      · rename_i k' hk'; exact ⟨k', hk'⟩
      · cases hf
    obtain ⟨k', hek⟩ := hek
    obtain ⟨ii, hi, hsz⟩ : ∃ i, P.info? e = some i ∧ i.size = 1 := by
      have := ht.2
      split at this
      · rename_i i hi; exact ⟨i, hi, Nat.eq_of_beq_eq_true this⟩
      · cases this
    have hget : cs[j]? = some (.int k (rd xs j)) := by
      rw [← Array.getElem?_toList, hcs, List.getElem?_map, List.getElem?_eq_getElem (by omega), rd_nat xs j (by omega)]; rfl
    refine ⟨rd xs j, fun w => ?_, hk⟩
    simp only [Instr.index, asIntOf, Sem.run_bind, Sem.run_pure, Result.andThen_ok, run_underlying hu]
    rw [if_pos ⟨by omega, by omega⟩]
    simp only [Sem.run_bind, sizeOf, typeInfo, run_program, Result.andThen_ok, hi, Sem.run_pure, hsz, Int.toNat_natCast, Nat.mul_one]
    unfold part
    have hlt : j < cs.size := (Array.getElem?_eq_some_iff.1 hget).1
    simp [isAgg, run_underlying hek, hget]
    rfl
  · cases ht
/-- An array, as a slice. -/
theorem Nm.of_st {k : IntKind} {ad : Addr} {xs : List Int} {n : Nat} (h : St w ad (xs.map (.int k))) (hr : inR k xs) (hn : xs.length = n) : Nm k w (.slice (some ad) n n) xs := by
  subst hn
  exact ⟨⟨some ad, xs.length, rfl, Nat.le_refl _, by simp, fun ad' ha j u hj => by injection ha with ha; subst ha; exact h.cell hj, fun h => by cases h⟩, hr⟩
theorem Fr.arr {k : IntKind} {ad : Addr} {xs : List Int} {n : Nat} (h : Fr w0 w F) (i : Nat) (hi : F[i]? = some (sIt ad (xs.map (.int k)))) (hr : inR k xs) (hn : xs.length = n) : Nm k w (.slice (some ad) n n) xs := Nm.of_st (h.get i hi) hr hn
/-- copy(a[:], y). -/
theorem fCopyA {t ty : TypeId} {k : IntKind} {ad : Addr} {n c : Nat} {y : Value} {zs ys : List Int} {K : Int → World → Prop} (f : Fr w0 w F) (i : Nat) (hi : F[i]? = some (sIt ad (zs.map (.int k)))) (hn : zs.length = n) (hy : Nm k w y ys)
    (hk : ∀ w' m, m = min n ys.length → Fr w0 w' (F.set i (sIt ad ((ys.take m ++ zs.drop m).map (.int k)))) → K (m : Int) w') (ht : slInt P t k = true := by kernel_rfl) :
    gCopy P #[t, t] ty #[.slice (some ad) n c, y] w K := by
  obtain ⟨hu, ii, hii, hsz, hby, hby1, hz⟩ := slInt_ok ht
  have hsz1 : (P.info? (elOf P t)).map (·.size) = some 1 := by rw [hii]; simp [hsz]
  have hS : St w ad (zs.map (.int k)) := f.get i hi
  obtain ⟨a, cy, rfl, hnc, hl, hcells, hnil⟩ := hy.1
  by_cases h0 : min n ys.length = 0
  · have hrun := run_copy_none (P := P) w t t ty (elOf P t) (some ad) a n c ys.length cy hu hsz1 (by show min ys.length n = 0; omega)
    refine ⟨((0 : Nat) : Int), w, hrun, hk w 0 h0.symm ?_⟩
    have := f.upd (jt := sIt ad ((ys.take 0 ++ zs.drop 0).map (.int k))) (S := No) i hi (Ch.refl _ w) (fun _ _ h => h.elim) (by rw [List.take_zero, List.drop_zero, List.nil_append]; exact hS) fun k hk => .inl hk
    exact this
  · cases a with
    | none => have := hnil rfl; omega
    | some sd =>
      obtain ⟨hsp, cur, e, hg, hcur⟩ := hS
      obtain ⟨b, o, s⟩ := ad
      cases hsp
      dsimp only at hg hcur
      have hlen : ((ys.take (min n ys.length)).map (Value.int k)).length = min n ys.length := by rw [List.length_map, List.length_take]; omega
      have hfit : o + min n ys.length ≤ cur.size := by
        have h1 := hcur (min n ys.length - 1) (.int k (zs[min n ys.length - 1]'(by omega))) (by rw [List.getElem?_map, List.getElem?_eq_getElem (by omega)]; rfl)
        have := (Array.getElem?_eq_some_iff.1 h1).1
        omega
      have hrun := run_copy_row (P := P) w t t ty (elOf P t) b o n c sd ys.length cy cur e ((ys.take (min n ys.length)).map (.int k)) hu hsz1 hg (by rw [hlen]; show min _ _ = min ys.length n; omega)
        (fun j u hj => hcells sd rfl j u (by
          rw [List.getElem?_map, List.getElem?_take] at hj
          rw [List.getElem?_map]
          split at hj
          · exact hj
          · simp at hj)) (by rw [hlen]; exact hfit) (fun u hu => by obtain ⟨x, _, rfl⟩ := List.mem_map.1 hu; rfl)
      rw [hlen] at hrun
      refine ⟨((min n ys.length : Nat) : Int), _, hrun, hk _ _ rfl ?_⟩
      refine f.upd (jt := sIt ⟨b, o, none⟩ ((ys.take (min n ys.length) ++ zs.drop (min n ys.length)).map (.int k))) (S := Bk b) i hi ?_ (fun k _ hh => .inl hh) ⟨rfl, _, e, setRow_heap w b cur _ _ _ hg, fun j u hj => ?_⟩ fun k hk => .inl hk
      · refine ⟨rfl, rfl, rfl, by simp, fun j hj hn => setRow_other w b j _ fun e => hn 0 e, fun j c' e' f hj => ?_, fun k o hk ho => by rw [setRow_other w b k _ (ne_cells hg hk ho)]; exact hk⟩
        by_cases hjg : j = b
        · subst hjg
          rw [hg] at hj
          injection hj with hj; injection hj with h1 h2 h3
          subst h1; subst h2; subst h3
          exact ⟨_, setRow_heap w j cur _ _ _ hg, by simp; omega, fun i hi => absurd rfl hi⟩
        · exact ⟨c', by rw [setRow_other w b j _ hjg]; exact hj, rfl, fun _ _ => rfl⟩
      · show (Array.mk _)[o + j]? = some u
        rw [List.getElem?_toArray]
        have hto : (cur.toList.take o).length = o := by rw [List.length_take, Array.length_toList]; omega
        rw [List.append_assoc, List.getElem?_append_right (by omega), hto, Nat.add_sub_cancel_left]
        rw [List.map_append] at hj
        rw [List.getElem?_append] at hj ⊢
        split at hj
        · rename_i hlt
          rw [if_pos hlt]; exact hj
        · rename_i hge
          rw [if_neg hge]
          rw [hlen] at hge hj ⊢
          rw [List.getElem?_map, List.getElem?_drop] at hj
          rw [List.getElem?_drop, Array.getElem?_toList]
          have := hcur (min n ys.length + (j - min n ys.length)) u (by rw [List.getElem?_map]; exact hj)
          rw [← Nat.add_assoc] at this
          exact this
/-- A slice of values of one cell each. -/
theorem ownsRow_ch {S : SS} {w w' : World} {e : TypeId} {B n : Nat} {v : Value} {cs : List Value} (h : w.ownsRow B e 1 v n cs) (hc : Ch S w w') (hs : ∀ g i, v.ownBlock = some g → ¬ S g i) : w'.ownsRow B e 1 v n cs := by
  refine ⟨h.1, ?_⟩
  rcases h.2 with hn | ⟨g, cap, cur, rfl, hb, hg, r⟩
  · exact .inl hn
  · exact .inr ⟨g, cap, cur, rfl, hb, by rw [hc.blk g (hlt hg) (fun i => hs g i rfl)]; exact hg, r⟩
def lIt (e : TypeId) (v : Value) (us : List Value) : It := ⟨fun b => v.ownBlock = some b, fun w => w.ownsRow 0 e 1 v us.length us, fun w k h hk => by
    rcases h.2 with ⟨rfl, _⟩ | ⟨g', cap, cur, rfl, hb, hh, r⟩
    · cases hk
    · simp [Value.ownBlock] at hk; subst hk; exact ⟨_, _, _, hh⟩, fun _ _ _ h hc hs => ownsRow_ch h hc hs, fun w w' h _ hc => by
    refine ⟨h.1, ?_⟩
    rcases h.2 with hn | ⟨g, cap, cur, rfl, hb, hg, r⟩
    · exact .inl hn
    · exact .inr ⟨g, cap, cur, rfl, hb, by rw [hc _ _ _ _ hg]; exact hg, r⟩⟩
theorem Fr.sl {e : TypeId} {v : Value} {us : List Value} (h : Fr w0 w F) (i : Nat) (hi : F[i]? = some (lIt e v us)) : Sl w 1 v us.length us := Sl.of_own (h.get i hi)
theorem fLitV {t : TypeId} {n : Nat} {parts : Array (Nat × Value)} {K : Value → World → Prop} (us : List Value) (h : Fr w0 w F) (hp : parts.toList = enumV 0 us) (hn : us.length = n) (h1 : ∀ v ∈ us, v.cells = #[v])
    (hk : ∀ v w', Fr w0 w' (lIt (elOf P t) v us :: F) → K v w') (hm : n ≤ 1000000 := by decide) (ht : sl1 P t = true := by kernel_rfl) : gLit P t n parts w K :=
  gLit_1 us hp hn hm h1 (fun v w' he ho => hk v w' (h.new (jt := lIt (elOf P t) v us) he (by
    subst hn
    refine ⟨ho.1, ?_⟩
    rcases ho.2 with hh | ⟨g, cap, cur, e1, hb, r⟩
    · exact .inl hh
    · exact .inr ⟨g, cap, cur, e1, Nat.zero_le _, r⟩) fun k hk => (ho.lt k hk).1)) ht
/-- Some of them, in another order. -/
theorem Fr.picks (h : Fr w0 w F) : ∀ (is : List Nat), is.Nodup → Fr w0 w (is.filterMap fun i => F[i]?)
  | [], _ => h.old
  | i :: r, hd => by
    have ih := h.picks r (List.nodup_cons.1 hd).2
    cases hi : F[i]? with
    | none => rw [List.filterMap_cons_none hi]; exact ih
    | some it =>
      rw [List.filterMap_cons_some hi]
      have hm := h.mem (List.mem_of_getElem? hi)
      refine ⟨hm.1, hm.2, fun jt hj k hk => ?_, ih⟩
      obtain ⟨j, hj1, hj2⟩ := List.mem_filterMap.1 hj
      have hne : i ≠ j := fun e => (List.nodup_cons.1 hd).1 (e ▸ hj1)
      exact h.apart hi hj2 hne k hk
theorem Fr.dropN : ∀ {F : List It} (n : Nat), Fr w0 w F → Fr w0 w (F.drop n)
  | _, 0, h => h
  | [], _ + 1, h => h
  | _ :: _, n + 1, h => Fr.dropN n h.2.2.2
/-- Some of the first n, in another order, ahead of the others. -/
theorem Fr.picksN (h : Fr w0 w F) (n : Nat) : ∀ (is : List Nat), is.Nodup → (∀ i ∈ is, i < n) → Fr w0 w ((is.filterMap fun i => F[i]?) ++ F.drop n)
  | [], _, _ => h.dropN n
  | i :: r, hd, hn => by
    have ih := h.picksN n r (List.nodup_cons.1 hd).2 fun j hj => hn j (by simp [hj])
    cases hi : F[i]? with
    | none => rw [List.filterMap_cons_none hi]; exact ih
    | some it =>
      rw [List.filterMap_cons_some hi]
      have hm := h.mem (List.mem_of_getElem? hi)
      refine ⟨hm.1, hm.2, fun jt hj k hk => ?_, ih⟩
      rcases List.mem_append.1 hj with hj | hj
      · obtain ⟨j, hj1, hj2⟩ := List.mem_filterMap.1 hj
        have hne : i ≠ j := fun e => (List.nodup_cons.1 hd).1 (e ▸ hj1)
        exact h.apart hi hj2 hne k hk
      · obtain ⟨q, hq⟩ := List.mem_iff_getElem?.1 hj
        rw [List.getElem?_drop] at hq
        have := hn i (by simp)
        exact h.apart hi hq (by omega) k hk
/-- What was made behind a world, put to what was made ahead of it. -/
theorem Fr.glue {w1 : World} : ∀ {G : List It}, Fr w0 w1 F → Fr w1 w G → Fr w0 w (G ++ F)
  | [], h, h2 => h.ev h2
  | it :: G, h, h2 => by
    refine ⟨h2.1, fun k hk => Nat.le_trans h.old.size (h2.2.1 k hk), fun jt hj k hk hjk => ?_, Fr.glue h h2.2.2.2⟩
    rcases List.mem_append.1 hj with hj | hj
    · exact h2.2.2.1 jt hj k hk hjk
    · have h3 := h2.2.1 k hk
      have h4 := jt.lt w1 k (h.mem hj).1 hjk
      omega
end
end Go.Proofs.YtcjopcplhabgkaaV
