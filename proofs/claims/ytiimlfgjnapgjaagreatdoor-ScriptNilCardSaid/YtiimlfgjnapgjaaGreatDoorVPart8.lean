import Derived.Test.YtiimlfgjnapgjaaGreatDoorVPart7
set_option linter.unusedVariables false
set_option linter.unusedSimpArgs false
/- Sort: the program's and the reference's. -/
namespace Go.Proofs.YtiimlfgjnapgjaaGreatDoorV
open Go Go.RowKit
theorem tl_eqb (a b : ByteArray) : (a.toList == b.toList) = decide (a = b) := by
  rw [ByteArray.toList_eq, ByteArray.toList_eq]
  obtain ⟨⟨a⟩⟩ := a; obtain ⟨⟨b⟩⟩ := b
  by_cases h : a = b
  · subst h; simp
  · simp [h]
abbrev Names (l : List En) : List ByteArray := l.map (·.1)
theorem adj_up {l : List En} (hw : Upw l) (ha : ∀ i, (hi : i + 1 < l.length) → l[i].1 ≠ l[i + 1].1) : Up l := by
  unfold Up
  rw [List.pairwise_iff_getElem]
  intro i j hi hj hij
  have hw' := List.pairwise_iff_getElem.1 hw
  have h1 : nlt l[i].1 l[i + 1].1 = true := by
    cases hc : nlt l[i].1 l[i + 1].1 with
    | true => rfl
    | false => exact absurd (nlt_tri hc (hw' i (i + 1) hi (by omega) (by omega))) (ha i (by omega))
  by_cases he : j = i + 1
  · subst he; exact h1
  · exact nlt_le h1 (hw' (i + 1) j (by omega) hj (by omega))
theorem adj_dup {l : List En} {i : Nat} (hi : i + 1 < l.length) (h : l[i].1 = l[i + 1].1) : ¬ (l.map (·.1)).Nodup := by
  intro hn
  have := List.pairwise_iff_getElem.1 (List.nodup_iff_pairwise_ne.1 hn) i (i + 1) (by simp; omega) (by simp; omega) (by omega)
  simp at this; exact this h
theorem Small.perm {a b : List E3} (h : a.Perm b) (hs : Small b) : Small a := ⟨by rw [h.length_eq]; exact hs.1, fun u hu => hs.2 u (h.mem_iff.1 hu)⟩
section
variable {w0 w w' : World} {F : List It}
/-- A list and an error. -/
def SortR (w : World) (r : List En × Int) (e : Ending) (w' : World) : Prop := ∃ v' us', e = .returned (.tuple #[v', .int .i64 r.2]) ∧ us'.map er = r.1 ∧ Fr w w' (ownF v' us')
theorem ownF_nil (he : Ev w w') : Fr w w' (ownF (.slice none 0 0) []) := Fr.nilR (F := []) he eE 2
theorem Sort_any {v : Value} {us : List E3} (hv : Es w v us) (hs : Small us) : Calls P n_names_Sort #[v] w (SortR w (sortE (us.map er))) := by
  have hus := hs.1
  refine of_names_Sort (gCall_b (ContainsWrong_any hv (by omega)) fun w1 h1 => gIf_b (fun hbad => ?_) (fun hgood => ?_))
  · have e1 : sortE (us.map er) = ([], 6) := by unfold sortE; rw [if_pos hbad]
    rw [e1]
    exact ⟨_, [], rfl, rfl, ownF_nil h1⟩
  refine gCall_of (Clone_any (hv.ev h1) (by omega)) ?_
  rintro _ w2 ⟨t9, rfl, f2⟩
  refine ⟨t9, rfl, gCall_u (SortStable_any f2 hv.oc (by omega)) fun w3 ⟨us', hp, hw, f3⟩ => ?_⟩
  have h3 : Ev w w3 := h1.trans f3.old
  have hv3 : Es w3 t9 us' := ⟨f3.row 0 rfl, fun u hu => (hv.2 u (hp.mem_iff.1 hu)).ev h3⟩
  have hwl : Upw (us'.map er) := by unfold Upw; rw [List.pairwise_map]; exact hw
  have hpe : (us'.map er).Perm (us.map er) := hp.map er
  have hlen : us'.length ≤ 100000000 := by rw [hp.length_eq]; exact hus
  have hn7 : ¬ (Names (us'.map er)).Nodup → sortE (us.map er) = ([], 7) := fun hd => by
    unfold sortE
    rw [if_neg (by rw [hgood]; decide), if_pos (fun h => hd ((hpe.map (fun x => x.1)).nodup_iff.2 h))]
  refine gLen_slv hv3.1 ⟨fun i w' => ∃ j : Nat, i = (j : Int) ∧ j ≤ us'.length ∧ (∀ i, (hi : i + 1 < us'.length) → i + 1 < j → us'[i].1 ≠ us'[i + 1].1) ∧ Ev w3 w', fun i _ => (us'.length - i).toNat, ⟨0, rfl, Nat.zero_le _, fun _ _ h => by omega, Ch.refl _ _⟩, ?_⟩
  rintro _ i w4 ⟨j, rfl, hj, hadj, he⟩
  refine gIf_dec (fun hlt => ?_) (fun hge => ?_)
  · have hlt' : j < us'.length := by omega
    have step : ∀ w', Ev w3 w' → (j = 0 ∨ ∃ q, ∃ (hq : q + 1 < us'.length), j = q + 1 ∧ us'[q].1 ≠ us'[q + 1].1) → (∃ j' : Nat, i64 ((j : Int) + 1) = (j' : Int) ∧ j' ≤ us'.length ∧ (∀ i, (hi : i + 1 < us'.length) → i + 1 < j' → us'[i].1 ≠ us'[i + 1].1) ∧ Ev w3 w') ∧ ((us'.length : Int) - i64 ((j : Int) + 1)).toNat < ((us'.length : Int) - (j : Int)).toNat := fun w' hw' hc => by
      rw [i64_id (by omega) (by omega)]
      refine ⟨⟨j + 1, by omega, by omega, fun i hi hij => ?_, hw'⟩, by omega⟩
      by_cases hi2 : i + 1 < j
      · exact hadj i hi hi2
      · rcases hc with hc | ⟨q, hq, hc, hne⟩
        · omega
        · have : i = q := by omega
          subst this; exact hne
    refine gIf_dec (fun hpos => ?_) (fun hzero => step _ he.drew (.inl (by omega)))
    obtain ⟨q, rfl⟩ : ∃ q, j = q + 1 := ⟨j - 1, by omega⟩
    have hv4 := hv3.ev he
    refine gIdx_E hv4 rfl (List.getElem?_eq_getElem hlt') fun ad h0 _ => gLoadB_s (fun w' hw => Ch.cell (drewEv hw) h0 fun h => h) ?_
    rw [i64_id (n := ((q + 1 : Nat) : Int) - 1) (by omega) (by omega), show ((q + 1 : Nat) : Int) - 1 = (q : Int) by omega]
    refine gIdx_E hv4 rfl (List.getElem?_eq_getElem (show q < us'.length by omega)) fun ad2 h02 _ => gLoadB_s (fun w' hw => Ch.cell (drewEv hw) h02 fun h => h) ?_
    rw [tl_eqb]
    refine gIf_dec (fun heq => ?_) (fun hne => step _ he.drew (.inr ⟨q, hlt', rfl, fun h => hne h.symm⟩))
    have hd : ¬ (Names (us'.map er)).Nodup := adj_dup (l := us'.map er) (i := q) (by simpa using hlt') (by simpa [er] using heq.symm)
    rw [hn7 hd]
    exact ⟨_, [], rfl, rfl, ownF_nil (h3.trans he.drew)⟩
  · have hup : Up (us'.map er) := adj_up hwl fun i hi => by
      have hi' : i + 1 < us'.length := by simpa using hi
      have := hadj i hi' (by omega)
      simpa [er] using this
    have hnd : ((us.map er).map (·.1)).Nodup := (hpe.map (·.1)).nodup_iff.1 hup.nodup
    have hv4 := hv3.ev he
    have hs' := hs.perm hp
    refine gCall_b (much_any hv4 hs') fun w5 h5 => ?_
    rw [much_perm hpe]
    refine gIf_b (fun hm => ?_) (fun hm => ?_)
    · have e1 : sortE (us.map er) = ([], 5) := by unfold sortE; rw [if_neg (by rw [hgood]; decide), if_neg (fun h => h hnd), if_pos hm]
      rw [e1]; exact ⟨_, [], rfl, rfl, ownF_nil (h3.trans (he.trans h5))⟩
    · have e1 : sortE (us.map er) = (us'.map er, 0) := by unfold sortE; rw [if_neg (by rw [hgood]; decide), if_neg (fun h => h hnd), if_neg (by rw [hm]; decide), up_eq_srt hup hpe]
      rw [e1]
      refine gCall_of (own_any (hv4.ev h5) hs') ?_
      rintro _ w6 ⟨t37, us2, rfl, h37, f6⟩
      exact ⟨t37, rfl, t37, us2, rfl, h37, Fr.glue (F := []) (h3.trans (he.trans h5)) f6 |> fun f => by simpa using f⟩
/-! ### The reference -/
theorem Sl.split {v : Value} {us : List E3} (h : Sl w 2 v us.length (cells3 us)) (k : Nat) (hk : k ≤ us.length) : Sl w 2 (subV 2 v 0 k) (us.take k).length (cells3 (us.take k)) ∧ Sl w 2 (subV 2 v k us.length) (us.drop k).length (cells3 (us.drop k)) := by
  constructor
  · have := h.sub 0 k (Nat.zero_le _) hk
    rw [Nat.sub_zero, Nat.zero_mul, List.drop_zero, cells3_take] at this
    rw [List.length_take, Nat.min_eq_left hk]; exact this
  · have := h.sub k us.length hk (Nat.le_refl _)
    rw [cells3_drop, List.take_of_length_le (by rw [cells3_len, List.length_drop]; omega)] at this
    rw [List.length_drop]; exact this
end
end Go.Proofs.YtiimlfgjnapgjaaGreatDoorV

/- Package slices: Chunk: parts, and what ranges over it. -/
namespace Go.Proofs.YtiimlfgjnapgjaaGreatDoorV
open Go Go.RowKit
/-- v[l:h:h]. -/
def subV3 (sz : Nat) (v : Value) (l h : Nat) : Value := match v with
  | .slice a _ _ => .slice (if h = l then a else a.map (·.add (l * sz))) (h - l) (h - l)
  | v => v
section
variable {P : Program} {w : World}
theorem gSlice_3 {t : TypeId} {sz : Nat} {a : Option Addr} {n c : Nat} {k1 k2 k3 : IntKind} {l h : Nat} {K : Value → Prop} (hl : l ≤ h) (hh : h ≤ c)
    (hk : K (subV3 sz (.slice a n c) l h)) (ht : slSz P t sz = true) : gSlice P t (.slice a n c) (some (.int k1 l)) (some (.int k2 h)) (some (.int k3 h)) K := by
  obtain ⟨hu, i, hi', hsz⟩ := slSz_ok ht
  refine ⟨_, fun w => ?_, hk⟩
  have hb : (Instr.sliceBounds true n c (some (.int k1 l)) (some (.int k2 h)) (some (.int k3 h))).run P w = .ok (l, h, h) w := by
    simp [Instr.sliceBounds, Instr.sliceBound, asIntOf, hl, hh]
  simp only [Instr.sliceAt, Sem.run_bind, run_underlying hu, Result.andThen_ok, Instr.slice, hb, sizeOf, typeInfo, run_program, hi', Sem.run_pure, hsz, subV3]
theorem Nm.sub3 {k : IntKind} {v : Value} {xs : List Int} (h : Nm k w v xs) (l m : Nat) (hl : l ≤ m) (hm : m ≤ xs.length) : Nm k w (subV3 1 v l m) ((xs.drop l).take (m - l)) := by
  refine ⟨?_, (h.2.drop l).take _⟩
  obtain ⟨a, c, rfl, h1, h2, h3, h4⟩ := h.1
  have hlen : ((xs.drop l).take (m - l)).length = m - l := by rw [List.length_take, List.length_drop]; omega
  rw [hlen]
  refine ⟨_, _, rfl, Nat.le_refl _, by simp; omega, fun ad ha j u hj => ?_, fun ha => ?_⟩
  · have hjl : j < m - l := by have := (List.getElem?_eq_some_iff.1 hj).1; simp at this; omega
    rw [if_neg (by omega), Option.map_eq_some_iff] at ha
    obtain ⟨a0, rfl, rfl⟩ := ha
    rw [Addr.add2', Nat.mul_one]
    refine h3 a0 rfl _ u ?_
    rw [List.getElem?_map, List.getElem?_take, if_pos hjl, List.getElem?_drop] at hj
    rw [List.getElem?_map]; exact hj
  · split at ha
    · have := h4 ha; omega
    · have := h4 (Option.map_eq_none_iff.1 ha); omega
theorem subV3_own (sz : Nat) (v : Value) (l m : Nat) : (subV3 sz v l m).ownBlock = v.ownBlock := by
  cases v <;> try rfl
  rename_i a n c
  simp only [subV3]
  split
  · cases a <;> rfl
  · cases a with
    | none => rfl
    | some ad => simp only [Option.map_some, Value.ownBlock]; unfold Addr.add; split <;> rfl
theorem Fr.putObj {w0 : World} {F : List It} {D : Nat} {o o' : Obj} (h : Fr w0 w F) (hD : w0.heap.size ≤ D) (hk : w.heap[D]? = some o) (ho : o.isCells = false) : Fr w0 (w.putObj D o') F :=
  h.gr (by simp) rfl rfl rfl (fun k hk' => World.putObj_heap_other (by omega)) fun k c e f hc => World.putObj_heap_other (ne_cells hc hk ho).symm
theorem Fr.grown {w0 w' : World} {F : List It} {row : Option Nat} (h : Fr w0 w F) (hg : w.grownBy w' row) (hr : ∀ r, row = some r → w0.heap.size ≤ r ∧ ∃ o : Obj, w.heap[r]? = some o ∧ o.isCells = false) : Fr w0 w' F :=
  h.gr hg.size hg.os hg.tape hg.output (fun k hk => hg.block k (Nat.lt_of_lt_of_le hk h.old.size) fun e => by have := (hr k e.symm).1; omega)
    fun k c e f hc => hg.block k (hlt hc) fun e' => by obtain ⟨_, o, ho, hn⟩ := hr k e'.symm; exact ne_cells hc ho hn rfl
end
/-- The numbers of a part. -/
def chL (n : Nat) (xs : List Int) (j : Nat) : List Int := (xs.drop (j * n)).take n
/-- The part itself. -/
def chV (n : Nat) (s : Value) (len j : Nat) : Value := if j * n ≤ len then subV3 1 s (j * n) (min (j * n + n) len) else .slice none 0 0
/-- How many parts there are. -/
def chN (n len : Nat) : Nat := (len + (n - 1)) / n
theorem chL_len (n : Nat) (xs : List Int) (j : Nat) : (chL n xs j).length ≤ n := by unfold chL; rw [List.length_take]; omega
theorem chV_nm {k : IntKind} {w : World} {n : Nat} {s : Value} {xs : List Int} (h : Nm k w s xs) (j : Nat) : Nm k w (chV n s xs.length j) (chL n xs j) := by
  unfold chV chL
  split
  · rename_i hj
    have := h.sub3 (j * n) (min (j * n + n) xs.length) (by omega) (by omega)
    have e : (xs.drop (j * n)).take (min (j * n + n) xs.length - j * n) = (xs.drop (j * n)).take n := by
      by_cases hc : j * n + n ≤ xs.length
      · rw [Nat.min_eq_left hc, Nat.add_sub_cancel_left]
      · rw [Nat.min_eq_right (by omega), List.take_of_length_le (by simp), List.take_of_length_le (by simp; omega)]
    rwa [e] at this
  · rw [List.drop_of_length_le (by omega), List.take_nil]; exact Nm.nil k w
theorem chN_lt {n len j : Nat} (hn : 1 ≤ n) : j < chN n len ↔ j * n < len := by
  unfold chN
  rw [Nat.lt_div_iff_mul_lt (by omega)]
  omega
end Go.Proofs.YtiimlfgjnapgjaaGreatDoorV

/- Package slices: Chunk, byte. -/
namespace Go.Proofs.YtiimlfgjnapgjaaGreatDoorV
open Go Go.RowKit
section
variable {w0 w : World} {F : List It} {s : Value} {xs : List Int} {n : Nat} {a b : Addr}
theorem Chunk8_any {K : Value → World → Prop} (h : Fr w0 w F) (hs : s.cells = #[s]) (hn : 1 ≤ n) (hk : ∀ a b w', Fr w0 w' (sIt b [.int .i64 (n : Int)] :: sIt a [s] :: F) → K (.func (.func n_slices_Chunk_byte_byte_1) #[] #[.pointer (some a), .pointer (some b)]) w') :
    gCall P n_slices_Chunk_byte_byte shV #[s, .int .i64 (n : Int)] w K := by
  refine gCall_of (R := fun e w' => ∃ a b, e = .returned (.func (.func n_slices_Chunk_byte_byte_1) #[] #[.pointer (some a), .pointer (some b)]) ∧ Fr w0 w' (sIt b [.int .i64 (n : Int)] :: sIt a [s] :: F)) (of_slices_Chunk_byte_byte (fBox h fun a w1 f1 => fBox f1 fun b w2 f2 => ?_)) ?_
  · rw [hs] at f2
    have hc := f2.cell 0 0 rfl rfl
    rw [Addr.add_zero'] at hc
    exact gLoad_i hc (gIf_dec (fun h => by omega) fun _ => ⟨a, b, rfl, f2⟩)
  · rintro _ w' ⟨a, b, rfl, f⟩
    exact ⟨_, rfl, hk a b w' f⟩
/-- What a round keeps. -/
def KpC8 (a b : Addr) (s : Value) (n : Nat) (A B : World) : Prop := (A.cell? a = some s → B.cell? a = some s) ∧ (A.cell? b = some (.int .i64 (n : Int)) → B.cell? b = some (.int .i64 (n : Int)))
theorem chunk8_stops (hs : Nm .u8 w s xs) (hl : xs.length ≤ 1000000000) (hn : 1 ≤ n) (hn2 : n ≤ 1000000) (ha : w.cell? a = some s) (hb : w.cell? b = some (.int .i64 (n : Int))) :
    SeqStopsK Fence.wide 4 P n_slices_Chunk_byte_byte_1 #[.pointer (some a), .pointer (some b)] (fun j : Nat => #[chV n s xs.length j]) (KpC8 a b s n) (fun ys => ys = List.range (chN n xs.length)) (fun _ => True) (chN n xs.length) w := by
  intro l J Jx W hW hJ hJx hY h0
  refine callsIn_wide.2 ?_
  have sl := hs.shape
  obtain ⟨sa, sc, hsv, hsc⟩ := sl
  have haW := (hW.cell (p := a) (World.block_lt_of_cell? w _ ha)).trans ha
  have hbW := (hW.cell (p := b) (World.block_lt_of_cell? w _ hb)).trans hb
  show Calls P n_slices_Chunk_byte_byte_1 #[.func (.yield l) #[] #[], .pointer (some a), .pointer (some b)] W _
  refine of_slices_Chunk_byte_byte_1 ⟨fun i w' => ∃ j : Nat, i = ((j * n : Nat) : Int) ∧ j ≤ chN n xs.length ∧ J (List.range j) w' ∧ KpC8 a b s n W w', fun i _ => xs.length - i.toNat, ⟨0, by simp, by omega, h0, id, id⟩, ?_⟩
  rintro _ i w1 ⟨j, rfl, hj, hJ1, hK1⟩
  have ha1 := hK1.1 haW
  have hb1 := hK1.2 hbW
  have hjn := chN_lt (len := xs.length) (j := j) hn
  subst hsv
  refine gLoad_v ha1 (gLen_sl (gIf_dec (fun hlt => ?_) (fun hge => ?_)))
  · have hlt' : j * n < xs.length := by omega
    refine gLoadB_i (at1 hb1) (gLoadB_v (at1 ha1) (gSlice_any (sz := 1) (l := j * n) (h := xs.length) (.inr ⟨_, rfl⟩) (.inl ⟨rfl, rfl⟩) (by omega) hsc ?_ (by kernel_rfl)))
    refine gLen_sl ?_
    have hmin : (if ((xs.length - j * n : Nat) : Int) < (n : Int) then ((xs.length - j * n : Nat) : Int) else (n : Int)) = ((min (xs.length - j * n) n : Nat) : Int) := by split <;> omega
    have hend : i64 (((j * n : Nat) : Int) + ((min (xs.length - j * n) n : Nat) : Int)) = ((min (j * n + n) xs.length : Nat) : Int) := by rw [i64_id (by omega) (by omega)]; omega
    rw [hmin, hend]
    refine gLoad_v ha1 (gSlice_3 (sz := 1) (by omega) (by omega) ?_ (by kernel_rfl))
    have hcv : subV3 1 (.slice sa xs.length sc) (j * n) (min (j * n + n) xs.length) = chV n (.slice sa xs.length sc) xs.length j := by unfold chV; rw [if_pos (by omega)]
    rw [hcv]
    have hJd : J (List.range j) w1.drew := hJ _ w1 w1.drew none hJ1 ⟨rfl, rfl, rfl, Nat.le_refl _, fun _ _ _ => rfl⟩ fun r e => by cases e
    obtain ⟨fn, tmps, asg, bo, hy, hR⟩ := hY (List.range j) j w1.drew hJd (by rw [List.length_range]; exact hjn.2 hlt')
    refine .inr ⟨l, 3, rfl, fn, tmps, asg, bo, hy, hR.mono ?_⟩
    rintro e W' (⟨rfl, hJ2, hK2⟩ | ⟨rfl, hJx2⟩)
    · have hb2 : W'.cell? b = some (.int .i64 (n : Int)) := hK2.2 hb1
      refine ⟨true, rfl, gIf_nt (gLoad_i hb2 ?_)⟩
      rw [show i64 (((j * n : Nat) : Int) + (n : Int)) = (((j + 1) * n : Nat) : Int) by rw [i64_id (by omega) (by omega), Nat.succ_mul]; omega]
      refine ⟨⟨j + 1, rfl, hjn.2 hlt', by rw [List.range_succ]; exact hJ2, fun _ => hK2.1 ha1, fun _ => hb2⟩, ?_⟩
      dsimp only
      rw [Int.toNat_natCast, Int.toNat_natCast, Nat.succ_mul]; omega
    · exact ⟨false, rfl, gIf_nf ⟨⟨_, rfl⟩, .inr ⟨_, trivial, hJx2⟩⟩⟩
  · refine ⟨⟨_, rfl⟩, .inl ⟨_, rfl, ?_⟩⟩
    have : j = chN n xs.length := by
      have h1 : ¬ j < chN n xs.length := fun h => by rw [hjn] at h; omega
      omega
    rw [← this]; exact hJ1
/-- The parts of a slice, one by one: Q tells what stands when some have come. -/
theorem range_chunk8 {BODY : Value → World → (World → Prop) → Prop} {POST : Nat → World → Prop} (f : Fr w0 w (sIt b [.int .i64 (n : Int)] :: sIt a [s] :: F)) (hs : Nm .u8 w0 s xs) (hl : xs.length ≤ 1000000000) (hn : 1 ≤ n) (hn2 : n ≤ 1000000)
    (Q : List Nat → List It → Prop) (h0 : Q [] F)
    (hbody : ∀ pre j W G, Q pre G → Fr w0 W (sIt b [.int .i64 (n : Int)] :: sIt a [s] :: G) → pre.length < chN n xs.length → Nm .u8 W (chV n s xs.length j) (chL n xs j) → (∀ g, (chV n s xs.length j).ownBlock = some g → g < w0.heap.size ∨ chL n xs j = []) →
      ∀ K : World → Prop, (∀ W' G', KeepsOthers W W' → Q (pre ++ [j]) G' → Fr w0 W' (sIt b [.int .i64 (n : Int)] :: sIt a [s] :: G') → K W') → BODY (chV n s xs.length j) W K)
    (hpost : ∀ D W G, w.heap.size ≤ D → Q (List.range (chN n xs.length)) G → Fr w0 W (sIt b [.int .i64 (n : Int)] :: sIt a [s] :: G) → W.heap[D]? = some (.deferred (some [])) → POST D W) :
    gRange P (.func (.func n_slices_Chunk_byte_byte_1) #[] #[.pointer (some a), .pointer (some b)]) w BODY POST := by
  have ca : ∀ {W : World} {G : List It}, Fr w0 W (sIt b [.int .i64 (n : Int)] :: sIt a [s] :: G) → W.cell? a = some s := fun f => by have := f.cell 1 0 rfl rfl; rwa [Addr.add_zero'] at this
  have cb : ∀ {W : World} {G : List It}, Fr w0 W (sIt b [.int .i64 (n : Int)] :: sIt a [s] :: G) → W.cell? b = some (.int .i64 (n : Int)) := fun f => by have := f.cell 0 0 rfl rfl; rwa [Addr.add_zero'] at this
  refine ⟨_, _, rfl, by kernel_rfl, Nat, chV n s xs.length, KpC8 a b s n, _, _, _, fun pre W => ∃ G, Q pre G ∧ Fr w0 W (sIt b [.int .i64 (n : Int)] :: sIt a [s] :: G), chunk8_stops (hs.ev f.old) hl hn hn2 (ca f) (cb f), fun h k => ⟨fun x => k.1 (h.1 x), fun x => k.2 (h.2 x)⟩, ?_, ?_, ⟨F, h0, f⟩, ?_, ?_⟩
  · intro W l o o' _ hlo ho _
    have keep : ∀ {c : Addr} {u : Value}, W.cell? c = some u → (W.putObj l o').cell? c = some u := fun {c u} hc => by
      obtain ⟨oc, hoc, hcc⟩ := cells_of_cell hc
      have : c.block ≠ l := fun e => by rw [e, hlo] at hoc; injection hoc with hoc; subst hoc; rw [ho] at hcc; cases hcc
      rw [World.cell?_of_block (World.putObj_heap_other this)]; exact hc
    exact ⟨keep, keep⟩
  · rintro pre W W' row ⟨G, hQ, fG⟩ hg hr
    exact ⟨G, hQ, fG.grown hg fun r e => ⟨Nat.le_trans f.old.size (hr r e).1, (hr r e).2⟩⟩
  · rintro pre j W ⟨G, hQ, fG⟩ hlen
    have hN := chV_nm (n := n) (hs.ev fG.old) j
    refine hbody pre j W G hQ fG hlen hN (fun g hg => ?_) _ fun W' G' h1 h2 h3 => ⟨h1, ⟨fun _ => ca h3, fun _ => cb h3⟩, G', h2, h3⟩
    by_cases he : xs = []
    · right; unfold chL; rw [he]; simp
    · left
      unfold chV at hg
      split at hg
      · rw [subV3_own] at hg; exact hs.old he hg
      · cases hg
  · rintro D xs' W hD rfl ⟨G, hQ, fG⟩ hk
    exact hpost D W G hD hQ fG hk
end
end Go.Proofs.YtiimlfgjnapgjaaGreatDoorV

/- Package box: entries, turned; Make. -/
set_option linter.unusedVariables false
set_option linter.unusedSimpArgs false
namespace Go.Proofs.YtiimlfgjnapgjaaGreatDoorV
open Go Go.RowKit
theorem Nm.chN {k : IntKind} {S : SS} {w w' : World} {v : Value} {xs : List Int} (h : Nm k w v xs) (hc : Ch S w w') (hs : xs ≠ [] → ∀ g i, v.ownBlock = some g → ¬ S g i) : Nm k w' v xs := by
  by_cases he : xs = []
  · subst he
    obtain ⟨⟨a, c, h1, h2, h3, h4, h5⟩, h6⟩ := h
    exact ⟨⟨a, c, h1, h2, h3, fun ad ha j u hj => by simp at hj, h5⟩, h6⟩
  · exact h.ch hc (hs he)
noncomputable abbrev eI5 : TypeId := elOf P t_sl_api_Item
abbrev ChF := List Int → List Int → List Int × List Int
/-- An entry's bytes, turned, if that does not make them much longer. -/
def turnBx (ch : ChF) (tg xs : List Int) : List Int × List Int := if (((ch xs tg).1.length : Nat) : Int) > (xs.length : Int) + (xs.length : Int) / 256 + 8 then (xs, []) else ch xs tg
def itemP (r : List Int × List Int) (e : En) : ItP := ⟨e.1, e.2.length, cSum e.2, r.2, r.1.length⟩
/-- The chain that an entry is turned by. -/
def tgOf (auto : Bool) (ts : List Int) (dF : List Int → List Int) (xs : List Int) : List Int := if auto = true then dF xs else ts
def trOf (ch : ChF) (auto : Bool) (ts : List Int) (dF : List Int → List Int) (e : En) : List Int × List Int := turnBx ch (tgOf auto ts dF e.2) e.2
noncomputable def TurnE (w : World) (name : ByteArray) (xs : List Int) (r : List Int × List Int) (e : Ending) (w' : World) : Prop :=
  ∃ y did, e = .returned (.tuple #[y, .agg #[.string name, .int .i64 xs.length, .int .u32 (cSum xs), did, .int .i64 r.1.length]]) ∧ Ev w w' ∧ Nm .u8 w' y r.1 ∧ ON .i64 eN w' w.heap.size did r.2
section
variable {w0 w : World} {F : List It}
theorem turned_any {name : ByteArray} {dv cv sv nv : Value} {auto locked : Bool} {level block rounds : Int} {xs ts : List Int} {ch : ChF} {dF : List Int → List Int} (hd : Nm .u8 w dv xs) (hc : Nm .i64 w cv ts) (hl : xs.length ≤ 10000000)
    (hch : ∀ {w' : World} {b tv : Value}, Ev w w' → Nm .u8 w' b xs → Nm .i64 w' tv (tgOf auto ts dF xs) → Calls P n_chain_Choose #[b, tv] w' (FwdE w' (ch xs (tgOf auto ts dF xs))))
    (hdet : auto = true → ∀ {w' : World} {b : Value}, Ev w w' → Nm .u8 w' b xs → Calls P n_chain_Detect #[b] w' (DetE w' (dF xs))) :
    Calls P n_box_turned #[.agg #[.string name, dv], .agg #[.bool auto, cv, .int .i64 level, .int .i64 block, .bool locked, sv, nv, .int .i64 rounds]] w (TurnE w name xs (turnBx ch (tgOf auto ts dF xs) xs)) := by
  refine of_box_turned (fBox (Fr.start w) fun x2 w1 f1 => fBox f1 fun o3 w2 f2 => fAlloc (z := .agg #[.string ⟨#[]⟩, .int .i64 0, .int .u32 0, .slice none 0 0, .int .i64 0]) f2 (by kernel_rfl) fun t5 w3 f3 => fLoad_v f3 1 1 rfl rfl ?_)
  obtain ⟨tg, htg⟩ : ∃ tg, tg = tgOf auto ts dF xs := ⟨_, rfl⟩
  rw [← htg] at hch ⊢
  obtain ⟨FF, hFF⟩ : ∃ FF : List It, FF = [sIt t5 [.string ⟨#[]⟩, .int .i64 0, .int .u32 0, .slice none 0 0, .int .i64 0], sIt o3 [.bool auto, cv, .int .i64 level, .int .i64 block, .bool locked, sv, nv, .int .i64 rounds], sIt x2 [.string name, dv]] := ⟨_, rfl⟩
  have f3 : Fr w w3 FF := by rw [hFF]; exact f3
  refine ⟨fun v w' => Fr w w' FF ∧ Nm .i64 w' v tg, fLoad_b f3 1 0 (by rw [hFF]; rfl) rfl (gIf_b (fun ha => fLoad_v f3 2 1 (by rw [hFF]; rfl) rfl (gCall_of (hdet ha f3.old (hd.ev f3.old)) ?_)) (fun ha => ⟨f3, by rw [htg]; unfold tgOf; rw [ha]; exact hc.ev f3.old⟩)), ?_⟩
  · rintro _ w4 ⟨v, rfl, h4, nv4⟩
    exact ⟨v, rfl, f3.ev h4, by rw [htg]; unfold tgOf; rw [if_pos ha]; exact nv4⟩
  rintro _ tv w5 ⟨f5, ht5⟩
  refine fLoad_v f5 2 1 (by rw [hFF]; rfl) rfl (gCall_of (hch f5.old (hd.ev f5.old) ht5) ?_)
  rintro _ w6 ⟨y, did, rfl, h6, ny, nd⟩
  have f6 := f5.ev h6
  have ht5b : t5.block < w5.heap.size := (f5.ft 0 (it := sIt t5 [.string ⟨#[]⟩, .int .i64 0, .int .u32 0, .slice none 0 0, .int .i64 0]) (by rw [hFF]; rfl) (k := t5.block) rfl).2
  have ht5a : w.heap.size ≤ t5.block := (f5.ft 0 (it := sIt t5 [.string ⟨#[]⟩, .int .i64 0, .int .u32 0, .slice none 0 0, .int .i64 0]) (by rw [hFF]; rfl) (k := t5.block) rfl).1
  refine ⟨y, did, rfl, fun y' did' w' => Fr w w' FF ∧ Nm .u8 w' y' (turnBx ch tg xs).1 ∧ ON .i64 eN w' w5.heap.size did' (turnBx ch tg xs).2 ∧ ((turnBx ch tg xs).1 ≠ [] → ∀ g, y'.ownBlock = some g → g ≠ t5.block), ?_, ?_⟩
  · refine gLen_nm ny.nm (fLoad_v f6 2 1 (by rw [hFF]; rfl) rfl (gLen_nm (hd.ev f6.old) (gCall_i0 (of_box_grown ⟨rfl, rfl⟩) ?_)))
    have e : i64 (i64 ((xs.length : Int) + i64 (Int.tdiv (xs.length : Int) 256)) + 8) = (xs.length : Int) + (xs.length : Int) / 256 + 8 := by
      rw [Int.tdiv_eq_ediv_of_nonneg (by omega), i64_id (n := (xs.length : Int) / 256) (by omega) (by omega), i64_id (n := (xs.length : Int) + (xs.length : Int) / 256) (by omega) (by omega), i64_id (by omega) (by omega)]
    rw [e]
    refine gIf_dec (fun hg => fLoad_v f6 2 1 (by rw [hFF]; rfl) rfl ?_) (fun hg => ?_)
    · have e2 : turnBx ch tg xs = (xs, []) := by unfold turnBx; rw [if_pos hg]
      rw [e2]
      exact ⟨f6, hd.ev f6.old, ON.nil .i64 eN _ _, fun hne g hgo e => by have := hd.old hne hgo; omega⟩
    · have e2 : turnBx ch tg xs = ch xs tg := by unfold turnBx; rw [if_neg hg]
      rw [e2]
      exact ⟨f6, ny.nm, nd, fun _ g hgo e => by have := (ny.base hgo).1; omega⟩
  rintro _ y' did' w8 ⟨f8, ny8, nd8, hy8⟩
  have hB : ∀ {w' : World}, Ev w8 w' → ∀ z u, [Value.string name, dv][z]? = some u → w'.cell? (x2.add z) = some u := fun he z u hz => Ch.cell he (f8.cell 2 z (by rw [hFF]; rfl) hz) fun h => h
  refine ⟨fun w' => ∀ z u, [Value.string name, dv][z]? = some u → w'.cell? (x2.add z) = some u, hB (Ev.drew0 w8), gLoadB_s (fun w' hw => hw 0 _ rfl) (gLoadB_v (fun w' hw => hw 1 _ rfl) (gLen_nm (hd.ev f8.old) (gLoadB_v (fun w' hw => hw 1 _ rfl) (gLen_nm ny8 (gCall_i (cSum_any (hd.ev f8.drew.old) (by omega)) fun w9 h9 => ⟨hB ((Ev.drew0 w8).trans h9), nd8.one, ?_⟩)))))⟩
  have h89 := (Ev.drew0 w8).trans h9
  have f9 := f8.ev h89
  rw [hFF] at f9
  have hSt : St w9 t5 [.string ⟨#[]⟩, .int .i64 0, .int .u32 0, .slice none 0 0, .int .i64 0] := f9.get 0 rfl
  refine gStore_agg0 hSt (Nat.le_refl 5) (fun u hu => ?_) (fun w10 hc10 _ hS10 => ⟨?_, ?_⟩) (by kernel_rfl)
  · simp at hu; rcases hu with rfl | rfl | rfl | rfl | rfl
    · rfl
    · rfl
    · rfl
    · exact nd8.nm.oc
    · rfl
  · intro z u hz
    refine Ch.cell hc10 (hB h89 z u hz) fun hh => ?_
    have := f9.apart (i := 0) (j := 2) rfl rfl (by decide) t5.block rfl
    have h0 : x2.spot = none := (show St w9 x2 [.string name, dv] from f9.get 2 rfl).1
    have hb : (x2.add z).block = x2.block := by rw [Addr.add_none h0]
    exact this (by show t5.block = x2.block; rw [← hb]; exact hh.1.symm)
  · have f10 := f9.upd (jt := sIt t5 [.string name, .int .i64 xs.length, .int .u32 (cSum xs), did', .int .i64 (turnBx ch tg xs).1.length]) 0 rfl hc10 (fun k _ hh => .inl hh.1) hS10 fun k hk => .inl hk
    refine fLoadA f10 0 rfl ⟨y', did', rfl, f10.old, ?_, ?_⟩
    · exact (ny8.ev h89).chN hc10 fun hne g i hgo hh => hy8 hne g hgo hh.1
    · have n9 : ON .i64 eN w9 w5.heap.size did' (turnBx ch tg xs).2 := nd8.ev h89
      exact (n9.ch hc10 fun g i hgo hh => by have := (n9.base hgo).1; have := hh.1; omega).low (f5.old.size)
/-! ### Make -/
noncomputable def itF (v : Value) (us : List ItV) : List It := rIt eI5 5 v us.length (cells5 us) :: us.reverse.map fun u => oIt .i64 eN u.cv u.p.chain
theorem itF_is {v : Value} {us : List ItV} (f : Fr w0 w (itF v us)) : Is w v us := ⟨f.row 0 rfl, fun u hu => by
  have hm : oIt .i64 eN u.cv u.p.chain ∈ itF v us := List.mem_cons_of_mem _ (List.mem_map.2 ⟨u, List.mem_reverse.2 hu, rfl⟩)
  have : ON .i64 eN w 0 u.cv u.p.chain := (f.mem hm).1
  exact this.nm⟩
theorem itF_snoc (v : Value) (us : List ItV) (u : ItV) : itF v (us ++ [u]) = rIt eI5 5 v (us.length + 1) (cells5 us ++ c5 u) :: oIt .i64 eN u.cv u.p.chain :: us.reverse.map fun u => oIt .i64 eN u.cv u.p.chain := by
  unfold itF; rw [cells5_app, List.length_append, List.reverse_append]
  have : cells5 [u] = c5 u := by simp [cells5]
  rw [this]; rfl
theorem Sl.of_st5 {ad : Addr} {u : ItV} (h : St w ad (c5 u)) : Sl w 5 (.slice (some ad) 1 1) 1 (c5 u) :=
  ⟨some ad, 1, rfl, Nat.le_refl _, rfl, fun ad' ha j x hj => by injection ha with ha; subst ha; exact St.cell h hj, fun h => by cases h⟩
def allB (rs : List (List Int × List Int)) : List Int := (rs.map (·.1)).flatten
theorem allB_snoc (rs : List (List Int × List Int)) (r : List Int × List Int) : allB (rs ++ [r]) = allB rs ++ r.1 := by simp [allB]
/-- The blocks, as they are written. -/
def blksB (blk : List Int → List Int) (n : Nat) (xs : List Int) (js : List Nat) : List Int := (js.map fun j => blk (chL n xs j)).flatten
theorem blksB_snoc (blk : List Int → List Int) (n : Nat) (xs : List Int) (js : List Nat) (j : Nat) : blksB blk n xs (js ++ [j]) = blksB blk n xs js ++ blk (chL n xs j) := by simp [blksB]
def headB (auto : Bool) (ts : List Int) (level block : Int) : List Int := numB (u64 level).toNat ++ numB (u64 block).toNat ++ numB (if auto = true then 1 else 0) ++ tagsB ts
def bodyB (tr : En → List Int × List Int) (blk : List Int → List Int) (auto : Bool) (ts : List Int) (level block : Int) (es : List En) : List Int :=
  headB auto ts level block ++ itemsB (es.map fun e => itemP (tr e) e) ++ blksB blk block.toNat (allB (es.map tr)) (List.range (chN block.toNat (allB (es.map tr)).length))
def boxB (body : List Int) : List Int := [118, 98, 120, 1] ++ littleB (cSum body) 4 ++ body
/-- What Make tells. -/
def makeB (tr : En → List Int × List Int) (blk : List Int → List Int) (auto : Bool) (ts : List Int) (level block : Int) (locked : Bool) (ns nn rounds : Int) (l : List En) : List Int × Int :=
  if optR auto ts level block locked ns nn rounds = false then ([], 1) else if (sortE l).2 ≠ 0 then ([], (sortE l).2) else (boxB (bodyB tr blk auto ts level block (sortE l).1), 0)
theorem cSum_u64 {xs : List Int} (hx : inR .u8 xs) : u64 (cSum xs) = cSum xs := by have := cSum_rng hx; rw [u64_def]; omega
end
end Go.Proofs.YtiimlfgjnapgjaaGreatDoorV

/- Package box: Make. -/
set_option linter.unusedVariables false
set_option linter.unusedSimpArgs false
namespace Go.Proofs.YtiimlfgjnapgjaaGreatDoorV
open Go Go.RowKit
theorem sortE_ok {l : List En} (h : (sortE l).2 = 0) : (sortE l).1.length ≤ 4096 ∧ sumD (sortE l).1 ≤ 1048576 ∧ (∀ e ∈ (sortE l).1, e.1.size ≤ 4096) ∧ (sortE l).1.Perm l := by
  unfold sortE at h ⊢
  split at h
  · cases h
  rename_i h1
  rw [if_neg h1]
  split at h
  · cases h
  rename_i h2
  rw [if_neg h2]
  split at h
  · cases h
  rename_i h3
  rw [if_neg h3]
  have hp := srtN_perm l
  have hm : much l = false := by simpa using h3
  unfold much at hm
  simp only [Bool.or_eq_false_iff, decide_eq_false_iff_not] at hm
  refine ⟨by show (srtN l).length ≤ _; rw [hp.length_eq]; omega, by show sumD (srtN l) ≤ _; rw [sumD_perm hp]; omega, fun e he => ?_, hp⟩
  have hl : e ∈ l := hp.mem_iff.1 he
  have hr : rightN e.1 = true := by
    cases hc : rightN e.1 with
    | true => rfl
    | false => exact absurd (List.any_eq_true.2 ⟨e, hl, by rw [hc]; rfl⟩) h1
  unfold rightN rightU at hr
  rw [Bool.and_eq_true, decide_eq_true_iff, Array.length_toList] at hr
  exact hr.1
theorem turnBx_len (ch : ChF) (tg xs : List Int) : ((turnBx ch tg xs).1.length : Int) ≤ (xs.length : Int) + (xs.length : Int) / 256 + 8 := by
  unfold turnBx
  split
  · dsimp only; omega
  · omega
theorem allB_len {tr : En → List Int × List Int} (h : ∀ e, ((tr e).1.length : Int) ≤ (e.2.length : Int) + (e.2.length : Int) / 256 + 8) : ∀ es : List En, ((allB (es.map tr)).length : Int) ≤ 2 * sumD es + 8 * es.length
  | [] => by simp [allB, sumD]
  | e :: es => by
    have ih := allB_len h es
    have h1 := h e
    have e1 : allB ((e :: es).map tr) = (tr e).1 ++ allB (es.map tr) := by simp [allB]
    have e2 : sumD (e :: es) = (e.2.length : Int) + sumD es := by simp [sumD]
    rw [e1, e2, List.length_append, List.length_cons]; omega
theorem blksB_len2 {blk : List Int → List Int} {n : Nat} {xs : List Int} (hb : ∀ ys, (blk ys).length ≤ 2 * ys.length + 40) : ∀ js : List Nat, (blksB blk n xs js).length ≤ (2 * n + 40) * js.length
  | [] => by simp [blksB]
  | j :: js => by
    have ih := blksB_len2 (blk := blk) (n := n) (xs := xs) hb js
    have h1 := hb (chL n xs j)
    have h2 := chL_len n xs j
    have e : blksB blk n xs (j :: js) = blk (chL n xs j) ++ blksB blk n xs js := by simp [blksB]
    rw [e, List.length_append, List.length_cons, Nat.mul_add, Nat.mul_one]; omega
section
variable {w0 w : World} {F : List It}
set_option maxHeartbeats 800000 in
theorem Make_any {lv cv sv nv : Value} {us : List E3} {auto locked : Bool} {level block rounds : Int} {ts ss ns : List Int} {ch : ChF} {dF blk : List Int → List Int} (hE : Es w lv us) (hs : Small us) (hc : Nm .i64 w cv ts) (hsv : Nm .u8 w sv ss) (hnv : Nm .u8 w nv ns) (htl : ts.length ≤ 1000000)
    (hcl : ∀ tg xs, (ch xs tg).2.length ≤ 10)
    (hch : ∀ e ∈ us.map er, ∀ {w' : World} {b tv : Value}, Ev w w' → e.2.length ≤ 1048576 → Nm .u8 w' b e.2 → Nm .i64 w' tv (tgOf auto ts dF e.2) → Calls P n_chain_Choose #[b, tv] w' (FwdE w' (ch e.2 (tgOf auto ts dF e.2))))
    (hdet : auto = true → ∀ e ∈ us.map er, ∀ {w' : World} {b : Value}, Ev w w' → e.2.length ≤ 1048576 → Nm .u8 w' b e.2 → Calls P n_chain_Detect #[b] w' (DetE w' (dF e.2)))
    (hbl : ∀ ys, (blk ys).length ≤ 2 * ys.length + 40)
    (hblk : allB ((sortE (us.map er)).1.map (trOf ch auto ts dF)) ≠ [] → ∀ {w' : World} {ad : Addr} {v b : Value} {X ys : List Int}, Ev w w' → ys.length ≤ 65536 → W1 w' ad v X → Stab (Ft ad v) w' (fun w'' => Nm .u8 w'' b ys) → X.length ≤ 1000000000 →
      Calls P n_box_writer_block #[.pointer (some ad), b, .int .i64 level] w' (fun e w'' => e = .returned (.tuple #[]) ∧ ∃ v', WS w' w'' ad v v' (X ++ blk ys))) :
    Calls P n_box_Make #[lv, .agg #[.bool auto, cv, .int .i64 level, .int .i64 block, .bool locked, sv, nv, .int .i64 rounds]] w (TupE w (makeB (trOf ch auto ts dF) blk auto ts level block locked ss.length ns.length rounds (us.map er))) := by
  refine of_box_Make (fBox (Fr.start w) fun o3 w1 f1 => fLoadA f1 0 rfl (gCall_b (BRight_any (hc.ev f1.old) (hsv.ev f1.old) (hnv.ev f1.old) (by omega)) fun w2 h2 => ?_))
  have f2 := f1.ev h2
  refine gIf_nb (fun hr => ?_) (fun hr => ?_)
  · have e : makeB (trOf ch auto ts dF) blk auto ts level block locked ss.length ns.length rounds (us.map er) = ([], 1) := by unfold makeB; rw [if_pos hr]
    rw [e]
    exact ⟨_, rfl, f2.old, ON.nil _ _ _ _⟩
  refine gCall_of (Sort_any (hE.ev f2.old) hs) ?_
  rintro _ w3 ⟨tv, es3, rfl, hmap, fs⟩
  refine ⟨_, _, rfl, gIf_neq (fun hne => ?_) (fun he => ?_)⟩
  · have e : makeB (trOf ch auto ts dF) blk auto ts level block locked ss.length ns.length rounds (us.map er) = ([], (sortE (us.map er)).2) := by unfold makeB; rw [if_neg (by rw [hr]; decide), if_pos hne]
    rw [e]
    exact ⟨_, rfl, f2.old.trans fs.old, ON.nil _ _ _ _⟩
  have eM : makeB (trOf ch auto ts dF) blk auto ts level block locked ss.length ns.length rounds (us.map er) = (boxB (bodyB (trOf ch auto ts dF) blk auto ts level block (sortE (us.map er)).1), 0) := by unfold makeB; rw [if_neg (by rw [hr]; decide), if_neg (by omega)]
  rw [eM]
  obtain ⟨hlen, hsd, hnm, hperm⟩ := sortE_ok he
  have hE3 : Es w3 tv es3 := Es.own fs
  have hw3 : Ev w w3 := f2.old.trans fs.old
  have hmem : ∀ u ∈ es3, er u ∈ us.map er ∧ u.1.size ≤ 4096 ∧ u.2.2.length ≤ 1048576 := fun u hu => by
    have h1 : er u ∈ (sortE (us.map er)).1 := by rw [← hmap]; exact List.mem_map.2 ⟨u, hu, rfl⟩
    refine ⟨hperm.mem_iff.1 h1, hnm _ h1, ?_⟩
    have h2 : ∀ (l : List En) (x : En), x ∈ l → (x.2.length : Int) ≤ sumD l := fun l x hx => by
      induction l with
      | nil => cases hx
      | cons y l ih =>
        have e2 : sumD (y :: l) = (y.2.length : Int) + sumD l := by simp [sumD]
        have := sumD_nn l
        rcases List.mem_cons.1 hx with rfl | hx
        · omega
        · have := ih hx; omega
    have := h2 _ _ h1
    have h3 : (er u).2 = u.2.2 := rfl
    rw [h3] at this; omega
  obtain ⟨es, hes⟩ : ∃ es, es = (sortE (us.map er)).1 := ⟨_, rfl⟩
  rw [← hes] at hmap hlen hsd hblk ⊢
  have hl3 : es3.length = es.length := erMap_len hmap
  obtain ⟨tr, htr⟩ : ∃ tr, tr = trOf ch auto ts dF := ⟨_, rfl⟩
  rw [← htr] at hblk ⊢
  have htl1 : ∀ e, ((tr e).1.length : Int) ≤ (e.2.length : Int) + (e.2.length : Int) / 256 + 8 := fun e => by rw [htr]; exact turnBx_len _ _ _
  have htl2 : ∀ e, (tr e).2.length ≤ 10 := fun e => by
    rw [htr]; unfold trOf turnBx
    split
    · exact Nat.zero_le _
    · exact hcl _ _
  have hall : (allB (es.map tr)).length ≤ 2200000 := by have := allB_len htl1 es; omega
  have hallk : ∀ k, (allB ((es.take k).map tr)).length ≤ 2200000 := fun k => by
    have e : es.take k ++ es.drop k = es := List.take_append_drop k es
    have h0 : ∀ a b : List En, allB ((a ++ b).map tr) = allB (a.map tr) ++ allB (b.map tr) := fun a b => by simp [allB]
    have h1 := congrArg List.length (h0 (es.take k) (es.drop k))
    rw [e, List.length_append] at h1; omega
  have hO : ∀ {w' : World}, Ev w3 w' → ∀ z x, [Value.bool auto, cv, .int .i64 level, .int .i64 block, .bool locked, sv, nv, .int .i64 rounds][z]? = some x → w'.cell? (o3.add z) = some x := fun hw z x hz => Ch.cell (fs.old.trans hw) (f2.cell 0 z rfl hz) fun h => h
  obtain ⟨hb16, hb65⟩ : 16 ≤ block ∧ block ≤ 65536 := by
    unfold optR at hr
    rw [Bool.and_eq_true, Bool.not_eq_true', decide_eq_false_iff_not] at hr
    omega
  refine gLen_slv hE3.1 ⟨fun al its t w' => ∃ (j : Nat) (vs : List ItV), t = (j : Int) ∧ j ≤ es3.length ∧ vs.map ItV.p = (es.take j).map (fun e => itemP (tr e) e) ∧ Fr w3 w' (oIt .u8 eB al (allB ((es.take j).map tr)) :: itF its vs), fun _ _ t _ => (es3.length - t).toNat, ⟨0, [], rfl, Nat.zero_le _, rfl, ((Fr.start w3).nilR eI5 5).nil0 .u8 eB⟩, ?_⟩
  rintro _ al its t w4 ⟨j, vs, rfl, hj, hvs, f4⟩
  have hvl : vs.length = j := by
    have := congrArg List.length hvs
    rw [List.length_map, List.length_map, List.length_take] at this; omega
  refine gIf_dec (fun hlt => ?_) (fun hge => ?_)
  · -- one more entry
    have hlt' : j < es3.length := by omega
    have hu : es3[j]? = some es3[j] := List.getElem?_eq_getElem hlt'
    have hmu : es3[j] ∈ es3 := List.getElem_mem hlt'
    have hte : es.take (j + 1) = es.take j ++ [er es3[j]] := by
      rw [← hmap, ← List.map_take, ← List.map_take, List.take_succ_eq_append_getElem hlt', List.map_append]; rfl
    generalize es3[j] = u at hu hmu hte
    obtain ⟨hm1, hm2, hm3⟩ := hmem u hmu
    have hnu := hE3.2 u hmu
    refine gIdx_E (hE3.ev f4.old) rfl hu fun ad h0 h1 => gLoad_E h0 h1 (fAlloc (z := .agg #[.string ⟨#[]⟩, .slice none 0 0]) f4 (by kernel_rfl) fun x10 w5 f5 => fStoreA f5 0 rfl (fun w6 f6 => ?_) rfl (fun x hx => by simp at hx; rcases hx with rfl | rfl; rfl; exact hnu.oc))
    have hw6 : Ev w w6 := hw3.trans f6.old
    refine fLoadA f6 0 rfl (gLoad_agg [.bool auto, cv, .int .i64 level, .int .i64 block, .bool locked, sv, nv, .int .i64 rounds] (fun z x hz => hO f6.old z x hz) ?_ rfl (by kernel_rfl))
    refine gCall_of (turned_any (ch := ch) (dF := dF) (hnu.ev f6.old) (hc.ev hw6) (by omega) (fun {w' b tv} he hb htg => hch (er u) hm1 (hw6.trans he) hm3 hb htg) (fun ha {w' b} he hb => hdet ha (er u) hm1 (hw6.trans he) hm3 hb)) ?_
    rintro _ w7 ⟨y, did, rfl, h7, ny, nd⟩
    have f7 := ((f6.drop 0).ev h7)
    have f7 : Fr w3 w7 (oIt .u8 eB al (allB ((es.take j).map tr)) :: itF its vs) := f7
    have nd' : ON .i64 eN w7 w6.heap.size did (turnBx ch (tgOf auto ts dF u.2.2) u.2.2).2 := nd
    have f7 : Fr w3 w7 (oIt .i64 eN did (turnBx ch (tgOf auto ts dF u.2.2) u.2.2).2 :: oIt .u8 eB al (allB ((es.take j).map tr)) :: itF its vs) := by
      have g6 : Fr w3 w6 (oIt .u8 eB al (allB ((es.take j).map tr)) :: itF its vs) := f6.drop 0
      exact g6.newO h7 nd'
    have hrr : turnBx ch (tgOf auto ts dF u.2.2) u.2.2 = tr (er u) := by rw [htr]; rfl
    rw [hrr] at f7 ny nd'
    have hr1 := htl1 (er u)
    have he2 : (er u).2 = u.2.2 := rfl
    rw [he2] at hr1
    have hdidc : did.oneCell' = true := nd'.nm.oc
    obtain ⟨q, hq⟩ : ∃ q : ItV, q = ⟨itemP (tr (er u)) (er u), did⟩ := ⟨_, rfl⟩
    have hq5 : c5 q = [.string u.1, .int .i64 u.2.2.length, .int .u32 (cSum u.2.2), did, .int .i64 (tr (er u)).1.length] := by rw [hq]; rfl
    have hq1 : ∀ x ∈ c5 q, x.oneCell' = true := fun x hx => by
      rw [hq5] at hx
      simp at hx; rcases hx with rfl | rfl | rfl | rfl | rfl
      · rfl
      · rfl
      · rfl
      · exact hdidc
      · rfl
    rw [hrr]
    refine ⟨_, _, _, _, _, _, rfl, fAlloc (z := .agg #[.string ⟨#[]⟩, .int .i64 0, .int .u32 0, .slice none 0 0, .int .i64 0]) (Fr.start w7) (by kernel_rfl) fun i12 w8 g8 => fStoreA g8 0 rfl (fun w9 g9 => ?_) rfl (fun x hx => hq1 x (by rw [hq5]; exact hx))⟩
    have g9 : Fr w7 w9 [sIt i12 (c5 q)] := by rw [hq5]; exact g9
    have g9 := g9.drew
    have hyl : (tr (er u)).1.length ≤ 1100000 := by omega
    have hal := hallk j
    have ea : allB ((es.take (j + 1)).map tr) = allB ((es.take j).map tr) ++ (tr (er u)).1 := by rw [hte, List.map_append]; exact allB_snoc _ _
    have ev : (vs ++ [q]).map ItV.p = (es.take (j + 1)).map (fun e => itemP (tr e) e) := by rw [hte, List.map_append, List.map_append, hvs, hq]; rfl
    have hone : (Value.agg #[.string u.1, .int .i64 u.2.2.length, .int .u32 (cSum u.2.2), did, .int .i64 (tr (er u)).1.length]).cells.toList = c5 q := by rw [hq5]; rfl
    have fin : ∀ {w' : World} {t43 t47 : Value} {H : List It}, Fr w3 w' (H ++ oIt .i64 eN did (tr (er u)).2 :: oIt .u8 eB t43 (allB ((es.take j).map tr) ++ (tr (er u)).1) :: rIt eI5 5 t47 (vs.length + 1) (cells5 vs ++ c5 q) :: vs.reverse.map fun u => oIt .i64 eN u.cv u.p.chain) →
        (∃ (j' : Nat) (vs' : List ItV), i64 ((j : Int) + 1) = (j' : Int) ∧ j' ≤ es3.length ∧ vs'.map ItV.p = (es.take j').map (fun e => itemP (tr e) e) ∧ Fr w3 w' (oIt .u8 eB t43 (allB ((es.take j').map tr)) :: itF t47 vs')) ∧ ((es3.length : Int) - i64 ((j : Int) + 1)).toNat < ((es3.length : Int) - (j : Int)).toNat := fun {w' t43 t47 H} hf => by
      have hf2 := hf.dropN H.length
      rw [List.drop_left] at hf2
      refine ⟨⟨j + 1, vs ++ [q], by rw [i64_id (by omega) (by omega)]; omega, by omega, ev, ?_⟩, by rw [i64_id (by omega) (by omega)]; omega⟩
      rw [ea, itF_snoc]
      have hqc : oIt .i64 eN q.cv q.p.chain = oIt .i64 eN did (tr (er u)).2 := by rw [hq]; rfl
      rw [hqc]
      exact hf2.picksN 3 [1, 2, 0] (by decide) (by decide)
    refine ⟨fun w' => ∀ z x, (c5 q)[z]? = some x → w'.cell? (i12.add z) = some x, fun z x hz => g9.cell 0 z rfl hz, gLoadB_agg [.string u.1, .int .i64 u.2.2.length, .int .u32 (cSum u.2.2), did, .int .i64 (tr (er u)).1.length] (fun w' hw z x hz => hw z x (by rw [hq5]; exact hz)) ?_ rfl (by kernel_rfl)⟩
    refine ⟨?_, ?_⟩
    · -- the bytes first
      have f9 : Fr w3 w9.drew (sIt i12 (c5 q) :: oIt .i64 eN did (tr (er u)).2 :: oIt .u8 eB al (allB ((es.take j).map tr)) :: itF its vs) := Fr.glue f7 g9
      refine fApp f9 2 rfl (ny.ev g9.old) (by omega) fun t43 w10 f10 => ⟨fun z x hz => f10.cell 0 z rfl hz, ?_⟩
      refine fLit_sz 5 [c5 q] f10 (by rw [hq5]; rfl) rfl (fun v hv => by rw [List.mem_singleton.1 hv, hq5]; rfl) (fun t46 w11 f11 => ⟨fun z x hz => f11.cell 1 z rfl hz, ?_⟩) (by decide) (by kernel_rfl) (by decide +kernel)
      have f11 : Fr w3 w11 (sIt t46 (c5 q) :: sIt i12 (c5 q) :: oIt .i64 eN did (tr (er u)).2 :: oIt .u8 eB t43 (allB ((es.take j).map tr) ++ (tr (er u)).1) :: itF its vs) := by
        rw [hq5] at f11 ⊢; exact f11
      refine fAppR 100 (m := 1) f11 4 rfl (Sl.of_st5 (f11.get 0 rfl)) hq1 (by omega) (by unfold maxLen; omega) (fun t47 w12 f12 => ⟨fun z x hz => f12.cell 1 z rfl hz, ?_⟩) (by kernel_rfl)
      exact fin (H := [sIt t46 (c5 q), sIt i12 (c5 q)]) f12
    · -- the item first
      refine fLit_sz 5 [c5 q] g9 (by rw [hq5]; rfl) rfl (fun v hv => by rw [List.mem_singleton.1 hv, hq5]; rfl) (fun t46 w11 g11 => ⟨fun z x hz => g11.cell 1 z rfl hz, ?_⟩) (by decide) (by kernel_rfl) (by decide +kernel)
      have g11 : Fr w7 w11 [sIt t46 (c5 q), sIt i12 (c5 q)] := by rw [hq5] at g11 ⊢; exact g11
      have f11 : Fr w3 w11 (sIt t46 (c5 q) :: sIt i12 (c5 q) :: oIt .i64 eN did (tr (er u)).2 :: oIt .u8 eB al (allB ((es.take j).map tr)) :: itF its vs) := Fr.glue f7 g11
      refine fApp f11 3 rfl (ny.ev g11.old) (by omega) fun t43 w12 f12 => ⟨fun z x hz => f12.cell 1 z rfl hz, ?_⟩
      refine fAppR 100 (m := 1) f12 4 rfl (Sl.of_st5 (f12.get 0 rfl)) hq1 (by omega) (by unfold maxLen; omega) (fun t47 w13 f13 => ⟨fun z x hz => f13.cell 1 z rfl hz, ?_⟩) (by kernel_rfl)
      exact fin (H := [sIt t46 (c5 q), sIt i12 (c5 q)]) f13
  · -- all of them
    obtain rfl : j = es3.length := by omega
    have htk : es.take es3.length = es := by rw [hl3, List.take_length]
    rw [htk] at hvs f4
    have hw4 : Ev w w4 := hw3.trans f4.old
    have hAll : Nm .u8 w4 al (allB (es.map tr)) := f4.nm 0 rfl
    have hIs : Is w4 its vs := itF_is (f4.drop 0)
    have hO4 : ∀ {w' : World}, Ev w4 w' → ∀ z x, [Value.bool auto, cv, .int .i64 level, .int .i64 block, .bool locked, sv, nv, .int .i64 rounds][z]? = some x → w'.cell? (o3.add z) = some x := fun hw => hO (f4.old.trans hw)
    have hokp : ∀ p ∈ vs.map ItV.p, okP p := fun p hp => by
      rw [hvs] at hp
      obtain ⟨e, he, rfl⟩ := List.mem_map.1 hp
      rw [← hmap] at he
      obtain ⟨u, hu, rfl⟩ := List.mem_map.1 he
      exact ⟨(hmem u hu).2.1, htl2 _⟩
    have hin : inR .u8 (allB (es.map tr)) := hAll.2
    refine fAlloc (z := .agg #[.slice none 0 0]) (Fr.start w4) (by kernel_rfl) fun w13 w16 f16 => ?_
    have f16 : Fr w4 w16 [wIt eB w13 (.slice none 0 0) []] := f16.asW (e := eB) 0 rfl
    refine ⟨fun a w' => w' = w16 ∧ a = (if auto = true then 1 else 0), gLoad_b (hO4 f16.old 0 _ rfl) (gIf_b (fun h => ⟨rfl, by rw [if_pos h]⟩) (fun h => ⟨rfl, by rw [h]; rfl⟩)), ?_⟩
    rintro _ a w17 ⟨hw17, rfl⟩
    obtain rfl : w16 = w17 := hw17.symm
    have hadd : w13.add 0 = w13 := Addr.add_zero' w13
    have l1 := numB_10 level
    have l2 := numB_10 block
    have l3 : (numB (if auto = true then (1 : Int) else 0).toNat).length ≤ 10 := numB_len64 (by cases auto <;> decide)
    have l3' : (numB (if auto = true then 1 else 0)).length ≤ 10 := numB_len64 (by cases auto <;> decide)
    have l4 := tagsB_len ts (by omega)
    refine gLoad_i (hO4 f16.old 2 _ rfl) ?_
    rw [hadd]
    refine fNumU f16 0 rfl (by simp) fun v18 w18 f18 => gLoad_i (hO4 f18.old 3 _ rfl) (fNumU f18 0 rfl (by simp; omega) fun v19 w19 f19 => ?_)
    refine fNum f19 0 rfl (by cases auto <;> decide) (by simp; omega) fun v20 w20 f20 => gLoad_v (hO4 f20.old 1 _ rfl) ?_
    refine gCall_u (wtags_any (ts := ts) f20 0 rfl (fun w' hf => hc.ev (hw4.trans hf.old)) (by simp only [List.length_append, List.length_nil]; omega)) fun w21 ⟨v21, f21⟩ => ?_
    refine gCall_u (witems_any (us := vs) f21 0 rfl (fun w' hf => hIs.ev hf.old) hokp (by omega) (by simp only [List.length_append, List.length_nil]; omega)) fun w22 ⟨v22, f22⟩ => ?_
    have eX : [] ++ numB (u64 level).toNat ++ numB (u64 block).toNat ++ numB (if auto = true then (1 : Int) else 0).toNat ++ tagsB ts ++ itemsB (vs.map ItV.p) = headB auto ts level block ++ itemsB (es.map fun e => itemP (tr e) e) := by
      rw [hvs]; unfold headB
      cases auto <;> rfl
    obtain ⟨X, hX⟩ : ∃ X, X = headB auto ts level block ++ itemsB (es.map fun e => itemP (tr e) e) := ⟨_, rfl⟩
    have hXl : X.length ≤ 100000000 := by
      have h1 := itemsN_len (ps := es.map fun e => itemP (tr e) e) (by rw [← hvs]; exact hokp)
      have h2 := numB_len64 (n := es.length) (by omega)
      rw [List.length_map] at h1
      rw [hX]; unfold headB itemsB
      simp only [List.length_append, List.length_map]; omega
    have g22 : Fr w4 w22 [wIt eB w13 v22 X] := by
      have : Fr w4 w22 [wIt eB w13 v22 ([] ++ numB (u64 level).toNat ++ numB (u64 block).toNat ++ numB (if auto = true then (1 : Int) else 0).toNat ++ tagsB ts ++ itemsB (vs.map ItV.p))] := f22
      rw [eX, ← hX] at this; exact this
    obtain ⟨n, rfl⟩ : ∃ n : Nat, block = n := ⟨block.toNat, by omega⟩
    have hn1 : 16 ≤ n := by omega
    refine gLoad_i (hO4 g22.old 3 _ rfl) (Chunk8_any g22 hAll.one (n := n) (by omega) fun ca cb w23 f23 => ?_)
    obtain ⟨AL, hAL⟩ : ∃ AL, AL = allB (es.map tr) := ⟨_, rfl⟩
    rw [← hAL] at hAll hblk hall hin
    have hbb : ∀ js : List Nat, js.length ≤ chN n AL.length → (blksB blk n AL js).length ≤ 100000000 := fun js hk => by
      have h1 := blksB_len2 (blk := blk) (n := n) (xs := AL) hbl js
      rcases Nat.eq_zero_or_pos js.length with h0 | h0
      · rw [h0] at h1; omega
      · have h2 := (chN_lt (n := n) (len := AL.length) (j := js.length - 1) (by omega)).1 (by omega)
        have h4 : js.length - 1 ≤ (js.length - 1) * n := Nat.le_mul_of_pos_right _ (by omega)
        have h5 : (2 * n + 40) * js.length = 2 * ((js.length - 1) * n) + 2 * n + 40 * js.length := by
          obtain ⟨m, hm⟩ : ∃ m, js.length = m + 1 := ⟨js.length - 1, by omega⟩
          rw [hm, Nat.add_sub_cancel, Nat.add_mul, Nat.mul_add, Nat.mul_one, Nat.mul_assoc, Nat.mul_comm n m]
        omega
    refine range_chunk8 f23 hAll (by omega) (by omega) (by omega) (fun pre G => ∃ v, G = [wIt eB w13 v (X ++ blksB blk n AL pre)]) ⟨v22, by show [wIt eB w13 v22 X] = [wIt eB w13 v22 (X ++ [])]; rw [List.append_nil]⟩ ?_ ?_
    · rintro pre jj W _ ⟨v, rfl⟩ f hlenp hN hOb K hK
      have hlt := (chN_lt (len := AL.length) (j := pre.length) (n := n) (by omega)).1 hlenp
      have hAne : AL ≠ [] := by intro h; rw [h] at hlt; simp at hlt
      have hWr : W1 W w13 v (X ++ blksB blk n AL pre) := f.get 2 rfl
      have hcl := chL_len n AL jj
      have hpl := hbb pre (by omega)
      refine gLoad_i (hO4 f.old 2 _ rfl) (gCall_u (hblk hAne (ys := chL n AL jj) (hw4.trans f.old) (by omega) hWr (fun w'' hch' => ?_) (by rw [List.length_append]; omega)) fun W1' ⟨v', hws⟩ => ?_)
      · exact hN.chN hch' fun hne g i hg hh => by
          have hgo := hN.old hne hg
          have hg2 : g < w4.heap.size := by rcases hOb g hg with h | h; exact h; exact absurd h hne
          have := (f.mem (it := wIt eB w13 v (X ++ blksB blk n AL pre)) (by simp)).2 g hh
          omega
      · have f' := f.wr 2 rfl hws
        refine hK W1' [wIt eB w13 v' (X ++ blksB blk n AL (pre ++ [jj]))] hws.2.1.others ⟨v', rfl⟩ ?_
        rw [blksB_snoc, ← List.append_assoc]; exact f'
    · rintro D W _ hD ⟨v, rfl⟩ f hDD
      have hBl := hbb (List.range (chN n AL.length)) (by rw [List.length_range]; exact Nat.le_refl _)
      have hbody : X ++ blksB blk n AL (List.range (chN n AL.length)) = bodyB tr blk auto ts level n es := by
        unfold bodyB; rw [hX, hAL, Int.toNat_natCast]
      have hbl2 : (bodyB tr blk auto ts level n es).length ≤ 300000000 := by rw [← hbody, List.length_append]; omega
      rw [hbody] at f
      generalize bodyB tr blk auto ts level n es = BD at f hbl2
      have hW : W1 W w13 v BD := f.get 2 rfl
      refine gCall_v (Bytes_W hW (by omega)) fun y wa ⟨h1, oy⟩ => ?_
      have g1 : Fr W wa [oIt .u8 eB y BD] := (Fr.start W).newO h1 oy
      have hbu := oy.2
      refine fNewW g1 fun out vo wb g2 => fLitC [118, 98, 120, 1] g2 rfl rfl (fun x hx => by simp at hx; rcases hx with rfl | rfl | rfl | rfl <;> decide) fun t81 wc g3 => ?_
      refine raw1_any (g3.get 1 rfl) (fun w' hc' => Cn.nm ((g3.oth 1 rfl hc' fun k q h => h).get 0 rfl)) (by simp) fun vd wd hd => ?_
      have g4 : Fr W wd [cIt eB t81 [118, 98, 120, 1], wIt eB out vd [118, 98, 120, 1], oIt .u8 eB y BD] := g3.wr 1 rfl hd
      refine gCall_i (cSum_any (g4.nm 2 rfl) (by omega)) fun we h5 => ?_
      rw [cSum_u64 hbu]
      have hcr := cSum_rng hbu
      refine fLittleW (n := 4) (g4.ev h5) 1 rfl (by omega) (by simp) fun vf wf g6 => ?_
      have g6 : Fr W wf [cIt eB t81 [118, 98, 120, 1], wIt eB out vf ([118, 98, 120, 1] ++ littleB (cSum BD) 4), oIt .u8 eB y BD] := g6
      refine raw1_any (ys := BD) (g6.get 1 rfl) (fun w' hc' => (g6.oth 1 rfl hc' fun k q h => h).nm 1 rfl) (by simp [littleB_len]; omega) fun vg wg hg => ?_
      have g7 : Fr W wg [cIt eB t81 [118, 98, 120, 1], wIt eB out vg (boxB BD), oIt .u8 eB y BD] := g6.wr 1 rfl hg
      have hxl : (boxB BD).length ≤ 400000000 := by unfold boxB; simp only [List.length_append, littleB_len]; simp; omega
      refine gCall_v (Bytes_W (g7.get 1 rfl) (by omega)) fun z wh ⟨h8, oz⟩ => ?_
      have hk1 : wh.heap[D]? = some (.deferred (some [])) := (g7.old.trans h8).oth D _ hDD rfl
      have f9 := (((f.ev g7.old).newO h8 oz).putObj (D := D) (o' := .deferred none) (Nat.le_trans f23.old.size hD) hk1 rfl)
      exact ⟨hk1, z, rfl, hw4.trans f9.old, (f9.on 0 rfl).low hw4.size⟩
end
end Go.Proofs.YtiimlfgjnapgjaaGreatDoorV

/- Package valisehelp: Spoil. -/
namespace Go.Proofs.YtiimlfgjnapgjaaGreatDoorV
open Go Go.RowKit
end Go.Proofs.YtiimlfgjnapgjaaGreatDoorV

/- Entries held against each other, few of them; the laws NamesRight, NamesSort. -/
namespace Go.Proofs.YtiimlfgjnapgjaaGreatDoorV
open Go Go.RowKit
def Big (us : List E3) : Prop := ∀ u ∈ us, u.2.2.length ≤ reachBytes ∧ u.1.size ≤ reachBytes
theorem reach47 : reachBytes < 140737488355328 := by decide
section
variable {w0 w w' : World} {F : List It}
set_option maxRecDepth 20000 in
theorem good_E {v : Value} (h : Good P w t_sl_api_Entry [v]) : ∃ us, Es w v us ∧ Big us ∧ us.length ≤ 140737488355328 := by
  obtain ⟨n, cs, hS, _, hby, hg⟩ := good_slR (sz := 2) (e := t_api_Entry) (by kernel_rfl) (by kernel_rfl) h
  have hcl : cs.length = n * 2 := by obtain ⟨_, _, _, _, h, _⟩ := hS; exact h
  have : ∀ m, m ≤ n → ∃ us : List E3, us.length = m ∧ cells3 us = cs.take (m * 2) ∧ ∀ u ∈ us, Nm .u8 w u.2.1 u.2.2 ∧ u.2.2.length ≤ reachBytes ∧ u.1.size ≤ reachBytes := by
    intro m
    induction m with
    | zero => intro _; exact ⟨[], rfl, by simp [cells3], fun _ h => by cases h⟩
    | succ m ih =>
      intro hm
      obtain ⟨us, h1, h2, h3⟩ := ih (by omega)
      have hgm := hg m (by omega)
      obtain ⟨v0, g0, gg0⟩ := good_fld (i := 0) (off := 0) (ft := t_string) (by kernel_rfl) hgm
      obtain ⟨v1, g1, gg1⟩ := good_fld (i := 1) (off := 1) (ft := t_sl_uint8) (by kernel_rfl) hgm
      obtain ⟨s, e0, hs⟩ := good_stringR (by kernel_rfl) gg0
      obtain ⟨xs, hxs, _, hxb⟩ := good_nmR (k := .u8) (e := t_uint8) (by kernel_rfl) (by kernel_rfl) (by kernel_rfl) gg1
      have hb1 : P.bytesOf t_uint8 = 1 := by kernel_rfl
      rw [hb1, Nat.mul_one] at hxb
      simp only [List.cons.injEq, and_true] at e0
      subst e0
      refine ⟨us ++ [(s, v1, xs)], by simp [h1], ?_, fun u hu => ?_⟩
      · rw [cells3_app, h2]
        have hlt : m * 2 + 1 < cs.length := by omega
        rw [List.getElem?_take, if_pos (by omega), List.getElem?_drop] at g0 g1
        have a0 : cs[m * 2] = Value.string s := (List.getElem?_eq_some_iff.1 (by simpa using g0)).2
        have a1 : cs[m * 2 + 1] = v1 := (List.getElem?_eq_some_iff.1 g1).2
        rw [show (m + 1) * 2 = m * 2 + 1 + 1 by omega, List.take_succ_eq_append_getElem (by omega), List.take_succ_eq_append_getElem (by omega), a0, a1]
        simp [cells3, c3]
      · rcases List.mem_append.1 hu with hu | hu
        · exact h3 u hu
        · simp at hu; subst hu; exact ⟨hxs, hxb, hs⟩
  obtain ⟨us, h1, h2, h3⟩ := this n (Nat.le_refl _)
  rw [List.take_of_length_le (by omega)] at h2
  have hb40 : P.bytesOf t_api_Entry = 40 := by kernel_rfl
  rw [hb40] at hby
  have := reach47
  exact ⟨us, ⟨by rw [h1, h2]; exact hS, fun u hu => (h3 u hu).1⟩, fun u hu => (h3 u hu).2, by rw [h1]; omega⟩
theorem Entry_any (u x : E3) (hu : Nm .u8 w u.2.1 u.2.2) (hx : Nm .u8 w x.2.1 x.2.2) : Calls P n_valisehelp_Entry #[.agg #[.string u.1, u.2.1], .agg #[.string x.1, x.2.1]] w (fun e w' => e = .returned (.bool (decide (er u = er x))) ∧ Ev w w') := by
  refine of_valisehelp_Entry (fBox (Fr.start w) fun a2 w1 f1 => fBox f1 fun b3 w2 f2 => gLoad_s (f2.cell 1 0 rfl rfl) (gLoad_s (f2.cell 0 0 rfl rfl) ?_))
  rw [tl_eqb]
  refine gIf_dec (fun he => gLoad_v (f2.cell 1 1 rfl rfl) (gLoad_v (f2.cell 0 1 rfl rfl) (gCall_b0 (Bytes_any (hu.ev f2.old) (hx.ev f2.old)) ⟨?_, f2.old⟩))) (fun hne => ⟨?_, f2.old⟩)
  · have : (er u = er x) ↔ u.2.2 = x.2.2 := by unfold er; rw [Prod.mk.injEq, he]; simp
    rw [decide_eq_decide.2 this]
  · rw [decide_eq_false (show ¬ er u = er x from fun h => hne (congrArg (fun p : En => p.1) h))]
theorem SameE_any {a b : Value} {us vs : List E3} (ha : Es w a us) (hb : Es w b vs) (hl : us.length ≤ 1000000000) : Calls P n_valisehelp_Same_api_Entry #[a, b, .func (.func n_valisehelp_Entry) #[] #[]] w (fun e w' => e = .returned (.bool (decide (us.map er = vs.map er))) ∧ Ev w w') := by
  refine of_valisehelp_Same_api_Entry (gLen_slv ha.1 (gLen_slv hb.1 (gIf_neq (fun hne => ?_) (fun heq => ?_))))
  · refine ⟨?_, Ch.refl _ w⟩
    rw [decide_eq_false]
    intro h; have := congrArg List.length h; simp at this; omega
  have hlen : us.length = vs.length := by omega
  refine ⟨fun i w' => ∃ j : Nat, i = (j : Int) ∧ j ≤ us.length ∧ (us.take j).map er = (vs.take j).map er ∧ Ev w w', fun i _ => (us.length - i).toNat, ⟨0, rfl, Nat.zero_le _, rfl, Ch.refl _ w⟩, ?_⟩
  rintro _ i w1 ⟨j, rfl, hj, heq', he⟩
  have ha1 := ha.ev he
  have hb1 := hb.ev he
  refine gLen_slv ha1.1 (gIf_dec (fun hlt => ?_) (fun hge => ?_))
  · have hlt' : j < us.length := by omega
    have hu := List.getElem?_eq_getElem hlt'
    have hv := List.getElem?_eq_getElem (show j < vs.length by omega)
    have hmu : us[j] ∈ us := List.getElem_mem hlt'
    have hmv : vs[j] ∈ vs := List.getElem_mem (show j < vs.length by omega)
    have tu : us.take (j + 1) = us.take j ++ [us[j]] := List.take_succ_eq_append_getElem hlt'
    have tv : vs.take (j + 1) = vs.take j ++ [vs[j]] := List.take_succ_eq_append_getElem (show j < vs.length by omega)
    generalize us[j] = u at *
    generalize vs[j] = x at *
    refine ⟨fun w' => Ev w1.drew w', Ch.refl _ _, gIdx_E ha1 rfl hu fun ad h0 h1 => gLoadB_agg [.string u.1, u.2.1] (fun w' hw q y hq => ?_) (gIdx_E hb1 rfl hv fun ad2 k0 k1 => gLoadB_agg [.string x.1, x.2.1] (fun w' hw q y hq => ?_) (gCallV_of rfl (by kernel_rfl) (Entry_any u x (ha1.2 u hmu) (hb1.2 x hmv)) ?_))⟩
    · rcases q with _ | _ | q
      · simp at hq; subst hq; exact Ch.cell hw h0 fun h => h
      · simp at hq; subst hq; exact Ch.cell hw h1 fun h => h
      · simp at hq
    · rcases q with _ | _ | q
      · simp at hq; subst hq; exact Ch.cell hw k0 fun h => h
      · simp at hq; subst hq; exact Ch.cell hw k1 fun h => h
      · simp at hq
    · rintro _ w2 ⟨rfl, h2⟩
      refine ⟨_, rfl, h2, gIf_ndec (fun hne => ?_) (fun heq2 => ?_)⟩
      · refine ⟨?_, he.trans ((Ev.drew0 w1).trans h2)⟩
        rw [decide_eq_false]
        intro h
        have h1 : (us.map er)[j]? = (vs.map er)[j]? := by rw [h]
        rw [List.getElem?_map, List.getElem?_map, hu, hv] at h1
        simp at h1; exact hne h1
      · refine ⟨⟨j + 1, by rw [i64_id (by omega) (by omega)]; omega, by omega, ?_, he.trans ((Ev.drew0 w1).trans h2)⟩, by dsimp only; rw [i64_id (by omega) (by omega)]; omega⟩
        rw [tu, tv, List.map_append, List.map_append, heq']; simp [heq2]
  · refine ⟨?_, he⟩
    rw [List.take_of_length_le (by omega), List.take_of_length_le (by omega)] at heq'
    rw [decide_eq_true heq']
/-! ### awake -/
def sB (l : List UInt8) : ByteArray := mkS l
/-! ### The laws -/
set_option maxRecDepth 20000 in
theorem good_Ss {v : Value} (h : Good P w t_sl_string [v]) : ∃ ss, Ss w v ss ∧ (∀ s ∈ ss, s.size ≤ reachBytes) ∧ ss.length ≤ 140737488355328 := by
  obtain ⟨n, cs, hS, _, hby, hg⟩ := good_slR (sz := 1) (e := t_string) (by kernel_rfl) (by kernel_rfl) h
  have hcl : cs.length = n := by obtain ⟨_, _, _, _, h, _⟩ := hS; omega
  have : ∀ m, m ≤ n → ∃ ss : List ByteArray, ss.length = m ∧ ss.map Value.string = cs.take m ∧ ∀ s ∈ ss, s.size ≤ reachBytes := by
    intro m
    induction m with
    | zero => intro _; exact ⟨[], rfl, by simp, fun _ h => by cases h⟩
    | succ m ih =>
      intro hm
      obtain ⟨ss, h1, h2, h3⟩ := ih (by omega)
      obtain ⟨s, e0, hs⟩ := good_stringR (by kernel_rfl) (hg m (by omega))
      refine ⟨ss ++ [s], by simp [h1], ?_, fun u hu => ?_⟩
      · rw [List.map_append, h2, List.take_succ_eq_append_getElem (by omega)]
        rw [Nat.mul_one, List.drop_eq_getElem_cons (by omega), List.take_succ_cons, List.take_zero] at e0
        simp only [List.cons.injEq, and_true] at e0
        rw [e0]; rfl
      · rcases List.mem_append.1 hu with hu | hu
        · exact h3 u hu
        · simp at hu; subst hu; exact hs
  obtain ⟨ss, h1, h2, h3⟩ := this n (Nat.le_refl _)
  rw [List.take_of_length_le (by omega)] at h2
  have hb16 : P.bytesOf t_string = 16 := by kernel_rfl
  rw [hb16] at hby
  have := reach47
  exact ⟨ss, by unfold Ss; rw [h1, h2]; exact hS, h3, by omega⟩
theorem gIdx_S {i : Int} {ki : IntKind} {v : Value} {ss : List ByteArray} {j : Nat} {s : ByteArray} {K : Addr → Prop} (h : Ss w v ss) (hij : i = (j : Int)) (hs : ss[j]? = some s) (hk : ∀ ad, w.cell? ad = some (.string s) → K ad) : gIdx P t_sl_string v (.int ki i) K := by
  subst hij
  exact gIdx_sz h (List.getElem?_eq_some_iff.1 hs).1 (fun ad hc _ => hk ad (by
    have := hc 0 (.string s) (by omega) (by rw [Nat.mul_one, Nat.add_zero, List.getElem?_map, hs]; rfl)
    rwa [Addr.add_zero'] at this))
end
end Go.Proofs.YtiimlfgjnapgjaaGreatDoorV

/- Package script: New, Do without an archive, awake; the law ScriptNil. -/
set_option linter.unusedVariables false
set_option linter.unusedSimpArgs false
namespace Go.Proofs.YtiimlfgjnapgjaaGreatDoorV
open Go Go.RowKit
section
variable {w0 w : World} {F : List It}
abbrev told0 (e : Int) : List Value := [.int .i64 e, .slice none 0 0, .slice none 0 0]
theorem sNew_any : Calls P n_script_New #[] w (fun e w' => ∃ ad, e = .returned (.pointer (some ad)) ∧ ∀ {w0 F}, Fr w0 w F → Fr w0 w' (sIt ad [.slice none 0 0, .string ⟨#[]⟩] :: F)) := by
  refine of_script_New (gBox_of fun ad w2 h2 had hs hS => ⟨ad, rfl, fun f => f.new h2 hS fun k hk => ?_⟩)
  have hk : k = ad.block := hk
  subst had; dsimp only at hk; omega
theorem Do_nil {k lv bk rd nn : Int} {ev nv cv sv ov : Value} {au lo : Bool} : Calls P n_script_Day_Do #[.pointer none, .agg #[.int .i64 k, ev, nv, .bool au, cv, .int .i64 lv, .int .i64 bk, .bool lo, sv, ov, .int .i64 rd, .int .i64 nn]] w (fun e w' => e = .returned (.agg #[.int .i64 2, .slice none 0 0, .slice none 0 0]) ∧ Ev w w') :=
  of_script_Day_Do (fBox (Fr.start w) fun o3 w1 f1 => fAlloc (z := .agg #[.int .i64 0, .slice none 0 0, .slice none 0 0]) f1 (by kernel_rfl) fun t4 w2 f2 => gEq_pnil (gIf_t (fStoreA f2 0 rfl (fun w3 f3 => fLoadA f3 0 rfl ⟨rfl, f3.old⟩))))
theorem Do_bad {d : Addr} {k lv bk rd nn : Int} {ev nv cv sv ov : Value} {au lo : Bool} (hk : ¬ (1 ≤ k ∧ k ≤ 9)) : Calls P n_script_Day_Do #[.pointer (some d), .agg #[.int .i64 k, ev, nv, .bool au, cv, .int .i64 lv, .int .i64 bk, .bool lo, sv, ov, .int .i64 rd, .int .i64 nn]] w (fun e w' => e = .returned (.agg #[.int .i64 1, .slice none 0 0, .slice none 0 0]) ∧ Ev w w') := by
  refine of_script_Day_Do (fBox (Fr.start w) fun o3 w1 f1 => fAlloc (z := .agg #[.int .i64 0, .slice none 0 0, .slice none 0 0]) f1 (by kernel_rfl) fun t4 w2 f2 => gEq_pnil (gIf_f (fAlloc (z := .agg #[.int .i64 0, .slice none 0 0, .slice none 0 0]) f2 (by kernel_rfl) fun t5 w3 f3 => ?_)))
  refine ⟨fun w' => Fr w w' [sIt t5 (told0 1), sIt t4 (told0 0), sIt o3 [.int .i64 k, ev, nv, .bool au, cv, .int .i64 lv, .int .i64 bk, .bool lo, sv, ov, .int .i64 rd, .int .i64 nn]], ?_, ?_⟩
  · refine fLoad_i f3 2 0 rfl rfl (gIf_eq (fun h => absurd h (by omega)) fun _ => gIf_eq (fun h => absurd h (by omega)) fun _ => gIf_eq (fun h => absurd h (by omega)) fun _ => gIf_eq (fun h => absurd h (by omega)) fun _ => gIf_eq (fun h => absurd h (by omega)) fun _ => gIf_eq (fun h => absurd h (by omega)) fun _ => gIf_eq (fun h => absurd h (by omega)) fun _ => gIf_eq (fun h => absurd h (by omega)) fun _ => gIf_eq (fun h => absurd h (by omega)) fun _ => ?_)
    exact fStore f3 0 0 rfl (fun w4 f4 => f4)
  · rintro _ w4 f4
    refine fLoadA f4 0 rfl (fStoreA f4 1 rfl (fun w5 f5 => fLoadA f5 1 rfl ⟨rfl, f5.old⟩))
def chN0 : ChF := fun xs _ => (xs, [])
theorem tr0 (auto : Bool) (dF : List Int → List Int) (e : En) : (trOf chN0 auto [] dF e).1 = e.2 := by
  unfold trOf turnBx chN0; split <;> rfl
def oneA : List E3 := [(sB [97], .slice none 0 0, [])]
theorem sort_a : sortE [(sB [97], [])] = ([(sB [97], [])], 0) := by decide +kernel
/-- The box of one entry without bytes. -/
theorem make_a {lv : Value} (hE : Es w lv oneA) : Calls P n_box_Make #[lv, .agg #[.bool false, .slice none 0 0, .int .i64 0, .int .i64 16, .bool false, .slice none 0 0, .slice none 0 0, .int .i64 0]] w (fun e w' => ∃ v X, e = .returned (.tuple #[v, .int .i64 0]) ∧ Ev w w' ∧ ON .u8 eB w' w.heap.size v X ∧ 0 < X.length ∧ X.length ≤ 100000) := by
  have hm := Make_any (auto := false) (locked := false) (level := 0) (block := 16) (rounds := 0) (ch := chN0) (dF := fun _ => []) (blk := fun _ => []) hE (by unfold oneA; exact ⟨by decide, fun u hu => by simp at hu; subst hu; decide⟩) (Nm.nil .i64 w) (Nm.nil .u8 w) (Nm.nil .u8 w) (by simp) (fun _ _ => by simp [chN0]) (fun e he {w' b tv} hev hl hb ht => Choose0_any hb ht (by omega)) (fun h => by cases h) (fun ys => by simp) (fun h => by
    exfalso; apply h
    have e1 : oneA.map er = [(sB [97], [])] := rfl
    rw [e1, sort_a]
    simp [allB, tr0])
  refine hm.mono ?_
  rintro e w' ⟨v, rfl, hev, ho⟩
  have e1 : oneA.map er = [(sB [97], [])] := rfl
  have hr : optR false [] 0 16 false (([] : List Int).length : Int) (([] : List Int).length : Int) 0 = true := by decide
  have e2 : makeB (trOf chN0 false [] fun _ => []) (fun _ => []) false [] 0 16 false (([] : List Int).length : Int) (([] : List Int).length : Int) 0 (oneA.map er) = (boxB (bodyB (trOf chN0 false [] fun _ => []) (fun _ => []) false [] 0 16 [(sB [97], [])]), 0) := by
    unfold makeB
    rw [if_neg (by rw [hr]; decide), e1, sort_a, if_neg (by simp)]
  rw [e2] at ho ⊢
  refine ⟨v, _, rfl, hev, ho, by unfold boxB; simp, ?_⟩
  have l1 := numB_10 0
  have l2 := numB_10 16
  have l3 : (numB 0).length ≤ 10 := numB_len64 (by decide)
  have l4 := tagsB_len [] (by simp)
  have l5 : (numB 1).length ≤ 10 := numB_len64 (by decide)
  have l6 := itemsN_len (ps := [(sB [97], ([] : List Int))].map fun e => itemP (trOf chN0 false [] (fun _ => []) e) e) (fun p hp => by
    simp at hp; subst hp
    exact ⟨by show (1 : Nat) ≤ 4096; decide, by show (trOf chN0 false [] (fun _ => []) (sB [97], [])).2.length ≤ 10; unfold trOf turnBx chN0; split <;> simp⟩)
  have l7 : blksB (fun _ => []) (Int.toNat 16) (allB ([(sB [97], ([] : List Int))].map (trOf chN0 false [] fun _ => []))) (List.range (chN (Int.toNat 16) (allB ([(sB [97], ([] : List Int))].map (trOf chN0 false [] fun _ => []))).length)) = [] := by
    simp [blksB]
  unfold boxB bodyB
  rw [l7]
  unfold headB itemsB
  simp only [List.length_append, littleB_len, List.length_map, List.length_cons, List.length_nil] at *
  simp at *
  omega
theorem create_a {lv : Value} (hE : Es w lv oneA) : Calls P n_archive_Create #[.string ⟨#[]⟩, .agg #[.bool false, .slice none 0 0, .int .i64 0, .int .i64 16, .bool false, .slice none 0 0, .slice none 0 0, .int .i64 0], lv] w (fun e w' => ∃ v X, e = .returned (.tuple #[v, .int .i64 0]) ∧ Ev w w' ∧ ON .u8 eB w' w.heap.size v X ∧ 0 < X.length ∧ X.length ≤ 100000) := by
  refine of_archive_Create (fBox (Fr.start w) fun o4 w1 f1 => fLoadA f1 0 rfl (gCall_of (make_a (hE.ev f1.old)) ?_))
  rintro _ w2 ⟨v, X, rfl, h2, o2, hX, hX2⟩
  have f2 := f1.ev h2
  exact ⟨v, 0, rfl, gIf_nneq (fun _ => fLoad_b f2 0 4 rfl rfl (gIf_nf ⟨v, X, rfl, f2.old, o2.low f1.old.size, hX, hX2⟩)) (fun h => (h rfl).elim)⟩
theorem gEq_dset {p : Addr} {K : Bool → Prop} (hk : K true) : gEq P .neq t_pt_script_Day (.pointer (some p)) (.pointer none) K := gNe_pnil hk
theorem awake31_any : Calls P n_valiselaw31_awake #[] w (fun e w' => e = .returned (.bool true) ∧ Ev w w') := by
  refine of_valiselaw31_awake (gCall_of sNew_any ?_)
  rintro _ w1 ⟨d, rfl, h1⟩
  have f1 := h1 (Fr.start w)
  refine ⟨some d, rfl, gEq_dset (gIf_t (fLit_sz 2 [[.string (sB [97]), .slice none 0 0]] f1 rfl rfl (fun v hv => by simp at hv; subst hv; rfl) (fun ad w2 f2 => ⟨rfl, ?_⟩) (by decide) (by kernel_rfl) (by decide +kernel)))⟩
  have hE : ∀ {w' : World}, St w' ad [.string (sB [97]), .slice none 0 0] → Es w' (.slice (some ad) 1 1) oneA := fun h => ⟨by have := Sl.of_st2 h; exact this, fun u hu => by unfold oneA at hu; simp at hu; subst hu; exact Nm.nil .u8 _⟩
  have f2 : Fr w w2 [sIt ad [.string (sB [97]), .slice none 0 0], sIt d [.slice none 0 0, .string ⟨#[]⟩]] := f2
  -- made
  refine gCall_of (R := fun e w' => e = .returned (.agg #[.int .i64 0, .slice none 0 0, .slice none 0 0]) ∧ ∃ v X, Fr w w' [sIt d [v, .string ⟨#[]⟩]] ∧ Nm .u8 w' v X ∧ 0 < X.length ∧ X.length ≤ 100000) ?_ ?_
  · refine of_script_Day_Do (fBox f2 fun o3 w3 f3 => fAlloc (z := .agg #[.int .i64 0, .slice none 0 0, .slice none 0 0]) f3 (by kernel_rfl) fun t4 w4 f4 => gEq_pnil (gIf_f (fAlloc (z := .agg #[.int .i64 0, .slice none 0 0, .slice none 0 0]) f4 (by kernel_rfl) fun t5 w5 f5 => ?_)))
    refine ⟨fun _ => False, fLoad_i f5 2 0 rfl rfl (gIf_t ?_), fun _ _ h => h.elim⟩
    obtain ⟨oc, hoc⟩ : ∃ oc : List Value, oc = [.int .i64 1, .slice (some ad) 1 1, .slice none 0 0, .bool false, .slice none 0 0, .int .i64 0, .int .i64 16, .bool false, .slice none 0 0, .slice none 0 0, .int .i64 0, .int .i64 0] := ⟨_, rfl⟩
    have f5 : Fr w w5 [sIt t5 (told0 0), sIt t4 (told0 0), sIt o3 oc, sIt ad [.string (sB [97]), .slice none 0 0], sIt d [.slice none 0 0, .string ⟨#[]⟩]] := by rw [hoc]; exact f5
    have f5 := f5.drew
    refine ⟨fun w' => w'.cell? (d.add 1) = some (.string ⟨#[]⟩) ∧ ∀ z y, oc[z]? = some y → w'.cell? (o3.add z) = some y, ⟨f5.cell 4 1 rfl rfl, fun z y hz => f5.cell 2 z rfl hz⟩, gNil_some (gLoadB_s (fun w' hw => hw.1) (gLoadB_agg [.bool false, .slice none 0 0, .int .i64 0, .int .i64 16, .bool false, .slice none 0 0, .slice none 0 0, .int .i64 0] (fun w' hw j u hj => ?_) (gLoadB_v (fun w' hw => hw.2 1 _ (by rw [hoc]; rfl)) (gCall_of (create_a (hE (f5.get 3 rfl))) ?_)) rfl (by kernel_rfl)))⟩
    · rw [Addr.add2']
      refine hw.2 (3 + j) u ?_
      rw [hoc]
      rcases j with _ | _ | _ | _ | _ | _ | _ | _ | j
      all_goals first | exact hj | (simp at hj)
    rintro _ w6 ⟨v, X, rfl, h6, o6, hX, hX2⟩
    have f6 := f5.newO h6 o6
    refine ⟨_, _, rfl, ⟨f6.cell 5 1 rfl rfl, fun z y hz => f6.cell 3 z rfl hz⟩, gCall_of (R := fun e w' => e = .returned (.agg #[.int .i64 0, .slice none 0 0, .slice none 0 0]) ∧ Fr w w' [oIt .u8 eB v X, sIt t5 (told0 0), sIt t4 (told0 0), sIt o3 oc, sIt ad [.string (sB [97]), .slice none 0 0], sIt d [v, .string ⟨#[]⟩]]) ?_ ?_⟩
    · refine of_script_Day_have (fAlloc (z := .agg #[.int .i64 0, .slice none 0 0, .slice none 0 0]) f6 (by kernel_rfl) fun t6 w7 f7 => gIf_t (gNil_some (fStore f7 6 0 rfl (fun w8 f8 => fStoreA f8 0 rfl (fun w9 f9 => fLoadA f9 0 rfl ⟨rfl, f9.drop 0⟩)) (by decide) o6.nm.oc o6.one)))
    · rintro _ w9 ⟨rfl, f9⟩
      refine ⟨_, _, _, rfl, ⟨f9.cell 5 1 rfl rfl, fun z y hz => f9.cell 3 z rfl hz⟩, fStoreA f9 2 rfl (fun w10 f10 => ⟨⟨f10.cell 5 1 rfl rfl, fun z y hz => f10.cell 3 z rfl hz⟩, fLoadA f10 2 rfl ⟨rfl, v, X, f10.picks [5] (by decide), f10.nm 0 rfl, hX, hX2⟩⟩)⟩
  · rintro _ w11 ⟨rfl, v, X, f11, nv, hX, hX2⟩
    refine ⟨_, _, _, rfl, gIf_t (gCall_v (Q := fun y w' => Ev w11 w' ∧ Nm .u8 w' y X) ?_ fun y w12 ⟨h12, ny⟩ => gLen_nm ny (gIf_dec (fun _ => gCall_of (Do_bad (by omega)) ?_) (fun h => absurd h (by omega))))⟩
    · exact of_script_Day_Archive (gEq_pnil (gIf_f (gNil_some (fLoad_v f11 0 0 rfl rfl (fApp0 (Fr.start w11) nv (by omega) fun y w' f => ⟨y, rfl, f.old, f.nm 0 rfl⟩)))))
    · rintro _ w13 ⟨rfl, h13⟩
      exact ⟨_, _, _, rfl, rfl, (f11.old.trans h12).trans h13⟩
end
end Go.Proofs.YtiimlfgjnapgjaaGreatDoorV

/- What is handed in as options and as an operation; the law ScriptNil. -/
set_option linter.unusedVariables false
set_option linter.unusedSimpArgs false
namespace Go.Proofs.YtiimlfgjnapgjaaGreatDoorV
open Go Go.RowKit
def subIs (P : Program) (t : TypeId) (i off : Nat) (ft : TypeId) (sz : Nat) : Bool := match P.underlying t with
  | some (.struct fs) => match fs[i]? with
    | some f => Nat.beq f.offset off && Nat.beq f.type ft && Nat.beq (P.cellsOf ft) sz
    | none => false
  | _ => false
theorem good_sub {P : Program} {w : World} {t : TypeId} {cs : List Value} {i off sz : Nat} {ft : TypeId} (hf : subIs P t i off ft sz = true) (h : Good P w t cs) : Good P w ft ((cs.drop off).take sz) := by
  unfold subIs at hf
  split at hf
  · rename_i fs hu
    split at hf
    · rename_i f hi
      simp only [Bool.and_eq_true] at hf
      obtain ⟨⟨h1, h2⟩, h3⟩ := hf
      have hg := (good_struct hu h).2 i f hi
      rw [Nat.eq_of_beq_eq_true h1, Nat.eq_of_beq_eq_true h2, Nat.eq_of_beq_eq_true h3] at hg
      exact hg
    · cases hf
  · cases hf
def isStruct (P : Program) (t : TypeId) (n : Nat) : Bool := match P.underlying t with
  | some (.struct _) => Nat.beq (P.cellsOf t) n
  | _ => false
theorem good_len {P : Program} {w : World} {t : TypeId} {cs : List Value} {n : Nat} (hf : isStruct P t n = true) (h : Good P w t cs) : cs.length = n := by
  unfold isStruct at hf
  split at hf
  · rename_i fs hu
    rw [(good_struct hu h).1, Nat.eq_of_beq_eq_true hf]
  · cases hf
theorem list8 {cs : List Value} (h : cs.length = 8) : ∃ a b c d e f g i, cs = [a, b, c, d, e, f, g, i] := by
  match cs, h with
  | [a, b, c, d, e, f, g, i], _ => exact ⟨a, b, c, d, e, f, g, i, rfl⟩
theorem list12 {cs : List Value} (h : cs.length = 12) : ∃ a b c d e f g i j k l m, cs = [a, b, c, d, e, f, g, i, j, k, l, m] := by
  match cs, h with
  | [a, b, c, d, e, f, g, i, j, k, l, m], _ => exact ⟨a, b, c, d, e, f, g, i, j, k, l, m, rfl⟩
section
variable {w0 w : World} {F : List It}
set_option maxRecDepth 20000 in
theorem good_opts {cs : List Value} (h : Good P w t_api_Options cs) : ∃ (au : Bool) (cv : Value) (lv bk : Int) (lo : Bool) (sv ov : Value) (rd : Int) (ts ss ns : List Int), cs = [.bool au, cv, .int .i64 lv, .int .i64 bk, .bool lo, sv, ov, .int .i64 rd] ∧ Nm .i64 w cv ts ∧ Nm .u8 w sv ss ∧ Nm .u8 w ov ns := by
  obtain ⟨a, b, c, d, e, f, g, i, rfl⟩ := list8 (good_len (n := 8) (by kernel_rfl) h)
  obtain ⟨v0, g0, k0⟩ := good_fld (i := 0) (off := 0) (ft := t_bool) (by kernel_rfl) h
  obtain ⟨v1, g1, k1⟩ := good_fld (i := 1) (off := 1) (ft := t_sl_int) (by kernel_rfl) h
  obtain ⟨v2, g2, k2⟩ := good_fld (i := 2) (off := 2) (ft := t_int) (by kernel_rfl) h
  obtain ⟨v3, g3, k3⟩ := good_fld (i := 3) (off := 3) (ft := t_int) (by kernel_rfl) h
  obtain ⟨v4, g4, k4⟩ := good_fld (i := 4) (off := 4) (ft := t_bool) (by kernel_rfl) h
  obtain ⟨v5, g5, k5⟩ := good_fld (i := 5) (off := 5) (ft := t_sl_uint8) (by kernel_rfl) h
  obtain ⟨v6, g6, k6⟩ := good_fld (i := 6) (off := 6) (ft := t_sl_uint8) (by kernel_rfl) h
  obtain ⟨v7, g7, k7⟩ := good_fld (i := 7) (off := 7) (ft := t_int) (by kernel_rfl) h
  injection g0 with g0; injection g1 with g1; injection g2 with g2; injection g3 with g3; injection g4 with g4; injection g5 with g5; injection g6 with g6; injection g7 with g7
  subst g0 g1 g2 g3 g4 g5 g6 g7
  obtain ⟨au, e0⟩ := good_bool (by kernel_rfl) k0
  obtain ⟨ts, n1, _⟩ := good_nm (k := .i64) (e := t_int) (by kernel_rfl) (by kernel_rfl) (by kernel_rfl) k1
  obtain ⟨lv, e2, _⟩ := good_int (k := .i64) (by kernel_rfl) k2
  obtain ⟨bk, e3, _⟩ := good_int (k := .i64) (by kernel_rfl) k3
  obtain ⟨lo, e4⟩ := good_bool (by kernel_rfl) k4
  obtain ⟨ss, n5, _⟩ := good_nm (k := .u8) (e := t_uint8) (by kernel_rfl) (by kernel_rfl) (by kernel_rfl) k5
  obtain ⟨ns, n6, _⟩ := good_nm (k := .u8) (e := t_uint8) (by kernel_rfl) (by kernel_rfl) (by kernel_rfl) k6
  obtain ⟨rd, e7, _⟩ := good_int (k := .i64) (by kernel_rfl) k7
  simp only [List.cons.injEq, and_true] at e0 e2 e3 e4 e7
  subst e0 e2 e3 e4 e7
  exact ⟨au, _, lv, bk, lo, _, _, rd, ts, ss, ns, rfl, n1, n5, n6⟩
set_option maxRecDepth 20000 in
theorem good_op {cs : List Value} (h : Good P w t_api_Op cs) : ∃ (k : Int) (ev nv : Value) (au : Bool) (cv : Value) (lv bk : Int) (lo : Bool) (sv ov : Value) (rd nn : Int) (us : List E3) (ls : List ByteArray) (ts ss ns : List Int),
    cs = [.int .i64 k, ev, nv, .bool au, cv, .int .i64 lv, .int .i64 bk, .bool lo, sv, ov, .int .i64 rd, .int .i64 nn] ∧ (Es w ev us ∧ us.length ≤ 140737488355328) ∧ (Ss w nv ls ∧ ls.length ≤ 140737488355328) ∧ Nm .i64 w cv ts ∧ Nm .u8 w sv ss ∧ Nm .u8 w ov ns := by
  obtain ⟨a, b, c, d, e, f, g, i, j, k, l, m, rfl⟩ := list12 (good_len (n := 12) (by kernel_rfl) h)
  obtain ⟨v0, g0, k0⟩ := good_fld (i := 0) (off := 0) (ft := t_int) (by kernel_rfl) h
  obtain ⟨v1, g1, k1⟩ := good_fld (i := 1) (off := 1) (ft := t_sl_api_Entry) (by kernel_rfl) h
  obtain ⟨v2, g2, k2⟩ := good_fld (i := 2) (off := 2) (ft := t_sl_string) (by kernel_rfl) h
  have k3 := good_sub (i := 3) (off := 3) (ft := t_api_Options) (sz := 8) (by kernel_rfl) h
  obtain ⟨v4, g4, k4⟩ := good_fld (i := 4) (off := 11) (ft := t_int) (by kernel_rfl) h
  injection g0 with g0; injection g1 with g1; injection g2 with g2; injection g4 with g4
  subst g0 g1 g2 g4
  obtain ⟨kk, e0, _⟩ := good_int (k := .i64) (by kernel_rfl) k0
  obtain ⟨us, hE, _, hEl⟩ := good_E k1
  obtain ⟨ls, hS, _, hSl⟩ := good_Ss k2
  obtain ⟨au, cv, lv, bk, lo, sv, ov, rd, ts, ss, ns, e3, n1, n5, n6⟩ := good_opts k3
  obtain ⟨nn, e4, _⟩ := good_int (k := .i64) (by kernel_rfl) k4
  simp only [List.cons.injEq, and_true] at e0 e4
  have e3 : [d, e, f, g, i, j, k, l] = [Value.bool au, cv, .int .i64 lv, .int .i64 bk, .bool lo, sv, ov, .int .i64 rd] := e3
  simp only [List.cons.injEq, and_true] at e3
  obtain ⟨rfl, rfl, rfl, rfl, rfl, rfl, rfl, rfl⟩ := e3
  subst e0 e4
  exact ⟨kk, _, _, au, _, lv, bk, lo, _, _, rd, nn, us, ls, ts, ss, ns, rfl, ⟨hE, hEl⟩, ⟨hS, hSl⟩, n1, n5, n6⟩
theorem Few_any {v : Value} {us : List E3} (hv : Es w v us) (hl : us.length ≤ 140737488355328) : Calls P n_valiseplay_Few #[v] w (fun e w' => ∃ n : Int, e = .returned (.int .i64 n) ∧ Ev w w') := by
  refine of_valiseplay_Few ⟨fun n i w' => ∃ j : Nat, i = (j : Int) ∧ j ≤ us.length ∧ Ev w w', fun _ i _ => (us.length - i).toNat, ⟨0, rfl, Nat.zero_le _, Ch.refl _ w⟩, ?_⟩
  rintro _ n i w1 ⟨j, rfl, hj, he⟩
  have hv1 := hv.ev he
  have out : gLen P t_sl_api_Entry v fun (t31 : Nat) => gIf (decide ((t31 : Int) ≥ 100)) (∃ n : Int, Ending.returned (.int .i64 1073741824) = .returned (.int .i64 n) ∧ Ev w w1) (∃ m : Int, Ending.returned (.int .i64 n) = .returned (.int .i64 m) ∧ Ev w w1) :=
    gLen_slv hv1.1 (gIf_dec (fun _ => ⟨_, rfl, he⟩) (fun _ => ⟨_, rfl, he⟩))
  refine ⟨fun w' => w' = w1 ∧ j < us.length, gLen_slv hv1.1 (gIf_dec (fun hlt => gIf_dec (fun _ => ⟨rfl, by omega⟩) (fun _ => out)) (fun _ => out)), ?_⟩
  rintro _ w2 ⟨hw2, hlt⟩
  obtain rfl : w1 = w2 := hw2.symm
  have hu := List.getElem?_eq_getElem hlt
  have hm : us[j] ∈ us := List.getElem_mem hlt
  generalize us[j] = u at hu hm
  refine gIdx_E hv1 rfl hu fun ad h0 h1 => gLoadB_v (at1 h1) (gLen_nm (hv1.2 u hm) (gIdx_E hv1 rfl hu fun ad2 k0 k1 => gLoadB_s (at1 k0) ⟨⟨j + 1, by rw [i64_id (by omega) (by omega)]; omega, by omega, he.drew⟩, by dsimp only; rw [i64_id (by omega) (by omega)]; omega⟩))
theorem small_any {k lv bk rd nn : Int} {ev nv cv sv ov : Value} {au lo : Bool} {us : List E3} {ls : List ByteArray} {ts ss ns : List Int} (hE : Es w ev us) (hEl : us.length ≤ 140737488355328) (hS : Ss w nv ls) (hSl : ls.length ≤ 140737488355328) (hc : Nm .i64 w cv ts) (hs : Nm .u8 w sv ss) (ho : Nm .u8 w ov ns) :
    Calls P n_valiselaw31_small #[.agg #[.int .i64 k, ev, nv, .bool au, cv, .int .i64 lv, .int .i64 bk, .bool lo, sv, ov, .int .i64 rd, .int .i64 nn]] w (fun e w' => ∃ b : Bool, e = .returned (.bool b) ∧ Ev w w') := by
  refine of_valiselaw31_small (fBox (Fr.start w) fun o1 w1 f1 => ?_)
  obtain ⟨G, hG⟩ : ∃ G, G = [sIt o1 [.int .i64 k, ev, nv, .bool au, cv, .int .i64 lv, .int .i64 bk, .bool lo, sv, ov, .int .i64 rd, .int .i64 nn]] := ⟨_, rfl⟩
  have f1 : Fr w w1 G := by rw [hG]; exact f1
  refine ⟨fun _ w' => Fr w w' G, ⟨fun n i w' => ∃ j : Nat, i = (j : Int) ∧ j ≤ ls.length ∧ Fr w w' G, fun _ i _ => (ls.length - i).toNat, ⟨0, rfl, Nat.zero_le _, f1⟩, ?_⟩, ?_⟩
  · rintro _ n i w2 ⟨j, rfl, hj, f2⟩
    refine fLoad_v f2 0 2 (by rw [hG]; rfl) rfl (gLen_slv (Sl.ev hS f2.old) (gIf_dec (fun hlt => gIf_dec (fun _ => fLoad_v f2 0 2 (by rw [hG]; rfl) rfl ?_) (fun _ => f2)) (fun _ => f2)))
    have hlt' : j < ls.length := by omega
    have hu := List.getElem?_eq_getElem hlt'
    refine gIdx_S (Sl.ev hS f2.old) rfl hu fun ad h0 => gLoad_s h0 ⟨⟨j + 1, by rw [i64_id (by omega) (by omega)]; omega, by omega, f2⟩, by dsimp only; rw [i64_id (by omega) (by omega)]; omega⟩
  · rintro _ n w3 f3
    refine fLoad_v f3 0 2 (by rw [hG]; rfl) rfl (gLen_slv (Sl.ev hS f3.old) (gIf_dec (fun _ => gIf_dec (fun _ => fLoad_v f3 0 1 (by rw [hG]; rfl) rfl (gCall_of (Few_any (hE.ev f3.old) hEl) ?_)) (fun _ => ⟨_, rfl, f3.old⟩)) (fun _ => ⟨_, rfl, f3.old⟩)))
    rintro _ w4 ⟨m, rfl, h4⟩
    have f4 := f3.ev h4
    have a1 : ∀ i : Nat, (o1.add 3).add i = o1.add (3 + i) := fun i => Addr.add2' o1 3 i
    refine ⟨m, rfl, gIf_dec (fun _ => ?_) (fun _ => ⟨_, rfl, f4.old⟩)⟩
    rw [a1]
    refine fLoad_v f4 0 4 (by rw [hG]; rfl) rfl (gLen_nm (hc.ev f4.old) (gIf_dec (fun _ => ?_) (fun _ => ⟨_, rfl, f4.old⟩)))
    rw [a1]
    refine fLoad_v f4 0 8 (by rw [hG]; rfl) rfl (gLen_nm (hs.ev f4.old) (gIf_dec (fun _ => ?_) (fun _ => ⟨_, rfl, f4.old⟩)))
    rw [a1]
    refine fLoad_v f4 0 9 (by rw [hG]; rfl) rfl (gLen_nm (ho.ev f4.old) (gIf_dec (fun _ => ?_) (fun _ => ⟨_, rfl, f4.old⟩)))
    rw [a1]
    exact fLoad_i f4 0 10 (by rw [hG]; rfl) rfl (gIf_ndec (fun _ => fLoad_i f4 0 10 (by rw [hG]; rfl) rfl ⟨_, rfl, f4.old⟩) (fun _ => ⟨_, rfl, f4.old⟩))
theorem SameI0_any : Calls P n_valisehelp_Same_api_Info #[.slice none 0 0, .slice none 0 0, .func (.func n_valisehelp_Info) #[] #[]] w (fun e w' => e = .returned (.bool true) ∧ Ev w w') := by
  have hn : Sl w 4 (.slice none 0 0) 0 [] := ⟨none, 0, rfl, Nat.le_refl _, rfl, fun _ h => (by cases h), fun _ => rfl⟩
  refine of_valisehelp_Same_api_Info (gLen_slv hn (gLen_slv hn (gIf_neq (fun h => (h rfl).elim) (fun _ => ⟨fun i w' => i = 0 ∧ w' = w, fun _ _ => 0, ⟨rfl, rfl⟩, ?_⟩))))
  rintro _ i w1 ⟨rfl, rfl⟩
  exact gLen_slv hn (gIf_f ⟨rfl, Ch.refl _ _⟩)
theorem Told0_any {e : Int} : Calls P n_valisehelp_Told #[.agg #[.int .i64 e, .slice none 0 0, .slice none 0 0], .agg #[.int .i64 e, .slice none 0 0, .slice none 0 0]] w (fun r w' => r = .returned (.bool true) ∧ Ev w w') := by
  refine of_valisehelp_Told (fBox (Fr.start w) fun a2 w1 f1 => fBox f1 fun b3 w2 f2 => fLoad_i f2 1 0 rfl rfl (fLoad_i f2 0 0 rfl rfl (gIf_eq (fun _ => fLoad_v f2 1 1 rfl rfl (fLoad_v f2 0 1 rfl rfl (gCall_b (SameE_any (Es.nil w2) (Es.nil w2) (by simp)) fun w3 h3 => ?_))) (fun h => (h rfl).elim))))
  have f3 := f2.ev h3
  exact gIf_t (fLoad_v f3 1 2 rfl rfl (fLoad_v f3 0 2 rfl rfl (gCall_b SameI0_any fun w4 h4 => ⟨rfl, (f3.ev h4).old⟩)))
theorem ScriptNil_law {c : Array Value} {kind : Int} (hg : Good P w t_api_Op c.toList) (hk : IntKind.i64.min ≤ kind ∧ kind ≤ IntKind.i64.max) : Calls P n_valiselaw31_ScriptNil #[.agg c, .int .i64 kind] w (Holds w) := by
  obtain ⟨k, ev, nv, au, cv, lv, bk, lo, sv, ov, rd, nn, us, ls, ts, ss, ns, hc, ⟨hE, hEl⟩, ⟨hS, hSl⟩, n1, n5, n6⟩ := good_op hg
  obtain rfl : c = #[.int .i64 k, ev, nv, .bool au, cv, .int .i64 lv, .int .i64 bk, .bool lo, sv, ov, .int .i64 rd, .int .i64 nn] := by
    have := congrArg List.toArray hc
    simpa using this
  refine of_valiselaw31_ScriptNil (fBox (Fr.start w) fun o2 w1 f1 => ?_)
  have f1 : Fr w w1 [sIt o2 [.int .i64 k, ev, nv, .bool au, cv, .int .i64 lv, .int .i64 bk, .bool lo, sv, ov, .int .i64 rd, .int .i64 nn]] := f1
  refine fLoadA f1 0 rfl (gCall_of (small_any (hE.ev f1.old) hEl (Sl.ev hS f1.old) hSl (n1.ev f1.old) (n5.ev f1.old) (n6.ev f1.old)) ?_)
  rintro _ w2 ⟨b, rfl, h2⟩
  have f2 := f1.ev h2
  refine ⟨b, rfl, gIf_nb (fun hb => gCall_b awake31_any fun w3 h3 => ⟨rfl, (f2.ev h3).old⟩) (fun hb => fLoadA f2 0 rfl (gCall_of Do_nil ?_))⟩
  rintro _ w3 ⟨rfl, h3⟩
  have f3 := f2.ev h3
  refine ⟨_, _, _, rfl, fAlloc (z := .agg #[.int .i64 0, .slice none 0 0, .slice none 0 0]) f3 (by kernel_rfl) fun t6 w4 f4 => fStoreA f4 0 rfl (fun w5 f5 => gCall_of sNew_any ?_)⟩
  rintro _ w6 ⟨e, rfl, h6⟩
  have f6 := h6 f5
  refine ⟨some e, rfl, fun w' => Fr w w' [sIt e [.slice none 0 0, .string ⟨#[]⟩], sIt t6 (told0 2), sIt o2 [.int .i64 k, ev, nv, .bool au, cv, .int .i64 lv, .int .i64 bk, .bool lo, sv, ov, .int .i64 rd, .int .i64 nn]], ?_, ?_⟩
  · have f6 : Fr w w6 [sIt e [.slice none 0 0, .string ⟨#[]⟩], sIt t6 (told0 2), sIt o2 [.int .i64 k, ev, nv, .bool au, cv, .int .i64 lv, .int .i64 bk, .bool lo, sv, ov, .int .i64 rd, .int .i64 nn]] := f6
    have f6 := f6.drew
    have hB : ∀ {w' : World}, Fr w w' [sIt e [.slice none 0 0, .string ⟨#[]⟩], sIt t6 (told0 2), sIt o2 [.int .i64 k, ev, nv, .bool au, cv, .int .i64 lv, .int .i64 bk, .bool lo, sv, ov, .int .i64 rd, .int .i64 nn]] → ∀ z y, (told0 2)[z]? = some y → w'.cell? (t6.add z) = some y := fun f z y hz => f.cell 1 z rfl hz
    refine ⟨fun w' => ∀ z y, (told0 2)[z]? = some y → w'.cell? (t6.add z) = some y, hB f6, gCall_b awake31_any fun w7 h7 => ⟨hB (f6.ev h7), ?_⟩⟩
    have f7 := f6.ev h7
    have hn2 : Sl w7 2 (.slice none 0 0) 0 [] := ⟨none, 0, rfl, Nat.le_refl _, rfl, fun _ h => (by cases h), fun _ => rfl⟩
    have hn4 : Sl w7 4 (.slice none 0 0) 0 [] := ⟨none, 0, rfl, Nat.le_refl _, rfl, fun _ h => (by cases h), fun _ => rfl⟩
    refine gIf_nnb (fun _ => gEq_pnil (gIf_nf (gLoadB_i (fun w' hw => hw 0 _ rfl) (gIf_nneq (fun _ => gLoadB_v (fun w' hw => hw 1 _ rfl) (gLen_slv hn2 (gLoadB_v (fun w' hw => hw 2 _ rfl) (gLen_slv hn4 ?_)))) (fun h => (h rfl).elim))))) (fun h => by cases h)
    refine gCall_v0 (v := .slice none 0 0) (of_script_Day_Archive (gEq_pnil (gIf_t ⟨rfl, rfl⟩))) ⟨hB f7, gLen_nm (Nm.nil .u8 w7) (gIf_dec (fun h => absurd h (by decide)) (fun _ => f7))⟩
  · rintro _ w8 f8
    refine fStore f8 2 0 rfl (fun w9 f9 => ?_)
    have f9 : Fr w w9 [sIt e [.slice none 0 0, .string ⟨#[]⟩], sIt t6 (told0 2), sIt o2 [.int .i64 kind, ev, nv, .bool au, cv, .int .i64 lv, .int .i64 bk, .bool lo, sv, ov, .int .i64 rd, .int .i64 nn]] := f9
    have bad : ¬ (1 ≤ kind ∧ kind ≤ 9) → gLoad P t_api_Op (.part (.agg [.int .i64, .val, .val, .bool, .val, .int .i64, .int .i64, .bool, .val, .val, .int .i64, .int .i64])) (.pointer (some o2)) w9 fun (t51_1 : Int) (t51_2 : Value) (t51_3 : Value) (t51_4 : Bool) (t51_5 : Value) (t51_6 : Int) (t51_7 : Int) (t51_8 : Bool) (t51_9 : Value) (t51_10 : Value) (t51_11 : Int) (t51_12 : Int) => gCall P n_script_Day_Do (.part (.agg [.int .i64, .val, .val])) #[.pointer (some e), .agg #[.int .i64 t51_1, t51_2, t51_3, .bool t51_4, t51_5, .int .i64 t51_6, .int .i64 t51_7, .bool t51_8, t51_9, t51_10, .int .i64 t51_11, .int .i64 t51_12]] w9 fun (t52_1 : Int) (t52_2 : Value) (t52_3 : Value) ww12 => gCall P n_valisehelp_Told shB #[.agg #[.int .i64 t52_1, t52_2, t52_3], .agg #[.int .i64 1, .slice none 0 0, .slice none 0 0]] ww12 fun (t54 : Bool) ww13 => Holds w (.returned (.bool t54)) ww13 := fun hb => by
      refine fLoadA f9 2 rfl (gCall_of (Do_bad hb) ?_)
      rintro _ w10 ⟨rfl, h10⟩
      exact ⟨_, _, _, rfl, gCall_b Told0_any fun w11 h11 => ⟨rfl, (f9.old.trans h10).trans h11⟩⟩
    exact gIf_dec (fun h1 => gIf_ndec (fun h2 => bad (by omega)) (fun h2 => ⟨rfl, f9.old⟩)) (fun h1 => bad (by omega))
end
end Go.Proofs.YtiimlfgjnapgjaaGreatDoorV
