/- Package slices: Chunk of int32, and what ranges over it. -/
import Derived.Test.YtnhlnpjfnoabcaaVBase2
namespace Go.Proofs.YtnhlnpjfnoabcaaV
open Go Go.RowKit
/-- v[l:h:h]. -/
def subV3 (sz : Nat) (v : Value) (l h : Nat) : Value := match v with
  | .slice a _ _ => .slice (if h = l then a else a.map (·.add (l * sz))) (h - l) (h - l)
  | v => v
section
variable {P : Program} {w : World}
theorem gSlice_3 {t : TypeId} {sz : Nat} {a : Option Addr} {n c : Nat} {k1 k2 k3 : IntKind} {l h : Nat} {K : Value → Prop} (hl : l ≤ h) (hh : h ≤ c)
    (hk : K (subV3 sz (.slice a n c) l h)) (ht : slSz P t sz = true) : gSlice P t (.slice a n c) (some (.int k1 l)) (some (.int k2 h)) (some (.int k3 h)) K := by
  obtain ⟨hu, i, hi', hsz⟩ := slSz_ok ht
  refine ⟨_, fun w => ?_, hk⟩
  have hb : (Instr.sliceBounds true n c (some (.int k1 l)) (some (.int k2 h)) (some (.int k3 h))).run P w = .ok (l, h, h) w := by
    simp [Instr.sliceBounds, Instr.sliceBound, asIntOf, hl, hh]
  simp only [Instr.sliceAt, Sem.run_bind, run_underlying hu, Result.andThen_ok, Instr.slice, hb, sizeOf, typeInfo, run_program, hi', Sem.run_pure, hsz, subV3]
theorem Nm.sub3 {k : IntKind} {v : Value} {xs : List Int} (h : Nm k w v xs) (l m : Nat) (hl : l ≤ m) (hm : m ≤ xs.length) : Nm k w (subV3 1 v l m) ((xs.drop l).take (m - l)) := by
  refine ⟨?_, (h.2.drop l).take _⟩
  obtain ⟨a, c, rfl, h1, h2, h3, h4⟩ := h.1
  have hlen : ((xs.drop l).take (m - l)).length = m - l := by rw [List.length_take, List.length_drop]; omega
  rw [hlen]
  refine ⟨_, _, rfl, Nat.le_refl _, by simp; omega, fun ad ha j u hj => ?_, fun ha => ?_⟩
  · have hjl : j < m - l := by have := (List.getElem?_eq_some_iff.1 hj).1; simp at this; omega
    rw [if_neg (by omega), Option.map_eq_some_iff] at ha
    obtain ⟨a0, rfl, rfl⟩ := ha
    rw [Addr.add2', Nat.mul_one]
    refine h3 a0 rfl _ u ?_
    rw [List.getElem?_map, List.getElem?_take, if_pos hjl, List.getElem?_drop] at hj
    rw [List.getElem?_map]; exact hj
  · split at ha
    · have := h4 ha; omega
    · have := h4 (Option.map_eq_none_iff.1 ha); omega
theorem subV3_own (sz : Nat) (v : Value) (l m : Nat) : (subV3 sz v l m).ownBlock = v.ownBlock := by
  cases v <;> try rfl
  rename_i a n c
  simp only [subV3]
  split
  · cases a <;> rfl
  · cases a with
    | none => rfl
    | some ad => simp only [Option.map_some, Value.ownBlock]; unfold Addr.add; split <;> rfl
theorem Fr.putObj {w0 : World} {F : List It} {D : Nat} {o o' : Obj} (h : Fr w0 w F) (hD : w0.heap.size ≤ D) (hk : w.heap[D]? = some o) (ho : o.isCells = false) : Fr w0 (w.putObj D o') F :=
  h.gr (by simp) rfl rfl rfl (fun k hk' => World.putObj_heap_other (by omega)) fun k c e f hc => World.putObj_heap_other (ne_cells hc hk ho).symm
theorem Fr.grown {w0 w' : World} {F : List It} {row : Option Nat} (h : Fr w0 w F) (hg : w.grownBy w' row) (hr : ∀ r, row = some r → w0.heap.size ≤ r ∧ ∃ o : Obj, w.heap[r]? = some o ∧ o.isCells = false) : Fr w0 w' F :=
  h.gr hg.size hg.os hg.tape hg.output (fun k hk => hg.block k (Nat.lt_of_lt_of_le hk h.old.size) fun e => by have := (hr k e.symm).1; omega)
    fun k c e f hc => hg.block k (hlt hc) fun e' => by obtain ⟨_, o, ho, hn⟩ := hr k e'.symm; exact ne_cells hc ho hn rfl
end
/-- The numbers of a part. -/
def chL (n : Nat) (xs : List Int) (j : Nat) : List Int := (xs.drop (j * n)).take n
/-- The part itself. -/
def chV (n : Nat) (s : Value) (len j : Nat) : Value := if j * n ≤ len then subV3 1 s (j * n) (min (j * n + n) len) else .slice none 0 0
/-- How many parts there are. -/
def chN (n len : Nat) : Nat := (len + (n - 1)) / n
theorem chL_len (n : Nat) (xs : List Int) (j : Nat) : (chL n xs j).length ≤ n := by unfold chL; rw [List.length_take]; omega
theorem chV_nm {k : IntKind} {w : World} {n : Nat} {s : Value} {xs : List Int} (h : Nm k w s xs) (j : Nat) : Nm k w (chV n s xs.length j) (chL n xs j) := by
  unfold chV chL
  split
  · rename_i hj
    have := h.sub3 (j * n) (min (j * n + n) xs.length) (by omega) (by omega)
    have e : (xs.drop (j * n)).take (min (j * n + n) xs.length - j * n) = (xs.drop (j * n)).take n := by
      by_cases hc : j * n + n ≤ xs.length
      · rw [Nat.min_eq_left hc, Nat.add_sub_cancel_left]
      · rw [Nat.min_eq_right (by omega), List.take_of_length_le (by simp), List.take_of_length_le (by simp; omega)]
    rwa [e] at this
  · rw [List.drop_of_length_le (by omega), List.take_nil]; exact Nm.nil k w
theorem chN_lt {n len j : Nat} (hn : 1 ≤ n) : j < chN n len ↔ j * n < len := by
  unfold chN
  rw [Nat.lt_div_iff_mul_lt (by omega)]
  omega
theorem ch_flat {n : Nat} (hn : 1 ≤ n) (xs : List Int) : ∀ j, j ≤ chN n xs.length → ((List.range j).map (chL n xs)).flatten = xs.take (j * n)
  | 0, _ => by simp
  | j + 1, h => by
    rw [List.range_succ, List.map_append, List.flatten_append, ch_flat hn xs j (by omega)]
    simp only [List.map_cons, List.map_nil, List.flatten_cons, List.flatten_nil, List.append_nil]
    unfold chL
    rw [Nat.succ_mul, List.take_add]
theorem ch_all {n : Nat} (hn : 1 ≤ n) (xs : List Int) : ((List.range (chN n xs.length)).map (chL n xs)).flatten = xs := by
  rw [ch_flat hn xs _ (Nat.le_refl _), List.take_of_length_le]
  have : ¬ chN n xs.length < chN n xs.length := by omega
  rw [chN_lt hn] at this; omega
section
variable {w0 w : World} {F : List It} {s : Value} {xs : List Int} {n : Nat} {a b : Addr}
theorem Chunk_any {K : Value → World → Prop} (h : Fr w0 w F) (hs : s.cells = #[s]) (hn : 1 ≤ n) (hk : ∀ a b w', Fr w0 w' (sIt b [.int .i64 (n : Int)] :: sIt a [s] :: F) → K (.func (.func n_slices_Chunk_int32_int32_1) #[] #[.pointer (some a), .pointer (some b)]) w') :
    gCall P n_slices_Chunk_int32_int32 shV #[s, .int .i64 (n : Int)] w K := by
  refine gCall_of (R := fun e w' => ∃ a b, e = .returned (.func (.func n_slices_Chunk_int32_int32_1) #[] #[.pointer (some a), .pointer (some b)]) ∧ Fr w0 w' (sIt b [.int .i64 (n : Int)] :: sIt a [s] :: F)) (of_slices_Chunk_int32_int32 (fBox h fun a w1 f1 => fBox f1 fun b w2 f2 => ?_)) ?_
  · rw [hs] at f2
    have hc := f2.cell 0 0 rfl rfl
    rw [Addr.add_zero'] at hc
    exact gLoad_i hc (gIf_dec (fun h => by omega) fun _ => ⟨a, b, rfl, f2⟩)
  · rintro _ w' ⟨a, b, rfl, f⟩
    exact ⟨_, rfl, hk a b w' f⟩
/-- What a round keeps. -/
def KpC (a b : Addr) (s : Value) (n : Nat) (A B : World) : Prop := (A.cell? a = some s → B.cell? a = some s) ∧ (A.cell? b = some (.int .i64 (n : Int)) → B.cell? b = some (.int .i64 (n : Int)))
theorem chunk_stops (hs : Nm .i32 w s xs) (hl : xs.length ≤ 1000000000) (hn : 1 ≤ n) (hn2 : n ≤ 1000000) (ha : w.cell? a = some s) (hb : w.cell? b = some (.int .i64 (n : Int))) :
    SeqStopsK Fence.wide 4 P n_slices_Chunk_int32_int32_1 #[.pointer (some a), .pointer (some b)] (fun j : Nat => #[chV n s xs.length j]) (KpC a b s n) (fun ys => ys = List.range (chN n xs.length)) (fun _ => True) (chN n xs.length) w := by
  intro l J Jx W hW hJ hJx hY h0
  refine callsIn_wide.2 ?_
  have sl := hs.shape
  obtain ⟨sa, sc, hsv, hsc⟩ := sl
  have haW := (hW.cell (p := a) (World.block_lt_of_cell? w _ ha)).trans ha
  have hbW := (hW.cell (p := b) (World.block_lt_of_cell? w _ hb)).trans hb
  show Calls P n_slices_Chunk_int32_int32_1 #[.func (.yield l) #[] #[], .pointer (some a), .pointer (some b)] W _
  refine of_slices_Chunk_int32_int32_1 ⟨fun i w' => ∃ j : Nat, i = ((j * n : Nat) : Int) ∧ j ≤ chN n xs.length ∧ J (List.range j) w' ∧ KpC a b s n W w', fun i _ => xs.length - i.toNat, ⟨0, by simp, by omega, h0, id, id⟩, ?_⟩
  rintro _ i w1 ⟨j, rfl, hj, hJ1, hK1⟩
  have ha1 := hK1.1 haW
  have hb1 := hK1.2 hbW
  have hjn := chN_lt (len := xs.length) (j := j) hn
  subst hsv
  refine gLoad_v ha1 (gLen_sl (gIf_dec (fun hlt => ?_) (fun hge => ?_)))
  · have hlt' : j * n < xs.length := by omega
    refine gLoadB_i (at1 hb1) (gLoadB_v (at1 ha1) (gSlice_any (sz := 1) (l := j * n) (h := xs.length) (.inr ⟨_, rfl⟩) (.inl ⟨rfl, rfl⟩) (by omega) hsc ?_ (by kernel_rfl)))
    refine gLen_sl ?_
    have hmin : (if ((xs.length - j * n : Nat) : Int) < (n : Int) then ((xs.length - j * n : Nat) : Int) else (n : Int)) = ((min (xs.length - j * n) n : Nat) : Int) := by split <;> omega
    have hend : i64 (((j * n : Nat) : Int) + ((min (xs.length - j * n) n : Nat) : Int)) = ((min (j * n + n) xs.length : Nat) : Int) := by rw [i64_id (by omega) (by omega)]; omega
    rw [hmin, hend]
    refine gLoad_v ha1 (gSlice_3 (sz := 1) (by omega) (by omega) ?_ (by kernel_rfl))
    have hcv : subV3 1 (.slice sa xs.length sc) (j * n) (min (j * n + n) xs.length) = chV n (.slice sa xs.length sc) xs.length j := by unfold chV; rw [if_pos (by omega)]
    rw [hcv]
    have hJd : J (List.range j) w1.drew := hJ _ w1 w1.drew none hJ1 ⟨rfl, rfl, rfl, Nat.le_refl _, fun _ _ _ => rfl⟩ fun r e => by cases e
    obtain ⟨fn, tmps, asg, bo, hy, hR⟩ := hY (List.range j) j w1.drew hJd (by rw [List.length_range]; exact hjn.2 hlt')
    refine .inr ⟨l, 3, rfl, fn, tmps, asg, bo, hy, hR.mono ?_⟩
    rintro e W' (⟨rfl, hJ2, hK2⟩ | ⟨rfl, hJx2⟩)
    · have hb2 : W'.cell? b = some (.int .i64 (n : Int)) := hK2.2 hb1
      refine ⟨true, rfl, gIf_nt (gLoad_i hb2 ?_)⟩
      rw [show i64 (((j * n : Nat) : Int) + (n : Int)) = (((j + 1) * n : Nat) : Int) by rw [i64_id (by omega) (by omega), Nat.succ_mul]; omega]
      refine ⟨⟨j + 1, rfl, hjn.2 hlt', by rw [List.range_succ]; exact hJ2, fun _ => hK2.1 ha1, fun _ => hb2⟩, ?_⟩
      dsimp only
      rw [Int.toNat_natCast, Int.toNat_natCast, Nat.succ_mul]; omega
    · exact ⟨false, rfl, gIf_nf ⟨⟨_, rfl⟩, .inr ⟨_, trivial, hJx2⟩⟩⟩
  · refine ⟨⟨_, rfl⟩, .inl ⟨_, rfl, ?_⟩⟩
    have : j = chN n xs.length := by
      have h1 : ¬ j < chN n xs.length := fun h => by rw [hjn] at h; omega
      omega
    rw [← this]; exact hJ1
/-- The parts of a slice, one by one: Q tells what stands when some have come. -/
theorem range_chunk {BODY : Value → World → (World → Prop) → Prop} {POST : Nat → World → Prop} (f : Fr w0 w (sIt b [.int .i64 (n : Int)] :: sIt a [s] :: F)) (hs : Nm .i32 w0 s xs) (hl : xs.length ≤ 1000000000) (hn : 1 ≤ n) (hn2 : n ≤ 1000000)
    (Q : List Nat → List It → Prop) (h0 : Q [] F)
    (hbody : ∀ pre j W G, Q pre G → Fr w0 W (sIt b [.int .i64 (n : Int)] :: sIt a [s] :: G) → pre.length < chN n xs.length → Nm .i32 W (chV n s xs.length j) (chL n xs j) → (∀ g, (chV n s xs.length j).ownBlock = some g → g < w0.heap.size ∨ chL n xs j = []) →
      ∀ K : World → Prop, (∀ W' G', KeepsOthers W W' → Q (pre ++ [j]) G' → Fr w0 W' (sIt b [.int .i64 (n : Int)] :: sIt a [s] :: G') → K W') → BODY (chV n s xs.length j) W K)
    (hpost : ∀ D W G, w.heap.size ≤ D → Q (List.range (chN n xs.length)) G → Fr w0 W (sIt b [.int .i64 (n : Int)] :: sIt a [s] :: G) → W.heap[D]? = some (.deferred (some [])) → POST D W) :
    gRange P (.func (.func n_slices_Chunk_int32_int32_1) #[] #[.pointer (some a), .pointer (some b)]) w BODY POST := by
  have ca : ∀ {W : World} {G : List It}, Fr w0 W (sIt b [.int .i64 (n : Int)] :: sIt a [s] :: G) → W.cell? a = some s := fun f => by have := f.cell 1 0 rfl rfl; rwa [Addr.add_zero'] at this
  have cb : ∀ {W : World} {G : List It}, Fr w0 W (sIt b [.int .i64 (n : Int)] :: sIt a [s] :: G) → W.cell? b = some (.int .i64 (n : Int)) := fun f => by have := f.cell 0 0 rfl rfl; rwa [Addr.add_zero'] at this
  refine ⟨_, _, rfl, by kernel_rfl, Nat, chV n s xs.length, KpC a b s n, _, _, _, fun pre W => ∃ G, Q pre G ∧ Fr w0 W (sIt b [.int .i64 (n : Int)] :: sIt a [s] :: G), chunk_stops (hs.ev f.old) hl hn hn2 (ca f) (cb f), fun h k => ⟨fun x => k.1 (h.1 x), fun x => k.2 (h.2 x)⟩, ?_, ?_, ⟨F, h0, f⟩, ?_, ?_⟩
  · intro W l o o' _ hlo ho _
    have keep : ∀ {c : Addr} {u : Value}, W.cell? c = some u → (W.putObj l o').cell? c = some u := fun {c u} hc => by
      obtain ⟨oc, hoc, hcc⟩ := cells_of_cell hc
      have : c.block ≠ l := fun e => by rw [e, hlo] at hoc; injection hoc with hoc; subst hoc; rw [ho] at hcc; cases hcc
      rw [World.cell?_of_block (World.putObj_heap_other this)]; exact hc
    exact ⟨keep, keep⟩
  · rintro pre W W' row ⟨G, hQ, fG⟩ hg hr
    exact ⟨G, hQ, fG.grown hg fun r e => ⟨Nat.le_trans f.old.size (hr r e).1, (hr r e).2⟩⟩
  · rintro pre j W ⟨G, hQ, fG⟩ hlen
    have hN := chV_nm (n := n) (hs.ev fG.old) j
    refine hbody pre j W G hQ fG hlen hN (fun g hg => ?_) _ fun W' G' h1 h2 h3 => ⟨h1, ⟨fun _ => ca h3, fun _ => cb h3⟩, G', h2, h3⟩
    by_cases he : xs = []
    · right; unfold chL; rw [he]; simp
    · left
      unfold chV at hg
      split at hg
      · rw [subV3_own] at hg; exact hs.old he hg
      · cases hg
  · rintro D xs' W hD rfl ⟨G, hQ, fG⟩ hk
    exact hpost D W G hD hQ fG hk
end
end Go.Proofs.YtnhlnpjfnoabcaaV
