import Derived.Test.YtilpoinhfiajcaaGreatDoorVQart8
set_option linter.unusedVariables false
set_option linter.unusedSimpArgs false
/- Package slices: Chunk of int32, and what ranges over it. -/
namespace Go.Proofs.YtilpoinhfiajcaaGreatDoorV
open Go Go.RowKit
/-- v[l:h:h]. -/
def subV3 (sz : Nat) (v : Value) (l h : Nat) : Value := match v with
  | .slice a _ _ => .slice (if h = l then a else a.map (·.add (l * sz))) (h - l) (h - l)
  | v => v
section
variable {P : Program} {w : World}
theorem gSlice_3 {t : TypeId} {sz : Nat} {a : Option Addr} {n c : Nat} {k1 k2 k3 : IntKind} {l h : Nat} {K : Value → Prop} (hl : l ≤ h) (hh : h ≤ c)
    (hk : K (subV3 sz (.slice a n c) l h)) (ht : slSz P t sz = true) : gSlice P t (.slice a n c) (some (.int k1 l)) (some (.int k2 h)) (some (.int k3 h)) K := by
  obtain ⟨hu, i, hi', hsz⟩ := slSz_ok ht
  refine ⟨_, fun w => ?_, hk⟩
  have hb : (Instr.sliceBounds true n c (some (.int k1 l)) (some (.int k2 h)) (some (.int k3 h))).run P w = .ok (l, h, h) w := by
    simp [Instr.sliceBounds, Instr.sliceBound, asIntOf, hl, hh]
  simp only [Instr.sliceAt, Sem.run_bind, run_underlying hu, Result.andThen_ok, Instr.slice, hb, sizeOf, typeInfo, run_program, hi', Sem.run_pure, hsz, subV3]
theorem Nm.sub3 {k : IntKind} {v : Value} {xs : List Int} (h : Nm k w v xs) (l m : Nat) (hl : l ≤ m) (hm : m ≤ xs.length) : Nm k w (subV3 1 v l m) ((xs.drop l).take (m - l)) := by
  refine ⟨?_, (h.2.drop l).take _⟩
  obtain ⟨a, c, rfl, h1, h2, h3, h4⟩ := h.1
  have hlen : ((xs.drop l).take (m - l)).length = m - l := by rw [List.length_take, List.length_drop]; omega
  rw [hlen]
  refine ⟨_, _, rfl, Nat.le_refl _, by simp; omega, fun ad ha j u hj => ?_, fun ha => ?_⟩
  · have hjl : j < m - l := by have := (List.getElem?_eq_some_iff.1 hj).1; simp at this; omega
    rw [if_neg (by omega), Option.map_eq_some_iff] at ha
    obtain ⟨a0, rfl, rfl⟩ := ha
    rw [Addr.add2', Nat.mul_one]
    refine h3 a0 rfl _ u ?_
    rw [List.getElem?_map, List.getElem?_take, if_pos hjl, List.getElem?_drop] at hj
    rw [List.getElem?_map]; exact hj
  · split at ha
    · have := h4 ha; omega
    · have := h4 (Option.map_eq_none_iff.1 ha); omega
theorem subV3_own (sz : Nat) (v : Value) (l m : Nat) : (subV3 sz v l m).ownBlock = v.ownBlock := by
  cases v <;> try rfl
  rename_i a n c
  simp only [subV3]
  split
  · cases a <;> rfl
  · cases a with
    | none => rfl
    | some ad => simp only [Option.map_some, Value.ownBlock]; unfold Addr.add; split <;> rfl
theorem Fr.putObj {w0 : World} {F : List It} {D : Nat} {o o' : Obj} (h : Fr w0 w F) (hD : w0.heap.size ≤ D) (hk : w.heap[D]? = some o) (ho : o.isCells = false) : Fr w0 (w.putObj D o') F :=
  h.gr (by simp) rfl rfl rfl (fun k hk' => World.putObj_heap_other (by omega)) fun k c e f hc => World.putObj_heap_other (ne_cells hc hk ho).symm
theorem Fr.grown {w0 w' : World} {F : List It} {row : Option Nat} (h : Fr w0 w F) (hg : w.grownBy w' row) (hr : ∀ r, row = some r → w0.heap.size ≤ r ∧ ∃ o : Obj, w.heap[r]? = some o ∧ o.isCells = false) : Fr w0 w' F :=
  h.gr hg.size hg.os hg.tape hg.output (fun k hk => hg.block k (Nat.lt_of_lt_of_le hk h.old.size) fun e => by have := (hr k e.symm).1; omega)
    fun k c e f hc => hg.block k (hlt hc) fun e' => by obtain ⟨_, o, ho, hn⟩ := hr k e'.symm; exact ne_cells hc ho hn rfl
end
/-- The numbers of a part. -/
def chL (n : Nat) (xs : List Int) (j : Nat) : List Int := (xs.drop (j * n)).take n
/-- The part itself. -/
def chV (n : Nat) (s : Value) (len j : Nat) : Value := if j * n ≤ len then subV3 1 s (j * n) (min (j * n + n) len) else .slice none 0 0
/-- How many parts there are. -/
def chN (n len : Nat) : Nat := (len + (n - 1)) / n
theorem chL_len (n : Nat) (xs : List Int) (j : Nat) : (chL n xs j).length ≤ n := by unfold chL; rw [List.length_take]; omega
theorem chV_nm {k : IntKind} {w : World} {n : Nat} {s : Value} {xs : List Int} (h : Nm k w s xs) (j : Nat) : Nm k w (chV n s xs.length j) (chL n xs j) := by
  unfold chV chL
  split
  · rename_i hj
    have := h.sub3 (j * n) (min (j * n + n) xs.length) (by omega) (by omega)
    have e : (xs.drop (j * n)).take (min (j * n + n) xs.length - j * n) = (xs.drop (j * n)).take n := by
      by_cases hc : j * n + n ≤ xs.length
      · rw [Nat.min_eq_left hc, Nat.add_sub_cancel_left]
      · rw [Nat.min_eq_right (by omega), List.take_of_length_le (by simp), List.take_of_length_le (by simp; omega)]
    rwa [e] at this
  · rw [List.drop_of_length_le (by omega), List.take_nil]; exact Nm.nil k w
theorem chN_lt {n len j : Nat} (hn : 1 ≤ n) : j < chN n len ↔ j * n < len := by
  unfold chN
  rw [Nat.lt_div_iff_mul_lt (by omega)]
  omega
section
variable {w0 w : World} {F : List It} {s : Value} {xs : List Int} {n : Nat} {a b : Addr}
theorem Chunk_any {K : Value → World → Prop} (h : Fr w0 w F) (hs : s.cells = #[s]) (hn : 1 ≤ n) (hk : ∀ a b w', Fr w0 w' (sIt b [.int .i64 (n : Int)] :: sIt a [s] :: F) → K (.func (.func n_slices_Chunk_int32_int32_1) #[] #[.pointer (some a), .pointer (some b)]) w') :
    gCall P n_slices_Chunk_int32_int32 shV #[s, .int .i64 (n : Int)] w K := by
  refine gCall_of (R := fun e w' => ∃ a b, e = .returned (.func (.func n_slices_Chunk_int32_int32_1) #[] #[.pointer (some a), .pointer (some b)]) ∧ Fr w0 w' (sIt b [.int .i64 (n : Int)] :: sIt a [s] :: F)) (of_slices_Chunk_int32_int32 (fBox h fun a w1 f1 => fBox f1 fun b w2 f2 => ?_)) ?_
  · rw [hs] at f2
    have hc := f2.cell 0 0 rfl rfl
    rw [Addr.add_zero'] at hc
    exact gLoad_i hc (gIf_dec (fun h => by omega) fun _ => ⟨a, b, rfl, f2⟩)
  · rintro _ w' ⟨a, b, rfl, f⟩
    exact ⟨_, rfl, hk a b w' f⟩
/-- What a round keeps. -/
def KpC (a b : Addr) (s : Value) (n : Nat) (A B : World) : Prop := (A.cell? a = some s → B.cell? a = some s) ∧ (A.cell? b = some (.int .i64 (n : Int)) → B.cell? b = some (.int .i64 (n : Int)))
theorem chunk_stops (hs : Nm .i32 w s xs) (hl : xs.length ≤ 1000000000) (hn : 1 ≤ n) (hn2 : n ≤ 1000000) (ha : w.cell? a = some s) (hb : w.cell? b = some (.int .i64 (n : Int))) :
    SeqStopsK Fence.wide 4 P n_slices_Chunk_int32_int32_1 #[.pointer (some a), .pointer (some b)] (fun j : Nat => #[chV n s xs.length j]) (KpC a b s n) (fun ys => ys = List.range (chN n xs.length)) (fun _ => True) (chN n xs.length) w := by
  intro l J Jx W hW hJ hJx hY h0
  refine callsIn_wide.2 ?_
  have sl := hs.shape
  obtain ⟨sa, sc, hsv, hsc⟩ := sl
  have haW := (hW.cell (p := a) (World.block_lt_of_cell? w _ ha)).trans ha
  have hbW := (hW.cell (p := b) (World.block_lt_of_cell? w _ hb)).trans hb
  show Calls P n_slices_Chunk_int32_int32_1 #[.func (.yield l) #[] #[], .pointer (some a), .pointer (some b)] W _
  refine of_slices_Chunk_int32_int32_1 ⟨fun i w' => ∃ j : Nat, i = ((j * n : Nat) : Int) ∧ j ≤ chN n xs.length ∧ J (List.range j) w' ∧ KpC a b s n W w', fun i _ => xs.length - i.toNat, ⟨0, by simp, by omega, h0, id, id⟩, ?_⟩
  rintro _ i w1 ⟨j, rfl, hj, hJ1, hK1⟩
  have ha1 := hK1.1 haW
  have hb1 := hK1.2 hbW
  have hjn := chN_lt (len := xs.length) (j := j) hn
  subst hsv
  refine gLoad_v ha1 (gLen_sl (gIf_dec (fun hlt => ?_) (fun hge => ?_)))
  · have hlt' : j * n < xs.length := by omega
    refine gLoadB_i (at1 hb1) (gLoadB_v (at1 ha1) (gSlice_any (sz := 1) (l := j * n) (h := xs.length) (.inr ⟨_, rfl⟩) (.inl ⟨rfl, rfl⟩) (by omega) hsc ?_ (by kernel_rfl)))
    refine gLen_sl ?_
    have hmin : (if ((xs.length - j * n : Nat) : Int) < (n : Int) then ((xs.length - j * n : Nat) : Int) else (n : Int)) = ((min (xs.length - j * n) n : Nat) : Int) := by split <;> omega
    have hend : i64 (((j * n : Nat) : Int) + ((min (xs.length - j * n) n : Nat) : Int)) = ((min (j * n + n) xs.length : Nat) : Int) := by rw [i64_id (by omega) (by omega)]; omega
    rw [hmin, hend]
    refine gLoad_v ha1 (gSlice_3 (sz := 1) (by omega) (by omega) ?_ (by kernel_rfl))
    have hcv : subV3 1 (.slice sa xs.length sc) (j * n) (min (j * n + n) xs.length) = chV n (.slice sa xs.length sc) xs.length j := by unfold chV; rw [if_pos (by omega)]
    rw [hcv]
    have hJd : J (List.range j) w1.drew := hJ _ w1 w1.drew none hJ1 ⟨rfl, rfl, rfl, Nat.le_refl _, fun _ _ _ => rfl⟩ fun r e => by cases e
    obtain ⟨fn, tmps, asg, bo, hy, hR⟩ := hY (List.range j) j w1.drew hJd (by rw [List.length_range]; exact hjn.2 hlt')
    refine .inr ⟨l, 3, rfl, fn, tmps, asg, bo, hy, hR.mono ?_⟩
    rintro e W' (⟨rfl, hJ2, hK2⟩ | ⟨rfl, hJx2⟩)
    · have hb2 : W'.cell? b = some (.int .i64 (n : Int)) := hK2.2 hb1
      refine ⟨true, rfl, gIf_nt (gLoad_i hb2 ?_)⟩
      rw [show i64 (((j * n : Nat) : Int) + (n : Int)) = (((j + 1) * n : Nat) : Int) by rw [i64_id (by omega) (by omega), Nat.succ_mul]; omega]
      refine ⟨⟨j + 1, rfl, hjn.2 hlt', by rw [List.range_succ]; exact hJ2, fun _ => hK2.1 ha1, fun _ => hb2⟩, ?_⟩
      dsimp only
      rw [Int.toNat_natCast, Int.toNat_natCast, Nat.succ_mul]; omega
    · exact ⟨false, rfl, gIf_nf ⟨⟨_, rfl⟩, .inr ⟨_, trivial, hJx2⟩⟩⟩
  · refine ⟨⟨_, rfl⟩, .inl ⟨_, rfl, ?_⟩⟩
    have : j = chN n xs.length := by
      have h1 : ¬ j < chN n xs.length := fun h => by rw [hjn] at h; omega
      omega
    rw [← this]; exact hJ1
/-- The parts of a slice, one by one: Q tells what stands when some have come. -/
theorem range_chunk {BODY : Value → World → (World → Prop) → Prop} {POST : Nat → World → Prop} (f : Fr w0 w (sIt b [.int .i64 (n : Int)] :: sIt a [s] :: F)) (hs : Nm .i32 w0 s xs) (hl : xs.length ≤ 1000000000) (hn : 1 ≤ n) (hn2 : n ≤ 1000000)
    (Q : List Nat → List It → Prop) (h0 : Q [] F)
    (hbody : ∀ pre j W G, Q pre G → Fr w0 W (sIt b [.int .i64 (n : Int)] :: sIt a [s] :: G) → pre.length < chN n xs.length → Nm .i32 W (chV n s xs.length j) (chL n xs j) → (∀ g, (chV n s xs.length j).ownBlock = some g → g < w0.heap.size ∨ chL n xs j = []) →
      ∀ K : World → Prop, (∀ W' G', KeepsOthers W W' → Q (pre ++ [j]) G' → Fr w0 W' (sIt b [.int .i64 (n : Int)] :: sIt a [s] :: G') → K W') → BODY (chV n s xs.length j) W K)
    (hpost : ∀ D W G, w.heap.size ≤ D → Q (List.range (chN n xs.length)) G → Fr w0 W (sIt b [.int .i64 (n : Int)] :: sIt a [s] :: G) → W.heap[D]? = some (.deferred (some [])) → POST D W) :
    gRange P (.func (.func n_slices_Chunk_int32_int32_1) #[] #[.pointer (some a), .pointer (some b)]) w BODY POST := by
  have ca : ∀ {W : World} {G : List It}, Fr w0 W (sIt b [.int .i64 (n : Int)] :: sIt a [s] :: G) → W.cell? a = some s := fun f => by have := f.cell 1 0 rfl rfl; rwa [Addr.add_zero'] at this
  have cb : ∀ {W : World} {G : List It}, Fr w0 W (sIt b [.int .i64 (n : Int)] :: sIt a [s] :: G) → W.cell? b = some (.int .i64 (n : Int)) := fun f => by have := f.cell 0 0 rfl rfl; rwa [Addr.add_zero'] at this
  refine ⟨_, _, rfl, by kernel_rfl, Nat, chV n s xs.length, KpC a b s n, _, _, _, fun pre W => ∃ G, Q pre G ∧ Fr w0 W (sIt b [.int .i64 (n : Int)] :: sIt a [s] :: G), chunk_stops (hs.ev f.old) hl hn hn2 (ca f) (cb f), fun h k => ⟨fun x => k.1 (h.1 x), fun x => k.2 (h.2 x)⟩, ?_, ?_, ⟨F, h0, f⟩, ?_, ?_⟩
  · intro W l o o' _ hlo ho _
    have keep : ∀ {c : Addr} {u : Value}, W.cell? c = some u → (W.putObj l o').cell? c = some u := fun {c u} hc => by
      obtain ⟨oc, hoc, hcc⟩ := cells_of_cell hc
      have : c.block ≠ l := fun e => by rw [e, hlo] at hoc; injection hoc with hoc; subst hoc; rw [ho] at hcc; cases hcc
      rw [World.cell?_of_block (World.putObj_heap_other this)]; exact hc
    exact ⟨keep, keep⟩
  · rintro pre W W' row ⟨G, hQ, fG⟩ hg hr
    exact ⟨G, hQ, fG.grown hg fun r e => ⟨Nat.le_trans f.old.size (hr r e).1, (hr r e).2⟩⟩
  · rintro pre j W ⟨G, hQ, fG⟩ hlen
    have hN := chV_nm (n := n) (hs.ev fG.old) j
    refine hbody pre j W G hQ fG hlen hN (fun g hg => ?_) _ fun W' G' h1 h2 h3 => ⟨h1, ⟨fun _ => ca h3, fun _ => cb h3⟩, G', h2, h3⟩
    by_cases he : xs = []
    · right; unfold chL; rw [he]; simp
    · left
      unfold chV at hg
      split at hg
      · rw [subV3_own] at hg; exact hs.old he hg
      · cases hg
  · rintro D xs' W hD rfl ⟨G, hQ, fG⟩ hk
    exact hpost D W G hD hQ fG hk
end
end Go.Proofs.YtilpoinhfiajcaaGreatDoorV

/- Package valisehelp: Bytes. -/
namespace Go.Proofs.YtilpoinhfiajcaaGreatDoorV
open Go Go.RowKit
theorem Bytes_any {a b : Value} {xs ys : List Int} {w : World} (ha : Nm .u8 w a xs) (hb : Nm .u8 w b ys) : Calls P n_valisehelp_Bytes #[a, b] w (fun e w' => e = .returned (.bool (decide (xs = ys))) ∧ w' = w) :=
  of_valisehelp_Bytes (gConv_bs ha (gConv_bs hb ⟨by rw [bsOf_eq ha.2 hb.2], rfl⟩))
end Go.Proofs.YtilpoinhfiajcaaGreatDoorV

/- Package rice: what its calls do. -/
namespace Go.Proofs.YtilpoinhfiajcaaGreatDoorV
open Go Go.RowKit
theorem rd_i32 {l : List Int} (h : inR .i32 l) (i : Nat) : -2147483648 ≤ rd l i ∧ rd l i ≤ 2147483647 := rd_in (fun x hx => i32_rng (h x hx)) i
/-! ### Zeros and ones have bytes -/
def B01 (bs : List Int) : Prop := ∀ x ∈ bs, x = 0 ∨ x = 1
theorem B01.app {cs bs : List Int} (h : B01 cs) (h2 : B01 bs) : B01 (cs ++ bs) := fun x hx => (List.mem_append.1 hx).elim (h x) (h2 x)
theorem B01.bits (v : Int) : ∀ k, B01 (bitsL v k)
  | 0 => fun x hx => by cases hx
  | k + 1 => fun x hx => by
    rcases List.mem_cons.1 hx with rfl | hx
    · omega
    · exact B01.bits v k x hx
theorem B01.ones (n : Nat) : B01 (List.replicate n 1) := fun x hx => .inr (List.eq_of_mem_replicate hx)
theorem B01.num (v : Int) (k : Nat) : B01 (numL v k) := by
  unfold numL
  split
  · exact ((B01.ones _).app (fun x hx => by simp at hx; exact .inl hx)).app (B01.bits _ _)
  · exact (B01.ones _).app (B01.bits _ _)
theorem B01.pack (l : List Int) : ∀ m, B01 (packTo l m)
  | 0 => fun x hx => by cases hx
  | m + 1 => (B01.pack l m).app (B01.app (by split; exact B01.bits _ _; exact fun x hx => by cases hx) (B01.num _ _))
theorem packs_snoc {xs bs : List Int} {b : Int} (hx : inR .u8 xs) (h : Packs xs bs) (hb : b = 0 ∨ b = 1) : ∃ ys, inR .u8 ys ∧ Packs ys (bs ++ [b]) := by
  have hl := h.1
  obtain ⟨zs, h1, h2, h3⟩ : ∃ zs, inR .u8 zs ∧ zs.length = (bs.length + 1 + 7) / 8 ∧ ∀ k, k < 8 * zs.length → bitAt zs k = bs.getD k 0 := by
    by_cases h0 : bs.length % 8 = 0
    · exact ⟨xs ++ [0], fun x hx' => (List.mem_append.1 hx').elim (hx x) fun h => by simp at h; subst h; decide, by simp; omega, fun k _ => h.grow h0 k⟩
    · exact ⟨xs, hx, by omega, h.2⟩
  rcases hb with rfl | rfl
  · exact ⟨zs, h1, Packs.zero h2 h3⟩
  · exact ⟨_, (Packs.set h1 h2 h3).2, (Packs.set h1 h2 h3).1⟩
theorem packs_rev : ∀ cs : List Int, B01 cs → ∃ xs, inR .u8 xs ∧ Packs xs cs.reverse
  | [], _ => ⟨[], (fun _ h => by cases h), Packs.nil⟩
  | b :: cs, h => by
    obtain ⟨xs, h1, h2⟩ := packs_rev cs fun x hx => h x (List.mem_cons_of_mem _ hx)
    rw [List.reverse_cons]; exact packs_snoc h1 h2 (h b List.mem_cons_self)
theorem pkB_ok {bs : List Int} (h : B01 bs) : inR .u8 (pkB bs) ∧ Packs (pkB bs) bs := by
  obtain ⟨xs, h1, h2⟩ := packs_rev bs.reverse fun x hx => h x (List.mem_reverse.1 hx)
  rw [List.reverse_reverse] at h2
  rw [pkB_eq h1 h2]; exact ⟨h1, h2⟩
/-! ### Bits that grow behind a pointer -/
def bIt (ad : Addr) (v : Value) (bs : List Int) : It := ⟨fun k => k = ad.block ∨ v.ownBlock = some k, fun w => Wb w ad v bs, fun _ _ ⟨_, h1, h2, _⟩ hk => by
    rcases hk with hk | hk
    · rw [hk]; exact h1.ce
    · exact h2.ce hk, fun _ _ _ h hc hs => h.ch hc fun k i hk => hs k i hk, fun _ _ ⟨xs, h1, h2, h3, h4⟩ _ hc => ⟨xs, h1.gr hc, h2.gr hc, h3, h4⟩⟩
section
variable {w0 w : World} {F : List It}
theorem Fr.asB (h : Fr w0 w F) (i : Nat) {ad : Addr} (hi : F[i]? = some (sIt ad [.slice none 0 0, .int .i64 0])) : Fr w0 w (F.set i (bIt ad (.slice none 0 0) [])) :=
  h.upd (S := No) i hi (Ch.refl _ w) (fun _ _ h => h.elim) ⟨[], h.get i hi, ON.nil _ _ _ _, (fun h => by cases h), Packs.nil⟩ fun k hk => .inl (by rcases hk with hk | hk; exact hk; cases hk)
theorem Fr.bw {w' : World} {ad : Addr} {v v' : Value} {xs ys : List Int} (h : Fr w0 w F) (i : Nat) (hi : F[i]? = some (bIt ad v xs)) (g : WbS w w' ad v v' ys) : Fr w0 w' (F.set i (bIt ad v' ys)) :=
  h.upd i hi g.2.1 (fun k _ hh => .inl hh) g.1 fun k hk => by
    rcases hk with hk | hk
    · exact .inl (.inl hk)
    · rcases g.2.2 with hm | hm
      · exact .inl (.inr (hm ▸ hk))
      · exact .inr (hm k hk)
theorem fStore0 {P : Program} {t : TypeId} {ad : Addr} {cs : List Value} {u : Value} {K : World → Prop} (h : Fr w0 w F) (i : Nat) (hi : F[i]? = some (sIt ad cs)) (hk : ∀ w', Fr w0 w' (F.set i (sIt ad (cs.set 0 u))) → K w') (hj : 0 < cs.length := by exact Nat.le_of_ble_eq_true rfl) (hu : u.oneCell' = true := by rfl) (hcl : u.cells = #[u] := by rfl) (ht : flat1 P t = true := by kernel_rfl) :
    gStore P t (.pointer (some ad)) u w K := by
  have := fStore h i 0 hi hk hj hu hcl ht
  rwa [Addr.add_zero'] at this
theorem Fr.cell0 {ad : Addr} {cs : List Value} (h : Fr w0 w F) (i : Nat) {u : Value} (hi : F[i]? = some (sIt ad cs)) (hj : cs[0]? = some u) : w.cell? ad = some u := by
  have := h.cell i 0 hi hj
  rwa [Addr.add_zero'] at this
end
/-! ### Numbers -/
theorem putR_any {ad : Addr} {v : Value} {bs : List Int} {x : Int} {k : Nat} {w : World} (h : Wb w ad v bs) (hx : -2147483648 ≤ x ∧ x ≤ 2147483647) (hk : k ≤ 24) (hl : bs.length + 10000 ≤ 10000000000) :
    Calls P n_rice_packer_put #[.pointer (some ad), .int .i32 x, .int .i64 k] w (fun e w' => e = .returned (.tuple #[]) ∧ ∃ v', WbS w w' ad v v' (bs ++ numL x k)) := by
  have hf := foldI32 hx
  refine of_rice_packer_put ?_
  rw [i64_id (n := x) (by omega) (by omega)]
  refine gCall_i0 (Fold_any (by omega)) (gBin_shr (by omega) ?_)
  rw [show u32 (foldI x) = foldI x by rw [u32_def]; omega]
  obtain ⟨e1, e2, e3⟩ := shr32 hf (k := k) (by omega)
  rw [e1]
  unfold numL
  refine gIf_dec (fun hlt => gNil_some ?_) (fun hge => ?_)
  · rw [if_pos hlt, Addr.add_zero', i64_id (n := foldI x / _) (by omega) (by omega)]
    refine gCall_u (Unary_any h (by omega)) fun w1 ⟨v1, h1⟩ => gNil_some ?_
    have hc : cl4096 (foldI x / ((2 ^ k : Nat) : Int)) = (foldI x / ((2 ^ k : Nat) : Int)).toNat := by unfold cl4096; split <;> omega
    rw [Addr.add_zero']
    rw [hc] at h1
    refine gCall_u (Bits_any h1.1 hf (by rw [List.length_append, List.length_append, List.length_replicate, List.length_singleton]; omega)) fun w2 ⟨v2, h2⟩ => ⟨rfl, v2, ?_⟩
    rw [show cl32 (k : Int) = k by unfold cl32; split <;> omega] at h2
    have := h1.trans h2
    rwa [List.append_assoc] at this
  · rw [if_neg hge]
    refine ⟨fun i w1 => ∃ (j : Nat) (v' : Value), i = j ∧ j ≤ 24 ∧ WbS w w1 ad v v' (bs ++ List.replicate j 1), fun i _ => 24 - i.toNat, ⟨0, v, rfl, by omega, by simpa using h.step⟩, ?_⟩
    rintro _ i w1 ⟨j, v', rfl, hj, hW⟩
    refine gIf_dec (fun hlt => gNil_some ?_) (fun hend => gNil_some ?_)
    · rw [i64_id (n := (j : Int) + 1) (by omega) (by omega), Addr.add_zero']
      refine gCall_u (Bit_any hW.1 (by simp; omega)) fun w2 ⟨v2, hW2⟩ => ⟨⟨j + 1, v2, by omega, by omega, ?_⟩, by dsimp only; omega⟩
      rw [List.replicate_succ', ← List.append_assoc]; exact hW.trans hW2
    · obtain rfl : j = 24 := by omega
      rw [Addr.add_zero']
      refine gCall_u (Bits_any hW.1 hf (by simp; omega)) fun w2 ⟨v2, h2⟩ => ⟨rfl, v2, ?_⟩
      have := hW.trans h2
      rwa [List.append_assoc] at this
def cl24 (k : Int) : Nat := (if 24 < k then 24 else k).toNat
theorem cl24_le (k : Int) : cl24 k ≤ 24 := by unfold cl24; split <;> omega
theorem cl24a (k : Int) : (if (if 24 < k then 24 else k) > 0 then (if 24 < k then 24 else k) else 0) = (cl24 k : Int) := by unfold cl24; split <;> split <;> omega
theorem cl24_id {k : Nat} (h : k ≤ 24) : cl24 k = k := by unfold cl24; split <;> omega
theorem costL_take {l : List Int} {j k : Nat} (hj : j < l.length) : costL k (l.take (j + 1)) = costL k (l.take j) + costN (rd l j) k := by
  rw [List.take_succ_eq_append_getElem hj, costL_app, rd_nat l j hj]
theorem Cost_any {l0 : Value} {l : List Int} {k : Int} {w : World} (h : Nm .i32 w l0 l) (hl : l.length ≤ 1000000000) :
    Calls P n_rice_Cost #[l0, .int .i64 k] w (fun e w' => e = .returned (.int .i64 (costL (cl24 k) l)) ∧ w' = w) := by
  have hk := cl24_le k
  refine of_rice_Cost (gLen_nm h ?_)
  rw [cl24a]
  refine ⟨fun n i w' => ∃ j : Nat, i = j ∧ j ≤ l.length ∧ n = costL (cl24 k) (l.take j) ∧ w' = w, fun _ i _ => l.length - i.toNat, ⟨0, rfl, by omega, rfl, rfl⟩, ?_⟩
  rintro _ _ i _ ⟨j, rfl, hj, rfl, rfl⟩
  refine gIf_dec (fun hlt => ?_) (fun hge => ⟨by rw [List.take_of_length_le (by omega)], rfl⟩)
  refine gIdx_nm h (by omega) hlt fun ad c _ => gLoad_i c ?_
  have hx := rd_i32 h.2 j
  have hf := foldI32 hx
  rw [i64_id (n := rd l j) (by omega) (by omega)]
  refine gCall_i0 (Fold_any (by omega)) (gBin_shr (by omega) ?_)
  rw [show u32 (foldI (rd l j)) = foldI (rd l j) by rw [u32_def]; omega]
  obtain ⟨e1, e2, e3⟩ := shr32 hf (k := cl24 k) (by omega)
  rw [e1]
  have hb := costL_bd hk (l.take j)
  rw [List.length_take, Nat.min_eq_left hj] at hb
  have hs := costL_take (l := l) (k := cl24 k) (j := j) (by omega)
  unfold costN at hs
  rw [i64_id (n := (j : Int) + 1) (by omega) (by omega)]
  refine gIf_dec (fun hq => ?_) (fun hq => ?_)
  · rw [if_pos hq] at hs
    rw [i64_id (n := foldI _ / _) (by omega) (by omega), i64_id (n := foldI _ / _ + 1) (by omega) (by omega), i64_id (n := foldI _ / _ + 1 + _) (by omega) (by omega), i64_id (by omega) (by omega)]
    exact ⟨⟨j + 1, by omega, by omega, hs.symm, rfl⟩, by dsimp only; omega⟩
  · rw [if_neg hq] at hs
    rw [i64_id (by omega) (by omega)]
    exact ⟨⟨j + 1, by omega, by omega, hs.symm, rfl⟩, by dsimp only; omega⟩
theorem Best_any {l0 : Value} {l : List Int} {w : World} (h : Nm .i32 w l0 l) (hl : l.length ≤ 1000000000) :
    Calls P n_rice_Best #[l0] w (fun e w' => e = .returned (.int .i64 (bestL l)) ∧ w' = w) := by
  refine of_rice_Best (gCall_i0 (Cost_any h hl) ⟨fun b c k w' => ∃ j : Nat, k = ((j + 1 : Nat) : Int) ∧ j ≤ 24 ∧ b = (bestU l j : Int) ∧ c = costL (bestU l j) l ∧ w' = w, fun _ _ k _ => 25 - k.toNat, ⟨0, rfl, by omega, rfl, rfl, rfl⟩, ?_⟩)
  rintro _ _ _ k _ ⟨j, rfl, hj, rfl, rfl, rfl⟩
  refine gIf_dec (fun hlt => gCall_i0 (Cost_any h hl) ?_) (fun hge => ⟨by rw [show j = 24 by omega]; rfl, rfl⟩)
  rw [cl24_id (k := j + 1) (by omega), i64_id (n := ((j + 1 : Nat) : Int) + 1) (by omega) (by omega)]
  refine gIf_dec (fun hc => ⟨⟨j + 1, rfl, by omega, ?_, ?_, rfl⟩, by dsimp only; omega⟩) (fun hc => ⟨⟨j + 1, rfl, by omega, ?_, ?_, rfl⟩, by dsimp only; omega⟩) <;> simp only [bestU, hc, if_true, if_false]
/-! ### Packing -/
def blkB (p : List Int) : List Int := bitsL (bestL p) 5 ++ numsTo p (bestL p) p.length
def flatB (l : List Int) (js : List Nat) : List Int := (js.map fun j => blkB (part64 l j)).flatten
theorem flatB_snoc (l : List Int) (js : List Nat) (j : Nat) : flatB l (js ++ [j]) = flatB l js ++ (bitsL (bestL (part64 l j)) 5 ++ numsTo (part64 l j) (bestL (part64 l j)) (part64 l j).length) := by
  unfold flatB; rw [List.map_append, List.flatten_append]; simp [blkB]
theorem numsTo_len (p : List Int) {k : Nat} (hk : k ≤ 24) : ∀ t, (numsTo p k t).length ≤ 56 * t
  | 0 => by simp [numsTo]
  | t + 1 => by
    have h1 := numsTo_len p hk t
    have h2 := numL_len (rd p t) k
    have h3 := costN_bd (rd p t) hk
    rw [numsTo, List.length_append]; omega
theorem part64_len (l : List Int) (j : Nat) : (part64 l j).length = min 64 (l.length - j * 64) := by unfold part64; rw [List.length_take, List.length_drop]
theorem flatB_len (l : List Int) : ∀ js : List Nat, (flatB l js).length ≤ 3600 * js.length
  | [] => by simp [flatB]
  | j :: js => by
    have h1 := flatB_len l js
    have h2 := numsTo_len (part64 l j) (bestL_le (part64 l j)) (part64 l j).length
    have h3 := part64_len l j
    have h4 : (flatB l (j :: js)).length = (blkB (part64 l j)).length + (flatB l js).length := by unfold flatB; simp
    rw [h4]; unfold blkB; rw [List.length_append, bitsL_len, List.length_cons]; omega
theorem flatB_range (l : List Int) : ∀ j, j ≤ chN 64 l.length → flatB l (List.range j) = packTo l (min (64 * j) l.length)
  | 0, _ => by simp [flatB, packTo]
  | j + 1, h => by
    have hlt : j * 64 < l.length := (chN_lt (by decide)).1 (by omega)
    have hp := part64_len l j
    rw [List.range_succ, flatB_snoc, flatB_range l j (by omega), Nat.min_eq_left (by omega)]
    have := packTo_in l j ((part64 l j).length - 1) (by omega)
    rw [show (part64 l j).length - 1 + 1 = (part64 l j).length by omega] at this
    rw [show min (64 * (j + 1)) l.length = 64 * j + (part64 l j).length by omega, this, List.append_assoc]
theorem flatB_all (l : List Int) : flatB l (List.range (chN 64 l.length)) = packTo l l.length := by
  rw [flatB_range l _ (Nat.le_refl _), Nat.min_eq_right]
  have : ¬ chN 64 l.length < chN 64 l.length := by omega
  rw [chN_lt (by decide)] at this; omega
noncomputable def packE (l : List Int) : List Int × Int := if l.length > 1048576 then ([], 5) else (pkB (packTo l l.length), 0)
theorem rPack_any {l0 : Value} {l : List Int} {w : World} (h : Nm .i32 w l0 l) : Calls P n_rice_Pack #[l0] w (TupE w (packE l)) := by
  refine of_rice_Pack (gLen_nm h (gIf_dec (fun hbig => ?_) (fun hle => ?_)))
  · unfold packE
    rw [if_pos (by omega)]
    exact ⟨_, rfl, Ch.refl _ w, ON.nil _ _ _ _⟩
  have hle : l.length ≤ 1048576 := by omega
  refine fBox (Fr.start w) fun pk w1 f1 => fAlloc (z := .pointer none) f1 (by kernel_rfl) fun p4 w2 f2 => fStore0 f2 0 rfl fun w3 f3 => ?_
  have f3 := f3.asB 1 (ad := pk) rfl
  refine Chunk_any f3 h.one (n := 64) (by decide) fun a b w4 f4 => ?_
  refine range_chunk f4 h (by omega) (by decide) (by decide) (fun pre G => ∃ v, G = [sIt p4 [.pointer (some pk)], bIt pk v (flatB l pre)]) ⟨_, rfl⟩ ?_ ?_
  · rintro pre j W _ ⟨v, rfl⟩ f hlen hN hO K hK
    have hcl := chL_len 64 l j
    have hlt := (chN_lt (len := l.length) (j := pre.length) (n := 64) (by decide)).1 hlen
    have hbl := bestL_le (part64 l j)
    refine gCall_i0 (Best_any hN (by omega)) (gLoad_p (f.cell0 2 rfl rfl) (gNil_some ?_))
    rw [Addr.add_zero', show u32 ((bestL (chL 64 l j) : Nat) : Int) = ((bestL (part64 l j) : Nat) : Int) by rw [u32_def]; show ((bestL (part64 l j) : Nat) : Int) % _ = _; omega]
    have hfl := flatB_len l pre
    refine gCall_u (Bits_any (f.get 3 rfl) (by omega) (by omega)) fun W1 ⟨v1, g1⟩ => gLen_nm hN ?_
    have f5 := f.bw 3 rfl g1
    rw [show cl32 5 = 5 by decide] at f5
    refine ⟨fun i W' => ∃ (t : Nat) (v' : Value), i = t ∧ t ≤ (part64 l j).length ∧ KeepsOthers W W' ∧ Fr w W' [sIt b [.int .i64 (64 : Nat)], sIt a [l0], sIt p4 [.pointer (some pk)], bIt pk v' (flatB l pre ++ bitsL (bestL (part64 l j)) 5 ++ numsTo (part64 l j) (bestL (part64 l j)) t)],
      fun i _ => (part64 l j).length - i.toNat, ⟨0, v1, rfl, by omega, g1.2.1.others, by simpa [numsTo] using f5⟩, ?_⟩
    rintro _ i W2 ⟨t, v2, rfl, ht, ho, f6⟩
    refine gIf_dec (fun hlt2 => ?_) (fun hge => ?_)
    · have hN2 : Nm .i32 W2 (chV 64 l0 l.length j) (part64 l j) := chV_nm (n := 64) (h.ev f6.old) j
      have hlt3 : ((t : Nat) : Int) < (part64 l j).length := hlt2
      have hpl := part64_len l j
      refine gIdx_nm hN2 (by omega) hlt2 fun ad c _ => gLoad_i c (gLoad_p (f6.cell0 2 rfl rfl) ?_)
      have hnl := numsTo_len (part64 l j) hbl t
      refine gCall_u (putR_any (f6.get 3 rfl) (rd_i32 hN2.2 t) hbl (by simp [bitsL_len]; omega)) fun W3 ⟨v3, g3⟩ => ?_
      rw [i64_id (n := (t : Int) + 1) (by omega) (by omega)]
      refine ⟨⟨t + 1, v3, rfl, by omega, ho.trans g3.2.1.others, ?_⟩, by dsimp only; omega⟩
      have f7 := f6.bw 3 rfl g3
      have e : flatB l pre ++ bitsL (bestL (part64 l j)) 5 ++ numsTo (part64 l j) (bestL (part64 l j)) (t + 1) = flatB l pre ++ bitsL (bestL (part64 l j)) 5 ++ numsTo (part64 l j) (bestL (part64 l j)) t ++ numL (rd (part64 l j) t) (bestL (part64 l j)) := by rw [numsTo, List.append_assoc (_ ++ _)]
      rw [e]
      exact f7
    · have ht2 : t = (part64 l j).length := by have : ¬ ((t : Int) < (part64 l j).length) := hge; omega
      subst ht2
      refine hK W2 _ ho ⟨v2, ?_⟩ f6
      rw [flatB_snoc, List.append_assoc]
  · rintro D W _ hD ⟨v, rfl⟩ f hDD
    rw [flatB_all] at f
    refine gLoad_p (f.cell0 2 rfl rfl) (gNil_some ?_)
    rw [Addr.add_zero']
    have hpl := packTo_len l l.length
    refine gCall_v (wBytes_any (f.get 3 rfl) (by omega)) fun y W1 ⟨h1, xs, hy, hp⟩ => ?_
    have hk1 : W1.heap[D]? = some (.deferred (some [])) := h1.oth D _ hDD rfl
    refine ⟨hk1, ?_⟩
    have f8 := ((f.newO h1 hy).putObj (D := D) (o' := .deferred none) (Nat.le_trans f4.old.size hD) hk1 rfl)
    unfold packE
    rw [if_neg (by omega), pkB_eq hy.2 hp]
    exact ⟨y, rfl, f8.old, f8.on 0 rfl⟩
end Go.Proofs.YtilpoinhfiajcaaGreatDoorV

/- Package rice: unpacking. -/
namespace Go.Proofs.YtilpoinhfiajcaaGreatDoorV
open Go Go.RowKit
section
variable {w0 w : World} {F : List It} {xs : List Int} {ad rad : Addr} {y : Value} {a : Nat} {er : Int}
theorem Fr.ps {w' : World} {a2 : Nat} {er2 : Int} (h : Fr w0 w F) (i : Nat) (hi : F[i]? = some (sIt ad [y, .int .i64 a, .int .i64 er])) (g : PS w w' ad y xs a2 er2) : Fr w0 w' (F.set i (sIt ad [y, .int .i64 a2, .int .i64 er2])) :=
  h.upd i hi g.2 (fun k _ hh => .inl hh.1) g.1.1 fun k hk => .inl hk
end
end Go.Proofs.YtilpoinhfiajcaaGreatDoorV

/- Package num: the reader. -/
namespace Go.Proofs.YtilpoinhfiajcaaGreatDoorV
open Go Go.RowKit

def Rd (w : World) (ad : Addr) (b : Value) (xs : List Int) (a : Nat) (er : Int) : Prop := St w ad [b, .int .i64 a, .int .i64 er] ∧ Nm .u8 w b xs ∧ b.ownBlock ≠ some ad.block ∧ a ≤ xs.length ∧ xs.length ≤ 10000000000
theorem Rd.ev {w w' : World} {ad : Addr} {b : Value} {xs : List Int} {a : Nat} {er : Int} (h : Rd w ad b xs a er) (he : Ev w w') : Rd w' ad b xs a er := ⟨h.1.ev he, h.2.1.ev he, h.2.2⟩
theorem Rd.ch {S : SS} {w w' : World} {ad : Addr} {b : Value} {xs : List Int} {a : Nat} {er : Int} (h : Rd w ad b xs a er) (hc : Ch S w w') (hs : ∀ k i, (k = ad.block ∨ b.ownBlock = some k) → ¬ S k i) : Rd w' ad b xs a er :=
  ⟨h.1.ch hc fun _ _ => hs _ _ (.inl rfl), h.2.1.ch hc fun g i hg => hs g i (.inr hg), h.2.2⟩
theorem Rd.drew {w : World} {ad : Addr} {b : Value} {xs : List Int} {a : Nat} {er : Int} (h : Rd w ad b xs a er) : Rd w.drew ad b xs a er := h
/-- A reader's step. -/
def RS (w w' : World) (ad : Addr) (b : Value) (xs : List Int) (a : Nat) (er : Int) : Prop := Rd w' ad b xs a er ∧ Ch (Rg ad 3) w w'
theorem RS.trans {w w1 w2 : World} {ad : Addr} {b : Value} {xs : List Int} {a a2 : Nat} {er er2 : Int} (h : RS w w1 ad b xs a er) (h2 : RS w1 w2 ad b xs a2 er2) : RS w w2 ad b xs a2 er2 :=
  ⟨h2.1, Ch.trans h.2 h2.2 fun _ _ _ h => h⟩
theorem RS.ev {w w1 w2 : World} {ad : Addr} {b : Value} {xs : List Int} {a : Nat} {er : Int} (h : RS w w1 ad b xs a er) (he : Ev w1 w2) : RS w w2 ad b xs a er :=
  ⟨h.1.ev he, Ch.trans h.2 he fun _ _ _ h => h.elim⟩
theorem Rd.step {w : World} {ad : Addr} {b : Value} {xs : List Int} {a : Nat} {er : Int} (h : Rd w ad b xs a er) : RS w w ad b xs a er := ⟨h, Ch.refl _ w⟩
/-- A store into its place or its fault. -/
theorem Rd.set {w w' : World} {ad : Addr} {b : Value} {xs : List Int} {a : Nat} {er : Int} (h : Rd w ad b xs a er) {j : Nat} {u : Value} {a2 : Nat} {er2 : Int} (hj : j < 3) (hc : Ch (Rg (ad.add j) 1) w w')
    (hS : St w' ad ([b, .int .i64 a, .int .i64 er].set j u)) (he : ([b, .int .i64 a, .int .i64 er] : List Value).set j u = [b, .int .i64 a2, .int .i64 er2]) (ha : a2 ≤ xs.length) : RS w w' ad b xs a2 er2 := by
  have hc3 : Ch (Rg ad 3) w w' := hc.mono fun n i _ hh => by
    have h1 := hh.1; have h2 := hh.2
    rw [Addr.add_none h.1.1] at h1 h2
    exact ⟨h1, by dsimp only at h2; omega, by dsimp only at h2; omega⟩
  exact ⟨⟨he ▸ hS, h.2.1.ch hc3 fun g i hg hh => h.2.2.1 (by rw [hg, hh.1]), h.2.2.1, ha, h.2.2.2.2⟩, hc3⟩
end Go.Proofs.YtilpoinhfiajcaaGreatDoorV

/- Package num: the reader, second part. -/
namespace Go.Proofs.YtilpoinhfiajcaaGreatDoorV
open Go Go.RowKit

theorem RS.pre {w w1 w2 : World} {ad : Addr} {b : Value} {xs : List Int} {a : Nat} {er : Int} (he : Ev w w1) (h : RS w1 w2 ad b xs a er) : RS w w2 ad b xs a er := ⟨h.1, Ch.trans (he.mono fun _ _ _ h => h.elim) h.2 fun _ _ _ h => h⟩
/-- The next bytes. -/
def rawR (xs : List Int) (a : Nat) (er n : Int) : List Int × Nat × Int :=
  if er ≠ 0 ∨ n ≤ 0 then ([], a, er) else if n > (xs.length : Int) - a then ([], a, 3) else ((xs.drop a).take n.toNat, a + n.toNat, 0)
def RawE (w : World) (ad : Addr) (b : Value) (xs : List Int) (r : List Int × Nat × Int) (e : Ending) (w' : World) : Prop := ∃ y, e = .returned y ∧ RS w w' ad b xs r.2.1 r.2.2 ∧ ON .u8 eB w' w.heap.size y r.1
theorem rRaw_any {ad : Addr} {b : Value} {xs : List Int} {a : Nat} {er n : Int} {w : World} (h : Rd w ad b xs a er) (hn : n ≤ 9223372036854775807) : Calls P n_num_Reader_Raw #[.pointer (some ad), .int .i64 n] w (RawE w ad b xs (rawR xs a er n)) := by
  have hal := h.2.2.2.1
  have hxl := h.2.2.2.2
  refine of_num_Reader_Raw ⟨fun w' => er = 0 ∧ 0 < n ∧ w' = w, gEq_pnil (gIf_nf (gNil_some (gLoad_i (h.1.cell (j := 2) rfl) (gIf_nneq (fun he => gIf_dec (fun hle => ?_) (fun hgt => ⟨he, by omega, rfl⟩)) (fun hne => ?_))))), ?_⟩
  · unfold rawR; rw [if_pos (.inr hle)]; exact ⟨_, rfl, h.step, ON.nil _ _ _ _⟩
  · unfold rawR; rw [if_pos (.inl hne)]; exact ⟨_, rfl, h.step, ON.nil _ _ _ _⟩
  rintro _ _ ⟨rfl, hn0, rfl⟩
  rename_i w
  unfold rawR
  rw [if_neg (by omega)]
  refine gNil_some (gLoadB_v (at1 (h.1.cell (j := 0) rfl)) (gLen_nm h.2.1 (gNil_some (gLoadB_i (at1 (h.1.cell (j := 1) rfl)) ?_))))
  rw [i64_id (n := (xs.length : Int) - a) (by omega) (by omega)]
  refine gIf_dec (fun hg => ?_) (fun hle => ?_)
  · rw [if_pos hg]
    refine gNil_some (gStore_st h.drew.1 (j := 2) (by simp) rfl rfl fun w2 h2 _ hS2 => ⟨_, rfl, ?_, ON.nil _ _ _ _⟩)
    exact RS.pre (Ev.drew0 w) (h.drew.set (j := 2) (a2 := a) (er2 := 3) (by decide) h2 hS2 rfl hal)
  · rw [if_neg hle]
    obtain ⟨m, rfl⟩ : ∃ m : Nat, n = m := ⟨n.toNat, by omega⟩
    rw [Int.toNat_natCast]
    refine gNil_some (gLoad_i (h.drew.1.cell (j := 1) rfl) (gNil_some (gStore_st h.drew.1 (j := 1) (by simp) rfl rfl fun w2 h2 hs2 hS2 => ?_)))
    have hRS : RS w w2 ad b xs (a + m) 0 := RS.pre (Ev.drew0 w) <| h.drew.set (j := 1) (a2 := a + m) (er2 := 0) (by decide) h2 hS2 (by rw [i64_id (by omega) (by omega)]; rfl) (by omega)
    have hR := hRS.1.drew
    refine ⟨fun w' => Rd w' ad b xs (a + m) 0, hR, gNil_some (gLoadB_v (fun w' h => h.1.cell (j := 0) rfl) (gNil_some (gLoadB_i (fun w' h => h.1.cell (j := 1) rfl) (gNil_some (gLoadB_i (fun w' h => h.1.cell (j := 1) rfl) ?_)))))⟩
    rw [show i64 (((a + m : Nat) : Int) - (m : Int)) = (a : Int) by rw [i64_id (by omega) (by omega)]; omega]
    refine gSlice_nm hR.2.1 a (a + m) (.inr ⟨_, rfl⟩) (.inr ⟨_, rfl⟩) (by omega) (by omega) fun hs => ?_
    rw [Nat.add_sub_cancel_left] at hs
    refine gApp_on (ON.nil .u8 eB w2.drew w.heap.size) hs (by rw [List.length_take, List.length_drop]; simp; omega) (Nat.le_of_eq hs2.symm) fun y w3 hy hc hm => ?_
    have h3 : Ev w2.drew w3 := hc.mono fun _ _ _ hh => by cases hh
    exact ⟨hR.ev h3, y, rfl, RS.ev hRS ((Ev.drew0 w2).trans h3), by simpa using hy⟩
end Go.Proofs.YtilpoinhfiajcaaGreatDoorV

/- Package num: the reader, third part; nil readers; laws NumNil. -/
namespace Go.Proofs.YtilpoinhfiajcaaGreatDoorV
open Go Go.RowKit

theorem rLeft_any {ad : Addr} {b : Value} {xs : List Int} {a : Nat} {er : Int} {w : World} (h : Rd w ad b xs a er) : Calls P n_num_Reader_Left #[.pointer (some ad)] w (fun e w' => e = .returned (.int .i64 ((xs.length : Int) - a)) ∧ Ev w w') := by
  have hal := h.2.2.2.1
  have hxl := h.2.2.2.2
  refine of_num_Reader_Left (gEq_pnil (gIf_f (gNil_some (gLoadB_v (at1 (h.1.cell (j := 0) rfl)) (gLen_nm h.2.1 (gNil_some (gLoadB_i (at1 (h.1.cell (j := 1) rfl)) ⟨?_, Ev.drew0 w⟩)))))))
  rw [i64_id (by omega) (by omega)]
def leN : List Int → Int
  | [] => 0
  | c :: r => c + 256 * leN r
theorem rawR_len {xs : List Int} {a : Nat} {er n : Int} {m : Nat} (hm : n ≤ m) : (rawR xs a er n).1.length ≤ m := by
  unfold rawR; split
  · simp
  · split
    · simp
    · rw [List.length_take]; omega
theorem leN_take {ys : List Int} : ∀ {j : Nat}, j < ys.length → leN (ys.take (j + 1)) = leN (ys.take j) + rd ys j * ((2 ^ (8 * j) : Nat) : Int) := by
  induction ys with
  | nil => intro j h; simp at h
  | cons c r ih =>
    intro j h
    cases j with
    | zero => simp [leN, rd]
    | succ j =>
      have hr : rd (c :: r) ((j + 1 : Nat) : Int) = rd r j := by simp [rd]
      rw [List.take_succ_cons, List.take_succ_cons, leN, leN, ih (by simpa using h), hr, show 8 * (j + 1) = 8 * j + 8 by omega, Nat.pow_add]
      have e : ((2 ^ (8 * j) * 2 ^ 8 : Nat) : Int) = ((2 ^ (8 * j) : Nat) : Int) * 256 := by rw [Int.natCast_mul]; rfl
      rw [e, Int.mul_add]; ac_rfl
theorem leN_bd {ys : List Int} (h : inR .u8 ys) : 0 ≤ leN ys ∧ leN ys < ((2 ^ (8 * ys.length) : Nat) : Int) := by
  induction ys with
  | nil => simp [leN]
  | cons c r ih =>
    have h1 := ih fun x hx => h x (by simp [hx])
    have h2 := h.u8 (x := c) (by simp)
    rw [leN, List.length_cons, show 8 * (r.length + 1) = 8 * r.length + 8 by omega, Nat.pow_add]
    have e : ((2 ^ (8 * r.length) * 2 ^ 8 : Nat) : Int) = ((2 ^ (8 * r.length) : Nat) : Int) * 256 := by rw [Int.natCast_mul]; rfl
    rw [e]; omega
def U64E (w : World) (ad : Addr) (b : Value) (xs : List Int) (v : Int) (r : List Int × Nat × Int) (e : Ending) (w' : World) : Prop := e = .returned (.int .u64 v) ∧ RS w w' ad b xs r.2.1 r.2.2
theorem rLittle_any {ad : Addr} {b : Value} {xs : List Int} {a : Nat} {er n : Int} {w : World} (h : Rd w ad b xs a er) : Calls P n_num_Reader_Little #[.pointer (some ad), .int .i64 n] w (U64E w ad b xs (leN (rawR xs a er (if 8 < n then 8 else n)).1) (rawR xs a er (if 8 < n then 8 else n))) := by
  have hn8 : (if 8 < n then 8 else n) ≤ 8 := by split <;> omega
  refine of_num_Reader_Little ?_
  generalize (if 8 < n then 8 else n) = m at *
  refine gCall_of (rRaw_any h (by omega)) ?_
  have hlen := rawR_len (xs := xs) (a := a) (er := er) (n := m) (m := 8) (by omega)
  rintro _ w1 ⟨y, rfl, h1, hy⟩
  generalize rawR xs a er m = r at *
  refine ⟨y, rfl, gLen_nm hy.nm ⟨fun v i w' => ∃ j : Nat, i = j ∧ j ≤ r.1.length ∧ v = leN (r.1.take j) ∧ w' = w1, fun _ i _ => r.1.length - i.toNat, ⟨0, rfl, by omega, by simp [leN], rfl⟩, ?_⟩⟩
  rintro _ v i _ ⟨j, rfl, hj, rfl, rfl⟩
  refine gIf_dec (fun hlt => gIdx_nm hy.nm (by omega) hlt fun a1 c1 _ => gLoad_i c1 (gBin_shl (by rw [i64_id (by omega) (by omega)]; omega) ?_)) (fun hge => ?_)
  · have hc := rd_u8 hy.2 j
    have hb := leN_bd (hy.2.take j)
    have hb2 := leN_bd (hy.2.take (j + 1))
    rw [leN_take (by omega)] at hb2
    rw [show u64 (rd r.1 j) = rd r.1 j by rw [u64_def]; omega, show i64 (8 * (j : Int)) = ((8 * j : Nat) : Int) by rw [i64_id (by omega) (by omega)]; omega, i64_id (n := (j : Int) + 1) (by omega) (by omega)]
    rw [List.length_take, Nat.min_eq_left (by omega)] at hb hb2
    have h64 : ((2 ^ (8 * (j + 1)) : Nat) : Int) ≤ ((18446744073709551616 : Nat) : Int) := Int.ofNat_le.2 (Nat.le_trans (Nat.pow_le_pow_right (by decide) (show 8 * (j + 1) ≤ 64 by omega)) (by decide))
    rw [iShl_u (k := .u64) rfl (by have : IntKind.u64.bits = 64 := rfl; omega) (by omega), bits64, Int.emod_eq_of_lt (Int.mul_nonneg (by omega) (Int.natCast_nonneg _)) (by show _ < (18446744073709551616 : Int); omega), iOr_add rfl hb.1 hb.2 hc.1 (by rw [bits64]; show _ < (18446744073709551616 : Int); omega)]
    exact ⟨⟨j + 1, by omega, by omega, by rw [leN_take (by omega)], rfl⟩, by dsimp only; omega⟩
  · rw [List.take_of_length_le (by omega)]; exact ⟨rfl, h1⟩
/-! ### A nil reader -/
end Go.Proofs.YtilpoinhfiajcaaGreatDoorV

/- Package valiseref02: Little, New, Raw, Little of a reader. -/
namespace Go.Proofs.YtilpoinhfiajcaaGreatDoorV
open Go Go.RowKit
section
variable {w0 w : World} {F : List It} {xs : List Int} {ad : Addr} {y : Value} {a : Nat} {er : Int}
/-- A reader that is new: its struct, and its bytes. -/
theorem Fr.rd (h : Fr w0 w F) (i j : Nat) (hi : F[i]? = some (sIt ad [y, .int .i64 a, .int .i64 er])) (hj : F[j]? = some (oIt .u8 eB y xs)) (hn : i ≠ j) (ha : a ≤ xs.length) (hl : xs.length ≤ 10000000000) : Rd w ad y xs a er :=
  ⟨h.get i hi, h.nm j hj, fun hg => h.apart hi hj hn ad.block rfl hg, ha, hl⟩
theorem Fr.rs {w' : World} {a2 : Nat} {er2 : Int} (h : Fr w0 w F) (i : Nat) (hi : F[i]? = some (sIt ad [y, .int .i64 a, .int .i64 er])) (g : RS w w' ad y xs a2 er2) : Fr w0 w' (F.set i (sIt ad [y, .int .i64 a2, .int .i64 er2])) :=
  h.upd i hi g.2 (fun k _ hh => .inl hh.1) g.1.1 fun k hk => .inl hk
/-- What New hands back. -/
def NewR (w : World) (xs : List Int) (e : Ending) (w' : World) : Prop := ∃ ad y, e = .returned (.pointer (some ad)) ∧ ∀ {w0 F}, Fr w0 w F → Fr w0 w' (sIt ad [y, .int .i64 0, .int .i64 0] :: oIt .u8 eB y xs :: F)
theorem nNew_any {b : Value} {w : World} (hb : Nm .u8 w b xs) (hl : xs.length ≤ 10000000000) : Calls P n_num_New #[b] w (NewR w xs) := by
  refine of_num_New (gApp_on (ON.nil .u8 eB w w.heap.size) hb (by simp; omega) (Nat.le_refl _) fun y w1 hy hc hm => ⟨hy.one, gBox_of fun ad w2 h2 had hs hS => ?_⟩)
  have h1 : Ev w w1 := hc.mono fun _ _ _ hh => by cases hh
  exact ⟨ad, y, rfl, fun f => (f.newO h1 (by simpa using hy)).new h2 hS fun k hk => by have hk : k = ad.block := hk; subst had; dsimp only at hk; omega⟩
theorem fNew {b : Value} {K : Option Addr → World → Prop} (h : Fr w0 w F) (hb : Nm .u8 w b xs) (hl : xs.length ≤ 10000000000) (hk : ∀ ad y w', Fr w0 w' (sIt ad [y, .int .i64 0, .int .i64 0] :: oIt .u8 eB y xs :: F) → K (some ad) w') : gCall P n_num_New shP #[b] w K :=
  gCall_of (nNew_any hb hl) fun _ w' ⟨ad, y, h1, h2⟩ => ⟨some ad, h1, hk ad y w' (h2 h)⟩
end
end Go.Proofs.YtilpoinhfiajcaaGreatDoorV

/- Writers and readers of numbers, in a frame. -/
namespace Go.Proofs.YtilpoinhfiajcaaGreatDoorV
open Go Go.RowKit
section
variable {w0 w w' : World} {F : List It}
theorem Fr.oth {it : It} {S : SS} (h : Fr w0 w F) (i : Nat) (hi : F[i]? = some it) (hc : Ch S w w') (hS : ∀ k q, S k q → it.ft k) : Fr w0 w' (F.eraseIdx i) := by
  refine (h.drop i).ch hc (fun k q hs => (h.ft i hi (hS k q hs)).1) fun jt hj k q hk hs => ?_
  obtain ⟨j, hj2⟩ := List.mem_iff_getElem?.1 hj
  rw [List.getElem?_eraseIdx] at hj2
  split at hj2
  · rename_i hlt
    exact h.apart hi hj2 (by omega) k (hS k q hs) hk
  · rename_i hge
    exact h.apart hi hj2 (by omega) k (hS k q hs) hk
theorem Fr.cons {jt : It} {n : Nat} (h : Fr w0 w F) (hn : w0.heap.size ≤ n) (hF : ∀ it ∈ F, ∀ k, it.ft k → k < n) (ok : jt.ok w) (hf : ∀ k, jt.ft k → n ≤ k) : Fr w0 w (jt :: F) :=
  ⟨ok, fun k hk => Nat.le_trans hn (hf k hk), fun it hi k hk hik => by have := hf k hk; have := hF it hi k hik; omega, h⟩
/-! ### Writers -/
theorem fNewW {K : Addr → World → Prop} (f : Fr w0 w F) (hk : ∀ ad v w', Fr w0 w' (wIt eB ad v [] :: F) → K ad w') : gAlloc P t_num_Writer w K :=
  fAlloc (z := .agg #[.slice none 0 0]) f (by kernel_rfl) fun ad w' f' => hk ad (.slice none 0 0) w' (f'.asW (e := eB) 0 rfl)
theorem fNum {ad : Addr} {v : Value} {xs : List Int} {n : Int} {K : World → Prop} (f : Fr w0 w F) (i : Nat) (hi : F[i]? = some (wIt eB ad v xs)) (hn : 0 ≤ n ∧ n < 18446744073709551616) (hl : xs.length + 10 ≤ 10000000000)
    (hk : ∀ v' w', Fr w0 w' (F.set i (wIt eB ad v' (xs ++ numB n.toNat))) → K w') : gCall P n_num_Writer_Num shU #[.pointer (some ad), .int .u64 n] w K :=
  gCall_u (Num_any (f.get i hi) hn hl) fun w' ⟨v', hw⟩ => hk v' w' (f.wr i hi hw)
theorem fRawW {ad : Addr} {v p : Value} {xs : List Int} {yss : List (List Int)} {K : World → Prop} (f : Fr w0 w F) (i : Nat) (hi : F[i]? = some (wIt eB ad v xs)) (hp : ∀ w', Fr w0 w' (F.eraseIdx i) → NL .u8 w' p yss) (hl : xs.length + yss.flatten.length ≤ 10000000000) (hn : yss.length ≤ 10000000000)
    (hk : ∀ v' w', Fr w0 w' (F.set i (wIt eB ad v' (xs ++ yss.flatten))) → K w') : gCall P n_num_Writer_Raw shU #[.pointer (some ad), p] w K :=
  gCall_u (Raw_any (f.get i hi) (fun w' hc => hp w' (f.oth i hi hc fun k q h => h)) hl hn) fun w' ⟨v', hw⟩ => hk v' w' (f.wr i hi hw)
theorem fBytesW {ad : Addr} {v : Value} {xs : List Int} {K : Value → World → Prop} (f : Fr w0 w F) (i : Nat) (hi : F[i]? = some (wIt eB ad v xs)) (hl : xs.length ≤ 10000000000) (hk : ∀ y w', Fr w0 w' (oIt .u8 eB y xs :: F) → K y w') : gCall P n_num_Writer_Bytes shV #[.pointer (some ad)] w K :=
  gCall_v (Q := fun y w' => Ev w w' ∧ ON .u8 eB w' w.heap.size y xs) (Bytes_W (f.get i hi) hl) fun y w' ⟨h1, h2⟩ => hk y w' (f.newO h1 h2)
/-! ### Readers -/
theorem fNewR {b : Value} {xs : List Int} {K : Option Addr → World → Prop} (f : Fr w0 w F) (hb : Nm .u8 w b xs) (hl : xs.length ≤ 10000000000) (hk : ∀ ad y w', Fr w0 w' (sIt ad [y, .int .i64 ((0 : Nat) : Int), .int .i64 0] :: oIt .u8 eB y xs :: F) → K (some ad) w') : gCall P n_num_New shP #[b] w K :=
  gCall_of (nNew_any hb hl) fun _ w' ⟨ad, y, h1, h2⟩ => ⟨some ad, h1, hk ad y w' (h2 f)⟩
theorem fRawR {ad : Addr} {y : Value} {xs : List Int} {a : Nat} {er n : Int} {K : Value → World → Prop} (f : Fr w0 w (sIt ad [y, .int .i64 a, .int .i64 er] :: oIt .u8 eB y xs :: F)) (ha : a ≤ xs.length) (hl : xs.length ≤ 10000000000) (hn : n ≤ 9223372036854775807)
    (hk : ∀ z w', Fr w0 w' (sIt ad [y, .int .i64 (rawR xs a er n).2.1, .int .i64 (rawR xs a er n).2.2] :: oIt .u8 eB y xs :: oIt .u8 eB z (rawR xs a er n).1 :: F) → K z w') : gCall P n_num_Reader_Raw shV #[.pointer (some ad), .int .i64 n] w K := by
  refine gCall_of (rRaw_any (f.rd 0 1 rfl rfl (by decide) ha hl) hn) ?_
  rintro _ w' ⟨z, rfl, h1, h2⟩
  refine ⟨z, rfl, hk z w' ?_⟩
  have f' : Fr w0 w' (sIt ad [y, .int .i64 (rawR xs a er n).2.1, .int .i64 (rawR xs a er n).2.2] :: oIt .u8 eB y xs :: F) := f.rs 0 rfl h1
  have hz : ∀ k, z.ownBlock = some k → w.heap.size ≤ k := fun k hk => (h2.base hk).1
  have hlt : ∀ it ∈ (sIt ad [y, .int .i64 (rawR xs a er n).2.1, .int .i64 (rawR xs a er n).2.2] :: oIt .u8 eB y xs :: F), ∀ k, it.ft k → k < w.heap.size := fun it hi k hk => by
    rcases List.mem_cons.1 hi with rfl | hi
    · exact It.lt (sIt ad [y, .int .i64 a, .int .i64 er]) w k (f.get 0 rfl) hk
    · exact It.lt it w k (f.mem (List.mem_cons_of_mem _ hi)).1 hk
  have f2 := f'.cons (jt := oIt .u8 eB z (rawR xs a er n).1) f.old.size hlt (h2.low (Nat.zero_le _)) hz
  exact f2.picksN 3 [1, 2, 0] (by decide) (by decide)
/-- Slices of which each reads so, in a slice. -/
theorem fTextW {ad : Addr} {v b : Value} {xs ys : List Int} {K : World → Prop} (f : Fr w0 w F) (i : Nat) (hi : F[i]? = some (wIt eB ad v xs)) (hb : ∀ w', Fr w0 w' (F.eraseIdx i) → Nm .u8 w' b ys) (hl : xs.length + ys.length + 10 ≤ 10000000000)
    (hk : ∀ v' w', Fr w0 w' (F.set i (wIt eB ad v' (xs ++ numB ys.length ++ ys))) → K w') : gCall P n_num_Writer_Text shU #[.pointer (some ad), b] w K :=
  gCall_u (Text_any (f.get i hi) (fun w' hc => hb w' (f.oth i hi hc fun k q h => h)) hl) fun w' ⟨v', hw⟩ => hk v' w' (f.wr i hi hw)
theorem NL.of {k : IntKind} {p : Value} {us : List Value} {yss : List (List Int)} (hp : Sl w 1 p us.length us) (hl : us.length = yss.length) (h : ∀ (i : Nat) (u : Value) (ys : List Int), us[i]? = some u → yss[i]? = some ys → Nm k w u ys) : NL k w p yss := ⟨us, by rw [← hl]; exact hp, h⟩
end
end Go.Proofs.YtilpoinhfiajcaaGreatDoorV

/- Package audio: a track, packed. -/
namespace Go.Proofs.YtilpoinhfiajcaaGreatDoorV
open Go Go.RowKit
/-- A track, packed by a predictor. -/
noncomputable def pkK (l : List Int) (k : Int) : List Int := (packE (resG (kindG k) l)).1
noncomputable def pkT (l : List Int) : Int × List Int := if (pkK l 4).length < (pkK l (bestO l : Nat)).length then (4, pkK l 4) else ((bestO l : Nat), pkK l (bestO l : Nat))
section
variable {w0 w : World} {F : List It} {l0 : Value} {l : List Int}
theorem fTry {k : Int} {K : Addr → Value → World → Prop} (f : Fr w0 w F) (h : Nm .i32 w0 l0 l) (hl : l.length ≤ 1000000000) (hk : ∀ p6 v w', Fr w0 w' (oIt .u8 eB v (pkK l k) :: sIt p6 [.int .i64 k, v] :: F) → K p6 v w') :
    gAlloc P t_audio_packer w fun p6 ww6 => gStore P t_audio_packer (.pointer (some p6)) (.agg #[.int .i64 k, .slice none 0 0]) ww6 fun ww7 => gLoad P t_audio_predictor (.part (.agg [.int .i64])) (.pointer (some (Addr.add p6 0))) ww7 fun (t20_1 : Int) => gCall P n_audio_predictor_residual shV #[.agg #[.int .i64 t20_1], l0] ww7 fun t22 ww8 => gCall P n_rice_Pack (.tup [.one .val, .one (.int .i64)]) #[t22] ww8 fun (t23_1 : Value) (_ : Int) ww9 => gStore P t_sl_uint8 (.pointer (some (Addr.add p6 1))) t23_1 ww9 fun ww10 => K p6 t23_1 ww10 := by
  refine fAlloc (z := .agg #[.int .i64 0, .slice none 0 0]) f (by kernel_rfl) fun p6 w1 f1 => fStoreA f1 0 rfl (fun w2 f2 => ?_) rfl
  have f2 : Fr w0 w2 (sIt p6 [.int .i64 k, .slice none 0 0] :: F) := f2
  refine gLoad_agg [.int .i64 k] (fun j u hj => ?_) ?_ rfl (by kernel_rfl)
  · rcases j with _ | j
    · simp at hj; subst hj; rw [Addr.add_zero']; exact f2.cell 0 0 rfl rfl
    · simp at hj
  show gCall _ _ _ _ _ _
  refine gCall_of (pRes_any (k := k) (h.ev f2.old) hl) ?_
  rintro _ w3 ⟨t22, rfl, h3, o3⟩
  refine ⟨t22, rfl, gCall_of (rPack_any o3.nm) ?_⟩
  rintro _ w4 ⟨v, rfl, h4, o4⟩
  have f4 := (f2.ev h3).newO h4 o4
  refine ⟨v, _, rfl, fStore f4 1 1 rfl (fun w5 f5 => hk p6 v w5 f5) (by exact Nat.le_of_ble_eq_true rfl) (by obtain ⟨a, c, rfl, _⟩ := o4.nm.shape; rfl) (by obtain ⟨a, c, rfl, _⟩ := o4.nm.shape; rfl)⟩
theorem numL_pos (v : Int) (k : Nat) : 1 ≤ (numL v k).length := by
  unfold numL; split
  · simp only [List.length_append, List.length_cons]; omega
  · simp only [List.length_append, List.length_replicate]; omega
theorem packTo_pos (l : List Int) : ∀ m, 0 < m → 1 ≤ (packTo l m).length
  | 0, h => by omega
  | m + 1, _ => by
    rw [packTo, List.length_append]
    unfold piece
    have := numL_pos (rd l (m : Int)) (kOf l m)
    rw [List.length_append]; omega
theorem pkK_len (hl : l.length ≤ 1048576) (k : Int) : (l ≠ [] → 1 ≤ (pkK l k).length) ∧ (pkK l k).length ≤ 8 * l.length + 10000 := by
  have hr := resG_len (kindG k) l
  unfold pkK packE
  rw [if_neg (by omega)]
  dsimp only
  have hp := (pkB_ok (B01.pack (resG (kindG k) l) (resG (kindG k) l).length)).2.1
  have h1 := packTo_len (resG (kindG k) l) (resG (kindG k) l).length
  refine ⟨fun hne => ?_, by omega⟩
  have h0 : 0 < l.length := List.length_pos_iff.2 hne
  have := packTo_pos (resG (kindG k) l) (resG (kindG k) l).length (by omega)
  omega
theorem pkT_len (hl : l.length ≤ 1048576) : (pkT l).2.length ≤ 8 * l.length + 10000 := by
  unfold pkT; split <;> exact (pkK_len hl _).2
theorem pkT_kind : 0 ≤ (pkT l).1 ∧ (pkT l).1 ≤ 4 ∧ (pkT l).2 = pkK l (pkT l).1 := by
  have h3 : bestO l ≤ 3 := bfN_le l 3
  unfold pkT; split
  · exact ⟨by dsimp only; omega, by dsimp only; omega, rfl⟩
  · exact ⟨by dsimp only; omega, by dsimp only; omega, rfl⟩
def PackedE (w : World) (r : Int × List Int) (e : Ending) (w' : World) : Prop := ∃ v, e = .returned (.agg #[.int .i64 r.1, v]) ∧ Ev w w' ∧ ON .u8 eB w' w.heap.size v r.2
theorem ne_nil_some {k : IntKind} {v : Value} {xs : List Int} (h : Nm k w v xs) (hx : 1 ≤ xs.length) : ∃ a c, v = .slice (some a) xs.length c := by
  obtain ⟨⟨a, c, rfl, _, _, _, hn⟩, _⟩ := h
  cases a with
  | none => have := hn rfl; omega
  | some a => exact ⟨a, c, rfl⟩
theorem packed_any (h : Nm .i32 w l0 l) (hne : l ≠ []) (hl : l.length ≤ 1048576) : Calls P n_audio_packed #[l0] w (PackedE w (pkT l)) := by
  refine of_audio_packed (fAlloc (z := .agg #[.int .i64 0, .slice none 0 0]) (Fr.start w) (by kernel_rfl) fun t2 w1 f1 => fAlloc (z := .agg #[.int .i64 0, .slice none 0 0]) f1 (by kernel_rfl) fun best3 w2 f2 => gCall_i (fBest_any (h.ev f2.old) (by omega)) fun w3 h3 => ?_)
  have hb3 : bestO l ≤ 3 := bfN_le l 3
  have hin : inR .i64 [(bestO l : Int), 4] := fun x hx => by
    have h1 : IntKind.i64.min = -9223372036854775808 := by decide
    have h2 : IntKind.i64.max = 9223372036854775807 := by decide
    rw [h1, h2]
    simp only [List.mem_cons, List.not_mem_nil, or_false] at hx
    rcases hx with rfl | rfl <;> omega
  refine fLit_n [(bestO l : Int), 4] (f2.ev h3) rfl rfl hin fun t9 w4 f4 => gLen_nm (f4.nm 0 rfl) ?_
  have f4 : Fr w w4 [oIt .i64 (elOf P t_sl_int) t9 [(bestO l : Int), 4], sIt best3 [.int .i64 0, .slice none 0 0], sIt t2 [.int .i64 0, .slice none 0 0]] := f4
  obtain ⟨k1, hk1⟩ : ∃ k1 : Int, k1 = (bestO l : Nat) := ⟨_, rfl⟩
  rw [← hk1] at f4
  refine ⟨fun i w' => (i = 0 ∧ Fr w w' [oIt .i64 (elOf P t_sl_int) t9 [k1, 4], sIt best3 [.int .i64 0, .slice none 0 0], sIt t2 [.int .i64 0, .slice none 0 0]]) ∨ (∃ (r : Int × List Int) (v : Value), ((i = 1 ∧ r = (k1, pkK l k1)) ∨ (i = 2 ∧ r = pkT l)) ∧ Fr w w' [oIt .i64 (elOf P t_sl_int) t9 [k1, 4], sIt best3 [.int .i64 r.1, v], sIt t2 [.int .i64 0, .slice none 0 0], oIt .u8 eB v r.2]), fun i _ => (2 - i).toNat, .inl ⟨rfl, f4⟩, ?_⟩
  have one : ∀ (v : Value) (xs : List Int) (w' : World), Nm .u8 w' v xs → v.oneCell' = true := fun v xs w' hn => by obtain ⟨a, c, rfl, _⟩ := hn.shape; rfl
  rintro _ i w5 (⟨rfl, f5⟩ | ⟨r, v, hir, f5⟩)
  · refine gIf_t (gGet (f5.nm 0 rfl) (by decide) (by simp) ?_)
    rw [show rd [k1, 4] 0 = k1 from rfl]
    refine fTry (k := k1) f5 h (by omega) fun p6 v w6 f6 => fLoad_v f6 3 1 rfl rfl (gEq_snil (gIf_nt (fLoadA f6 1 rfl ?_ rfl (by kernel_rfl))))
    show gStore _ _ _ _ _ _
    refine fStoreA f6 3 rfl (fun w7 f7 => ⟨.inr ⟨(k1, pkK l k1), v, .inl ⟨by decide, rfl⟩, ?_⟩, by dsimp only; decide⟩) rfl (fun u hu => ?_)
    · have f7 : Fr w w7 [oIt .u8 eB v (pkK l k1), sIt p6 [.int .i64 k1, v], oIt .i64 (elOf P t_sl_int) t9 [k1, 4], sIt best3 [.int .i64 k1, v], sIt t2 [.int .i64 0, .slice none 0 0]] := f7
      exact f7.picks [2, 3, 4, 0] (by decide)
    · simp at hu
      rcases hu with rfl | rfl
      · rfl
      · exact one _ _ _ (f6.nm 0 rfl)
  · rcases hir with ⟨rfl, rfl⟩ | ⟨rfl, rfl⟩
    · refine gIf_t (gGet (f5.nm 0 rfl) (by decide) (by simp) ?_)
      rw [show rd [k1, 4] 1 = 4 from rfl]
      have f5 : Fr w w5 [oIt .i64 (elOf P t_sl_int) t9 [k1, 4], sIt best3 [.int .i64 k1, v], sIt t2 [.int .i64 0, .slice none 0 0], oIt .u8 eB v (pkK l k1)] := f5
      refine fTry (k := 4) f5 h (by omega) fun p6 v2 w6 f6 => fLoad_v f6 3 1 rfl rfl ?_
      obtain ⟨a, c, hv⟩ := ne_nil_some (f6.nm 5 rfl) ((pkK_len hl k1).1 hne)
      have hgo : ∀ K : Bool → Prop, K false → gEq P .eql t_sl_uint8 v (.slice none 0 0) K := fun K hK => by rw [hv]; exact gEq_snil hK
      refine hgo _ (gIf_nf (fLoad_v f6 1 1 rfl rfl (gLen_nm (f6.nm 0 rfl) (fLoad_v f6 3 1 rfl rfl (gLen_nm (f6.nm 5 rfl) (gIf_dec (fun hlt => fLoadA f6 1 rfl ?_ rfl (by kernel_rfl)) (fun hge => ?_)))))))
      · show gStore _ _ _ _ _ _
        refine fStoreA f6 3 rfl (fun w7 f7 => ⟨.inr ⟨pkT l, v2, .inr ⟨by decide, rfl⟩, ?_⟩, by dsimp only; decide⟩) rfl (fun u hu => ?_)
        · have f7 : Fr w w7 [oIt .u8 eB v2 (pkK l 4), sIt p6 [.int .i64 4, v2], oIt .i64 (elOf P t_sl_int) t9 [k1, 4], sIt best3 [.int .i64 4, v2], sIt t2 [.int .i64 0, .slice none 0 0], oIt .u8 eB v (pkK l k1)] := f7
          have e : pkT l = (4, pkK l 4) := by unfold pkT; rw [if_pos (by rw [← hk1]; omega)]
          rw [e]
          exact f7.picks [2, 3, 4, 0] (by decide)
        · simp at hu
          rcases hu with rfl | rfl
          · rfl
          · exact one _ _ _ (f6.nm 0 rfl)
      · refine ⟨.inr ⟨pkT l, v, .inr ⟨by decide, rfl⟩, ?_⟩, by dsimp only; decide⟩
        have e : pkT l = (k1, pkK l k1) := by unfold pkT; rw [if_neg (by rw [← hk1]; omega), ← hk1]
        rw [e]
        exact f6.picks [2, 3, 4, 5] (by decide)
    · refine gIf_f (fLoadA f5 1 rfl ?_ rfl (by kernel_rfl))
      show gStore _ _ _ _ _ _
      refine fStoreA f5 2 rfl (fun w6 f6 => ?_) rfl (fun u hu => ?_)
      · have f6 : Fr w w6 [oIt .i64 (elOf P t_sl_int) t9 [k1, 4], sIt best3 [.int .i64 (pkT l).1, v], sIt t2 [.int .i64 (pkT l).1, v], oIt .u8 eB v (pkT l).2] := f6
        refine fLoadA f6 2 rfl ?_ rfl (by kernel_rfl)
        exact ⟨v, rfl, f6.old, f6.on 3 rfl⟩
      · simp at hu
        rcases hu with rfl | rfl
        · rfl
        · exact one _ _ _ (f5.nm 3 rfl)
end
end Go.Proofs.YtilpoinhfiajcaaGreatDoorV

/- Package audio: all tracks, packed. -/
namespace Go.Proofs.YtilpoinhfiajcaaGreatDoorV
open Go Go.RowKit
noncomputable abbrev eP : TypeId := elOf P t_sl_audio_packer
/-- A packed track: its kind, its bytes' value, its bytes. -/
abbrev Pk := Int × Value × List Int
def pkp (u : Pk) : Int × List Int := (u.1, u.2.2)
def cellsP : List Pk → List Value
  | [] => []
  | u :: T => .int .i64 u.1 :: u.2.1 :: cellsP T
theorem cellsP_app (S T : List Pk) : cellsP (S ++ T) = cellsP S ++ cellsP T := by
  induction S with
  | nil => rfl
  | cons u S ih => rw [List.cons_append, cellsP, cellsP, ih]; rfl
theorem cellsP_at : ∀ {T : List Pk} {k : Nat} {u : Pk}, T[k]? = some u → (cellsP T)[2 * k]? = some (.int .i64 u.1) ∧ (cellsP T)[2 * k + 1]? = some u.2.1
  | t :: T, 0, u, h => by simp at h; subst h; exact ⟨rfl, rfl⟩
  | t :: T, k + 1, u, h => by
    have := cellsP_at (T := T) (k := k) (u := u) (by simpa using h)
    rw [cellsP, show 2 * (k + 1) = 2 * k + 1 + 1 by omega, List.getElem?_cons_succ, List.getElem?_cons_succ, List.getElem?_cons_succ]
    exact ⟨this.1, this.2⟩
/-- Packed tracks, all in memory of one's own. -/
noncomputable def pkF (v : Value) (T : List Pk) : List It := rIt eP 2 v T.length (cellsP T) :: T.reverse.map fun u => oIt .u8 eB u.2.1 u.2.2
def sizeP : List (Int × List Int) → Nat
  | [] => 0
  | u :: T => u.2.length + sizeP T
theorem sizeP_app (S T : List (Int × List Int)) : sizeP (S ++ T) = sizeP S + sizeP T := by
  induction S with
  | nil => simp [sizeP]
  | cons u S ih => rw [List.cons_append, sizeP, sizeP, ih]; omega
/-- All tracks, packed; whether the first two are a middle and a side. -/
noncomputable def allI (xss : List (List Int)) : List (Int × List Int) × Bool :=
  if xss.length ≠ 2 then (xss.map pkT, false)
  else if sizeP [pkT (midL (xss.getD 0 []) (xss.getD 1 [])), pkT (sideL (xss.getD 0 []) (xss.getD 1 []))] < sizeP (xss.map pkT) then ([pkT (midL (xss.getD 0 []) (xss.getD 1 [])), pkT (sideL (xss.getD 0 []) (xss.getD 1 []))], true)
  else (xss.map pkT, false)
section
variable {w0 w : World} {F : List It}
theorem Sl.of_cells {ad : Addr} {n : Nat} {cs : List Value} (h : St w ad cs) (hn : cs.length = n * 2) : Sl w 2 (.slice (some ad) n n) n cs :=
  ⟨some ad, n, rfl, Nat.le_refl _, by rw [hn], fun ad' ha j u hj => by injection ha with ha; subst ha; exact St.cell h hj, fun h => by cases h⟩
theorem pk_step {out v : Value} {T : List Pk} {k : Int} {bs : List Int} {K : Value → World → Prop} (f : Fr w0 w (oIt .u8 eB v bs :: pkF out T)) (hl : T.length ≤ 1000) (hk : ∀ out' w', Fr w0 w' (pkF out' (T ++ [(k, v, bs)])) → K out' w') :
    gLit P t_sl_audio_packer 1 #[(0, .agg #[.int .i64 k, v])] w fun t20 w5 => gApp P #[t_sl_audio_packer, t_sl_audio_packer] t_sl_audio_packer #[out, t20] w5 K := by
  have hn := f.nm 0 rfl
  have ho : v.oneCell' = true := by obtain ⟨a, c, rfl, _⟩ := hn.shape; rfl
  refine fLit_sz 2 [[.int .i64 k, v]] f rfl rfl (fun v hv => by simp at hv; subst hv; rfl) (fun ad w5 f5 => ?_) (by decide) (by kernel_rfl) (by decide +kernel)
  refine fAppR 40 (m := 1) f5 2 rfl (Sl.of_cells (f5.get 0 rfl) rfl) (fun x hx => ?_) (by omega) (by unfold maxLen; omega) (fun v' w6 f6 => hk v' w6 ?_) (by kernel_rfl)
  · simp at hx; rcases hx with rfl | rfl
    · rfl
    · exact ho
  · have f7 := f6.picksN 3 [2, 1] (by decide) (by decide)
    have e1 : pkF v' (T ++ [(k, v, bs)]) = rIt eP 2 v' (T.length + 1) (cellsP T ++ [.int .i64 k, v]) :: oIt .u8 eB v bs :: T.reverse.map fun u => oIt .u8 eB u.2.1 u.2.2 := by
      unfold pkF; rw [cellsP_app, List.length_append, List.reverse_append]; rfl
    rw [e1]; exact f7
/-- Where a packed track lies, and its bytes. -/
theorem pk_at {v : Value} {T : List Pk} (f : Fr w0 w (pkF v T)) : Sl w 2 v T.length (cellsP T) ∧ ∀ u ∈ T, Nm .u8 w u.2.1 u.2.2 := by
  refine ⟨f.row 0 rfl, fun u hu => ?_⟩
  have hm : oIt .u8 eB u.2.1 u.2.2 ∈ pkF v T := List.mem_cons_of_mem _ (List.mem_map.2 ⟨u, List.mem_reverse.2 hu, rfl⟩)
  obtain ⟨i, hi⟩ := List.mem_iff_getElem?.1 hm
  exact f.nm i hi
/-- A packed track, read. -/
theorem gPk {v : Value} {T : List Pk} {k : Nat} {u : Pk} {K : Int → Value → Prop} (h : Sl w 2 v T.length (cellsP T)) (hu : T[k]? = some u) (hk : K u.1 u.2.1) : gIdx P t_sl_audio_packer v (.int .i64 (k : Int)) fun ad => gLoad P t_audio_packer (.part (.agg [.int .i64, .val])) (.pointer (some ad)) w K := by
  have hlt := (List.getElem?_eq_some_iff.1 hu).1
  have hc := cellsP_at hu
  refine gIdx_sz (sz := 2) h hlt (fun ad hcell _ => gLoad_agg [.int .i64 u.1, u.2.1] (fun j x hj => ?_) hk rfl (by kernel_rfl)) (by kernel_rfl)
  rcases j with _ | _ | j
  · simp at hj; subst hj; exact hcell 0 _ (by decide) (by rw [show k * 2 + 0 = 2 * k by omega]; exact hc.1)
  · simp at hj; subst hj; exact hcell 1 _ (by decide) (by rw [show k * 2 + 1 = 2 * k + 1 by omega]; exact hc.2)
  · simp at hj
theorem size_any {v : Value} {T : List Pk} (hp : Sl w 2 v T.length (cellsP T)) (hb : ∀ u ∈ T, Nm .u8 w u.2.1 u.2.2) (hl : T.length ≤ 1000) (hs : ∀ u ∈ T, u.2.2.length ≤ 1000000000) : Calls P n_audio_size #[v] w (fun e w' => e = .returned (.int .i64 (sizeP (T.map pkp) : Nat)) ∧ Ev w w') := by
  have hsz : ∀ k, k ≤ T.length → sizeP ((T.take k).map pkp) ≤ k * 1000000000 := by
    intro k
    induction k with
    | zero => intro _; simp [sizeP]
    | succ k ih =>
      intro hk
      have h1 := hs T[k] (List.getElem_mem (by omega))
      rw [List.take_succ_eq_append_getElem (by omega), List.map_append, sizeP_app]
      have := ih (by omega)
      simp only [List.map_cons, List.map_nil, sizeP, pkp]; omega
  refine of_audio_size (gLen_slv hp ⟨fun n i w' => ∃ k : Nat, i = (k : Int) ∧ k ≤ T.length ∧ n = ((sizeP ((T.take k).map pkp) : Nat) : Int) ∧ Ev w w', fun _ i _ => (T.length - i).toNat, ⟨0, rfl, Nat.zero_le _, rfl, Ch.refl _ _⟩, ?_⟩)
  rintro _ n i w1 ⟨k, rfl, hk, rfl, h1⟩
  have hk1 := hsz k hk
  refine gIf_dec (fun hlt => ?_) (fun hge => ?_)
  · have hkl : k < T.length := by omega
    have hu : T[k]? = some T[k] := List.getElem?_eq_getElem hkl
    have hm : T[k] ∈ T := List.getElem_mem hkl
    have hk2 := hsz (k + 1) hkl
    have htk : sizeP ((T.take (k + 1)).map pkp) = sizeP ((T.take k).map pkp) + T[k].2.2.length := by rw [List.take_succ_eq_append_getElem hkl, List.map_append, sizeP_app]; rfl
    refine gPk (hp.ev h1) hu (fAlloc (z := .agg #[.int .i64 0, .slice none 0 0]) (Fr.start w1) (by kernel_rfl) fun p5 w2 f2 => fStoreA f2 0 rfl (fun w3 f3 => ?_) rfl (fun x hx => ?_))
    · have f3 : Fr w1 w3 [sIt p5 [.int .i64 T[k].1, T[k].2.1]] := f3
      refine fLoad_v f3 0 1 rfl rfl (gLen_nm ((hb _ hm).ev (h1.trans f3.old)) ⟨⟨k + 1, by rw [i64_id (by omega) (by omega)]; omega, hkl, ?_, h1.trans f3.old⟩, by dsimp only; rw [i64_id (n := (k : Int) + 1) (by omega) (by omega)]; omega⟩)
      rw [htk, i64_id (by omega) (by omega)]; omega
    · simp at hx
      rcases hx with rfl | rfl
      · rfl
      · obtain ⟨a, c, he, _⟩ := (hb _ hm).shape
        rw [he]; rfl
  · obtain rfl : k = T.length := by omega
    rw [List.take_length]
    exact ⟨rfl, h1⟩
def AllE (w : World) (r : List (Int × List Int) × Bool) (e : Ending) (w' : World) : Prop := ∃ v T, e = .returned (.tuple #[v, .bool r.2]) ∧ T.map pkp = r.1 ∧ Fr w w' (pkF v T)
theorem all_any {p : Value} {us : List Value} {xss : List (List Int)} (hp : Sl w 1 p us.length us) (hl : us.length = xss.length) (hu : ∀ (i : Nat) (u : Value) (xs : List Int), us[i]? = some u → xss[i]? = some xs → Nm .i32 w u xs)
    (h8 : us.length ≤ 8) (hne : ∀ xs ∈ xss, xs ≠ []) (hb : ∀ xs ∈ xss, xs.length ≤ 1048576) (heq : ∀ xs ∈ xss, ∀ ys ∈ xss, xs.length = ys.length) : Calls P n_audio_all #[p] w (AllE w (allI xss)) := by
  have hnm : ∀ {k : Nat} (hk : k < us.length), Nm .i32 w us[k] (xss[k]'(by omega)) := fun {k} hk => hu k _ _ (by simp [hk]) (by simp [show k < xss.length by omega])
  have hT8 : ∀ {T : List Pk} {r : List (Int × List Int)}, T.map pkp = r → r.length ≤ 8 → (∀ u ∈ r, u.2.length ≤ 1000000000) → T.length ≤ 1000 ∧ ∀ u ∈ T, u.2.2.length ≤ 1000000000 := fun {T r} h h1 h2 => by
    have hlen := congrArg List.length h
    rw [List.length_map] at hlen
    exact ⟨by omega, fun u hu => h2 (pkp u) (by rw [← h]; exact List.mem_map.2 ⟨u, hu, rfl⟩)⟩
  have hpl : ∀ u ∈ xss.map pkT, u.2.length ≤ 1000000000 := fun u hu => by
    obtain ⟨xs, hx, rfl⟩ := List.mem_map.1 hu
    have := pkT_len (hb xs hx)
    have := hb xs hx; omega
  refine of_audio_all (gLen_slv hp ⟨fun plain i w' => ∃ (k : Nat) (T : List Pk), i = (k : Int) ∧ k ≤ us.length ∧ T.map pkp = (xss.take k).map pkT ∧ Fr w w' (pkF plain T), fun _ i _ => (us.length - i).toNat, ⟨0, [], rfl, Nat.zero_le _, rfl, (Fr.start w).nilR eP 2⟩, ?_⟩)
  rintro _ plain i w1 ⟨k, T, rfl, hk, hT, f1⟩
  have hTl : T.length = k := by have := congrArg List.length hT; simp only [List.length_map, List.length_take] at this; omega
  refine gIf_dec (fun hlt => ?_) (fun hge => ?_)
  · have hkl : k < us.length := by omega
    have hkx : k < xss.length := by omega
    refine gIdx_1 (hp.ev f1.old) (by omega) (by omega) fun a u hua hc _ => gLoad_v hc ?_
    have hue : u = us[k] := by
      rw [Int.toNat_natCast, List.getElem?_eq_getElem hkl] at hua; injection hua with hua; exact hua.symm
    subst hue
    refine gCall_of (packed_any ((hnm hkl).ev f1.old) (hne _ (List.getElem_mem hkx)) (hb _ (List.getElem_mem hkx))) ?_
    rintro _ w2 ⟨v, rfl, h2, o2⟩
    refine ⟨_, _, rfl, pk_step (f1.newO h2 o2) (by omega) fun out' w4 f4 => ⟨⟨k + 1, _, by rw [i64_id (by omega) (by omega)]; omega, hkl, ?_, f4⟩, by dsimp only; rw [i64_id (by omega) (by omega)]; omega⟩⟩
    rw [List.take_succ_eq_append_getElem hkx, List.map_append, List.map_append, hT]; rfl
  · obtain rfl : k = us.length := by omega
    rw [hl, List.take_length] at hT
    refine gLen_slv (hp.ev f1.old) (gIf_neq (fun h2 => ?_) (fun h2 => ?_))
    · have e : allI xss = (xss.map pkT, false) := by unfold allI; rw [if_pos (by omega)]
      rw [e]
      exact ⟨plain, T, rfl, hT, f1⟩
    · have h2' : us.length = 2 := by omega
      obtain ⟨x0, hx0⟩ : ∃ x0, x0 = xss[0]'(by omega) := ⟨_, rfl⟩
      obtain ⟨x1, hx1⟩ : ∃ x1, x1 = xss[1]'(by omega) := ⟨_, rfl⟩
      have g0 : xss.getD 0 [] = x0 := by rw [List.getD_eq_getElem?_getD, List.getElem?_eq_getElem (by omega), hx0]; rfl
      have g1 : xss.getD 1 [] = x1 := by rw [List.getD_eq_getElem?_getD, List.getElem?_eq_getElem (by omega), hx1]; rfl
      have m0 : x0 ∈ xss := by rw [hx0]; exact List.getElem_mem _
      have m1 : x1 ∈ xss := by rw [hx1]; exact List.getElem_mem _
      have n0 := hnm (k := 0) (by omega)
      have n1 := hnm (k := 1) (by omega)
      rw [← hx0] at n0
      rw [← hx1] at n1
      have hb0 := hb x0 m0
      have hmne : midL x0 x1 ≠ [] := fun h => hne x0 m0 (List.length_eq_zero_iff.1 (by have := congrArg List.length h; unfold midL at this; rw [tab_len] at this; exact this))
      have hsne : sideL x0 x1 ≠ [] := fun h => hne x0 m0 (List.length_eq_zero_iff.1 (by have := congrArg List.length h; unfold sideL at this; rw [tab_len] at this; exact this))
      have hml : (midL x0 x1).length ≤ 1048576 := by unfold midL; rw [tab_len]; exact hb0
      have hsl : (sideL x0 x1).length ≤ 1048576 := by unfold sideL; rw [tab_len]; exact hb0
      have elem : ∀ {k : Nat} (hk : k < us.length) {K : Value → Prop}, K us[k] → gIdx P t_sl_sl_int32 p (.int .i64 (k : Int)) fun ad => gLoadB P t_sl_int32 shV (.pointer (some ad)) (fun w' => Ev w w') K := fun {k} hk {K} h => by
        refine gIdx_1 hp (by omega) (by omega) fun a u hua hc _ => gLoadB_v (fun w' hw => Ch.cell hw hc fun h => h) ?_
        have hue : u = us[k] := by
          rw [Int.toNat_natCast, List.getElem?_eq_getElem hk] at hua; injection hua with hua; exact hua.symm
        rw [hue]; exact h
      refine ⟨fun w' => Ev w w', f1.drew.old, elem (k := 0) (by omega) (elem (k := 1) (by omega) (gCall_of (Mid_any (n0.ev f1.drew.old) (n1.ev f1.drew.old) (heq x0 m0 x1 m1) (by omega)) ?_))⟩
      rintro _ w5 ⟨a, b, rfl, g5⟩
      have f5 := f1.drew.glue g5
      have f5 : Fr w w5 (oIt .i32 eI b (sideL x0 x1) :: oIt .i32 eI a (midL x0 x1) :: pkF plain T) := f5
      refine ⟨_, _, _, rfl, f5.old, gCall_of (packed_any (f5.nm 1 rfl) hmne hml) ?_⟩
      rintro _ w6 ⟨v1, rfl, h6, o6⟩
      have f6 := f5.newO h6 o6
      refine ⟨_, _, rfl, gCall_of (packed_any (f6.nm 1 rfl) hsne hsl) ?_⟩
      rintro _ w7 ⟨v2, rfl, h7, o7⟩
      have f7 := ((f6.newO h7 o7).nilR eP 2)
      have f7 : Fr w w7 (rIt eP 2 (.slice none 0 0) 0 [] :: oIt .u8 eB v2 (pkT (sideL x0 x1)).2 :: oIt .u8 eB v1 (pkT (midL x0 x1)).2 :: oIt .i32 eI b (sideL x0 x1) :: oIt .i32 eI a (midL x0 x1) :: pkF plain T) := f7
      have oc1 : v1.oneCell' = true := by obtain ⟨a, c, rfl, _⟩ := (f7.nm 2 rfl).shape; rfl
      have oc2 : v2.oneCell' = true := by obtain ⟨a, c, rfl, _⟩ := (f7.nm 1 rfl).shape; rfl
      refine ⟨_, _, rfl, fLit_sz 2 [[.int .i64 (pkT (midL x0 x1)).1, v1], [.int .i64 (pkT (sideL x0 x1)).1, v2]] f7 rfl rfl (fun v hv => by simp at hv; rcases hv with rfl | rfl <;> rfl) (fun ad w8 f8 => ?_) (by decide) (by kernel_rfl) (by decide +kernel)⟩
      refine fAppR 40 (m := 2) f8 1 rfl (Sl.of_cells (f8.get 0 rfl) rfl) (fun x hx => ?_) (by omega) (by unfold maxLen; omega) (fun t44 w9 f9 => ?_) (by kernel_rfl)
      · simp at hx; rcases hx with rfl | rfl | rfl | rfl
        · rfl
        · exact oc1
        · rfl
        · exact oc2
      obtain ⟨M, hM⟩ : ∃ M : List Pk, M = [((pkT (midL x0 x1)).1, v1, (pkT (midL x0 x1)).2), ((pkT (sideL x0 x1)).1, v2, (pkT (sideL x0 x1)).2)] := ⟨_, rfl⟩
      have f9 := f9.drop 0
      have f9 : Fr w w9 (pkF t44 M ++ (oIt .i32 eI b (sideL x0 x1) :: oIt .i32 eI a (midL x0 x1) :: pkF plain T)) := by rw [hM]; exact f9
      have hMp : M.map pkp = [pkT (midL x0 x1), pkT (sideL x0 x1)] := by rw [hM]; rfl
      have fM : Fr w w9 (pkF t44 M) := by
        have := f9.picks (List.range (pkF t44 M).length) List.nodup_range
        have e : ((List.range (pkF t44 M).length).filterMap fun i => (pkF t44 M ++ (oIt .i32 eI b (sideL x0 x1) :: oIt .i32 eI a (midL x0 x1) :: pkF plain T))[i]?) = pkF t44 M := by rw [hM]; rfl
        rw [e] at this; exact this
      have fT : Fr w w9 (pkF plain T) := by
        have := f9.dropN 5
        rw [hM] at this; exact this
      have bM := hT8 hMp (by simp) (fun u hu => by
        simp only [List.mem_cons, List.not_mem_nil, or_false] at hu
        rcases hu with rfl | rfl
        · have := pkT_len hml; omega
        · have := pkT_len hsl; omega)
      have bT := hT8 hT (by rw [List.length_map]; omega) hpl
      obtain ⟨s1, s2⟩ := pk_at fM
      obtain ⟨s3, s4⟩ := pk_at fT
      refine gCall_i (size_any s1 s2 bM.1 bM.2) fun w10 h10 => gCall_i (size_any (s3.ev h10) (fun u hu => (s4 u hu).ev h10) bT.1 bT.2) fun w11 h11 => ?_
      rw [hMp, hT]
      refine gIf_dec (fun hlt => ?_) (fun hge => ?_)
      · have e : allI xss = ([pkT (midL x0 x1), pkT (sideL x0 x1)], true) := by unfold allI; rw [if_neg (by omega), g0, g1, if_pos (by omega)]
        rw [e]
        exact ⟨t44, M, rfl, hMp, (fM.ev h10).ev h11⟩
      · have e : allI xss = (xss.map pkT, false) := by unfold allI; rw [if_neg (by omega), g0, g1, if_neg (by omega)]
        rw [e]
        exact ⟨plain, T, rfl, hT, (fT.ev h10).ev h11⟩
end
end Go.Proofs.YtilpoinhfiajcaaGreatDoorV

/- Where a WAV file's samples are: no program in sight. -/
namespace Go.Proofs.YtilpoinhfiajcaaGreatDoorV
open Go Go.RowKit
def fldW (xs : List Int) (a n : Nat) : Int := leN ((xs.drop a).take n)
theorem leN_rg : ∀ {l : List Int}, (∀ x ∈ l, 0 ≤ x ∧ x < 256) → 0 ≤ leN l ∧ leN l < ((2 ^ (8 * l.length) : Nat) : Int)
  | [], _ => by simp [leN]
  | c :: r, h => by
    have h1 := leN_rg (l := r) fun x hx => h x (List.mem_cons_of_mem _ hx)
    have h2 := h c List.mem_cons_self
    have e : 2 ^ (8 * (c :: r).length) = 256 * 2 ^ (8 * r.length) := by rw [List.length_cons, show 8 * (r.length + 1) = 8 + 8 * r.length by omega, Nat.pow_add]
    rw [leN, e]
    generalize 2 ^ (8 * r.length) = z at *
    omega
theorem u8_of {xs : List Int} (h : inR .u8 xs) : ∀ x ∈ xs, 0 ≤ x ∧ x < 256 := fun x hx => by
  have := h x hx
  have h1 : IntKind.u8.min = 0 := by decide
  have h2 : IntKind.u8.max = 255 := by decide
  omega
theorem fldW_rg {xs : List Int} (h : inR .u8 xs) (a n : Nat) (hn : n ≤ 4) : 0 ≤ fldW xs a n ∧ fldW xs a n < 4294967296 := by
  have h1 := leN_rg (l := (xs.drop a).take n) fun x hx => u8_of h x (List.mem_of_mem_drop (List.mem_of_mem_take hx))
  have h2 : ((xs.drop a).take n).length ≤ 4 := by rw [List.length_take]; omega
  have h3 : 2 ^ (8 * ((xs.drop a).take n).length) ≤ 2 ^ 32 := Nat.pow_le_pow_right (by omega) (by omega)
  have h4 : (2 : Nat) ^ 32 = 4294967296 := by decide
  unfold fldW
  omega
theorem fldW2_rg {xs : List Int} (h : inR .u8 xs) (a : Nat) : 0 ≤ fldW xs a 2 ∧ fldW xs a 2 < 65536 := by
  have h1 := leN_rg (l := (xs.drop a).take 2) fun x hx => u8_of h x (List.mem_of_mem_drop (List.mem_of_mem_take hx))
  have h2 : ((xs.drop a).take 2).length ≤ 2 := by rw [List.length_take]; omega
  have h3 : 2 ^ (8 * ((xs.drop a).take 2).length) ≤ 2 ^ 16 := Nat.pow_le_pow_right (by omega) (by omega)
  have h4 : (2 : Nat) ^ 16 = 65536 := by decide
  unfold fldW
  omega
/-- A file's measures. -/
structure Wv where
  ch : Int
  bits : Int
  fr : Int
  to : Int
def Wv.c (p : Wv) : List Value := [.int .i64 p.ch, .int .i64 p.bits, .int .i64 p.fr, .int .i64 p.to]
def Wv.z : Wv := ⟨0, 0, 0, 0⟩
def noW : Wv × Bool := (Wv.z, false)
def frameW (ch bits : Int) : Int := if ch < 1 ∨ ch > 8 ∨ (bits ≠ 8 ∧ bits ≠ 16) then 0 else ch * bits / 8
def fmtN : List Int := [102, 109, 116, 32]
def datN : List Int := [100, 97, 116, 97]
def riffN : List Int := [82, 73, 70, 70]
def waveN : List Int := [87, 65, 86, 69]
def nameW (xs : List Int) (a : Nat) : List Int := (xs.drop a).take 4
def sizeW (xs : List Int) (a : Nat) : Nat := (fldW xs (a + 4) 4).toNat
def minW (xs : List Int) (a : Nat) : Nat := (if sizeW xs a < xs.length - (a + 8) then sizeW xs a else xs.length - (a + 8))
def foundW (xs : List Int) (a : Nat) (pcm : Bool) (ch bits : Int) : Wv × Bool :=
  if pcm = true ∧ frameW ch bits ≠ 0 ∧ ¬ ((minW xs a : Int) < frameW ch bits) then (⟨ch, bits, (a + 8 : Nat), ((a + 8 : Nat) : Int) + (minW xs a : Int) / frameW ch bits * frameW ch bits⟩, true) else noW
def isFmt (xs : List Int) (a : Nat) (has : Bool) : Prop := nameW xs a = fmtN ∧ has = false ∧ 16 ≤ sizeW xs a ∧ a + 24 ≤ xs.length
instance (xs : List Int) (a : Nat) (has : Bool) : Decidable (isFmt xs a has) := by unfold isFmt; infer_instance
def skipW (xs : List Int) (a : Nat) : Nat := sizeW xs a + sizeW xs a % 2
def goW (xs : List Int) : Nat → Nat → Bool → Bool → Int → Int → Wv × Bool
  | 0, _, _, _, _, _ => noW
  | f + 1, a, has, pcm, ch, bits =>
    if xs.length < a + 8 then noW
    else if isFmt xs a has then (if skipW xs a > xs.length - (a + 8) then noW else goW xs f (a + 8 + skipW xs a) true (decide (fldW xs (a + 8) 2 = 1)) (fldW xs (a + 10) 2) (fldW xs (a + 22) 2))
    else if nameW xs a = datN ∧ has = true then foundW xs a pcm ch bits
    else if skipW xs a > xs.length - (a + 8) then noW else goW xs f (a + 8 + skipW xs a) has pcm ch bits
def parseW (xs : List Int) : Wv × Bool := if xs.length < 12 ∨ nameW xs 0 ≠ riffN ∨ nameW xs 8 ≠ waveN then noW else goW xs (xs.length + 1) 12 false false 0 0
/-- What is told lies within the bytes. -/
def InW (p : Wv) (n : Nat) : Prop := 1 ≤ p.ch ∧ p.ch ≤ 8 ∧ (p.bits = 8 ∨ p.bits = 16) ∧ 0 ≤ p.fr ∧ p.fr ≤ p.to ∧ p.to ≤ n ∧ (p.to - p.fr) % (p.ch * p.bits / 8) = 0 ∧ p.fr < p.to
theorem frameW_pos {ch bits : Int} (h : frameW ch bits ≠ 0) : 1 ≤ ch ∧ ch ≤ 8 ∧ (bits = 8 ∨ bits = 16) ∧ frameW ch bits = ch * bits / 8 ∧ 1 ≤ frameW ch bits := by
  unfold frameW at h ⊢
  split at h
  · exact (h rfl).elim
  · rename_i hc
    rw [if_neg hc]
    refine ⟨by omega, by omega, by omega, rfl, ?_⟩
    have : bits = 8 ∨ bits = 16 := by omega
    rcases this with rfl | rfl <;> omega
theorem foundW_in {xs : List Int} {a : Nat} {pcm : Bool} {ch bits : Int} (ha : a + 8 ≤ xs.length) (h : (foundW xs a pcm ch bits).2 = true) : InW (foundW xs a pcm ch bits).1 xs.length := by
  unfold foundW at h ⊢
  split at h
  · rename_i hc
    rw [if_pos hc]
    obtain ⟨h1, h2, h3, h4, h5⟩ := frameW_pos hc.2.1
    have h6 := hc.2.2
    have hm : minW xs a ≤ xs.length - (a + 8) := by unfold minW; split <;> omega
    generalize frameW ch bits = fr at *
    have h7 : (minW xs a : Int) / fr * fr ≤ (minW xs a : Int) := Int.ediv_mul_le _ (by omega)
    have h8 : 1 ≤ (minW xs a : Int) / fr := Int.le_ediv_of_mul_le (by omega) (by omega)
    have h9 : 1 * 1 ≤ (minW xs a : Int) / fr * fr := Int.mul_le_mul h8 h5 (by omega) (by omega)
    refine ⟨h1, h2, h3, by dsimp only; omega, by dsimp only; omega, by dsimp only; omega, ?_, by dsimp only; omega⟩
    dsimp only
    rw [← h4, show ∀ x y : Int, x + y - x = y by intros; omega]
    exact Int.mul_emod_left _ _
  · cases h
theorem goW_in {xs : List Int} : ∀ (f a : Nat) (has pcm : Bool) (ch bits : Int), (goW xs f a has pcm ch bits).2 = true → InW (goW xs f a has pcm ch bits).1 xs.length
  | 0, _, _, _, _, _, h => by cases h
  | f + 1, a, has, pcm, ch, bits, h => by
    rw [goW] at h ⊢
    split at h
    · cases h
    rename_i h0
    rw [if_neg h0]
    split at h
    · rename_i h1
      rw [if_pos h1]
      split at h
      · cases h
      · rename_i h2
        rw [if_neg h2]; exact goW_in f _ _ _ _ _ h
    · rename_i h1
      rw [if_neg h1]
      split at h
      · rename_i h2
        rw [if_pos h2]; exact foundW_in (by omega) h
      · rename_i h2
        rw [if_neg h2]
        split at h
        · cases h
        · rename_i h3
          rw [if_neg h3]; exact goW_in f _ _ _ _ _ h
theorem parseW_in {xs : List Int} (h : (parseW xs).2 = true) : InW (parseW xs).1 xs.length := by
  unfold parseW at h ⊢
  split at h
  · cases h
  · rename_i hc
    rw [if_neg hc]; exact goW_in _ _ _ _ _ _ h
end Go.Proofs.YtilpoinhfiajcaaGreatDoorV
