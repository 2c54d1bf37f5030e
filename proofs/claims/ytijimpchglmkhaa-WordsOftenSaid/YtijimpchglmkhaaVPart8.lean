import Derived.Laws.IdiomStrings
import Derived.Test.YtijimpchglmkhaaVPart7
set_option linter.unusedVariables false
set_option linter.unusedSimpArgs false
/- Package words: the order of words as the program reckons it; sorting. -/
namespace Go.Proofs.YtijimpchglmkhaaV
open Go Go.RowKit
section
variable {w0 w : World} {F : List It} {b : Nat} {ws : List (List UInt8)}
/-- A literal, and the very world behind it. -/
theorem gLitE {t : TypeId} {n : Nat} {parts : Array (Nat × Value)} {K : Value → World → Prop} (vs : List Value) (hp : parts.toList = enumV 0 vs) (hn : vs.length = n) (h0 : 0 < n) (hm : n ≤ 1000000) (h1 : ∀ v ∈ vs, v.cells = #[v])
    (hk : ∀ v o, (w.alloc o).ownsRow w.heap.size (elOf P t) 1 v n vs → K v (w.alloc o)) (ht : sl1 P t = true := by kernel_rfl) : gLit P t n parts w K := by
  obtain ⟨hu, i, z, hi, hsz, hz⟩ := sl1_ok ht
  obtain ⟨c0, hc0, hrun⟩ : ∃ c0 : Array Value, c0.size = n ∧ (Instr.buildSlice t n parts).run P w = .ok (.slice (some ⟨w.heap.size, 0, none⟩) n n) (w.alloc (.cells (setAll c0 0 vs) (elOf P t))) := by
    simp only [Instr.buildSlice, Sem.run_bind, run_underlying hu, Result.andThen_ok, sizeOf, typeInfo, run_program, hi, Sem.run_pure, hsz, Nat.mul_one]
    rw [if_neg (by omega)]
    refine ⟨(Array.range n).map (z.cells[· % z.cells.size]!), by simp, ?_⟩
    rw [if_neg (by omega)]
    simp only [Sem.run_bind, zeroValue, typeInfo, run_program, Result.andThen_ok, hi, hz, Sem.run_pure]
    rw [hp, show (fun i => some (i, 1)) = (fun i => some (i * 1, 1)) by funext i; rw [Nat.mul_one], fill_enum vs h1 0 _ (by simp; omega)]
    simp [newRow]
  have hl := setAll_list vs 0 c0 (by omega)
  simp only [List.take_zero, List.nil_append] at hl
  refine ⟨_, _, hrun, hk _ _ ?_⟩
  have hs : (setAll c0 0 vs).size = n := by rw [← Array.length_toList, hl, hn]
  exact ownsRow_new w (elOf P t) _ n n (Nat.le_refl _) (by unfold maxLen; omega) hs (by rw [hl, List.take_of_length_le (by omega)]) hn
theorem Or2_any {v : Value} {a c : Int} (h : Nm .i64 w v [a, c]) : Calls P n_cmp_Or_int #[v] w (fun e w' => e = .returned (.int .i64 (if a ≠ 0 then a else c)) ∧ w' = w) := by
  refine of_cmp_Or_int (gLen_nm h ⟨fun i w' => w' = w ∧ (i = 0 ∨ (i = 1 ∧ a = 0) ∨ (i = 2 ∧ a = 0 ∧ c = 0)), fun i _ => (2 - i).toNat, ⟨rfl, .inl rfl⟩, ?_⟩)
  rintro _ i _ ⟨rfl, hi⟩
  refine gIf_dec (fun hlt => gGet h (by omega) (by simp at hlt; simp; omega) ?_) (fun hge => ?_)
  · rcases hi with rfl | ⟨rfl, ha⟩ | ⟨rfl, _⟩
    · refine gIf_neq (fun hne => ⟨?_, rfl⟩) (fun he => ⟨⟨rfl, .inr (.inl ⟨by decide, he⟩)⟩, by dsimp only; decide⟩)
      rw [show rd [a, c] 0 = a from rfl] at hne ⊢
      rw [if_pos hne]
    · refine gIf_neq (fun hne => ⟨?_, rfl⟩) (fun he => ⟨⟨rfl, .inr (.inr ⟨by decide, ha, he⟩)⟩, by dsimp only; decide⟩)
      rw [show rd [a, c] 1 = c from rfl] at hne ⊢
      rw [if_neg (by omega)]
    · simp at hlt
  · rcases hi with rfl | ⟨rfl, ha⟩ | ⟨rfl, ha, hc⟩
    · simp at hge
    · simp at hge
    · rw [if_neg (by omega), hc]; exact ⟨rfl, rfl⟩
theorem worth_any {tp : Addr} {s : List UInt8} (hc : w.cell? tp = some (.map (some b))) (hM : MapI w b ws) (hs : s.length ≤ 24) (hl : ws.length ≤ 1000000000) : Calls P n_words_Find_1 #[.string (mkS s), .pointer (some tp)] w (fun e w' => e = .returned (.int .i64 (wth (fun s => ws.count s) s)) ∧ w' = w) := by
  have hr := wth_rg hl hs
  have hct : ws.count s ≤ ws.length := List.count_le_length
  refine of_words_Find_1 (gLoad_v hc (gLookup hM (by omega) ⟨?_, rfl⟩))
  unfold wth at hr ⊢
  rw [mkS_size, i64_id (n := ((ws.count s : Nat) : Int) - 1) (by omega) (by omega), i64_id (n := (((ws.count s : Nat) : Int) - 1) * ((s.length : Nat) : Int)) (by dsimp only at hr; omega) (by dsimp only at hr; omega)]
theorem cmpI_rg (x y : Int) : -1 ≤ cmpI x y ∧ cmpI x y ≤ 1 := by unfold cmpI; split <;> (try split) <;> omega
theorem cmpS_rg (x y : List UInt8) : -1 ≤ cmpS x y ∧ cmpS x y ≤ 1 := by unfold cmpS; split <;> (try split) <;> omega
theorem order_any {wp tp : Addr} {x y : List UInt8} (hw : w.cell? wp = some (.func (.func n_words_Find_1) #[] #[.pointer (some tp)])) (hc : w.cell? tp = some (.map (some b))) (hM : MapI w b ws) (hx : x.length ≤ 24) (hy : y.length ≤ 24) (hl : ws.length ≤ 1000000000) :
    Calls P n_words_Find_2 #[.string (mkS x), .string (mkS y), .pointer (some wp)] w (fun e w' => e = .returned (.int .i64 (cfU (fun s => ws.count s) x y)) ∧ ∃ o, w' = w.drew.alloc o) := by
  have hMd : MapI w.drew b ws := hM.ch (Ev.drew0 w)
  refine of_words_Find_2 ⟨fun w' => w'.cell? wp = some (.func (.func n_words_Find_1) #[] #[.pointer (some tp)]), hw, gLoadB_v (fun w' h => h) (gLoadB_v (fun w' h => h) (gCallV_of rfl (by kernel_rfl) (show Calls P n_words_Find_1 #[.string (mkS y), .pointer (some tp)] _ _ from worth_any hc hMd hy hl) ?_))⟩
  rintro _ _ ⟨rfl, rfl⟩
  refine ⟨_, rfl, hw, gCallV_of rfl (by kernel_rfl) (show Calls P n_words_Find_1 #[.string (mkS x), .pointer (some tp)] _ _ from worth_any hc hMd hx hl) ?_⟩
  rintro _ _ ⟨rfl, rfl⟩
  refine ⟨_, rfl, hw, gCall_of cmpInt_any ?_⟩
  rintro _ _ ⟨rfl, rfl⟩
  refine ⟨_, rfl, hw, gCall_of cmpStr_any ?_⟩
  rintro _ _ ⟨rfl, rfl⟩
  obtain ⟨d1, hd1⟩ : ∃ d, d = cmpI (wth (fun s => ws.count s) y) (wth (fun s => ws.count s) x) := ⟨_, rfl⟩
  have r1 := cmpI_rg (wth (fun s => ws.count s) y) (wth (fun s => ws.count s) x)
  have r2 := cmpS_rg x y
  refine ⟨_, rfl, hw, gLitE [.int .i64 (cmpI (wth (fun s => ws.count s) y) (wth (fun s => ws.count s) x)), .int .i64 (cmpS x y)] rfl rfl (by decide) (by decide) (fun v hv => by simp at hv; rcases hv with rfl | rfl <;> rfl) fun v o ho => ?_⟩
  have hkeep : (w.drew.alloc o).cell? wp = some (.func (.func n_words_Find_1) #[] #[.pointer (some tp)]) := (Ev.alloc w.drew o).cell hw fun h => h
  have hN : Nm .i64 (w.drew.alloc o) v [cmpI (wth (fun s => ws.count s) y) (wth (fun s => ws.count s) x), cmpS x y] := ⟨Sl.of_ownS (sz := 1) ho, fun z hz => by
    have h1 : IntKind.i64.min = -9223372036854775808 := by decide
    have h2 : IntKind.i64.max = 9223372036854775807 := by decide
    rw [h1, h2]
    simp at hz
    rcases hz with rfl | rfl <;> omega⟩
  refine ⟨hkeep, gCall_of (Or2_any hN) ?_⟩
  rintro _ _ ⟨rfl, rfl⟩
  exact ⟨_, rfl, hkeep, rfl, o, rfl⟩
/-! ### The sort -/
noncomputable abbrev eS : TypeId := elOf P t_sl_string
/-- A short word. -/
abbrev Wd := { s : List UInt8 // s.length ≤ 24 }
instance : Inhabited Wd := ⟨⟨[], by decide⟩⟩
def enW (x : Wd) : Value := .string (mkS x.1)
def cfW (c : List UInt8 → Nat) (x y : Wd) : Int := cfU c x.1 y.1
theorem swoW (c : List UInt8 → Nat) : Sort.SWO (ltOf (cfW c)) where
  irrefl x := ltU_irr c x.1
  trans x y z h1 h2 := ltU_trans (c := c) (x := x.1) (y := y.1) (z := z.1) h1 h2
  ntrans x y z h1 h2 := by
    have h1 : ltU c x.1 y.1 = false := h1
    have h2 : ltU c y.1 z.1 = false := h2
    show ltU c x.1 z.1 = false
    have := leU_trans c z.1 y.1 x.1 (by rw [h2]; rfl) (by rw [h1]; rfl)
    simpa using this
theorem putCells_list {α : Type} [Inhabited α] (enc : α → Value) (d : Array α) (c : Array Value) (h : d.size ≤ c.size) : (Sort.putCells enc 0 d c).size = c.size ∧ (Sort.putCells enc 0 d c).toList.take d.size = d.toList.map enc := by
  refine ⟨by simp [Sort.putCells], List.ext_getElem? fun i => ?_⟩
  by_cases hi : i < d.size
  · rw [List.getElem?_take, if_pos hi, Array.getElem?_toList, List.getElem?_map, Array.getElem?_toList]
    simp only [Sort.putCells, Array.getElem?_mapIdx]
    rw [Array.getElem?_eq_getElem (by omega), Array.getElem?_eq_getElem hi]
    simp [hi]
  · rw [List.getElem?_eq_none (by simp; omega), List.getElem?_eq_none (by simp; omega)]
theorem sortWorld_ch {α : Type} [Inhabited α] {enc : α → Value} {g m : Nat} {d : Array α} {os : Array Obj} {cur : Array Value} {e : TypeId} {f : Nat × Nat} (hg : w.heap[g]? = some (.cells cur e f)) :
    Ch (Bk g) w (sortWorld enc w g 0 m d os) ∧ (sortWorld enc w g 0 m d os).heap[g]? = some (.cells (Sort.putCells enc 0 d cur) e f) := by
  have hold : ∀ k, k < w.heap.size → (sortWorld enc w g 0 m d os).heap[k]? = (w.heap[k]?).map fun o => if k = g then Sort.onCells (Sort.putCells enc 0 d) o else o := fun k hk => by
    show (((w.heap.modify g (Sort.onCells (Sort.putCells enc 0 d))) ++ os))[k]? = _
    rw [Array.getElem?_append_left (by simpa using hk), Array.getElem?_modify]
    by_cases e : g = k
    · subst e; simp
    · rw [if_neg e]; simp [Ne.symm e]
  have hnew : (sortWorld enc w g 0 m d os).heap[g]? = some (.cells (Sort.putCells enc 0 d cur) e f) := by rw [hold g (hlt hg), hg]; simp [Sort.onCells]
  refine ⟨⟨rfl, rfl, rfl, ?_, fun k hk hn => ?_, fun k c e' f' hc => ?_, fun k o hk ho => ?_⟩, hnew⟩
  · show w.heap.size ≤ (((w.heap.modify g (Sort.onCells (Sort.putCells enc 0 d))) ++ os)).size
    simp
  · have hne : k ≠ g := fun h => hn 0 h
    rw [hold k hk]; simp [hne]
  · by_cases hkg : k = g
    · subst hkg
      rw [hg] at hc
      injection hc with hc
      injection hc with h1 h2 h3
      subst h1; subst h2; subst h3
      exact ⟨_, hnew, by simp [Sort.putCells], fun i hi => (hi rfl).elim⟩
    · exact ⟨c, by rw [hold k (hlt hc), hc]; simp [hkg], rfl, fun _ _ => rfl⟩
  · have hkg : k ≠ g := ne_cells hg hk ho
    rw [hold k (hlt hk), hk]; simp [hkg]
/-- Words are sorted by their worth. -/
theorem fSort {v : Value} {wp tp : Addr} {ss : List (List UInt8)} {K : World → Prop} (f : Fr w0 w (rIt eS 1 v ss.length (ss.map fun s => Value.string (mkS s)) :: F)) (hs : ∀ s ∈ ss, s.length ≤ 24) (hn : ss.length ≤ 1000000000)
    (hw : sIt wp [.func (.func n_words_Find_1) #[] #[.pointer (some tp)]] ∈ F) (hc : sIt tp [.map (some b)] ∈ F) (hM : MapI w b ws) (hl : ws.length ≤ 1000000000)
    (hk : ∀ w', MapI w' b ws → Fr w0 w' (rIt eS 1 v ss.length ((ss.mergeSort fun x y => !ltU (fun s => ws.count s) y x).map fun s => Value.string (mkS s)) :: F) → K w') :
    gCall P n_slices_SortFunc_string_string shU #[v, .func (.func n_words_Find_2) #[] #[.pointer (some wp)]] w K := by
  have hrow : w.ownsRow 0 eS 1 v ss.length (ss.map fun s => Value.string (mkS s)) := f.get 0 rfl
  rcases row_cases hrow with ⟨rfl, h0⟩ | ⟨g, c, rfl⟩
  · have e0 : ss = [] := List.eq_nil_of_length_eq_zero h0
    subst e0
    refine gCall_of (Try.slices_SortFunc_none (α := Unit) none 0 _ w) ?_
    rintro _ _ ⟨rfl, rfl⟩
    exact ⟨rfl, hk _ hM (by simpa using f)⟩
  obtain ⟨cur, hg, hnc, hcm, hcs, htk, _⟩ := row_block hrow
  obtain ⟨d, hd⟩ : ∃ d : Array Wd, d = (ss.attach.map fun s => (⟨s.1, hs s.1 s.2⟩ : Wd)).toArray := ⟨_, rfl⟩
  have hdl : d.toList.map (·.1) = ss := by rw [hd]; simp
  have hds : d.size = ss.length := by rw [← Array.length_toList, ← List.length_map (·.1), hdl]
  have hde : d.toList.map enW = ss.map fun s => Value.string (mkS s) := by rw [← hdl, List.map_map]; rfl
  have hH : Sort.Holds enW w g 0 d := fun j hj => by
    have h1 : cur[j]? = some (enW d[j]!) := by
      have : (cur.toList.take (ss.length * 1))[j]? = some (enW d[j]!) := by
        rw [htk, ← hde, List.getElem?_map, Array.getElem?_toList, Array.getElem?_eq_getElem hj]
        simp [hj]
      rw [List.getElem?_take, if_pos (by omega), Array.getElem?_toList] at this
      exact this
    refine ⟨?_, ?_⟩
    · simp only [World.cell?, hg, Nat.zero_add]; exact h1
    · simp [World.frozen?, hg]
  have hpg : ∀ {q : Addr} {u : Value}, sIt q [u] ∈ F → q.block ≠ g := fun {q u} hq e => by
    refine f.2.2.1 _ hq g (show Value.ownBlock _ = some g from rfl) ?_
    exact e.symm
  have hcell : ∀ {q : Addr} {u : Value}, sIt q [u] ∈ F → w.cell? q = some u := fun {q u} hq => by
    have := St.cell (j := 0) (u := u) (f.mem (List.mem_cons_of_mem _ hq)).1 rfl
    rwa [Addr.add_zero'] at this
  have hcmp : CmpLays1 P n_words_Find_2 #[.pointer (some wp)] enW (cfW fun s => ws.count s) g 0 d.size w := fun m os dk hdk x y => by
    have hch := (sortWorld_ch (enc := enW) (m := m) (d := dk) (os := os) hg).1
    have keep : ∀ {q : Addr} {u : Value}, sIt q [u] ∈ F → (sortWorld enW w g 0 m dk os).cell? q = some u := fun hq => hch.cell (hcell hq) (hpg hq)
    refine (order_any (keep hw) (keep hc) (hM.ch hch) x.2 y.2 hl).mono ?_
    rintro e w' ⟨rfl, o, rfl⟩
    refine ⟨rfl, 1, #[o], ?_⟩
    show _ = Sort.grow _ _
    rw [← Sort.alloc_eq_grow]; rfl
  have hcon := Try.slices_SortFunc_total enW (fun _ => rfl) (cfW fun s => ws.count s) (swoW _) n_words_Find_2 #[.pointer (some wp)] g 0 c d w (call_ok_enters (by kernel_rfl)) hcmp hH (hlt hg) (by omega) (fun x y h1 h2 => Subtype.ext (ltU_total (c := fun s => ws.count s) h1 h2))
  rw [hds] at hcon
  refine gCall_of hcon ?_
  clear hcon hcmp
  rintro _ w' ⟨rfl, n, os, hw'⟩
  refine ⟨rfl, ?_⟩
  obtain ⟨sd, hsd⟩ : ∃ sd : Array Wd, sd = (d.toList.mergeSort fun x y => !(ltOf (cfW fun s => ws.count s)) y x).toArray := ⟨_, rfl⟩
  rw [← hsd] at hw'
  have hsl : sd.size = ss.length := by rw [hsd]; simp [← hds]
  have hse : sd.toList.map enW = (ss.mergeSort fun x y => !ltU (fun s => ws.count s) y x).map fun s => Value.string (mkS s) := by
    have h1 : (d.toList.mergeSort fun x y => !(ltOf (cfW fun s => ws.count s)) y x).map (·.1) = (d.toList.map (·.1)).mergeSort fun x y => !ltU (fun s => ws.count s) y x := List.map_mergeSort fun a _ b _ => rfl
    rw [hdl] at h1
    rw [← h1, hsd, List.map_map]; rfl
  have hcl : cur.size = c := by omega
  obtain ⟨hch, hgn⟩ := sortWorld_ch (enc := enW) (m := n) (d := sd) (os := os) hg
  rw [← hw'] at hch hgn
  obtain ⟨p1, p2⟩ := putCells_list enW sd cur (by omega)
  rw [hsl, hse] at p2
  have ok : w'.ownsRow 0 eS 1 (rowV g ss.length c) ss.length ((ss.mergeSort fun x y => !ltU (fun s => ws.count s) y x).map fun s => Value.string (mkS s)) := row_of hgn hnc hcm (by rw [p1, hcs]) (by rw [Nat.mul_one]; exact p2)
  exact hk w' (hM.ch hch) (f.upd (jt := rIt eS 1 (rowV g ss.length c) ss.length ((ss.mergeSort fun x y => !ltU (fun s => ws.count s) y x).map fun s => Value.string (mkS s))) 0 rfl hch (fun k _ hh => .inl (by rw [hh]; rfl)) ok fun k hk => .inl hk)
end
end Go.Proofs.YtijimpchglmkhaaV

/- Package words: the keys of a map, collected and sorted. -/
namespace Go.Proofs.YtijimpchglmkhaaV
open Go Go.RowKit Go.Maps
section
variable {w0 w : World} {F : List It} {b : Nat} {ws : List (List UInt8)}
theorem strKeys_nodup {D : Dt} {n : Nat} (h : w.ownsMap P t_string RI b n D) : (strKeys D).Nodup := by
  obtain ⟨es, rfl, hp, _⟩ := h.entries keyS
  obtain ⟨es', he, hk⟩ := h.keysOf
  have he : es = es' := by injection he
  subst he
  unfold strKeys
  refine List.pairwise_map.2 (hp.imp_of_mem fun {p q} hp1 hq1 hne e => hne ?_)
  obtain ⟨v, hv⟩ := hk p hp1
  obtain ⟨v2, hv2⟩ := hk q hq1
  obtain ⟨x, _, hx, _⟩ := Maps.keyOf_str (by kernel_rfl) hv
  obtain ⟨y, _, hy, _⟩ := Maps.keyOf_str (by kernel_rfl) hv2
  rw [hx, hy] at e ⊢
  have : x = y := e
  rw [this]
theorem MapI.kept {w' : World} (h : MapI w b ws) (k : KeepsOthers w w') : MapI w' b ws := by
  obtain ⟨o, h1, h2⟩ := h.block
  exact h.keep fun o' ho => by rw [h1] at ho; injection ho with ho; subst ho; exact k.same _ _ h1 h2
theorem fAllocK {t : TypeId} {z : Value} {K : Addr → World → Prop} (h : Fr w0 w F) (hz : (P.info? t).bind (·.zero) = some z) (hk : ∀ ad w', KeepsOthers w w' → Fr w0 w' (sIt ad z.cells.toList :: F) → K ad w') : gAlloc P t w K :=
  gAlloc_of hz fun ad w' he ha _ hS => hk ad w' he.others (h.new he hS fun k hk => by have hk : k = ad.block := hk; subst ha; dsimp only at hk; omega)
theorem Fr.left : ∀ {F G : List It}, Fr w0 w (F ++ G) → Fr w0 w F
  | [], _, h => h.old
  | _ :: _, _, h => ⟨h.1, h.2.1, fun jt hj => h.2.2.1 jt (List.mem_append_left _ hj), Fr.left h.2.2.2⟩
/-- The map's keys, in whatever order. -/
theorem Keys_any {K : Value → World → Prop} (f : Fr w0 w F) (m0 : Value) (hm : m0.cells = #[m0]) (hk : ∀ mb w', KeepsOthers w w' → (mb.off = 0 ∧ mb.spot = none) → Fr w0 w' (sIt mb [m0] :: F) → K (.func (.func n_maps_Keys_map_string_int_string_int_1) #[] #[.pointer (some mb)]) w') : gCall P n_maps_Keys_map_string_int_string_int shV #[m0] w K := by
  refine gCall_of (R := fun e w' => ∃ mb, e = .returned (.func (.func n_maps_Keys_map_string_int_string_int_1) #[] #[.pointer (some mb)]) ∧ KeepsOthers w w' ∧ (mb.off = 0 ∧ mb.spot = none) ∧ Fr w0 w' (sIt mb [m0] :: F)) (of_maps_Keys_map_string_int_string_int (gBox_of fun mb w1 he ha _ hS => ?_)) ?_
  · have f1 := f.new (jt := sIt mb m0.cells.toList) he hS fun k hk => by have hk : k = mb.block := hk; subst ha; dsimp only at hk; omega
    rw [hm] at f1
    exact ⟨mb, rfl, he.others, by subst ha; exact ⟨rfl, rfl⟩, f1⟩
  · rintro _ w' ⟨mb, rfl, h1, h2, f1⟩
    exact ⟨_, rfl, hk mb w' h1 h2 f1⟩
theorem fLitK {t : TypeId} {n : Nat} {parts : Array (Nat × Value)} {K : Value → World → Prop} (us : List Value) (h : Fr w0 w F) (hp : parts.toList = enumV 0 us) (hn : us.length = n) (h1 : ∀ v ∈ us, v.cells = #[v])
    (hk : ∀ v w', KeepsOthers w w' → Fr w0 w' F → Sl w' 1 v n us → K v w') (hm : n ≤ 1000000 := by decide) (ht : sl1 P t = true := by kernel_rfl) : gLit P t n parts w K :=
  gLit_1 us hp hn hm h1 (fun v w' he ho => hk v w' he.others (h.ev he) (Sl.of_ownS (sz := 1) ho)) ht
theorem fAppK {t ty : TypeId} {sz n m : Nat} {v y : Value} {cs ds : List Value} {K : Value → World → Prop} (b : Nat) (h : Fr w0 w F) (i : Nat) (hi : F[i]? = some (rIt (elOf P t) sz v n cs)) (hy : Sl w sz y m ds) (h1 : ∀ u ∈ ds, u.oneCell' = true) (hb : (n + m) * b ≤ 140737488355328) (hm : n + m ≤ maxLen)
    (hk : ∀ v' w', KeepsOthers w w' → Fr w0 w' (F.set i (rIt (elOf P t) sz v' (n + m) (cs ++ ds))) → K v' w') (ht : slRow P t sz b = true := by kernel_rfl) (hsz : 0 < sz := by decide) : gApp P #[t, t] ty #[v, y] w K := by
  obtain ⟨hu, ii, z, hii, hz, hs, hzs, hbb⟩ := slRow_ok ht
  obtain ⟨v', w', hr, ho, hc, hmv⟩ := run_append_ownS (P := P) t ty hu hii hz hs hzs hsz (h.get i hi) hy h1 (Nat.le_trans (Nat.mul_le_mul_left _ hbb) hb) hm (Nat.zero_le _)
  refine ⟨v', w', hr, hk v' w' hc.others (h.upd i hi hc (fun k _ hh => .inl hh) ho fun k hk => ?_)⟩
  rcases hmv with hmv | hmv
  · have hk : v'.ownBlock = some k := hk
    rw [hmv] at hk; exact .inl hk
  · exact .inr (hmv k hk)
theorem fStoreK {t : TypeId} {ad : Addr} {c u : Value} {K : World → Prop} (h : Fr w0 w F) (i : Nat) (hi : F[i]? = some (sIt ad [c])) (hk : ∀ w', KeepsOthers w w' → Fr w0 w' (F.set i (sIt ad [u])) → K w') (hu : u.oneCell' = true) (hcl : u.cells = #[u]) (ht : flat1 P t = true := by kernel_rfl) :
    gStore P t (.pointer (some ad)) u w K :=
  gStore_st0 (h.get i hi) (Nat.zero_lt_succ _) hu hcl (fun w' hc _ hS => hk w' hc.others (h.upd i hi hc (fun k _ hh => .inl hh.1) hS fun k hk => .inl hk)) ht
def CollE (w : World) (ws : List (List UInt8)) (e : Ending) (w' : World) : Prop := ∃ (v : Value) (ss : List (List UInt8)), e = .returned v ∧ ss.Nodup ∧ (∀ x, x ∈ ss ↔ x ∈ ws) ∧ Fr w w' [rIt eS 1 v ss.length (ss.map fun s => Value.string (mkS s))]
theorem Append_any {mb : Addr} (hc : w.cell? mb = some (.map (some b))) (h0 : mb.off = 0 ∧ mb.spot = none) (hM : MapI w b ws) (hl : ws.length ≤ 1000000000) : Calls P n_slices_AppendSeq_string_string #[.slice none 0 0, .func (.func n_maps_Keys_map_string_int_string_int_1) #[] #[.pointer (some mb)]] w (CollE w ws) := by
  obtain ⟨D, hD, hI, hat, hhas⟩ := hM
  obtain ⟨g, o, sp⟩ := mb
  obtain ⟨rfl, rfl⟩ := h0
  have hsz : Maps.size D ≤ ws.length := by
    obtain ⟨es, clock, _, _, h3, rfl⟩ := hD
    have : Maps.size (DataW.map ((es.toList.map (WideElems.rg P t_string RI)).foldr DataW.insert [])) = es.size := by
      simp [Maps.size, length_sorted]
    omega
  refine of_slices_AppendSeq_string_string (fBox (Fr.start w) fun sb w1 f1 => ?_)
  have f1 : Fr w w1 [sIt sb [.slice none 0 0]] := f1
  have hblk : ∀ {w' : World}, Ev w w' → w'.ownsMap P t_string RI b ws.length D := fun {w'} he => by
    obtain ⟨es, clock, h1, h2⟩ := hD
    exact ⟨es, clock, he.oth _ _ h1 rfl, h2⟩
  have hseq := AnyZ.keys_stops Try.laysKeys Fence.wide 4 trivial rfl (by decide) g b ws.length D w1 (World.block_lt_of_cell? w1 _ (f1.old.cell hc fun h => h)) (f1.old.cell hc fun h => h) (hblk f1.old)
  refine ⟨_, _, rfl, by kernel_rfl, List UInt8, encStr, KeepsWalks, _, _, Maps.size D, fun pre W => ∃ v, Fr w W [rIt eS 1 v pre.length (pre.map fun s => Value.string (mkS s)), sIt sb [v]], hseq, fun h k => walksK_t h k, fun W l o o' h1 h2 h3 h4 => walksK_b W l o o' h1 h2 h3 h4, ?_, ⟨_, f1.nilR eS 1⟩, ?_, ?_⟩
  · rintro pre W W' row ⟨v, fG⟩ hg hr
    exact ⟨v, fG.grown hg fun r e => ⟨Nat.le_trans f1.old.size (hr r e).1, (hr r e).2⟩⟩
  · rintro pre x W ⟨v, fG⟩ hlen
    have hv : v.cells = #[v] ∧ v.oneCell' = true := by
      have := fG.row 0 rfl
      obtain ⟨a, c, rfl, _⟩ := this
      exact ⟨rfl, rfl⟩
    refine gLoad_v (fG.cell0 1 rfl) (fLitK [encStr x] fG rfl rfl (fun u hu => by rw [List.mem_singleton.1 hu]; rfl) fun t10 w4 k4 f4 s4 => ?_)
    refine fAppK 16 (m := 1) f4 0 rfl s4 (fun u hu => by rw [List.mem_singleton.1 hu]; rfl) (by omega) (by unfold maxLen; omega) (fun v' w5 k5 f5 => ?_) (by kernel_rfl)
    have hv' : v'.cells = #[v'] ∧ v'.oneCell' = true := by
      have := f5.row 0 rfl
      obtain ⟨a, c, rfl, _⟩ := this
      exact ⟨rfl, rfl⟩
    refine fStoreK f5 1 rfl (fun w6 k6 f6 => ?_) hv'.2 hv'.1
    have ko := k4.trans (k5.trans k6)
    refine ⟨ko, ko.walks, v', ?_⟩
    rw [List.length_append, List.map_append]
    exact f6
  · rintro DD xs W hD2 ⟨hp, hx⟩ ⟨v, fG⟩ hdef
    refine gLoad_v (fG.cell0 1 rfl) ⟨hdef, v, xs, rfl, ?_, fun x => ?_, ?_⟩
    · exact hp.nodup_iff.2 (strKeys_nodup hD)
    · rw [hx x, hhas x]
    · exact (fG.putObj (Nat.le_trans f1.old.size hD2) hdef rfl).picksN 2 [0] (by decide) (by decide)
/-- slices.SortedFunc of a map's keys: the words, by their worth. -/
theorem fSorted {mb wp tp : Addr} {K : Value → World → Prop} (f : Fr w0 w F) (h0 : mb.off = 0 ∧ mb.spot = none) (hm : sIt mb [.map (some b)] ∈ F) (hw : sIt wp [.func (.func n_words_Find_1) #[] #[.pointer (some tp)]] ∈ F) (hc : sIt tp [.map (some b)] ∈ F) (hM : MapI w b ws) (hl : ws.length ≤ 1000000000) (h24 : ∀ s ∈ ws, s.length ≤ 24)
    (hk : ∀ v w', MapI w' b ws → Fr w0 w' (rIt eS 1 v (sortedU ws).length ((sortedU ws).map fun s => Value.string (mkS s)) :: F) → K v w') :
    gCall P n_slices_SortedFunc_string shV #[.func (.func n_maps_Keys_map_string_int_string_int_1) #[] #[.pointer (some mb)], .func (.func n_words_Find_2) #[] #[.pointer (some wp)]] w K := by
  have hcell : ∀ {q : Addr} {u : Value}, sIt q [u] ∈ F → w.cell? q = some u := fun {q u} hq => by
    have := St.cell (j := 0) (u := u) (f.mem hq).1 rfl
    rwa [Addr.add_zero'] at this
  refine gCall_of (R := fun e w' => ∃ v, e = .returned v ∧ MapI w' b ws ∧ Fr w0 w' (rIt eS 1 v (sortedU ws).length ((sortedU ws).map fun s => Value.string (mkS s)) :: F)) (of_slices_SortedFunc_string (gCall_of (R := CollE w ws) (of_slices_Collect_string (gCall_of (Append_any (hcell hm) h0 hM hl) ?_)) ?_)) ?_
  · rintro e w1 ⟨v, ss, rfl, h⟩
    exact ⟨v, rfl, v, ss, rfl, h⟩
  · rintro _ w1 ⟨v, ss, rfl, hn, hx, g1⟩
    have f1 := f.glue g1
    have hlen : ss.length ≤ ws.length := by
      have : ss.Perm (dd ws) := perm_of_mem hn (nodup_dd ws) fun x => by rw [hx x, mem_dd]
      rw [this.length_eq, ← (sortedU_perm ws).length_eq]; exact sortedU_len ws
    refine ⟨v, rfl, fSort f1 (fun s hs => h24 s ((hx s).1 hs)) (by omega) hw hc (hM.ch g1.old) hl fun w2 hM2 f2 => ?_⟩
    rw [sorted_of hn hx] at f2
    refine ⟨v, rfl, hM2, ?_⟩
    have hsl : ss.length = (sortedU ws).length := by rw [← sorted_of hn hx, (List.mergeSort_perm _ _).length_eq]
    rw [← hsl]
    exact f2
  · rintro _ w' ⟨v, rfl, h1, h2⟩
    exact ⟨v, rfl, hk v w' h1 h2⟩
end
end Go.Proofs.YtijimpchglmkhaaV

/- Package words: bytes of a text; Find. -/
namespace Go.Proofs.YtijimpchglmkhaaV
open Go Go.RowKit
/-! ### []byte(s) -/
def Tx (e : TypeId) (w : World) (v : Value) (xs : List Int) : Prop := ∃ g c cur, v = .slice (some ⟨g, 0, none⟩) xs.length c ∧ xs.length ≤ c ∧ w.heap[g]? = some (.cells cur e (cur.size, cur.size + 1)) ∧ cur.size = c ∧ cur.toList.take xs.length = xs.map (Value.int .u8) ∧ inR .u8 xs
theorem Tx.ch {e : TypeId} {S : SS} {w w' : World} {v : Value} {xs : List Int} (h : Tx e w v xs) (hc : Ch S w w') (hs : ∀ k i, v.ownBlock = some k → ¬ S k i) : Tx e w' v xs := by
  obtain ⟨g, c, cur, rfl, h1, h2, h3⟩ := h
  exact ⟨g, c, cur, rfl, h1, by rw [hc.blk g (hlt h2) fun i => hs g i rfl]; exact h2, h3⟩
theorem Tx.nm {e : TypeId} {w : World} {v : Value} {xs : List Int} (h : Tx e w v xs) : Nm .u8 w v xs := by
  obtain ⟨g, c, cur, rfl, h1, h2, h3, h4, h5⟩ := h
  refine ⟨⟨some ⟨g, 0, none⟩, c, rfl, h1, by simp, fun ad ha j u hj => ?_, fun h => by cases h⟩, h5⟩
  injection ha with ha; subst ha
  rw [Addr.add_lit]
  have hjl : j < xs.length := by simpa using (List.getElem?_eq_some_iff.1 hj).1
  rw [← h4, List.getElem?_take, if_pos hjl, Array.getElem?_toList] at hj
  simp [World.cell?, h2, hj]
def tIt (e : TypeId) (v : Value) (xs : List Int) : It := ⟨fun b => v.ownBlock = some b, fun w => Tx e w v xs, fun _ _ h hk => by
    obtain ⟨g, c, cur, rfl, _, h1, _⟩ := h
    simp [Value.ownBlock] at hk; subst hk; exact ⟨_, _, _, h1⟩, fun _ _ _ h hc hs => h.ch hc hs, fun _ _ h _ hc => by
    obtain ⟨g, c, cur, rfl, h1, h2, h3⟩ := h; exact ⟨g, c, cur, rfl, h1, by rw [hc _ _ _ _ h2]; exact h2, h3⟩⟩
def strBytes (P : Program) (s d : TypeId) : Bool := match P.underlying s, P.underlying d with
  | some .string, some (.slice e) => (match P.underlying e with | some (.int .u8) => true | _ => false)
  | _, _ => false
section
variable {w0 w : World} {F : List It}
theorem fConvSb {s d : TypeId} {l : List UInt8} {K : Value → World → Prop} (f : Fr w0 w F) (hl : l.length ≤ 1000000) (hk : ∀ v w', KeepsOthers w w' → Fr w0 w' (tIt (elOf P d) v (iU l) :: F) → K v w') (ht : strBytes P s d = true := by kernel_rfl) : gConv P s d shV (.string (mkS l)) w K := by
  unfold strBytes at ht
  split at ht
  · rename_i e hs hd
    split at ht
    · rename_i he
      have hel : elOf P d = e := by unfold elOf; rw [hd]
      rw [hel] at hk
      have hge := grownCap_ge w (mkS l).size 0 e
      have hil := iU_len l
      have hsz : (mkS l).size = l.length := mkS_size l
      have hrs : (bytesRow (mkS l) (grownCap w (mkS l).size 0 e)).size = grownCap w (mkS l).size 0 e := by
        unfold bytesRow
        have : (mkS l).data.size = l.length := by simp [mkS]
        simp only [Array.size_append, Array.size_map, Array.size_replicate, this, hsz] at *
        omega
      refine ⟨_, _, run_bytes_of_string w s d e (mkS l) hs hd he, hk _ _ (Ev.trans (Ev.drew0 w) (Ev.alloc w.drew _)).others (f.new (jt := tIt e _ (iU l)) (Ev.trans (Ev.drew0 w) (Ev.alloc w.drew _)) ⟨w.heap.size, _, _, by rw [hil, hsz], by rw [hil]; omega, heap_alloc_new w.drew _, hrs, ?_, iU_u8 l⟩ fun k hk => ?_)⟩
      · unfold bytesRow
        rw [Array.toList_append, List.take_left' (by simp [mkS, iU_len])]
        simp [mkS, iU, Function.comp_def]
      · have : w.heap.size = k := by simpa [tIt, Value.ownBlock] using hk
        omega
    · cases ht
  · cases ht
/-- One of its places is written. -/
theorem fSetT {t te : TypeId} {ki : IntKind} {v : Value} {xs : List Int} {i x : Int} {K : World → Prop} (h : Fr w0 w F) (q : Nat) (hq : F[q]? = some (tIt (elOf P t) v xs)) (j : Nat) (hij : i = (j : Int)) (hj : j < xs.length) (hx : IntKind.u8.min ≤ x ∧ x ≤ IntKind.u8.max)
    (hk : ∀ w', Fr w0 w' (F.set q (tIt (elOf P t) v (xs.set j x))) → K w') (ht : slSz P t 1 = true := by kernel_rfl) (hte : flat1 P te = true := by kernel_rfl) : gIdx P t v (.int ki i) fun ad => gStore P te (.pointer (some ad)) (.int .u8 x) w K := by
  have hC : Tx (elOf P t) w v xs := h.get q hq
  obtain ⟨g, c, cur, rfl, h1, hg, hsz, htk, hr⟩ := hC
  refine gIdx_lit (sz := 1) j hij hj ?_ ht
  rw [Nat.mul_one, Addr.add_lit, Nat.zero_add]
  have hcj : cur[j]? = some (.int .u8 xs[j]) := by
    have : (xs.map (Value.int .u8))[j]? = some (.int .u8 xs[j]) := by simp [hj]
    rwa [← htk, List.getElem?_take, if_pos hj, Array.getElem?_toList] at this
  have hc : w.cell? ⟨g, j, none⟩ = some (.int .u8 xs[j]) := by simp [World.cell?, hg, hcj]
  have hf : w.frozen? ⟨g, j, none⟩ = false := by simp [World.frozen?, hg]; omega
  refine ⟨w.setCell ⟨g, j, none⟩ (.int .u8 x), run_storeAt hc hf rfl rfl hte, hk _ (h.upd q hq (setCell_ch w ⟨g, j, none⟩ (.int .u8 x)) (fun k i hh => .inl (by show some g = some k; rw [hh.1])) ⟨g, c, cur.setIfInBounds j (.int .u8 x), by simp, by simpa using h1, ?_, by simpa using hsz, ?_, fun y hy => ?_⟩ fun k hk => .inl hk)⟩
  · simp only [World.setCell, Array.getElem?_modify, if_true, hg, Option.map_some, Array.size_setIfInBounds]
    simp
  · rw [List.length_set, Array.toList_setIfInBounds, List.take_set, htk, List.map_set]
  · rcases List.mem_or_eq_of_mem_set hy with hy | rfl
    · exact hr y hy
    · exact hx
/-! ### Words in memory of one's own -/
noncomputable abbrev eW : TypeId := elOf P t_sl_sl_uint8
noncomputable abbrev eB1 : TypeId := elOf P t_sl_uint8
noncomputable def wdP (v : Value) (T : List (Value × List Int)) : List It := rIt eW 1 v T.length (T.map (·.1)) :: T.reverse.map fun u => tIt eB1 u.1 u.2
theorem wdP_step {out v : Value} {T : List (Value × List Int)} {xs : List Int} {K : Value → World → Prop} (f : Fr w0 w (tIt eB1 v xs :: wdP out T ++ F)) (hl : T.length ≤ 1000) (hk : ∀ out' w', KeepsOthers w w' → Fr w0 w' (wdP out' (T ++ [(v, xs)]) ++ F) → K out' w') :
    gLit P t_sl_sl_uint8 1 #[(0, v)] w fun t20 w5 => gApp P #[t_sl_sl_uint8, t_sl_sl_uint8] t_sl_sl_uint8 #[out, t20] w5 K := by
  have hn : Nm .u8 w v xs := Tx.nm (f.get 0 rfl)
  have ho : v.oneCell' = true := by obtain ⟨a, c, rfl, _⟩ := hn.shape; rfl
  refine fLitK [v] f rfl rfl (fun u hu => by rw [List.mem_singleton.1 hu]; exact hn.one) fun t5 w5 k5 f5 s5 => ?_
  refine fAppK 24 (m := 1) f5 1 rfl s5 (fun x hx => by rw [List.mem_singleton.1 hx]; exact ho) (by omega) (by unfold maxLen; omega) (fun v' w6 k6 f6 => hk v' w6 (k5.trans k6) ?_) (by kernel_rfl)
  have f7 := f6.picksN 2 [1, 0] (by decide) (by decide)
  have e1 : wdP v' (T ++ [(v, xs)]) ++ F = rIt eW 1 v' (T.length + 1) (T.map (·.1) ++ [v]) :: tIt eB1 v xs :: ((T.reverse.map fun u => tIt eB1 u.1 u.2) ++ F) := by
    unfold wdP; rw [List.map_append, List.length_append, List.reverse_append]; rfl
  rw [e1]; exact f7
theorem wdP_at {v : Value} {T : List (Value × List Int)} (f : Fr w0 w (wdP v T ++ F)) : Sl w 1 v T.length (T.map (·.1)) ∧ ∀ u ∈ T, Nm .u8 w u.1 u.2 := by
  refine ⟨f.row 0 rfl, fun u hu => Tx.nm (e := eB1) ?_⟩
  have hm : tIt eB1 u.1 u.2 ∈ wdP v T ++ F := List.mem_append_left _ (List.mem_cons_of_mem _ (List.mem_map.2 ⟨u, List.mem_reverse.2 hu, rfl⟩))
  exact (f.mem hm).1
/-! ### Find -/
def FindE (w : World) (L : List (List UInt8)) (e : Ending) (w' : World) : Prop := ∃ (v : Value) (T : List (Value × List Int)), e = .returned v ∧ T.map (·.2) = L.map iU ∧ Fr w w' (wdP v T)
theorem findU_rest {ws : List (List UInt8)} {c : List UInt8 → Bool} {k : Nat} (hk : k < ws.length) : ((ws.take (k + 1)).filter c).take 64 = if c ws[k] = true ∧ (((ws.take k).filter c).take 64).length < 64 then ((ws.take k).filter c).take 64 ++ [ws[k]] else ((ws.take k).filter c).take 64 := by
  rw [List.take_succ_eq_append_getElem hk, List.filter_append]
  by_cases hc : c ws[k] = true
  · rw [List.filter_cons_of_pos hc, List.filter_nil]
    by_cases hl : (((ws.take k).filter c).take 64).length < 64
    · rw [if_pos ⟨hc, hl⟩]
      have : ((ws.take k).filter c).length < 64 := by rw [List.length_take] at hl; omega
      rw [List.take_of_length_le (l := (ws.take k).filter c ++ [ws[k]]) (by simp; omega), List.take_of_length_le (l := (ws.take k).filter c) (by omega)]
    · rw [if_neg fun h => hl h.2]
      have : 64 ≤ ((ws.take k).filter c).length := by rw [List.length_take] at hl; omega
      rw [List.take_append_of_le_length this]
  · rw [if_neg fun h => hc h.1, List.filter_cons_of_neg hc, List.filter_nil, List.append_nil]
theorem Find_any {b : Value} {xs : List Int} (hb : Nm .u8 w b xs) (hl : xs.length ≤ 1000000) : Calls P n_words_Find #[b] w (FindE w (findU (wordsU xs))) := by
  obtain ⟨W, hW⟩ : ∃ W, W = wordsU xs := ⟨_, rfl⟩
  have hwl := wordsU_len xs.length xs (Nat.le_refl _)
  rw [← hW] at hwl ⊢
  refine of_words_Find (gMakeMap fun w1 e1 hM1 => ?_)
  obtain ⟨B, hB⟩ : ∃ B, B = w.heap.size := ⟨_, rfl⟩
  rw [← hB] at hM1 ⊢
  refine fAllocK (z := .map none) ((Fr.start w).ev e1) (by kernel_rfl) fun tp w2 k2 f2 => fStoreK f2 0 rfl (fun w3 k3 f3 => ?_) rfl rfl
  have f3 : Fr w w3 [sIt tp [.map (some B)]] := f3
  have hM3 := (hM1.kept k2).kept k3
  refine ⟨fun b' w' => ∃ (p : Nat) (ws : List (List UInt8)), p ≤ xs.length ∧ Nm .u8 w b' (xs.drop p) ∧ ws ++ wordsU (xs.drop p) = W ∧ MapI w' B ws ∧ Fr w w' [sIt tp [.map (some B)]], fun b' _ => (match b' with | .slice _ n _ => n | _ => 0), ⟨0, [], Nat.zero_le _, by rw [List.drop_zero]; exact hb, by rw [List.drop_zero, hW]; rfl, hM3, f3⟩, ?_⟩
  rintro _ b' w4 ⟨p, ws, hp, hb', hws, hM4, f4⟩
  have hb4 := hb'.ev f4.old
  have hdl : (xs.drop p).length = xs.length - p := List.length_drop
  have hwsl : ws.length ≤ xs.length := by have := congrArg List.length hws; rw [List.length_append] at this; omega
  refine gLen_nm hb4 (gIf_dec (fun hgt => ?_) (fun hle => ?_))
  · refine gCall_of (run_any hb4 (by omega)) ?_
    rintro _ w5 ⟨rfl, hw5⟩
    obtain rfl : w4 = w5 := hw5.symm
    have hrl := runN_le (xs.drop p)
    have hne : xs.drop p ≠ [] := fun h => by rw [h] at hgt; simp at hgt
    obtain ⟨n, hn⟩ : ∃ n, n = runN (xs.drop p) := ⟨_, rfl⟩
    have hst := wordsU_step hne
    rw [← hn] at hrl hst ⊢
    refine ⟨_, rfl, fun w' => MapI w' B (ws ++ (if 3 ≤ n ∧ n ≤ 24 then [bU ((xs.drop p).take n)] else [])) ∧ Fr w w' [sIt tp [.map (some B)]], gIf_dec (fun h3 => gIf_dec (fun h24 => ?_) (fun h24 => ?_)) (fun h3 => ?_), ?_⟩
    · refine ⟨fun w' => w'.cell? tp = some (.map (some B)), f4.drew.cell0 0 rfl, gLoadB_v (fun w' h => h) (gSlice_nm (hb4.drew) 0 n (.inl ⟨rfl, rfl⟩) (.inr ⟨_, rfl⟩) (Nat.zero_le _) (by omega) fun hs => gConv_bs hs ⟨f4.drew.cell0 0 rfl, ?_⟩)⟩
      rw [bsOf_mk, List.drop_zero, Nat.sub_zero]
      have hwl1 : (bU ((xs.drop p).take n)).length ≤ 1000 := by rw [bU_len, List.length_take]; omega
      have hM5 : MapI w4.drew B ws := hM4.ch (Ev.drew0 w4)
      have hcl : ws.count (bU ((xs.drop p).take n)) ≤ ws.length := List.count_le_length
      refine gLookup hM5 hwl1 ⟨f4.drew.cell0 0 rfl, gBump hM5 hwl1 (by omega) (by rw [i64_id (by omega) (by omega)]) fun w6 hg hM6 => ?_⟩
      have f6 : Fr w w6 [sIt tp [.map (some B)]] := f4.drew.grown hg fun r e => by
        injection e with e; subst e
        exact ⟨by omega, hM5.block⟩
      refine ⟨f6.cell0 0 rfl, ?_, f6⟩
      rw [if_pos (by omega)]; exact hM6
    · rw [if_neg (by omega), List.append_nil]; exact ⟨hM4, f4⟩
    · rw [if_neg (by omega), List.append_nil]; exact ⟨hM4, f4⟩
    · rintro _ w7 ⟨hM7, f7⟩
      have hmx : (if 1 > ((n : Nat) : Int) then (1 : Int) else ((n : Nat) : Int)) = (((if 1 > n then 1 else n) : Nat) : Int) := by split <;> split <;> omega
      obtain ⟨m, hm⟩ : ∃ m, m = (if 1 > n then 1 else n) := ⟨_, rfl⟩
      rw [hmx, ← hm]
      rw [← hm] at hst
      have hm1 : 1 ≤ m ∧ m ≤ xs.length - p := by rw [hm]; split <;> omega
      refine gSlice_nm (hb'.ev f7.old) m (xs.drop p).length (.inr ⟨_, rfl⟩) (.inl ⟨rfl, rfl⟩) (by omega) (Nat.le_refl _) fun hs => ?_
      have hsub := hb'.sub m (xs.drop p).length (by omega) (Nat.le_refl _)
      rw [List.take_of_length_le (by rw [List.length_drop]; omega), List.drop_drop] at hsub
      refine ⟨⟨p + m, _, by omega, hsub, ?_, hM7, f7⟩, ?_⟩
      · rw [List.append_assoc, ← List.drop_drop, ← hst]; exact hws
      · obtain ⟨a1, c1, e1, _⟩ := hb'.shape
        obtain ⟨a2, c2, e2, _⟩ := hsub.shape
        rw [e2, e1]
        dsimp only
        rw [List.length_drop, List.length_drop]; omega
  · have hnil : xs.drop p = [] := List.eq_nil_of_length_eq_zero (by omega)
    rw [hnil, wordsU_nil, List.append_nil] at hws
    subst hws
    refine fAllocK (z := .nilFunc) f4 (by kernel_rfl) fun wp w5 k5 f5 => fStoreK f5 0 rfl (fun w6 k6 f6 => ?_) rfl rfl
    have f6 : Fr w w6 [sIt wp [.func (.func n_words_Find_1) #[] #[.pointer (some tp)]], sIt tp [.map (some B)]] := f6
    have hM6 := (hM4.kept k5).kept k6
    refine gLoad_v (f6.cell0 1 rfl) (Keys_any f6 _ rfl fun mb w7 k7 h0 f7 => ?_)
    have hM7 := hM6.kept k7
    refine fSorted (mb := mb) (wp := wp) (tp := tp) f7 h0 (by simp) (by simp) (by simp) hM7 (by omega) (fun s hs => (hwl.2 s hs).2) fun v w8 hM8 f8 => ?_
    obtain ⟨S, hS⟩ : ∃ S, S = sortedU ws := ⟨_, rfl⟩
    rw [← hS] at f8
    have hSl : S.length ≤ ws.length := by rw [hS]; exact sortedU_len ws
    have hSm : ∀ s ∈ S, s.length ≤ 24 := fun s hs => (hwl.2 s (mem_sortedU.1 (hS ▸ hs))).2
    refine gLen_slv (f8.row 0 rfl) ⟨fun out i w' => ∃ (k : Nat) (T : List (Value × List Int)), i = (k : Int) ∧ k ≤ S.length ∧ T.map (·.2) = (((S.take k).filter fun s => decide (1 < ws.count s)).take 64).map iU ∧ MapI w' B ws ∧ Fr w w' (wdP out T ++ [rIt eS 1 v S.length (S.map fun s => Value.string (mkS s)), sIt tp [.map (some B)]]), fun _ i _ => (S.length - i).toNat, ⟨0, [], rfl, Nat.zero_le _, rfl, hM8, ?_⟩, ?_⟩
    · have := (f8.picksN 4 [0, 3] (by decide) (by decide)).nilR eW 1
      exact this
    rintro _ out i w9 ⟨k, T, rfl, hk, hT, hM9, f9⟩
    have hTl : T.length ≤ 64 := by have := congrArg List.length hT; rw [List.length_map, List.length_map, List.length_take] at this; omega
    have hrow : ∀ {w' : World} {out : Value} {T : List (Value × List Int)}, Fr w w' (wdP out T ++ [rIt eS 1 v S.length (S.map fun s => Value.string (mkS s)), sIt tp [.map (some B)]]) → Sl w' 1 v S.length (S.map fun s => Value.string (mkS s)) ∧ w'.cell? tp = some (.map (some B)) := fun {w' out T} f => by
      refine ⟨Sl.of_ownS (sz := 1) (f.mem (it := rIt eS 1 v S.length (S.map fun s => Value.string (mkS s))) (by simp)).1, ?_⟩
      have := St.cell (j := 0) (u := Value.map (some B)) (f.mem (it := sIt tp [.map (some B)]) (by simp)).1 rfl
      rwa [Addr.add_zero'] at this
    refine gIf_dec (fun hlt => ?_) (fun hge => ?_)
    · have hkS : k < S.length := by omega
      obtain ⟨h1, h2⟩ := hrow f9
      refine gIdx_1 h1 (by omega) (by omega) fun a u hua hc _ => ?_
      have hue : u = .string (mkS S[k]) := by
        rw [Int.toNat_natCast, List.getElem?_map, List.getElem?_eq_getElem hkS] at hua
        simpa using hua.symm
      subst hue
      refine gLoad_s hc (gLoad_v h2 (gLookup hM9 (by have := hSm S[k] (List.getElem_mem hkS); omega) ?_))
      have hnext := findU_rest (ws := S) (c := fun s => decide (1 < ws.count s)) hkS
      have hlen : (((S.take k).filter fun s => decide (1 < ws.count s)).take 64).length = T.length := by have := congrArg List.length hT; simpa using this.symm
      rw [hlen] at hnext
      have skip : ¬ ((fun s => decide (1 < ws.count s)) S[k] = true ∧ T.length < 64) → (∃ (k' : Nat) (T' : List (Value × List Int)), i64 ((k : Int) + 1) = (k' : Int) ∧ k' ≤ S.length ∧ T'.map (·.2) = (((S.take k').filter fun s => decide (1 < ws.count s)).take 64).map iU ∧ MapI w9 B ws ∧ Fr w w9 (wdP out T' ++ [rIt eS 1 v S.length (S.map fun s => Value.string (mkS s)), sIt tp [.map (some B)]])) ∧ (S.length - i64 ((k : Int) + 1)).toNat < (S.length - (k : Int)).toNat := fun hn => by
        rw [if_neg hn] at hnext
        exact ⟨⟨k + 1, T, by rw [i64_id (by omega) (by omega)]; omega, by omega, by rw [hnext]; exact hT, hM9, f9⟩, by rw [i64_id (by omega) (by omega)]; omega⟩
      refine gIf_dec (fun hc1 => gLen_slv (wdP_at f9).1 (gIf_dec (fun h64 => ?_) (fun h64 => skip fun h => by omega))) (fun hc1 => skip fun h => by have := of_decide_eq_true h.1; omega)
      rw [if_pos ⟨decide_eq_true (by omega), by omega⟩] at hnext
      refine fConvSb f9 (by have := hSm S[k] (List.getElem_mem hkS); omega) fun u w10 k10 f10 => wdP_step f10 (by omega) fun out' w11 k11 f11 => ⟨⟨k + 1, _, by rw [i64_id (by omega) (by omega)]; omega, by omega, ?_, (hM9.kept k10).kept k11, f11⟩, by dsimp only; rw [i64_id (by omega) (by omega)]; omega⟩
      rw [hnext, List.map_append, List.map_append, hT]; rfl
    · obtain rfl : k = S.length := by omega
      rw [List.take_length] at hT
      refine ⟨out, T, rfl, by rw [hT, hS]; rfl, ?_⟩
      exact f9.left
end
end Go.Proofs.YtijimpchglmkhaaV

/- Package valisehelp: Bytes. -/
namespace Go.Proofs.YtijimpchglmkhaaV
open Go Go.RowKit
theorem Bytes_any {a b : Value} {xs ys : List Int} {w : World} (ha : Nm .u8 w a xs) (hb : Nm .u8 w b ys) : Calls P n_valisehelp_Bytes #[a, b] w (fun e w' => e = .returned (.bool (decide (xs = ys))) ∧ w' = w) :=
  of_valisehelp_Bytes (gConv_bs ha (gConv_bs hb ⟨by rw [bsOf_eq ha.2 hb.2], rfl⟩))
end Go.Proofs.YtijimpchglmkhaaV

/- Package valisehelp: Own, Kept, Plain, Same of @T@. -/
namespace Go.Proofs.YtijimpchglmkhaaV
open Go Go.RowKit
theorem Own_byte_on {l : Value} {xs : List Int} {f : Int} {w : World} (h : Nm .u8 w l xs) (hl : xs.length ≤ 1000000000) (hf : IntKind.u8.min ≤ f ∧ f ≤ IntKind.u8.max) :
    Calls P n_valisehelp_Own_byte #[l, .int .u8 f] w (fun e w' => ∃ v, e = .returned v ∧ Ev w w' ∧ Owd .u8 w' v xs f ∧ ON .u8 (elOf P t_sl_uint8) w' w.heap.size v xs) := by
  refine of_valisehelp_Own_byte (gLen_nm h ?_)
  rw [show i64 ((xs.length : Int) + 3) = ((xs.length + 3 : Nat) : Int) from i64_id (by omega) (by omega)]
  refine gMake_cap (k := .u8) (by omega) fun w1 h1 hs1 hF => ?_
  generalize hg : w.heap.size = g at *
  have hz : (List.replicate (xs.length + 3) (0 : Int)).length = xs.length + 3 := by simp
  refine gApp_room (n := 0) hF hz (h.ev h1) (by omega) fun w2 h2 hs2 hF2 => gLen_nm h ?_
  rw [show i64 ((xs.length : Int) + 3) = ((xs.length + 3 : Nat) : Int) from i64_id (by omega) (by omega), Nat.zero_add]
  rw [Nat.zero_add] at hF2
  have e0 : List.replicate (xs.length + 3) (0 : Int) = List.replicate xs.length 0 ++ [0, 0, 0] := List.replicate_append_replicate.symm
  have eF : List.take 0 (List.replicate (xs.length + 3) (0 : Int)) ++ xs ++ List.drop xs.length (List.replicate (xs.length + 3) 0) = xs ++ [0, 0, 0] := by
    rw [e0, List.drop_append_of_le_length (by simp), List.drop_of_length_le (by simp)]; simp
  rw [eF] at hF2
  refine gSlice_any (sz := 1) (l := 0) (h := xs.length + 3) (.inl ⟨rfl, rfl⟩) (.inr ⟨_, rfl⟩) (by omega) (by omega) ?_ (by kernel_rfl)
  rw [subV_z (by omega)]
  have hO := hF2.on (xs.length + 3) (by simp)
  rw [List.take_of_length_le (by simp)] at hO
  have e2 : (xs ++ [(0 : Int), 0, 0]).length = xs.length + 3 := by simp
  rw [e2] at hO
  have hev : Ev w w2 := h1.new h2 fun n i hh => by rw [hh]; omega
  refine gLen_nm h ⟨fun i w3 => ∃ j : Nat, i = ((xs.length + j : Nat) : Int) ∧ j ≤ 3 ∧ Ev w w3 ∧ ON .u8 (elOf P t_sl_uint8) w3 g (.slice (some ⟨g, 0, none⟩) (xs.length + 3) (xs.length + 3)) (xs ++ (List.replicate j f ++ List.replicate (3 - j) 0)), fun i _ => xs.length + 3 - i.toNat, ⟨0, by omega, by omega, hev, hO⟩, ?_⟩
  rintro _ i w3 ⟨j, rfl, hj, h3, hO3⟩
  have hln : (xs ++ (List.replicate j f ++ List.replicate (3 - j) (0 : Int))).length = xs.length + 3 := by simp; omega
  refine gLen_nm hO3.nm (gIf_dec (fun hlt => ?_) (fun hge => ?_))
  · rw [hln] at hlt
    refine gIdx_on hO3 (by omega) (by rw [hln]; omega) fun ad hs _ => gStore_on hO3 hs (by omega) (by rw [hln]; omega) hf fun w4 h4 _ hO4 => ?_
    rw [show i64 (((xs.length + j : Nat) : Int) + 1) = ((xs.length + (j + 1) : Nat) : Int) by rw [i64_id (by omega) (by omega)]; omega]
    refine ⟨⟨j + 1, rfl, by omega, h3.new h4 fun n i hh => ?_, ?_⟩, by dsimp only; omega⟩
    · have : n = g := by simpa [Value.ownBlock] using hh.symm
      omega
    · have e3 : (xs ++ (List.replicate j f ++ List.replicate (3 - j) (0 : Int))).set (xs.length + j) f = xs ++ (List.replicate (j + 1) f ++ List.replicate (3 - (j + 1)) 0) := by
        rw [List.set_append_right _ _ (by omega), show xs.length + j - xs.length = j by omega, List.set_append_right _ _ (by simp), List.length_replicate, Nat.sub_self, show 3 - j = (3 - (j + 1)) + 1 by omega, List.replicate_succ, List.set_cons_zero, List.replicate_succ']
        simp
      rw [Int.toNat_natCast, e3] at hO4
      exact hO4
  · rw [hln] at hge
    obtain rfl : j = 3 := by omega
    refine ⟨_, rfl, h3, ⟨some ⟨g, 0, none⟩, xs.length + 3, rfl, Nat.le_refl _, hO3.nm⟩, ?_⟩
    have := hO3.pre xs.length (by omega)
    rw [List.take_left] at this
    exact this
theorem Own_byte_any {l : Value} {xs : List Int} {f : Int} {w : World} (h : Nm .u8 w l xs) (hl : xs.length ≤ 1000000000) (hf : IntKind.u8.min ≤ f ∧ f ≤ IntKind.u8.max) :
    Calls P n_valisehelp_Own_byte #[l, .int .u8 f] w (fun e w' => ∃ v, e = .returned v ∧ Ev w w' ∧ Owd .u8 w' v xs f) :=
  (Own_byte_on h hl hf).mono fun _ _ ⟨v, h1, h2, h3, _⟩ => ⟨v, h1, h2, h3⟩
theorem Same_byte_any {a b : Value} {xs ys : List Int} {w : World} (ha : Nm .u8 w a xs) (hb : Nm .u8 w b ys) (hl : xs.length ≤ 1000000000) :
    Calls P n_valisehelp_Same_byte' #[a, b, .func (.func n_valisehelp_Plain_byte_1) #[] #[]] w (fun e w' => e = .returned (.bool (decide (xs = ys))) ∧ Ev w w') := by
  refine of_valisehelp_Same_byte' (gLen_nm ha (gLen_nm hb (gIf_neq (fun hne => ⟨by rw [decide_eq_false fun h => hne (by rw [h])], Ch.refl _ w⟩) (fun heq => ?_))))
  have hle : xs.length = ys.length := by omega
  refine ⟨fun i w' => ∃ j : Nat, i = j ∧ j ≤ xs.length ∧ (∀ q, q < j → rd xs q = rd ys q) ∧ Ev w w', fun i _ => xs.length - i.toNat, ⟨0, rfl, by omega, by omega, Ch.refl _ w⟩, ?_⟩
  rintro _ i w1 ⟨j, rfl, hj, hq, h1⟩
  refine gLen_nm ha (gIf_dec (fun hlt => ?_) (fun hge => ⟨?_, h1⟩))
  · refine ⟨fun w' => w' = w1.drew, rfl, gIdx_nm (ha.ev h1) (by omega) (by omega) fun a1 c1 _ => gLoadB_i (at1 c1) (gIdx_nm (hb.ev h1) (by omega) (by omega) fun a2 c2 _ => gLoadB_i (at1 c2) (gCallV_of rfl (by kernel_rfl) (of_valisehelp_Plain_byte_1 (R := fun e w' => e = .returned (.bool (rd xs j == rd ys j)) ∧ w' = w1.drew) ⟨rfl, rfl⟩) ?_))⟩
    rintro _ _ ⟨rfl, rfl⟩
    refine ⟨_, rfl, rfl, ?_⟩
    refine gIf_neqq (fun hne => ⟨?_, h1.drew⟩) (fun he => ?_)
    · rw [decide_eq_false fun h => hne (by rw [h])]
    · rw [i64_id (n := (j : Int) + 1) (by omega) (by omega)]
      refine ⟨⟨j + 1, by omega, by omega, fun q hq' => ?_, h1.drew⟩, by dsimp only; omega⟩
      rcases Nat.lt_or_ge q j with h | h
      · exact hq q h
      · have : q = j := by omega
        subst this; exact he
  · rw [decide_eq_true]
    refine List.ext_getElem hle fun q h1 h2 => ?_
    rw [← rd_nat xs q h1, ← rd_nat ys q h2]; exact hq q (by omega)
theorem Plain_byte_any {a b : Value} {xs ys : List Int} {w : World} (ha : Nm .u8 w a xs) (hb : Nm .u8 w b ys) (hl : xs.length ≤ 1000000000) :
    Calls P n_valisehelp_Plain_byte #[a, b] w (fun e w' => e = .returned (.bool (decide (xs = ys))) ∧ Ev w w') :=
  of_valisehelp_Plain_byte (gCall_of (Same_byte_any ha hb hl) fun _ _ ⟨h1, h2⟩ => ⟨_, h1, rfl, h2⟩)
theorem Kept_byte_any {o l : Value} {xs : List Int} {f : Int} {w : World} (ho : Owd .u8 w o xs f) (h : Nm .u8 w l xs) (hl : xs.length ≤ 1000000000) :
    Calls P n_valisehelp_Kept_byte #[o, l, .int .u8 f] w (fun e w' => e = .returned (.bool true) ∧ Ev w w') := by
  have hn := ho.nm
  obtain ⟨a, c, rfl, hc, hN⟩ := ho
  have e3 : i64 ((xs.length : Int) + 3) = ((xs.length + 3 : Nat) : Int) := i64_id (by omega) (by omega)
  refine of_valisehelp_Kept_byte ⟨fun w' => Ev w w', gCall_of (Plain_byte_any hn h hl) ?_, ?_⟩
  · rintro _ w1 ⟨rfl, h1⟩
    refine ⟨_, rfl, ?_⟩
    rw [decide_eq_true rfl]
    refine gIf_nn (gCap_sl (gLen_nm h ?_))
    rw [e3]
    exact gIf_dec (fun hlt => by omega) (fun _ => h1)
  · rintro _ w2 h2
    refine gLen_nm h ?_
    rw [e3]
    refine gSlice_any (sz := 1) (l := 0) (h := xs.length + 3) (.inl ⟨rfl, rfl⟩) (.inr ⟨_, rfl⟩) (by omega) hc ?_ (by kernel_rfl)
    rw [subV_z (by omega)]
    have hN2 := hN.ev h2
    have hln : (xs ++ [f, f, f]).length = xs.length + 3 := by simp
    refine gLen_nm h ⟨fun i w3 => ∃ j : Nat, i = ((xs.length + j : Nat) : Int) ∧ j ≤ 3 ∧ w3 = w2, fun i _ => xs.length + 3 - i.toNat, ⟨0, by omega, by omega, rfl⟩, ?_⟩
    rintro _ i _ ⟨j, rfl, hj, rfl⟩
    refine gLen_nm hN2 (gIf_dec (fun hlt => ?_) (fun hge => ⟨rfl, h2⟩))
    rw [hln] at hlt
    refine gIdx_nm hN2 (by omega) (by rw [hln]; omega) fun ad c1 _ => gLoad_i c1 (gIf_neq (fun hne => (hne ?_).elim) (fun _ => ?_))
    · rw [rd, Int.toNat_natCast, List.getD_eq_getElem?_getD, List.getElem?_append_right (by omega), show xs.length + j - xs.length = j by omega]
      have : j = 0 ∨ j = 1 ∨ j = 2 := by omega
      rcases this with rfl | rfl | rfl <;> rfl
    · rw [show i64 (((xs.length + j : Nat) : Int) + 1) = ((xs.length + (j + 1) : Nat) : Int) by rw [i64_id (by omega) (by omega)]; omega]
      exact ⟨⟨j + 1, rfl, by omega, rfl⟩, by dsimp only; omega⟩
end Go.Proofs.YtijimpchglmkhaaV

/- The law WordsOften. -/
namespace Go.Proofs.YtijimpchglmkhaaV
open Go Go.RowKit
theorem sortedU_one {ws : List (List UInt8)} {s : List UInt8} (h : ∀ x, x ∈ ws ↔ x = s) : sortedU ws = [s] :=
  rise_eq (fun x => ws.count x) (sortedU_rise ws) (List.pairwise_singleton _ _) fun x => by rw [mem_sortedU, h x, List.mem_singleton]
theorem sortedU_nil : sortedU [] = [] := by
  refine List.eq_nil_iff_forall_not_mem.2 fun x hx => ?_
  have := mem_sortedU.1 hx; cases this
theorem findU_rep (n : Nat) (s : List UInt8) : findU (List.replicate n s) = if 2 ≤ n then [s] else [] := by
  cases n with
  | zero => unfold findU; rw [show List.replicate 0 s = [] from rfl, sortedU_nil]; rfl
  | succ n =>
    unfold findU
    rw [sortedU_one (ws := List.replicate (n + 1) s) (s := s) fun x => by rw [List.mem_replicate]; simp]
    by_cases h : 2 ≤ n + 1
    · rw [if_pos h, List.filter_cons_of_pos (by rw [List.count_replicate_self]; exact decide_eq_true (by omega))]; rfl
    · rw [if_neg h, List.filter_cons_of_neg (by rw [List.count_replicate_self]; simp; omega)]; rfl
theorem runN_app : ∀ {u rest : List Int}, (∀ x ∈ u, letB x = true) → (∀ c r, rest = c :: r → letB c = false) → runN (u ++ rest) = u.length
  | [], rest, _, h => by
    cases rest with
    | nil => rfl
    | cons c r => rw [List.nil_append, runN, if_neg (by rw [h c r rfl]; decide)]; rfl
  | x :: u, rest, h1, h2 => by rw [List.cons_append, runN, if_pos (h1 x List.mem_cons_self), runN_app (fun y hy => h1 y (List.mem_cons_of_mem _ hy)) h2]; rfl
theorem wordsU_no {c : Int} {rest : List Int} (hc : letB c = false) : wordsU (c :: rest) = wordsU rest := by
  have hr : runN (c :: rest) = 0 := by rw [runN, if_neg (by rw [hc]; decide)]
  rw [wordsU_step (by simp), hr, if_neg (by omega), if_pos (by omega)]; rfl
theorem wordsU_word {u rest : List Int} {c : Int} (hu : ∀ x ∈ u, letB x = true) (hc : letB c = false) : wordsU (u ++ c :: rest) = (if 3 ≤ u.length ∧ u.length ≤ 24 then [bU u] else []) ++ wordsU rest := by
  by_cases h0 : u = []
  · subst h0; rw [List.nil_append, wordsU_no hc, if_neg (by simp)]; rfl
  · have hp : 0 < u.length := List.length_pos_iff.2 h0
    have hr : runN (u ++ c :: rest) = u.length := runN_app hu fun c' r h => by injection h with h; rw [← h]; exact hc
    rw [wordsU_step (by simp), hr, List.take_left' rfl, if_neg (show ¬ (1 > u.length) by omega), List.drop_left' rfl, wordsU_no hc]
def wlR (u : List Int) (c : Int) (n : Nat) : List Int := (List.replicate n (u ++ [c])).flatten
theorem wlR_succ (u : List Int) (c : Int) (n : Nat) : wlR u c (n + 1) = wlR u c n ++ (u ++ [c]) := by
  unfold wlR; rw [List.replicate_succ', List.flatten_append]; simp
theorem wlR_len (u : List Int) (c : Int) : ∀ n, (wlR u c n).length = n * (u.length + 1)
  | 0 => by simp [wlR]
  | n + 1 => by rw [wlR_succ, List.length_append, wlR_len u c n, List.length_append, Nat.succ_mul]; rfl
theorem wordsU_rep {u : List Int} {c : Int} (hu : ∀ x ∈ u, letB x = true) (hc : letB c = false) : ∀ n, wordsU (wlR u c n) = if 3 ≤ u.length ∧ u.length ≤ 24 then List.replicate n (bU u) else []
  | 0 => by rw [show wlR u c 0 = [] by simp [wlR], wordsU_nil]; split <;> rfl
  | n + 1 => by
    have e : wlR u c (n + 1) = u ++ c :: wlR u c n := by unfold wlR; rw [List.replicate_succ, List.flatten_cons, List.append_assoc]; rfl
    rw [e, wordsU_word hu hc, wordsU_rep hu hc n]
    split
    · rw [List.replicate_succ]; rfl
    · rfl
theorem one_of {α : Type} {l : List α} (h : l.length = 1) : ∃ a, l = [a] := by
  match l, h with
  | [a], _ => exact ⟨a, rfl⟩
section
variable {w : World}
theorem awake21_any : Calls P n_valiselaw21_awake #[] w (fun e w' => e = .returned (.bool true) ∧ Ev w w') := by
  have hin : inR .u8 [97, 98, 99, 32, 97, 98, 99] := fun x hx => by simp at hx; rcases hx with rfl | rfl | rfl | rfl | rfl | rfl | rfl <;> decide
  have hp : wordsU [97, 98, 99, 32, 97, 98, 99] = List.replicate 2 [97, 98, 99] := by decide +kernel
  refine of_valiselaw21_awake (fLitC [97, 98, 99, 32, 97, 98, 99] (Fr.start w) rfl rfl hin fun v w2 f2 => gCall_of (Find_any (Cn.nm (f2.get 0 rfl)) (by decide)) ?_)
  rintro _ w3 ⟨t, T, rfl, hT, g3⟩
  rw [hp, findU_rep, if_pos (by decide)] at hT
  have f3 := f2.glue g3
  obtain ⟨u, rfl⟩ : ∃ u, T = [u] := by
    exact one_of (by have := congrArg List.length hT; simpa using this)
  obtain ⟨s1, s2⟩ := wdP_at f3
  have hu : u.2 = [97, 98, 99] := by simp at hT; rw [hT]; rfl
  have hN := s2 u List.mem_cons_self
  rw [hu] at hN
  refine ⟨_, rfl, gLen_slv s1 (gIf_eq (fun _ => gIdx_1 s1 (by decide) (by simp) fun a x hx hc _ => ?_) (fun h => (h rfl).elim))⟩
  have hx : x = u.1 := by simpa using hx.symm
  subst hx
  refine gLoad_v hc (gConv_bs hN ⟨?_, f3.old⟩)
  show Ending.returned (.bool ((bsOf [97, 98, 99]).toList == (ByteArray.mk #[97, 98, 99]).toList)) = _
  rw [show ByteArray.mk #[97, 98, 99] = bsOf [97, 98, 99] by decide]; simp
theorem awake21_end {w0 : World} (h : Ev w0 w) : gCall P n_valiselaw21_awake shB #[] w fun t ww => Holds w0 (.returned (.bool t)) ww := gCall_b awake21_any fun _ h2 => ⟨rfl, h.trans h2⟩
def ltrs (xs : List Int) : List Int := (xs.take 30).map fun x => 97 + x % 26
theorem ltrs_next {xs : List Int} {k : Nat} (h1 : k < xs.length) (h2 : k < 30) : (ltrs xs).take (k + 1) = (ltrs xs).take k ++ [97 + rd xs (k : Int) % 26] := by
  have hl : k < (ltrs xs).length := by unfold ltrs; rw [List.length_map, List.length_take]; omega
  rw [List.take_succ_eq_append_getElem hl, rd_nat xs k h1]
  simp [ltrs]
theorem WordsOften_law {l0 : Value} {xs : List Int} {n1 c2 : Int} (hb : Nm .u8 w l0 xs) (_ : IntKind.i64.min ≤ n1 ∧ n1 ≤ IntKind.i64.max) (hc : IntKind.u8.min ≤ c2 ∧ c2 ≤ IntKind.u8.max) : Calls P n_valiselaw21_WordsOften #[l0, .int .i64 n1, .int .u8 c2] w (Holds w) := by
  have hc2 : 0 ≤ c2 ∧ c2 < 256 := by simp [IntKind.min, IntKind.max, IntKind.signed, IntKind.bits] at hc; omega
  have un : 0 ≤ u64 n1 := by rw [u64_def]; omega
  obtain ⟨n, en, hn4⟩ : ∃ n : Nat, i64 (Int.tmod (u64 n1) 5) = (n : Int) ∧ n ≤ 4 := by
    refine ⟨(u64 n1 % 5).toNat, ?_, by omega⟩
    rw [Int.tmod_eq_emod_of_nonneg un, i64_id (by omega) (by omega)]; omega
  have aw := awake21_end (Ch.refl No w)
  refine of_valiselaw21_WordsOften ⟨fun w' => w' = w ∧ letB c2 = false, ?_, ?_⟩
  · refine gIf_dec (fun h1 => gIf_ndec (fun h2 => gIf_dec (fun h3 => gIf_dec (fun h4 => aw) (fun h4 => ?_)) (fun h3 => ?_)) (fun h2 => aw)) (fun h1 => gIf_dec (fun h3 => gIf_dec (fun h4 => aw) (fun h4 => ?_)) (fun h3 => ?_))
    all_goals exact ⟨rfl, by unfold letB; exact decide_eq_false (by omega)⟩
  rintro _ w1 ⟨hw1, hlc⟩
  obtain rfl : w = w1 := hw1.symm
  have hll : (ltrs xs).length = min 30 xs.length := by unfold ltrs; rw [List.length_map, List.length_take]
  have hlet : ∀ x ∈ ltrs xs, letB x = true := fun x hx => by
    unfold ltrs at hx
    obtain ⟨y, _, rfl⟩ := List.mem_map.1 hx
    exact decide_eq_true (by omega)
  have hlu : inR .u8 (ltrs xs) := fun x hx => by
    have := of_decide_eq_true (hlet x hx)
    simp [IntKind.min, IntKind.max, IntKind.signed, IntKind.bits]; omega
  refine ⟨fun w7 w' => Fr w w' [oIt .u8 eB w7 (ltrs xs)], ⟨fun w7 i w' => ∃ k : Nat, i = (k : Int) ∧ k ≤ min 30 xs.length ∧ Fr w w' [oIt .u8 eB w7 ((ltrs xs).take k)], fun _ i _ => (30 - i).toNat, ⟨0, rfl, Nat.zero_le _, (Fr.start w).nil0 .u8 eB⟩, ?_⟩, ?_⟩
  · rintro _ w7 i w2 ⟨k, rfl, hk, f2⟩
    have fin : min 30 xs.length ≤ k → Fr w w2 [oIt .u8 eB w7 (ltrs xs)] := fun h => by rwa [List.take_of_length_le (by omega)] at f2
    have hb2 := hb.ev f2.old
    refine gLen_nm hb2 (gIf_dec (fun h1 => gIf_dec (fun h2 => gGet hb2 (by omega) (by omega) ?_) (fun h2 => fin (by omega))) (fun h1 => fin (by omega)))
    have hr := rd_u8 hb.2 (k : Int)
    rw [Int.tmod_eq_emod_of_nonneg hr.1, show u8 (97 + rd xs (k : Int) % 26) = 97 + rd xs (k : Int) % 26 by rw [u8_def]; omega]
    refine fAppB rfl f2 (by omega) (by rw [List.length_take]; omega) fun b' w' f' => ⟨⟨k + 1, by rw [i64_id (by omega) (by omega)]; omega, by omega, ?_⟩, by dsimp only; rw [i64_id (by omega) (by omega)]; omega⟩
    rw [ltrs_next (by omega) (by omega)]; exact f'
  rintro _ w7 w3 f3
  rw [en]
  refine ⟨fun b9 i w' => ∃ k : Nat, i = (k : Int) ∧ k ≤ n ∧ Fr w w' [oIt .u8 eB b9 (wlR (ltrs xs) c2 k), oIt .u8 eB w7 (ltrs xs)], fun _ i _ => (10 - i).toNat, ⟨0, rfl, Nat.zero_le _, f3.nil0 .u8 eB⟩, ?_⟩
  rintro _ b9 i w4 ⟨k, rfl, hk, f4⟩
  have hbl := wlR_len (ltrs xs) c2 k
  have hbl2 : k * ((ltrs xs).length + 1) ≤ 4 * 31 := Nat.mul_le_mul (by omega) (by omega)
  refine gIf_dec (fun hlt => ?_) (fun hge => ?_)
  · refine fApp f4 0 rfl (f4.nm 1 rfl) (by omega) fun v5 w5 f5 => fAppB rfl f5 hc2 (by rw [List.length_append]; omega) fun v6 w6 f6 => ⟨⟨k + 1, by rw [i64_id (by omega) (by omega)]; omega, by omega, ?_⟩, by dsimp only; rw [i64_id (by omega) (by omega)]; omega⟩
    rw [wlR_succ, ← List.append_assoc]; exact f6
  obtain rfl : k = n := by omega
  refine gCall_of (Find_any (f4.nm 0 rfl) (by omega)) ?_
  rintro _ w5 ⟨t, T, rfl, hT, g5⟩
  rw [wordsU_rep hlet hlc] at hT
  have f5 := f4.glue g5
  have none : (¬ (3 ≤ (ltrs xs).length ∧ (ltrs xs).length ≤ 24) ∨ k < 2) → gCall P n_valiselaw21_awake shB #[] w5 fun (t75 : Bool) ww16 => gIf t75 (gLen P t_sl_sl_uint8 t fun (t78 : Nat) => Holds w (.returned (.bool ((t78 : Int) == 0))) ww16) (Holds w (.returned (.bool false)) ww16) := fun h => by
    have hT0 : T = [] := by
      have : T.map (·.2) = [] := by
        rw [hT]
        split
        · rw [findU_rep, if_neg (by omega)]; rfl
        · rw [show ([] : List (List UInt8)) = List.replicate 0 [] from rfl, findU_rep]; rfl
      exact List.map_eq_nil_iff.1 this
    subst hT0
    refine gCall_b awake21_any fun w6 h6 => gIf_t (gLen_slv ((wdP_at f5).1.ev h6) ⟨rfl, f5.old.trans h6⟩)
  refine ⟨t, rfl, fun w' => w' = w5 ∧ (3 ≤ (ltrs xs).length ∧ (ltrs xs).length ≤ 24) ∧ 2 ≤ k, ?_, ?_⟩
  · have hN := (f4.nm 1 rfl).ev g5.old
    refine gLen_nm hN (gIf_ndec (fun h3 => gLen_nm hN (gIf_ndec (fun h24 => gIf_dec (fun h2 => none (.inr (by omega))) (fun h2 => ⟨rfl, by omega, by omega⟩)) (fun h24 => none (.inl (by omega))))) (fun h3 => none (.inl (by omega))))
  · rintro _ w6 ⟨hw6, h3, h2⟩
    obtain rfl : w5 = w6 := hw6.symm
    rw [if_pos h3, findU_rep, if_pos h2] at hT
    obtain ⟨u, rfl⟩ : ∃ u, T = [u] := by
      exact one_of (by have := congrArg List.length hT; simpa using this)
    obtain ⟨s1, s2⟩ := wdP_at f5
    have hu : u.2 = ltrs xs := by simp at hT; rw [hT, iU_bU hlu]
    have hN := s2 u List.mem_cons_self
    rw [hu] at hN
    refine gCall_b awake21_any fun w7' h7 => gIf_t (gLen_slv (s1.ev h7) (gIf_eq (fun _ => gIdx_1 (s1.ev h7) (by decide) (by simp) fun a x hx hc _ => ?_) (fun h => (h rfl).elim)))
    have hx : x = u.1 := by simpa using hx.symm
    subst hx
    refine gLoad_v hc (gCall_b0 (Bytes_any (hN.ev h7) ((f4.nm 1 rfl).ev (g5.old.trans h7))) ⟨?_, f5.old.trans h7⟩)
    rw [decide_eq_true rfl]
end
end Go.Proofs.YtijimpchglmkhaaV
