import Derived.Laws.IdiomStrings
import Derived.Test.YtilpoinhfiajcaaGreatDoorVPart15
set_option linter.unusedVariables false
set_option linter.unusedSimpArgs false
/- Package words: the order of words as the program reckons it; sorting. -/
namespace Go.Proofs.YtilpoinhfiajcaaGreatDoorV
open Go Go.RowKit
section
variable {w0 w : World} {F : List It} {b : Nat} {ws : List (List UInt8)}
/-- A literal, and the very world behind it. -/
theorem gLitE {t : TypeId} {n : Nat} {parts : Array (Nat × Value)} {K : Value → World → Prop} (vs : List Value) (hp : parts.toList = enumV 0 vs) (hn : vs.length = n) (h0 : 0 < n) (hm : n ≤ 1000000) (h1 : ∀ v ∈ vs, v.cells = #[v])
    (hk : ∀ v o, (w.alloc o).ownsRow w.heap.size (elOf P t) 1 v n vs → K v (w.alloc o)) (ht : sl1 P t = true := by kernel_rfl) : gLit P t n parts w K := by
  obtain ⟨hu, i, z, hi, hsz, hz⟩ := sl1_ok ht
  obtain ⟨c0, hc0, hrun⟩ : ∃ c0 : Array Value, c0.size = n ∧ (Instr.buildSlice t n parts).run P w = .ok (.slice (some ⟨w.heap.size, 0, none⟩) n n) (w.alloc (.cells (setAll c0 0 vs) (elOf P t))) := by
    simp only [Instr.buildSlice, Sem.run_bind, run_underlying hu, Result.andThen_ok, sizeOf, typeInfo, run_program, hi, Sem.run_pure, hsz, Nat.mul_one]
    rw [if_neg (by omega)]
    refine ⟨(Array.range n).map (z.cells[· % z.cells.size]!), by simp, ?_⟩
    rw [if_neg (by omega)]
    simp only [Sem.run_bind, zeroValue, typeInfo, run_program, Result.andThen_ok, hi, hz, Sem.run_pure]
    rw [hp, show (fun i => some (i, 1)) = (fun i => some (i * 1, 1)) by funext i; rw [Nat.mul_one], fill_enum vs h1 0 _ (by simp; omega)]
    simp [newRow]
  have hl := setAll_list vs 0 c0 (by omega)
  simp only [List.take_zero, List.nil_append] at hl
  refine ⟨_, _, hrun, hk _ _ ?_⟩
  have hs : (setAll c0 0 vs).size = n := by rw [← Array.length_toList, hl, hn]
  exact ownsRow_new w (elOf P t) _ n n (Nat.le_refl _) (by unfold maxLen; omega) hs (by rw [hl, List.take_of_length_le (by omega)]) hn
theorem Or2_any {v : Value} {a c : Int} (h : Nm .i64 w v [a, c]) : Calls P n_cmp_Or_int #[v] w (fun e w' => e = .returned (.int .i64 (if a ≠ 0 then a else c)) ∧ w' = w) := by
  refine of_cmp_Or_int (gLen_nm h ⟨fun i w' => w' = w ∧ (i = 0 ∨ (i = 1 ∧ a = 0) ∨ (i = 2 ∧ a = 0 ∧ c = 0)), fun i _ => (2 - i).toNat, ⟨rfl, .inl rfl⟩, ?_⟩)
  rintro _ i _ ⟨rfl, hi⟩
  refine gIf_dec (fun hlt => gGet h (by omega) (by simp at hlt; simp; omega) ?_) (fun hge => ?_)
  · rcases hi with rfl | ⟨rfl, ha⟩ | ⟨rfl, _⟩
    · refine gIf_neq (fun hne => ⟨?_, rfl⟩) (fun he => ⟨⟨rfl, .inr (.inl ⟨by decide, he⟩)⟩, by dsimp only; decide⟩)
      rw [show rd [a, c] 0 = a from rfl] at hne ⊢
      rw [if_pos hne]
    · refine gIf_neq (fun hne => ⟨?_, rfl⟩) (fun he => ⟨⟨rfl, .inr (.inr ⟨by decide, ha, he⟩)⟩, by dsimp only; decide⟩)
      rw [show rd [a, c] 1 = c from rfl] at hne ⊢
      rw [if_neg (by omega)]
    · simp at hlt
  · rcases hi with rfl | ⟨rfl, ha⟩ | ⟨rfl, ha, hc⟩
    · simp at hge
    · simp at hge
    · rw [if_neg (by omega), hc]; exact ⟨rfl, rfl⟩
theorem worth_any {tp : Addr} {s : List UInt8} (hc : w.cell? tp = some (.map (some b))) (hM : MapI w b ws) (hs : s.length ≤ 24) (hl : ws.length ≤ 1000000000) : Calls P n_words_Find_1 #[.string (mkS s), .pointer (some tp)] w (fun e w' => e = .returned (.int .i64 (wth (fun s => ws.count s) s)) ∧ w' = w) := by
  have hr := wth_rg hl hs
  have hct : ws.count s ≤ ws.length := List.count_le_length
  refine of_words_Find_1 (gLoad_v hc (gLookup hM (by omega) ⟨?_, rfl⟩))
  unfold wth at hr ⊢
  rw [mkS_size, i64_id (n := ((ws.count s : Nat) : Int) - 1) (by omega) (by omega), i64_id (n := (((ws.count s : Nat) : Int) - 1) * ((s.length : Nat) : Int)) (by dsimp only at hr; omega) (by dsimp only at hr; omega)]
theorem cmpI_rg (x y : Int) : -1 ≤ cmpI x y ∧ cmpI x y ≤ 1 := by unfold cmpI; split <;> (try split) <;> omega
theorem cmpS_rg (x y : List UInt8) : -1 ≤ cmpS x y ∧ cmpS x y ≤ 1 := by unfold cmpS; split <;> (try split) <;> omega
theorem order_any {wp tp : Addr} {x y : List UInt8} (hw : w.cell? wp = some (.func (.func n_words_Find_1) #[] #[.pointer (some tp)])) (hc : w.cell? tp = some (.map (some b))) (hM : MapI w b ws) (hx : x.length ≤ 24) (hy : y.length ≤ 24) (hl : ws.length ≤ 1000000000) :
    Calls P n_words_Find_2 #[.string (mkS x), .string (mkS y), .pointer (some wp)] w (fun e w' => e = .returned (.int .i64 (cfU (fun s => ws.count s) x y)) ∧ ∃ o, w' = w.drew.alloc o) := by
  have hMd : MapI w.drew b ws := hM.ch (Ev.drew0 w)
  refine of_words_Find_2 ⟨fun w' => w'.cell? wp = some (.func (.func n_words_Find_1) #[] #[.pointer (some tp)]), hw, gLoadB_v (fun w' h => h) (gLoadB_v (fun w' h => h) (gCallV_of rfl (by kernel_rfl) (show Calls P n_words_Find_1 #[.string (mkS y), .pointer (some tp)] _ _ from worth_any hc hMd hy hl) ?_))⟩
  rintro _ _ ⟨rfl, rfl⟩
  refine ⟨_, rfl, hw, gCallV_of rfl (by kernel_rfl) (show Calls P n_words_Find_1 #[.string (mkS x), .pointer (some tp)] _ _ from worth_any hc hMd hx hl) ?_⟩
  rintro _ _ ⟨rfl, rfl⟩
  refine ⟨_, rfl, hw, gCall_of cmpInt_any ?_⟩
  rintro _ _ ⟨rfl, rfl⟩
  refine ⟨_, rfl, hw, gCall_of cmpStr_any ?_⟩
  rintro _ _ ⟨rfl, rfl⟩
  obtain ⟨d1, hd1⟩ : ∃ d, d = cmpI (wth (fun s => ws.count s) y) (wth (fun s => ws.count s) x) := ⟨_, rfl⟩
  have r1 := cmpI_rg (wth (fun s => ws.count s) y) (wth (fun s => ws.count s) x)
  have r2 := cmpS_rg x y
  refine ⟨_, rfl, hw, gLitE [.int .i64 (cmpI (wth (fun s => ws.count s) y) (wth (fun s => ws.count s) x)), .int .i64 (cmpS x y)] rfl rfl (by decide) (by decide) (fun v hv => by simp at hv; rcases hv with rfl | rfl <;> rfl) fun v o ho => ?_⟩
  have hkeep : (w.drew.alloc o).cell? wp = some (.func (.func n_words_Find_1) #[] #[.pointer (some tp)]) := (Ev.alloc w.drew o).cell hw fun h => h
  have hN : Nm .i64 (w.drew.alloc o) v [cmpI (wth (fun s => ws.count s) y) (wth (fun s => ws.count s) x), cmpS x y] := ⟨Sl.of_ownS (sz := 1) ho, fun z hz => by
    have h1 : IntKind.i64.min = -9223372036854775808 := by decide
    have h2 : IntKind.i64.max = 9223372036854775807 := by decide
    rw [h1, h2]
    simp at hz
    rcases hz with rfl | rfl <;> omega⟩
  refine ⟨hkeep, gCall_of (Or2_any hN) ?_⟩
  rintro _ _ ⟨rfl, rfl⟩
  exact ⟨_, rfl, hkeep, rfl, o, rfl⟩
/-! ### The sort -/
noncomputable abbrev eS : TypeId := elOf P t_sl_string
/-- A short word. -/
abbrev Wd := { s : List UInt8 // s.length ≤ 24 }
instance : Inhabited Wd := ⟨⟨[], by decide⟩⟩
def enW (x : Wd) : Value := .string (mkS x.1)
def cfW (c : List UInt8 → Nat) (x y : Wd) : Int := cfU c x.1 y.1
theorem swoW (c : List UInt8 → Nat) : Sort.SWO (ltOf (cfW c)) where
  irrefl x := ltU_irr c x.1
  trans x y z h1 h2 := ltU_trans (c := c) (x := x.1) (y := y.1) (z := z.1) h1 h2
  ntrans x y z h1 h2 := by
    have h1 : ltU c x.1 y.1 = false := h1
    have h2 : ltU c y.1 z.1 = false := h2
    show ltU c x.1 z.1 = false
    have := leU_trans c z.1 y.1 x.1 (by rw [h2]; rfl) (by rw [h1]; rfl)
    simpa using this
theorem putCells_list {α : Type} [Inhabited α] (enc : α → Value) (d : Array α) (c : Array Value) (h : d.size ≤ c.size) : (Sort.putCells enc 0 d c).size = c.size ∧ (Sort.putCells enc 0 d c).toList.take d.size = d.toList.map enc := by
  refine ⟨by simp [Sort.putCells], List.ext_getElem? fun i => ?_⟩
  by_cases hi : i < d.size
  · rw [List.getElem?_take, if_pos hi, Array.getElem?_toList, List.getElem?_map, Array.getElem?_toList]
    simp only [Sort.putCells, Array.getElem?_mapIdx]
    rw [Array.getElem?_eq_getElem (by omega), Array.getElem?_eq_getElem hi]
    simp [hi]
  · rw [List.getElem?_eq_none (by simp; omega), List.getElem?_eq_none (by simp; omega)]
theorem sortWorld_ch {α : Type} [Inhabited α] {enc : α → Value} {g m : Nat} {d : Array α} {os : Array Obj} {cur : Array Value} {e : TypeId} {f : Nat × Nat} (hg : w.heap[g]? = some (.cells cur e f)) :
    Ch (Bk g) w (sortWorld enc w g 0 m d os) ∧ (sortWorld enc w g 0 m d os).heap[g]? = some (.cells (Sort.putCells enc 0 d cur) e f) := by
  have hold : ∀ k, k < w.heap.size → (sortWorld enc w g 0 m d os).heap[k]? = (w.heap[k]?).map fun o => if k = g then Sort.onCells (Sort.putCells enc 0 d) o else o := fun k hk => by
    show (((w.heap.modify g (Sort.onCells (Sort.putCells enc 0 d))) ++ os))[k]? = _
    rw [Array.getElem?_append_left (by simpa using hk), Array.getElem?_modify]
    by_cases e : g = k
    · subst e; simp
    · rw [if_neg e]; simp [Ne.symm e]
  have hnew : (sortWorld enc w g 0 m d os).heap[g]? = some (.cells (Sort.putCells enc 0 d cur) e f) := by rw [hold g (hlt hg), hg]; simp [Sort.onCells]
  refine ⟨⟨rfl, rfl, rfl, ?_, fun k hk hn => ?_, fun k c e' f' hc => ?_, fun k o hk ho => ?_⟩, hnew⟩
  · show w.heap.size ≤ (((w.heap.modify g (Sort.onCells (Sort.putCells enc 0 d))) ++ os)).size
    simp
  · have hne : k ≠ g := fun h => hn 0 h
    rw [hold k hk]; simp [hne]
  · by_cases hkg : k = g
    · subst hkg
      rw [hg] at hc
      injection hc with hc
      injection hc with h1 h2 h3
      subst h1; subst h2; subst h3
      exact ⟨_, hnew, by simp [Sort.putCells], fun i hi => (hi rfl).elim⟩
    · exact ⟨c, by rw [hold k (hlt hc), hc]; simp [hkg], rfl, fun _ _ => rfl⟩
  · have hkg : k ≠ g := ne_cells hg hk ho
    rw [hold k (hlt hk), hk]; simp [hkg]
/-- Words are sorted by their worth. -/
theorem fSort {v : Value} {wp tp : Addr} {ss : List (List UInt8)} {K : World → Prop} (f : Fr w0 w (rIt eS 1 v ss.length (ss.map fun s => Value.string (mkS s)) :: F)) (hs : ∀ s ∈ ss, s.length ≤ 24) (hn : ss.length ≤ 1000000000)
    (hw : sIt wp [.func (.func n_words_Find_1) #[] #[.pointer (some tp)]] ∈ F) (hc : sIt tp [.map (some b)] ∈ F) (hM : MapI w b ws) (hl : ws.length ≤ 1000000000)
    (hk : ∀ w', MapI w' b ws → Fr w0 w' (rIt eS 1 v ss.length ((ss.mergeSort fun x y => !ltU (fun s => ws.count s) y x).map fun s => Value.string (mkS s)) :: F) → K w') :
    gCall P n_slices_SortFunc_string_string shU #[v, .func (.func n_words_Find_2) #[] #[.pointer (some wp)]] w K := by
  have hrow : w.ownsRow 0 eS 1 v ss.length (ss.map fun s => Value.string (mkS s)) := f.get 0 rfl
  rcases row_cases hrow with ⟨rfl, h0⟩ | ⟨g, c, rfl⟩
  · have e0 : ss = [] := List.eq_nil_of_length_eq_zero h0
    subst e0
    refine gCall_of (Tryz.slices_SortFunc_none (α := Unit) none 0 _ w) ?_
    rintro _ _ ⟨rfl, rfl⟩
    exact ⟨rfl, hk _ hM (by simpa using f)⟩
  obtain ⟨cur, hg, hnc, hcm, hcs, htk, _⟩ := row_block hrow
  obtain ⟨d, hd⟩ : ∃ d : Array Wd, d = (ss.attach.map fun s => (⟨s.1, hs s.1 s.2⟩ : Wd)).toArray := ⟨_, rfl⟩
  have hdl : d.toList.map (·.1) = ss := by rw [hd]; simp
  have hds : d.size = ss.length := by rw [← Array.length_toList, ← List.length_map (·.1), hdl]
  have hde : d.toList.map enW = ss.map fun s => Value.string (mkS s) := by rw [← hdl, List.map_map]; rfl
  have hH : Sort.Holds enW w g 0 d := fun j hj => by
    have h1 : cur[j]? = some (enW d[j]!) := by
      have : (cur.toList.take (ss.length * 1))[j]? = some (enW d[j]!) := by
        rw [htk, ← hde, List.getElem?_map, Array.getElem?_toList, Array.getElem?_eq_getElem hj]
        simp [hj]
      rw [List.getElem?_take, if_pos (by omega), Array.getElem?_toList] at this
      exact this
    refine ⟨?_, ?_⟩
    · simp only [World.cell?, hg, Nat.zero_add]; exact h1
    · simp [World.frozen?, hg]
  have hpg : ∀ {q : Addr} {u : Value}, sIt q [u] ∈ F → q.block ≠ g := fun {q u} hq e => by
    refine f.2.2.1 _ hq g (show Value.ownBlock _ = some g from rfl) ?_
    exact e.symm
  have hcell : ∀ {q : Addr} {u : Value}, sIt q [u] ∈ F → w.cell? q = some u := fun {q u} hq => by
    have := St.cell (j := 0) (u := u) (f.mem (List.mem_cons_of_mem _ hq)).1 rfl
    rwa [Addr.add_zero'] at this
  have hcmp : CmpLays1 P n_words_Find_2 #[.pointer (some wp)] enW (cfW fun s => ws.count s) g 0 d.size w := fun m os dk hdk x y => by
    have hch := (sortWorld_ch (enc := enW) (m := m) (d := dk) (os := os) hg).1
    have keep : ∀ {q : Addr} {u : Value}, sIt q [u] ∈ F → (sortWorld enW w g 0 m dk os).cell? q = some u := fun hq => hch.cell (hcell hq) (hpg hq)
    refine (order_any (keep hw) (keep hc) (hM.ch hch) x.2 y.2 hl).mono ?_
    rintro e w' ⟨rfl, o, rfl⟩
    refine ⟨rfl, 1, #[o], ?_⟩
    show _ = Sort.grow _ _
    rw [← Sort.alloc_eq_grow]; rfl
  have hcon := Tryz.slices_SortFunc_total enW (fun _ => rfl) (cfW fun s => ws.count s) (swoW _) n_words_Find_2 #[.pointer (some wp)] g 0 c d w (call_ok_enters (by kernel_rfl)) hcmp hH (hlt hg) (by omega) (fun x y h1 h2 => Subtype.ext (ltU_total (c := fun s => ws.count s) h1 h2))
  rw [hds] at hcon
  refine gCall_of hcon ?_
  clear hcon hcmp
  rintro _ w' ⟨rfl, n, os, hw'⟩
  refine ⟨rfl, ?_⟩
  obtain ⟨sd, hsd⟩ : ∃ sd : Array Wd, sd = (d.toList.mergeSort fun x y => !(ltOf (cfW fun s => ws.count s)) y x).toArray := ⟨_, rfl⟩
  rw [← hsd] at hw'
  have hsl : sd.size = ss.length := by rw [hsd]; simp [← hds]
  have hse : sd.toList.map enW = (ss.mergeSort fun x y => !ltU (fun s => ws.count s) y x).map fun s => Value.string (mkS s) := by
    have h1 : (d.toList.mergeSort fun x y => !(ltOf (cfW fun s => ws.count s)) y x).map (·.1) = (d.toList.map (·.1)).mergeSort fun x y => !ltU (fun s => ws.count s) y x := List.map_mergeSort fun a _ b _ => rfl
    rw [hdl] at h1
    rw [← h1, hsd, List.map_map]; rfl
  have hcl : cur.size = c := by omega
  obtain ⟨hch, hgn⟩ := sortWorld_ch (enc := enW) (m := n) (d := sd) (os := os) hg
  rw [← hw'] at hch hgn
  obtain ⟨p1, p2⟩ := putCells_list enW sd cur (by omega)
  rw [hsl, hse] at p2
  have ok : w'.ownsRow 0 eS 1 (rowV g ss.length c) ss.length ((ss.mergeSort fun x y => !ltU (fun s => ws.count s) y x).map fun s => Value.string (mkS s)) := row_of hgn hnc hcm (by rw [p1, hcs]) (by rw [Nat.mul_one]; exact p2)
  exact hk w' (hM.ch hch) (f.upd (jt := rIt eS 1 (rowV g ss.length c) ss.length ((ss.mergeSort fun x y => !ltU (fun s => ws.count s) y x).map fun s => Value.string (mkS s))) 0 rfl hch (fun k _ hh => .inl (by rw [hh]; rfl)) ok fun k hk => .inl hk)
end
end Go.Proofs.YtilpoinhfiajcaaGreatDoorV

/- Package words: the keys of a map, collected and sorted. -/
namespace Go.Proofs.YtilpoinhfiajcaaGreatDoorV
open Go Go.RowKit Go.Maps
section
variable {w0 w : World} {F : List It} {b : Nat} {ws : List (List UInt8)}
theorem strKeys_nodup {D : Dt} {n : Nat} (h : w.ownsMap P t_string RI b n D) : (strKeys D).Nodup := by
  obtain ⟨es, rfl, hp, _⟩ := h.entries keyS
  obtain ⟨es', he, hk⟩ := h.keysOf
  have he : es = es' := by injection he
  subst he
  unfold strKeys
  refine List.pairwise_map.2 (hp.imp_of_mem fun {p q} hp1 hq1 hne e => hne ?_)
  obtain ⟨v, hv⟩ := hk p hp1
  obtain ⟨v2, hv2⟩ := hk q hq1
  obtain ⟨x, _, hx, _⟩ := Maps.keyOf_str (by kernel_rfl) hv
  obtain ⟨y, _, hy, _⟩ := Maps.keyOf_str (by kernel_rfl) hv2
  rw [hx, hy] at e ⊢
  have : x = y := e
  rw [this]
theorem MapI.kept {w' : World} (h : MapI w b ws) (k : KeepsOthers w w') : MapI w' b ws := by
  obtain ⟨o, h1, h2⟩ := h.block
  exact h.keep fun o' ho => by rw [h1] at ho; injection ho with ho; subst ho; exact k.same _ _ h1 h2
theorem fAllocK {t : TypeId} {z : Value} {K : Addr → World → Prop} (h : Fr w0 w F) (hz : (P.info? t).bind (·.zero) = some z) (hk : ∀ ad w', KeepsOthers w w' → Fr w0 w' (sIt ad z.cells.toList :: F) → K ad w') : gAlloc P t w K :=
  gAlloc_of hz fun ad w' he ha _ hS => hk ad w' he.others (h.new he hS fun k hk => by have hk : k = ad.block := hk; subst ha; dsimp only at hk; omega)
theorem Fr.leftW : ∀ {F G : List It}, Fr w0 w (F ++ G) → Fr w0 w F
  | [], _, h => h.old
  | _ :: _, _, h => ⟨h.1, h.2.1, fun jt hj => h.2.2.1 jt (List.mem_append_left _ hj), Fr.leftW h.2.2.2⟩
/-- The map's keys, in whatever order. -/
theorem Keys_any {K : Value → World → Prop} (f : Fr w0 w F) (m0 : Value) (hm : m0.cells = #[m0]) (hk : ∀ mb w', KeepsOthers w w' → (mb.off = 0 ∧ mb.spot = none) → Fr w0 w' (sIt mb [m0] :: F) → K (.func (.func n_maps_Keys_map_string_int_string_int_1) #[] #[.pointer (some mb)]) w') : gCall P n_maps_Keys_map_string_int_string_int shV #[m0] w K := by
  refine gCall_of (R := fun e w' => ∃ mb, e = .returned (.func (.func n_maps_Keys_map_string_int_string_int_1) #[] #[.pointer (some mb)]) ∧ KeepsOthers w w' ∧ (mb.off = 0 ∧ mb.spot = none) ∧ Fr w0 w' (sIt mb [m0] :: F)) (of_maps_Keys_map_string_int_string_int (gBox_of fun mb w1 he ha _ hS => ?_)) ?_
  · have f1 := f.new (jt := sIt mb m0.cells.toList) he hS fun k hk => by have hk : k = mb.block := hk; subst ha; dsimp only at hk; omega
    rw [hm] at f1
    exact ⟨mb, rfl, he.others, by subst ha; exact ⟨rfl, rfl⟩, f1⟩
  · rintro _ w' ⟨mb, rfl, h1, h2, f1⟩
    exact ⟨_, rfl, hk mb w' h1 h2 f1⟩
theorem fLitK {t : TypeId} {n : Nat} {parts : Array (Nat × Value)} {K : Value → World → Prop} (us : List Value) (h : Fr w0 w F) (hp : parts.toList = enumV 0 us) (hn : us.length = n) (h1 : ∀ v ∈ us, v.cells = #[v])
    (hk : ∀ v w', KeepsOthers w w' → Fr w0 w' F → Sl w' 1 v n us → K v w') (hm : n ≤ 1000000 := by decide) (ht : sl1 P t = true := by kernel_rfl) : gLit P t n parts w K :=
  gLit_1 us hp hn hm h1 (fun v w' he ho => hk v w' he.others (h.ev he) (Sl.of_ownS (sz := 1) ho)) ht
theorem fAppK {t ty : TypeId} {sz n m : Nat} {v y : Value} {cs ds : List Value} {K : Value → World → Prop} (b : Nat) (h : Fr w0 w F) (i : Nat) (hi : F[i]? = some (rIt (elOf P t) sz v n cs)) (hy : Sl w sz y m ds) (h1 : ∀ u ∈ ds, u.oneCell' = true) (hb : (n + m) * b ≤ 140737488355328) (hm : n + m ≤ maxLen)
    (hk : ∀ v' w', KeepsOthers w w' → Fr w0 w' (F.set i (rIt (elOf P t) sz v' (n + m) (cs ++ ds))) → K v' w') (ht : slRow P t sz b = true := by kernel_rfl) (hsz : 0 < sz := by decide) : gApp P #[t, t] ty #[v, y] w K := by
  obtain ⟨hu, ii, z, hii, hz, hs, hzs, hbb⟩ := slRow_ok ht
  obtain ⟨v', w', hr, ho, hc, hmv⟩ := run_append_ownS (P := P) t ty hu hii hz hs hzs hsz (h.get i hi) hy h1 (Nat.le_trans (Nat.mul_le_mul_left _ hbb) hb) hm (Nat.zero_le _)
  refine ⟨v', w', hr, hk v' w' hc.others (h.upd i hi hc (fun k _ hh => .inl hh) ho fun k hk => ?_)⟩
  rcases hmv with hmv | hmv
  · have hk : v'.ownBlock = some k := hk
    rw [hmv] at hk; exact .inl hk
  · exact .inr (hmv k hk)
theorem fStoreK {t : TypeId} {ad : Addr} {c u : Value} {K : World → Prop} (h : Fr w0 w F) (i : Nat) (hi : F[i]? = some (sIt ad [c])) (hk : ∀ w', KeepsOthers w w' → Fr w0 w' (F.set i (sIt ad [u])) → K w') (hu : u.oneCell' = true) (hcl : u.cells = #[u]) (ht : flat1 P t = true := by kernel_rfl) :
    gStore P t (.pointer (some ad)) u w K :=
  gStore_st0 (h.get i hi) (Nat.zero_lt_succ _) hu hcl (fun w' hc _ hS => hk w' hc.others (h.upd i hi hc (fun k _ hh => .inl hh.1) hS fun k hk => .inl hk)) ht
def CollE (w : World) (ws : List (List UInt8)) (e : Ending) (w' : World) : Prop := ∃ (v : Value) (ss : List (List UInt8)), e = .returned v ∧ ss.Nodup ∧ (∀ x, x ∈ ss ↔ x ∈ ws) ∧ Fr w w' [rIt eS 1 v ss.length (ss.map fun s => Value.string (mkS s))]
theorem Append_any {mb : Addr} (hc : w.cell? mb = some (.map (some b))) (h0 : mb.off = 0 ∧ mb.spot = none) (hM : MapI w b ws) (hl : ws.length ≤ 1000000000) : Calls P n_slices_AppendSeq_string_string #[.slice none 0 0, .func (.func n_maps_Keys_map_string_int_string_int_1) #[] #[.pointer (some mb)]] w (CollE w ws) := by
  obtain ⟨D, hD, hI, hat, hhas⟩ := hM
  obtain ⟨g, o, sp⟩ := mb
  obtain ⟨rfl, rfl⟩ := h0
  have hsz : Maps.size D ≤ ws.length := by
    obtain ⟨es, clock, _, _, h3, rfl⟩ := hD
    have : Maps.size (DataW.map ((es.toList.map (WideElems.rg P t_string RI)).foldr DataW.insert [])) = es.size := by
      simp [Maps.size, length_sorted]
    omega
  refine of_slices_AppendSeq_string_string (fBox (Fr.start w) fun sb w1 f1 => ?_)
  have f1 : Fr w w1 [sIt sb [.slice none 0 0]] := f1
  have hblk : ∀ {w' : World}, Ev w w' → w'.ownsMap P t_string RI b ws.length D := fun {w'} he => by
    obtain ⟨es, clock, h1, h2⟩ := hD
    exact ⟨es, clock, he.oth _ _ h1 rfl, h2⟩
  have hseq := AnyZ.keys_stops Tryz.laysKeys Fence.wide 4 trivial rfl (by decide) g b ws.length D w1 (World.block_lt_of_cell? w1 _ (f1.old.cell hc fun h => h)) (f1.old.cell hc fun h => h) (hblk f1.old)
  refine ⟨_, _, rfl, by kernel_rfl, List UInt8, encStr, KeepsWalks, _, _, Maps.size D, fun pre W => ∃ v, Fr w W [rIt eS 1 v pre.length (pre.map fun s => Value.string (mkS s)), sIt sb [v]], hseq, fun h k => walksK_t h k, fun W l o o' h1 h2 h3 h4 => walksK_b W l o o' h1 h2 h3 h4, ?_, ⟨_, f1.nilR eS 1⟩, ?_, ?_⟩
  · rintro pre W W' row ⟨v, fG⟩ hg hr
    exact ⟨v, fG.grownW hg fun r e => ⟨Nat.le_trans f1.old.size (hr r e).1, (hr r e).2⟩⟩
  · rintro pre x W ⟨v, fG⟩ hlen
    have hv : v.cells = #[v] ∧ v.oneCell' = true := by
      have := fG.row 0 rfl
      obtain ⟨a, c, rfl, _⟩ := this
      exact ⟨rfl, rfl⟩
    refine gLoad_v (fG.cell0W 1 rfl) (fLitK [encStr x] fG rfl rfl (fun u hu => by rw [List.mem_singleton.1 hu]; rfl) fun t10 w4 k4 f4 s4 => ?_)
    refine fAppK 16 (m := 1) f4 0 rfl s4 (fun u hu => by rw [List.mem_singleton.1 hu]; rfl) (by omega) (by unfold maxLen; omega) (fun v' w5 k5 f5 => ?_) (by kernel_rfl)
    have hv' : v'.cells = #[v'] ∧ v'.oneCell' = true := by
      have := f5.row 0 rfl
      obtain ⟨a, c, rfl, _⟩ := this
      exact ⟨rfl, rfl⟩
    refine fStoreK f5 1 rfl (fun w6 k6 f6 => ?_) hv'.2 hv'.1
    have ko := k4.trans (k5.trans k6)
    refine ⟨ko, ko.walks, v', ?_⟩
    rw [List.length_append, List.map_append]
    exact f6
  · rintro DD xs W hD2 ⟨hp, hx⟩ ⟨v, fG⟩ hdef
    refine gLoad_v (fG.cell0W 1 rfl) ⟨hdef, v, xs, rfl, ?_, fun x => ?_, ?_⟩
    · exact hp.nodup_iff.2 (strKeys_nodup hD)
    · rw [hx x, hhas x]
    · exact (fG.putObjW (Nat.le_trans f1.old.size hD2) hdef rfl).picksN 2 [0] (by decide) (by decide)
/-- slices.SortedFunc of a map's keys: the words, by their worth. -/
theorem fSorted {mb wp tp : Addr} {K : Value → World → Prop} (f : Fr w0 w F) (h0 : mb.off = 0 ∧ mb.spot = none) (hm : sIt mb [.map (some b)] ∈ F) (hw : sIt wp [.func (.func n_words_Find_1) #[] #[.pointer (some tp)]] ∈ F) (hc : sIt tp [.map (some b)] ∈ F) (hM : MapI w b ws) (hl : ws.length ≤ 1000000000) (h24 : ∀ s ∈ ws, s.length ≤ 24)
    (hk : ∀ v w', MapI w' b ws → Fr w0 w' (rIt eS 1 v (sortedU ws).length ((sortedU ws).map fun s => Value.string (mkS s)) :: F) → K v w') :
    gCall P n_slices_SortedFunc_string shV #[.func (.func n_maps_Keys_map_string_int_string_int_1) #[] #[.pointer (some mb)], .func (.func n_words_Find_2) #[] #[.pointer (some wp)]] w K := by
  have hcell : ∀ {q : Addr} {u : Value}, sIt q [u] ∈ F → w.cell? q = some u := fun {q u} hq => by
    have := St.cell (j := 0) (u := u) (f.mem hq).1 rfl
    rwa [Addr.add_zero'] at this
  refine gCall_of (R := fun e w' => ∃ v, e = .returned v ∧ MapI w' b ws ∧ Fr w0 w' (rIt eS 1 v (sortedU ws).length ((sortedU ws).map fun s => Value.string (mkS s)) :: F)) (of_slices_SortedFunc_string (gCall_of (R := CollE w ws) (of_slices_Collect_string (gCall_of (Append_any (hcell hm) h0 hM hl) ?_)) ?_)) ?_
  · rintro e w1 ⟨v, ss, rfl, h⟩
    exact ⟨v, rfl, v, ss, rfl, h⟩
  · rintro _ w1 ⟨v, ss, rfl, hn, hx, g1⟩
    have f1 := f.glue g1
    have hlen : ss.length ≤ ws.length := by
      have : ss.Perm (dd ws) := perm_of_mem hn (nodup_dd ws) fun x => by rw [hx x, mem_dd]
      rw [this.length_eq, ← (sortedU_perm ws).length_eq]; exact sortedU_len ws
    refine ⟨v, rfl, fSort f1 (fun s hs => h24 s ((hx s).1 hs)) (by omega) hw hc (hM.ch g1.old) hl fun w2 hM2 f2 => ?_⟩
    rw [sorted_of hn hx] at f2
    refine ⟨v, rfl, hM2, ?_⟩
    have hsl : ss.length = (sortedU ws).length := by rw [← sorted_of hn hx, (List.mergeSort_perm _ _).length_eq]
    rw [← hsl]
    exact f2
  · rintro _ w' ⟨v, rfl, h1, h2⟩
    exact ⟨v, rfl, hk v w' h1 h2⟩
end
end Go.Proofs.YtilpoinhfiajcaaGreatDoorV

/- Package words: bytes of a text; Find. -/
namespace Go.Proofs.YtilpoinhfiajcaaGreatDoorV
open Go Go.RowKit
/-! ### []byte(s) -/
def Tx (e : TypeId) (w : World) (v : Value) (xs : List Int) : Prop := ∃ g c cur, v = .slice (some ⟨g, 0, none⟩) xs.length c ∧ xs.length ≤ c ∧ w.heap[g]? = some (.cells cur e (cur.size, cur.size + 1)) ∧ cur.size = c ∧ cur.toList.take xs.length = xs.map (Value.int .u8) ∧ inR .u8 xs
theorem Tx.ch {e : TypeId} {S : SS} {w w' : World} {v : Value} {xs : List Int} (h : Tx e w v xs) (hc : Ch S w w') (hs : ∀ k i, v.ownBlock = some k → ¬ S k i) : Tx e w' v xs := by
  obtain ⟨g, c, cur, rfl, h1, h2, h3⟩ := h
  exact ⟨g, c, cur, rfl, h1, by rw [hc.blk g (hlt h2) fun i => hs g i rfl]; exact h2, h3⟩
theorem Tx.nm {e : TypeId} {w : World} {v : Value} {xs : List Int} (h : Tx e w v xs) : Nm .u8 w v xs := by
  obtain ⟨g, c, cur, rfl, h1, h2, h3, h4, h5⟩ := h
  refine ⟨⟨some ⟨g, 0, none⟩, c, rfl, h1, by simp, fun ad ha j u hj => ?_, fun h => by cases h⟩, h5⟩
  injection ha with ha; subst ha
  rw [Addr.add_lit]
  have hjl : j < xs.length := by simpa using (List.getElem?_eq_some_iff.1 hj).1
  rw [← h4, List.getElem?_take, if_pos hjl, Array.getElem?_toList] at hj
  simp [World.cell?, h2, hj]
def tIt (e : TypeId) (v : Value) (xs : List Int) : It := ⟨fun b => v.ownBlock = some b, fun w => Tx e w v xs, fun _ _ h hk => by
    obtain ⟨g, c, cur, rfl, _, h1, _⟩ := h
    simp [Value.ownBlock] at hk; subst hk; exact ⟨_, _, _, h1⟩, fun _ _ _ h hc hs => h.ch hc hs, fun _ _ h _ hc => by
    obtain ⟨g, c, cur, rfl, h1, h2, h3⟩ := h; exact ⟨g, c, cur, rfl, h1, by rw [hc _ _ _ _ h2]; exact h2, h3⟩⟩
def strBytes (P : Program) (s d : TypeId) : Bool := match P.underlying s, P.underlying d with
  | some .string, some (.slice e) => (match P.underlying e with | some (.int .u8) => true | _ => false)
  | _, _ => false
section
variable {w0 w : World} {F : List It}
theorem fConvSb {s d : TypeId} {l : List UInt8} {K : Value → World → Prop} (f : Fr w0 w F) (hl : l.length ≤ 1000000) (hk : ∀ v w', KeepsOthers w w' → Fr w0 w' (tIt (elOf P d) v (iU l) :: F) → K v w') (ht : strBytes P s d = true := by kernel_rfl) : gConv P s d shV (.string (mkS l)) w K := by
  unfold strBytes at ht
  split at ht
  · rename_i e hs hd
    split at ht
    · rename_i he
      have hel : elOf P d = e := by unfold elOf; rw [hd]
      rw [hel] at hk
      have hge := grownCap_ge w (mkS l).size 0 e
      have hil := iU_len l
      have hsz : (mkS l).size = l.length := mkS_size l
      have hrs : (bytesRow (mkS l) (grownCap w (mkS l).size 0 e)).size = grownCap w (mkS l).size 0 e := by
        unfold bytesRow
        have : (mkS l).data.size = l.length := by simp [mkS]
        simp only [Array.size_append, Array.size_map, Array.size_replicate, this, hsz] at *
        omega
      refine ⟨_, _, run_bytes_of_string w s d e (mkS l) hs hd he, hk _ _ (Ev.trans (Ev.drew0 w) (Ev.alloc w.drew _)).others (f.new (jt := tIt e _ (iU l)) (Ev.trans (Ev.drew0 w) (Ev.alloc w.drew _)) ⟨w.heap.size, _, _, by rw [hil, hsz], by rw [hil]; omega, heap_alloc_new w.drew _, hrs, ?_, iU_u8 l⟩ fun k hk => ?_)⟩
      · unfold bytesRow
        rw [Array.toList_append, List.take_left' (by simp [mkS, iU_len])]
        simp [mkS, iU, Function.comp_def]
      · have : w.heap.size = k := by simpa [tIt, Value.ownBlock] using hk
        omega
    · cases ht
  · cases ht
/-! ### Words in memory of one's own -/
noncomputable abbrev eW : TypeId := elOf P t_sl_sl_uint8
noncomputable abbrev eB1 : TypeId := elOf P t_sl_uint8
noncomputable def wdP (v : Value) (T : List (Value × List Int)) : List It := rIt eW 1 v T.length (T.map (·.1)) :: T.reverse.map fun u => tIt eB1 u.1 u.2
theorem wdP_step {out v : Value} {T : List (Value × List Int)} {xs : List Int} {K : Value → World → Prop} (f : Fr w0 w (tIt eB1 v xs :: wdP out T ++ F)) (hl : T.length ≤ 1000) (hk : ∀ out' w', KeepsOthers w w' → Fr w0 w' (wdP out' (T ++ [(v, xs)]) ++ F) → K out' w') :
    gLit P t_sl_sl_uint8 1 #[(0, v)] w fun t20 w5 => gApp P #[t_sl_sl_uint8, t_sl_sl_uint8] t_sl_sl_uint8 #[out, t20] w5 K := by
  have hn : Nm .u8 w v xs := Tx.nm (f.get 0 rfl)
  have ho : v.oneCell' = true := by obtain ⟨a, c, rfl, _⟩ := hn.shape; rfl
  refine fLitK [v] f rfl rfl (fun u hu => by rw [List.mem_singleton.1 hu]; exact hn.one) fun t5 w5 k5 f5 s5 => ?_
  refine fAppK 24 (m := 1) f5 1 rfl s5 (fun x hx => by rw [List.mem_singleton.1 hx]; exact ho) (by omega) (by unfold maxLen; omega) (fun v' w6 k6 f6 => hk v' w6 (k5.trans k6) ?_) (by kernel_rfl)
  have f7 := f6.picksN 2 [1, 0] (by decide) (by decide)
  have e1 : wdP v' (T ++ [(v, xs)]) ++ F = rIt eW 1 v' (T.length + 1) (T.map (·.1) ++ [v]) :: tIt eB1 v xs :: ((T.reverse.map fun u => tIt eB1 u.1 u.2) ++ F) := by
    unfold wdP; rw [List.map_append, List.length_append, List.reverse_append]; rfl
  rw [e1]; exact f7
theorem wdP_at {v : Value} {T : List (Value × List Int)} (f : Fr w0 w (wdP v T ++ F)) : Sl w 1 v T.length (T.map (·.1)) ∧ ∀ u ∈ T, Nm .u8 w u.1 u.2 := by
  refine ⟨f.row 0 rfl, fun u hu => Tx.nm (e := eB1) ?_⟩
  have hm : tIt eB1 u.1 u.2 ∈ wdP v T ++ F := List.mem_append_left _ (List.mem_cons_of_mem _ (List.mem_map.2 ⟨u, List.mem_reverse.2 hu, rfl⟩))
  exact (f.mem hm).1
/-! ### Find -/
def FindE (w : World) (L : List (List UInt8)) (e : Ending) (w' : World) : Prop := ∃ (v : Value) (T : List (Value × List Int)), e = .returned v ∧ T.map (·.2) = L.map iU ∧ Fr w w' (wdP v T)
theorem findU_rest {ws : List (List UInt8)} {c : List UInt8 → Bool} {k : Nat} (hk : k < ws.length) : ((ws.take (k + 1)).filter c).take 64 = if c ws[k] = true ∧ (((ws.take k).filter c).take 64).length < 64 then ((ws.take k).filter c).take 64 ++ [ws[k]] else ((ws.take k).filter c).take 64 := by
  rw [List.take_succ_eq_append_getElem hk, List.filter_append]
  by_cases hc : c ws[k] = true
  · rw [List.filter_cons_of_pos hc, List.filter_nil]
    by_cases hl : (((ws.take k).filter c).take 64).length < 64
    · rw [if_pos ⟨hc, hl⟩]
      have : ((ws.take k).filter c).length < 64 := by rw [List.length_take] at hl; omega
      rw [List.take_of_length_le (l := (ws.take k).filter c ++ [ws[k]]) (by simp; omega), List.take_of_length_le (l := (ws.take k).filter c) (by omega)]
    · rw [if_neg fun h => hl h.2]
      have : 64 ≤ ((ws.take k).filter c).length := by rw [List.length_take] at hl; omega
      rw [List.take_append_of_le_length this]
  · rw [if_neg fun h => hc h.1, List.filter_cons_of_neg hc, List.filter_nil, List.append_nil]
theorem Find_any {b : Value} {xs : List Int} (hb : Nm .u8 w b xs) (hl : xs.length ≤ 10000000) : Calls P n_words_Find #[b] w (FindE w (findU (wordsU xs))) := by
  obtain ⟨W, hW⟩ : ∃ W, W = wordsU xs := ⟨_, rfl⟩
  have hwl := wordsU_len xs.length xs (Nat.le_refl _)
  rw [← hW] at hwl ⊢
  refine of_words_Find (gMakeMap fun w1 e1 hM1 => ?_)
  obtain ⟨B, hB⟩ : ∃ B, B = w.heap.size := ⟨_, rfl⟩
  rw [← hB] at hM1 ⊢
  refine fAllocK (z := .map none) ((Fr.start w).ev e1) (by kernel_rfl) fun tp w2 k2 f2 => fStoreK f2 0 rfl (fun w3 k3 f3 => ?_) rfl rfl
  have f3 : Fr w w3 [sIt tp [.map (some B)]] := f3
  have hM3 := (hM1.kept k2).kept k3
  refine ⟨fun b' w' => ∃ (p : Nat) (ws : List (List UInt8)), p ≤ xs.length ∧ Nm .u8 w b' (xs.drop p) ∧ ws ++ wordsU (xs.drop p) = W ∧ MapI w' B ws ∧ Fr w w' [sIt tp [.map (some B)]], fun b' _ => (match b' with | .slice _ n _ => n | _ => 0), ⟨0, [], Nat.zero_le _, by rw [List.drop_zero]; exact hb, by rw [List.drop_zero, hW]; rfl, hM3, f3⟩, ?_⟩
  rintro _ b' w4 ⟨p, ws, hp, hb', hws, hM4, f4⟩
  have hb4 := hb'.ev f4.old
  have hdl : (xs.drop p).length = xs.length - p := List.length_drop
  have hwsl : ws.length ≤ xs.length := by have := congrArg List.length hws; rw [List.length_append] at this; omega
  refine gLen_nm hb4 (gIf_dec (fun hgt => ?_) (fun hle => ?_))
  · refine gCall_of (run_any hb4 (by omega)) ?_
    rintro _ w5 ⟨rfl, hw5⟩
    obtain rfl : w4 = w5 := hw5.symm
    have hrl := runN_le (xs.drop p)
    have hne : xs.drop p ≠ [] := fun h => by rw [h] at hgt; simp at hgt
    obtain ⟨n, hn⟩ : ∃ n, n = runN (xs.drop p) := ⟨_, rfl⟩
    have hst := wordsU_step hne
    rw [← hn] at hrl hst ⊢
    refine ⟨_, rfl, fun w' => MapI w' B (ws ++ (if 3 ≤ n ∧ n ≤ 24 then [bU ((xs.drop p).take n)] else [])) ∧ Fr w w' [sIt tp [.map (some B)]], gIf_dec (fun h3 => gIf_dec (fun h24 => ?_) (fun h24 => ?_)) (fun h3 => ?_), ?_⟩
    · refine ⟨fun w' => w'.cell? tp = some (.map (some B)), f4.drew.cell0W 0 rfl, gLoadB_v (fun w' h => h) (gSlice_nm (hb4.drew) 0 n (.inl ⟨rfl, rfl⟩) (.inr ⟨_, rfl⟩) (Nat.zero_le _) (by omega) fun hs => gConv_bs hs ⟨f4.drew.cell0W 0 rfl, ?_⟩)⟩
      rw [bsOf_mk, List.drop_zero, Nat.sub_zero]
      have hwl1 : (bU ((xs.drop p).take n)).length ≤ 1000 := by rw [bU_len, List.length_take]; omega
      have hM5 : MapI w4.drew B ws := hM4.ch (Ev.drew0 w4)
      have hcl : ws.count (bU ((xs.drop p).take n)) ≤ ws.length := List.count_le_length
      refine gLookup hM5 hwl1 ⟨f4.drew.cell0W 0 rfl, gBump hM5 hwl1 (by omega) (by rw [i64_id (by omega) (by omega)]) fun w6 hg hM6 => ?_⟩
      have f6 : Fr w w6 [sIt tp [.map (some B)]] := f4.drew.grownW hg fun r e => by
        injection e with e; subst e
        exact ⟨by omega, hM5.block⟩
      refine ⟨f6.cell0W 0 rfl, ?_, f6⟩
      rw [if_pos (by omega)]; exact hM6
    · rw [if_neg (by omega), List.append_nil]; exact ⟨hM4, f4⟩
    · rw [if_neg (by omega), List.append_nil]; exact ⟨hM4, f4⟩
    · rintro _ w7 ⟨hM7, f7⟩
      have hmx : (if 1 > ((n : Nat) : Int) then (1 : Int) else ((n : Nat) : Int)) = (((if 1 > n then 1 else n) : Nat) : Int) := by split <;> split <;> omega
      obtain ⟨m, hm⟩ : ∃ m, m = (if 1 > n then 1 else n) := ⟨_, rfl⟩
      rw [hmx, ← hm]
      rw [← hm] at hst
      have hm1 : 1 ≤ m ∧ m ≤ xs.length - p := by rw [hm]; split <;> omega
      refine gSlice_nm (hb'.ev f7.old) m (xs.drop p).length (.inr ⟨_, rfl⟩) (.inl ⟨rfl, rfl⟩) (by omega) (Nat.le_refl _) fun hs => ?_
      have hsub := hb'.sub m (xs.drop p).length (by omega) (Nat.le_refl _)
      rw [List.take_of_length_le (by rw [List.length_drop]; omega), List.drop_drop] at hsub
      refine ⟨⟨p + m, _, by omega, hsub, ?_, hM7, f7⟩, ?_⟩
      · rw [List.append_assoc, ← List.drop_drop, ← hst]; exact hws
      · obtain ⟨a1, c1, e1, _⟩ := hb'.shape
        obtain ⟨a2, c2, e2, _⟩ := hsub.shape
        rw [e2, e1]
        dsimp only
        rw [List.length_drop, List.length_drop]; omega
  · have hnil : xs.drop p = [] := List.eq_nil_of_length_eq_zero (by omega)
    rw [hnil, wordsU_nil, List.append_nil] at hws
    subst hws
    refine fAllocK (z := .nilFunc) f4 (by kernel_rfl) fun wp w5 k5 f5 => fStoreK f5 0 rfl (fun w6 k6 f6 => ?_) rfl rfl
    have f6 : Fr w w6 [sIt wp [.func (.func n_words_Find_1) #[] #[.pointer (some tp)]], sIt tp [.map (some B)]] := f6
    have hM6 := (hM4.kept k5).kept k6
    refine gLoad_v (f6.cell0W 1 rfl) (Keys_any f6 _ rfl fun mb w7 k7 h0 f7 => ?_)
    have hM7 := hM6.kept k7
    refine fSorted (mb := mb) (wp := wp) (tp := tp) f7 h0 (by simp) (by simp) (by simp) hM7 (by omega) (fun s hs => (hwl.2 s hs).2) fun v w8 hM8 f8 => ?_
    obtain ⟨S, hS⟩ : ∃ S, S = sortedU ws := ⟨_, rfl⟩
    rw [← hS] at f8
    have hSl : S.length ≤ ws.length := by rw [hS]; exact sortedU_len ws
    have hSm : ∀ s ∈ S, s.length ≤ 24 := fun s hs => (hwl.2 s (mem_sortedU.1 (hS ▸ hs))).2
    refine gLen_slv (f8.row 0 rfl) ⟨fun out i w' => ∃ (k : Nat) (T : List (Value × List Int)), i = (k : Int) ∧ k ≤ S.length ∧ T.map (·.2) = (((S.take k).filter fun s => decide (1 < ws.count s)).take 64).map iU ∧ MapI w' B ws ∧ Fr w w' (wdP out T ++ [rIt eS 1 v S.length (S.map fun s => Value.string (mkS s)), sIt tp [.map (some B)]]), fun _ i _ => (S.length - i).toNat, ⟨0, [], rfl, Nat.zero_le _, rfl, hM8, ?_⟩, ?_⟩
    · have := (f8.picksN 4 [0, 3] (by decide) (by decide)).nilR eW 1
      exact this
    rintro _ out i w9 ⟨k, T, rfl, hk, hT, hM9, f9⟩
    have hTl : T.length ≤ 64 := by have := congrArg List.length hT; rw [List.length_map, List.length_map, List.length_take] at this; omega
    have hrow : ∀ {w' : World} {out : Value} {T : List (Value × List Int)}, Fr w w' (wdP out T ++ [rIt eS 1 v S.length (S.map fun s => Value.string (mkS s)), sIt tp [.map (some B)]]) → Sl w' 1 v S.length (S.map fun s => Value.string (mkS s)) ∧ w'.cell? tp = some (.map (some B)) := fun {w' out T} f => by
      refine ⟨Sl.of_ownS (sz := 1) (f.mem (it := rIt eS 1 v S.length (S.map fun s => Value.string (mkS s))) (by simp)).1, ?_⟩
      have := St.cell (j := 0) (u := Value.map (some B)) (f.mem (it := sIt tp [.map (some B)]) (by simp)).1 rfl
      rwa [Addr.add_zero'] at this
    refine gIf_dec (fun hlt => ?_) (fun hge => ?_)
    · have hkS : k < S.length := by omega
      obtain ⟨h1, h2⟩ := hrow f9
      refine gIdx_1 h1 (by omega) (by omega) fun a u hua hc _ => ?_
      have hue : u = .string (mkS S[k]) := by
        rw [Int.toNat_natCast, List.getElem?_map, List.getElem?_eq_getElem hkS] at hua
        simpa using hua.symm
      subst hue
      refine gLoad_s hc (gLoad_v h2 (gLookup hM9 (by have := hSm S[k] (List.getElem_mem hkS); omega) ?_))
      have hnext := findU_rest (ws := S) (c := fun s => decide (1 < ws.count s)) hkS
      have hlen : (((S.take k).filter fun s => decide (1 < ws.count s)).take 64).length = T.length := by have := congrArg List.length hT; simpa using this.symm
      rw [hlen] at hnext
      have skip : ¬ ((fun s => decide (1 < ws.count s)) S[k] = true ∧ T.length < 64) → (∃ (k' : Nat) (T' : List (Value × List Int)), i64 ((k : Int) + 1) = (k' : Int) ∧ k' ≤ S.length ∧ T'.map (·.2) = (((S.take k').filter fun s => decide (1 < ws.count s)).take 64).map iU ∧ MapI w9 B ws ∧ Fr w w9 (wdP out T' ++ [rIt eS 1 v S.length (S.map fun s => Value.string (mkS s)), sIt tp [.map (some B)]])) ∧ (S.length - i64 ((k : Int) + 1)).toNat < (S.length - (k : Int)).toNat := fun hn => by
        rw [if_neg hn] at hnext
        exact ⟨⟨k + 1, T, by rw [i64_id (by omega) (by omega)]; omega, by omega, by rw [hnext]; exact hT, hM9, f9⟩, by rw [i64_id (by omega) (by omega)]; omega⟩
      refine gIf_dec (fun hc1 => gLen_slv (wdP_at f9).1 (gIf_dec (fun h64 => ?_) (fun h64 => skip fun h => by omega))) (fun hc1 => skip fun h => by have := of_decide_eq_true h.1; omega)
      rw [if_pos ⟨decide_eq_true (by omega), by omega⟩] at hnext
      refine fConvSb f9 (by have := hSm S[k] (List.getElem_mem hkS); omega) fun u w10 k10 f10 => wdP_step f10 (by omega) fun out' w11 k11 f11 => ⟨⟨k + 1, _, by rw [i64_id (by omega) (by omega)]; omega, by omega, ?_, (hM9.kept k10).kept k11, f11⟩, by dsimp only; rw [i64_id (by omega) (by omega)]; omega⟩
      rw [hnext, List.map_append, List.map_append, hT]; rfl
    · obtain rfl : k = S.length := by omega
      rw [List.take_length] at hT
      refine ⟨out, T, rfl, by rw [hT, hS]; rfl, ?_⟩
      exact f9.leftW
end
end Go.Proofs.YtilpoinhfiajcaaGreatDoorV

/- Package words: Pack, Unpack. -/
namespace Go.Proofs.YtilpoinhfiajcaaGreatDoorV
open Go Go.RowKit
def txtB (L : List (List Int)) : List Int := (L.map fun u => numB u.length ++ u).flatten
theorem txtB_next {L : List (List Int)} {k : Nat} (hk : k < L.length) : txtB (L.take (k + 1)) = txtB (L.take k) ++ numB L[k].length ++ L[k] := by
  unfold txtB
  rw [List.take_succ_eq_append_getElem hk, List.map_append, List.flatten_append]; simp
def findW (xs : List Int) : List (List Int) := (findU (wordsU xs)).map iU
def packWd (xs : List Int) : List Int × Bool := if findW xs = [] ∨ xs.length > 1048576 then ([], false) else (numB (findW xs).length ++ txtB (findW xs) ++ applyW (findW xs) xs, true)
theorem findU_sub (ws : List (List UInt8)) : (findU ws).length ≤ 64 ∧ ∀ s ∈ findU ws, s ∈ ws ∧ 1 < ws.count s := by
  unfold findU
  refine ⟨by rw [List.length_take]; omega, fun s hs => ?_⟩
  have := List.mem_filter.1 (List.mem_of_mem_take hs)
  exact ⟨mem_sortedU.1 this.1, of_decide_eq_true this.2⟩
theorem findW_rg (xs : List Int) : (findW xs).length ≤ 64 ∧ ∀ u ∈ findW xs, 3 ≤ u.length ∧ u.length ≤ 24 := by
  unfold findW
  refine ⟨by rw [List.length_map]; exact (findU_sub _).1, fun u hu => ?_⟩
  obtain ⟨s, hs, rfl⟩ := List.mem_map.1 hu
  rw [iU_len]
  exact (wordsU_len xs.length xs (Nat.le_refl _)).2 s ((findU_sub _).2 s hs).1
theorem apS_len (L : List (List Int)) : ∀ (f : Nat) (xs : List Int), xs.length ≤ f → (apS L f xs).length ≤ 2 * xs.length
  | 0, xs, _ => by simp [apS]
  | f + 1, xs, h => by
    rw [apS]
    by_cases hx : xs = []
    · rw [if_pos hx]; exact Nat.zero_le _
    · have h0 : 0 < xs.length := List.length_pos_iff.2 hx
      have h1 := mxR_pos xs
      have h2 := tokW_len L xs
      have h3 : mxR xs ≤ xs.length := by unfold mxR; have := runN_le xs; split <;> omega
      have ih := apS_len L f (xs.drop (mxR xs)) (by rw [List.length_drop]; omega)
      rw [List.length_drop] at ih
      rw [if_neg hx, List.length_append]; omega
theorem applyW_len (L : List (List Int)) (xs : List Int) : (applyW L xs).length ≤ 2 * xs.length := apS_len L _ xs (Nat.le_refl _)
theorem txtB_len {L : List (List Int)} (h : ∀ u ∈ L, u.length ≤ 24) : (txtB L).length ≤ L.length * 34 := by
  induction L with
  | nil => simp [txtB]
  | cons u L ih =>
    have h1 := ih fun x hx => h x (List.mem_cons_of_mem _ hx)
    have h2 := h u List.mem_cons_self
    have h3 : (numB u.length).length ≤ 10 := numB_len64 (by omega)
    have e : txtB (u :: L) = numB u.length ++ u ++ txtB L := rfl
    rw [e, List.length_append, List.length_append, List.length_cons, Nat.succ_mul]; omega
section
variable {w0 w : World} {F : List It}
theorem wdP_nl {v : Value} {T : List (Value × List Int)} (f : Fr w0 w (wdP v T ++ F)) : NL .u8 w v (T.map (·.2)) := by
  obtain ⟨h1, h2⟩ := wdP_at f
  refine ⟨T.map (·.1), by rw [List.length_map]; exact h1, fun i u xs hu hx => ?_⟩
  rw [List.getElem?_map] at hu hx
  cases ht : T[i]? with
  | none => rw [ht] at hu; cases hu
  | some t =>
    rw [ht] at hu hx
    simp at hu hx
    subst hu; subst hx
    exact h2 t (List.mem_of_getElem? ht)
theorem FindE.nl {xs : List Int} {e : Ending} {w' : World} (h : FindE w (findU (wordsU xs)) e w') : ∃ (v : Value) (T : List (Value × List Int)), e = .returned v ∧ T.map (·.2) = findW xs ∧ Fr w w' (wdP v T) ∧ NL .u8 w' v (findW xs) := by
  obtain ⟨v, T, rfl, hT, f⟩ := h
  refine ⟨v, T, rfl, hT, f, ?_⟩
  have := wdP_nl (F := []) (by rw [List.append_nil]; exact f)
  rwa [hT] at this
theorem gLen_nl {v : Value} {L : List (List Int)} {K : Nat → Prop} (h : NL .u8 w v L) (hk : K L.length) : gLen P t_sl_sl_uint8 v K := let ⟨_, h1, _⟩ := h; gLen_slv h1 hk
theorem wPack_any {b : Value} {xs : List Int} (hb : Nm .u8 w b xs) (hl : xs.length ≤ 10000000) : Calls P n_words_Pack #[b] w (TupB w (packWd xs)) := by
  refine of_words_Pack (gCall_of (Find_any hb hl) ?_)
  intro e w1 hF
  obtain ⟨t9, T, rfl, hT, f1, hN1⟩ := hF.nl
  obtain ⟨hL64, hLu⟩ := findW_rg xs
  have hal := applyW_len (findW xs) xs
  have htl := txtB_len (L := findW xs) fun u hu => (hLu u hu).2
  have no : (findW xs = [] ∨ xs.length > 1048576) → TupB w (packWd xs) (.returned (.tuple #[.slice none 0 0, .bool false])) w1 := fun h => by
    unfold packWd; rw [if_pos h]; exact ⟨_, rfl, f1.old, ON.nil _ _ _ _⟩
  refine ⟨t9, rfl, fun w' => w' = w1 ∧ ¬ (findW xs = [] ∨ xs.length > 1048576), gLen_nl hN1 (gIf_neqq (fun hne => gLen_nm (hb.ev f1.old) (gIf_dec (fun hgt => no (.inr (by omega))) (fun hle => ⟨rfl, fun h => ?_⟩))) (fun he => no (.inl (List.eq_nil_of_length_eq_zero (by omega))))), ?_⟩
  · rcases h with h | h
    · rw [h] at hne; exact hne rfl
    · omega
  rintro _ w2 ⟨hw2, hok⟩
  obtain rfl : w1 = w2 := hw2.symm
  unfold packWd
  rw [if_neg hok]
  obtain ⟨L, hL⟩ : ∃ L, L = findW xs := ⟨_, rfl⟩
  rw [← hL] at hT hN1 hL64 hLu hal htl hok ⊢
  have hxl : xs.length ≤ 1048576 := by omega
  have nlF : ∀ {w' : World} {G : List It}, Fr w w' (G ++ wdP t9 T) → NL .u8 w' t9 L := fun {w' G} f => by
    have := wdP_nl (F := []) (by rw [List.append_nil]; exact (by have h := f.dropN G.length; rwa [List.drop_left' rfl] at h))
    rwa [hT] at this
  refine fNewW f1 fun o v w3 f3 => gLen_nl (nlF (G := [_]) f3) ?_
  rw [show u64 (L.length : Int) = (L.length : Int) by rw [u64_def]; omega]
  refine fNum f3 0 rfl (by omega) (by simp) fun v4 w4 f4 => gLen_nl (nlF (G := [_]) f4) ?_
  have f4 : Fr w w4 (wIt eB o v4 ([] ++ numB (L.length : Int).toNat) :: wdP t9 T) := f4
  rw [List.nil_append, Int.toNat_natCast] at f4
  have hnl : (numB L.length).length ≤ 10 := numB_len64 (by omega)
  have htk : ∀ k, (txtB (L.take k)).length ≤ 64 * 34 := fun k => by
    have h1 := txtB_len (L := L.take k) fun u hu => (hLu u (List.mem_of_mem_take hu)).2
    have h2 := Nat.mul_le_mul_right 34 (show (L.take k).length ≤ 64 by rw [List.length_take]; omega)
    omega
  refine ⟨fun i w' => ∃ (k : Nat) (v' : Value), i = (k : Int) ∧ k ≤ L.length ∧ Fr w w' (wIt eB o v' (numB L.length ++ txtB (L.take k)) :: wdP t9 T), fun i _ => (L.length - i).toNat, ⟨0, v4, rfl, Nat.zero_le _, by simpa [txtB] using f4⟩, ?_⟩
  rintro _ i w5 ⟨k, v5, rfl, hk, f5⟩
  have hk5 := htk k
  refine gIf_dec (fun hlt => ?_) (fun hge => ?_)
  · have hkL : k < L.length := by omega
    have hu := hLu L[k] (List.getElem_mem hkL)
    have hTl : T.length = L.length := by rw [← hT, List.length_map]
    have hTk : T[k].2 = L[k] := by simp only [← hT, List.getElem_map]
    have wd : ∀ {w' : World}, Fr w w' (wdP t9 T) → Sl w' 1 t9 T.length (T.map (·.1)) ∧ ∀ u ∈ T, Nm .u8 w' u.1 u.2 := fun f => wdP_at (F := []) (by rw [List.append_nil]; exact f)
    refine gIdx_1 (wd (f5.dropN 1)).1 (by omega) (by omega) fun a u hua hc _ => ?_
    have hue : u = T[k].1 := by
      rw [Int.toNat_natCast, List.getElem?_map, List.getElem?_eq_getElem (by omega)] at hua
      simpa using hua.symm
    subst hue
    refine gLoad_v hc ?_
    refine fTextW (ys := L[k]) f5 0 rfl (fun w' f' => by rw [← hTk]; exact (wd f').2 T[k] (List.getElem_mem _)) (by rw [List.length_append]; omega) fun v6 w6 f6 => ⟨⟨k + 1, v6, by rw [i64_id (by omega) (by omega)]; omega, hkL, ?_⟩, by dsimp only; rw [i64_id (by omega) (by omega)]; omega⟩
    · rw [txtB_next hkL]; simpa [List.append_assoc] using f6
  · obtain rfl : k = L.length := by omega
    rw [List.take_length] at f5
    have htl2 : (txtB L).length ≤ 64 * 34 := by have := htk L.length; rwa [List.take_length] at this
    refine gCall_v (wApply_any (hb.ev f5.old) (by omega) (nlF (G := [_]) f5)) fun t33 w7 ⟨h7, o7⟩ => ?_
    rw [List.take_of_length_le (show L.length ≤ 64 by omega)] at o7
    have f7 := f5.newO h7 o7
    refine fLitV [t33] f7 rfl rfl (fun u hu => by rw [List.mem_singleton.1 hu]; exact o7.nm.one) fun t34 w8 f8 => ?_
    refine fRawW (yss := [applyW L xs]) f8 2 rfl (fun w' f' => NL.of (f'.sl 0 rfl) rfl fun j u ys hu hy => ?_) (by simp only [List.flatten_cons, List.flatten_nil, List.append_nil, List.length_append]; omega) (by simp) fun v9 w9 f9 => ?_
    · rcases j with _ | j
      · simp at hu hy; subst hu; subst hy; exact f'.nm 1 rfl
      · simp at hu
    · simp only [List.flatten_cons, List.flatten_nil, List.append_nil] at f9
      refine fBytesW f9 2 rfl (by simp only [List.length_append]; omega) fun y w10 f10 => ⟨y, rfl, f10.old, f10.on 0 rfl⟩
end
end Go.Proofs.YtilpoinhfiajcaaGreatDoorV

/- Package words: Unpack. -/
namespace Go.Proofs.YtilpoinhfiajcaaGreatDoorV
open Go Go.RowKit
/-- Words, one behind the other: they, and where the reader stands; or the fault. -/
def wordsR (xs : List Int) (a0 : Nat) : Nat → (List (List Int) × Nat) ⊕ Int
  | 0 => .inl ([], a0)
  | j + 1 => match wordsR xs a0 j with
    | .inr e => .inr e
    | .inl s =>
      let t := textR xs s.2 0 24
      if t.2.2 ≠ 0 then .inr t.2.2
      else if t.1.length < 3 ∨ runN t.1 < t.1.length then .inr 4
      else .inl (s.1 ++ [t.1], t.2.1)
def unpackWd (xs : List Int) (limit : Int) : List Int × Int :=
  let s := numR xs 0 0 18446744073709551615
  if s.2.2 ≠ 0 then ([], s.2.2)
  else if s.1 < 1 ∨ s.1 > 64 then ([], 4)
  else match wordsR xs s.2.1 s.1.toNat with
    | .inr e => ([], e)
    | .inl c => undoW c.1 (xs.drop c.2) (if 1048576 < limit then 1048576 else limit)
theorem textR_at {xs : List Int} {a : Nat} {er m : Int} (ha : a ≤ xs.length) : (textR xs a er m).2.1 ≤ xs.length := by
  unfold textR
  dsimp only
  generalize (if 0 > m then 0 else m) = mm
  by_cases h : er ≠ 0
  · rw [if_pos h]; exact ha
  · rw [if_neg h]
    split
    · exact ha
    · exact rawR_le (numR_le ha)
theorem textR_short {xs : List Int} {a : Nat} : (textR xs a 0 24).1.length ≤ 24 := by
  unfold textR
  dsimp only
  rw [if_neg (show ¬ ((0 : Int) ≠ 0) from fun h => h rfl), if_neg (show ¬ ((0 : Int) > 24) by decide)]
  have hn : (numR xs a 0 24).1 ≤ 24 := by
    unfold numR
    rw [if_neg (show ¬ ((0 : Int) ≠ 0) from fun h => h rfl)]
    split
    · exact (by decide : (0 : Int) ≤ 24)
    · split
      · exact (by decide : (0 : Int) ≤ 24)
      · rename_i h1 h2
        have : (lookI xs a).2.2 = 0 := Decidable.byContradiction h2
        exact Decidable.byContradiction fun h3 => h1 ⟨this, Int.lt_of_not_ge h3⟩
  generalize numR xs a 0 24 = q at *
  split
  · exact Nat.zero_le _
  · unfold rawR
    split
    · exact Nat.zero_le _
    · split
      · exact Nat.zero_le _
      · rw [List.length_take]; omega
theorem wordsR_rg {xs : List Int} {a0 : Nat} (ha : a0 ≤ xs.length) : ∀ (j : Nat) {s : List (List Int) × Nat}, wordsR xs a0 j = .inl s → s.1.length = j ∧ s.2 ≤ xs.length ∧ ∀ u ∈ s.1, u.length ≤ 24
  | 0, s, h => by
    rw [wordsR] at h; injection h with h; subst h
    exact ⟨rfl, ha, fun u hu => by cases hu⟩
  | j + 1, s, h => by
    rw [wordsR] at h
    split at h
    · cases h
    · rename_i s' hs'
      have ih := wordsR_rg ha j hs'
      dsimp only at h
      split at h
      · cases h
      · split at h
        · cases h
        · injection h with h; subst h
          refine ⟨by simp [ih.1], textR_at ih.2.1, fun u hu => ?_⟩
          rcases List.mem_append.1 hu with hu | hu
          · exact ih.2.2 u hu
          · rw [List.mem_singleton.1 hu]; exact textR_short
theorem wordsR_err {xs : List Int} {a0 : Nat} {e : Int} {j : Nat} (h : wordsR xs a0 j = .inr e) : ∀ k, j ≤ k → wordsR xs a0 k = .inr e := by
  intro k hk
  induction k with
  | zero => rw [show j = 0 by omega] at h; exact h
  | succ k ih =>
    by_cases hjk : j = k + 1
    · rw [← hjk]; exact h
    · rw [wordsR, ih (by omega)]
section
variable {w0 w : World} {F : List It}
variable {G : List It}
theorem Fr.permW (hp : F.Perm G) : Fr w0 w F → Fr w0 w G := by
  induction hp with
  | nil => exact fun h => h
  | cons a hp ih => exact fun h => ⟨h.1, h.2.1, fun jt hj => h.2.2.1 jt (hp.mem_iff.2 hj), ih h.2.2.2⟩
  | swap a b l =>
    intro h
    refine ⟨h.2.2.2.1, h.2.2.2.2.1, fun jt hj k hk hjk => ?_, h.1, h.2.1, fun jt hj => h.2.2.1 jt (by simp [hj]), h.2.2.2.2.2.2⟩
    rcases List.mem_cons.1 hj with rfl | hj
    · exact h.2.2.1 a (by simp) k hjk hk
    · exact h.2.2.2.2.2.1 jt hj k hk hjk
  | trans _ _ ih1 ih2 => exact fun h => ih2 (ih1 h)
noncomputable def wdO (v : Value) (T : List (Value × List Int)) : List It := rIt eW 1 v T.length (T.map (·.1)) :: T.reverse.map fun u => oIt .u8 eB u.1 u.2
theorem wdO_step {out v : Value} {T : List (Value × List Int)} {xs : List Int} {K : Value → World → Prop} (f : Fr w0 w (oIt .u8 eB v xs :: wdO out T ++ F)) (hl : T.length ≤ 1000) (hk : ∀ out' w', Fr w0 w' (wdO out' (T ++ [(v, xs)]) ++ F) → K out' w') :
    gLit P t_sl_sl_uint8 1 #[(0, v)] w fun t20 w5 => gApp P #[t_sl_sl_uint8, t_sl_sl_uint8] t_sl_sl_uint8 #[out, t20] w5 K := by
  have hn := f.nm 0 rfl
  have ho : v.oneCell' = true := by obtain ⟨a, c, rfl, _⟩ := hn.shape; rfl
  refine fLitK [v] f rfl rfl (fun u hu => by rw [List.mem_singleton.1 hu]; exact hn.one) fun t5 w5 k5 f5 s5 => ?_
  refine fAppK 24 (m := 1) f5 1 rfl s5 (fun x hx => by rw [List.mem_singleton.1 hx]; exact ho) (by omega) (by unfold maxLen; omega) (fun v' w6 k6 f6 => hk v' w6 ?_) (by kernel_rfl)
  have f7 := f6.picksN 2 [1, 0] (by decide) (by decide)
  have e1 : wdO v' (T ++ [(v, xs)]) ++ F = rIt eW 1 v' (T.length + 1) (T.map (·.1) ++ [v]) :: oIt .u8 eB v xs :: ((T.reverse.map fun u => oIt .u8 eB u.1 u.2) ++ F) := by
    unfold wdO; rw [List.map_append, List.length_append, List.reverse_append]; rfl
  rw [e1]; exact f7
theorem wdO_nl {v : Value} {T : List (Value × List Int)} (f : Fr w0 w (wdO v T ++ F)) : NL .u8 w v (T.map (·.2)) := by
  refine ⟨T.map (·.1), by rw [List.length_map]; exact f.row 0 rfl, fun i u xs hu hx => ?_⟩
  rw [List.getElem?_map] at hu hx
  cases ht : T[i]? with
  | none => rw [ht] at hu; cases hu
  | some t =>
    rw [ht] at hu hx
    simp at hu hx
    subst hu; subst hx
    have hm : oIt .u8 eB t.1 t.2 ∈ wdO v T ++ F := List.mem_append_left _ (List.mem_cons_of_mem _ (List.mem_map.2 ⟨t, List.mem_reverse.2 (List.mem_of_getElem? ht), rfl⟩))
    exact ON.nm (e := eB) (B := 0) (f.mem hm).1
theorem fTextI {ad : Addr} {y : Value} {xs : List Int} {a : Nat} {er n : Int} {K : Value → World → Prop} (f : Fr w0 w (sIt ad [y, .int .i64 a, .int .i64 er] :: oIt .u8 eB y xs :: F)) (ha : a ≤ xs.length) (hl : xs.length ≤ 10000000000) (hn : n ≤ 9223372036854775807)
    (hk : ∀ z w', Fr w0 w' (sIt ad [y, .int .i64 (textR xs a er n).2.1, .int .i64 (textR xs a er n).2.2] :: oIt .u8 eB y xs :: oIt .u8 eB z (textR xs a er n).1 :: F) → K z w') : gCall P n_num_Reader_Text shV #[.pointer (some ad), .int .i64 n] w K := by
  refine gCall_of (rText_any (f.rd 0 1 rfl rfl (by decide) ha hl) hn) ?_
  rintro _ w' ⟨z, rfl, h1, h2⟩
  refine ⟨z, rfl, hk z w' ?_⟩
  have f' : Fr w0 w' (sIt ad [y, .int .i64 (textR xs a er n).2.1, .int .i64 (textR xs a er n).2.2] :: oIt .u8 eB y xs :: F) := f.rs 0 rfl h1
  have hz : ∀ k, z.ownBlock = some k → w.heap.size ≤ k := fun k hk => (h2.base hk).1
  have hlt : ∀ it ∈ (sIt ad [y, .int .i64 (textR xs a er n).2.1, .int .i64 (textR xs a er n).2.2] :: oIt .u8 eB y xs :: F), ∀ k, it.ft k → k < w.heap.size := fun it hi k hk => by
    rcases List.mem_cons.1 hi with rfl | hi
    · exact It.lt (sIt ad [y, .int .i64 a, .int .i64 er]) w k (f.get 0 rfl) hk
    · exact It.lt it w k (f.mem (List.mem_cons_of_mem _ hi)).1 hk
  have f2 := f'.cons (jt := oIt .u8 eB z (textR xs a er n).1) f.old.size hlt (h2.low (Nat.zero_le _)) hz
  exact f2.picksN 3 [1, 2, 0] (by decide) (by decide)
theorem wUnpack_any {x : Value} {xs : List Int} {limit : Int} (hb : Nm .u8 w x xs) (hl : xs.length ≤ 10000000) : Calls P n_words_Unpack #[x, .int .i64 limit] w (TupE w (unpackWd xs limit)) := by
  refine of_words_Unpack (fNewR (Fr.start w) hb (by omega) fun ad y w1 f1 => fNumR f1 (Nat.zero_le _) (by omega) fun w2 f2 => ?_)
  have ha := numR_le (xs := xs) (a := 0) (er := 0) (m := 18446744073709551615) (Nat.zero_le _)
  have hnr := (numR_rng (xs := xs) (a := 0) (er := 0) (most := 18446744073709551615) hb.2).1
  obtain ⟨s, hs⟩ : ∃ s, s = numR xs 0 0 18446744073709551615 := ⟨_, rfl⟩
  unfold unpackWd
  rw [← hs] at f2 ha hnr ⊢
  dsimp only
  have nil : ∀ {w' : World} {e : Int} {R : List Int × Int}, Ev w w' → R = ([], e) → TupE w R (.returned (.tuple #[.slice none 0 0, .int .i64 e])) w' := fun h he => by
    rw [he]; exact ⟨_, rfl, h, ON.nil _ _ _ _⟩
  refine ⟨fun w' => w' = w2 ∧ s.2.2 = 0 ∧ 1 ≤ s.1 ∧ s.1 ≤ 64, fErrR f2 ha (by omega) (gIf_neq (fun hne => fErrR f2 ha (by omega) (nil f2.old (by rw [if_pos hne]))) (fun he => gIf_ndec (fun h1 => gIf_dec (fun h64 => nil f2.old (by rw [if_neg (by omega), if_pos (.inr h64)])) (fun h64 => ⟨rfl, he, by omega, by omega⟩)) (fun h1 => nil f2.old (by rw [if_neg (by omega), if_pos (.inl (by omega))])))), ?_⟩
  rintro _ w3 ⟨hw3, he, h1, h64⟩
  obtain rfl : w2 = w3 := hw3.symm
  rw [if_neg (by omega), if_neg (by omega)]
  obtain ⟨n, hn⟩ : ∃ n : Nat, s.1 = (n : Int) := ⟨s.1.toNat, by omega⟩
  obtain ⟨a0, ha0⟩ : ∃ a0, a0 = s.2.1 := ⟨_, rfl⟩
  rw [he, ← ha0] at f2
  rw [← ha0] at ha ⊢
  rw [hn, Int.toNat_natCast]
  obtain ⟨RES, hRES⟩ : ∃ RES, RES = (match wordsR xs a0 n with | .inr e => ([], e) | .inl c => undoW c.1 (xs.drop c.2) (if 1048576 < limit then 1048576 else limit)) := ⟨_, rfl⟩
  rw [← hRES]
  refine ⟨fun out i w' => ∃ (k : Nat) (T : List (Value × List Int)) (a : Nat), i = (k : Int) ∧ k ≤ n ∧ wordsR xs a0 k = .inl (T.map (·.2), a) ∧ Fr w w' (sIt ad [y, .int .i64 a, .int .i64 0] :: oIt .u8 eB y xs :: wdO out T), fun _ i _ => (n - i).toNat, ⟨0, [], a0, rfl, Nat.zero_le _, rfl, ?_⟩, ?_⟩
  · exact (f2.nilR eW 1).picksN 3 [1, 2, 0] (by decide) (by decide)
  rintro _ out i w4 ⟨k, T, a, rfl, hk, hW, f4⟩
  obtain ⟨r1, r2, r3⟩ := wordsR_rg ha k hW
  have hTl : T.length = k := by rw [← r1, List.length_map]
  refine gIf_dec (fun hlt => ?_) (fun hge => ?_)
  · refine fTextI f4 r2 (by omega) (by decide) fun z w5 f5 => ?_
    have hat := textR_at (xs := xs) (a := a) (er := 0) (m := 24) r2
    have hsh := textR_short (xs := xs) (a := a)
    have hst : wordsR xs a0 (k + 1) = if (textR xs a 0 24).2.2 ≠ 0 then .inr (textR xs a 0 24).2.2 else if (textR xs a 0 24).1.length < 3 ∨ runN (textR xs a 0 24).1 < (textR xs a 0 24).1.length then .inr 4 else .inl (T.map (·.2) ++ [(textR xs a 0 24).1], (textR xs a 0 24).2.1) := by rw [wordsR, hW]
    obtain ⟨t, ht⟩ : ∃ t, t = textR xs a 0 24 := ⟨_, rfl⟩
    rw [← ht] at f5 hat hsh hst
    have fault : ∀ {e : Int} {w' : World}, Ev w w' → wordsR xs a0 (k + 1) = .inr e → TupE w RES (.returned (.tuple #[.slice none 0 0, .int .i64 e])) w' := fun {e w'} hev h => nil hev (by rw [hRES, wordsR_err h n (by omega)])
    refine fErrR f5 hat (by omega) (gIf_neq (fun hne => fErrR f5 hat (by omega) (fault f5.old (by rw [hst, if_pos hne]))) (fun he0 => ?_))
    rw [if_neg (by omega)] at hst
    have hN := f5.nm 2 rfl
    refine gLen_nm hN (gIf_ndec (fun h3 => gCall_of (run_any hN (by omega)) ?_) (fun h3 => fault f5.old (by rw [hst, if_pos (.inl (by omega))])))
    rintro _ w6 ⟨rfl, hw6⟩
    obtain rfl : w5 = w6 := hw6.symm
    refine ⟨_, rfl, gLen_nm hN (gIf_dec (fun hr => fault f5.old (by rw [hst, if_pos (.inr (by omega))])) (fun hr => ?_))⟩
    rw [if_neg (by omega)] at hst
    rw [he0] at f5
    have f7 : Fr w w5 (oIt .u8 eB z t.1 :: wdO out T ++ [sIt ad [y, .int .i64 t.2.1, .int .i64 0], oIt .u8 eB y xs]) :=
      (f5.picksN 3 [2, 0, 1] (by decide) (by decide)).permW (by
        have e : ([sIt ad [y, .int .i64 (t.2.1 : Nat), .int .i64 0], oIt .u8 eB y xs] ++ wdO out T).Perm (wdO out T ++ [sIt ad [y, .int .i64 (t.2.1 : Nat), .int .i64 0], oIt .u8 eB y xs]) := List.perm_append_comm
        exact List.Perm.cons (oIt .u8 eB z t.1) e)
    refine wdO_step f7 (by omega) fun out' w8 f8 => ⟨⟨k + 1, T ++ [(z, t.1)], t.2.1, by rw [u64_def]; omega, by omega, ?_, ?_⟩, by dsimp only; rw [u64_def]; omega⟩
    · rw [hst, List.map_append]; rfl
    · exact f8.permW (List.perm_append_comm (l₂ := [sIt ad [y, .int .i64 (t.2.1 : Nat), .int .i64 0], oIt .u8 eB y xs]))
  · obtain rfl : k = n := by omega
    rw [hW] at hRES
    dsimp only at hRES
    refine gCall_i (rLeft_any (f4.rd 0 1 rfl rfl (by decide) r2 (by omega))) fun w5 h5 => ?_
    have f5 := f4.ev h5
    refine fRawR f5 r2 (by omega) (by omega) fun z w6 f6 => ?_
    have hraw : rawR xs a 0 ((xs.length : Int) - (a : Nat)) = (xs.drop a, xs.length, 0) := by
      unfold rawR
      by_cases h0 : (xs.length : Int) - (a : Nat) ≤ 0
      · rw [if_pos (.inr h0), List.drop_of_length_le (by omega)]
        have : a = xs.length := by omega
        rw [this]
      · rw [if_neg (by omega), if_neg (by omega), List.take_of_length_le (by rw [List.length_drop]; omega)]
        congr 2; omega
    rw [hraw] at f6
    have hnl : NL .u8 w6 out (T.map (·.2)) := wdO_nl (F := []) (by rw [List.append_nil]; exact f6.dropN 3)
    have hlen : ∀ u ∈ T.map (·.2), u.length ≤ 100000 := fun u hu => by have := r3 u hu; omega
    refine gCall_of (wUndo_any (limit := if 1048576 < limit then 1048576 else limit) (f6.nm 2 rfl) (by rw [List.length_drop]; omega) hnl hlen) ?_
    rintro _ w7 ⟨v, rfl, h7, o7⟩
    rw [← hRES] at o7
    refine ⟨v, _, rfl, v, by rw [hRES], f6.old.trans h7, o7.low f6.old.size⟩
end
end Go.Proofs.YtilpoinhfiajcaaGreatDoorV

/- Package bytes: Index, Count, ReplaceAll of 0d 0a. -/
namespace Go.Proofs.YtilpoinhfiajcaaGreatDoorV
open Go Go.RowKit
/-- Where 0d 0a stands first. -/
def idxC : List Int → Option Nat
  | [] => none
  | a :: r => if a = 13 ∧ r.head? = some 10 then some 0 else (idxC r).map (· + 1)
/-- How often it stands there. -/
def pairs : List Int → Nat
  | 13 :: 10 :: r => 1 + pairs r
  | _ :: r => pairs r
  | [] => 0
/-- Each of them is 0a. -/
def repl : List Int → List Int
  | 13 :: 10 :: r => 10 :: repl r
  | c :: r => c :: repl r
  | [] => []
theorem pairs_no {a : Int} {r : List Int} (h : ¬ (a = 13 ∧ r.head? = some 10)) : pairs (a :: r) = pairs r ∧ repl (a :: r) = a :: repl r := by
  constructor
  · rw [pairs]
    rintro r' rfl rfl; exact h ⟨rfl, rfl⟩
  · rw [repl]
    rintro r' rfl rfl; exact h ⟨rfl, rfl⟩
theorem idxC_none : ∀ {xs : List Int}, idxC xs = none → pairs xs = 0 ∧ repl xs = xs
  | [], _ => ⟨rfl, rfl⟩
  | a :: r, h => by
    rw [idxC] at h
    split at h
    · cases h
    · rename_i hn
      obtain ⟨h1, h2⟩ := idxC_none (Option.map_eq_none_iff.1 h)
      obtain ⟨h3, h4⟩ := pairs_no hn
      rw [h3, h4, h1, h2]; exact ⟨rfl, rfl⟩
theorem idxC_some : ∀ {xs : List Int} {i : Nat}, idxC xs = some i → i + 2 ≤ xs.length ∧ pairs xs = 1 + pairs (xs.drop (i + 2)) ∧ repl xs = xs.take i ++ 10 :: repl (xs.drop (i + 2))
  | [], _, h => by cases h
  | a :: r, i, h => by
    rw [idxC] at h
    split at h
    · rename_i hc
      injection h with h; subst h
      obtain ⟨rfl, hr⟩ := hc
      cases r with
      | nil => cases hr
      | cons b r => injection hr with hr; subst hr; exact ⟨by simp, rfl, rfl⟩
    · rename_i hn
      rw [Option.map_eq_some_iff] at h
      obtain ⟨j, hj, rfl⟩ := h
      obtain ⟨h1, h2, h3⟩ := idxC_some hj
      obtain ⟨h4, h5⟩ := pairs_no hn
      rw [h4, h5, h2, h3]
      exact ⟨by simp; omega, rfl, rfl⟩
theorem u8_inj {a b : Int} (ha : 0 ≤ a ∧ a < 256) (hb : 0 ≤ b ∧ b < 256) : (UInt8.ofNat a.toNat == UInt8.ofNat b.toNat) = decide (a = b) := by
  by_cases h : a = b
  · subst h; simp
  · rw [decide_eq_false h]
    apply beq_eq_false_iff_ne.2
    intro e
    have e2 := congrArg UInt8.toNat e
    rw [UInt8.toNat_ofNat', UInt8.toNat_ofNat', Nat.mod_eq_of_lt (by omega), Nat.mod_eq_of_lt (by omega)] at e2
    omega
theorem index_eq : ∀ {xs : List Int}, inR .u8 xs → Lib.index (Lib.bytesOf xs) (Lib.bytesOf [13, 10]) = (match idxC xs with | none => -1 | some i => (i : Int))
  | [], _ => rfl
  | a :: r, h => by
    have ha := h.u8 (x := a) (by simp)
    have hr : inR .u8 r := fun x hx => h x (List.mem_cons_of_mem _ hx)
    have ih := index_eq hr
    have hp : (Lib.bytesOf [13, 10]).isPrefixOf (Lib.bytesOf (a :: r)) = decide (a = 13 ∧ r.head? = some 10) := by
      show (UInt8.ofNat (13 : Int).toNat == UInt8.ofNat a.toNat && (Lib.bytesOf [10]).isPrefixOf (Lib.bytesOf r)) = _
      rw [u8_inj (by decide) ha]
      cases r with
      | nil => simp [Lib.bytesOf]
      | cons b r =>
        have hb := hr.u8 (x := b) (by simp)
        show (_ && (UInt8.ofNat (10 : Int).toNat == UInt8.ofNat b.toNat && List.isPrefixOf [] _)) = _
        rw [u8_inj (by decide) hb]
        simp only [List.isPrefixOf_nil_left, Bool.and_true, List.head?_cons, Option.some.injEq]
        by_cases h1 : a = 13 <;> by_cases h2 : b = 10 <;> simp [h1, h2, eq_comm]
    have hu : Lib.index (Lib.bytesOf (a :: r)) (Lib.bytesOf [13, 10]) = if (Lib.bytesOf [13, 10]).isPrefixOf (Lib.bytesOf (a :: r)) then 0 else if Lib.index (Lib.bytesOf r) (Lib.bytesOf [13, 10]) == -1 then -1 else Lib.index (Lib.bytesOf r) (Lib.bytesOf [13, 10]) + 1 := rfl
    rw [hu, hp, ih, idxC]
    by_cases hc : a = 13 ∧ r.head? = some 10
    · rw [if_pos hc, if_pos (by simpa using hc)]; rfl
    · rw [if_neg hc, if_neg (by simpa using hc)]
      cases idxC r with
      | none => rfl
      | some i =>
        have : (((i : Int)) == -1) = false := beq_eq_false_iff_ne.2 (by omega)
        simp only [this, Option.map_some]; simp
theorem count_eq : ∀ (n : Nat) {xs : List Int}, xs.length ≤ n → inR .u8 xs → Lib.count (Lib.bytesOf xs) (Lib.bytesOf [13, 10]) = pairs xs
  | n, xs, hn, h => by
    have hi := index_eq h
    cases hx : idxC xs with
    | none =>
      rw [hx] at hi
      rw [Lib.count_miss hi, (idxC_none hx).1]
    | some i =>
      rw [hx] at hi
      obtain ⟨h1, h2, _⟩ := idxC_some hx
      cases n with
      | zero => omega
      | succ n =>
        rw [Lib.count_hit (by decide) hi, h2]
        have e : (Lib.bytesOf xs).drop (i + (Lib.bytesOf [13, 10]).length) = Lib.bytesOf (xs.drop (i + 2)) := by simp [Lib.bytesOf, List.map_drop]
        rw [e, count_eq n (by rw [List.length_drop]; omega) (h.drop _)]
/-- How often a byte stands there. -/
def cntB (c : Int) (xs : List Int) : Nat := xs.countP (fun x => decide (x = c))
theorem countByte_eq {c : Int} (hc : 0 ≤ c ∧ c < 256) : ∀ {xs : List Int}, inR .u8 xs → Lib.countByte (Lib.bytesOf xs) c.toNat.toUInt8 = cntB c xs
  | [], _ => rfl
  | a :: r, h => by
    have ha := h.u8 (x := a) (by simp)
    have hr : inR .u8 r := fun x hx => h x (List.mem_cons_of_mem _ hx)
    have ih := countByte_eq hc hr
    unfold Lib.countByte cntB at *
    have e : Lib.bytesOf (a :: r) = UInt8.ofNat a.toNat :: Lib.bytesOf r := rfl
    rw [e, List.count_cons, ih, List.countP_cons]
    have := u8_inj ha hc
    rw [show (UInt8.ofNat a.toNat == c.toNat.toUInt8) = decide (a = c) from this]
end Go.Proofs.YtilpoinhfiajcaaGreatDoorV

/- Package bytes: the contracts of Index, Count, ReplaceAll at 0d 0a. -/
namespace Go.Proofs.YtilpoinhfiajcaaGreatDoorV
open Go Go.RowKit
section
variable {w : World} {b sep : Value} {xs : List Int}
/-- The variable that bytes.Index reads holds some number. -/
def MaxL (w : World) : Prop := ∃ m : Int, w.cell? ⟨0, 0, none⟩ = some (.int .i64 m)
theorem maxL_of {w : World} (h : w.ShapedOpen P) : MaxL w := Tryz.laysM185.s1_3 w h
theorem MaxL.ev {w w' : World} (h : MaxL w) (he : Ev w w') : MaxL w' := let ⟨m, hm⟩ := h; ⟨m, he.cell hm fun h => h⟩
theorem Nm.at {k : IntKind} {ad : Addr} {n c : Nat} (h : Nm k w (.slice (some ad) n c) xs) : n = xs.length ∧ n ≤ c ∧ ∀ i, i < n → w.cell? (ad.add i) = some (.int k (xs.getD i 0)) := by
  obtain ⟨a, c', e, h1, h2, h3, h4⟩ := h.1
  injection e with e1 e2 e3
  subst e2
  refine ⟨rfl, by omega, fun i hi => h3 ad e1.symm i _ ?_⟩
  rw [List.getElem?_map, List.getD_eq_getElem?_getD, List.getElem?_eq_getElem hi]; rfl
theorem Ev.drewN (w : World) (q : Nat) : Ev w (w.drewN q) := ⟨rfl, rfl, rfl, Nat.le_refl _, fun _ _ _ => rfl, fun _ c _ _ h => ⟨c, h, rfl, fun _ _ => rfl⟩, fun _ _ h _ => h⟩
theorem crlf_u8 : ∀ y ∈ ([13, 10] : List Int), 0 ≤ y ∧ y < 256 := fun y hy => by simp at hy; rcases hy with rfl | rfl <;> decide
def idxI (xs : List Int) : Int := match idxC xs with | none => -1 | some i => (i : Int)
theorem idxI_short {xs : List Int} (h : xs.length < 2) : idxI xs = -1 := by
  unfold idxI
  cases hx : idxC xs with
  | none => rfl
  | some i => have := (idxC_some hx).1; omega
theorem bIndex_any (hb : Nm .u8 w b xs) (hs : Nm .u8 w sep [13, 10]) (hM : MaxL w) (hl : xs.length ≤ 1000000000) : Calls P n_bytes_Index #[b, sep] w (fun e w' => e = .returned (.int .i64 (idxI xs)) ∧ Ev w w') := by
  obtain ⟨m, hM⟩ := hM
  obtain ⟨a1, c1, rfl, hc1⟩ := hb.shape
  obtain ⟨a2, c2, rfl, hc2⟩ := hs.shape
  cases a2 with
  | none => obtain ⟨a, c, e, h1, h2, h3, h4⟩ := hs.1; injection e with e1 e2 e3; have := h4 e1.symm; cases this
  | some a2 =>
    cases a1 with
    | none =>
      have h0 : xs.length = 0 := by obtain ⟨a, c, e, h1, h2, h3, h4⟩ := hb.1; injection e with e1 e2 e3; exact h4 e1.symm
      rw [idxI_short (by omega)]
      refine of_bytes_Index (gLen_nm hs (gIf_f (gIf_f (gLen_nm hb (gIf_eq (fun e => ?_) (fun _ => gLen_nm hb (gIf_dec (fun _ => ⟨rfl, Ch.refl _ w⟩) (fun h => ?_))))))))
      · simp at e; omega
      · simp at h; omega
    | some a1 =>
      have h1 := hb.at
      have h2 := hs.at
      refine (Tryz.bytes_Index_at a1 a2 xs.length c1 2 c2 xs [13, 10] m w rfl rfl (fun x hx => hb.2.u8 hx) crlf_u8 h1.2.2 h2.2.2 hc1 (by omega) (by decide) hM).mono fun e w' ⟨he, q, hw⟩ => ⟨?_, by rw [hw]; exact Ev.drewN w q⟩
      rw [he, index_eq hb.2]; rfl
theorem bCount2_any (hb : Nm .u8 w b xs) (hs : Nm .u8 w sep [13, 10]) (hM : MaxL w) (hl : xs.length ≤ 1000000000) : Calls P n_bytes_Count #[b, sep] w (fun e w' => e = .returned (.int .i64 (pairs xs)) ∧ Ev w w') := by
  have hM' := hM
  obtain ⟨m, hM⟩ := hM
  obtain ⟨a1, c1, rfl, hc1⟩ := hb.shape
  obtain ⟨a2, c2, rfl, hc2⟩ := hs.shape
  cases a2 with
  | none => obtain ⟨a, c, e, h1, h2, h3, h4⟩ := hs.1; injection e with e1 e2 e3; have := h4 e1.symm; cases this
  | some a2 =>
    cases a1 with
    | none =>
      have h0 : xs.length = 0 := by obtain ⟨a, c, e, h1, h2, h3, h4⟩ := hb.1; injection e with e1 e2 e3; exact h4 e1.symm
      obtain rfl := List.eq_nil_of_length_eq_zero h0
      refine of_bytes_Count (gLen_nm hs (gIf_f (gLen_nm hs (gIf_f ⟨fun v n w' => v = .slice none 0 c1 ∧ n = 0 ∧ w' = w, fun _ _ _ => 0, ⟨rfl, rfl, rfl⟩, ?_⟩))))
      rintro _ _ _ _ ⟨rfl, rfl, rfl⟩
      exact gCall_i (bIndex_any hb hs hM' (by simp)) fun w' h' => gIf_t ⟨rfl, h'⟩
    | some a1 =>
      have h1 := hb.at
      have h2 := hs.at
      refine (Tryz.bytes_Count_at a1 a2 xs.length c1 2 c2 xs [13, 10] m w rfl rfl (fun x hx => hb.2.u8 hx) crlf_u8 h1.2.2 h2.2.2 hc1 (by omega) (by decide) (by decide) hM).mono fun e w' ⟨he, q, hw⟩ => ⟨?_, by rw [hw]; exact Ev.drewN w q⟩
      rw [he, count_eq xs.length (Nat.le_refl _) hb.2]
theorem run_bCount (hb : Nm .u8 w b xs) {c : Int} (hc : 0 ≤ c ∧ c < 256) : (Extern.BytealgCount.count #[b, .int .u8 c]).run P w = .ok (.int .i64 (cntB c xs)) w := by
  obtain ⟨a1, c1, rfl, hc1⟩ := hb.shape
  cases a1 with
  | none =>
    have h0 : xs.length = 0 := by obtain ⟨a, c, e, h1, h2, h3, h4⟩ := hb.1; injection e with e1 e2 e3; exact h4 e1.symm
    obtain rfl := List.eq_nil_of_length_eq_zero h0
    exact Lib.run_countNil w 0 c1 c
  | some a1 =>
    have h1 := hb.at
    rw [Lib.run_countAt w a1 xs.length c1 xs rfl h1.2.2 c, countByte_eq hc hb.2]
theorem bCount1_any {c : Int} (hb : Nm .u8 w b xs) (hs : Nm .u8 w sep [c]) : Calls P n_bytes_Count #[b, sep] w (fun e w' => e = .returned (.int .i64 (cntB c xs)) ∧ w' = w) := by
  have hc := hs.2.u8 (x := c) (by simp)
  exact of_bytes_Count (gLen_nm hs (gIf_f (gLen_nm hs (gIf_t (gIdx_nm hs (by decide) (by simp) fun ad c1 _ => gLoad_i c1 (gExt_i (e := Extern.BytealgCount.count) (by kernel_rfl) (run_bCount hb hc) ⟨rfl, rfl⟩))))))
theorem repl_len : ∀ (n : Nat) (xs : List Int), xs.length ≤ n → (repl xs).length + pairs xs = xs.length
  | n, xs, hn => by
    cases hx : idxC xs with
    | none => obtain ⟨h1, h2⟩ := idxC_none hx; rw [h1, h2]; rfl
    | some i =>
      obtain ⟨h1, h2, h3⟩ := idxC_some hx
      cases n with
      | zero => omega
      | succ n =>
        have := repl_len n (xs.drop (i + 2)) (by rw [List.length_drop]; omega)
        rw [h2, h3]
        simp only [List.length_append, List.length_cons, List.length_take, List.length_drop] at this ⊢
        omega
theorem bReplace_any {nw : Value} (hb : Nm .u8 w b xs) (hs : Nm .u8 w sep [13, 10]) (hn : Nm .u8 w nw [10]) (hM : MaxL w) (hl : xs.length ≤ 1000000000) : Calls P n_bytes_Replace #[b, sep, nw, .int .i64 (-1)] w (NewB w (repl xs)) := by
  refine of_bytes_Replace ⟨fun m w' => m = (pairs xs : Int) ∧ Ev w w', gIf_t (gCall_i (bCount2_any hb hs hM hl) fun w' h' => ⟨rfl, h'⟩), ?_⟩
  rintro _ _ w2 ⟨rfl, h2⟩
  refine gIf_eq (fun e0 => ?_) (fun hne => ⟨fun n w' => n = (pairs xs : Int) ∧ w' = w2, gIf_f ⟨rfl, rfl⟩, ?_⟩)
  · have hid : idxC xs = none := by
      cases hx : idxC xs with
      | none => rfl
      | some i => have := (idxC_some hx).2.1; omega
    rw [(idxC_none hid).2]
    exact fApp0 (Fr.start w |>.ev h2) (hb.ev h2) (by omega) fun v w3 f3 => ⟨v, rfl, f3.old, f3.on 0 rfl⟩
  rintro _ _ _ ⟨rfl, rfl⟩
  rename_i w2
  have hrl := repl_len xs.length xs (Nat.le_refl _)
  obtain ⟨L, hL⟩ : ∃ L, L = (repl xs).length := ⟨_, rfl⟩
  refine gLen_nm hb (gLen_nm hn (gLen_nm hs ?_))
  have eL : i64 ((xs.length : Int) + i64 ((pairs xs : Int) * i64 (((1 : Nat) : Int) - ((2 : Nat) : Int)))) = (L : Int) := by
    rw [show i64 (((1 : Nat) : Int) - ((2 : Nat) : Int)) = -1 by decide, i64_id (n := (pairs xs : Int) * -1) (by omega) (by omega), i64_id (by omega) (by omega)]; omega
  have eL' : i64 ((xs.length : Int) + i64 ((pairs xs : Int) * i64 ((([10] : List Int).length : Int) - (([13, 10] : List Int).length : Int)))) = (L : Int) := eL
  rw [eL']
  refine fMake_len (k := .u8) ((Fr.start w).ev h2) (by omega) fun g w3 f3 => gLen_nm hs (gIf_t ?_)
  obtain ⟨sa, sc, rfl, hsc⟩ := hb.shape
  refine ⟨fun wv st t w' => ∃ (j s p : Nat) (zs : List Int), t = j ∧ st = s ∧ wv = p ∧ j + pairs (xs.drop s) = pairs xs ∧ s ≤ xs.length ∧ zs.length = L ∧ p ≤ L ∧ repl xs = zs.take p ++ repl (xs.drop s) ∧ Fr w w' [bufIt .u8 eB g zs], fun _ _ t _ => pairs xs - t.toNat, ⟨0, 0, 0, _, rfl, rfl, rfl, by simp, by omega, by simp, by omega, by simp, f3⟩, ?_⟩
  rintro _ _ _ _ w4 ⟨j, s, p, zs, rfl, rfl, rfl, hj, hs1, hzl, hp, hrep, f4⟩
  have hbw := hb.ev f4.old
  have hsub := hbw.sub s xs.length hs1 (Nat.le_refl _)
  rw [List.take_of_length_le (by simp)] at hsub
  have hrs := repl_len _ (xs.drop s) (Nat.le_refl _)
  have hlen := congrArg List.length hrep
  rw [List.length_append, List.length_take, Nat.min_eq_left (by omega), ← hL] at hlen
  rw [List.length_drop] at hrs
  refine gIf_dec (fun hlt => ?_) (fun hge => ?_)
  · refine gSlice_any (sz := 1) (l := s) (h := xs.length) (.inr ⟨_, rfl⟩) (.inl ⟨rfl, rfl⟩) (by omega) hsc ?_ (by kernel_rfl)
    refine gCall_i (bIndex_any hsub (hs.ev f4.old) (hM.ev f4.old) (by rw [List.length_drop]; omega)) fun w5 h5 => ⟨fun _ => True, trivial, ?_⟩
    have f5 := (f4.ev h5).drew
    unfold idxI
    cases hx : idxC (xs.drop s) with
    | none => have := (idxC_none hx).1; omega
    | some i =>
      obtain ⟨g1, g2, g3⟩ := idxC_some hx
      rw [List.length_drop] at g1
      rw [List.drop_drop] at g2 g3
      have hrs2 := repl_len _ (xs.drop (s + (i + 2))) (Nat.le_refl _)
      rw [List.length_drop] at hrs2
      dsimp only
      rw [show i64 ((s : Int) + (i : Int)) = ((s + i : Nat) : Int) by rw [i64_id (by omega) (by omega)]; omega]
      have hbw5 := hb.ev f5.old
      have hsub2 := hbw5.sub s (s + i) (by omega) (by omega)
      rw [Nat.add_sub_cancel_left] at hsub2
      have hl3 := congrArg List.length g3
      simp only [List.length_append, List.length_cons, List.length_take, List.length_drop] at hl3
      refine gSlice_any (sz := 1) (l := p) (h := L) (.inr ⟨_, rfl⟩) (.inl ⟨rfl, rfl⟩) (by omega) (by omega) ?_ (by kernel_rfl)
      refine gSlice_any (sz := 1) (l := s) (h := s + i) (.inr ⟨_, rfl⟩) (.inr ⟨_, rfl⟩) (by omega) (by omega) ?_ (by kernel_rfl)
      refine fCopy f5 0 rfl hzl hp (Nat.le_refl _) hsub2 fun w6 m hm f6 => ⟨trivial, ?_⟩
      have hm' : m = i := by rw [hm, List.length_take, List.length_drop]; omega
      subst hm'
      rw [List.take_of_length_le (l := (xs.drop s).take m) (by rw [List.length_take]; omega)] at f6
      rw [show i64 ((p : Int) + (m : Int)) = ((p + m : Nat) : Int) by rw [i64_id (by omega) (by omega)]; omega]
      refine gSlice_any (sz := 1) (l := p + m) (h := L) (.inr ⟨_, rfl⟩) (.inl ⟨rfl, rfl⟩) (by omega) (by omega) ?_ (by kernel_rfl)
      have hzl6 : (zs.take p ++ (xs.drop s).take m ++ zs.drop (p + m)).length = L := by simp; omega
      refine fCopy f6 0 rfl hzl6 (by omega) (Nat.le_refl _) (hn.ev f6.old) fun w7 q hq f7 => gLen_nm hs ?_
      have hq' : q = 1 := by rw [hq, List.length_singleton]; omega
      subst hq'
      obtain ⟨A, hA⟩ : ∃ A, A = zs.take p ++ (xs.drop s).take m := ⟨_, rfl⟩
      have hAl : A.length = p + m := by rw [hA]; simp; omega
      rw [← hA, List.take_left' hAl] at f7
      rw [← hA] at hzl6
      rw [show i64 (((p + m : Nat) : Int) + ((1 : Nat) : Int)) = ((p + m + 1 : Nat) : Int) by rw [i64_id (by omega) (by omega)]; omega, show i64 (((s + m : Nat) : Int) + (([13, 10] : List Int).length : Int)) = ((s + (m + 2) : Nat) : Int) by show i64 (((s + m : Nat) : Int) + ((2 : Nat) : Int)) = _; rw [i64_id (by omega) (by omega)]; omega, i64_id (n := (j : Int) + 1) (by omega) (by omega)]
      refine ⟨⟨j + 1, s + (m + 2), p + m + 1, _, rfl, rfl, rfl, by omega, by omega, ?_, by omega, ?_, f7⟩, by omega⟩
      · have := hzl6
        simp only [List.length_append, List.length_drop, List.take_succ_cons, List.take_nil, List.length_cons, List.length_nil] at this ⊢
        omega
      · rw [hrep, g3]
        have e1 : (A ++ List.take 1 [(10 : Int)] ++ (A ++ zs.drop (p + m)).drop (p + m + 1)).take (p + m + 1) = A ++ [10] := by
          rw [show List.take 1 [(10 : Int)] = [10] from rfl, List.take_left' (by simp [hAl])]
        rw [e1, hA]; simp
  · have hp0 : pairs (xs.drop s) = 0 := by omega
    have hid : idxC (xs.drop s) = none := by
      cases hx : idxC (xs.drop s) with
      | none => rfl
      | some i => have := (idxC_some hx).2.1; omega
    rw [(idxC_none hid).2] at hrep hlen
    rw [List.length_drop] at hlen
    have f5 := f4.drew
    refine ⟨fun _ => True, trivial, ?_⟩
    refine gSlice_any (sz := 1) (l := p) (h := L) (.inr ⟨_, rfl⟩) (.inl ⟨rfl, rfl⟩) (by omega) (by omega) ?_ (by kernel_rfl)
    refine gSlice_any (sz := 1) (l := s) (h := xs.length) (.inr ⟨_, rfl⟩) (.inl ⟨rfl, rfl⟩) (by omega) hsc ?_ (by kernel_rfl)
    refine fCopy f5 0 rfl hzl hp (Nat.le_refl _) hsub fun w6 m hm f6 => ⟨trivial, ?_⟩
    rw [List.length_drop] at hm
    have hpm : p + m = L := by omega
    rw [show i64 ((p : Int) + (m : Int)) = (L : Int) by rw [i64_id (by omega) (by omega)]; omega]
    refine gSlice_any (sz := 1) (l := 0) (h := L) (.inr ⟨_, rfl⟩) (.inr ⟨_, rfl⟩) (by omega) (by omega) ?_ (by kernel_rfl)
    have hL0 : 0 < L := by
      cases hx : idxC xs with
      | none => have := (idxC_none hx).1; omega
      | some i => rw [hL, (idxC_some hx).2.2, List.length_append, List.length_cons]; omega
    rw [subV_z hL0]
    have hzs : zs.take p ++ (xs.drop s).take m ++ zs.drop (p + m) = repl xs := by
      rw [List.drop_of_length_le (l := zs) (by omega), List.append_nil, List.take_of_length_le (l := xs.drop s) (by rw [List.length_drop]; omega), ← hrep]
    rw [hzs] at f6
    have hB : FB .u8 eB w6 g (repl xs) := f6.get 0 rfl
    have ho := hB.on L (by omega)
    rw [← hL, List.take_of_length_le (by omega)] at ho
    exact ⟨_, rfl, f6.old, ho.low (f6.ft 0 rfl (k := g) rfl).1⟩
theorem bReplaceAll_any {nw : Value} (hb : Nm .u8 w b xs) (hs : Nm .u8 w sep [13, 10]) (hn : Nm .u8 w nw [10]) (hM : MaxL w) (hl : xs.length ≤ 1000000000) : Calls P n_bytes_ReplaceAll #[b, sep, nw] w (NewB w (repl xs)) :=
  of_bytes_ReplaceAll (gCall_v (bReplace_any hb hs hn hM hl) fun v w' ⟨h1, h2⟩ => ⟨v, rfl, h1, h2⟩)
end
end Go.Proofs.YtilpoinhfiajcaaGreatDoorV

/- Package text: Lines, Unlines; the same of valiseref22. -/
namespace Go.Proofs.YtilpoinhfiajcaaGreatDoorV
open Go Go.RowKit
/-- Each 0d is ahead of a 0a, and each 0a behind a 0d. -/
def goodL (xs : List Int) : Prop := cntB 13 xs = pairs xs ∧ cntB 10 xs = pairs xs
instance (xs : List Int) : Decidable (goodL xs) := inferInstanceAs (Decidable (_ ∧ _))
def linesT (xs : List Int) : List Int × Bool := if xs.length ≤ 1048576 ∧ pairs xs ≠ 0 ∧ goodL xs then (repl xs, true) else ([], false)
def unlE (c : Int) : List Int := if c = 10 then [13, 10] else [c]
def unl (xs : List Int) : List Int := xs.flatMap unlE
def unlT (xs : List Int) (most : Int) : List Int × Int := if 13 ∈ xs then ([], 4) else if ((unl xs).length : Int) > limT most then ([], 5) else (unl xs, 0)
theorem unl_snoc (xs : List Int) (i : Nat) (h : i < xs.length) : unl (xs.take (i + 1)) = unl (xs.take i) ++ unlE (rd xs i) := by
  unfold unl
  rw [List.take_succ_eq_append_getElem h, rd_nat xs i h, List.flatMap_append, List.flatMap_cons, List.flatMap_nil, List.append_nil]
theorem unl_len (xs : List Int) : (unl xs).length ≤ 2 * xs.length := by
  induction xs with
  | nil => simp [unl]
  | cons c r ih =>
    have : unl (c :: r) = unlE c ++ unl r := by unfold unl; rw [List.flatMap_cons]
    rw [this, List.length_append, List.length_cons]
    have : (unlE c).length ≤ 2 := by unfold unlE; split <;> simp
    omega
theorem unl_mono (xs : List Int) {i : Nat} : (unl (xs.take i)).length ≤ (unl xs).length := by
  have : unl xs = unl (xs.take i) ++ unl (xs.drop i) := by unfold unl; rw [← List.flatMap_append, List.take_append_drop]
  rw [this, List.length_append]; omega
section
variable {b : Value} {xs : List Int} {w : World}
theorem Lines_any (hb : Nm .u8 w b xs) (hM : MaxL w) (hl : xs.length ≤ 100000000) : Calls P n_text_Lines #[b] w (TupB w (linesT xs)) := by
  have hno : ∀ {w' : World}, Ev w w' → ¬ (xs.length ≤ 1048576 ∧ pairs xs ≠ 0 ∧ goodL xs) → TupB w (linesT xs) (.returned (.tuple #[.slice none 0 0, .bool false])) w' := fun he h => by unfold linesT; rw [if_neg h]; exact ⟨_, rfl, he, ON.nil _ _ _ _⟩
  have hcr : inR .u8 [13, 10] := fun x hx => u8i (crlf_u8 x hx)
  have h13 : inR .u8 [13] := fun x hx => by simp at hx; subst hx; decide
  have h10 : inR .u8 [10] := fun x hx => by simp at hx; subst hx; decide
  refine of_text_Lines (fLit_n [13, 10] (Fr.start w) rfl rfl hcr fun s1 w1 f1 => gCall_i (bCount2_any (hb.ev f1.old) (f1.nm 0 rfl) (hM.ev f1.old) (by omega)) fun w2 h2 => ⟨fun w' => (xs.length ≤ 1048576 ∧ pairs xs ≠ 0 ∧ goodL xs) ∧ Fr w w' [], gIf_neqq (fun hne => ?_) (fun h0 => hno (f1.ev h2).old (by omega)), ?_⟩)
  · have f2 := (f1.ev h2).drop 0
    refine fLit_n [13] f2 rfl rfl h13 fun s3 w3 f3 => gCall_i0 (bCount1_any (hb.ev f3.old) (f3.nm 0 rfl)) (gIf_nneq (fun h13 => ?_) (fun h => hno f3.old fun hh => h (by rw [hh.2.2.1])))
    have f3 := f3.drop 0
    refine fLit_n [10] f3 rfl rfl h10 fun s4 w4 f4 => gCall_i0 (bCount1_any (hb.ev f4.old) (f4.nm 0 rfl)) (gIf_nneq (fun h10 => gLen_nm hb (gIf_dec (fun hbig => hno f4.old (by omega)) (fun hle => ⟨⟨by omega, by omega, by unfold goodL; omega⟩, f4.drop 0⟩))) (fun h => hno f4.old fun hh => h (by rw [hh.2.2.2])))
  · rintro _ w3 ⟨hg, f3⟩
    refine fLit_n [13, 10] f3 rfl rfl hcr fun s4 w4 f4 => fLit_n [10] f4 rfl rfl h10 fun s5 w5 f5 => ?_
    refine fCallB f5 (bReplaceAll_any (hb.ev f5.old) (f5.nm 1 rfl) (f5.nm 0 rfl) (hM.ev f5.old) (by omega)) fun v w6 f6 => ?_
    unfold linesT
    rw [if_pos hg]
    exact ⟨v, rfl, f6.old, f6.on 0 rfl⟩
theorem Unlines_any {most : Int} (hb : Nm .u8 w b xs) (hl : xs.length ≤ 100000000) : Calls P n_text_Unlines #[b, .int .i64 most] w (TupE w (unlT xs most)) := by
  unfold unlT
  have hany : (xs.any fun c => (13 : Int) == c) = true ↔ 13 ∈ xs := by rw [List.any_eq_true]; constructor; (rintro ⟨x, hx, he⟩; rw [show (13 : Int) = x by simpa using he]; exact hx); exact fun h => ⟨13, h, by simp⟩
  refine of_text_Unlines (gCall_b0 (Contains_any hb (by omega)) (gIf_b (fun h => ?_) (fun h => ?_)))
  · rw [if_pos (hany.1 h)]; exact ⟨_, rfl, Ch.refl _ w, ON.nil _ _ _ _⟩
  · rw [if_neg fun hh => by rw [hany.2 hh] at h; cases h]
    refine fAlloc (z := .agg #[.slice none 0 0]) (Fr.start w) (by kernel_rfl) fun ad w1 f1 => ?_
    have f1 := f1.asW (e := eB) 0 rfl
    rw [Addr.add_zero' ad]
    have hlim : 0 ≤ limT most := by unfold limT; split; omega; split <;> omega
    refine gLen_nm hb ⟨fun i w' => ∃ (j : Nat) (v : Value), i = j ∧ j ≤ xs.length ∧ ¬ (((unl (xs.take j)).length : Int) > limT most) ∧ Fr w w' [wIt eB ad v (unl (xs.take j))], fun i _ => xs.length - i.toNat, ⟨0, _, rfl, by omega, by simp [unl]; omega, f1⟩, ?_⟩
    rintro _ i w2 ⟨j, v, rfl, hj, hle, f2⟩
    have hcl := unl_len (xs.take j)
    rw [List.length_take, Nat.min_eq_left hj] at hcl
    refine gIf_dec (fun hlt => ?_) (fun hge => ?_)
    · have hlt' : j < xs.length := by omega
      have hc := rd_u8 hb.2 j
      have hs := unl_snoc xs j hlt'
      have hmono := unl_mono xs (i := j + 1)
      have hc1 : inR .u8 [rd xs j] := fun x hx => by rw [List.mem_singleton.1 hx]; exact u8i hc
      have h13 : inR .u8 [13] := fun x hx => by simp at hx; subst hx; decide
      have fin : ∀ {v' : Value} {w3 : World}, Fr w w3 [wIt eB ad v' (unl (xs.take (j + 1)))] → gCall P n_text_writer_over shB #[.pointer (some ad), .int .i64 most] w3 fun (t28 : Bool) ww8 => gIf t28 (TupE w (if ((unl xs).length : Int) > limT most then ([], 5) else (unl xs, 0)) (.returned (.tuple #[.slice none 0 0, .int .i64 5])) ww8) ((∃ (j' : Nat) (v : Value), i64 ((j : Int) + 1) = j' ∧ j' ≤ xs.length ∧ ¬ (((unl (xs.take j')).length : Int) > limT most) ∧ Fr w ww8 [wIt eB ad v (unl (xs.take j'))]) ∧ xs.length - (i64 ((j : Int) + 1)).toNat < xs.length - (j : Int).toNat) := fun {v' w3} f3 => by
        refine gCall_b0 (over_any (f3.get 0 rfl)) (gIf_dec (fun h => ?_) (fun h => ?_))
        · rw [if_pos (by omega)]; exact ⟨_, rfl, f3.old, ON.nil _ _ _ _⟩
        · rw [i64_id (n := (j : Int) + 1) (by omega) (by omega)]
          exact ⟨⟨j + 1, v', rfl, by omega, h, f3⟩, by omega⟩
      refine gIdx_nm (hb.ev f2.old) (by omega) hlt fun a1 c1 _ => gLoad_i c1 (gIf_eq (fun e10 => ?_) (fun n10 => ?_))
      · refine fPutLit [13] rfl rfl h13 f2 (by omega) (by decide) fun v3 w3 f3 => fPutLit [rd xs j] rfl rfl hc1 f3 (by simp; omega) (by decide) fun v4 w4 f4 => fin (v' := v4) ?_
        rw [hs]; unfold unlE; rw [if_pos e10]
        rw [List.append_assoc, e10] at f4; exact f4
      · refine fPutLit [rd xs j] rfl rfl hc1 f2 (by omega) (by decide) fun v4 w4 f4 => fin (v' := v4) ?_
        rw [hs]; unfold unlE; rw [if_neg n10]; exact f4
    · obtain rfl : j = xs.length := by omega
      have hW : Wr eB w2 ad v (unl (xs.take xs.length)) := f2.get 0 rfl
      rw [Addr.add_zero' ad] at *
      refine gLoad_v (hW.1.cell (j := 0) rfl) ?_
      rw [List.take_length] at hW hle
      rw [if_neg hle]
      refine ⟨v, rfl, f2.old, ?_⟩
      exact on_new hW.2.1 fun g hg => (f2.ft 0 rfl (k := g) (.inr hg)).1
end
end Go.Proofs.YtilpoinhfiajcaaGreatDoorV
