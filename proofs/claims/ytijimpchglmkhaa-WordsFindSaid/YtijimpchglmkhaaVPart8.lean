import Derived.Laws.IdiomStrings
import Derived.Test.YtijimpchglmkhaaVPart7
set_option linter.unusedVariables false
set_option linter.unusedSimpArgs false
/- Package words: the order of words as the program reckons it; sorting. -/
namespace Go.Proofs.YtijimpchglmkhaaV
open Go Go.RowKit
section
variable {w0 w : World} {F : List It} {b : Nat} {ws : List (List UInt8)}
/-- A literal, and the very world behind it. -/
theorem gLitE {t : TypeId} {n : Nat} {parts : Array (Nat × Value)} {K : Value → World → Prop} (vs : List Value) (hp : parts.toList = enumV 0 vs) (hn : vs.length = n) (h0 : 0 < n) (hm : n ≤ 1000000) (h1 : ∀ v ∈ vs, v.cells = #[v])
    (hk : ∀ v o, (w.alloc o).ownsRow w.heap.size (elOf P t) 1 v n vs → K v (w.alloc o)) (ht : sl1 P t = true := by kernel_rfl) : gLit P t n parts w K := by
  obtain ⟨hu, i, z, hi, hsz, hz⟩ := sl1_ok ht
  obtain ⟨c0, hc0, hrun⟩ : ∃ c0 : Array Value, c0.size = n ∧ (Instr.buildSlice t n parts).run P w = .ok (.slice (some ⟨w.heap.size, 0, none⟩) n n) (w.alloc (.cells (setAll c0 0 vs) (elOf P t))) := by
    simp only [Instr.buildSlice, Sem.run_bind, run_underlying hu, Result.andThen_ok, sizeOf, typeInfo, run_program, hi, Sem.run_pure, hsz, Nat.mul_one]
    rw [if_neg (by omega)]
    refine ⟨(Array.range n).map (z.cells[· % z.cells.size]!), by simp, ?_⟩
    rw [if_neg (by omega)]
    simp only [Sem.run_bind, zeroValue, typeInfo, run_program, Result.andThen_ok, hi, hz, Sem.run_pure]
    rw [hp, show (fun i => some (i, 1)) = (fun i => some (i * 1, 1)) by funext i; rw [Nat.mul_one], fill_enum vs h1 0 _ (by simp; omega)]
    simp [newRow]
  have hl := setAll_list vs 0 c0 (by omega)
  simp only [List.take_zero, List.nil_append] at hl
  refine ⟨_, _, hrun, hk _ _ ?_⟩
  have hs : (setAll c0 0 vs).size = n := by rw [← Array.length_toList, hl, hn]
  exact ownsRow_new w (elOf P t) _ n n (Nat.le_refl _) (by unfold maxLen; omega) hs (by rw [hl, List.take_of_length_le (by omega)]) hn
theorem Or2_any {v : Value} {a c : Int} (h : Nm .i64 w v [a, c]) : Calls P n_cmp_Or_int #[v] w (fun e w' => e = .returned (.int .i64 (if a ≠ 0 then a else c)) ∧ w' = w) := by
  refine of_cmp_Or_int (gLen_nm h ⟨fun i w' => w' = w ∧ (i = 0 ∨ (i = 1 ∧ a = 0) ∨ (i = 2 ∧ a = 0 ∧ c = 0)), fun i _ => (2 - i).toNat, ⟨rfl, .inl rfl⟩, ?_⟩)
  rintro _ i _ ⟨rfl, hi⟩
  refine gIf_dec (fun hlt => gGet h (by omega) (by simp at hlt; simp; omega) ?_) (fun hge => ?_)
  · rcases hi with rfl | ⟨rfl, ha⟩ | ⟨rfl, _⟩
    · refine gIf_neq (fun hne => ⟨?_, rfl⟩) (fun he => ⟨⟨rfl, .inr (.inl ⟨by decide, he⟩)⟩, by dsimp only; decide⟩)
      rw [show rd [a, c] 0 = a from rfl] at hne ⊢
      rw [if_pos hne]
    · refine gIf_neq (fun hne => ⟨?_, rfl⟩) (fun he => ⟨⟨rfl, .inr (.inr ⟨by decide, ha, he⟩)⟩, by dsimp only; decide⟩)
      rw [show rd [a, c] 1 = c from rfl] at hne ⊢
      rw [if_neg (by omega)]
    · simp at hlt
  · rcases hi with rfl | ⟨rfl, ha⟩ | ⟨rfl, ha, hc⟩
    · simp at hge
    · simp at hge
    · rw [if_neg (by omega), hc]; exact ⟨rfl, rfl⟩
theorem worth_any {tp : Addr} {s : List UInt8} (hc : w.cell? tp = some (.map (some b))) (hM : MapI w b ws) (hs : s.length ≤ 24) (hl : ws.length ≤ 1000000000) : Calls P n_words_Find_1 #[.string (mkS s), .pointer (some tp)] w (fun e w' => e = .returned (.int .i64 (wth (fun s => ws.count s) s)) ∧ w' = w) := by
  have hr := wth_rg hl hs
  have hct : ws.count s ≤ ws.length := List.count_le_length
  refine of_words_Find_1 (gLoad_v hc (gLookup hM (by omega) ⟨?_, rfl⟩))
  unfold wth at hr ⊢
  rw [mkS_size, i64_id (n := ((ws.count s : Nat) : Int) - 1) (by omega) (by omega), i64_id (n := (((ws.count s : Nat) : Int) - 1) * ((s.length : Nat) : Int)) (by dsimp only at hr; omega) (by dsimp only at hr; omega)]
theorem cmpI_rg (x y : Int) : -1 ≤ cmpI x y ∧ cmpI x y ≤ 1 := by unfold cmpI; split <;> (try split) <;> omega
theorem cmpS_rg (x y : List UInt8) : -1 ≤ cmpS x y ∧ cmpS x y ≤ 1 := by unfold cmpS; split <;> (try split) <;> omega
theorem order_any {wp tp : Addr} {x y : List UInt8} (hw : w.cell? wp = some (.func (.func n_words_Find_1) #[] #[.pointer (some tp)])) (hc : w.cell? tp = some (.map (some b))) (hM : MapI w b ws) (hx : x.length ≤ 24) (hy : y.length ≤ 24) (hl : ws.length ≤ 1000000000) :
    Calls P n_words_Find_2 #[.string (mkS x), .string (mkS y), .pointer (some wp)] w (fun e w' => e = .returned (.int .i64 (cfU (fun s => ws.count s) x y)) ∧ ∃ o, w' = w.drew.alloc o) := by
  have hMd : MapI w.drew b ws := hM.ch (Ev.drew0 w)
  refine of_words_Find_2 ⟨fun w' => w'.cell? wp = some (.func (.func n_words_Find_1) #[] #[.pointer (some tp)]), hw, gLoadB_v (fun w' h => h) (gLoadB_v (fun w' h => h) (gCallV_of rfl (by kernel_rfl) (show Calls P n_words_Find_1 #[.string (mkS y), .pointer (some tp)] _ _ from worth_any hc hMd hy hl) ?_))⟩
  rintro _ _ ⟨rfl, rfl⟩
  refine ⟨_, rfl, hw, gCallV_of rfl (by kernel_rfl) (show Calls P n_words_Find_1 #[.string (mkS x), .pointer (some tp)] _ _ from worth_any hc hMd hx hl) ?_⟩
  rintro _ _ ⟨rfl, rfl⟩
  refine ⟨_, rfl, hw, gCall_of cmpInt_any ?_⟩
  rintro _ _ ⟨rfl, rfl⟩
  refine ⟨_, rfl, hw, gCall_of cmpStr_any ?_⟩
  rintro _ _ ⟨rfl, rfl⟩
  obtain ⟨d1, hd1⟩ : ∃ d, d = cmpI (wth (fun s => ws.count s) y) (wth (fun s => ws.count s) x) := ⟨_, rfl⟩
  have r1 := cmpI_rg (wth (fun s => ws.count s) y) (wth (fun s => ws.count s) x)
  have r2 := cmpS_rg x y
  refine ⟨_, rfl, hw, gLitE [.int .i64 (cmpI (wth (fun s => ws.count s) y) (wth (fun s => ws.count s) x)), .int .i64 (cmpS x y)] rfl rfl (by decide) (by decide) (fun v hv => by simp at hv; rcases hv with rfl | rfl <;> rfl) fun v o ho => ?_⟩
  have hkeep : (w.drew.alloc o).cell? wp = some (.func (.func n_words_Find_1) #[] #[.pointer (some tp)]) := (Ev.alloc w.drew o).cell hw fun h => h
  have hN : Nm .i64 (w.drew.alloc o) v [cmpI (wth (fun s => ws.count s) y) (wth (fun s => ws.count s) x), cmpS x y] := ⟨Sl.of_ownS (sz := 1) ho, fun z hz => by
    have h1 : IntKind.i64.min = -9223372036854775808 := by decide
    have h2 : IntKind.i64.max = 9223372036854775807 := by decide
    rw [h1, h2]
    simp at hz
    rcases hz with rfl | rfl <;> omega⟩
  refine ⟨hkeep, gCall_of (Or2_any hN) ?_⟩
  rintro _ _ ⟨rfl, rfl⟩
  exact ⟨_, rfl, hkeep, rfl, o, rfl⟩
/-! ### The sort -/
noncomputable abbrev eS : TypeId := elOf P t_sl_string
/-- A short word. -/
abbrev Wd := { s : List UInt8 // s.length ≤ 24 }
instance : Inhabited Wd := ⟨⟨[], by decide⟩⟩
def enW (x : Wd) : Value := .string (mkS x.1)
def cfW (c : List UInt8 → Nat) (x y : Wd) : Int := cfU c x.1 y.1
theorem swoW (c : List UInt8 → Nat) : Sort.SWO (ltOf (cfW c)) where
  irrefl x := ltU_irr c x.1
  trans x y z h1 h2 := ltU_trans (c := c) (x := x.1) (y := y.1) (z := z.1) h1 h2
  ntrans x y z h1 h2 := by
    have h1 : ltU c x.1 y.1 = false := h1
    have h2 : ltU c y.1 z.1 = false := h2
    show ltU c x.1 z.1 = false
    have := leU_trans c z.1 y.1 x.1 (by rw [h2]; rfl) (by rw [h1]; rfl)
    simpa using this
theorem putCells_list {α : Type} [Inhabited α] (enc : α → Value) (d : Array α) (c : Array Value) (h : d.size ≤ c.size) : (Sort.putCells enc 0 d c).size = c.size ∧ (Sort.putCells enc 0 d c).toList.take d.size = d.toList.map enc := by
  refine ⟨by simp [Sort.putCells], List.ext_getElem? fun i => ?_⟩
  by_cases hi : i < d.size
  · rw [List.getElem?_take, if_pos hi, Array.getElem?_toList, List.getElem?_map, Array.getElem?_toList]
    simp only [Sort.putCells, Array.getElem?_mapIdx]
    rw [Array.getElem?_eq_getElem (by omega), Array.getElem?_eq_getElem hi]
    simp [hi]
  · rw [List.getElem?_eq_none (by simp; omega), List.getElem?_eq_none (by simp; omega)]
theorem sortWorld_ch {α : Type} [Inhabited α] {enc : α → Value} {g m : Nat} {d : Array α} {os : Array Obj} {cur : Array Value} {e : TypeId} {f : Nat × Nat} (hg : w.heap[g]? = some (.cells cur e f)) :
    Ch (Bk g) w (sortWorld enc w g 0 m d os) ∧ (sortWorld enc w g 0 m d os).heap[g]? = some (.cells (Sort.putCells enc 0 d cur) e f) := by
  have hold : ∀ k, k < w.heap.size → (sortWorld enc w g 0 m d os).heap[k]? = (w.heap[k]?).map fun o => if k = g then Sort.onCells (Sort.putCells enc 0 d) o else o := fun k hk => by
    show (((w.heap.modify g (Sort.onCells (Sort.putCells enc 0 d))) ++ os))[k]? = _
    rw [Array.getElem?_append_left (by simpa using hk), Array.getElem?_modify]
    by_cases e : g = k
    · subst e; simp
    · rw [if_neg e]; simp [Ne.symm e]
  have hnew : (sortWorld enc w g 0 m d os).heap[g]? = some (.cells (Sort.putCells enc 0 d cur) e f) := by rw [hold g (hlt hg), hg]; simp [Sort.onCells]
  refine ⟨⟨rfl, rfl, rfl, ?_, fun k hk hn => ?_, fun k c e' f' hc => ?_, fun k o hk ho => ?_⟩, hnew⟩
  · show w.heap.size ≤ (((w.heap.modify g (Sort.onCells (Sort.putCells enc 0 d))) ++ os)).size
    simp
  · have hne : k ≠ g := fun h => hn 0 h
    rw [hold k hk]; simp [hne]
  · by_cases hkg : k = g
    · subst hkg
      rw [hg] at hc
      injection hc with hc
      injection hc with h1 h2 h3
      subst h1; subst h2; subst h3
      exact ⟨_, hnew, by simp [Sort.putCells], fun i hi => (hi rfl).elim⟩
    · exact ⟨c, by rw [hold k (hlt hc), hc]; simp [hkg], rfl, fun _ _ => rfl⟩
  · have hkg : k ≠ g := ne_cells hg hk ho
    rw [hold k (hlt hk), hk]; simp [hkg]
/-- Words are sorted by their worth. -/
theorem fSort {v : Value} {wp tp : Addr} {ss : List (List UInt8)} {K : World → Prop} (f : Fr w0 w (rIt eS 1 v ss.length (ss.map fun s => Value.string (mkS s)) :: F)) (hs : ∀ s ∈ ss, s.length ≤ 24) (hn : ss.length ≤ 1000000000)
    (hw : sIt wp [.func (.func n_words_Find_1) #[] #[.pointer (some tp)]] ∈ F) (hc : sIt tp [.map (some b)] ∈ F) (hM : MapI w b ws) (hl : ws.length ≤ 1000000000)
    (hk : ∀ w', MapI w' b ws → Fr w0 w' (rIt eS 1 v ss.length ((ss.mergeSort fun x y => !ltU (fun s => ws.count s) y x).map fun s => Value.string (mkS s)) :: F) → K w') :
    gCall P n_slices_SortFunc_string_string shU #[v, .func (.func n_words_Find_2) #[] #[.pointer (some wp)]] w K := by
  have hrow : w.ownsRow 0 eS 1 v ss.length (ss.map fun s => Value.string (mkS s)) := f.get 0 rfl
  rcases row_cases hrow with ⟨rfl, h0⟩ | ⟨g, c, rfl⟩
  · have e0 : ss = [] := List.eq_nil_of_length_eq_zero h0
    subst e0
    refine gCall_of (Try.slices_SortFunc_none (α := Unit) none 0 _ w) ?_
    rintro _ _ ⟨rfl, rfl⟩
    exact ⟨rfl, hk _ hM (by simpa using f)⟩
  obtain ⟨cur, hg, hnc, hcm, hcs, htk, _⟩ := row_block hrow
  obtain ⟨d, hd⟩ : ∃ d : Array Wd, d = (ss.attach.map fun s => (⟨s.1, hs s.1 s.2⟩ : Wd)).toArray := ⟨_, rfl⟩
  have hdl : d.toList.map (·.1) = ss := by rw [hd]; simp
  have hds : d.size = ss.length := by rw [← Array.length_toList, ← List.length_map (·.1), hdl]
  have hde : d.toList.map enW = ss.map fun s => Value.string (mkS s) := by rw [← hdl, List.map_map]; rfl
  have hH : Sort.Holds enW w g 0 d := fun j hj => by
    have h1 : cur[j]? = some (enW d[j]!) := by
      have : (cur.toList.take (ss.length * 1))[j]? = some (enW d[j]!) := by
        rw [htk, ← hde, List.getElem?_map, Array.getElem?_toList, Array.getElem?_eq_getElem hj]
        simp [hj]
      rw [List.getElem?_take, if_pos (by omega), Array.getElem?_toList] at this
      exact this
    refine ⟨?_, ?_⟩
    · simp only [World.cell?, hg, Nat.zero_add]; exact h1
    · simp [World.frozen?, hg]
  have hpg : ∀ {q : Addr} {u : Value}, sIt q [u] ∈ F → q.block ≠ g := fun {q u} hq e => by
    refine f.2.2.1 _ hq g (show Value.ownBlock _ = some g from rfl) ?_
    exact e.symm
  have hcell : ∀ {q : Addr} {u : Value}, sIt q [u] ∈ F → w.cell? q = some u := fun {q u} hq => by
    have := St.cell (j := 0) (u := u) (f.mem (List.mem_cons_of_mem _ hq)).1 rfl
    rwa [Addr.add_zero'] at this
  have hcmp : CmpLays1 P n_words_Find_2 #[.pointer (some wp)] enW (cfW fun s => ws.count s) g 0 d.size w := fun m os dk hdk x y => by
    have hch := (sortWorld_ch (enc := enW) (m := m) (d := dk) (os := os) hg).1
    have keep : ∀ {q : Addr} {u : Value}, sIt q [u] ∈ F → (sortWorld enW w g 0 m dk os).cell? q = some u := fun hq => hch.cell (hcell hq) (hpg hq)
    refine (order_any (keep hw) (keep hc) (hM.ch hch) x.2 y.2 hl).mono ?_
    rintro e w' ⟨rfl, o, rfl⟩
    refine ⟨rfl, 1, #[o], ?_⟩
    show _ = Sort.grow _ _
    rw [← Sort.alloc_eq_grow]; rfl
  have hcon := Try.slices_SortFunc_total enW (fun _ => rfl) (cfW fun s => ws.count s) (swoW _) n_words_Find_2 #[.pointer (some wp)] g 0 c d w (call_ok_enters (by kernel_rfl)) hcmp hH (hlt hg) (by omega) (fun x y h1 h2 => Subtype.ext (ltU_total (c := fun s => ws.count s) h1 h2))
  rw [hds] at hcon
  refine gCall_of hcon ?_
  clear hcon hcmp
  rintro _ w' ⟨rfl, n, os, hw'⟩
  refine ⟨rfl, ?_⟩
  obtain ⟨sd, hsd⟩ : ∃ sd : Array Wd, sd = (d.toList.mergeSort fun x y => !(ltOf (cfW fun s => ws.count s)) y x).toArray := ⟨_, rfl⟩
  rw [← hsd] at hw'
  have hsl : sd.size = ss.length := by rw [hsd]; simp [← hds]
  have hse : sd.toList.map enW = (ss.mergeSort fun x y => !ltU (fun s => ws.count s) y x).map fun s => Value.string (mkS s) := by
    have h1 : (d.toList.mergeSort fun x y => !(ltOf (cfW fun s => ws.count s)) y x).map (·.1) = (d.toList.map (·.1)).mergeSort fun x y => !ltU (fun s => ws.count s) y x := List.map_mergeSort fun a _ b _ => rfl
    rw [hdl] at h1
    rw [← h1, hsd, List.map_map]; rfl
  have hcl : cur.size = c := by omega
  obtain ⟨hch, hgn⟩ := sortWorld_ch (enc := enW) (m := n) (d := sd) (os := os) hg
  rw [← hw'] at hch hgn
  obtain ⟨p1, p2⟩ := putCells_list enW sd cur (by omega)
  rw [hsl, hse] at p2
  have ok : w'.ownsRow 0 eS 1 (rowV g ss.length c) ss.length ((ss.mergeSort fun x y => !ltU (fun s => ws.count s) y x).map fun s => Value.string (mkS s)) := row_of hgn hnc hcm (by rw [p1, hcs]) (by rw [Nat.mul_one]; exact p2)
  exact hk w' (hM.ch hch) (f.upd (jt := rIt eS 1 (rowV g ss.length c) ss.length ((ss.mergeSort fun x y => !ltU (fun s => ws.count s) y x).map fun s => Value.string (mkS s))) 0 rfl hch (fun k _ hh => .inl (by rw [hh]; rfl)) ok fun k hk => .inl hk)
end
end Go.Proofs.YtijimpchglmkhaaV

/- Package words: the keys of a map, collected and sorted. -/
namespace Go.Proofs.YtijimpchglmkhaaV
open Go Go.RowKit Go.Maps
section
variable {w0 w : World} {F : List It} {b : Nat} {ws : List (List UInt8)}
theorem strKeys_nodup {D : Dt} {n : Nat} (h : w.ownsMap P t_string RI b n D) : (strKeys D).Nodup := by
  obtain ⟨es, rfl, hp, _⟩ := h.entries keyS
  obtain ⟨es', he, hk⟩ := h.keysOf
  have he : es = es' := by injection he
  subst he
  unfold strKeys
  refine List.pairwise_map.2 (hp.imp_of_mem fun {p q} hp1 hq1 hne e => hne ?_)
  obtain ⟨v, hv⟩ := hk p hp1
  obtain ⟨v2, hv2⟩ := hk q hq1
  obtain ⟨x, _, hx, _⟩ := Maps.keyOf_str (by kernel_rfl) hv
  obtain ⟨y, _, hy, _⟩ := Maps.keyOf_str (by kernel_rfl) hv2
  rw [hx, hy] at e ⊢
  have : x = y := e
  rw [this]
theorem MapI.kept {w' : World} (h : MapI w b ws) (k : KeepsOthers w w') : MapI w' b ws := by
  obtain ⟨o, h1, h2⟩ := h.block
  exact h.keep fun o' ho => by rw [h1] at ho; injection ho with ho; subst ho; exact k.same _ _ h1 h2
theorem fAllocK {t : TypeId} {z : Value} {K : Addr → World → Prop} (h : Fr w0 w F) (hz : (P.info? t).bind (·.zero) = some z) (hk : ∀ ad w', KeepsOthers w w' → Fr w0 w' (sIt ad z.cells.toList :: F) → K ad w') : gAlloc P t w K :=
  gAlloc_of hz fun ad w' he ha _ hS => hk ad w' he.others (h.new he hS fun k hk => by have hk : k = ad.block := hk; subst ha; dsimp only at hk; omega)
theorem Fr.leftW : ∀ {F G : List It}, Fr w0 w (F ++ G) → Fr w0 w F
  | [], _, h => h.old
  | _ :: _, _, h => ⟨h.1, h.2.1, fun jt hj => h.2.2.1 jt (List.mem_append_left _ hj), Fr.leftW h.2.2.2⟩
/-- The map's keys, in whatever order. -/
theorem Keys_any {K : Value → World → Prop} (f : Fr w0 w F) (m0 : Value) (hm : m0.cells = #[m0]) (hk : ∀ mb w', KeepsOthers w w' → (mb.off = 0 ∧ mb.spot = none) → Fr w0 w' (sIt mb [m0] :: F) → K (.func (.func n_maps_Keys_map_string_int_string_int_1) #[] #[.pointer (some mb)]) w') : gCall P n_maps_Keys_map_string_int_string_int shV #[m0] w K := by
  refine gCall_of (R := fun e w' => ∃ mb, e = .returned (.func (.func n_maps_Keys_map_string_int_string_int_1) #[] #[.pointer (some mb)]) ∧ KeepsOthers w w' ∧ (mb.off = 0 ∧ mb.spot = none) ∧ Fr w0 w' (sIt mb [m0] :: F)) (of_maps_Keys_map_string_int_string_int (gBox_of fun mb w1 he ha _ hS => ?_)) ?_
  · have f1 := f.new (jt := sIt mb m0.cells.toList) he hS fun k hk => by have hk : k = mb.block := hk; subst ha; dsimp only at hk; omega
    rw [hm] at f1
    exact ⟨mb, rfl, he.others, by subst ha; exact ⟨rfl, rfl⟩, f1⟩
  · rintro _ w' ⟨mb, rfl, h1, h2, f1⟩
    exact ⟨_, rfl, hk mb w' h1 h2 f1⟩
theorem fLitK {t : TypeId} {n : Nat} {parts : Array (Nat × Value)} {K : Value → World → Prop} (us : List Value) (h : Fr w0 w F) (hp : parts.toList = enumV 0 us) (hn : us.length = n) (h1 : ∀ v ∈ us, v.cells = #[v])
    (hk : ∀ v w', KeepsOthers w w' → Fr w0 w' F → Sl w' 1 v n us → K v w') (hm : n ≤ 1000000 := by decide) (ht : sl1 P t = true := by kernel_rfl) : gLit P t n parts w K :=
  gLit_1 us hp hn hm h1 (fun v w' he ho => hk v w' he.others (h.ev he) (Sl.of_ownS (sz := 1) ho)) ht
theorem fAppK {t ty : TypeId} {sz n m : Nat} {v y : Value} {cs ds : List Value} {K : Value → World → Prop} (b : Nat) (h : Fr w0 w F) (i : Nat) (hi : F[i]? = some (rIt (elOf P t) sz v n cs)) (hy : Sl w sz y m ds) (h1 : ∀ u ∈ ds, u.oneCell' = true) (hb : (n + m) * b ≤ 140737488355328) (hm : n + m ≤ maxLen)
    (hk : ∀ v' w', KeepsOthers w w' → Fr w0 w' (F.set i (rIt (elOf P t) sz v' (n + m) (cs ++ ds))) → K v' w') (ht : slRow P t sz b = true := by kernel_rfl) (hsz : 0 < sz := by decide) : gApp P #[t, t] ty #[v, y] w K := by
  obtain ⟨hu, ii, z, hii, hz, hs, hzs, hbb⟩ := slRow_ok ht
  obtain ⟨v', w', hr, ho, hc, hmv⟩ := run_append_ownS (P := P) t ty hu hii hz hs hzs hsz (h.get i hi) hy h1 (Nat.le_trans (Nat.mul_le_mul_left _ hbb) hb) hm (Nat.zero_le _)
  refine ⟨v', w', hr, hk v' w' hc.others (h.upd i hi hc (fun k _ hh => .inl hh) ho fun k hk => ?_)⟩
  rcases hmv with hmv | hmv
  · have hk : v'.ownBlock = some k := hk
    rw [hmv] at hk; exact .inl hk
  · exact .inr (hmv k hk)
theorem fStoreK {t : TypeId} {ad : Addr} {c u : Value} {K : World → Prop} (h : Fr w0 w F) (i : Nat) (hi : F[i]? = some (sIt ad [c])) (hk : ∀ w', KeepsOthers w w' → Fr w0 w' (F.set i (sIt ad [u])) → K w') (hu : u.oneCell' = true) (hcl : u.cells = #[u]) (ht : flat1 P t = true := by kernel_rfl) :
    gStore P t (.pointer (some ad)) u w K :=
  gStore_st0 (h.get i hi) (Nat.zero_lt_succ _) hu hcl (fun w' hc _ hS => hk w' hc.others (h.upd i hi hc (fun k _ hh => .inl hh.1) hS fun k hk => .inl hk)) ht
def CollE (w : World) (ws : List (List UInt8)) (e : Ending) (w' : World) : Prop := ∃ (v : Value) (ss : List (List UInt8)), e = .returned v ∧ ss.Nodup ∧ (∀ x, x ∈ ss ↔ x ∈ ws) ∧ Fr w w' [rIt eS 1 v ss.length (ss.map fun s => Value.string (mkS s))]
theorem Append_any {mb : Addr} (hc : w.cell? mb = some (.map (some b))) (h0 : mb.off = 0 ∧ mb.spot = none) (hM : MapI w b ws) (hl : ws.length ≤ 1000000000) : Calls P n_slices_AppendSeq_string_string #[.slice none 0 0, .func (.func n_maps_Keys_map_string_int_string_int_1) #[] #[.pointer (some mb)]] w (CollE w ws) := by
  obtain ⟨D, hD, hI, hat, hhas⟩ := hM
  obtain ⟨g, o, sp⟩ := mb
  obtain ⟨rfl, rfl⟩ := h0
  have hsz : Maps.size D ≤ ws.length := by
    obtain ⟨es, clock, _, _, h3, rfl⟩ := hD
    have : Maps.size (DataW.map ((es.toList.map (WideElems.rg P t_string RI)).foldr DataW.insert [])) = es.size := by
      simp [Maps.size, length_sorted]
    omega
  refine of_slices_AppendSeq_string_string (fBox (Fr.start w) fun sb w1 f1 => ?_)
  have f1 : Fr w w1 [sIt sb [.slice none 0 0]] := f1
  have hblk : ∀ {w' : World}, Ev w w' → w'.ownsMap P t_string RI b ws.length D := fun {w'} he => by
    obtain ⟨es, clock, h1, h2⟩ := hD
    exact ⟨es, clock, he.oth _ _ h1 rfl, h2⟩
  have hseq := AnyZ.keys_stops Try.laysKeys Fence.wide 4 trivial rfl (by decide) g b ws.length D w1 (World.block_lt_of_cell? w1 _ (f1.old.cell hc fun h => h)) (f1.old.cell hc fun h => h) (hblk f1.old)
  refine ⟨_, _, rfl, by kernel_rfl, List UInt8, encStr, KeepsWalks, _, _, Maps.size D, fun pre W => ∃ v, Fr w W [rIt eS 1 v pre.length (pre.map fun s => Value.string (mkS s)), sIt sb [v]], hseq, fun h k => walksK_t h k, fun W l o o' h1 h2 h3 h4 => walksK_b W l o o' h1 h2 h3 h4, ?_, ⟨_, f1.nilR eS 1⟩, ?_, ?_⟩
  · rintro pre W W' row ⟨v, fG⟩ hg hr
    exact ⟨v, fG.grownW hg fun r e => ⟨Nat.le_trans f1.old.size (hr r e).1, (hr r e).2⟩⟩
  · rintro pre x W ⟨v, fG⟩ hlen
    have hv : v.cells = #[v] ∧ v.oneCell' = true := by
      have := fG.row 0 rfl
      obtain ⟨a, c, rfl, _⟩ := this
      exact ⟨rfl, rfl⟩
    refine gLoad_v (fG.cell0 1 rfl) (fLitK [encStr x] fG rfl rfl (fun u hu => by rw [List.mem_singleton.1 hu]; rfl) fun t10 w4 k4 f4 s4 => ?_)
    refine fAppK 16 (m := 1) f4 0 rfl s4 (fun u hu => by rw [List.mem_singleton.1 hu]; rfl) (by omega) (by unfold maxLen; omega) (fun v' w5 k5 f5 => ?_) (by kernel_rfl)
    have hv' : v'.cells = #[v'] ∧ v'.oneCell' = true := by
      have := f5.row 0 rfl
      obtain ⟨a, c, rfl, _⟩ := this
      exact ⟨rfl, rfl⟩
    refine fStoreK f5 1 rfl (fun w6 k6 f6 => ?_) hv'.2 hv'.1
    have ko := k4.trans (k5.trans k6)
    refine ⟨ko, ko.walks, v', ?_⟩
    rw [List.length_append, List.map_append]
    exact f6
  · rintro DD xs W hD2 ⟨hp, hx⟩ ⟨v, fG⟩ hdef
    refine gLoad_v (fG.cell0 1 rfl) ⟨hdef, v, xs, rfl, ?_, fun x => ?_, ?_⟩
    · exact hp.nodup_iff.2 (strKeys_nodup hD)
    · rw [hx x, hhas x]
    · exact (fG.putObjW (Nat.le_trans f1.old.size hD2) hdef rfl).picksN 2 [0] (by decide) (by decide)
/-- slices.SortedFunc of a map's keys: the words, by their worth. -/
theorem fSorted {mb wp tp : Addr} {K : Value → World → Prop} (f : Fr w0 w F) (h0 : mb.off = 0 ∧ mb.spot = none) (hm : sIt mb [.map (some b)] ∈ F) (hw : sIt wp [.func (.func n_words_Find_1) #[] #[.pointer (some tp)]] ∈ F) (hc : sIt tp [.map (some b)] ∈ F) (hM : MapI w b ws) (hl : ws.length ≤ 1000000000) (h24 : ∀ s ∈ ws, s.length ≤ 24)
    (hk : ∀ v w', MapI w' b ws → Fr w0 w' (rIt eS 1 v (sortedU ws).length ((sortedU ws).map fun s => Value.string (mkS s)) :: F) → K v w') :
    gCall P n_slices_SortedFunc_string shV #[.func (.func n_maps_Keys_map_string_int_string_int_1) #[] #[.pointer (some mb)], .func (.func n_words_Find_2) #[] #[.pointer (some wp)]] w K := by
  have hcell : ∀ {q : Addr} {u : Value}, sIt q [u] ∈ F → w.cell? q = some u := fun {q u} hq => by
    have := St.cell (j := 0) (u := u) (f.mem hq).1 rfl
    rwa [Addr.add_zero'] at this
  refine gCall_of (R := fun e w' => ∃ v, e = .returned v ∧ MapI w' b ws ∧ Fr w0 w' (rIt eS 1 v (sortedU ws).length ((sortedU ws).map fun s => Value.string (mkS s)) :: F)) (of_slices_SortedFunc_string (gCall_of (R := CollE w ws) (of_slices_Collect_string (gCall_of (Append_any (hcell hm) h0 hM hl) ?_)) ?_)) ?_
  · rintro e w1 ⟨v, ss, rfl, h⟩
    exact ⟨v, rfl, v, ss, rfl, h⟩
  · rintro _ w1 ⟨v, ss, rfl, hn, hx, g1⟩
    have f1 := f.glue g1
    have hlen : ss.length ≤ ws.length := by
      have : ss.Perm (dd ws) := perm_of_mem hn (nodup_dd ws) fun x => by rw [hx x, mem_dd]
      rw [this.length_eq, ← (sortedU_perm ws).length_eq]; exact sortedU_len ws
    refine ⟨v, rfl, fSort f1 (fun s hs => h24 s ((hx s).1 hs)) (by omega) hw hc (hM.ch g1.old) hl fun w2 hM2 f2 => ?_⟩
    rw [sorted_of hn hx] at f2
    refine ⟨v, rfl, hM2, ?_⟩
    have hsl : ss.length = (sortedU ws).length := by rw [← sorted_of hn hx, (List.mergeSort_perm _ _).length_eq]
    rw [← hsl]
    exact f2
  · rintro _ w' ⟨v, rfl, h1, h2⟩
    exact ⟨v, rfl, hk v w' h1 h2⟩
end
end Go.Proofs.YtijimpchglmkhaaV

/- Package words: bytes of a text; Find. -/
namespace Go.Proofs.YtijimpchglmkhaaV
open Go Go.RowKit
/-! ### []byte(s) -/
def Tx (e : TypeId) (w : World) (v : Value) (xs : List Int) : Prop := ∃ g c cur, v = .slice (some ⟨g, 0, none⟩) xs.length c ∧ xs.length ≤ c ∧ w.heap[g]? = some (.cells cur e (cur.size, cur.size + 1)) ∧ cur.size = c ∧ cur.toList.take xs.length = xs.map (Value.int .u8) ∧ inR .u8 xs
theorem Tx.ch {e : TypeId} {S : SS} {w w' : World} {v : Value} {xs : List Int} (h : Tx e w v xs) (hc : Ch S w w') (hs : ∀ k i, v.ownBlock = some k → ¬ S k i) : Tx e w' v xs := by
  obtain ⟨g, c, cur, rfl, h1, h2, h3⟩ := h
  exact ⟨g, c, cur, rfl, h1, by rw [hc.blk g (hlt h2) fun i => hs g i rfl]; exact h2, h3⟩
theorem Tx.nm {e : TypeId} {w : World} {v : Value} {xs : List Int} (h : Tx e w v xs) : Nm .u8 w v xs := by
  obtain ⟨g, c, cur, rfl, h1, h2, h3, h4, h5⟩ := h
  refine ⟨⟨some ⟨g, 0, none⟩, c, rfl, h1, by simp, fun ad ha j u hj => ?_, fun h => by cases h⟩, h5⟩
  injection ha with ha; subst ha
  rw [Addr.add_lit]
  have hjl : j < xs.length := by simpa using (List.getElem?_eq_some_iff.1 hj).1
  rw [← h4, List.getElem?_take, if_pos hjl, Array.getElem?_toList] at hj
  simp [World.cell?, h2, hj]
def tIt (e : TypeId) (v : Value) (xs : List Int) : It := ⟨fun b => v.ownBlock = some b, fun w => Tx e w v xs, fun _ _ h hk => by
    obtain ⟨g, c, cur, rfl, _, h1, _⟩ := h
    simp [Value.ownBlock] at hk; subst hk; exact ⟨_, _, _, h1⟩, fun _ _ _ h hc hs => h.ch hc hs, fun _ _ h _ hc => by
    obtain ⟨g, c, cur, rfl, h1, h2, h3⟩ := h; exact ⟨g, c, cur, rfl, h1, by rw [hc _ _ _ _ h2]; exact h2, h3⟩⟩
def strBytes (P : Program) (s d : TypeId) : Bool := match P.underlying s, P.underlying d with
  | some .string, some (.slice e) => (match P.underlying e with | some (.int .u8) => true | _ => false)
  | _, _ => false
section
variable {w0 w : World} {F : List It}
theorem fConvSb {s d : TypeId} {l : List UInt8} {K : Value → World → Prop} (f : Fr w0 w F) (hl : l.length ≤ 1000000) (hk : ∀ v w', KeepsOthers w w' → Fr w0 w' (tIt (elOf P d) v (iU l) :: F) → K v w') (ht : strBytes P s d = true := by kernel_rfl) : gConv P s d shV (.string (mkS l)) w K := by
  unfold strBytes at ht
  split at ht
  · rename_i e hs hd
    split at ht
    · rename_i he
      have hel : elOf P d = e := by unfold elOf; rw [hd]
      rw [hel] at hk
      have hge := grownCap_ge w (mkS l).size 0 e
      have hil := iU_len l
      have hsz : (mkS l).size = l.length := mkS_size l
      have hrs : (bytesRow (mkS l) (grownCap w (mkS l).size 0 e)).size = grownCap w (mkS l).size 0 e := by
        unfold bytesRow
        have : (mkS l).data.size = l.length := by simp [mkS]
        simp only [Array.size_append, Array.size_map, Array.size_replicate, this, hsz] at *
        omega
      refine ⟨_, _, run_bytes_of_string w s d e (mkS l) hs hd he, hk _ _ (Ev.trans (Ev.drew0 w) (Ev.alloc w.drew _)).others (f.new (jt := tIt e _ (iU l)) (Ev.trans (Ev.drew0 w) (Ev.alloc w.drew _)) ⟨w.heap.size, _, _, by rw [hil, hsz], by rw [hil]; omega, heap_alloc_new w.drew _, hrs, ?_, iU_u8 l⟩ fun k hk => ?_)⟩
      · unfold bytesRow
        rw [Array.toList_append, List.take_left' (by simp [mkS, iU_len])]
        simp [mkS, iU, Function.comp_def]
      · have : w.heap.size = k := by simpa [tIt, Value.ownBlock] using hk
        omega
    · cases ht
  · cases ht
/-- One of its places is written. -/
theorem fSetT {t te : TypeId} {ki : IntKind} {v : Value} {xs : List Int} {i x : Int} {K : World → Prop} (h : Fr w0 w F) (q : Nat) (hq : F[q]? = some (tIt (elOf P t) v xs)) (j : Nat) (hij : i = (j : Int)) (hj : j < xs.length) (hx : IntKind.u8.min ≤ x ∧ x ≤ IntKind.u8.max)
    (hk : ∀ w', Fr w0 w' (F.set q (tIt (elOf P t) v (xs.set j x))) → K w') (ht : slSz P t 1 = true := by kernel_rfl) (hte : flat1 P te = true := by kernel_rfl) : gIdx P t v (.int ki i) fun ad => gStore P te (.pointer (some ad)) (.int .u8 x) w K := by
  have hC : Tx (elOf P t) w v xs := h.get q hq
  obtain ⟨g, c, cur, rfl, h1, hg, hsz, htk, hr⟩ := hC
  refine gIdx_lit (sz := 1) j hij hj ?_ ht
  rw [Nat.mul_one, Addr.add_lit, Nat.zero_add]
  have hcj : cur[j]? = some (.int .u8 xs[j]) := by
    have : (xs.map (Value.int .u8))[j]? = some (.int .u8 xs[j]) := by simp [hj]
    rwa [← htk, List.getElem?_take, if_pos hj, Array.getElem?_toList] at this
  have hc : w.cell? ⟨g, j, none⟩ = some (.int .u8 xs[j]) := by simp [World.cell?, hg, hcj]
  have hf : w.frozen? ⟨g, j, none⟩ = false := by simp [World.frozen?, hg]; omega
  refine ⟨w.setCell ⟨g, j, none⟩ (.int .u8 x), run_storeAt hc hf rfl rfl hte, hk _ (h.upd q hq (setCell_ch w ⟨g, j, none⟩ (.int .u8 x)) (fun k i hh => .inl (by show some g = some k; rw [hh.1])) ⟨g, c, cur.setIfInBounds j (.int .u8 x), by simp, by simpa using h1, ?_, by simpa using hsz, ?_, fun y hy => ?_⟩ fun k hk => .inl hk)⟩
  · simp only [World.setCell, Array.getElem?_modify, if_true, hg, Option.map_some, Array.size_setIfInBounds]
    simp
  · rw [List.length_set, Array.toList_setIfInBounds, List.take_set, htk, List.map_set]
  · rcases List.mem_or_eq_of_mem_set hy with hy | rfl
    · exact hr y hy
    · exact hx
/-! ### Words in memory of one's own -/
noncomputable abbrev eW : TypeId := elOf P t_sl_sl_uint8
noncomputable abbrev eB1 : TypeId := elOf P t_sl_uint8
noncomputable def wdP (v : Value) (T : List (Value × List Int)) : List It := rIt eW 1 v T.length (T.map (·.1)) :: T.reverse.map fun u => tIt eB1 u.1 u.2
theorem wdP_step {out v : Value} {T : List (Value × List Int)} {xs : List Int} {K : Value → World → Prop} (f : Fr w0 w (tIt eB1 v xs :: wdP out T ++ F)) (hl : T.length ≤ 1000) (hk : ∀ out' w', KeepsOthers w w' → Fr w0 w' (wdP out' (T ++ [(v, xs)]) ++ F) → K out' w') :
    gLit P t_sl_sl_uint8 1 #[(0, v)] w fun t20 w5 => gApp P #[t_sl_sl_uint8, t_sl_sl_uint8] t_sl_sl_uint8 #[out, t20] w5 K := by
  have hn : Nm .u8 w v xs := Tx.nm (f.get 0 rfl)
  have ho : v.oneCell' = true := by obtain ⟨a, c, rfl, _⟩ := hn.shape; rfl
  refine fLitK [v] f rfl rfl (fun u hu => by rw [List.mem_singleton.1 hu]; exact hn.one) fun t5 w5 k5 f5 s5 => ?_
  refine fAppK 24 (m := 1) f5 1 rfl s5 (fun x hx => by rw [List.mem_singleton.1 hx]; exact ho) (by omega) (by unfold maxLen; omega) (fun v' w6 k6 f6 => hk v' w6 (k5.trans k6) ?_) (by kernel_rfl)
  have f7 := f6.picksN 2 [1, 0] (by decide) (by decide)
  have e1 : wdP v' (T ++ [(v, xs)]) ++ F = rIt eW 1 v' (T.length + 1) (T.map (·.1) ++ [v]) :: tIt eB1 v xs :: ((T.reverse.map fun u => tIt eB1 u.1 u.2) ++ F) := by
    unfold wdP; rw [List.map_append, List.length_append, List.reverse_append]; rfl
  rw [e1]; exact f7
theorem wdP_at {v : Value} {T : List (Value × List Int)} (f : Fr w0 w (wdP v T ++ F)) : Sl w 1 v T.length (T.map (·.1)) ∧ ∀ u ∈ T, Nm .u8 w u.1 u.2 := by
  refine ⟨f.row 0 rfl, fun u hu => Tx.nm (e := eB1) ?_⟩
  have hm : tIt eB1 u.1 u.2 ∈ wdP v T ++ F := List.mem_append_left _ (List.mem_cons_of_mem _ (List.mem_map.2 ⟨u, List.mem_reverse.2 hu, rfl⟩))
  exact (f.mem hm).1
/-! ### Find -/
def FindE (w : World) (L : List (List UInt8)) (e : Ending) (w' : World) : Prop := ∃ (v : Value) (T : List (Value × List Int)), e = .returned v ∧ T.map (·.2) = L.map iU ∧ Fr w w' (wdP v T)
theorem findU_rest {ws : List (List UInt8)} {c : List UInt8 → Bool} {k : Nat} (hk : k < ws.length) : ((ws.take (k + 1)).filter c).take 64 = if c ws[k] = true ∧ (((ws.take k).filter c).take 64).length < 64 then ((ws.take k).filter c).take 64 ++ [ws[k]] else ((ws.take k).filter c).take 64 := by
  rw [List.take_succ_eq_append_getElem hk, List.filter_append]
  by_cases hc : c ws[k] = true
  · rw [List.filter_cons_of_pos hc, List.filter_nil]
    by_cases hl : (((ws.take k).filter c).take 64).length < 64
    · rw [if_pos ⟨hc, hl⟩]
      have : ((ws.take k).filter c).length < 64 := by rw [List.length_take] at hl; omega
      rw [List.take_of_length_le (l := (ws.take k).filter c ++ [ws[k]]) (by simp; omega), List.take_of_length_le (l := (ws.take k).filter c) (by omega)]
    · rw [if_neg fun h => hl h.2]
      have : 64 ≤ ((ws.take k).filter c).length := by rw [List.length_take] at hl; omega
      rw [List.take_append_of_le_length this]
  · rw [if_neg fun h => hc h.1, List.filter_cons_of_neg hc, List.filter_nil, List.append_nil]
theorem Find_any {b : Value} {xs : List Int} (hb : Nm .u8 w b xs) (hl : xs.length ≤ 10000000) : Calls P n_words_Find #[b] w (FindE w (findU (wordsU xs))) := by
  obtain ⟨W, hW⟩ : ∃ W, W = wordsU xs := ⟨_, rfl⟩
  have hwl := wordsU_len xs.length xs (Nat.le_refl _)
  rw [← hW] at hwl ⊢
  refine of_words_Find (gMakeMap fun w1 e1 hM1 => ?_)
  obtain ⟨B, hB⟩ : ∃ B, B = w.heap.size := ⟨_, rfl⟩
  rw [← hB] at hM1 ⊢
  refine fAllocK (z := .map none) ((Fr.start w).ev e1) (by kernel_rfl) fun tp w2 k2 f2 => fStoreK f2 0 rfl (fun w3 k3 f3 => ?_) rfl rfl
  have f3 : Fr w w3 [sIt tp [.map (some B)]] := f3
  have hM3 := (hM1.kept k2).kept k3
  refine ⟨fun b' w' => ∃ (p : Nat) (ws : List (List UInt8)), p ≤ xs.length ∧ Nm .u8 w b' (xs.drop p) ∧ ws ++ wordsU (xs.drop p) = W ∧ MapI w' B ws ∧ Fr w w' [sIt tp [.map (some B)]], fun b' _ => (match b' with | .slice _ n _ => n | _ => 0), ⟨0, [], Nat.zero_le _, by rw [List.drop_zero]; exact hb, by rw [List.drop_zero, hW]; rfl, hM3, f3⟩, ?_⟩
  rintro _ b' w4 ⟨p, ws, hp, hb', hws, hM4, f4⟩
  have hb4 := hb'.ev f4.old
  have hdl : (xs.drop p).length = xs.length - p := List.length_drop
  have hwsl : ws.length ≤ xs.length := by have := congrArg List.length hws; rw [List.length_append] at this; omega
  refine gLen_nm hb4 (gIf_dec (fun hgt => ?_) (fun hle => ?_))
  · refine gCall_of (run_any hb4 (by omega)) ?_
    rintro _ w5 ⟨rfl, hw5⟩
    obtain rfl : w4 = w5 := hw5.symm
    have hrl := runN_le (xs.drop p)
    have hne : xs.drop p ≠ [] := fun h => by rw [h] at hgt; simp at hgt
    obtain ⟨n, hn⟩ : ∃ n, n = runN (xs.drop p) := ⟨_, rfl⟩
    have hst := wordsU_step hne
    rw [← hn] at hrl hst ⊢
    refine ⟨_, rfl, fun w' => MapI w' B (ws ++ (if 3 ≤ n ∧ n ≤ 24 then [bU ((xs.drop p).take n)] else [])) ∧ Fr w w' [sIt tp [.map (some B)]], gIf_dec (fun h3 => gIf_dec (fun h24 => ?_) (fun h24 => ?_)) (fun h3 => ?_), ?_⟩
    · refine ⟨fun w' => w'.cell? tp = some (.map (some B)), f4.drew.cell0 0 rfl, gLoadB_v (fun w' h => h) (gSlice_nm (hb4.drew) 0 n (.inl ⟨rfl, rfl⟩) (.inr ⟨_, rfl⟩) (Nat.zero_le _) (by omega) fun hs => gConv_bs hs ⟨f4.drew.cell0 0 rfl, ?_⟩)⟩
      rw [bsOf_mk, List.drop_zero, Nat.sub_zero]
      have hwl1 : (bU ((xs.drop p).take n)).length ≤ 1000 := by rw [bU_len, List.length_take]; omega
      have hM5 : MapI w4.drew B ws := hM4.ch (Ev.drew0 w4)
      have hcl : ws.count (bU ((xs.drop p).take n)) ≤ ws.length := List.count_le_length
      refine gLookup hM5 hwl1 ⟨f4.drew.cell0 0 rfl, gBump hM5 hwl1 (by omega) (by rw [i64_id (by omega) (by omega)]) fun w6 hg hM6 => ?_⟩
      have f6 : Fr w w6 [sIt tp [.map (some B)]] := f4.drew.grownW hg fun r e => by
        injection e with e; subst e
        exact ⟨by omega, hM5.block⟩
      refine ⟨f6.cell0 0 rfl, ?_, f6⟩
      rw [if_pos (by omega)]; exact hM6
    · rw [if_neg (by omega), List.append_nil]; exact ⟨hM4, f4⟩
    · rw [if_neg (by omega), List.append_nil]; exact ⟨hM4, f4⟩
    · rintro _ w7 ⟨hM7, f7⟩
      have hmx : (if 1 > ((n : Nat) : Int) then (1 : Int) else ((n : Nat) : Int)) = (((if 1 > n then 1 else n) : Nat) : Int) := by split <;> split <;> omega
      obtain ⟨m, hm⟩ : ∃ m, m = (if 1 > n then 1 else n) := ⟨_, rfl⟩
      rw [hmx, ← hm]
      rw [← hm] at hst
      have hm1 : 1 ≤ m ∧ m ≤ xs.length - p := by rw [hm]; split <;> omega
      refine gSlice_nm (hb'.ev f7.old) m (xs.drop p).length (.inr ⟨_, rfl⟩) (.inl ⟨rfl, rfl⟩) (by omega) (Nat.le_refl _) fun hs => ?_
      have hsub := hb'.sub m (xs.drop p).length (by omega) (Nat.le_refl _)
      rw [List.take_of_length_le (by rw [List.length_drop]; omega), List.drop_drop] at hsub
      refine ⟨⟨p + m, _, by omega, hsub, ?_, hM7, f7⟩, ?_⟩
      · rw [List.append_assoc, ← List.drop_drop, ← hst]; exact hws
      · obtain ⟨a1, c1, e1, _⟩ := hb'.shape
        obtain ⟨a2, c2, e2, _⟩ := hsub.shape
        rw [e2, e1]
        dsimp only
        rw [List.length_drop, List.length_drop]; omega
  · have hnil : xs.drop p = [] := List.eq_nil_of_length_eq_zero (by omega)
    rw [hnil, wordsU_nil, List.append_nil] at hws
    subst hws
    refine fAllocK (z := .nilFunc) f4 (by kernel_rfl) fun wp w5 k5 f5 => fStoreK f5 0 rfl (fun w6 k6 f6 => ?_) rfl rfl
    have f6 : Fr w w6 [sIt wp [.func (.func n_words_Find_1) #[] #[.pointer (some tp)]], sIt tp [.map (some B)]] := f6
    have hM6 := (hM4.kept k5).kept k6
    refine gLoad_v (f6.cell0 1 rfl) (Keys_any f6 _ rfl fun mb w7 k7 h0 f7 => ?_)
    have hM7 := hM6.kept k7
    refine fSorted (mb := mb) (wp := wp) (tp := tp) f7 h0 (by simp) (by simp) (by simp) hM7 (by omega) (fun s hs => (hwl.2 s hs).2) fun v w8 hM8 f8 => ?_
    obtain ⟨S, hS⟩ : ∃ S, S = sortedU ws := ⟨_, rfl⟩
    rw [← hS] at f8
    have hSl : S.length ≤ ws.length := by rw [hS]; exact sortedU_len ws
    have hSm : ∀ s ∈ S, s.length ≤ 24 := fun s hs => (hwl.2 s (mem_sortedU.1 (hS ▸ hs))).2
    refine gLen_slv (f8.row 0 rfl) ⟨fun out i w' => ∃ (k : Nat) (T : List (Value × List Int)), i = (k : Int) ∧ k ≤ S.length ∧ T.map (·.2) = (((S.take k).filter fun s => decide (1 < ws.count s)).take 64).map iU ∧ MapI w' B ws ∧ Fr w w' (wdP out T ++ [rIt eS 1 v S.length (S.map fun s => Value.string (mkS s)), sIt tp [.map (some B)]]), fun _ i _ => (S.length - i).toNat, ⟨0, [], rfl, Nat.zero_le _, rfl, hM8, ?_⟩, ?_⟩
    · have := (f8.picksN 4 [0, 3] (by decide) (by decide)).nilR eW 1
      exact this
    rintro _ out i w9 ⟨k, T, rfl, hk, hT, hM9, f9⟩
    have hTl : T.length ≤ 64 := by have := congrArg List.length hT; rw [List.length_map, List.length_map, List.length_take] at this; omega
    have hrow : ∀ {w' : World} {out : Value} {T : List (Value × List Int)}, Fr w w' (wdP out T ++ [rIt eS 1 v S.length (S.map fun s => Value.string (mkS s)), sIt tp [.map (some B)]]) → Sl w' 1 v S.length (S.map fun s => Value.string (mkS s)) ∧ w'.cell? tp = some (.map (some B)) := fun {w' out T} f => by
      refine ⟨Sl.of_ownS (sz := 1) (f.mem (it := rIt eS 1 v S.length (S.map fun s => Value.string (mkS s))) (by simp)).1, ?_⟩
      have := St.cell (j := 0) (u := Value.map (some B)) (f.mem (it := sIt tp [.map (some B)]) (by simp)).1 rfl
      rwa [Addr.add_zero'] at this
    refine gIf_dec (fun hlt => ?_) (fun hge => ?_)
    · have hkS : k < S.length := by omega
      obtain ⟨h1, h2⟩ := hrow f9
      refine gIdx_1 h1 (by omega) (by omega) fun a u hua hc _ => ?_
      have hue : u = .string (mkS S[k]) := by
        rw [Int.toNat_natCast, List.getElem?_map, List.getElem?_eq_getElem hkS] at hua
        simpa using hua.symm
      subst hue
      refine gLoad_s hc (gLoad_v h2 (gLookup hM9 (by have := hSm S[k] (List.getElem_mem hkS); omega) ?_))
      have hnext := findU_rest (ws := S) (c := fun s => decide (1 < ws.count s)) hkS
      have hlen : (((S.take k).filter fun s => decide (1 < ws.count s)).take 64).length = T.length := by have := congrArg List.length hT; simpa using this.symm
      rw [hlen] at hnext
      have skip : ¬ ((fun s => decide (1 < ws.count s)) S[k] = true ∧ T.length < 64) → (∃ (k' : Nat) (T' : List (Value × List Int)), i64 ((k : Int) + 1) = (k' : Int) ∧ k' ≤ S.length ∧ T'.map (·.2) = (((S.take k').filter fun s => decide (1 < ws.count s)).take 64).map iU ∧ MapI w9 B ws ∧ Fr w w9 (wdP out T' ++ [rIt eS 1 v S.length (S.map fun s => Value.string (mkS s)), sIt tp [.map (some B)]])) ∧ (S.length - i64 ((k : Int) + 1)).toNat < (S.length - (k : Int)).toNat := fun hn => by
        rw [if_neg hn] at hnext
        exact ⟨⟨k + 1, T, by rw [i64_id (by omega) (by omega)]; omega, by omega, by rw [hnext]; exact hT, hM9, f9⟩, by rw [i64_id (by omega) (by omega)]; omega⟩
      refine gIf_dec (fun hc1 => gLen_slv (wdP_at f9).1 (gIf_dec (fun h64 => ?_) (fun h64 => skip fun h => by omega))) (fun hc1 => skip fun h => by have := of_decide_eq_true h.1; omega)
      rw [if_pos ⟨decide_eq_true (by omega), by omega⟩] at hnext
      refine fConvSb f9 (by have := hSm S[k] (List.getElem_mem hkS); omega) fun u w10 k10 f10 => wdP_step f10 (by omega) fun out' w11 k11 f11 => ⟨⟨k + 1, _, by rw [i64_id (by omega) (by omega)]; omega, by omega, ?_, (hM9.kept k10).kept k11, f11⟩, by dsimp only; rw [i64_id (by omega) (by omega)]; omega⟩
      rw [hnext, List.map_append, List.map_append, hT]; rfl
    · obtain rfl : k = S.length := by omega
      rw [List.take_length] at hT
      refine ⟨out, T, rfl, by rw [hT, hS]; rfl, ?_⟩
      exact f9.leftW
end
end Go.Proofs.YtijimpchglmkhaaV

/- Package words: Apply, Undo. -/
namespace Go.Proofs.YtijimpchglmkhaaV
open Go Go.RowKit
/-- A word's place; how many there are, if it has none. -/
def idxW (L : List (List Int)) (u : List Int) : Nat := L.findIdx fun x => decide (x = u)
def tokW (L : List (List Int)) (xs : List Int) : List Int :=
  if 0 < runN xs ∧ idxW L (xs.take (runN xs)) < L.length then [128 + (idxW L (xs.take (runN xs)) : Int)]
  else if 0 < runN xs then xs.take (runN xs)
  else if rd xs 0 ≥ 128 then [255, rd xs 0] else [rd xs 0]
def mxR (xs : List Int) : Nat := if 1 > runN xs then 1 else runN xs
def apS (L : List (List Int)) : Nat → List Int → List Int
  | 0, _ => []
  | f + 1, xs => if xs = [] then [] else tokW L xs ++ apS L f (xs.drop (mxR xs))
def applyW (L : List (List Int)) (xs : List Int) : List Int := apS L xs.length xs
theorem mxR_pos (xs : List Int) : 1 ≤ mxR xs := by unfold mxR; split <;> omega
theorem apS_nil (L : List (List Int)) : ∀ f, apS L f [] = []
  | 0 => rfl
  | f + 1 => by rw [apS, if_pos rfl]
theorem apS_fuel (L : List (List Int)) : ∀ (f g : Nat) (xs : List Int), xs.length ≤ f → xs.length ≤ g → apS L f xs = apS L g xs
  | 0, g, xs, h, _ => by
    obtain rfl : xs = [] := List.eq_nil_of_length_eq_zero (by omega)
    rw [apS_nil, apS_nil]
  | f + 1, 0, xs, _, h => by
    obtain rfl : xs = [] := List.eq_nil_of_length_eq_zero (by omega)
    rw [apS_nil, apS_nil]
  | f + 1, g + 1, xs, h1, h2 => by
    rw [apS, apS]
    by_cases hx : xs = []
    · rw [if_pos hx, if_pos hx]
    · have : 0 < xs.length := List.length_pos_iff.2 hx
      have := mxR_pos xs
      rw [if_neg hx, if_neg hx, apS_fuel L f g _ (by rw [List.length_drop]; omega) (by rw [List.length_drop]; omega)]
theorem applyW_nil (L : List (List Int)) : applyW L [] = [] := rfl
theorem applyW_step {L : List (List Int)} {xs : List Int} (h : xs ≠ []) : applyW L xs = tokW L xs ++ applyW L (xs.drop (mxR xs)) := by
  have h0 : 0 < xs.length := List.length_pos_iff.2 h
  have := mxR_pos xs
  unfold applyW
  conv => lhs; rw [show xs.length = xs.length - 1 + 1 by omega, apS, if_neg h]
  rw [apS_fuel L _ (xs.drop (mxR xs)).length _ (by rw [List.length_drop]; omega) (Nat.le_refl _)]
/-- What comes of bytes in which words stand. -/
def unS (L : List (List Int)) (lim : Int) : List Int → List Int → List Int × Int
  | [], out => (out, 0)
  | [c], out => if c < 128 then (if ((out ++ [c]).length : Int) > lim then ([], 5) else (out ++ [c], 0)) else if c = 255 then ([], 3) else if c - 128 < L.length then (if ((out ++ L.getD (c - 128).toNat []).length : Int) > lim then ([], 5) else (out ++ L.getD (c - 128).toNat [], 0)) else ([], 4)
  | c :: d :: r, out => if c < 128 then (if ((out ++ [c]).length : Int) > lim then ([], 5) else unS L lim (d :: r) (out ++ [c]))
    else if c = 255 then (if d < 128 then ([], 4) else if ((out ++ [d]).length : Int) > lim then ([], 5) else unS L lim r (out ++ [d]))
    else if c - 128 < L.length then (if ((out ++ L.getD (c - 128).toNat []).length : Int) > lim then ([], 5) else unS L lim (d :: r) (out ++ L.getD (c - 128).toNat [])) else ([], 4)
def undoW (L : List (List Int)) (x : List Int) (limit : Int) : List Int × Int := unS (L.take 64) (if 0 > limit then 0 else limit) x []
section
variable {w0 w : World} {F : List It}
theorem NL.take {v : Value} {L : List (List Int)} {m : Nat} (h : NL .u8 w v L) (hm : m ≤ L.length) : NL .u8 w (subV 1 v 0 m) (L.take m) := by
  obtain ⟨us, h1, h2⟩ := h
  have hs := h1.sub 0 m (Nat.zero_le _) hm
  rw [Nat.zero_mul, List.drop_zero, Nat.sub_zero, Nat.mul_one] at hs
  refine ⟨us.take m, by rw [List.length_take, Nat.min_eq_left hm]; exact hs, fun i u xs hu hx => ?_⟩
  rw [List.getElem?_take] at hu hx
  split at hu
  · rename_i hi
    rw [if_pos hi] at hx
    exact h2 i u xs hu hx
  · cases hu
theorem first_any {v : Value} {L : List (List Int)} (h : NL .u8 w v L) : Calls P n_words_first #[v] w (fun e w' => e = .returned (subV 1 v 0 (min 64 L.length)) ∧ w' = w) := by
  obtain ⟨us, h1, h2⟩ := h
  refine of_words_first (gLen_slv h1 ?_)
  have e : (if (64 : Int) < ((L.length : Nat) : Int) then (64 : Int) else ((L.length : Nat) : Int)) = ((min 64 L.length : Nat) : Int) := by split <;> omega
  rw [e]
  obtain ⟨a, c, rfl, hc⟩ := h1.shape
  exact gSlice_any (sz := 1) (l := 0) (h := min 64 L.length) (.inl ⟨rfl, rfl⟩) (.inr ⟨_, rfl⟩) (Nat.zero_le _) (by omega) ⟨rfl, rfl⟩ (by kernel_rfl)
theorem NL.first {v : Value} {L : List (List Int)} (h : NL .u8 w v L) : NL .u8 w (subV 1 v 0 (min 64 L.length)) (L.take 64) := by
  have := h.take (m := min 64 L.length) (by omega)
  rwa [List.take_eq_take_iff.2 (show min (min 64 L.length) L.length = min 64 L.length by omega)] at this
theorem NL.at {v : Value} {L : List (List Int)} {k : Nat} {K : Value → Prop} (h : NL .u8 w v L) (hk : k < L.length) (hK : ∀ u, Nm .u8 w u L[k] → K u) : gIdx P t_sl_sl_uint8 v (.int .i64 (k : Int)) fun ad => gLoad P t_sl_uint8 shV (.pointer (some ad)) w K := by
  obtain ⟨us, h1, h2⟩ := h
  refine gIdx_1 h1 (by omega) (by omega) fun a u hua hc _ => gLoad_v hc (hK u (h2 k u _ ?_ (List.getElem?_eq_getElem hk)))
  rwa [Int.toNat_natCast] at hua
theorem EqualB_any {a c : Value} {xs ys : List Int} (ha : Nm .u8 w a xs) (hc : Nm .u8 w c ys) : Calls P n_bytes_Equal #[a, c] w (fun e w' => e = .returned (.bool (decide (xs = ys))) ∧ w' = w) :=
  of_bytes_Equal (gConv_bs ha (gConv_bs hc ⟨by rw [bsOf_eq ha.2 hc.2], rfl⟩))
theorem isW_any {u b' : Value} {ys xs : List Int} {np bp : Addr} {n : Nat} (hu : Nm .u8 w u ys) (hn : w.cell? np = some (.int .i64 (n : Int))) (hb : w.cell? bp = some b') (hx : Nm .u8 w b' xs) (hnl : n ≤ xs.length) :
    Calls P n_words_Apply_1 #[u, .pointer (some np), .pointer (some bp)] w (fun e w' => e = .returned (.bool (decide (0 < n ∧ ys = xs.take n))) ∧ w' = w) := by
  refine of_words_Apply_1 (gLoad_i hn (gIf_dec (fun h => gLoad_v hb (gLoad_i hn (gSlice_nm hx 0 n (.inl ⟨rfl, rfl⟩) (.inr ⟨_, rfl⟩) (Nat.zero_le _) hnl fun hs => gCall_of (EqualB_any hu hs) ?_))) (fun h => ⟨?_, rfl⟩)))
  · rintro _ _ ⟨rfl, rfl⟩
    refine ⟨_, rfl, ?_, rfl⟩
    rw [List.drop_zero, Nat.sub_zero]
    congr 2
    exact decide_eq_decide.2 ⟨fun h' => ⟨by omega, h'⟩, fun h' => h'.2⟩
  · congr 2
    exact (decide_eq_false (by omega)).symm
theorem idxW_at {L : List (List Int)} {u : List Int} {k : Nat} (hk : k < L.length) (h1 : ∀ j (hj : j < k), L[j]'(by omega) ≠ u) (h2 : L[k] = u) : idxW L u = k := by
  unfold idxW
  refine (List.findIdx_eq hk).2 ⟨by simp [h2], fun j hj => by simpa using h1 j hj⟩
theorem idxW_none {L : List (List Int)} {u : List Int} (h : ∀ j (hj : j < L.length), L[j] ≠ u) : idxW L u = L.length := by
  unfold idxW
  refine List.findIdx_eq_length.2 fun x hx => ?_
  obtain ⟨j, hj, rfl⟩ := List.mem_iff_getElem.1 hx
  simpa using h j hj
theorem Place_any {v b' : Value} {L : List (List Int)} {xs : List Int} {np bp : Addr} {n : Nat} (h : NL .u8 w v L) (hll : L.length ≤ 1000) (hn : w.cell? np = some (.int .i64 (n : Int))) (hb : w.cell? bp = some b') (hx : Nm .u8 w b' xs) (hnl : n ≤ xs.length) :
    Calls P n_slices_IndexFunc_byte_byte #[v, .func (.func n_words_Apply_1) #[] #[.pointer (some np), .pointer (some bp)]] w (fun e w' => e = .returned (.int .i64 (if 0 < n ∧ idxW L (xs.take n) < L.length then (idxW L (xs.take n) : Int) else -1)) ∧ w' = w) := by
  have hsl : ∃ us, Sl w 1 v L.length us := let ⟨us, h1, _⟩ := h; ⟨us, h1⟩
  obtain ⟨us, hS⟩ := hsl
  refine of_slices_IndexFunc_byte_byte (gLen_slv hS ⟨fun i w' => ∃ k : Nat, i = (k : Int) ∧ k ≤ L.length ∧ (∀ j (hj : j < k) (hl : j < L.length), ¬ (0 < n ∧ L[j] = xs.take n)) ∧ w' = w, fun i _ => (L.length - i).toNat, ⟨0, rfl, Nat.zero_le _, (fun j h => by omega), rfl⟩, ?_⟩)
  rintro _ i w1 ⟨k, rfl, hk, hall, hw1⟩
  obtain rfl : w = w1 := hw1.symm
  refine gIf_dec (fun hlt => h.at (k := k) (by omega) fun u hu => gCallV_of rfl (by kernel_rfl) (show Calls P n_words_Apply_1 #[u, .pointer (some np), .pointer (some bp)] _ _ from isW_any hu hn hb hx hnl) ?_) (fun hge => ⟨?_, rfl⟩)
  · rintro _ w2 ⟨rfl, hw2⟩
    obtain rfl : w = w2 := hw2.symm
    refine ⟨_, rfl, gIf_dec (fun hy => ⟨?_, rfl⟩) (fun hy => ⟨⟨k + 1, by rw [i64_id (by omega) (by omega)]; omega, by omega, fun j hj hl => ?_, rfl⟩, by dsimp only; rw [i64_id (by omega) (by omega)]; omega⟩)⟩
    · have e : idxW L (xs.take n) = k := idxW_at (by omega) (fun j hj he => hall j hj (by omega) ⟨hy.1, he⟩) hy.2
      rw [e, if_pos ⟨hy.1, by omega⟩]
    · by_cases hjk : j = k
      · subst hjk; exact hy
      · exact hall j (by omega) hl
  · by_cases h0 : 0 < n
    · rw [idxW_none (u := xs.take n) fun j hj he => hall j (by omega) hj ⟨h0, he⟩, if_neg (by omega)]
    · rw [if_neg (by omega)]
theorem tokW_len (L : List (List Int)) (xs : List Int) : (tokW L xs).length ≤ 2 * mxR xs := by
  have := mxR_pos xs
  unfold tokW
  split
  · simp; omega
  · split
    · rw [List.length_take]; unfold mxR; split <;> omega
    · split <;> simp <;> omega
theorem Apply_any {b v : Value} {L : List (List Int)} {xs : List Int} (hb : Nm .u8 w b xs) (hl : xs.length ≤ 10000000) (hv : NL .u8 w v L) : Calls P n_words_Apply #[b, v] w (NewB w (applyW (L.take 64) xs)) := by
  refine of_words_Apply (fBox (Fr.start w) fun bp w1 f1 => gCall_of (first_any (hv.ev f1.old)) ?_)
  rintro _ w2 ⟨rfl, hw2⟩
  obtain rfl : w1 = w2 := hw2.symm
  have hL0 := hv.first
  obtain ⟨t9, ht9⟩ : ∃ t9, t9 = subV 1 v 0 (min 64 L.length) := ⟨_, rfl⟩
  obtain ⟨M, hM⟩ : ∃ M, M = L.take 64 := ⟨_, rfl⟩
  rw [← hM, ← ht9] at hL0
  rw [← hM, ← ht9]
  have hMl : M.length ≤ 64 := by rw [hM, List.length_take]; omega
  have hb1 : b.cells.toList = [b] := by rw [hb.one]
  rw [hb1] at f1
  have cl : ∀ {u : Value} {zs : List Int}, Nm .u8 w u zs → u.cells = #[u] ∧ u.oneCell' = true := fun hu => by
    obtain ⟨a, c, rfl, _⟩ := hu.shape; exact ⟨rfl, rfl⟩
  refine ⟨_, rfl, fun out w' => ∃ (p : Nat) (b' : Value) (ys : List Int), p ≤ xs.length ∧ Nm .u8 w b' (xs.drop p) ∧ ys ++ applyW M (xs.drop p) = applyW M xs ∧ ys.length ≤ 2 * p ∧ Fr w w' [oIt .u8 eB out ys, sIt bp [b']], fun _ w' => (match w'.cell? bp with | some (.slice _ n _) => n | _ => 0), ⟨0, b, [], Nat.zero_le _, by rw [List.drop_zero]; exact hb, by rw [List.drop_zero]; rfl, Nat.le_refl _, f1.nil0 .u8 eB⟩, ?_⟩
  rintro _ out w4 ⟨p, b', ys, hp, hb', hys, hyl, f4⟩
  have hdl : (xs.drop p).length = xs.length - p := List.length_drop
  have hb4 := hb'.ev f4.old
  have cb4 : w4.cell? bp = some b' := by have := f4.cell 1 0 rfl rfl; rwa [Addr.add_zero'] at this
  refine gLoad_v cb4 (gLen_nm hb4 (gIf_dec (fun hgt => ?_) (fun hle => ?_)))
  · refine gLoad_v cb4 (gCall_of (run_any hb4 (by omega)) ?_)
    rintro _ w5 ⟨rfl, hw5⟩
    obtain rfl : w4 = w5 := hw5.symm
    have hrl := runN_le (xs.drop p)
    have hne : xs.drop p ≠ [] := fun h => by rw [h] at hgt; simp at hgt
    have hst := applyW_step (L := M) hne
    have htl := tokW_len M (xs.drop p)
    have hmp := mxR_pos (xs.drop p)
    obtain ⟨n, hn⟩ : ∃ n, n = runN (xs.drop p) := ⟨_, rfl⟩
    have hmx : mxR (xs.drop p) = if 1 > n then 1 else n := by unfold mxR; rw [hn]
    rw [← hn] at hrl ⊢
    refine ⟨_, rfl, fAlloc (z := .int .i64 0) f4 (by kernel_rfl) fun np w6 f6 => ?_⟩
    have f6 : Fr w w6 [sIt np [.int .i64 0], oIt .u8 eB out ys, sIt bp [b']] := f6
    refine gStore_st0 (f6.get 0 rfl) (by decide) rfl rfl fun w7 hc7 _ hS7 => ?_
    have f7 : Fr w w7 [sIt np [.int .i64 (n : Int)], oIt .u8 eB out ys, sIt bp [b']] := f6.upd (jt := sIt np [.int .i64 (n : Int)]) 0 rfl hc7 (fun k _ hh => .inl hh.1) hS7 fun k hk => .inl hk
    have cn : ∀ {w' : World} {F' : List It}, Fr w w' (sIt np [.int .i64 (n : Int)] :: F') → w'.cell? np = some (.int .i64 (n : Int)) := fun f => by have := f.cell 0 0 rfl rfl; rwa [Addr.add_zero'] at this
    have cb : ∀ {w' : World} {o : It}, Fr w w' [sIt np [.int .i64 (n : Int)], o, sIt bp [b']] → w'.cell? bp = some b' := fun f => by have := f.cell 2 0 rfl rfl; rwa [Addr.add_zero'] at this
    refine gCall_of (Place_any (hL0.ev f7.old) (by omega) (cn f7) (cb f7) (hb'.ev f7.old) (by omega)) ?_
    rintro _ w8 ⟨rfl, hw8⟩
    obtain rfl : w7 = w8 := hw8.symm
    have hr0 : 0 ≤ rd (xs.drop p) 0 ∧ rd (xs.drop p) 0 < 256 := rd_u8 hb'.2 0
    refine ⟨_, rfl, fun out' w' => Fr w w' [sIt np [.int .i64 (n : Int)], oIt .u8 eB out' (ys ++ tokW M (xs.drop p)), sIt bp [b']], ?_, ?_⟩
    · have htok : tokW M (xs.drop p) = if 0 < n ∧ idxW M ((xs.drop p).take n) < M.length then [128 + (idxW M ((xs.drop p).take n) : Int)] else if 0 < n then (xs.drop p).take n else if rd (xs.drop p) 0 ≥ 128 then [255, rd (xs.drop p) 0] else [rd (xs.drop p) 0] := by unfold tokW; rw [← hn]
      rw [htok]
      by_cases hq : 0 < n ∧ idxW M ((xs.drop p).take n) < M.length
      · rw [if_pos hq, if_pos hq]
        obtain ⟨q, hqe⟩ : ∃ q, q = idxW M ((xs.drop p).take n) := ⟨_, rfl⟩
        rw [← hqe] at hq ⊢
        refine gIf_dec (fun _ => ?_) (fun h => by omega)
        rw [i64_id (n := 128 + (q : Int)) (by omega) (by omega), show u8 (128 + (q : Int)) = 128 + (q : Int) by rw [u8_def]; omega]
        refine fLit_n [128 + (q : Int)] f7 rfl rfl (fun y hy => by simp at hy; subst hy; exact u8i (by omega)) fun t w9 f9 => fApp f9 2 rfl (f9.nm 0 rfl) (by simp; omega) fun v' w10 f10 => f10.drop 0
      · rw [if_neg hq, if_neg hq]
        refine gIf_dec (fun h => by omega) (fun _ => gLoad_i (cn f7) (gIf_dec (fun h0 => ?_) (fun h0 => ?_)))
        · rw [if_pos (by omega)]
          refine gLoad_v (cb f7) (gLoad_i (cn f7) (gSlice_nm (hb'.ev f7.old) 0 n (.inl ⟨rfl, rfl⟩) (.inr ⟨_, rfl⟩) (Nat.zero_le _) (by omega) fun hs => ?_))
          rw [List.drop_zero, Nat.sub_zero] at hs
          exact fApp f7 1 rfl hs (by rw [List.length_take]; omega) fun v' w10 f10 => f10
        · rw [if_neg (by omega)]
          refine gLoad_v (cb f7) (gGet (hb'.ev f7.old) (by omega) (by omega) (gIf_dec (fun h128 => ?_) (fun h128 => ?_)))
          · rw [if_pos h128]
            refine gLoad_v (cb f7) (gGet (hb'.ev f7.old) (by omega) (by omega) ?_)
            refine fLit_n [255, rd (xs.drop p) 0] f7 rfl rfl (fun y hy => by simp at hy; rcases hy with rfl | rfl <;> exact u8i (by omega)) fun t w9 f9 => fApp f9 2 rfl (f9.nm 0 rfl) (by simp; omega) fun v' w10 f10 => f10.drop 0
          · rw [if_neg h128]
            refine gLoad_v (cb f7) (gGet (hb'.ev f7.old) (by omega) (by omega) ?_)
            refine fLit_n [rd (xs.drop p) 0] f7 rfl rfl (fun y hy => by simp at hy; subst hy; exact u8i (by omega)) fun t w9 f9 => fApp f9 2 rfl (f9.nm 0 rfl) (by simp; omega) fun v' w10 f10 => f10.drop 0
    · rintro _ out' w11 f11
      have hmi : (if 1 > ((n : Nat) : Int) then (1 : Int) else ((n : Nat) : Int)) = ((mxR (xs.drop p) : Nat) : Int) := by rw [hmx]; split <;> split <;> omega
      obtain ⟨m, hm⟩ : ∃ m, m = mxR (xs.drop p) := ⟨_, rfl⟩
      rw [← hm] at hst htl hmp hmi
      have hm1 : m ≤ xs.length - p := by rw [hm, hmx]; split <;> omega
      refine gLoad_v (cb f11) (gLoad_i (cn f11) ?_)
      rw [hmi]
      refine gSlice_nm (hb'.ev f11.old) m (xs.drop p).length (.inr ⟨_, rfl⟩) (.inl ⟨rfl, rfl⟩) (by omega) (Nat.le_refl _) fun hs => ?_
      have hsub := hb'.sub m (xs.drop p).length (by omega) (Nat.le_refl _)
      rw [List.take_of_length_le (by rw [List.length_drop]; omega), List.drop_drop] at hsub
      obtain ⟨c1, c2⟩ := cl hsub
      refine gStore_st0 (f11.get 2 rfl) (Nat.zero_lt_succ _) c2 c1 fun w12 hc12 _ hS12 => ?_
      have f12 : Fr w w12 [sIt np [.int .i64 (n : Int)], oIt .u8 eB out' (ys ++ tokW M (xs.drop p)), sIt bp [_]] := f11.upd (jt := sIt bp [_]) 2 rfl hc12 (fun k _ hh => .inl hh.1) hS12 fun k hk => .inl hk
      have cbn := f12.cell 2 0 rfl rfl
      rw [Addr.add_zero'] at cbn
      refine ⟨⟨p + m, _, _, by omega, hsub, ?_, by rw [List.length_append]; omega, f12.drop 0⟩, ?_⟩
      · rw [List.append_assoc, ← List.drop_drop, ← hst]; exact hys
      · dsimp only
        rw [cbn, cb4]
        obtain ⟨a1, d1, e1, _⟩ := hb'.shape
        obtain ⟨a2, d2, e2, _⟩ := hsub.shape
        rw [e2, e1]
        dsimp only
        rw [List.length_drop, List.length_drop]; omega
  · have hnil : xs.drop p = [] := List.eq_nil_of_length_eq_zero (by omega)
    rw [hnil, applyW_nil, List.append_nil] at hys
    subst hys
    exact ⟨out, rfl, f4.old, f4.on 0 rfl⟩
theorem unS_step {M : List (List Int)} {lim : Int} {xs ys : List Int} {k : Nat} (hk : k < xs.length) : unS M lim (xs.drop k) ys =
    if rd xs (k : Int) < 128 then (if ((ys ++ [rd xs (k : Int)]).length : Int) > lim then ([], 5) else unS M lim (xs.drop (k + 1)) (ys ++ [rd xs (k : Int)]))
    else if rd xs (k : Int) = 255 then (if k + 1 = xs.length then ([], 3) else if rd xs ((k + 1 : Nat) : Int) < 128 then ([], 4) else if ((ys ++ [rd xs ((k + 1 : Nat) : Int)]).length : Int) > lim then ([], 5) else unS M lim (xs.drop (k + 2)) (ys ++ [rd xs ((k + 1 : Nat) : Int)]))
    else if rd xs (k : Int) - 128 < M.length then (if ((ys ++ M.getD (rd xs (k : Int) - 128).toNat []).length : Int) > lim then ([], 5) else unS M lim (xs.drop (k + 1)) (ys ++ M.getD (rd xs (k : Int) - 128).toNat [])) else ([], 4) := by
  rw [List.drop_eq_getElem_cons hk, rd_nat xs k hk]
  by_cases h1 : k + 1 < xs.length
  · rw [List.drop_eq_getElem_cons h1, rd_nat xs (k + 1) h1, unS, if_neg (show ¬ (k + 1 = xs.length) by omega)]
  · rw [List.drop_of_length_le (show xs.length ≤ k + 1 by omega), unS, if_pos (show k + 1 = xs.length by omega)]
    simp only [unS]
theorem unS_nil (M : List (List Int)) (lim : Int) (ys : List Int) : unS M lim [] ys = (ys, 0) := by rw [unS]
theorem Undo_any {x v : Value} {L : List (List Int)} {xs : List Int} {limit : Int} (hx : Nm .u8 w x xs) (hl : xs.length ≤ 10000000) (hv : NL .u8 w v L) (hL : ∀ u ∈ L, u.length ≤ 100000) : Calls P n_words_Undo #[x, .int .i64 limit, v] w (TupE w (undoW L xs limit)) := by
  refine of_words_Undo (gCall_of (first_any hv) ?_)
  rintro _ w1 ⟨rfl, hw1⟩
  obtain rfl : w = w1 := hw1.symm
  have hL0 := hv.first
  obtain ⟨t9, ht9⟩ : ∃ t9, t9 = subV 1 v 0 (min 64 L.length) := ⟨_, rfl⟩
  unfold undoW
  obtain ⟨M, hM⟩ : ∃ M, M = L.take 64 := ⟨_, rfl⟩
  rw [← hM, ← ht9] at hL0
  rw [← hM, ← ht9]
  have hMl : M.length ≤ 64 := by rw [hM, List.length_take]; omega
  have hMu : ∀ u ∈ M, u.length ≤ 100000 := fun u hu => hL u (by rw [hM] at hu; exact List.mem_of_mem_take hu)
  obtain ⟨lim, hlim⟩ : ∃ lim, lim = if 0 > limit then 0 else limit := ⟨_, rfl⟩
  rw [← hlim]
  obtain ⟨RES, hRES⟩ : ∃ RES, RES = unS M lim xs [] := ⟨_, rfl⟩
  rw [← hRES]
  refine ⟨_, rfl, fun out i w' => ∃ (k : Nat) (ys : List Int), i = (k : Int) ∧ k ≤ xs.length ∧ RES = unS M lim (xs.drop k) ys ∧ ys.length ≤ k * 100000 ∧ Fr w w' [oIt .u8 eB out ys], fun _ i _ => (xs.length - i).toNat, ⟨0, [], rfl, Nat.zero_le _, hRES, Nat.zero_le _, (Fr.start w).nil0 .u8 eB⟩, ?_⟩
  rintro _ out i w2 ⟨k, ys, rfl, hk, hr, hyl, f2⟩
  have hx2 := hx.ev f2.old
  have nil : ∀ {w' : World} {e : Int}, Ev w w' → RES = ([], e) → TupE w RES (.returned (.tuple #[.slice none 0 0, .int .i64 e])) w' := fun h he => by
    rw [he]; exact ⟨_, rfl, h, ON.nil _ _ _ _⟩
  refine gLen_nm hx2 (gIf_dec (fun hlt => ?_) (fun hge => ?_))
  · have hkl : k < xs.length := by omega
    have hst := unS_step (M := M) (lim := lim) (ys := ys) hkl
    rw [← hr] at hst
    have hc := rd_u8 hx.2 (k : Int)
    have hkm : k * 100000 + 100000 ≤ 10000000 * 100000 := by have := Nat.mul_le_mul_right 100000 (show k + 1 ≤ 10000000 by omega); rwa [Nat.succ_mul] at this
    refine gGet hx2 (by omega) (by omega) ?_
    rw [i64_id (n := rd xs (k : Int)) (by omega) (by omega)]
    refine gIf_dec (fun h128 => ?_) (fun h128 => ?_)
    · rw [if_pos h128] at hst
      refine gGet hx2 (by omega) (by omega) (fAppB rfl f2 hc (by omega) fun v' w3 f3 => gLen_nm (f3.nm 0 rfl) (gIf_dec (fun hg => ?_) (fun hg => ?_)))
      · rw [if_pos hg] at hst; exact nil f3.old hst
      · rw [if_neg hg] at hst
        exact ⟨⟨k + 1, _, by rw [i64_id (by omega) (by omega)]; omega, by omega, hst, by rw [List.length_append, Nat.succ_mul, List.length_singleton]; omega, f3⟩, by dsimp only; rw [i64_id (by omega) (by omega)]; omega⟩
    · rw [if_neg h128] at hst
      refine gIf_eq (fun h255 => gLen_nm hx2 ?_) (fun h255 => ?_)
      · rw [if_pos h255] at hst
        rw [i64_id (n := (k : Int) + 1) (by omega) (by omega)]
        refine gIf_eq (fun he => ?_) (fun hne => ?_)
        · rw [if_pos (by omega)] at hst; exact nil f2.old hst
        · rw [if_neg (by omega)] at hst
          have hd := rd_u8 hx.2 ((k + 1 : Nat) : Int)
          rw [show (k : Int) + 1 = ((k + 1 : Nat) : Int) by omega]
          refine gGet hx2 (by omega) (by omega) (gIf_dec (fun hd1 => ?_) (fun hd1 => ?_))
          · rw [if_pos hd1] at hst; exact nil f2.old hst
          · rw [if_neg hd1] at hst
            refine gGet hx2 (by omega) (by omega) (fAppB rfl f2 hd (by omega) fun v' w3 f3 => gLen_nm (f3.nm 0 rfl) (gIf_dec (fun hg => ?_) (fun hg => ?_)))
            · rw [if_pos hg] at hst; exact nil f3.old hst
            · rw [if_neg hg] at hst
              refine ⟨⟨k + 2, _, by rw [i64_id (by omega) (by omega)]; omega, by omega, hst, ?_, f3⟩, by dsimp only; rw [i64_id (by omega) (by omega)]; omega⟩
              rw [List.length_append, show (k + 2) * 100000 = k * 100000 + 200000 by omega, List.length_singleton]; omega
      · rw [if_neg h255] at hst
        have hN2 := hL0.ev f2.old
        have hS2 : ∃ us, Sl w2 1 t9 M.length us := let ⟨us, h1, _⟩ := hN2; ⟨us, h1⟩
        obtain ⟨us, hS⟩ := hS2
        rw [i64_id (n := rd xs (k : Int) - 128) (by omega) (by omega)]
        refine gLen_slv hS (gIf_dec (fun hq => ?_) (fun hq => ?_))
        · rw [if_pos hq] at hst
          obtain ⟨q, hqe⟩ : ∃ q : Nat, rd xs (k : Int) - 128 = (q : Int) := ⟨(rd xs (k : Int) - 128).toNat, by omega⟩
          rw [hqe] at hst hq ⊢
          have hqM : q < M.length := by omega
          rw [Int.toNat_natCast, List.getD_eq_getElem?_getD, List.getElem?_eq_getElem hqM, Option.getD_some] at hst
          have hul := hMu M[q] (List.getElem_mem hqM)
          refine hN2.at hqM fun u hu => fApp f2 0 rfl hu (by omega) fun v' w3 f3 => gLen_nm (f3.nm 0 rfl) (gIf_dec (fun hg => ?_) (fun hg => ?_))
          · rw [if_pos hg] at hst; exact nil f3.old hst
          · rw [if_neg hg] at hst
            exact ⟨⟨k + 1, _, by rw [i64_id (by omega) (by omega)]; omega, by omega, hst, by rw [List.length_append, Nat.succ_mul]; omega, f3⟩, by dsimp only; rw [i64_id (by omega) (by omega)]; omega⟩
        · rw [if_neg hq] at hst; exact nil f2.old hst
  · obtain rfl : k = xs.length := by omega
    rw [List.drop_length, unS_nil] at hr
    rw [hr]
    exact ⟨out, rfl, f2.old, f2.on 0 rfl⟩
end
end Go.Proofs.YtijimpchglmkhaaV

/- Package num: what is written. -/
namespace Go.Proofs.YtijimpchglmkhaaV
open Go Go.RowKit

abbrev W1 (w : World) (ad : Addr) (v : Value) (xs : List Int) : Prop := Wr eB w ad v xs
abbrev WS (w w' : World) (ad : Addr) (v v' : Value) (xs : List Int) : Prop := WrS eB w w' ad v v' xs
theorem put_any {ad : Addr} {v p : Value} {xs : List Int} {yss : List (List Int)} {w : World} (h : W1 w ad v xs) (hp : Stab (Ft ad v) w fun w' => NL .u8 w' p yss) (hl : xs.length + yss.flatten.length ≤ 10000000000) (hn : yss.length ≤ 10000000000) :
    Calls P n_num_buffer_put #[.pointer (some ad), p] w (fun e w' => e = .returned (.tuple #[]) ∧ ∃ v', WS w w' ad v v' (xs ++ yss.flatten)) := by
  obtain ⟨us, hus, hel⟩ := hp.now
  refine of_num_buffer_put (gLen_slv hus ?_)
  refine ⟨fun i w1 => ∃ j : Nat, i = j ∧ j ≤ yss.length ∧ ∃ v', WS w w1 ad v v' (xs ++ (yss.take j).flatten), fun i _ => yss.length - i.toNat, ⟨0, rfl, by omega, v, by simpa using h.step⟩, ?_⟩
  rintro _ i w1 ⟨j, rfl, hj, v', hW⟩
  refine gIf_dec (fun hlt => ?_) (fun hge => ⟨rfl, v', ?_⟩)
  · obtain ⟨us, hus, hel⟩ := hp w1 hW.2.1
    refine gIdx_1 hus (by omega) (by omega) fun a u hu hc _ => gLoad_v hc (gNil_some (gLoad_v (v := v') ?_ ?_))
    · have := hW.1.1.cell (j := 0) rfl; exact this
    have hlt' : j < yss.length := by omega
    have hx := hel j u yss[j] (by simpa using hu) (by simp [hlt'])
    have hfl : (yss.take (j + 1)).flatten = (yss.take j).flatten ++ yss[j] := by rw [List.take_succ_eq_append_getElem hlt', List.flatten_append]; simp
    have hle : (yss.take (j + 1)).flatten.length ≤ yss.flatten.length := by
      have : yss.flatten = (yss.take (j + 1)).flatten ++ (yss.drop (j + 1)).flatten := by rw [← List.flatten_append, List.take_append_drop]
      rw [this, List.length_append]; omega
    rw [hfl, List.length_append] at hle
    refine gApp_on hW.1.2.1 hx (by rw [List.length_append]; omega) (Nat.zero_le _) fun v2 w2 hO2 hc2 hm2 => gNil_some ?_
    have hne : ∀ i, ¬ Ob v' ad.block i := fun _ hh => hW.1.2.2 hh
    have hS2 : St w2 ad [v'] := hW.1.1.ch hc2 fun _ _ => hne _
    rw [Addr.add_zero']
    refine gStore_st0 hS2 (by simp) (by obtain ⟨a, c, rfl, _⟩ := hO2.nm.shape; rfl) hO2.one fun w3 h3 hs3 hS3 => ?_
    rw [i64_id (n := (j : Int) + 1) (by omega) (by omega)]
    have hv2 : v2.ownBlock ≠ some ad.block := by
      rcases hm2 with h | h
      · rw [h]; exact hW.1.2.2
      · intro hh; have := h _ hh; have := hW.1.1.lt; omega
    have hO3 : ON .u8 eB w3 0 v2 (xs ++ (yss.take j).flatten ++ yss[j]) := hO2.ch h3 fun g i hg hh => hv2 (by rw [hg, hh.1])
    refine ⟨⟨j + 1, by omega, hlt', v2, hW.trans ⟨⟨by simpa using hS3, ?_, hv2⟩, Ch.trans (hc2.mono fun _ _ _ h => .inr h) h3 fun n i _ hh => .inl hh.1, hm2⟩⟩, by dsimp only; omega⟩
    rw [hfl, ← List.append_assoc]; exact hO3
  · have : j = yss.length := by omega
    subst this
    rw [List.take_length] at hW; exact hW
theorem Raw_any {ad : Addr} {v p : Value} {xs : List Int} {yss : List (List Int)} {w : World} (h : W1 w ad v xs) (hp : Stab (Ft ad v) w fun w' => NL .u8 w' p yss) (hl : xs.length + yss.flatten.length ≤ 10000000000) (hn : yss.length ≤ 10000000000) :
    Calls P n_num_Writer_Raw #[.pointer (some ad), p] w (fun e w' => e = .returned (.tuple #[]) ∧ ∃ v', WS w w' ad v v' (xs ++ yss.flatten)) := by
  refine of_num_Writer_Raw (gNe_pnil (gIf_t (gNil_some ?_)))
  rw [Addr.add_zero']
  exact gCall_u (put_any h hp hl hn) fun w' hw => ⟨rfl, hw⟩
/-- A list of one. -/
theorem NL.one {k : IntKind} {B : Nat} {e : TypeId} {w : World} {p x : Value} {xs : List Int} (h : w.ownsRow B e 1 p 1 [x]) (hx : Nm k w x xs) : NL k w p [xs] :=
  ⟨[x], Sl.of_own h, fun i u ys hu hy => by
    cases i with
    | zero => simp at hu hy; subst hu; subst hy; exact hx
    | succ i => simp at hu⟩
/-- One part more. -/
theorem raw1_any {ad : Addr} {v x : Value} {xs ys : List Int} {w : World} {K : World → Prop} (h : W1 w ad v xs) (hx : Stab (Ft ad v) w fun w' => Nm .u8 w' x ys) (hl : xs.length + ys.length ≤ 10000000000) (hk : ∀ v' w', WS w w' ad v v' (xs ++ ys) → K w') :
    gLit P t_sl_sl_uint8 1 #[(0, x)] w fun (p : Value) w1 => gCall P n_num_Writer_Raw shU #[.pointer (some ad), p] w1 K := by
  refine gLit_1 [x] rfl rfl (by decide) (by simpa using hx.now.one) fun p w1 h1 hp => gCall_u (Raw_any (yss := [ys]) (h.ev h1) ?_ (by simpa using hl) (by simp)) ?_
  · intro w2 h2
    have hx2 : Nm .u8 w2 x ys := hx w2 (Ch.trans (h1.mono fun _ _ _ h => h.elim) h2 fun _ _ _ h => h)
    have hb : ∀ g, p.ownBlock = some g → w.heap.size ≤ g := fun g hg => (hp.lt g hg).1
    refine NL.one (B := 0) (e := elOf P t_sl_sl_uint8) ?_ hx2
    refine ⟨rfl, ?_⟩
    rcases hp.2 with ⟨_, h0⟩ | ⟨g, cap, cur, hv, hbg, hg, r⟩
    · cases h0
    · refine .inr ⟨g, cap, cur, hv, Nat.zero_le _, ?_, r⟩
      rw [h2.blk g (hlt hg) fun i hh => ?_]; exact hg
      have := hb g (by rw [hv]; rfl)
      have := h.lt (k := g) (i := i) hh; omega
  · rintro w2 ⟨v', hW⟩
    exact hk v' w2 (WrS.pre h1 (by simpa using hW))
/-- One byte more. -/
theorem rawb_any {ad : Addr} {v : Value} {xs : List Int} {x : Int} {w : World} {K : World → Prop} (h : W1 w ad v xs) (hx : 0 ≤ x ∧ x < 256) (hl : xs.length + 1 ≤ 10000000000) (hk : ∀ v' w', WS w w' ad v v' (xs ++ [x]) → K w') :
    gLit P t_sl_uint8 1 #[(0, .int .u8 x)] w fun (y : Value) w1 => gLit P t_sl_sl_uint8 1 #[(0, y)] w1 fun (p : Value) w2 => gCall P n_num_Writer_Raw shU #[.pointer (some ad), p] w2 K :=
  gLit_n (k := .u8) [x] rfl rfl (by decide) (fun y hy => by simp at hy; subst hy; exact u8i hx) fun y w1 h1 hy => raw1_any (h.ev h1) (hy.nm.stab fun g i hg hlt hf => by
    have := (hy.base hg).1; have := h.lt (k := g) (i := i) hf; omega) (by simpa using hl) fun v' w' hW => hk v' w' (WrS.pre h1 hW)
def numB (v : Nat) : List Int := if v < 128 then [(v : Int)] else ((v % 128 + 128 : Nat) : Int) :: numB (v / 128)
theorem numB_lt {v : Nat} (h : v < 128) : numB v = [(v : Int)] := by rw [numB, if_pos h]
theorem numB_ge {v : Nat} (h : ¬ v < 128) : numB v = ((v % 128 + 128 : Nat) : Int) :: numB (v / 128) := by rw [numB, if_neg h]
theorem numB_len : ∀ (k v : Nat), v < 128 ^ (k + 1) → (numB v).length ≤ k + 1
  | 0, v, h => by rw [numB_lt (by simpa using h)]; simp
  | k + 1, v, h => by
    by_cases hv : v < 128
    · rw [numB_lt hv]; simp
    · rw [numB_ge hv]
      have : v / 128 < 128 ^ (k + 1) := by rw [Nat.div_lt_iff_lt_mul (by decide)]; rwa [Nat.pow_succ] at h
      have := numB_len k (v / 128) this
      simp; omega
theorem Num_any {ad : Addr} {v : Value} {xs : List Int} {n : Int} {w : World} (h : W1 w ad v xs) (hn : 0 ≤ n ∧ n < 18446744073709551616) (hl : xs.length + 10 ≤ 10000000000) :
    Calls P n_num_Writer_Num #[.pointer (some ad), .int .u64 n] w (fun e w' => e = .returned (.tuple #[]) ∧ ∃ v', WS w w' ad v v' (xs ++ numB n.toNat)) := by
  have h10 := numB_len 9 n.toNat (by rw [show (128 : Nat) ^ (9 + 1) = 1180591620717411303424 by decide]; omega)
  refine of_num_Writer_Num ⟨fun m w1 => ∃ (q : Nat) (ys : List Int) (v' : Value), m = q ∧ q < 18446744073709551616 ∧ numB n.toNat = ys ++ numB q ∧ WS w w1 ad v v' (xs ++ ys), fun m _ => m.toNat, ⟨n.toNat, [], v, by omega, by omega, by simp, by simpa using h.step⟩, ?_⟩
  rintro _ m w1 ⟨q, ys, v', rfl, hq, hnb, hW⟩
  refine gIf_dec (fun hge => ?_) (fun hlt => ?_)
  · have e1 : iOr .u8 (u8 (q : Int)) 128 = ((q % 128 + 128 : Nat) : Int) := by
      have h1 : u8 (q : Int) = ((q % 256 : Nat) : Int) := by rw [u8_def, Int.natCast_emod]; rfl
      rw [h1]
      have h2 := iOr_nat (k := .u8) rfl (a := q % 256) (b := 128) (by rw [bits8]; omega) (by decide)
      have h3 : ∀ a : Nat, a < 256 → a ||| 128 = a % 128 + 128 := by decide +kernel
      rw [show ((128 : Nat) : Int) = 128 from rfl] at h2
      rw [h2, h3 _ (by omega)]; omega
    rw [e1]
    rw [numB_ge (v := q) (by omega)] at hnb
    have hlen := congrArg List.length hnb
    simp only [List.length_append, List.length_cons] at hlen
    have e2 : iShr .u64 (q : Int) 7 = ((q / 128 : Nat) : Int) := by
      have := iShr_div (k := .u64) (a := (q : Int)) (n := 7) (by decide) (by omega)
      rw [show ((7 : Nat) : Int) = 7 from rfl] at this
      rw [this, Int.natCast_ediv]
    rw [e2]
    refine rawb_any hW.1 (by omega) (by rw [List.length_append]; omega) fun v2 w2 hW2 => ⟨⟨q / 128, ys ++ [((q % 128 + 128 : Nat) : Int)], v2, rfl, by omega, ?_, ?_⟩, by dsimp only; omega⟩
    · rw [hnb]; simp
    · rw [← List.append_assoc]; exact hW.trans hW2
  · have h1 : u8 (q : Int) = q := u8_id (by omega) (by omega)
    rw [h1]
    rw [numB_lt (v := q) (by omega)] at hnb
    have hlen := congrArg List.length hnb
    simp only [List.length_append, List.length_cons] at hlen
    refine rawb_any hW.1 (by omega) (by rw [List.length_append]; omega) fun v2 w2 hW2 => ⟨rfl, v2, ?_⟩
    rw [hnb, ← List.append_assoc]; exact hW.trans hW2
theorem Bytes_W {ad : Addr} {v : Value} {xs : List Int} {w : World} (h : W1 w ad v xs) (hl : xs.length ≤ 10000000000) :
    Calls P n_num_Writer_Bytes #[.pointer (some ad)] w (fun e w' => ∃ y, e = .returned y ∧ Ev w w' ∧ ON .u8 eB w' w.heap.size y xs) := by
  refine of_num_Writer_Bytes (gEq_pnil (gIf_f (gNil_some ?_)))
  rw [Addr.add_zero', Addr.add_zero']
  refine gLoad_v (v := v) (by have := h.1.cell (j := 0) rfl; rwa [Addr.add_zero'] at this) (gApp_on (ON.nil .u8 eB w w.heap.size) h.2.1.nm (by simp; omega) (Nat.le_refl _) fun y w' hy hc hm => ⟨y, rfl, ?_, by simpa using hy⟩)
  exact hc.mono fun _ _ _ hh => by cases hh
end Go.Proofs.YtijimpchglmkhaaV

/- Package num: Text, Zig, Little, Big; folding. -/
namespace Go.Proofs.YtijimpchglmkhaaV
open Go Go.RowKit

def foldI (v : Int) : Int := if v ≥ 0 then 2 * v else -2 * v - 1
def unfoldI (u : Int) : Int := if u % 2 = 0 then u / 2 else -(u / 2) - 1
theorem foldI_rng {v : Int} (h : -9223372036854775808 ≤ v ∧ v ≤ 9223372036854775807) : 0 ≤ foldI v ∧ foldI v < 18446744073709551616 := by unfold foldI; split <;> omega
theorem unfoldI_rng {u : Int} (h : 0 ≤ u ∧ u < 18446744073709551616) : -9223372036854775808 ≤ unfoldI u ∧ unfoldI u ≤ 9223372036854775807 := by unfold unfoldI; split <;> omega
theorem unfold_fold (v : Int) : unfoldI (foldI v) = v := by unfold foldI unfoldI; split <;> split <;> omega
theorem fold_unfold {u : Int} (h : 0 ≤ u) : foldI (unfoldI u) = u := by unfold foldI unfoldI; split <;> split <;> omega
theorem xor_ones {k : IntKind} {a : Nat} (ha : a < 2 ^ k.bits) : iXor k (a : Int) (-1) = k.wrap ((2 ^ k.bits - 1 - a : Nat) : Int) := by
  unfold iXor
  have h1 : BitVec.ofInt k.bits (-1) = BitVec.allOnes k.bits := by cases k <;> decide
  rw [h1, BitVec.xor_allOnes, BitVec.toNat_not, ofInt_nat, BitVec.toNat_ofNat, Nat.mod_eq_of_lt ha]
theorem xor_zero {k : IntKind} (a : Int) (h : k.wrap a = a) (h0 : 0 ≤ a) (ha : a < 2 ^ k.bits) : iXor k a 0 = a := by
  obtain ⟨a, rfl⟩ := Int.eq_ofNat_of_zero_le h0
  unfold iXor
  have h1 : BitVec.ofInt k.bits 0 = 0#k.bits := rfl
  rw [h1, BitVec.xor_zero, ofInt_nat, BitVec.toNat_ofNat, Nat.mod_eq_of_lt (by exact_mod_cast ha), h]
theorem numB_len64 {n : Nat} (h : n < 18446744073709551616) : (numB n).length ≤ 10 := numB_len 9 n (by rw [show (128 : Nat) ^ (9 + 1) = 1180591620717411303424 by decide]; omega)
theorem Text_any {ad : Addr} {v b : Value} {xs ys : List Int} {w : World} (h : W1 w ad v xs) (hb : Stab (Ft ad v) w fun w' => Nm .u8 w' b ys) (hl : xs.length + ys.length + 10 ≤ 10000000000) :
    Calls P n_num_Writer_Text #[.pointer (some ad), b] w (fun e w' => e = .returned (.tuple #[]) ∧ ∃ v', WS w w' ad v v' (xs ++ numB ys.length ++ ys)) := by
  refine of_num_Writer_Text (gLen_nm hb.now ?_)
  rw [show u64 (ys.length : Int) = ys.length by rw [u64_def]; omega]
  refine gCall_u (Num_any h (by omega) (by omega)) fun w1 ⟨v1, hW⟩ => ?_
  have := numB_len64 (n := ys.length) (by omega)
  rw [Int.toNat_natCast] at hW
  refine raw1_any hW.1 (fun w2 h2 => hb w2 (Ch.trans hW.2.1 h2 fun n i hn hf => ?_)) (by rw [List.length_append]; omega) fun v2 w2 hW2 => ⟨rfl, v2, hW.trans hW2⟩
  rcases hf with hf | hf
  · exact .inl hf
  · rcases hW.2.2 with hm | hm
    · exact .inr (hm ▸ hf)
    · have := hm n hf; omega
def clN (n : Int) : Nat := (if 8 < n then 8 else n).toNat
theorem clN_le (n : Int) : clN n ≤ 8 := by unfold clN; split <;> omega
theorem cl1 (n : Int) : (if 0 > (if 8 < n then 8 else n) then 0 else (if 8 < n then 8 else n)) = (clN n : Int) := by unfold clN; split <;> split <;> omega
theorem cl2 (n : Int) : (if (if 8 < n then 8 else n) > 0 then (if 8 < n then 8 else n) else 0) = (clN n : Int) := by unfold clN; split <;> split <;> omega
def byteAt (v : Int) (k : Nat) : Int := v / ((2 ^ (8 * k) : Nat) : Int) % 256
def littleB (v : Int) : Nat → List Int
  | 0 => []
  | k + 1 => littleB v k ++ [byteAt v k]
def bigB (v : Int) : Nat → List Int
  | 0 => []
  | k + 1 => byteAt v k :: bigB v k
theorem littleB_len (v : Int) : ∀ k, (littleB v k).length = k
  | 0 => rfl
  | k + 1 => by simp [littleB, littleB_len v k]
theorem bigB_len (v : Int) : ∀ k, (bigB v k).length = k
  | 0 => rfl
  | k + 1 => by simp [bigB, bigB_len v k]
theorem byteAt_rng (v : Int) (k : Nat) : 0 ≤ byteAt v k ∧ byteAt v k < 256 := by unfold byteAt; omega
theorem shr8 {v : Int} {j : Nat} (hv : 0 ≤ v) (hj : j ≤ 8) : u8 (iShr .u64 v (i64 (8 * (j : Int)))) = byteAt v j := by
  rw [show i64 (8 * (j : Int)) = ((8 * j : Nat) : Int) by rw [i64_id (by omega) (by omega)]; omega, iShr_div (by have : IntKind.u64.bits = 64 := rfl; omega) hv, u8_def]; rfl
/-! ### A nil writer -/
theorem Raw_nil {p : Value} {w : World} : Calls P n_num_Writer_Raw #[.pointer none, p] w (fun e w' => e = .returned (.tuple #[]) ∧ w' = w) := of_num_Writer_Raw (gNe_pnil (gIf_f ⟨rfl, rfl⟩))
theorem raw1_nil {x : Value} {w : World} {K : World → Prop} (hx : x.cells = #[x]) (hk : ∀ w', Ev w w' → K w') : gLit P t_sl_sl_uint8 1 #[(0, x)] w fun (p : Value) w1 => gCall P n_num_Writer_Raw shU #[.pointer none, p] w1 K :=
  gLit_1 [x] rfl rfl (by decide) (by simpa using hx) fun p w1 h1 hp => gCall_u Raw_nil fun w2 e => by rw [e]; exact hk w1 h1
theorem rawb_nil {x : Int} {w : World} {K : World → Prop} (hx : 0 ≤ x ∧ x < 256) (hk : ∀ w', Ev w w' → K w') : gLit P t_sl_uint8 1 #[(0, .int .u8 x)] w fun (y : Value) w1 => gLit P t_sl_sl_uint8 1 #[(0, y)] w1 fun (p : Value) w2 => gCall P n_num_Writer_Raw shU #[.pointer none, p] w2 K :=
  gLit_n (k := .u8) [x] rfl rfl (by decide) (fun y hy => by simp at hy; subst hy; exact u8i hx) fun y w1 h1 hy => raw1_nil hy.one fun w2 h2 => hk w2 (h1.trans h2)
theorem iOr_u8 (a b : Int) : 0 ≤ iOr .u8 a b ∧ iOr .u8 a b < 256 := by unfold iOr; show 0 ≤ u8 _ ∧ u8 _ < 256; rw [u8_def]; omega
theorem Num_nil {n : Int} {w : World} (hn : 0 ≤ n) : Calls P n_num_Writer_Num #[.pointer none, .int .u64 n] w (fun e w' => e = .returned (.tuple #[]) ∧ Ev w w') := by
  refine of_num_Writer_Num ⟨fun m w1 => 0 ≤ m ∧ Ev w w1, fun m _ => m.toNat, ⟨hn, Ch.refl _ w⟩, ?_⟩
  rintro _ m w1 ⟨hm, h1⟩
  refine gIf_dec (fun hge => rawb_nil (iOr_u8 _ _) fun w2 h2 => ?_) (fun hlt => rawb_nil (by rw [u8_def]; omega) fun w2 h2 => ⟨rfl, h1.trans h2⟩)
  have e2 : iShr .u64 m 7 = m / 128 := by
    have := iShr_div (k := .u64) (a := m) (n := 7) (by decide) (by omega)
    rw [show ((7 : Nat) : Int) = 7 from rfl] at this
    rw [this]; rfl
  rw [e2]
  exact ⟨⟨by omega, h1.trans h2⟩, by dsimp only; omega⟩
theorem Text_nil {b : Value} {ys : List Int} {w : World} (hb : Nm .u8 w b ys) : Calls P n_num_Writer_Text #[.pointer none, b] w (fun e w' => e = .returned (.tuple #[]) ∧ Ev w w') :=
  of_num_Writer_Text (gLen_nm hb (gCall_u (Num_nil (by rw [u64_def]; omega)) fun w1 h1 => raw1_nil hb.one fun w2 h2 => ⟨rfl, h1.trans h2⟩))
theorem Bytes_nil {w : World} : Calls P n_num_Writer_Bytes #[.pointer none] w (fun e w' => e = .returned (.slice none 0 0) ∧ w' = w) := of_num_Writer_Bytes (gEq_pnil (gIf_t ⟨rfl, rfl⟩))
end Go.Proofs.YtijimpchglmkhaaV
