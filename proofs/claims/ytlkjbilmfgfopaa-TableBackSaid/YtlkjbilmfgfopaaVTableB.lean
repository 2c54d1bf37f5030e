/- Package table: Pack and Unpack; the law TableBack. -/
import Derived.Test.YtlkjbilmfgfopaaVTableA
import Derived.Test.YtlkjbilmfgfopaaVColourA
import Derived.Test.YtlkjbilmfgfopaaVNumL2
namespace Go.Proofs.YtlkjbilmfgfopaaV
open Go Go.RowKit
theorem undAt_rng {xs : List Int} (hx : inR .u8 xs) (W i : Nat) : 0 ≤ undAt xs W i ∧ undAt xs W i < 256 := by
  rw [undAt]; split
  · exact rd_u8 hx _
  · omega
theorem und_delta {xs : List Int} (hx : inR .u8 xs) {W : Nat} (hW : 1 ≤ W) : ∀ i, i < xs.length → undAt (deltaL xs W) W i = rd xs i := by
  intro i
  induction i using Nat.strongRecOn with
  | _ i ih =>
    intro hi
    rw [undAt]
    have h0 := rd_u8 hx i
    by_cases h : i < W
    · rw [dif_pos (.inl h)]; unfold deltaL; rw [rd_tab hi, if_pos h]
    · rw [dif_neg (by omega), ih (i - W) (by omega) (by omega)]
      unfold deltaL; rw [rd_tab hi, if_neg h]; omega
theorem undelta_delta {xs : List Int} (hx : inR .u8 xs) {W : Nat} (hW : 1 ≤ W) : undeltaL (deltaL xs W) W = xs := by
  unfold undeltaL
  have hl : (deltaL xs W).length = xs.length := tab_len _ _
  rw [hl]
  conv => rhs; rw [← tab_rd xs]
  exact tab_ext fun i hi => und_delta hx hW i hi
theorem delta_undelta {xs : List Int} (hx : inR .u8 xs) {W : Nat} (hW : 1 ≤ W) : deltaL (undeltaL xs W) W = xs := by
  unfold deltaL
  have hl : (undeltaL xs W).length = xs.length := tab_len _ _
  rw [hl]
  conv => rhs; rw [← tab_rd xs]
  refine tab_ext fun i hi => ?_
  have h0 := rd_u8 hx i
  unfold undeltaL
  by_cases h : i < W
  · rw [if_pos h, rd_tab hi, undAt, dif_pos (.inl h)]
  · rw [if_neg h, rd_tab hi, rd_tab (by omega), undAt, dif_neg (by omega)]
    have := undAt_rng hx W (i - W); omega
theorem widI_bd (xs : List Int) : widI xs = 0 ∨ (2 ≤ widI xs ∧ widI xs ≤ 16 ∧ 4 * widI xs ≤ xs.length) := by
  have : ∀ W, (widN xs W).1 = 0 ∨ (2 ≤ (widN xs W).1 ∧ (widN xs W).1 < W ∧ 4 * (widN xs W).1 ≤ xs.length) := by
    intro W
    induction W with
    | zero => simp [widN]
    | succ W ih =>
      rw [widN]; split
      · exact .inr ⟨by dsimp only; omega, by dsimp only; omega, by dsimp only; omega⟩
      · rcases ih with h | h
        · exact .inl h
        · exact .inr ⟨h.1, by omega, h.2.2⟩
  have h := this 17
  unfold widI; omega
def packOk (xs : List Int) : Bool := decide (widI xs ≠ 0) && decide (xs.length ≤ 1048576)
def packL (xs : List Int) : List Int := numB (widI xs).toNat ++ numB xs.length ++ apartL (deltaL xs (wOf (widI xs))) (cl16 (widI xs))
theorem deltaL_len (xs : List Int) (W : Nat) : (deltaL xs W).length = xs.length := tab_len _ _
theorem packL_len {xs : List Int} (h : xs.length ≤ 1048576) : (packL xs).length ≤ 20 + xs.length := by
  have h1 := numB_len64 (n := (widI xs).toNat) (by have := widI_bd xs; omega)
  have h2 := numB_len64 (n := xs.length) (by omega)
  unfold packL
  rw [List.length_append, List.length_append, apartL_len, deltaL_len]; omega
def PackE (w : World) (xs : List Int) (e : Ending) (w' : World) : Prop := Ev w w' ∧ if packOk xs then ∃ v, e = .returned (.tuple #[v, .bool true]) ∧ ON .u8 eB w' w.heap.size v (packL xs) else e = .returned (.tuple #[.slice none 0 0, .bool false])
theorem Pack_any {b : Value} {xs : List Int} {w : World} (hb : Nm .u8 w b xs) (hl : xs.length ≤ 1000000000) : Calls P n_table_Pack #[b] w (PackE w xs) := by
  refine of_table_Pack (gCall_i (Width_any hb hl) fun w1 h1 => ?_)
  have hwb := widI_bd xs
  refine ⟨fun w' => packOk xs = true ∧ w' = w1, gIf_neqq (fun hne => gLen_nm hb (gIf_dec (fun hg => ⟨h1, ?_⟩) (fun hle => ⟨?_, rfl⟩))) (fun h0 => ⟨h1, ?_⟩), ?_⟩
  · rw [if_neg (by simp [packOk]; omega)]
  · simp [packOk, hne]; omega
  · rw [if_neg (by simp [packOk, h0])]
  rintro _ _ ⟨hok, rfl⟩
  have hok2 : widI xs ≠ 0 ∧ xs.length ≤ 1048576 := by simpa [packOk] using hok
  have hw2 : 2 ≤ widI xs ∧ widI xs ≤ 16 := by omega
  have fin : ∀ {z : Value} {w' : World}, Ev w w' → ON .u8 eB w' w.heap.size z (packL xs) → PackE w xs (.returned (.tuple #[z, .bool true])) w' := fun {z w'} a b => ⟨a, by rw [if_pos hok]; exact ⟨z, rfl, b⟩⟩
  have l1 := numB_len64 (n := (widI xs).toNat) (by omega)
  have l2 := numB_len64 (n := xs.length) (by omega)
  rename_i w1
  refine newW (Ch.refl _ w1) fun ad w2 h2 => ?_
  rw [show u64 (widI xs) = widI xs by rw [u64_def]; omega]
  refine lNum h2 (by omega) (by simp) fun w3 h3 => gLen_nm hb ?_
  rw [show u64 (xs.length : Int) = xs.length by rw [u64_def]; omega]
  refine lNum h3 (by omega) (by rw [List.nil_append]; omega) fun w4 h4 => ?_
  obtain ⟨v, hv, e4, ha4, hv4⟩ := h4
  rw [List.nil_append, Int.toNat_natCast] at hv
  refine gCall_v (Delta_any (hb.ev (h1.trans e4)) hl (by omega)) fun d w5 ⟨h5, od⟩ => gCall_v (Apart_any od.nm (by rw [deltaL_len]; exact hl)) fun y w6 ⟨h6, oy⟩ => ?_
  have e46 : Ev w4 w6 := h5.trans h6
  have hlt4 : ∀ {g i : Nat}, Ft ad v g i → g < w4.heap.size := fun hf => hv.lt hf
  refine raw1_any (hv.ev e46) (oy.nm.stab fun g i hg _ hf => ?_) (by rw [List.length_append, apartL_len, deltaL_len]; omega) fun v2 w7 hW => ?_
  · have := (oy.base hg).1; have := hlt4 (i := i) hf; have := h5.size; omega
  have hF : FW w1 w7 ad _ := FW.to (e4.trans e46) ha4 hv4 ⟨v2, hW⟩
  refine lBytes hF (by rw [List.length_append, List.length_append, apartL_len, deltaL_len]; omega) fun z w8 h8 oz => fin (h1.trans (hF.old.trans h8)) (oz.low ?_)
  exact Nat.le_trans h1.size (hF.old.size)
/-- What Unpack tells. -/
def unpackT (x : List Int) (most : Int) : List Int × Int :=
  let p := numR x 0 0 18446744073709551615
  let q := numR x p.2.1 p.2.2 18446744073709551615
  if q.2.2 ≠ 0 then ([], q.2.2)
  else if p.1 < 2 ∨ p.1 > 16 then ([], 4)
  else if q.1 > (if 0 > most then 0 else most) ∨ q.1 > 1048576 then ([], 5)
  else if (x.length : Int) - q.2.1 ≠ q.1 then ([], 4)
  else (undeltaL (togetherL (rawR x q.2.1 0 q.1).1 (cl16 p.1)) (wOf p.1), 0)
theorem Unpack_any {x : Value} {xs : List Int} {most : Int} {w : World} (hx : Nm .u8 w x xs) (hl : xs.length ≤ 1000000000) (hm : most ≤ 9223372036854775807) : Calls P n_table_Unpack #[x, .int .i64 most] w (TupE w (unpackT xs most)) := by
  refine of_table_Unpack (gCall_of (rNew_any hx (by omega)) ?_)
  rintro _ w1 ⟨ad, y, rfl, h1, had, hR⟩
  refine ⟨some ad, rfl, gAlloc_of (z := .agg #[.pointer none]) (by kernel_rfl) fun u6 w2 h2 hu6 _ hS => gStore_agg0 hS (by simp [Value.cells]) (by simp; rfl) (fun w3 h3 _ hS3 => ?_) (by kernel_rfl)⟩
  have e3 : Ev w1 w3 := h2.new h3 fun n i hh => by rw [hh.1, hu6]; exact Nat.le_refl _
  have hub : u6.block = w1.heap.size := by rw [hu6]
  have hadlt := hR.1.lt
  have hSu : St w3 u6 [.pointer (some ad)] := hS3
  have hR3 := hR.ev e3
  -- a step of the reader leaves the struct
  have keep : ∀ {wa wb : World} {a : Nat} {er : Int}, St wa u6 [.pointer (some ad)] → RS wa wb ad y xs a er → St wb u6 [.pointer (some ad)] := fun h hs => h.ch hs.2 fun _ _ hh => by have := hh.1; omega
  have p1 := numR_rng (xs := xs) (a := 0) (er := 0) (most := 18446744073709551615) hx.2
  unfold unpackT
  refine ⟨fun w' => St w' u6 [.pointer (some ad)], hSu.drew, ?_⟩
  rw [Addr.add_zero']
  have c0 : ∀ {w' : World}, St w' u6 [.pointer (some ad)] → w'.cell? u6 = some (.pointer (some ad)) := fun h => by have := h.cell (j := 0) rfl; rwa [Addr.add_zero'] at this
  refine gLoadB_p (fun w' h => c0 h) (gLoadB_p (fun w' h => c0 h) (gCall_i (rNum_any hR3.drew) fun w4 h4 => ?_))
  dsimp only
  generalize numR xs 0 0 18446744073709551615 = p at *
  have p2 := numR_rng (xs := xs) (a := p.2.1) (er := p.2.2) (most := 18446744073709551615) hx.2
  have hS4 := keep hSu.drew h4
  refine ⟨hS4, gCall_i (rNum_any h4.1) fun w5 h5 => ?_⟩
  generalize numR xs p.2.1 p.2.2 18446744073709551615 = q at *
  have hS5 := keep hS4 h5
  have e5 : RS w3.drew w5 ad y xs q.2.1 q.2.2 := h4.trans h5
  have f5 : Ev w w5 := Ev.new (h1.trans e3).drew e5.2 fun n i hh => by rw [hh.1]; exact had
  refine ⟨hS5, fun w' => (q.2.2 = 0 ∧ ¬ (p.1 < 2 ∨ p.1 > 16) ∧ ¬ (q.1 > (if 0 > most then 0 else most) ∨ q.1 > 1048576) ∧ ¬ ((xs.length : Int) - q.2.1 ≠ q.1)) ∧ Rd w' ad y xs q.2.1 q.2.2 ∧ St w' u6 [.pointer (some ad)] ∧ Ev w w', ?_, ?_⟩
  · refine gLoad_p (c0 hS5) (gCall_i0 (rErr_any e5.1) (gIf_neq (fun hne => gLoad_p (c0 hS5) (gCall_i0 (rErr_any e5.1) ?_)) (fun he => ?_)))
    · rw [if_pos hne]; exact ⟨_, rfl, f5, ON.nil _ _ _ _⟩
    rw [if_neg (by omega)]
    refine ⟨fun t w' => t = decide (p.1 < 2 ∨ p.1 > 16) ∧ w' = w5, gIf_ndec (fun h => ⟨by simp only [h, false_or], rfl⟩) (fun h => ⟨by simp [h], rfl⟩), ?_⟩
    rintro _ t _ ⟨rfl, rfl⟩
    refine gIf_dec (fun h => ?_) (fun hw => ?_)
    · rw [if_pos h]; exact ⟨_, rfl, f5, ON.nil _ _ _ _⟩
    rw [if_neg hw]
    have hm0 : 0 ≤ (if 0 > most then 0 else most) ∧ (if 0 > most then 0 else most) ≤ 9223372036854775807 := by split <;> omega
    generalize (if 0 > most then 0 else most) = mm at *
    rw [show u64 mm = mm by rw [u64_def]; omega]
    refine gIf_ndec (fun h1' => gIf_dec (fun h2' => ?_) (fun h2' => ?_)) (fun h1' => ?_)
    · rw [if_pos (.inr h2')]; exact ⟨_, rfl, f5, ON.nil _ _ _ _⟩
    · have hno : ¬ (q.1 > mm ∨ q.1 > 1048576) := fun h => h.elim h1' h2'
      rw [if_neg hno]
      have hat := e5.1.2.2.2.1
      refine gLoad_p (c0 hS5) (gCall_i (rLeft_any e5.1) fun w6 h6 => ?_)
      rw [show u64 ((xs.length : Int) - q.2.1) = (xs.length : Int) - q.2.1 by rw [u64_def]; omega]
      refine gIf_neq (fun hne => ?_) (fun heq => ?_)
      · rw [if_pos hne]; exact ⟨_, rfl, f5.trans h6, ON.nil _ _ _ _⟩
      · exact ⟨⟨he, hw, hno, fun h => h heq⟩, e5.1.ev h6, hS5.ev h6, f5.trans h6⟩
    · rw [if_pos (.inl h1')]; exact ⟨_, rfl, f5, ON.nil _ _ _ _⟩
  · rintro _ w10 ⟨⟨he, hw, hno, hne⟩, hR10, hS10, h10⟩
    rw [if_neg (by omega), if_neg hw, if_neg hno, if_neg hne]
    have hq : q.1 ≤ 1048576 := by omega
    rw [i64_id (n := q.1) (by omega) (by omega), i64_id (n := p.1) (by omega) (by omega)]
    refine gLoad_p (c0 hS10) (gCall_of (rRaw_any hR10 (by omega)) ?_)
    rw [he]
    have hrl := rawR_len (xs := xs) (a := q.2.1) (er := 0) (n := q.1) (m := q.1.toNat) (by omega)
    generalize rawR xs q.2.1 0 q.1 = r at *
    rintro _ w11 ⟨z, rfl, h11, oz⟩
    have f11 : Ev w w11 := h10.new h11.2 fun n i hh => by rw [hh.1]; exact had
    refine ⟨z, rfl, gCall_v (Together_any oz.nm (by omega)) fun t w12 ⟨h12, ot⟩ => gCall_v (Undelta_any ot.nm (by rw [togetherL_len]; omega) (by omega)) fun u w13 ⟨h13, ou⟩ => ⟨u, rfl, f11.trans (h12.trans h13), ou.low ?_⟩⟩
    exact (f11.trans h12).size
end Go.Proofs.YtlkjbilmfgfopaaV
