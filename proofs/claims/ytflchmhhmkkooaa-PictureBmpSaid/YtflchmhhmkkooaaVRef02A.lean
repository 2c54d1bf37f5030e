/- Package valiseref02: Little, New, Raw, Little of a reader. -/
import Derived.Test.YtflchmhhmkkooaaVNumE
import Derived.Test.YtflchmhhmkkooaaVNodes6
namespace Go.Proofs.YtflchmhhmkkooaaV
open Go Go.RowKit
theorem byteAt_u8 (v : Int) (k : Nat) : 0 ≤ byteAt v k ∧ byteAt v k < 256 := by unfold byteAt; omega
theorem rfLittle_any {v n : Int} {w : World} (hv : 0 ≤ v) : Calls P n_valiseref02_Little #[.int .u64 v, .int .i64 n] w (NewB w (littleB v (clN n))) := by
  have hcn := clN_le n
  refine of_valiseref02_Little ⟨fun out i w' => ∃ j : Nat, i = j ∧ j ≤ clN n ∧ Fr w w' [oIt .u8 eB out (littleB v j)], fun _ i _ => clN n - i.toNat, ⟨0, rfl, by omega, (Fr.start w).nil0 _ _⟩, ?_⟩
  rintro _ out i w1 ⟨j, rfl, hj, f1⟩
  rw [cl2]
  refine gIf_dec (fun hlt => ?_) (fun hge => ?_)
  · rw [show u64 (i64 (8 * (j : Int))) = ((8 * j : Nat) : Int) by rw [i64_id (by omega) (by omega), u64_def]; omega]
    refine gBin_shr (by omega) ?_
    rw [iShr_div (by show 8 * j ≤ 64; omega) hv, u8_def]
    refine fLit_n [byteAt v j] f1 rfl rfl (fun x hx => by simp at hx; subst hx; exact u8i (byteAt_u8 v j)) fun l w2 f2 => fApp f2 1 rfl (f2.nm 0 rfl) (by rw [littleB_len]; simp; omega) fun o w3 f3 => ?_
    rw [i64_id (n := (j : Int) + 1) (by omega) (by omega)]
    exact ⟨⟨j + 1, rfl, by omega, f3.drop 0⟩, by dsimp only; omega⟩
  · obtain rfl : j = clN n := by omega
    exact ⟨out, rfl, f1.old, f1.on 0 rfl⟩
section
variable {w0 w : World} {F : List It} {xs : List Int} {ad : Addr} {y : Value} {a : Nat} {er : Int}
/-- A reader that is new: its struct, and its bytes. -/
theorem Fr.rd (h : Fr w0 w F) (i j : Nat) (hi : F[i]? = some (sIt ad [y, .int .i64 a, .int .i64 er])) (hj : F[j]? = some (oIt .u8 eB y xs)) (hn : i ≠ j) (ha : a ≤ xs.length) (hl : xs.length ≤ 10000000000) : Rd w ad y xs a er :=
  ⟨h.get i hi, h.nm j hj, fun hg => h.apart hi hj hn ad.block rfl hg, ha, hl⟩
theorem Fr.rs {w' : World} {a2 : Nat} {er2 : Int} (h : Fr w0 w F) (i : Nat) (hi : F[i]? = some (sIt ad [y, .int .i64 a, .int .i64 er])) (g : RS w w' ad y xs a2 er2) : Fr w0 w' (F.set i (sIt ad [y, .int .i64 a2, .int .i64 er2])) :=
  h.upd i hi g.2 (fun k _ hh => .inl hh.1) g.1.1 fun k hk => .inl hk
/-- What New hands back. -/
def NewR (w : World) (xs : List Int) (e : Ending) (w' : World) : Prop := ∃ ad y, e = .returned (.pointer (some ad)) ∧ ∀ {w0 F}, Fr w0 w F → Fr w0 w' (sIt ad [y, .int .i64 0, .int .i64 0] :: oIt .u8 eB y xs :: F)
theorem nNew_any {b : Value} {w : World} (hb : Nm .u8 w b xs) (hl : xs.length ≤ 10000000000) : Calls P n_num_New #[b] w (NewR w xs) := by
  refine of_num_New (gApp_on (ON.nil .u8 eB w w.heap.size) hb (by simp; omega) (Nat.le_refl _) fun y w1 hy hc hm => ⟨hy.one, gBox_of fun ad w2 h2 had hs hS => ?_⟩)
  have h1 : Ev w w1 := hc.mono fun _ _ _ hh => by cases hh
  exact ⟨ad, y, rfl, fun f => (f.newO h1 (by simpa using hy)).new h2 hS fun k hk => by have hk : k = ad.block := hk; subst had; dsimp only at hk; omega⟩
theorem rrNew_any {b : Value} {w : World} (hb : Nm .u8 w b xs) (hl : xs.length ≤ 10000000000) : Calls P n_valiseref02_New #[b] w (NewR w xs) := by
  refine of_valiseref02_New (gApp_on (ON.nil .u8 eB w w.heap.size) hb (by simp; omega) (Nat.le_refl _) fun y w1 hy hc hm => ⟨hy.one, gBox_of fun ad w2 h2 had hs hS => ?_⟩)
  have h1 : Ev w w1 := hc.mono fun _ _ _ hh => by cases hh
  exact ⟨ad, y, rfl, fun f => (f.newO h1 (by simpa using hy)).new h2 hS fun k hk => by have hk : k = ad.block := hk; subst had; dsimp only at hk; omega⟩
theorem fNew {b : Value} {K : Option Addr → World → Prop} (h : Fr w0 w F) (hb : Nm .u8 w b xs) (hl : xs.length ≤ 10000000000) (hk : ∀ ad y w', Fr w0 w' (sIt ad [y, .int .i64 0, .int .i64 0] :: oIt .u8 eB y xs :: F) → K (some ad) w') : gCall P n_num_New shP #[b] w K :=
  gCall_of (nNew_any hb hl) fun _ w' ⟨ad, y, h1, h2⟩ => ⟨some ad, h1, hk ad y w' (h2 h)⟩
theorem frNew {b : Value} {K : Option Addr → World → Prop} (h : Fr w0 w F) (hb : Nm .u8 w b xs) (hl : xs.length ≤ 10000000000) (hk : ∀ ad y w', Fr w0 w' (sIt ad [y, .int .i64 0, .int .i64 0] :: oIt .u8 eB y xs :: F) → K (some ad) w') : gCall P n_valiseref02_New shP #[b] w K :=
  gCall_of (rrNew_any hb hl) fun _ w' ⟨ad, y, h1, h2⟩ => ⟨some ad, h1, hk ad y w' (h2 h)⟩
theorem rrRaw_any {b : Value} {n : Int} {w : World} (h : Rd w ad b xs a er) (hn : n ≤ 9223372036854775807) : Calls P n_valiseref02_Reader_Raw #[.pointer (some ad), .int .i64 n] w (RawE w ad b xs (rawR xs a er n)) := by
  have hal := h.2.2.2.1
  have hxl := h.2.2.2.2
  refine of_valiseref02_Reader_Raw (gNil_some (gLoad_i (h.1.cell (j := 2) rfl) (gIf_neq (fun hne => ?_) (fun he => ?_))))
  · unfold rawR; rw [if_pos (.inl hne)]; exact ⟨_, rfl, h.step, ON.nil _ _ _ _⟩
  subst he
  refine gNil_some (gLoadB_v (at1 (h.1.cell (j := 0) rfl)) (gLen_nm h.2.1 (gNil_some (gLoadB_i (at1 (h.1.cell (j := 1) rfl)) ?_))))
  rw [i64_id (n := (xs.length : Int) - a) (by omega) (by omega)]
  have hraw : rawR xs a 0 n = if (if 0 > n then 0 else n) > (xs.length : Int) - a then ([], a, 3) else ((xs.drop a).take (if 0 > n then 0 else n).toNat, a + (if 0 > n then 0 else n).toNat, 0) := by
    unfold rawR
    by_cases hn0 : n ≤ 0
    · rw [if_pos (.inr hn0)]
      have : (if 0 > n then 0 else n) = 0 := by split <;> omega
      rw [this, if_neg (by omega)]; simp
    · rw [if_neg (by omega), if_neg (show ¬ 0 > n by omega)]
  rw [hraw]
  have hm0 : 0 ≤ (if 0 > n then 0 else n) := by split <;> omega
  generalize (if 0 > n then 0 else n) = m at *
  refine gIf_dec (fun hg => ?_) (fun hle => ?_)
  · rw [if_pos hg]
    refine gNil_some (gStore_st h.drew.1 (j := 2) (by simp) rfl rfl fun w2 h2 _ hS2 => ⟨_, rfl, ?_, ON.nil _ _ _ _⟩)
    exact RS.pre (Ev.drew0 w) (h.drew.set (j := 2) (a2 := a) (er2 := 3) (by decide) h2 hS2 rfl hal)
  · rw [if_neg hle]
    obtain ⟨m, rfl⟩ : ∃ q : Nat, m = q := ⟨m.toNat, by omega⟩
    rw [Int.toNat_natCast]
    refine gNil_some (gLoad_i (h.drew.1.cell (j := 1) rfl) (gNil_some (gStore_st h.drew.1 (j := 1) (by simp) rfl rfl fun w2 h2 hs2 hS2 => ?_)))
    have hRS : RS w w2 ad b xs (a + m) 0 := RS.pre (Ev.drew0 w) <| h.drew.set (j := 1) (a2 := a + m) (er2 := 0) (by decide) h2 hS2 (by rw [i64_id (by omega) (by omega)]; rfl) (by omega)
    have hR := hRS.1.drew
    refine ⟨fun w' => Rd w' ad b xs (a + m) 0, hR, gNil_some (gLoadB_v (fun w' h => h.1.cell (j := 0) rfl) (gNil_some (gLoadB_i (fun w' h => h.1.cell (j := 1) rfl) (gNil_some (gLoadB_i (fun w' h => h.1.cell (j := 1) rfl) ?_)))))⟩
    rw [show i64 (((a + m : Nat) : Int) - (m : Int)) = (a : Int) by rw [i64_id (by omega) (by omega)]; omega]
    refine gSlice_nm hR.2.1 a (a + m) (.inr ⟨_, rfl⟩) (.inr ⟨_, rfl⟩) (by omega) (by omega) fun hs => ?_
    rw [Nat.add_sub_cancel_left] at hs
    refine gApp_on (ON.nil .u8 eB w2.drew w.heap.size) hs (by rw [List.length_take, List.length_drop]; simp; omega) (Nat.le_of_eq hs2.symm) fun y w3 hy hc hm => ?_
    have h3 : Ev w2.drew w3 := hc.mono fun _ _ _ hh => by cases hh
    exact ⟨hR.ev h3, y, rfl, RS.ev hRS ((Ev.drew0 w2).trans h3), by simpa using hy⟩
theorem shl8 {v : Int} (h0 : 0 ≤ v) (h : v < 72057594037927936) : iShl .u64 v 8 = v * ((2 ^ 8 : Nat) : Int) := by
  have e64 : ((2 ^ IntKind.u64.bits : Nat) : Int) = 18446744073709551616 := rfl
  have e8 : ((2 ^ 8 : Nat) : Int) = 256 := rfl
  have := iShl_u (k := .u64) (n := 8) rfl (by decide) h0
  rw [e64, e8, Int.emod_eq_of_lt (by omega) (by omega)] at this
  exact this
theorem leN_drop {ys : List Int} {j : Nat} (hj : j < ys.length) : leN (ys.drop j) = rd ys j + 256 * leN (ys.drop (j + 1)) := by
  rw [List.drop_eq_getElem_cons hj, leN, rd_nat ys j hj]
theorem rrLittle_any {b : Value} {n : Int} {w : World} (h : Rd w ad b xs a er) : Calls P n_valiseref02_Reader_Little #[.pointer (some ad), .int .i64 n] w (U64E w ad b xs (leN (rawR xs a er (if 8 < n then 8 else n)).1) (rawR xs a er (if 8 < n then 8 else n))) := by
  have hn8 : (if 8 < n then 8 else n) ≤ 8 := by split <;> omega
  refine of_valiseref02_Reader_Little ?_
  generalize (if 8 < n then 8 else n) = m at *
  refine gCall_of (rrRaw_any h (by omega)) ?_
  have hlen := rawR_len (xs := xs) (a := a) (er := er) (n := m) (m := 8) (by omega)
  rintro _ w1 ⟨y, rfl, h1, hy⟩
  generalize rawR xs a er m = r at *
  refine ⟨y, rfl, gLen_nm hy.nm ⟨fun v i w' => ∃ j : Nat, i = (j : Int) - 1 ∧ j ≤ r.1.length ∧ v = leN (r.1.drop j) ∧ w1 = w', fun _ i _ => (i + 1).toNat, ⟨r.1.length, by rw [i64_id (by omega) (by omega)], Nat.le_refl _, by rw [List.drop_of_length_le (Nat.le_refl _)]; rfl, rfl⟩, ?_⟩⟩
  rintro _ v i _ ⟨j, rfl, hj, rfl, rfl⟩
  refine gIf_dec (fun hlt => gIdx_nm hy.nm (by omega) (by omega) fun a1 c1 _ => gLoad_i c1 ?_) (fun hge => ?_)
  · obtain ⟨j, rfl⟩ : ∃ q, j = q + 1 := ⟨j - 1, by omega⟩
    rw [show ((j + 1 : Nat) : Int) - 1 = j by omega]
    have hc := rd_u8 hy.2 j
    have hb := leN_bd (hy.2.drop (j + 1))
    have hp : ((2 ^ (8 * (r.1.drop (j + 1)).length) : Nat) : Int) ≤ ((72057594037927936 : Nat) : Int) := by
      rw [List.length_drop]
      exact Int.ofNat_le.2 (Nat.le_trans (Nat.pow_le_pow_right (by decide) (show 8 * (r.1.length - (j + 1)) ≤ 56 by omega)) (by decide))
    have e64 : ((2 ^ IntKind.u64.bits : Nat) : Int) = 18446744073709551616 := rfl
    have e8 : ((2 ^ 8 : Nat) : Int) = 256 := rfl
    rw [shl8 hb.1 (Int.lt_of_lt_of_le hb.2 hp), show u64 (rd r.1 j) = rd r.1 j by rw [u64_def]; omega, iOr_add' (m := 8) rfl hc.1 (by rw [e8]; omega) hb.1 (by rw [e8, e64]; omega), e8, i64_id (n := (j : Int) - 1) (by omega) (by omega)]
    refine ⟨⟨j, rfl, by omega, ?_, rfl⟩, by dsimp only; omega⟩
    rw [leN_drop (j := j) (by omega), Int.mul_comm 256]
  · obtain rfl : j = 0 := by omega
    exact ⟨rfl, h1⟩
end
end Go.Proofs.YtflchmhhmkkooaaV
