/- Package num: the reader, third part; nil readers; laws NumNil. -/
import Derived.Test.YtcjopcplhabgkaaVNumD
import Derived.Test.YtcjopcplhabgkaaVHelp
namespace Go.Proofs.YtcjopcplhabgkaaV
open Go Go.RowKit

theorem rLeft_any {ad : Addr} {b : Value} {xs : List Int} {a : Nat} {er : Int} {w : World} (h : Rd w ad b xs a er) : Calls P n_num_Reader_Left #[.pointer (some ad)] w (fun e w' => e = .returned (.int .i64 ((xs.length : Int) - a)) ∧ Ev w w') := by
  have hal := h.2.2.2.1
  have hxl := h.2.2.2.2
  refine of_num_Reader_Left (gEq_pnil (gIf_f (gNil_some (gLoadB_v (at1 (h.1.cell (j := 0) rfl)) (gLen_nm h.2.1 (gNil_some (gLoadB_i (at1 (h.1.cell (j := 1) rfl)) ⟨?_, Ev.drew0 w⟩)))))))
  rw [i64_id (by omega) (by omega)]
theorem rErr_any {ad : Addr} {b : Value} {xs : List Int} {a : Nat} {er : Int} {w : World} (h : Rd w ad b xs a er) : Calls P n_num_Reader_Err #[.pointer (some ad)] w (fun e w' => e = .returned (.int .i64 er) ∧ w' = w) :=
  of_num_Reader_Err (gEq_pnil (gIf_f (gNil_some (gLoad_i (h.1.cell (j := 2) rfl) ⟨rfl, rfl⟩))))
def endR (n a : Nat) (er : Int) : Int := if er ≠ 0 then er else if (n : Int) - a > 0 then 4 else 0
theorem rEnd_any {ad : Addr} {b : Value} {xs : List Int} {a : Nat} {er : Int} {w : World} (h : Rd w ad b xs a er) : Calls P n_num_Reader_End #[.pointer (some ad)] w (fun e w' => e = .returned (.int .i64 (endR xs.length a er)) ∧ Ev w w') := by
  refine of_num_Reader_End (gCall_i0 (rErr_any h) (gIf_neq (fun hne => ⟨?_, Ch.refl _ w⟩) (fun he => gCall_i (rLeft_any h) fun w1 h1 => gIf_dec (fun hg => ⟨?_, h1⟩) (fun hg => ⟨?_, h1⟩))))
  · unfold endR; rw [if_pos hne]
  · unfold endR; rw [if_neg (by omega), if_pos hg]
  · unfold endR; rw [if_neg (by omega), if_neg hg]
theorem rNew_any {b : Value} {xs : List Int} {w : World} (hb : Nm .u8 w b xs) (hl : xs.length ≤ 10000000000) : Calls P n_num_New #[b] w (fun e w' => ∃ ad y, e = .returned (.pointer (some ad)) ∧ Ev w w' ∧ w.heap.size ≤ ad.block ∧ Rd w' ad y xs 0 0) := by
  refine of_num_New (gApp_on (ON.nil .u8 eB w w.heap.size) hb (by simp; omega) (Nat.le_refl _) fun y w1 hy hc hm => ⟨hy.one, gBox_of fun ad w2 h2 had hs hS => ?_⟩)
  have h1 : Ev w w1 := hc.mono fun _ _ _ hh => by cases hh
  have hy' := hy.ev h2
  refine ⟨ad, y, rfl, h1.trans h2, by rw [had]; exact h1.size, hS, by simpa using hy'.nm, fun hh => ?_, by omega, hl⟩
  have := (hy.base hh).2
  rw [had] at this; dsimp only at this; omega
/-- The next text. -/
def textR (xs : List Int) (a : Nat) (er most : Int) : List Int × Nat × Int :=
  if er ≠ 0 then ([], a, er)
  else
    let p := numR xs a er (if 0 > most then 0 else most)
    let q := rawR xs p.2.1 p.2.2 p.1
    if q.2.2 ≠ 0 then ([], a, q.2.2) else q
theorem rawR_er {xs : List Int} {a : Nat} {er n : Int} (h : (rawR xs a er n).2.2 = 0) : er = 0 := by
  unfold rawR at h; split at h
  · exact h
  · omega
theorem rText_any {ad : Addr} {b : Value} {xs : List Int} {a : Nat} {er most : Int} {w : World} (h : Rd w ad b xs a er) (hm : most ≤ 9223372036854775807) : Calls P n_num_Reader_Text #[.pointer (some ad), .int .i64 most] w (RawE w ad b xs (textR xs a er most)) := by
  refine of_num_Reader_Text ⟨fun w' => er = 0 ∧ w' = w, gEq_pnil (gIf_nf (gNil_some (gLoad_i (h.1.cell (j := 2) rfl) (gIf_neq (fun hne => ?_) (fun he => ⟨he, rfl⟩))))), ?_⟩
  · unfold textR; rw [if_pos hne]; exact ⟨_, rfl, h.step, ON.nil _ _ _ _⟩
  rintro _ _ ⟨rfl, rfl⟩
  rename_i w
  unfold textR
  rw [if_neg (show ¬ ((0 : Int) ≠ 0) by simp)]
  have hm0 : 0 ≤ (if 0 > most then 0 else most) ∧ (if 0 > most then 0 else most) ≤ 9223372036854775807 := by split <;> omega
  generalize (if 0 > most then 0 else most) = mm at hm0
  rw [show u64 mm = mm by rw [u64_def]; omega]
  refine gNil_some (gLoad_i (h.1.cell (j := 1) rfl) (gCall_i (num_any h) fun w1 h1 => ?_))
  have hr := numR_rng (xs := xs) (a := a) (er := 0) (most := mm) h.2.1.2
  have hm2 := numR_most (xs := xs) (a := a) (er := 0) (most := mm) hm0.1
  dsimp only
  generalize numR xs a 0 mm = p at *
  rw [i64_id (n := p.1) (by omega) (by omega)]
  refine gCall_of (rRaw_any h1.1 (by omega)) ?_
  rintro _ w2 ⟨y, rfl, h2, hy⟩
  have hw2 := h1.trans h2
  generalize rawR xs p.2.1 p.2.2 p.1 = q at *
  refine ⟨y, rfl, gNil_some (gLoad_i (hw2.1.1.cell (j := 2) rfl) (gIf_neq (fun hne => gNil_some (gStore_st hw2.1.1 (j := 1) (by simp) rfl rfl fun w3 h3 _ hS3 => ?_)) (fun he => ?_)))⟩
  · rw [if_pos hne]
    exact ⟨_, rfl, hw2.trans (hw2.1.set (j := 1) (a2 := a) (er2 := q.2.2) (by decide) h3 hS3 rfl h.2.2.2.1), ON.nil _ _ _ _⟩
  · rw [if_neg (by omega)]
    exact ⟨y, rfl, hw2, hy.low h1.2.size⟩
def leN : List Int → Int
  | [] => 0
  | c :: r => c + 256 * leN r
def beN : Int → List Int → Int
  | v, [] => v
  | v, c :: r => beN (v * 256 + c) r
theorem rawR_len {xs : List Int} {a : Nat} {er n : Int} {m : Nat} (hm : n ≤ m) : (rawR xs a er n).1.length ≤ m := by
  unfold rawR; split
  · simp
  · split
    · simp
    · rw [List.length_take]; omega
theorem rawR_u8 {xs : List Int} {a : Nat} {er n : Int} (h : inR .u8 xs) : inR .u8 (rawR xs a er n).1 := by
  unfold rawR; split
  · intro x hx; cases hx
  · split
    · intro x hx; cases hx
    · exact (h.drop _).take _
theorem leN_take {ys : List Int} : ∀ {j : Nat}, j < ys.length → leN (ys.take (j + 1)) = leN (ys.take j) + rd ys j * ((2 ^ (8 * j) : Nat) : Int) := by
  induction ys with
  | nil => intro j h; simp at h
  | cons c r ih =>
    intro j h
    cases j with
    | zero => simp [leN, rd]
    | succ j =>
      have hr : rd (c :: r) ((j + 1 : Nat) : Int) = rd r j := by simp [rd]
      rw [List.take_succ_cons, List.take_succ_cons, leN, leN, ih (by simpa using h), hr, show 8 * (j + 1) = 8 * j + 8 by omega, Nat.pow_add]
      have e : ((2 ^ (8 * j) * 2 ^ 8 : Nat) : Int) = ((2 ^ (8 * j) : Nat) : Int) * 256 := by rw [Int.natCast_mul]; rfl
      rw [e, Int.mul_add]; ac_rfl
theorem leN_bd {ys : List Int} (h : inR .u8 ys) : 0 ≤ leN ys ∧ leN ys < ((2 ^ (8 * ys.length) : Nat) : Int) := by
  induction ys with
  | nil => simp [leN]
  | cons c r ih =>
    have h1 := ih fun x hx => h x (by simp [hx])
    have h2 := h.u8 (x := c) (by simp)
    rw [leN, List.length_cons, show 8 * (r.length + 1) = 8 * r.length + 8 by omega, Nat.pow_add]
    have e : ((2 ^ (8 * r.length) * 2 ^ 8 : Nat) : Int) = ((2 ^ (8 * r.length) : Nat) : Int) * 256 := by rw [Int.natCast_mul]; rfl
    rw [e]; omega
def U64E (w : World) (ad : Addr) (b : Value) (xs : List Int) (v : Int) (r : List Int × Nat × Int) (e : Ending) (w' : World) : Prop := e = .returned (.int .u64 v) ∧ RS w w' ad b xs r.2.1 r.2.2
theorem rLittle_any {ad : Addr} {b : Value} {xs : List Int} {a : Nat} {er n : Int} {w : World} (h : Rd w ad b xs a er) : Calls P n_num_Reader_Little #[.pointer (some ad), .int .i64 n] w (U64E w ad b xs (leN (rawR xs a er (if 8 < n then 8 else n)).1) (rawR xs a er (if 8 < n then 8 else n))) := by
  have hn8 : (if 8 < n then 8 else n) ≤ 8 := by split <;> omega
  refine of_num_Reader_Little ?_
  generalize (if 8 < n then 8 else n) = m at *
  refine gCall_of (rRaw_any h (by omega)) ?_
  have hlen := rawR_len (xs := xs) (a := a) (er := er) (n := m) (m := 8) (by omega)
  rintro _ w1 ⟨y, rfl, h1, hy⟩
  generalize rawR xs a er m = r at *
  refine ⟨y, rfl, gLen_nm hy.nm ⟨fun v i w' => ∃ j : Nat, i = j ∧ j ≤ r.1.length ∧ v = leN (r.1.take j) ∧ w' = w1, fun _ i _ => r.1.length - i.toNat, ⟨0, rfl, by omega, by simp [leN], rfl⟩, ?_⟩⟩
  rintro _ v i _ ⟨j, rfl, hj, rfl, rfl⟩
  refine gIf_dec (fun hlt => gIdx_nm hy.nm (by omega) hlt fun a1 c1 _ => gLoad_i c1 (gBin_shl (by rw [i64_id (by omega) (by omega)]; omega) ?_)) (fun hge => ?_)
  · have hc := rd_u8 hy.2 j
    have hb := leN_bd (hy.2.take j)
    have hb2 := leN_bd (hy.2.take (j + 1))
    rw [leN_take (by omega)] at hb2
    rw [show u64 (rd r.1 j) = rd r.1 j by rw [u64_def]; omega, show i64 (8 * (j : Int)) = ((8 * j : Nat) : Int) by rw [i64_id (by omega) (by omega)]; omega, i64_id (n := (j : Int) + 1) (by omega) (by omega)]
    rw [List.length_take, Nat.min_eq_left (by omega)] at hb hb2
    have h64 : ((2 ^ (8 * (j + 1)) : Nat) : Int) ≤ ((18446744073709551616 : Nat) : Int) := Int.ofNat_le.2 (Nat.le_trans (Nat.pow_le_pow_right (by decide) (show 8 * (j + 1) ≤ 64 by omega)) (by decide))
    rw [iShl_u (k := .u64) rfl (by have : IntKind.u64.bits = 64 := rfl; omega) (by omega), bits64, Int.emod_eq_of_lt (Int.mul_nonneg (by omega) (Int.natCast_nonneg _)) (by show _ < (18446744073709551616 : Int); omega), iOr_add rfl hb.1 hb.2 hc.1 (by rw [bits64]; show _ < (18446744073709551616 : Int); omega)]
    exact ⟨⟨j + 1, by omega, by omega, by rw [leN_take (by omega)], rfl⟩, by dsimp only; omega⟩
  · rw [List.take_of_length_le (by omega)]; exact ⟨rfl, h1⟩
theorem beN_bd {ys : List Int} (h : inR .u8 ys) : ∀ {v : Int} {k : Nat}, 0 ≤ v → v < ((2 ^ (8 * k) : Nat) : Int) → 0 ≤ beN v ys ∧ beN v ys < ((2 ^ (8 * (k + ys.length)) : Nat) : Int) := by
  induction ys with
  | nil => intro v k h0 h1; exact ⟨h0, h1⟩
  | cons c r ih =>
    intro v k h0 h1
    have h2 := h.u8 (x := c) (by simp)
    have h3 : v * 256 + c < ((2 ^ (8 * (k + 1)) : Nat) : Int) := by
      rw [show 8 * (k + 1) = 8 * k + 8 by omega, Nat.pow_add]
      have e : ((2 ^ (8 * k) * 2 ^ 8 : Nat) : Int) = ((2 ^ (8 * k) : Nat) : Int) * 256 := by rw [Int.natCast_mul]; rfl
      rw [e]; omega
    have := ih (fun x hx => h x (by simp [hx])) (v := v * 256 + c) (k := k + 1) (by omega) h3
    rw [beN, List.length_cons, show k + (r.length + 1) = k + 1 + r.length by omega]; exact this
theorem beN_take {ys : List Int} : ∀ {j : Nat} {v : Int}, j < ys.length → beN v (ys.take (j + 1)) = beN v (ys.take j) * 256 + rd ys j := by
  induction ys with
  | nil => intro j v h; simp at h
  | cons c r ih =>
    intro j v h
    cases j with
    | zero => simp [beN, rd]
    | succ j =>
      have hr : rd (c :: r) ((j + 1 : Nat) : Int) = rd r j := by simp [rd]
      rw [List.take_succ_cons, List.take_succ_cons, beN, beN, ih (by simpa using h), hr]
theorem rBig_any {ad : Addr} {b : Value} {xs : List Int} {a : Nat} {er n : Int} {w : World} (h : Rd w ad b xs a er) : Calls P n_num_Reader_Big #[.pointer (some ad), .int .i64 n] w (U64E w ad b xs (beN 0 (rawR xs a er (if 8 < n then 8 else n)).1) (rawR xs a er (if 8 < n then 8 else n))) := by
  have hn8 : (if 8 < n then 8 else n) ≤ 8 := by split <;> omega
  refine of_num_Reader_Big ?_
  generalize (if 8 < n then 8 else n) = m at *
  refine gCall_of (rRaw_any h (by omega)) ?_
  have hlen := rawR_len (xs := xs) (a := a) (er := er) (n := m) (m := 8) (by omega)
  rintro _ w1 ⟨y, rfl, h1, hy⟩
  generalize rawR xs a er m = r at *
  refine ⟨y, rfl, gLen_nm hy.nm ⟨fun v i w' => ∃ j : Nat, i = j ∧ j ≤ r.1.length ∧ v = beN 0 (r.1.take j) ∧ w' = w1, fun _ i _ => r.1.length - i.toNat, ⟨0, rfl, by omega, by simp [beN], rfl⟩, ?_⟩⟩
  rintro _ v i _ ⟨j, rfl, hj, rfl, rfl⟩
  refine gIf_dec (fun hlt => gIdx_nm hy.nm (by omega) hlt fun a1 c1 _ => gLoad_i c1 ?_) (fun hge => ?_)
  · have hc := rd_u8 hy.2 j
    have hb := beN_bd (hy.2.take j) (v := 0) (k := 0) (by decide) (by decide)
    rw [List.length_take, Nat.min_eq_left (by omega), Nat.zero_add] at hb
    have h64 : ((2 ^ (8 * j) : Nat) : Int) ≤ ((72057594037927936 : Nat) : Int) := Int.ofNat_le.2 (Nat.le_trans (Nat.pow_le_pow_right (by decide) (show 8 * j ≤ 56 by omega)) (by decide))
    have e8 := iShl_u (k := .u64) (a := beN 0 (r.1.take j)) (n := 8) rfl (by decide) hb.1
    rw [show ((8 : Nat) : Int) = 8 from rfl, bits64, show ((2 ^ 8 : Nat) : Int) = 256 from rfl, Int.emod_eq_of_lt (by omega) (by show _ < (18446744073709551616 : Int); omega)] at e8
    have e9 := iOr_add' (k := .u64) (a := rd r.1 j) (b := beN 0 (r.1.take j)) (m := 8) rfl hc.1 hc.2 hb.1 (by rw [bits64, show ((2 ^ 8 : Nat) : Int) = 256 from rfl]; show _ < (18446744073709551616 : Int); omega)
    rw [show ((2 ^ 8 : Nat) : Int) = 256 from rfl] at e9
    rw [e8, show u64 (rd r.1 j) = rd r.1 j by rw [u64_def]; omega, e9, i64_id (n := (j : Int) + 1) (by omega) (by omega)]
    exact ⟨⟨j + 1, by omega, by omega, by rw [beN_take (by omega)]; omega, rfl⟩, by dsimp only; omega⟩
  · rw [List.take_of_length_le (by omega)]; exact ⟨rfl, h1⟩
/-! ### A nil reader -/
theorem num_nil {m : Int} {w : World} : Calls P n_num_Reader_num #[.pointer none, .int .u64 m] w (fun e w' => e = .returned (.int .u64 0) ∧ w' = w) := of_num_Reader_num ⟨fun _ => False, gEq_pnil (gIf_nt ⟨rfl, rfl⟩), fun _ _ h => h.elim⟩
theorem rNum_nil {w : World} : Calls P n_num_Reader_Num #[.pointer none] w (fun e w' => e = .returned (.int .u64 0) ∧ w' = w) := of_num_Reader_Num (gCall_i0 num_nil ⟨rfl, rfl⟩)
theorem rZig_nil {w : World} : Calls P n_num_Reader_Zig #[.pointer none] w (fun e w' => e = .returned (.int .i64 0) ∧ w' = w) := of_num_Reader_Zig (gCall_i0 rNum_nil (gCall_i0 (Unfold_any (by decide)) ⟨rfl, rfl⟩))
theorem rText_nil {m : Int} {w : World} : Calls P n_num_Reader_Text #[.pointer none, .int .i64 m] w (fun e w' => e = .returned (.slice none 0 0) ∧ w' = w) := of_num_Reader_Text ⟨fun _ => False, gEq_pnil (gIf_nt ⟨rfl, rfl⟩), fun _ _ h => h.elim⟩
theorem rRaw_nil {m : Int} {w : World} : Calls P n_num_Reader_Raw #[.pointer none, .int .i64 m] w (fun e w' => e = .returned (.slice none 0 0) ∧ w' = w) := of_num_Reader_Raw ⟨fun _ => False, gEq_pnil (gIf_nt ⟨rfl, rfl⟩), fun _ _ h => h.elim⟩
theorem rLittle_nil {m : Int} {w : World} : Calls P n_num_Reader_Little #[.pointer none, .int .i64 m] w (fun e w' => e = .returned (.int .u64 0) ∧ w' = w) :=
  of_num_Reader_Little (gCall_v0 rRaw_nil (gLen_sl ⟨fun v i w' => v = 0 ∧ i = 0 ∧ w' = w, fun _ _ _ => 0, ⟨rfl, rfl, rfl⟩, fun _ v i w' ⟨h1, h2, h3⟩ => by
    subst h1; subst h2; subst h3
    exact gIf_f ⟨rfl, rfl⟩⟩))
theorem rBig_nil {m : Int} {w : World} : Calls P n_num_Reader_Big #[.pointer none, .int .i64 m] w (fun e w' => e = .returned (.int .u64 0) ∧ w' = w) :=
  of_num_Reader_Big (gCall_v0 rRaw_nil (gLen_sl ⟨fun v i w' => v = 0 ∧ i = 0 ∧ w' = w, fun _ _ _ => 0, ⟨rfl, rfl, rfl⟩, fun _ v i w' ⟨h1, h2, h3⟩ => by
    subst h1; subst h2; subst h3
    exact gIf_f ⟨rfl, rfl⟩⟩))
theorem rLeft_nil {w : World} : Calls P n_num_Reader_Left #[.pointer none] w (fun e w' => e = .returned (.int .i64 0) ∧ w' = w) := of_num_Reader_Left (gEq_pnil (gIf_t ⟨rfl, rfl⟩))
theorem rErr_nil {w : World} : Calls P n_num_Reader_Err #[.pointer none] w (fun e w' => e = .returned (.int .i64 2) ∧ w' = w) := of_num_Reader_Err (gEq_pnil (gIf_t ⟨rfl, rfl⟩))
theorem rEnd_nil {w : World} : Calls P n_num_Reader_End #[.pointer none] w (fun e w' => e = .returned (.int .i64 2) ∧ w' = w) := of_num_Reader_End (gCall_i0 rErr_nil (gIf_t ⟨rfl, rfl⟩))
end Go.Proofs.YtcjopcplhabgkaaV
