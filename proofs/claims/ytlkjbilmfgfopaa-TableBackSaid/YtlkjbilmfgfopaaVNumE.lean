/- Package num: the reader, third part; nil readers; laws NumNil. -/
import Derived.Test.YtlkjbilmfgfopaaVNumD
import Derived.Test.YtlkjbilmfgfopaaVHelp
namespace Go.Proofs.YtlkjbilmfgfopaaV
open Go Go.RowKit

theorem rLeft_any {ad : Addr} {b : Value} {xs : List Int} {a : Nat} {er : Int} {w : World} (h : Rd w ad b xs a er) : Calls P n_num_Reader_Left #[.pointer (some ad)] w (fun e w' => e = .returned (.int .i64 ((xs.length : Int) - a)) ∧ Ev w w') := by
  have hal := h.2.2.2.1
  have hxl := h.2.2.2.2
  refine of_num_Reader_Left (gEq_pnil (gIf_f (gNil_some (gLoadB_v (at1 (h.1.cell (j := 0) rfl)) (gLen_nm h.2.1 (gNil_some (gLoadB_i (at1 (h.1.cell (j := 1) rfl)) ⟨?_, Ev.drew0 w⟩)))))))
  rw [i64_id (by omega) (by omega)]
theorem rErr_any {ad : Addr} {b : Value} {xs : List Int} {a : Nat} {er : Int} {w : World} (h : Rd w ad b xs a er) : Calls P n_num_Reader_Err #[.pointer (some ad)] w (fun e w' => e = .returned (.int .i64 er) ∧ w' = w) :=
  of_num_Reader_Err (gEq_pnil (gIf_f (gNil_some (gLoad_i (h.1.cell (j := 2) rfl) ⟨rfl, rfl⟩))))
def endR (n a : Nat) (er : Int) : Int := if er ≠ 0 then er else if (n : Int) - a > 0 then 4 else 0
theorem rNew_any {b : Value} {xs : List Int} {w : World} (hb : Nm .u8 w b xs) (hl : xs.length ≤ 10000000000) : Calls P n_num_New #[b] w (fun e w' => ∃ ad y, e = .returned (.pointer (some ad)) ∧ Ev w w' ∧ w.heap.size ≤ ad.block ∧ Rd w' ad y xs 0 0) := by
  refine of_num_New (gApp_on (ON.nil .u8 eB w w.heap.size) hb (by simp; omega) (Nat.le_refl _) fun y w1 hy hc hm => ⟨hy.one, gBox_of fun ad w2 h2 had hs hS => ?_⟩)
  have h1 : Ev w w1 := hc.mono fun _ _ _ hh => by cases hh
  have hy' := hy.ev h2
  refine ⟨ad, y, rfl, h1.trans h2, by rw [had]; exact h1.size, hS, by simpa using hy'.nm, fun hh => ?_, by omega, hl⟩
  have := (hy.base hh).2
  rw [had] at this; dsimp only at this; omega
/-- The next text. -/
def textR (xs : List Int) (a : Nat) (er most : Int) : List Int × Nat × Int :=
  if er ≠ 0 then ([], a, er)
  else
    let p := numR xs a er (if 0 > most then 0 else most)
    let q := rawR xs p.2.1 p.2.2 p.1
    if q.2.2 ≠ 0 then ([], a, q.2.2) else q
theorem rawR_er {xs : List Int} {a : Nat} {er n : Int} (h : (rawR xs a er n).2.2 = 0) : er = 0 := by
  unfold rawR at h; split at h
  · exact h
  · omega
def leN : List Int → Int
  | [] => 0
  | c :: r => c + 256 * leN r
def beN : Int → List Int → Int
  | v, [] => v
  | v, c :: r => beN (v * 256 + c) r
theorem rawR_len {xs : List Int} {a : Nat} {er n : Int} {m : Nat} (hm : n ≤ m) : (rawR xs a er n).1.length ≤ m := by
  unfold rawR; split
  · simp
  · split
    · simp
    · rw [List.length_take]; omega
theorem rawR_u8 {xs : List Int} {a : Nat} {er n : Int} (h : inR .u8 xs) : inR .u8 (rawR xs a er n).1 := by
  unfold rawR; split
  · intro x hx; cases hx
  · split
    · intro x hx; cases hx
    · exact (h.drop _).take _
theorem leN_take {ys : List Int} : ∀ {j : Nat}, j < ys.length → leN (ys.take (j + 1)) = leN (ys.take j) + rd ys j * ((2 ^ (8 * j) : Nat) : Int) := by
  induction ys with
  | nil => intro j h; simp at h
  | cons c r ih =>
    intro j h
    cases j with
    | zero => simp [leN, rd]
    | succ j =>
      have hr : rd (c :: r) ((j + 1 : Nat) : Int) = rd r j := by simp [rd]
      rw [List.take_succ_cons, List.take_succ_cons, leN, leN, ih (by simpa using h), hr, show 8 * (j + 1) = 8 * j + 8 by omega, Nat.pow_add]
      have e : ((2 ^ (8 * j) * 2 ^ 8 : Nat) : Int) = ((2 ^ (8 * j) : Nat) : Int) * 256 := by rw [Int.natCast_mul]; rfl
      rw [e, Int.mul_add]; ac_rfl
theorem leN_bd {ys : List Int} (h : inR .u8 ys) : 0 ≤ leN ys ∧ leN ys < ((2 ^ (8 * ys.length) : Nat) : Int) := by
  induction ys with
  | nil => simp [leN]
  | cons c r ih =>
    have h1 := ih fun x hx => h x (by simp [hx])
    have h2 := h.u8 (x := c) (by simp)
    rw [leN, List.length_cons, show 8 * (r.length + 1) = 8 * r.length + 8 by omega, Nat.pow_add]
    have e : ((2 ^ (8 * r.length) * 2 ^ 8 : Nat) : Int) = ((2 ^ (8 * r.length) : Nat) : Int) * 256 := by rw [Int.natCast_mul]; rfl
    rw [e]; omega
def U64E (w : World) (ad : Addr) (b : Value) (xs : List Int) (v : Int) (r : List Int × Nat × Int) (e : Ending) (w' : World) : Prop := e = .returned (.int .u64 v) ∧ RS w w' ad b xs r.2.1 r.2.2
theorem beN_bd {ys : List Int} (h : inR .u8 ys) : ∀ {v : Int} {k : Nat}, 0 ≤ v → v < ((2 ^ (8 * k) : Nat) : Int) → 0 ≤ beN v ys ∧ beN v ys < ((2 ^ (8 * (k + ys.length)) : Nat) : Int) := by
  induction ys with
  | nil => intro v k h0 h1; exact ⟨h0, h1⟩
  | cons c r ih =>
    intro v k h0 h1
    have h2 := h.u8 (x := c) (by simp)
    have h3 : v * 256 + c < ((2 ^ (8 * (k + 1)) : Nat) : Int) := by
      rw [show 8 * (k + 1) = 8 * k + 8 by omega, Nat.pow_add]
      have e : ((2 ^ (8 * k) * 2 ^ 8 : Nat) : Int) = ((2 ^ (8 * k) : Nat) : Int) * 256 := by rw [Int.natCast_mul]; rfl
      rw [e]; omega
    have := ih (fun x hx => h x (by simp [hx])) (v := v * 256 + c) (k := k + 1) (by omega) h3
    rw [beN, List.length_cons, show k + (r.length + 1) = k + 1 + r.length by omega]; exact this
theorem beN_take {ys : List Int} : ∀ {j : Nat} {v : Int}, j < ys.length → beN v (ys.take (j + 1)) = beN v (ys.take j) * 256 + rd ys j := by
  induction ys with
  | nil => intro j v h; simp at h
  | cons c r ih =>
    intro j v h
    cases j with
    | zero => simp [beN, rd]
    | succ j =>
      have hr : rd (c :: r) ((j + 1 : Nat) : Int) = rd r j := by simp [rd]
      rw [List.take_succ_cons, List.take_succ_cons, beN, beN, ih (by simpa using h), hr]
/-! ### A nil reader -/
theorem num_nil {m : Int} {w : World} : Calls P n_num_Reader_num #[.pointer none, .int .u64 m] w (fun e w' => e = .returned (.int .u64 0) ∧ w' = w) := of_num_Reader_num ⟨fun _ => False, gEq_pnil (gIf_nt ⟨rfl, rfl⟩), fun _ _ h => h.elim⟩
theorem rNum_nil {w : World} : Calls P n_num_Reader_Num #[.pointer none] w (fun e w' => e = .returned (.int .u64 0) ∧ w' = w) := of_num_Reader_Num (gCall_i0 num_nil ⟨rfl, rfl⟩)
theorem rRaw_nil {m : Int} {w : World} : Calls P n_num_Reader_Raw #[.pointer none, .int .i64 m] w (fun e w' => e = .returned (.slice none 0 0) ∧ w' = w) := of_num_Reader_Raw ⟨fun _ => False, gEq_pnil (gIf_nt ⟨rfl, rfl⟩), fun _ _ h => h.elim⟩
theorem rLeft_nil {w : World} : Calls P n_num_Reader_Left #[.pointer none] w (fun e w' => e = .returned (.int .i64 0) ∧ w' = w) := of_num_Reader_Left (gEq_pnil (gIf_t ⟨rfl, rfl⟩))
theorem rErr_nil {w : World} : Calls P n_num_Reader_Err #[.pointer none] w (fun e w' => e = .returned (.int .i64 2) ∧ w' = w) := of_num_Reader_Err (gEq_pnil (gIf_t ⟨rfl, rfl⟩))
end Go.Proofs.YtlkjbilmfgfopaaV
