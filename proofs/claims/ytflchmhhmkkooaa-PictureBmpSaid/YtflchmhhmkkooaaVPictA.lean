/- Package picture: signs of a head. -/
import Derived.Test.YtflchmhhmkkooaaVBase
namespace Go.Proofs.YtflchmhhmkkooaaV
open Go Go.RowKit
theorem Nm.chx {k : IntKind} {S : SS} {w w' : World} {v : Value} {xs : List Int} (h : Nm k w v xs) (hc : Ch S w w') (hs : xs ≠ [] → ∀ g i, v.ownBlock = some g → ¬ S g i) : Nm k w' v xs := by
  by_cases hx : xs = []
  · subst hx
    obtain ⟨⟨a, c, rfl, h1, h2, h3, h4⟩, hr⟩ := h
    exact ⟨⟨a, c, rfl, h1, h2, fun ad ha j u hj => by simp at hj, h4⟩, hr⟩
  · exact h.ch hc (hs hx)
theorem beq_dec (a b : Int) : (a == b) = decide (a = b) := by by_cases h : a = b <;> simp [h]
def whiteB (c : Int) : Bool := decide (c = 32 ∨ c = 9 ∨ c = 10 ∨ c = 13)
theorem white_any {c : Int} {w : World} : Calls P n_picture_white #[.int .u8 c] w (fun e w' => e = .returned (.bool (whiteB c)) ∧ w' = w) := by
  refine of_picture_white (gIf_neqq (fun h1 => gIf_neqq (fun h2 => gIf_neqq (fun h3 => ⟨?_, rfl⟩) (fun h3 => ⟨?_, rfl⟩)) (fun h2 => ⟨?_, rfl⟩)) (fun h1 => ⟨?_, rfl⟩)) <;> simp [whiteB, *] <;> exact beq_dec _ _
theorem rblank_any {c : Int} {w : World} : Calls P n_valiseref16_blank #[.int .u8 c] w (fun e w' => e = .returned (.bool (whiteB c)) ∧ w' = w) := by
  refine of_valiseref16_blank (gIf_neqq (fun h1 => gIf_neqq (fun h2 => gIf_neqq (fun h3 => ⟨?_, rfl⟩) (fun h3 => ⟨?_, rfl⟩)) (fun h2 => ⟨?_, rfl⟩)) (fun h1 => ⟨?_, rfl⟩)) <;> simp [whiteB, *] <;> exact beq_dec _ _
def SG (w : World) (ad : Addr) (b : Value) (xs : List Int) (a : Nat) : Prop := St w ad [b, .int .i64 a] ∧ Nm .u8 w b xs ∧ (xs ≠ [] → b.ownBlock ≠ some ad.block) ∧ a ≤ xs.length ∧ xs.length ≤ 1000000000
theorem SG.ev {w w' : World} {ad : Addr} {b : Value} {xs : List Int} {a : Nat} (h : SG w ad b xs a) (he : Ev w w') : SG w' ad b xs a := ⟨h.1.ev he, h.2.1.ev he, h.2.2⟩
def GS (w w' : World) (ad : Addr) (b : Value) (xs : List Int) (a : Nat) : Prop := SG w' ad b xs a ∧ Ch (Rg ad 2) w w'
theorem GS.trans {w w1 w2 : World} {ad : Addr} {b : Value} {xs : List Int} {a a2 : Nat} (h : GS w w1 ad b xs a) (h2 : GS w1 w2 ad b xs a2) : GS w w2 ad b xs a2 := ⟨h2.1, Ch.trans h.2 h2.2 fun _ _ _ h => h⟩
theorem GS.ev {w w1 w2 : World} {ad : Addr} {b : Value} {xs : List Int} {a : Nat} (h : GS w w1 ad b xs a) (he : Ev w1 w2) : GS w w2 ad b xs a := ⟨h.1.ev he, Ch.trans h.2 he fun _ _ _ h => h.elim⟩
theorem GS.pre {w w1 w2 : World} {ad : Addr} {b : Value} {xs : List Int} {a : Nat} (he : Ev w w1) (h : GS w1 w2 ad b xs a) : GS w w2 ad b xs a := ⟨h.1, Ch.trans (he.mono fun _ _ _ h => h.elim) h.2 fun _ _ _ h => h⟩
theorem SG.step {w : World} {ad : Addr} {b : Value} {xs : List Int} {a : Nat} (h : SG w ad b xs a) : GS w w ad b xs a := ⟨h, Ch.refl _ w⟩
theorem SG.set {w w' : World} {ad : Addr} {b : Value} {xs : List Int} {a a2 : Nat} (h : SG w ad b xs a) (hc : Ch (Rg (ad.add 1) 1) w w') (hS : St w' ad ([b, .int .i64 a].set 1 (.int .i64 a2))) (ha : a2 ≤ xs.length) : GS w w' ad b xs a2 := by
  have hc2 : Ch (Rg ad 2) w w' := hc.mono fun n i _ hh => by
    have h1 := hh.1; have h2 := hh.2
    rw [Addr.add_none h.1.1] at h1 h2
    exact ⟨h1, by dsimp only at h2; omega, by dsimp only at h2; omega⟩
  exact ⟨⟨hS, h.2.1.chx hc2 fun hx g i hg hh => h.2.2.1 hx (by rw [hg, hh.1]), h.2.2.1, ha, h.2.2.2.2⟩, hc2⟩
section
variable {ad : Addr} {b : Value} {xs : List Int} {a : Nat} {w : World}
theorem is_any {f : FuncId} {pf : Int → Bool} (hok : callOk P f = true) (hf : ∀ {c : Int} {w : World}, Calls P f #[.int .u8 c] w (fun e w' => e = .returned (.bool (pf c)) ∧ w' = w)) (h : SG w ad b xs a) :
    Calls P n_picture_signs_is #[.pointer (some ad), .func (.func f) #[] #[]] w (fun e w' => e = .returned (.bool (decide (a < xs.length) && pf (rd xs a))) ∧ Ev w w') := by
  refine of_picture_signs_is ⟨fun w' => w' = w.drew, rfl, gNil_some (gLoadB_i (at1 (h.1.cell (j := 1) rfl)) (gNil_some (gLoadB_v (at1 (h.1.cell (j := 0) rfl)) (gLen_nm h.2.1 (gIf_dec (fun hlt => ?_) (fun hge => ⟨?_, Ev.drew0 w⟩))))))⟩
  · refine gNil_some (gLoadB_v (at1 (h.1.cell (j := 0) rfl)) (gNil_some (gLoadB_i (at1 (h.1.cell (j := 1) rfl)) (gIdx_nm h.2.1 (by omega) hlt fun a1 c1 _ => gLoadB_i (at1 c1) (gCallV_of rfl hok hf ?_)))))
    rintro _ _ ⟨rfl, rfl⟩
    refine ⟨_, rfl, rfl, ?_, Ev.drew0 w⟩
    rw [decide_eq_true (show a < xs.length by omega)]; rfl
  · rw [decide_eq_false (show ¬ a < xs.length by omega)]; rfl
def nlL (xs : List Int) : Nat → Nat → Option Nat
  | 0, _ => none
  | f + 1, i => if rd xs i = 10 then some i else nlL xs f (i + 1)
def nlI (xs : List Int) (i : Nat) : Option Nat := nlL xs (xs.length - i) i
theorem nlL_bd {xs : List Int} : ∀ {f i k : Nat}, nlL xs f i = some k → i ≤ k ∧ k < i + f
  | f + 1, i, k, h => by
    rw [nlL] at h; split at h
    · injection h with h; omega
    · have := nlL_bd h; omega
theorem nlI_bd {xs : List Int} {i k : Nat} (h : nlI xs i = some k) (hi : i ≤ xs.length) : i ≤ k ∧ k < xs.length := by have := nlL_bd h; omega
theorem nlI_step {xs : List Int} {i : Nat} (h : i < xs.length) : nlI xs i = if rd xs i = 10 then some i else nlI xs (i + 1) := by
  unfold nlI; rw [show xs.length - i = (xs.length - (i + 1)) + 1 by omega, nlL]
theorem remark_any (h : SG w ad b xs a) : Calls P n_picture_signs_remark #[.pointer (some ad)] w (fun e w' => e = .returned (.bool (nlI xs a).isSome) ∧ GS w w' ad b xs (match nlI xs a with | some i => i + 1 | none => a)) := by
  have hl := h.2.2.2.2
  have ha := h.2.2.2.1
  refine of_picture_signs_remark (gNil_some (gLoad_i (h.1.cell (j := 1) rfl) ⟨fun i w' => ∃ j : Nat, i = j ∧ a ≤ j ∧ j ≤ xs.length ∧ nlI xs j = nlI xs a ∧ w' = w, fun i _ => xs.length - i.toNat, ⟨a, rfl, by omega, ha, rfl, rfl⟩, ?_⟩))
  rintro _ i _ ⟨j, rfl, haj, hj, hn, rfl⟩
  rw [← hn]
  refine gNil_some (gLoad_v (h.1.cell (j := 0) rfl) (gLen_nm h.2.1 (gIf_dec (fun hlt => ?_) (fun hge => ?_))))
  · refine gNil_some (gLoad_v (h.1.cell (j := 0) rfl) (gIdx_nm h.2.1 (by omega) hlt fun a1 c1 _ => gLoad_i c1 (gIf_eq (fun e => ?_) (fun e => ?_))))
    · rw [nlI_step (by omega), if_pos e, i64_id (n := (j : Int) + 1) (by omega) (by omega)]
      exact gNil_some (gStore_st h.1 (j := 1) (by simp) rfl rfl fun w2 h2 _ hS2 => ⟨rfl, h.set (a2 := j + 1) h2 hS2 (by omega)⟩)
    · rw [nlI_step (by omega), if_neg e, i64_id (n := (j : Int) + 1) (by omega) (by omega)]
      exact ⟨⟨j + 1, rfl, by omega, by omega, rfl, rfl⟩, by dsimp only; omega⟩
  · have : nlI xs j = none := by unfold nlI; rw [show xs.length - j = 0 by omega]; rfl
    rw [this]; exact ⟨rfl, h.step⟩
end
end Go.Proofs.YtflchmhhmkkooaaV
