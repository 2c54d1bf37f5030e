/- The law BitsRead. -/
import Derived.Test.YtbcobdmgabcpjaaVBitsL
import Derived.Test.YtbcobdmgabcpjaaVHelpOwn
import Derived.Test.YtbcobdmgabcpjaaVHelpSpoil
import Derived.Test.YtbcobdmgabcpjaaVLawG
namespace Go.Proofs.YtbcobdmgabcpjaaV
open Go Go.RowKit
/-- Both readers. -/
def Two (w0 w : World) (rad pad ad2 : Addr) (y b : Value) (xs : List Int) (a : Nat) (er : Int) : Prop :=
  RB w rad pad y xs a er ∧ PR w ad2 b xs a er ∧ Ev w0 w ∧ pad.block ≠ ad2.block ∧ rad.block ≠ ad2.block ∧ (xs ≠ [] → y.ownBlock ≠ some ad2.block) ∧ (xs ≠ [] → b.ownBlock ≠ some pad.block) ∧ w0.heap.size ≤ pad.block ∧ w0.heap.size ≤ ad2.block
theorem PR.ch' {S : SS} {w w' : World} {ad : Addr} {b : Value} {xs : List Int} {a : Nat} {er : Int} (h : PR w ad b xs a er) (hc : Ch S w w') (h1 : ∀ i, ¬ S ad.block i) (h2 : xs ≠ [] → ∀ g i, b.ownBlock = some g → ¬ S g i) : PR w' ad b xs a er :=
  ⟨h.1.ch hc fun _ _ => h1 _, h.2.1.ch' hc h2, h.2.2⟩
theorem Two.ev {w0 w w' : World} {rad pad ad2 : Addr} {y b : Value} {xs : List Int} {a : Nat} {er : Int} (h : Two w0 w rad pad ad2 y b xs a er) (he : Ev w w') : Two w0 w' rad pad ad2 y b xs a er :=
  ⟨⟨h.1.1.ev he, h.1.2.1.ev he, h.1.2.2⟩, h.2.1.ev he, h.2.2.1.trans he, h.2.2.2⟩
/-- A step of the one, and the same of the other. -/
theorem Two.both {w0 w w1 w2 : World} {rad pad ad2 : Addr} {y b : Value} {xs : List Int} {a a2 : Nat} {er er2 : Int} (h : Two w0 w rad pad ad2 y b xs a er) (h1 : PS w w1 pad y xs a2 er2) (h2 : PS w1 w2 ad2 b xs a2 er2) : Two w0 w2 rad pad ad2 y b xs a2 er2 := by
  obtain ⟨k1, k2, k3, k4, k5, k6, k7, k8, k9⟩ := h
  refine ⟨⟨(k1.1.ch h1.2 fun _ _ hh => k1.2.2 hh.1).ch h2.2 fun _ _ hh => k5 hh.1, h1.1.ch' h2.2 (fun i hh => k4 hh.1) fun hx g i hg hh => k6 hx (by rw [hg, hh.1]), k1.2.2⟩, h2.1, ?_, k4, k5, k6, k7, k8, k9⟩
  exact (k3.new h1.2 fun n i hh => by rw [hh.1]; exact k8).new h2.2 fun n i hh => by rw [hh.1]; exact k9
theorem Two.mid {w0 w w1 : World} {rad pad ad2 : Addr} {y b : Value} {xs : List Int} {a a2 : Nat} {er er2 : Int} (h : Two w0 w rad pad ad2 y b xs a er) (h1 : PS w w1 pad y xs a2 er2) : PR w1 ad2 b xs a er := by
  obtain ⟨k1, k2, k3, k4, k5, k6, k7, k8, k9⟩ := h
  exact k2.ch' h1.2 (fun i hh => k4 hh.1.symm) fun hx g i hg hh => k7 hx (by rw [hg, hh.1])
set_option maxRecDepth 20000 in
theorem BitsRead_law {b script : Value} {xs : List Int} {w : World} (hb : Nm .u8 w b xs) (hs : Good P w t_sl_valiselaw01_Op [script]) : Calls P n_valiselaw01_BitsRead #[b, script] w (Holds w) := by
  obtain ⟨n, cs, hS, _, hg⟩ := good_sl (sz := 3) (e := t_valiselaw01_Op) (by kernel_rfl) (by kernel_rfl) hs
  refine of_valiselaw01_BitsRead (gLen_nm hb (gIf_dec (fun _ => awake_end) (fun hl => ?_)))
  refine gCall_v (Own_byte_on hb (by omega) (by decide)) fun i1 w1 ⟨h1, hi1, hion⟩ => gCall_of (bNew_any hi1.nm (by omega)) ?_
  rintro _ w2 ⟨rad, pad, y, rfl, h2, hrad, hpad, hy, hR⟩
  have e2 : Ev w w2 := h1.trans h2
  refine ⟨some rad, rfl, hb.one, gBox_of fun ad2 w3 h3 had2 hsz3 hSt => ?_⟩
  have e3 : Ev w w3 := e2.trans h3
  have hb2 : ad2.block = w2.heap.size := by rw [had2]
  have hradlt := hR.1.lt
  have hpadlt := hR.2.1.1.lt
  have hylt : xs ≠ [] → ∀ g, y.ownBlock = some g → g < w2.heap.size := fun hx g hg => hR.2.1.2.1.old hx hg
  have hblt : xs ≠ [] → ∀ g, b.ownBlock = some g → g < w.heap.size := fun hx g hg => hb.old hx hg
  have hT : Two w w3 rad pad ad2 y b xs 0 0 := by
    refine ⟨⟨hR.1.ev h3, hR.2.1.ev h3, hR.2.2⟩, ⟨hSt, hb.ev e3, fun hx hh => ?_, by omega, by omega⟩, e3, by omega, by omega, fun hx hh => ?_, fun hx hh => ?_, Nat.le_trans h1.size hpad, ?_⟩
    · have := hblt hx _ hh; have := e2.size; omega
    · have := hylt hx _ hh; omega
    · have := hblt hx _ hh; have := h1.size; omega
    · have := e2.size; omega
  refine ⟨fun w' => Ev w3 w', gCall_b awake_any fun w4 h4 => gIf_nn (gEq_pnil (gIf_nf (gCall_b (Kept_byte_any ((hi1.ev (h2.trans h3)).ev h4) (hb.ev (e3.trans h4)) (by omega)) fun w5 h5 => gIf_nt (h4.trans h5)))), ?_⟩
  rintro _ w6 h6
  refine gCall_u (Spoil_any ((hion.ev (h2.trans h3)).ev h6) (by omega)) fun w7 ⟨h7, _⟩ => ?_
  have hib : ∀ g, i1.ownBlock = some g → w.heap.size ≤ g ∧ g < w1.heap.size := fun g hg => hion.base hg
  have hT6 := hT.ev h6
  have hT7 : Two w w7 rad pad ad2 y b xs 0 0 := by
    obtain ⟨k1, k2, k3, k4, k5, k6, k7, k8, k9⟩ := hT6
    refine ⟨⟨k1.1.ch h7 fun _ _ hh => ?_, k1.2.1.ch' h7 (fun i hh => ?_) fun hx g i hg hh => ?_, k1.2.2⟩, k2.ch' h7 (fun i hh => ?_) fun hx g i hg hh => ?_, k3.new h7 fun n i hh => (hib n hh).1, k4, k5, k6, k7, k8, k9⟩
    · have := hib _ hh; omega
    · have := hib _ hh; omega
    · have := hib _ hh; have := hy g hg; omega
    · have := hib _ hh; have := h2.size; omega
    · have := hib _ hh; have := hblt hx g hg; omega
  refine ⟨fun i w' => ∃ (j a : Nat) (er : Int), i = j ∧ j ≤ 200 ∧ Two w w' rad pad ad2 y b xs a er, fun i _ => 200 - i.toNat, ⟨0, 0, 0, rfl, by omega, hT7⟩, ?_⟩
  rintro _ i w9 ⟨j, a, er, rfl, hj, hT9⟩
  have hold := hT9.2.2.1
  refine ⟨fun w' => j < n ∧ j < 200 ∧ w' = w9, ?_, ?_⟩
  · refine gLen_slv hS ?_
    refine gIf_dec (fun hlt => ?_) (fun _ => ?_)
    · refine gIf_dec (fun hlt2 => ?_) (fun _ => ?_)
      · exact ⟨Int.ofNat_lt.1 hlt, Int.ofNat_lt.1 hlt2, rfl⟩
      · exact ⟨rfl, hold⟩
    · exact ⟨rfl, hold⟩
  rintro _ _ ⟨hjn, hj2, rfl⟩
  rename_i w9
  have hgo := hg j hjn
  obtain ⟨k0, c0, r0⟩ := good_fi (i := 0) (off := 0) (k := .i64) (ft := t_int) (by kernel_rfl) (by kernel_rfl) hgo
  obtain ⟨k1, c1, r1⟩ := good_fi (i := 1) (off := 1) (k := .i64) (ft := t_int) (by kernel_rfl) (by kernel_rfl) hgo
  obtain ⟨k2, c2, r2⟩ := good_fi (i := 2) (off := 2) (k := .u32) (ft := t_uint32) (by kernel_rfl) (by kernel_rfl) hgo
  rw [List.getElem?_take, if_pos (by decide), List.getElem?_drop] at c0 c1 c2
  refine ⟨fun w' => ∃ a2 er2, Two w w' rad pad ad2 y b xs a2 er2, ?_, ?_⟩
  · refine gIdx_sz (hS.ev hold) hjn (fun ad hc _ => gLoad_agg [.int .i64 k0, .int .i64 k1, .int .u32 k2] (fun q u hq => ?_) ?_ rfl (by kernel_rfl))
    · match q, hq with
      | 0, hq => exact hc 0 u (by decide) (by rw [c0]; exact hq)
      | 1, hq => exact hc 1 u (by decide) (by rw [c1]; exact hq)
      | 2, hq => exact hc 2 u (by decide) (by rw [c2]; exact hq)
    refine gAlloc_of (z := .agg #[.int .i64 0, .int .i64 0, .int .u32 0]) (by kernel_rfl) fun o9 w11 h11 ho9 _ hSo => gStore_agg0 hSo (by simp [Value.cells]) (by simp; exact ⟨rfl, rfl, rfl⟩) (fun w12 h12 _ hSo2 => ?_) (by kernel_rfl)
    have e12 : Ev w9 w12 := h11.new h12 fun n i hh => by rw [hh.1, ho9]; exact Nat.le_refl _
    have hSo3 : St w12 o9 [.int .i64 k0, .int .i64 k1, .int .u32 k2] := hSo2
    have hob : o9.block = w9.heap.size := by rw [ho9]
    have hT12 := hT9.ev e12
    have hp9 := hT9.1.2.1.1.lt
    have ha9 := hT9.2.1.1.lt
    have so1 : ∀ {wa wb : World} {a2 : Nat} {er2 : Int}, St wa o9 [.int .i64 k0, .int .i64 k1, .int .u32 k2] → PS wa wb pad y xs a2 er2 → St wb o9 [.int .i64 k0, .int .i64 k1, .int .u32 k2] := fun h hp => h.ch hp.2 fun _ _ hh => by have := hh.1; omega
    have so2 : ∀ {wa wb : World} {a2 : Nat} {er2 : Int}, St wa o9 [.int .i64 k0, .int .i64 k1, .int .u32 k2] → PS wa wb ad2 b xs a2 er2 → St wb o9 [.int .i64 k0, .int .i64 k1, .int .u32 k2] := fun h hp => h.ch hp.2 fun _ _ hh => by have := hh.1; omega
    refine ⟨fun ok w' => ok = true ∧ ∃ a2 er2, Two w w' rad pad ad2 y b xs a2 er2, ?_, ?_⟩
    · rw [Addr.add_zero']
      refine gLoad_i (by have := hSo3.cell (j := 0) rfl; rwa [Addr.add_zero'] at this) (gIf_eq (fun _ => ?_) (fun _ => gIf_eq (fun _ => ?_) (fun _ => gIf_eq (fun _ => ?_) (fun _ => ?_))))
      · refine ⟨fun w' => St w' o9 [.int .i64 k0, .int .i64 k1, .int .u32 k2], hSo3.drew, gLoadB_i (fun w' h => h.cell (j := 1) rfl) (gLoadB_i (fun w' h => h.cell (j := 1) rfl) (gCall_i (Bits_R (hT12.ev (Ev.drew0 _)).1) fun w13 h13 => ⟨so1 hSo3.drew h13, gCall_i (fBits_any ((hT12.ev (Ev.drew0 _)).mid h13)) fun w14 h14 => ⟨so2 (so1 hSo3.drew h13) h14, by simp, _, _, (hT12.ev (Ev.drew0 _)).both h13 h14⟩⟩))⟩
      · refine ⟨fun w' => St w' o9 [.int .i64 k0, .int .i64 k1, .int .u32 k2], hSo3.drew, gLoadB_i (fun w' h => h.cell (j := 1) rfl) (gLoadB_i (fun w' h => h.cell (j := 1) rfl) (gCall_i (Unary_R (hT12.ev (Ev.drew0 _)).1) fun w13 h13 => ⟨so1 hSo3.drew h13, gCall_i (fUnary_any ((hT12.ev (Ev.drew0 _)).mid h13)) fun w14 h14 => ⟨so2 (so1 hSo3.drew h13) h14, by simp, _, _, (hT12.ev (Ev.drew0 _)).both h13 h14⟩⟩))⟩
      · refine gCall_i (End_R hT12.1) fun w13 h13 => gCall_i (fEnd_any (hT12.ev h13).2.1) fun w14 h14 => ⟨by simp, _, _, (hT12.ev h13).ev h14⟩
      · exact gCall_i (Bit_R hT12.1) fun w13 h13 => gCall_i (fBit_any (hT12.mid h13)) fun w14 h14 => ⟨by simp, _, _, hT12.both h13 h14⟩
    · rintro _ ok w21 ⟨rfl, a2, er2, hT21⟩
      refine ⟨fun w' => Ev w21 w', Ev.drew0 _, gIf_nn ?_⟩
      have hTd := hT21.ev (Ev.drew0 w21)
      refine gCall_i (Left_R hTd.1) fun w22 h22 => ⟨(Ev.drew0 w21).trans h22, gCall_i (fLeft_any (hTd.ev h22).2.1) fun w23 h23 => ⟨(Ev.drew0 w21).trans (h22.trans h23), gIf_nneq (fun _ => ?_) (fun h => (h rfl).elim)⟩⟩
      have hT23 := (hTd.ev h22).ev h23
      have e23 : Ev w21 w23 := (Ev.drew0 w21).trans (h22.trans h23)
      refine gNil_some (gLoadB_i (fun w' hw' => (hT21.2.1.1.ev hw').cell (j := 2) rfl) (gCall_i0 (Err_R hT23.1) ⟨e23, gIf_nneq (fun _ => ?_) (fun h => (h rfl).elim)⟩))
      refine gCall_i (End_R hT23.1) fun w25 h25 => ⟨e23.trans h25, gCall_i (fEnd_any (hT23.ev h25).2.1) fun w26 h26 => ⟨e23.trans (h25.trans h26), gIf_neq (fun h => (h rfl).elim) (fun _ => ⟨a2, er2, (hT23.ev h25).ev h26⟩)⟩⟩
  · rintro _ w27 ⟨a2, er2, hT27⟩
    rw [i64_id (n := (j : Int) + 1) (by omega) (by omega)]
    exact ⟨⟨j + 1, a2, er2, rfl, by omega, hT27⟩, by dsimp only; omega⟩
end Go.Proofs.YtbcobdmgabcpjaaV
