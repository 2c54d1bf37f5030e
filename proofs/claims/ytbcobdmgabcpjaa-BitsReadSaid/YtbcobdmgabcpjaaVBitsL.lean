/- The laws of bits: awake, BitsNil. -/
import Derived.Test.YtbcobdmgabcpjaaVBitsD
import Derived.Test.YtbcobdmgabcpjaaVLaw
namespace Go.Proofs.YtbcobdmgabcpjaaV
open Go Go.RowKit
theorem newWb {w : World} {K : Addr → World → Prop} (hk : ∀ ad w', Ev w w' → w.heap.size ≤ ad.block → Wb w' ad (.slice none 0 0) [] → K ad w') : gAlloc P t_bits_Writer w K :=
  gAlloc_of (z := .agg #[.slice none 0 0, .int .i64 0]) (by kernel_rfl) fun ad w' h1 had hs hS => hk ad w' h1 (by rw [had]; exact Nat.le_refl _) ⟨[], hS, ON.nil _ _ _ _, (fun h => by cases h), Packs.nil⟩
theorem WbS.evn {w0 w w' : World} {ad : Addr} {v v' : Value} {bs : List Int} (h0 : Ev w0 w) (h : WbS w w' ad v v' bs) (hb : w0.heap.size ≤ ad.block) (hv : ∀ g, v.ownBlock = some g → w0.heap.size ≤ g) : Ev w0 w' ∧ ∀ g, v'.ownBlock = some g → w0.heap.size ≤ g := by
  refine ⟨h0.new h.2.1 fun n i hf => ?_, fun g hg => ?_⟩
  · rcases hf with rfl | hf
    · exact hb
    · exact hv n hf
  · rcases h.2.2 with hm | hm
    · exact hv g (hm ▸ hg)
    · exact Nat.le_trans h0.size (hm g hg)
theorem awake_any {w : World} : Calls P n_valiselaw01_awake #[] w (fun e w' => e = .returned (.bool true) ∧ Ev w w') := by
  refine of_valiselaw01_awake (newWb fun ad w1 h1 hb hW => gCall_u (Bits_any hW (by decide) (by decide)) fun w2 ⟨v2, h2⟩ => ?_)
  have e2 := WbS.evn h1 h2 hb (fun g hg => by cases hg)
  refine gCall_u (Unary_any h2.1 (by decide)) fun w3 ⟨v3, h3⟩ => ?_
  have e3 := WbS.evn e2.1 h3 hb e2.2
  have eb : ([] ++ bitsL 5 (cl32 3) ++ (List.replicate (cl4096 2) 1 ++ [0])) = ([1, 0, 1, 1, 1, 0] : List Int) := by decide
  rw [eb] at h3
  refine gCall_v (wBytes_any h3.1 (by decide)) fun y w4 ⟨h4, xs, hy, hp⟩ => ?_
  have hx : xs = [184] := hp.uniq hy.2 (fun x hx => by simp at hx; subst hx; decide) ⟨rfl, by decide⟩
  subst hx
  exact gLen_nm hy.nm (gIf_t (gIdx_nm hy.nm (by decide) (by decide) fun a1 c1 _ => gLoad_i c1 (gIf_t (gCall_i0 (Len_any (h3.1.ev h4)) ⟨rfl, e3.1.trans h4⟩))))
theorem awake_end {w : World} : gCall P n_valiselaw01_awake shB #[] w fun t ww => Holds w (.returned (.bool t)) ww := gCall_b awake_any fun _ h => ⟨rfl, h⟩
theorem gCall_u0 {P : Program} {w : World} {f : FuncId} {args : Array Value} {K : World → Prop} (h : Calls P f args w fun e w' => e = .returned (.tuple #[]) ∧ w' = w) (hk : K w) : gCall P f shU args w K :=
  gCall_of h fun _ w' ⟨h1, h2⟩ => ⟨h1, by subst h2; exact hk⟩
theorem gCall_v0 {P : Program} {w : World} {f : FuncId} {args : Array Value} {v : Value} {K : Value → World → Prop} (h : Calls P f args w fun e w' => e = .returned v ∧ w' = w) (hk : K v w) : gCall P f shV args w K :=
  gCall_of h fun _ w' ⟨h1, h2⟩ => ⟨v, h1, by subst h2; exact hk⟩
theorem BitsNil_law {v n : Int} {w : World} (_hv : IntKind.u32.min ≤ v ∧ v ≤ IntKind.u32.max) (_hn : IntKind.i64.min ≤ n ∧ n ≤ IntKind.i64.max) : Calls P n_valiselaw01_BitsNil #[.int .u32 v, .int .i64 n] w (Holds w) :=
  of_valiselaw01_BitsNil (gCall_u0 Bit_nil (gCall_u0 Bits_nil (gCall_u0 Unary_nil (gCall_b awake_any fun w1 h1 => gIf_t (gCall_i0 Len_nil (gIf_t (gCall_v0 wBytes_nil (gLen_sl (gIf_t (gCall_i0 Bit_Rnil (gIf_t (gCall_i0 Bits_Rnil (gIf_t (gCall_i0 Unary_Rnil (gIf_t (gCall_i0 Left_Rnil (gIf_t (gCall_i0 Err_Rnil (gIf_t (gCall_i0 End_Rnil ⟨rfl, h1⟩))))))))))))))))))))
end Go.Proofs.YtbcobdmgabcpjaaV
