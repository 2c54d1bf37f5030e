/- Package text: Uncaps; the same of valiseref22; Caps of valiseref22; the law TextCaps. -/
import Derived.Test.YthnljfogfaoahaaDoorVTextA
import Derived.Test.YthnljfogfaoahaaDoorVHelp
import Derived.Test.YthnljfogfaoahaaDoorVHelpOwn
namespace Go.Proofs.YthnljfogfaoahaaDoorV
open Go Go.RowKit
def uncT (xs : List Int) (most : Int) : List Int × Int := uncL (limT most) (xs.length + 1) xs []
/-- What comes behind a byte that was put. -/
def uncN (lim : Int) (f : Nat) (r out : List Int) : List Int × Int := if (out.length : Int) > lim then ([], 5) else uncL lim f r out
section
variable {b : Value} {xs : List Int} {w : World}
theorem uncL_one {lim : Int} {f : Nat} {c : Int} {r out : List Int} (h : ¬ (c = 2 ∨ c = 3)) : uncL lim (f + 1) (c :: r) out = uncN lim f r (out ++ [c]) := by cases r <;> (rw [uncL, if_neg h]; rfl)
theorem uncL_end {lim : Int} {f : Nat} {c : Int} {out : List Int} (h : c = 2 ∨ c = 3) : uncL lim (f + 1) [c] out = ([], 3) := by rw [uncL, if_pos h]
theorem uncL_cap {lim : Int} {f : Nat} {c d : Int} {r out : List Int} (h : c = 2 ∧ 97 ≤ d ∧ d ≤ 122) : uncL lim (f + 1) (c :: d :: r) out = uncN lim f r (out ++ [d - 32]) := by rw [uncL, if_pos (.inl h.1), if_pos h]; rfl
theorem uncL_esc {lim : Int} {f : Nat} {c d : Int} {r out : List Int} (h : c = 3 ∧ (d = 2 ∨ d = 3)) : uncL lim (f + 1) (c :: d :: r) out = uncN lim f r (out ++ [d]) := by rw [uncL, if_pos (.inr h.1), if_neg (by omega), if_pos h]; rfl
theorem uncL_bad {lim : Int} {f : Nat} {c d : Int} {r out : List Int} (h : c = 2 ∨ c = 3) (h1 : ¬ (c = 2 ∧ 97 ≤ d ∧ d ≤ 122)) (h2 : ¬ (c = 3 ∧ (d = 2 ∨ d = 3))) : uncL lim (f + 1) (c :: d :: r) out = ([], 4) := by rw [uncL, if_pos h, if_neg h1, if_neg h2]
theorem capB_sub {d : Int} (h : 0 ≤ d ∧ d < 256) : (capB (u8 (d - 32)) = true ∧ 97 ≤ d) ↔ (97 ≤ d ∧ d ≤ 122) := by
  unfold capB
  rw [decide_eq_true_iff, u8_def]; omega
theorem Uncaps_any {most : Int} (hb : Nm .u8 w b xs) (hl : xs.length ≤ 100000000) : Calls P n_text_Uncaps #[b, .int .i64 most] w (TupE w (uncT xs most)) := by
  refine of_text_Uncaps (fAlloc (z := .agg #[.slice none 0 0]) (Fr.start w) (by kernel_rfl) fun ad w1 f1 => ?_)
  have f1 := f1.asW (e := eB) 0 rfl
  rw [Addr.add_zero' ad]
  obtain ⟨res, hres⟩ : ∃ r, r = uncT xs most := ⟨_, rfl⟩
  have bad : ∀ {w' : World} {n : Int}, Ev w w' → res = ([], n) → TupE w (uncT xs most) (.returned (.tuple #[.slice none 0 0, .int .i64 n])) w' := fun he hn => by rw [← hres, hn]; exact ⟨_, rfl, he, ON.nil _ _ _ _⟩
  refine ⟨fun i w' => ∃ (j f : Nat) (v : Value) (out : List Int), i = j ∧ j ≤ xs.length ∧ xs.length < f + j ∧ res = uncL (limT most) f (xs.drop j) out ∧ out.length ≤ j ∧ Fr w w' [wIt eB ad v out], fun i _ => xs.length - i.toNat, ⟨0, xs.length + 1, _, [], rfl, by omega, by omega, hres, by simp, f1⟩, ?_⟩
  rintro _ i w2 ⟨j, f, v, out, rfl, hj, hf, hr, hol, f2⟩
  obtain ⟨f, rfl⟩ : ∃ g, f = g + 1 := ⟨f - 1, by omega⟩
  have hbw := hb.ev f2.old
  refine gLen_nm hb (gIf_dec (fun hlt => ?_) (fun hge => ?_))
  · have hlt' : j < xs.length := by omega
    have hc := rd_u8 hb.2 j
    rw [drop_rd hlt'] at hr
    refine ⟨fun i w' => ∃ (q f : Nat) (v : Value) (out : List Int), i = q ∧ j ≤ q ∧ q < xs.length ∧ xs.length < f + (q + 1) ∧ res = uncL (limT most) f (xs.drop (q + 1)) out ∧ out.length ≤ q + 1 ∧ Fr w w' [wIt eB ad v out], gIdx_nm hbw (by omega) hlt fun a1 c1 _ => gLoad_i c1 ⟨fun i w' => ∃ (q f : Nat) (v : Value) (out : List Int), i = q ∧ j ≤ q ∧ q < xs.length ∧ xs.length < f + (q + 1) ∧ res = uncN (limT most) f (xs.drop (q + 1)) out ∧ out.length ≤ q + 1 ∧ Fr w w' [wIt eB ad v out], ⟨fun t w' => (t = true ↔ ¬ (rd xs j = 2 ∨ rd xs j = 3)) ∧ w2 = w', gIf_neq (fun n2 => ⟨by simp; omega, rfl⟩) (fun e2 => ⟨by simp; omega, rfl⟩), ?_⟩, ?_⟩, ?_⟩
    · rintro _ t _ ⟨ht, rfl⟩
      refine gIf_b (fun h => ?_) (fun h => ?_)
      · have hn := ht.1 h
        rw [uncL_one hn] at hr
        exact fPutLit [rd xs j] rfl rfl (fun x hx => by simp at hx; subst hx; exact u8i hc) f2 (by omega) (by decide) fun v' w3 f3 => ⟨j, f, v', _, rfl, by omega, hlt', by omega, hr, by simp; omega, f3⟩
      · have h23 : rd xs j = 2 ∨ rd xs j = 3 := by
          rcases Classical.em (rd xs j = 2 ∨ rd xs j = 3) with h1 | h1
          · exact h1
          · rw [ht.2 h1] at h; cases h
        rw [show i64 ((j : Int) + 1) = ((j + 1 : Nat) : Int) by rw [i64_id (by omega) (by omega)]; omega]
        refine gLen_nm hb (gIf_eq (fun e => ?_) (fun ne => ?_))
        · rw [List.drop_of_length_le (by omega), uncL_end h23] at hr
          exact bad f2.old hr
        · have hlt2 : j + 1 < xs.length := by omega
          have hd := rd_u8 hb.2 ((j + 1 : Nat) : Int)
          have hcs := capB_sub hd
          rw [drop_rd hlt2] at hr
          refine gIdx_nm hbw (by omega) (by omega) fun a2 c2 _ => gLoad_i c2 ⟨fun t w' => (t = true ↔ (rd xs j = 2 ∧ 97 ≤ rd xs ((j + 1 : Nat) : Int) ∧ rd xs ((j + 1 : Nat) : Int) ≤ 122)) ∧ w2 = w', gIf_eq (fun e2 => gCall_b0 capital_any (gIf_b (fun h1 => ⟨?_, rfl⟩) (fun h1 => ⟨?_, rfl⟩))) (fun n2 => ⟨by simp [n2], rfl⟩), ?_⟩
          · rw [h1] at hcs
            rw [decide_eq_true_iff]
            constructor
            · intro h2; exact ⟨e2, hcs.1 ⟨rfl, h2⟩⟩
            · intro h2; exact h2.2.1
          · rw [h1] at hcs
            constructor
            · intro h2; cases h2
            · intro h2; have := hcs.2 h2.2; exact absurd this.1 (by simp)
          rintro _ t2 _ ⟨ht2, rfl⟩
          refine gIf_b (fun h2 => ?_) (fun h2 => ?_)
          · have hcap := ht2.1 h2
            rw [uncL_cap hcap] at hr
            rw [u8_id (n := rd xs ((j + 1 : Nat) : Int) - 32) (by omega) (by omega)]
            exact fPutLit [rd xs ((j + 1 : Nat) : Int) - 32] rfl rfl (fun x hx => by rw [List.mem_singleton.1 hx]; exact u8i (by omega)) f2 (by omega) (by decide) fun v' w3 f3 => ⟨j + 1, f, v', _, rfl, by omega, hlt2, by omega, hr, by simp; omega, f3⟩
          · have hncap : ¬ (rd xs j = 2 ∧ 97 ≤ rd xs ((j + 1 : Nat) : Int) ∧ rd xs ((j + 1 : Nat) : Int) ≤ 122) := fun h3 => by rw [ht2.2 h3] at h2; cases h2
            have put : (rd xs j = 3 ∧ (rd xs ((j + 1 : Nat) : Int) = 2 ∨ rd xs ((j + 1 : Nat) : Int) = 3)) → gLit P t_sl_uint8 1 #[(0, .int .u8 (rd xs ((j + 1 : Nat) : Int)))] w2 fun (t70 : Value) ww10 => gCall P n_text_writer_put shU #[.pointer (some ad), t70] ww10 fun ww11 => ∃ (q f : Nat) (v : Value) (out : List Int), (((j + 1 : Nat) : Int) = q ∧ j ≤ q ∧ q < xs.length ∧ xs.length < f + (q + 1) ∧ res = uncN (limT most) f (xs.drop (q + 1)) out ∧ out.length ≤ q + 1 ∧ Fr w ww11 [wIt eB ad v out]) := fun h3 => by
              rw [uncL_esc h3] at hr
              exact fPutLit [rd xs ((j + 1 : Nat) : Int)] rfl rfl (fun x hx => by rw [List.mem_singleton.1 hx]; exact u8i hd) f2 (by omega) (by decide) fun v' w3 f3 => ⟨j + 1, f, v', _, rfl, by omega, hlt2, by omega, hr, by simp; omega, f3⟩
            refine gIf_eq (fun e3 => gIf_neqq (fun n2 => gIf_eq (fun d3 => put ⟨e3, .inr d3⟩) (fun n3 => ?_)) (fun d2 => put ⟨e3, .inl d2⟩)) (fun n3 => ?_)
            · rw [uncL_bad h23 hncap (by omega)] at hr; exact bad f2.old hr
            · rw [uncL_bad h23 hncap (by omega)] at hr; exact bad f2.old hr
    · rintro _ i w3 ⟨q, f3', v3, out3, rfl, hq, hq2, hf3, hr3, hol3, f3⟩
      refine gCall_b0 (over_any (f3.get 0 rfl)) (gIf_dec (fun h => ?_) (fun h => ?_))
      · unfold uncN at hr3; rw [if_pos h] at hr3; exact bad f3.old hr3
      · unfold uncN at hr3; rw [if_neg h] at hr3; exact ⟨q, f3', v3, out3, rfl, hq, hq2, hf3, hr3, hol3, f3⟩
    · rintro _ i w3 ⟨q, f3', v3, out3, rfl, hq, hq2, hf3, hr3, hol3, f3⟩
      rw [i64_id (n := (q : Int) + 1) (by omega) (by omega)]
      exact ⟨⟨q + 1, f3', v3, out3, rfl, by omega, by omega, hr3, hol3, f3⟩, by dsimp only; omega⟩
  · obtain rfl : j = xs.length := by omega
    have hW : Wr eB w2 ad v out := f2.get 0 rfl
    refine gLoad_v (hW.1.cell (j := 0) rfl) ?_
    rw [List.drop_of_length_le (Nat.le_refl _), uncL] at hr
    rw [← hres, hr]
    exact ⟨v, rfl, f2.old, on_new hW.2.1 fun g hg => (f2.ft 0 rfl (k := g) (.inr hg)).1⟩
theorem rlim_eq {most n : Int} : (n > (if 0 > most then 0 else most) ∨ n > 1048576) ↔ n > limT most := by
  unfold limT
  split
  · omega
  · split <;> omega
theorem awake_any {w : World} : Calls P n_valiselaw22_awake #[] w (fun e w' => e = .returned (.bool true) ∧ Ev w w') := by
  have hin : inR .u8 [65, 98] := fun x hx => by simp at hx; rcases hx with rfl | rfl <;> decide
  have hp : capsT [65, 98] = ([2, 97, 98], true) := by decide
  refine of_valiselaw22_awake (fLitC [65, 98] (Fr.start w) rfl rfl hin fun v w2 f2 => fCallTB f2 (Caps_any (Cn.nm (f2.get 0 rfl)) (by decide)) fun y w3 f3 => ?_)
  rw [hp] at f3 ⊢
  refine gIf_t (gConv_bs (f3.nm 0 rfl) ⟨?_, f3.old⟩)
  show Ending.returned (.bool ((bsOf [2, 97, 98]).toList == (ByteArray.mk #[2, 97, 98]).toList)) = _
  rw [show ByteArray.mk #[2, 97, 98] = bsOf [2, 97, 98] by decide]; simp
theorem awake_end {w0 w : World} (h : Ev w0 w) : gCall P n_valiselaw22_awake shB #[] w fun t ww => Holds w0 (.returned (.bool t)) ww := gCall_b awake_any fun _ h2 => ⟨rfl, h.trans h2⟩
end
end Go.Proofs.YthnljfogfaoahaaDoorV
