/- Package text: Uncaps; the same of valiseref22; Caps of valiseref22; the law TextCaps. -/
import Derived.Test.YthnljfogfaoahaaVTextA
import Derived.Test.YthnljfogfaoahaaVHelp
import Derived.Test.YthnljfogfaoahaaVHelpOwn
namespace Go.Proofs.YthnljfogfaoahaaV
open Go Go.RowKit
def uncT (xs : List Int) (most : Int) : List Int × Int := uncL (limT most) (xs.length + 1) xs []
/-- What comes behind a byte that was put. -/
def uncN (lim : Int) (f : Nat) (r out : List Int) : List Int × Int := if (out.length : Int) > lim then ([], 5) else uncL lim f r out
section
variable {b : Value} {xs : List Int} {w : World}
theorem uncL_one {lim : Int} {f : Nat} {c : Int} {r out : List Int} (h : ¬ (c = 2 ∨ c = 3)) : uncL lim (f + 1) (c :: r) out = uncN lim f r (out ++ [c]) := by cases r <;> (rw [uncL, if_neg h]; rfl)
theorem uncL_end {lim : Int} {f : Nat} {c : Int} {out : List Int} (h : c = 2 ∨ c = 3) : uncL lim (f + 1) [c] out = ([], 3) := by rw [uncL, if_pos h]
theorem uncL_cap {lim : Int} {f : Nat} {c d : Int} {r out : List Int} (h : c = 2 ∧ 97 ≤ d ∧ d ≤ 122) : uncL lim (f + 1) (c :: d :: r) out = uncN lim f r (out ++ [d - 32]) := by rw [uncL, if_pos (.inl h.1), if_pos h]; rfl
theorem uncL_esc {lim : Int} {f : Nat} {c d : Int} {r out : List Int} (h : c = 3 ∧ (d = 2 ∨ d = 3)) : uncL lim (f + 1) (c :: d :: r) out = uncN lim f r (out ++ [d]) := by rw [uncL, if_pos (.inr h.1), if_neg (by omega), if_pos h]; rfl
theorem uncL_bad {lim : Int} {f : Nat} {c d : Int} {r out : List Int} (h : c = 2 ∨ c = 3) (h1 : ¬ (c = 2 ∧ 97 ≤ d ∧ d ≤ 122)) (h2 : ¬ (c = 3 ∧ (d = 2 ∨ d = 3))) : uncL lim (f + 1) (c :: d :: r) out = ([], 4) := by rw [uncL, if_pos h, if_neg h1, if_neg h2]
theorem capB_sub {d : Int} (h : 0 ≤ d ∧ d < 256) : (capB (u8 (d - 32)) = true ∧ 97 ≤ d) ↔ (97 ≤ d ∧ d ≤ 122) := by
  unfold capB
  rw [decide_eq_true_iff, u8_def]; omega
theorem Uncaps_any {most : Int} (hb : Nm .u8 w b xs) (hl : xs.length ≤ 100000000) : Calls P n_text_Uncaps #[b, .int .i64 most] w (TupE w (uncT xs most)) := by
  refine of_text_Uncaps (fAlloc (z := .agg #[.slice none 0 0]) (Fr.start w) (by kernel_rfl) fun ad w1 f1 => ?_)
  have f1 := f1.asW (e := eB) 0 rfl
  rw [Addr.add_zero' ad]
  obtain ⟨res, hres⟩ : ∃ r, r = uncT xs most := ⟨_, rfl⟩
  have bad : ∀ {w' : World} {n : Int}, Ev w w' → res = ([], n) → TupE w (uncT xs most) (.returned (.tuple #[.slice none 0 0, .int .i64 n])) w' := fun he hn => by rw [← hres, hn]; exact ⟨_, rfl, he, ON.nil _ _ _ _⟩
  refine ⟨fun i w' => ∃ (j f : Nat) (v : Value) (out : List Int), i = j ∧ j ≤ xs.length ∧ xs.length < f + j ∧ res = uncL (limT most) f (xs.drop j) out ∧ out.length ≤ j ∧ Fr w w' [wIt eB ad v out], fun i _ => xs.length - i.toNat, ⟨0, xs.length + 1, _, [], rfl, by omega, by omega, hres, by simp, f1⟩, ?_⟩
  rintro _ i w2 ⟨j, f, v, out, rfl, hj, hf, hr, hol, f2⟩
  obtain ⟨f, rfl⟩ : ∃ g, f = g + 1 := ⟨f - 1, by omega⟩
  have hbw := hb.ev f2.old
  refine gLen_nm hb (gIf_dec (fun hlt => ?_) (fun hge => ?_))
  · have hlt' : j < xs.length := by omega
    have hc := rd_u8 hb.2 j
    rw [drop_rd hlt'] at hr
    refine ⟨fun i w' => ∃ (q f : Nat) (v : Value) (out : List Int), i = q ∧ j ≤ q ∧ q < xs.length ∧ xs.length < f + (q + 1) ∧ res = uncL (limT most) f (xs.drop (q + 1)) out ∧ out.length ≤ q + 1 ∧ Fr w w' [wIt eB ad v out], gIdx_nm hbw (by omega) hlt fun a1 c1 _ => gLoad_i c1 ⟨fun i w' => ∃ (q f : Nat) (v : Value) (out : List Int), i = q ∧ j ≤ q ∧ q < xs.length ∧ xs.length < f + (q + 1) ∧ res = uncN (limT most) f (xs.drop (q + 1)) out ∧ out.length ≤ q + 1 ∧ Fr w w' [wIt eB ad v out], ⟨fun t w' => (t = true ↔ ¬ (rd xs j = 2 ∨ rd xs j = 3)) ∧ w2 = w', gIf_neq (fun n2 => ⟨by simp; omega, rfl⟩) (fun e2 => ⟨by simp; omega, rfl⟩), ?_⟩, ?_⟩, ?_⟩
    · rintro _ t _ ⟨ht, rfl⟩
      refine gIf_b (fun h => ?_) (fun h => ?_)
      · have hn := ht.1 h
        rw [uncL_one hn] at hr
        exact fPutLit [rd xs j] rfl rfl (fun x hx => by simp at hx; subst hx; exact u8i hc) f2 (by omega) (by decide) fun v' w3 f3 => ⟨j, f, v', _, rfl, by omega, hlt', by omega, hr, by simp; omega, f3⟩
      · have h23 : rd xs j = 2 ∨ rd xs j = 3 := by
          rcases Classical.em (rd xs j = 2 ∨ rd xs j = 3) with h1 | h1
          · exact h1
          · rw [ht.2 h1] at h; cases h
        rw [show i64 ((j : Int) + 1) = ((j + 1 : Nat) : Int) by rw [i64_id (by omega) (by omega)]; omega]
        refine gLen_nm hb (gIf_eq (fun e => ?_) (fun ne => ?_))
        · rw [List.drop_of_length_le (by omega), uncL_end h23] at hr
          exact bad f2.old hr
        · have hlt2 : j + 1 < xs.length := by omega
          have hd := rd_u8 hb.2 ((j + 1 : Nat) : Int)
          have hcs := capB_sub hd
          rw [drop_rd hlt2] at hr
          refine gIdx_nm hbw (by omega) (by omega) fun a2 c2 _ => gLoad_i c2 ⟨fun t w' => (t = true ↔ (rd xs j = 2 ∧ 97 ≤ rd xs ((j + 1 : Nat) : Int) ∧ rd xs ((j + 1 : Nat) : Int) ≤ 122)) ∧ w2 = w', gIf_eq (fun e2 => gCall_b0 capital_any (gIf_b (fun h1 => ⟨?_, rfl⟩) (fun h1 => ⟨?_, rfl⟩))) (fun n2 => ⟨by simp [n2], rfl⟩), ?_⟩
          · rw [h1] at hcs
            rw [decide_eq_true_iff]
            constructor
            · intro h2; exact ⟨e2, hcs.1 ⟨rfl, h2⟩⟩
            · intro h2; exact h2.2.1
          · rw [h1] at hcs
            constructor
            · intro h2; cases h2
            · intro h2; have := hcs.2 h2.2; exact absurd this.1 (by simp)
          rintro _ t2 _ ⟨ht2, rfl⟩
          refine gIf_b (fun h2 => ?_) (fun h2 => ?_)
          · have hcap := ht2.1 h2
            rw [uncL_cap hcap] at hr
            rw [u8_id (n := rd xs ((j + 1 : Nat) : Int) - 32) (by omega) (by omega)]
            exact fPutLit [rd xs ((j + 1 : Nat) : Int) - 32] rfl rfl (fun x hx => by rw [List.mem_singleton.1 hx]; exact u8i (by omega)) f2 (by omega) (by decide) fun v' w3 f3 => ⟨j + 1, f, v', _, rfl, by omega, hlt2, by omega, hr, by simp; omega, f3⟩
          · have hncap : ¬ (rd xs j = 2 ∧ 97 ≤ rd xs ((j + 1 : Nat) : Int) ∧ rd xs ((j + 1 : Nat) : Int) ≤ 122) := fun h3 => by rw [ht2.2 h3] at h2; cases h2
            have put : (rd xs j = 3 ∧ (rd xs ((j + 1 : Nat) : Int) = 2 ∨ rd xs ((j + 1 : Nat) : Int) = 3)) → gLit P t_sl_uint8 1 #[(0, .int .u8 (rd xs ((j + 1 : Nat) : Int)))] w2 fun (t70 : Value) ww10 => gCall P n_text_writer_put shU #[.pointer (some ad), t70] ww10 fun ww11 => ∃ (q f : Nat) (v : Value) (out : List Int), (((j + 1 : Nat) : Int) = q ∧ j ≤ q ∧ q < xs.length ∧ xs.length < f + (q + 1) ∧ res = uncN (limT most) f (xs.drop (q + 1)) out ∧ out.length ≤ q + 1 ∧ Fr w ww11 [wIt eB ad v out]) := fun h3 => by
              rw [uncL_esc h3] at hr
              exact fPutLit [rd xs ((j + 1 : Nat) : Int)] rfl rfl (fun x hx => by rw [List.mem_singleton.1 hx]; exact u8i hd) f2 (by omega) (by decide) fun v' w3 f3 => ⟨j + 1, f, v', _, rfl, by omega, hlt2, by omega, hr, by simp; omega, f3⟩
            refine gIf_eq (fun e3 => gIf_neqq (fun n2 => gIf_eq (fun d3 => put ⟨e3, .inr d3⟩) (fun n3 => ?_)) (fun d2 => put ⟨e3, .inl d2⟩)) (fun n3 => ?_)
            · rw [uncL_bad h23 hncap (by omega)] at hr; exact bad f2.old hr
            · rw [uncL_bad h23 hncap (by omega)] at hr; exact bad f2.old hr
    · rintro _ i w3 ⟨q, f3', v3, out3, rfl, hq, hq2, hf3, hr3, hol3, f3⟩
      refine gCall_b0 (over_any (f3.get 0 rfl)) (gIf_dec (fun h => ?_) (fun h => ?_))
      · unfold uncN at hr3; rw [if_pos h] at hr3; exact bad f3.old hr3
      · unfold uncN at hr3; rw [if_neg h] at hr3; exact ⟨q, f3', v3, out3, rfl, hq, hq2, hf3, hr3, hol3, f3⟩
    · rintro _ i w3 ⟨q, f3', v3, out3, rfl, hq, hq2, hf3, hr3, hol3, f3⟩
      rw [i64_id (n := (q : Int) + 1) (by omega) (by omega)]
      exact ⟨⟨q + 1, f3', v3, out3, rfl, by omega, by omega, hr3, hol3, f3⟩, by dsimp only; omega⟩
  · obtain rfl : j = xs.length := by omega
    have hW : Wr eB w2 ad v out := f2.get 0 rfl
    refine gLoad_v (hW.1.cell (j := 0) rfl) ?_
    rw [List.drop_of_length_le (Nat.le_refl _), uncL] at hr
    rw [← hres, hr]
    exact ⟨v, rfl, f2.old, on_new hW.2.1 fun g hg => (f2.ft 0 rfl (k := g) (.inr hg)).1⟩
theorem rlim_eq {most n : Int} : (n > (if 0 > most then 0 else most) ∨ n > 1048576) ↔ n > limT most := by
  unfold limT
  split
  · omega
  · split <;> omega
theorem rUncaps_any {most : Int} (hb : Nm .u8 w b xs) (hl : xs.length ≤ 100000000) : Calls P n_valiseref22_Uncaps #[b, .int .i64 most] w (TupE w (uncT xs most)) := by
  obtain ⟨res, hres⟩ : ∃ r, r = uncT xs most := ⟨_, rfl⟩
  have bad : ∀ {w' : World} {n : Int}, Ev w w' → res = ([], n) → TupE w (uncT xs most) (.returned (.tuple #[.slice none 0 0, .int .i64 n])) w' := fun he hn => by rw [← hres, hn]; exact ⟨_, rfl, he, ON.nil _ _ _ _⟩
  refine of_valiseref22_Uncaps ⟨fun o i w' => ∃ (j f : Nat) (out : List Int), i = j ∧ j ≤ xs.length ∧ xs.length < f + j ∧ res = uncL (limT most) f (xs.drop j) out ∧ out.length ≤ j ∧ Fr w w' [oIt .u8 eB o out], fun _ i _ => xs.length - i.toNat, ⟨0, xs.length + 1, [], rfl, by omega, by omega, hres, by simp, (Fr.start w).nil0 _ _⟩, ?_⟩
  rintro _ o i w2 ⟨j, f, out, rfl, hj, hf, hr, hol, f2⟩
  obtain ⟨f, rfl⟩ : ∃ g, f = g + 1 := ⟨f - 1, by omega⟩
  have hbw := hb.ev f2.old
  refine gLen_nm hb (gIf_dec (fun hlt => ?_) (fun hge => ?_))
  · have hlt' : j < xs.length := by omega
    have hc := rd_u8 hb.2 j
    rw [drop_rd hlt'] at hr
    refine ⟨fun o i w' => ∃ (q f : Nat) (out : List Int), i = q ∧ j ≤ q ∧ q < xs.length ∧ xs.length < f + (q + 1) ∧ res = uncL (limT most) f (xs.drop (q + 1)) out ∧ out.length ≤ q + 1 ∧ Fr w w' [oIt .u8 eB o out], gIdx_nm hbw (by omega) hlt fun a1 c1 _ => gLoad_i c1 ⟨fun i c w' => ∃ (q : Nat), i = q ∧ j ≤ q ∧ q < xs.length ∧ (0 ≤ c ∧ c < 256) ∧ xs.length < f + (q + 1) ∧ res = uncN (limT most) f (xs.drop (q + 1)) (out ++ [c]) ∧ w2 = w', ⟨fun t w' => (t = true ↔ (rd xs j = 2 ∨ rd xs j = 3)) ∧ w2 = w', gIf_neqq (fun n2 => ⟨by simp [n2], rfl⟩) (fun e2 => ⟨by simp [e2], rfl⟩), ?_⟩, ?_⟩, ?_⟩
    · rintro _ t _ ⟨ht, rfl⟩
      refine gIf_b (fun h => ?_) (fun h => ?_)
      · have h23 := ht.1 h
        rw [show i64 ((j : Int) + 1) = ((j + 1 : Nat) : Int) by rw [i64_id (by omega) (by omega)]; omega]
        refine gLen_nm hb (gIf_eq (fun e => ?_) (fun ne => ?_))
        · rw [List.drop_of_length_le (by omega), uncL_end h23] at hr
          exact bad f2.old hr
        · have hlt2 : j + 1 < xs.length := by omega
          have hd := rd_u8 hb.2 ((j + 1 : Nat) : Int)
          rw [drop_rd hlt2] at hr
          refine gIdx_nm hbw (by omega) (by omega) fun a2 c2 _ => gLoad_i c2 ?_
          generalize rd xs ((j + 1 : Nat) : Int) = d at *
          generalize rd xs (j : Int) = c at *
          have e3 : ¬ (c = 2 ∧ 97 ≤ d ∧ d ≤ 122) → ¬ (c = 3 ∧ (d = 2 ∨ d = 3)) → TupE w (uncT xs most) (.returned (.tuple #[.slice none 0 0, .int .i64 4])) w2 := fun h1 h2 => by
            rw [uncL_bad h23 h1 h2] at hr; exact bad f2.old hr
          refine ⟨fun w' => ((c = 2 ∧ 97 ≤ d ∧ d ≤ 122) ∨ (c = 3 ∧ (d = 2 ∨ d = 3))) ∧ w2 = w', ?_, ?_⟩
          · refine gIf_eq (fun e2 => gIf_ndec (fun g1 => gIf_ndec (fun g2 => gIf_eq (fun c3 => by omega) (fun c3 => ⟨.inl ⟨e2, by omega, by omega⟩, rfl⟩)) (fun g2 => e3 (by omega) (by omega))) (fun g1 => e3 (by omega) (by omega))) (fun n2 => gIf_eq (fun c3 => gIf_neq (fun d2 => gIf_neq (fun d3 => e3 (by omega) (by omega)) (fun d3 => ⟨.inr ⟨c3, .inr d3⟩, rfl⟩)) (fun d2 => ⟨.inr ⟨c3, .inl d2⟩, rfl⟩)) (fun c3 => by omega))
          · rintro _ _ ⟨hcd, rfl⟩
            refine gIf_eq (fun e2 => ?_) (fun n2 => ?_)
            · have hcap : c = 2 ∧ 97 ≤ d ∧ d ≤ 122 := by omega
              rw [uncL_cap hcap] at hr
              rw [u8_id (n := d - 32) (by omega) (by omega)]
              exact ⟨j + 1, rfl, by omega, hlt2, by omega, by omega, hr, rfl⟩
            · have hesc : c = 3 ∧ (d = 2 ∨ d = 3) := by omega
              rw [uncL_esc hesc] at hr
              exact ⟨j + 1, rfl, by omega, hlt2, hd, by omega, hr, rfl⟩
      · have hn : ¬ (rd xs j = 2 ∨ rd xs j = 3) := fun h1 => by rw [ht.2 h1] at h; cases h
        rw [uncL_one hn] at hr
        exact ⟨j, rfl, by omega, hlt', hc, by omega, hr, rfl⟩
    · rintro _ i c _ ⟨q, rfl, hq, hq2, hcr, hf3, hr3, rfl⟩
      refine fAppB rfl f2 hcr (by omega) fun o2 w3 f3 => ?_
      have hgood : ¬ (((out ++ [c]).length : Int) > limT most) → ∃ (q' f' : Nat) (out' : List Int), (q : Int) = q' ∧ j ≤ q' ∧ q' < xs.length ∧ xs.length < f' + (q' + 1) ∧ res = uncL (limT most) f' (xs.drop (q' + 1)) out' ∧ out'.length ≤ q' + 1 ∧ Fr w w3 [oIt .u8 eB o2 out'] := fun h => by
        unfold uncN at hr3; rw [if_neg h] at hr3
        exact ⟨q, f, _, rfl, hq, hq2, hf3, hr3, by simp; omega, f3⟩
      have hbad : ((out ++ [c]).length : Int) > limT most → TupE w (uncT xs most) (.returned (.tuple #[.slice none 0 0, .int .i64 5])) w3 := fun h => by
        unfold uncN at hr3; rw [if_pos h] at hr3; exact bad f3.old hr3
      refine gLen_nm (f3.nm 0 rfl) (gIf_ndec (fun g1 => gLen_nm (f3.nm 0 rfl) (gIf_dec (fun g2 => hbad (rlim_eq.1 (.inr g2))) (fun g2 => hgood fun hh => ?_))) (fun g1 => hbad (rlim_eq.1 (.inl g1))))
      rcases rlim_eq.2 hh with h1 | h1 <;> omega
    · rintro _ o3 i w3 ⟨q, f3', out3, rfl, hq, hq2, hf3, hr3, hol3, f3⟩
      rw [i64_id (n := (q : Int) + 1) (by omega) (by omega)]
      exact ⟨⟨q + 1, f3', out3, rfl, by omega, by omega, hr3, hol3, f3⟩, by dsimp only; omega⟩
  · obtain rfl : j = xs.length := by omega
    rw [List.drop_of_length_le (Nat.le_refl _), uncL] at hr
    rw [← hres, hr]
    exact ⟨o, rfl, f2.old, f2.on 0 rfl⟩
theorem rCaps_any (hb : Nm .u8 w b xs) (hl : xs.length ≤ 100000000) : Calls P n_valiseref22_Caps #[b] w (TupB w (capsT xs)) := by
  have hno : ∀ {w' : World}, Ev w w' → ¬ (xs.any capB = true ∧ xs.length ≤ 1048576) → TupB w (capsT xs) (.returned (.tuple #[.slice none 0 0, .bool false])) w' := fun he h => by unfold capsT; rw [if_neg h]; exact ⟨_, rfl, he, ON.nil _ _ _ _⟩
  refine of_valiseref22_Caps (gLen_nm hb (gIf_dec (fun h => hno (Ch.refl _ w) (by omega)) (fun hs => ?_)))
  refine ⟨fun o s i w' => ∃ j : Nat, i = j ∧ j ≤ xs.length ∧ s = (xs.take j).any capB ∧ Fr w w' [oIt .u8 eB o (capL (xs.take j))], fun _ _ i _ => xs.length - i.toNat, ⟨0, rfl, by omega, rfl, (Fr.start w).nil0 _ _⟩, ?_⟩
  rintro _ o s i w2 ⟨j, rfl, hj, rfl, f2⟩
  have hcl := capL_len (xs.take j)
  rw [List.length_take, Nat.min_eq_left hj] at hcl
  have hbw := hb.ev f2.old
  refine gLen_nm hb (gIf_dec (fun hlt => ?_) (fun hge => ?_))
  · have hlt' : j < xs.length := by omega
    have hc := rd_u8 hb.2 j
    have hs := capL_snoc xs j hlt'
    have hsu := capE_u8 hc
    have hany : (xs.take (j + 1)).any capB = ((xs.take j).any capB || capB (rd xs j)) := by rw [List.take_succ_eq_append_getElem hlt', ← rd_nat xs j hlt', List.any_append]; simp
    refine ⟨fun o s w' => s = (xs.take (j + 1)).any capB ∧ Fr w w' [oIt .u8 eB o (capL (xs.take (j + 1)))], gIdx_nm hbw (by omega) hlt fun a1 c1 _ => gLoad_i c1 ⟨fun t w' => t = capB (rd xs j) ∧ w2 = w', gIf_dec (fun h1 => ⟨?_, rfl⟩) (fun h1 => ⟨?_, rfl⟩), ?_⟩, ?_⟩
    · unfold capB; exact decide_eq_decide.2 ⟨fun h2 => ⟨h1, h2⟩, fun h2 => h2.2⟩
    · unfold capB; rw [decide_eq_false (fun h2 => h1 h2.1)]
    · rintro _ _ _ ⟨rfl, rfl⟩
      refine gIf_b (fun hcap => ?_) (fun hcap => ?_)
      · have he : capE (rd xs j) = [2, u8 (rd xs j + 32)] := by
          have := of_decide_eq_true hcap
          unfold capE; rw [if_pos hcap, u8_id (by omega) (by omega)]
        rw [he] at hs hsu
        refine fLit_n [2, u8 (rd xs j + 32)] f2 rfl rfl hsu fun l w3 f3 => fApp f3 1 rfl (f3.nm 0 rfl) (by simp; omega) fun o2 w4 f4 => ⟨by rw [hany, hcap, Bool.or_true], ?_⟩
        rw [hs]; exact f4.drop 0
      · rw [hcap, Bool.or_false] at hany
        have fin2 : (rd xs j = 2 ∨ rd xs j = 3) → gLit P t_sl_uint8 2 #[(0, .int .u8 3), (1, .int .u8 (rd xs j))] w2 fun (t42 : Value) ww8 => gApp P #[t_sl_uint8, t_sl_uint8] t_sl_uint8 #[o, t42] ww8 fun (t47 : Value) ww9 => (xs.take j).any capB = (xs.take (j + 1)).any capB ∧ Fr w ww9 [oIt .u8 eB t47 (capL (xs.take (j + 1)))] := fun h23 => by
          have he : capE (rd xs j) = [3, rd xs j] := by unfold capE; rw [if_neg (by rw [hcap]; simp), if_pos h23]
          rw [he] at hs hsu
          refine fLit_n [3, rd xs j] f2 rfl rfl hsu fun l w3 f3 => fApp f3 1 rfl (f3.nm 0 rfl) (by simp; omega) fun o2 w4 f4 => ⟨hany.symm, ?_⟩
          rw [hs]; exact f4.drop 0
        refine gIf_neqq (fun n2 => gIf_eq (fun e3 => fin2 (.inr e3)) (fun n3 => ?_)) (fun e2 => fin2 (.inl e2))
        have he : capE (rd xs j) = [rd xs j] := by unfold capE; rw [if_neg (by rw [hcap]; simp), if_neg (by omega)]
        rw [he] at hs hsu
        refine fLit_n [rd xs j] f2 rfl rfl hsu fun l w3 f3 => fApp f3 1 rfl (f3.nm 0 rfl) (by simp; omega) fun o2 w4 f4 => ⟨hany.symm, ?_⟩
        rw [hs]; exact f4.drop 0
    · rintro _ o3 s3 w3 ⟨hs3, f3⟩
      rw [i64_id (n := (j : Int) + 1) (by omega) (by omega)]
      exact ⟨⟨j + 1, rfl, by omega, hs3, f3⟩, by dsimp only; omega⟩
  · obtain rfl : j = xs.length := by omega
    rw [List.take_length] at f2 ⊢
    refine gIf_nb (fun h => hno f2.old (by rw [h]; simp)) (fun h => ?_)
    unfold capsT
    rw [if_pos ⟨h, by omega⟩]
    exact ⟨o, rfl, f2.old, f2.on 0 rfl⟩
theorem awake_any {w : World} : Calls P n_valiselaw22_awake #[] w (fun e w' => e = .returned (.bool true) ∧ Ev w w') := by
  have hin : inR .u8 [65, 98] := fun x hx => by simp at hx; rcases hx with rfl | rfl <;> decide
  have hp : capsT [65, 98] = ([2, 97, 98], true) := by decide
  refine of_valiselaw22_awake (fLitC [65, 98] (Fr.start w) rfl rfl hin fun v w2 f2 => fCallTB f2 (Caps_any (Cn.nm (f2.get 0 rfl)) (by decide)) fun y w3 f3 => ?_)
  rw [hp] at f3 ⊢
  refine gIf_t (gConv_bs (f3.nm 0 rfl) ⟨?_, f3.old⟩)
  show Ending.returned (.bool ((bsOf [2, 97, 98]).toList == (ByteArray.mk #[2, 97, 98]).toList)) = _
  rw [show ByteArray.mk #[2, 97, 98] = bsOf [2, 97, 98] by decide]; simp
theorem awake_end {w0 w : World} (h : Ev w0 w) : gCall P n_valiselaw22_awake shB #[] w fun t ww => Holds w0 (.returned (.bool t)) ww := gCall_b awake_any fun _ h2 => ⟨rfl, h.trans h2⟩
theorem TextCaps_law {most : Int} (hb : Nm .u8 w b xs) (_ : IntKind.i64.min ≤ most ∧ most ≤ IntKind.i64.max) : Calls P n_valiselaw22_TextCaps #[b, .int .i64 most] w (Holds w) := by
  refine of_valiselaw22_TextCaps (gLen_nm hb (gIf_dec (fun _ => awake_end (Ch.refl _ w)) (fun hl => ?_)))
  refine gCall_v (Own_byte_any hb (by omega) (by decide)) fun i1 w1 ⟨h1, hi1⟩ => ?_
  have hb1 := hb.ev h1
  have hi := hi1.nm
  refine fCallTB (Fr.start w1) (Caps_any hi (by omega)) fun x w2 f2 => fCallTB f2 (rCaps_any (hb1.ev f2.old) (by omega)) fun y w3 f3 => fCallTE f3 (Uncaps_any (hi.ev f3.old) (by omega)) fun c w4 f4 => fCallTE f4 (rUncaps_any (hb1.ev f4.old) (by omega)) fun d w5 f5 => gCall_b awake_any fun w6 h6 => gIf_t ?_
  have f6 := f5.ev h6
  refine gCall_b0 (Bytes_any (f6.nm 3 rfl) (f6.nm 2 rfl)) (gIf_dec (fun _ => gEq_bool (gIf_b (fun _ => gCall_b0 (Bytes_any (f6.nm 1 rfl) (f6.nm 0 rfl)) (gIf_dec (fun _ => gIf_eq (fun _ => ?_) (fun h => (h rfl).elim)) (fun h => (h rfl).elim))) (fun h => by simp at h))) (fun h => (h rfl).elim))
  exact gCall_b (Kept_byte_any (hi1.ev f6.old) (hb1.ev f6.old) (by omega)) fun w7 h7 => ⟨rfl, h1.trans (f6.old.trans h7)⟩
end
end Go.Proofs.YthnljfogfaoahaaV
