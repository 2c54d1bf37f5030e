import Derived.Laws.IdiomStrings
import Derived.Test.YtiimlfgjnapgjaaGreatDoorVPart8
set_option linter.unusedVariables false
set_option linter.unusedSimpArgs false
/- Package script: Decode. -/
set_option linter.unusedVariables false
set_option linter.unusedSimpArgs false
namespace Go.Proofs.YtiimlfgjnapgjaaGreatDoorV
open Go Go.RowKit
/-- Some operations, in memory of their own. -/
def OpsI (css : List (List Value)) (ops : List OpV) (DL : List It) : Prop := css.length = ops.length ∧ ∀ w, (bunIt DL).ok w → ∀ (i : Nat) (c : List Value) (o : OpV), css[i]? = some c → ops[i]? = some o → OpM w c o
theorem OpsI.nil : OpsI [] [] [] := ⟨rfl, fun _ _ _ _ _ h => by simp at h⟩
theorem OpsI.snoc {css : List (List Value)} {ops : List OpV} {DL G : List It} {c : List Value} {o : OpV} (h : OpsI css ops DL) (hG : ∀ w, (bunIt G).ok w → OpM w c o) : OpsI (css ++ [c]) (ops ++ [o]) (G ++ DL) := by
  refine ⟨by rw [List.length_append, List.length_append, h.1]; rfl, fun w hok i c' o' hc ho => ?_⟩
  have hl := h.1
  rcases Nat.lt_trichotomy i css.length with hi | hi | hi
  · rw [List.getElem?_append_left hi] at hc
    rw [List.getElem?_append_left (by omega)] at ho
    exact h.2 w (fun it hm => hok it (List.mem_append_right _ hm)) i c' o' hc ho
  · subst hi
    rw [List.getElem?_append_right (Nat.le_refl _), Nat.sub_self] at hc
    rw [hl, List.getElem?_append_right (Nat.le_refl _), Nat.sub_self] at ho
    simp at hc ho
    subst hc ho
    exact hG w fun it hm => hok it (List.mem_append_left _ hm)
  · rw [List.getElem?_eq_none (by simp; omega)] at hc; cases hc
theorem OpsI.at {css : List (List Value)} {ops : List OpV} {DL : List It} (h : OpsI css ops DL) {w : World} {l : Value} (hok : (bunIt DL).ok w) (hs : Sl w 12 l ops.length css.flatten) : OpsM w l ops := ⟨css, hs, h.1, h.2 w hok⟩
theorem flat_snoc (css : List (List Value)) (c : List Value) : (css ++ [c]).flatten = css.flatten ++ c := by simp
theorem opsS_stop {xs : List Int} {s : Nat × Int} (h : (opS xs s).1.kind = 0) : ∀ f, opsS xs f s = []
  | 0 => rfl
  | f + 1 => by rw [opsS, if_pos h]
theorem opsS_go {xs : List Int} {s : Nat × Int} (h : (opS xs s).1.kind ≠ 0) (f : Nat) : opsS xs (f + 1) s = (opS xs s).1 :: opsS xs f (opS xs s).2 := by rw [opsS, if_neg h]
section
variable {w0 w w' : World} {F : List It} {xs : List Int}
theorem Decode_any {b : Value} (hb : Nm .u8 w b xs) (hl : xs.length ≤ 1000000) : Calls P n_script_Decode #[b] w (fun e w' => ∃ v, e = .returned v ∧ Ev w w' ∧ OpsM w' v (opsS xs 100 (0, 0))) := by
  refine of_script_Decode (fNew (Fr.start w) hb (by omega) fun ra y w1 f1 => fBox (rd_new f1 (by omega)) fun da w2 f2 => ?_)
  have f2 : Fr w w2 [sIt da [.pointer (some ra)], rdIt ra y xs (0, 0)] := f2
  have f3 := Fr.bundle (G := []) ((f2.picks [1, 0] (by decide)).nilR eO 12)
  have f3 : Fr w w2 [bunIt [], rIt eO 12 (.slice none 0 0) 0 [], rdIt ra y xs (0, 0), sIt da [.pointer (some ra)]] := f3
  refine ⟨fun l t w' => ∃ (j : Nat) (css : List (List Value)) (ops : List OpV) (DL : List It) (s : Nat × Int), t = (j : Int) ∧ j ≤ 100 ∧ ops.length = j ∧ opsS xs 100 (0, 0) = ops ++ opsS xs (100 - j) s ∧ OpsI css ops DL ∧ Fr w w' [rdIt ra y xs s, sIt da [.pointer (some ra)], bunIt DL, rIt eO 12 l ops.length css.flatten], fun _ t _ => (100 - t).toNat, ⟨0, [], [], [], (0, 0), rfl, by decide, rfl, rfl, OpsI.nil, f3.picks [2, 3, 0, 1] (by decide)⟩, ?_⟩
  rintro _ l t w3 ⟨j, css, ops, DL, s, rfl, hj, hol, hops, hI, f4⟩
  refine gIf_dec (fun hlt => ?_) (fun hge => ?_)
  · have hj' : 100 - j = (100 - (j + 1)) + 1 := by omega
    refine gCall_of (op_any f4) ?_
    rintro _ w4 ⟨ev, nv, cv, sv, ov, G, rfl, f5, hG⟩
    obtain ⟨o, ho⟩ : ∃ o, o = (opS xs s).1 := ⟨_, rfl⟩
    have hone : ∀ x ∈ opC o ev nv cv sv ov, x.oneCell' = true := by rw [ho]; exact (hG w4 (f5.get 2 rfl)).one
    rw [← ho] at hG
    rw [← ho]
    refine ⟨_, _, _, _, _, _, _, _, _, _, _, _, rfl, fAlloc (z := .agg opZ.toArray) f5 (by kernel_rfl) fun o5 w5 f6 => fStoreA f6 0 rfl (fun w6 f7 => ?_) rfl hone⟩
    have f7 : Fr w w6 [sIt o5 (opC o ev nv cv sv ov), rdIt ra y xs (opS xs s).2, sIt da [.pointer (some ra)], bunIt G, bunIt DL, rIt eO 12 l ops.length css.flatten] := f7
    refine fLoad_i f7 0 0 rfl rfl (gIf_eq (fun h0 => ?_) (fun hne => ?_))
    · have h0 : o.kind = 0 := h0
      rw [ho] at h0
      rw [opsS_stop h0, List.append_nil] at hops
      rw [hops]
      exact ⟨l, rfl, f7.old, hI.at (f7.get 4 rfl) (f7.row 5 rfl)⟩
    · have hne : o.kind ≠ 0 := hne
      rw [ho] at hne
      rw [hj', opsS_go hne, ← ho] at hops
      refine fLoadA f7 0 rfl (fLit_sz 12 [opC o ev nv cv sv ov] f7 rfl rfl (fun v hv => by rw [List.mem_singleton.1 hv]; rfl) (fun ad w7 f8 => ?_) (by decide) (by kernel_rfl) (by decide +kernel))
      refine fAppR 200 (m := 1) f8 6 rfl (Sl.of_stN (f8.get 0 rfl) rfl) (fun x hx => hone x (by simpa using hx)) (by omega) (by unfold maxLen; omega) (fun v' w8 f9 => ?_) (by kernel_rfl)
      have g := Fr.join (f9.picks [4, 5, 2, 3, 6] (by decide))
      refine ⟨⟨j + 1, css ++ [opC o ev nv cv sv ov], ops ++ [o], G ++ DL, (opS xs s).2, by rw [i64_id (by omega) (by omega)]; omega, by omega, by simp [hol], by rw [hops, List.append_assoc]; rfl, hI.snoc hG, ?_⟩, by dsimp only; rw [i64_id (by omega) (by omega)]; omega⟩
      rw [flat_snoc, List.length_append]
      exact g.picks [1, 2, 0, 3] (by decide)
  · obtain rfl : j = 100 := by omega
    have e : opsS xs (100 - 100) s = [] := rfl
    rw [e, List.append_nil] at hops
    rw [hops]
    exact ⟨l, rfl, f4.old, hI.at (f4.get 2 rfl) (f4.row 3 rfl)⟩
end
end Go.Proofs.YtiimlfgjnapgjaaGreatDoorV

/- Package valiseref31: Decode. -/
set_option linter.unusedVariables false
set_option linter.unusedSimpArgs false
namespace Go.Proofs.YtiimlfgjnapgjaaGreatDoorV
open Go Go.RowKit
theorem tmod2_i {v : Int} (h : 0 ≤ v ∧ v ≤ 3) : ((Int.tmod v 2) == 1) = decide (v % 2 = 1) := by
  obtain h | h | h | h : v = 0 ∨ v = 1 ∨ v = 2 ∨ v = 3 := by omega
  all_goals subst h; decide
theorem app_tag2 {w0 w : World} {o3 : Addr} {cv lv : Value} {ts : List Int} {x : Int} {cs : List Value} {G : List It} {K : Value → World → Prop} (f : Fr w0 w (oIt .i64 eN lv [x] :: oIt .i64 eN cv ts :: sIt o3 cs :: G)) (hj : ts.length ≤ 1000) (hc : 4 < cs.length)
    (hk : ∀ v w', Fr w0 w' (oIt .i64 eN v (ts ++ [x]) :: sIt o3 (cs.set 4 v) :: G) → K v w') :
    gApp P #[t_sl_int, t_sl_int] t_sl_int #[cv, lv] w fun (t26 : Value) ww12 => True ∧ gStore P t_sl_int (.pointer (some (Addr.add o3 4))) t26 ww12 fun ww13 => True ∧ K t26 ww13 := by
  refine fApp f 1 rfl (f.nm 0 rfl) (by simp; omega) fun v w1 f1 => ⟨trivial, ?_⟩
  have hs : Nm .i64 w1 v (ts ++ [x]) := f1.nm 1 rfl
  exact fStore f1 2 4 rfl (fun w2 f2 => ⟨trivial, hk v w2 (f2.drop 0)⟩) hc hs.oc hs.one
section
variable {w : World} {xs : List Int}
set_option maxHeartbeats 2000000 in
theorem refDecode_any {b : Value} (hb : Nm .u8 w b xs) (hl : xs.length ≤ 1000000) : Calls P n_valiseref31_Decode #[b] w (fun e w' => ∃ v, e = .returned v ∧ Ev w w' ∧ OpsM w' v (opsS xs 100 (0, 0))) := by
  refine of_valiseref31_Decode (frNew (Fr.start w) hb (by omega) fun ra y w1 f1 => ?_)
  have f1 := Fr.bundle (G := []) ((rd_new f1 (by omega)).nilR eO 12)
  have f1 : Fr w w1 [bunIt [], rIt eO 12 (.slice none 0 0) 0 [], rdIt ra y xs (0, 0)] := f1
  refine ⟨fun l w' => ∃ (css : List (List Value)) (ops : List OpV) (DL : List It) (s : Nat × Int), ops.length ≤ 100 ∧ opsS xs 100 (0, 0) = ops ++ opsS xs (100 - ops.length) s ∧ OpsI css ops DL ∧ Fr w w' [rdIt ra y xs s, bunIt DL, rIt eO 12 l ops.length css.flatten], fun l _ => 100 - slLen l, ⟨[], [], [], (0, 0), by simp, rfl, OpsI.nil, f1.picks [2, 0, 1] (by decide)⟩, ?_⟩
  rintro _ l w2 ⟨css, ops, OL, s, hol, hops, hI, f2⟩
  have hlS : Sl w2 12 l ops.length css.flatten := f2.row 2 rfl
  have hsl : slLen l = ops.length := by obtain ⟨_, _, rfl, _⟩ := hlS; rfl
  refine gLen_slv hlS (gIf_dec (fun hlt => ?_) (fun hge => ?_))
  · have hj' : 100 - ops.length = (100 - (ops.length + 1)) + 1 := by omega
    obtain ⟨F, hF⟩ : ∃ F, F = [bunIt OL, rIt eO 12 l ops.length css.flatten] := ⟨_, rfl⟩
    rw [← hF] at f2
    have hx : inR .u8 xs := (rd_len f2 0 rfl).2.2
    refine fNumQ f2 0 rfl (by decide) fun w3 f3 => fAlloc (z := .agg opZ.toArray) f3 (by kernel_rfl) fun o3 w4 f4 => fStoreA f4 0 rfl (fun w5 f5 => ?_)
    have f5 : Fr w w5 (sIt o3 (opG1 (oK xs s).1 0 (.slice none 0 0) (.slice none 0 0) (.slice none 0 0) false 0 0 false (.slice none 0 0) (.slice none 0 0) 0) :: rdIt ra y xs (oK xs s).2 :: F) := f5
    refine fLoad_i f5 0 0 rfl rfl (gIf_eq (fun h0 => ?_) (fun hne => ?_))
    · have h0 : (oK xs s).1 = 0 := h0
      have hk0 : (opS xs s).1.kind = 0 := by unfold opS; rw [if_pos h0]; rfl
      rw [opsS_stop hk0, List.append_nil] at hops
      rw [hops]
      rw [hF] at f5
      exact ⟨l, rfl, f5.old, hI.at (f5.get 2 rfl) (f5.row 3 rfl)⟩
    have hne : (oK xs s).1 ≠ 0 := hne
    have hr1 := nmS_rg (xs := xs) (s := (oN xs s).2) (m := 8) (by decide) hx
    have hr2 := nmS_rg (xs := xs) (s := (oNs xs s).2) (m := 8) (by decide) hx
    have hr3 := nmS_rg (xs := xs) (s := (oBl xs s).2) (m := 8) (by decide) hx
    have hrv := nmS_rg (xs := xs) (s := (oCh xs s).2) (m := 3) (by decide) hx
    have hr1 : 0 ≤ (oC1 xs s).1 ∧ (oC1 xs s).1 ≤ 8 := hr1
    have hr2 : 0 ≤ (oC2 xs s).1 ∧ (oC2 xs s).1 ≤ 8 := hr2
    have hr3 : 0 ≤ (oC3 xs s).1 ∧ (oC3 xs s).1 ≤ 8 := hr3
    have hrv : 0 ≤ (oV xs s).1 ∧ (oV xs s).1 ≤ 3 := hrv
    refine fNumQ f5 1 rfl (by decide) fun w6 f6 => fStore f6 0 11 rfl (fun w7 f7 => ?_)
    have f7 : Fr w w7 (sIt o3 (opG1 (oK xs s).1 (oN xs s).1 (.slice none 0 0) (.slice none 0 0) (.slice none 0 0) false 0 0 false (.slice none 0 0) (.slice none 0 0) 0) :: rdIt ra y xs (oN xs s).2 :: F) := f7
    refine fNumQ f7 1 rfl (by decide) fun w8 f8 => ?_
    have f8 : Fr w w8 (sIt o3 (opG1 (oK xs s).1 (oN xs s).1 (.slice none 0 0) (.slice none 0 0) (.slice none 0 0) false 0 0 false (.slice none 0 0) (.slice none 0 0) 0) :: rdIt ra y xs (oC1 xs s).2 :: F) := f8
    obtain ⟨k, hk⟩ : ∃ k, k = (oK xs s).1 := ⟨_, rfl⟩
    obtain ⟨n, hn⟩ : ∃ n, n = (oN xs s).1 := ⟨_, rfl⟩
    rw [← hk, ← hn] at f8
    -- the names
    refine ⟨fun t w' => ∃ (j : Nat) (nv : Value), t = (j : Int) ∧ (j : Int) ≤ (oC1 xs s).1 ∧ Fr w w' (rIt eS 1 nv j ((repS (nameS xs) j (oC1 xs s).2).1.map Value.string) :: sIt o3 (opG1 k n (.slice none 0 0) nv (.slice none 0 0) false 0 0 false (.slice none 0 0) (.slice none 0 0) 0) :: rdIt ra y xs (repS (nameS xs) j (oC1 xs s).2).2 :: F), fun t _ => ((oC1 xs s).1 - t).toNat, ⟨0, .slice none 0 0, rfl, hr1.1, f8.nilR eS 1⟩, ?_⟩
    rintro _ t w9 ⟨j, nv, rfl, hj, f9⟩
    refine gIf_dec (fun hlt => ?_) (fun hge => ?_)
    · have hlt : (j : Int) < (oC1 xs s).1 := hlt
      have hjn : ∀ {w' : World} {v : Value}, Fr w w' (rIt eS 1 v (j + 1) ((repS (nameS xs) j (oC1 xs s).2).1.map Value.string ++ [.string (bsOf (txS xs 4096 (repS (nameS xs) j (oC1 xs s).2).2).1)]) :: sIt o3 ((opG1 k n (.slice none 0 0) nv (.slice none 0 0) false 0 0 false (.slice none 0 0) (.slice none 0 0) 0).set 2 v) :: rdIt ra y xs (txS xs 4096 (repS (nameS xs) j (oC1 xs s).2).2).2 :: F) →
          (∃ (j' : Nat) (nv' : Value), i64 ((j : Int) + 1) = (j' : Int) ∧ (j' : Int) ≤ (oC1 xs s).1 ∧ Fr w w' (rIt eS 1 nv' j' ((repS (nameS xs) j' (oC1 xs s).2).1.map Value.string) :: sIt o3 (opG1 k n (.slice none 0 0) nv' (.slice none 0 0) false 0 0 false (.slice none 0 0) (.slice none 0 0) 0) :: rdIt ra y xs (repS (nameS xs) j' (oC1 xs s).2).2 :: F)) ∧ ((oC1 xs s).1 - i64 ((j : Int) + 1)).toNat < ((oC1 xs s).1 - (j : Int)).toNat := fun {w' v} hf => by
        refine ⟨⟨j + 1, v, by rw [i64_id (by omega) (by omega)]; omega, by omega, ?_⟩, by rw [i64_id (by omega) (by omega)]; omega⟩
        have e : (repS (nameS xs) (j + 1) (oC1 xs s).2).1.map Value.string = (repS (nameS xs) j (oC1 xs s).2).1.map Value.string ++ [.string (bsOf (txS xs 4096 (repS (nameS xs) j (oC1 xs s).2).2).1)] := by rw [repS, List.map_append]; rfl
        rw [e]; exact hf
      have lit : ∀ {w' : World} {x : ByteArray} {G : List It} {K : Value → World → Prop}, Fr w w' G → (∀ lv w'', Fr w w'' (lIt eS lv [.string x] :: G) → K lv w'') → gLit P t_sl_string 1 #[(0, .string x)] w' K := fun {w' x G K} hf hk => fLitV [.string x] hf rfl rfl (fun v hv => by rw [List.mem_singleton.1 hv]; rfl) (fun lv w'' f'' => hk lv w'' f'')
      refine ⟨fun _ => True, trivial, fLoad_v f9.drew 1 2 rfl rfl ⟨trivial, fTextQ f9.drew 2 rfl (by decide) fun v0 w10 f10 => ⟨trivial, gConv_bs (f10.nm 0 rfl) ⟨trivial, lit (f10.drop 0) fun ad w11 f11 => ⟨trivial, app_name f11 (by omega) (Nat.le_of_ble_eq_true rfl) fun v w12 f12 => hjn f12⟩⟩⟩⟩,
        fTextQ f9.drew 2 rfl (by decide) fun v0 w10 f10 => ⟨trivial, fLoad_v f10 2 2 rfl rfl ⟨trivial, gConv_bs (f10.nm 0 rfl) ⟨trivial, lit (f10.drop 0) fun ad w11 f11 => ⟨trivial, app_name f11 (by omega) (Nat.le_of_ble_eq_true rfl) fun v w12 f12 => hjn f12⟩⟩⟩,
          gConv_bs (f10.nm 0 rfl) ⟨trivial, fLoad_v f10 2 2 rfl rfl ⟨trivial, lit (f10.drop 0) fun ad w11 f11 => ⟨trivial, app_name f11 (by omega) (Nat.le_of_ble_eq_true rfl) fun v w12 f12 => hjn f12⟩⟩,
            lit (f10.drop 0) fun ad w11 f11 => ⟨trivial, fLoad_v f11 2 2 rfl rfl ⟨trivial, app_name f11 (by omega) (Nat.le_of_ble_eq_true rfl) fun v w12 f12 => hjn f12⟩⟩⟩⟩⟩
    have hge : ¬ (j : Int) < (oC1 xs s).1 := hge
    have hjc : j = (oC1 xs s).1.toNat := by omega
    subst hjc
    have hnl : (oNs xs s).1.length = (oC1 xs s).1.toNat := repS_len _ _ _
    have f9 : Fr w w9 (rIt eS 1 nv (oC1 xs s).1.toNat ((oNs xs s).1.map Value.string) :: sIt o3 (opG1 k n (.slice none 0 0) nv (.slice none 0 0) false 0 0 false (.slice none 0 0) (.slice none 0 0) 0) :: rdIt ra y xs (oNs xs s).2 :: F) := f9
    rw [← hnl] at f9
    refine fNumQ f9 2 rfl (by decide) fun w10 f10 => ?_
    obtain ⟨RN, hRN⟩ : ∃ RN, RN = rIt eS 1 nv (oNs xs s).1.length ((oNs xs s).1.map Value.string) := ⟨_, rfl⟩
    rw [← hRN] at f10
    have f10 : Fr w w10 (RN :: sIt o3 (opG1 k n (.slice none 0 0) nv (.slice none 0 0) false 0 0 false (.slice none 0 0) (.slice none 0 0) 0) :: rdIt ra y xs (oC2 xs s).2 :: F) := f10
    have f10b := ((Fr.bundle (G := []) f10).nilR eE 2)
    -- the entries
    refine ⟨fun t w' => ∃ (j : Nat) (ev : Value) (us : List E3) (DL : List It), t = (j : Int) ∧ (j : Int) ≤ (oC2 xs s).1 ∧ us.length = j ∧ us.map er = (repS (entS xs) j (oC2 xs s).2).1 ∧ (∀ w'', (bunIt DL).ok w'' → ∀ u ∈ us, Nm .u8 w'' u.2.1 u.2.2) ∧ Fr w w' (rIt eE 2 ev us.length (cells3 us) :: bunIt DL :: RN :: sIt o3 (opG1 k n ev nv (.slice none 0 0) false 0 0 false (.slice none 0 0) (.slice none 0 0) 0) :: rdIt ra y xs (repS (entS xs) j (oC2 xs s).2).2 :: F), fun t _ => ((oC2 xs s).1 - t).toNat, ⟨0, .slice none 0 0, [], [], rfl, hr2.1, rfl, rfl, fun _ _ _ h => (by cases h), f10b⟩, ?_⟩
    rintro _ t w11 ⟨j, ev, us, DL, rfl, hj, hul, hus, hDL, f11⟩
    refine gIf_dec (fun hlt => ?_) (fun hge => ?_)
    · have hlt : (j : Int) < (oC2 xs s).1 := hlt
      refine fTextQ f11 4 rfl (by decide) fun v0 w12 f12 => gConv_bs (f12.nm 0 rfl) (fAlloc (z := .agg #[.string ⟨#[]⟩, .slice none 0 0]) (f12.drop 0) (by kernel_rfl) fun x4 w13 f13 => fStoreA f13 0 rfl (fun w14 f14 => fTextQ f14 5 rfl (by decide) fun v w15 f15 => ?_) rfl)
      have hv : Nm .u8 w15 v _ := f15.nm 0 rfl
      refine fStore f15 1 1 rfl (fun w16 f16 => ?_) (hu := hv.oc) (hcl := hv.one)
      refine fLoad_v f16 5 1 rfl rfl (fLoadA f16 1 rfl (fLit_sz 2 [[.string (bsOf (txS xs 4096 (repS (entS xs) j (oC2 xs s).2).2).1), v]] f16 rfl rfl (fun z hz => by rw [List.mem_singleton.1 hz]; rfl) (fun ad w17 f17 => ?_) (by decide) (by kernel_rfl) (by decide +kernel)))
      refine fAppR 40 (m := 1) f17 3 rfl (Sl.of_stN (f17.get 0 rfl) rfl) (fun z hz => by simp at hz; rcases hz with rfl | rfl; rfl; exact hv.oc) (by omega) (by unfold maxLen; omega) (fun ev' w18 f18 => ?_) (by kernel_rfl)
      have hse : Sl w18 2 ev' (us.length + 1) _ := f18.row 3 rfl
      refine fStore f18 6 1 rfl (fun w19 f19 => ?_) (hu := hse.oc) (hcl := hse.one)
      have g := f19.picksN 8 [1, 4, 3, 5, 6, 7] (by decide) (by decide)
      have g2 := Fr.join (Fr.bundle (G := [oIt .u8 eB v (txS xs 65536 (nameS xs (repS (entS xs) j (oC2 xs s).2).2).2).1]) g)
      refine ⟨⟨j + 1, ev', us ++ [(bsOf (txS xs 4096 (repS (entS xs) j (oC2 xs s).2).2).1, v, (txS xs 65536 (nameS xs (repS (entS xs) j (oC2 xs s).2).2).2).1)], [oIt .u8 eB v (txS xs 65536 (nameS xs (repS (entS xs) j (oC2 xs s).2).2).2).1] ++ DL, by rw [i64_id (by omega) (by omega)]; omega, by omega, by simp [hul], ?_, ?_, ?_⟩, by dsimp only; rw [i64_id (by omega) (by omega)]; omega⟩
      · rw [List.map_append, hus, repS]; rfl
      · intro w'' hok u hu
        rcases List.mem_append.1 hu with hu | hu
        · exact hDL w'' (fun it hi => hok it (List.mem_append_right _ hi)) u hu
        · rw [List.mem_singleton.1 hu]
          have : ON .u8 eB w'' 0 v _ := hok _ (List.mem_append_left _ (List.mem_singleton.2 rfl))
          exact this.nm
      · have g3 := g2.picksN 2 [1, 0] (by decide) (by decide)
        rw [cells3_app, List.length_append]
        exact g3
    have hge : ¬ (j : Int) < (oC2 xs s).1 := hge
    have hjc : j = (oC2 xs s).1.toNat := by omega
    subst hjc
    have hus : us.map er = (oEs xs s).1 := hus
    have f11 : Fr w w11 (rIt eE 2 ev us.length (cells3 us) :: bunIt DL :: RN :: sIt o3 (opG1 k n ev nv (.slice none 0 0) false 0 0 false (.slice none 0 0) (.slice none 0 0) 0) :: rdIt ra y xs (oEs xs s).2 :: F) := f11
    obtain ⟨RE, hRE⟩ : ∃ RE, RE = rIt eE 2 ev us.length (cells3 us) := ⟨_, rfl⟩
    rw [← hRE] at f11
    have a3 : ∀ i : Nat, (o3.add 3).add i = o3.add (3 + i) := fun i => Addr.add2' o3 3 i
    refine fNumQ f11 4 rfl (by decide) fun w12 f12 => ?_
    rw [a3]
    refine fStore f12 3 5 rfl (fun w13 f13 => fNumQ f13 4 rfl (by decide) fun w14 f14 => ?_)
    rw [a3]
    refine fStore f14 3 6 rfl (fun w15 f15 => fNumQ f15 4 rfl (by decide) fun w16 f16 => ?_)
    obtain ⟨lv, hlv⟩ : ∃ lv, lv = (oLv xs s).1 := ⟨_, rfl⟩
    obtain ⟨bk, hbk⟩ : ∃ bk, bk = (oBl xs s).1 := ⟨_, rfl⟩
    have f16 : Fr w w16 (RE :: bunIt DL :: RN :: sIt o3 (opG1 k n ev nv (.slice none 0 0) false (oLv xs s).1 (oBl xs s).1 false (.slice none 0 0) (.slice none 0 0) 0) :: rdIt ra y xs (oC3 xs s).2 :: F) := f16
    rw [← hlv, ← hbk] at f16
    -- the chain
    refine ⟨fun t w' => ∃ (j : Nat) (cv : Value), t = (j : Int) ∧ (j : Int) ≤ (oC3 xs s).1 ∧ Fr w w' (oIt .i64 eN cv (repS (nmS xs 255) j (oC3 xs s).2).1 :: sIt o3 (opG1 k n ev nv cv false lv bk false (.slice none 0 0) (.slice none 0 0) 0) :: RE :: bunIt DL :: RN :: rdIt ra y xs (repS (nmS xs 255) j (oC3 xs s).2).2 :: F), fun t _ => ((oC3 xs s).1 - t).toNat, ⟨0, .slice none 0 0, rfl, hr3.1, (f16.picksN 4 [3, 0, 1, 2] (by decide) (by decide)).nil0 .i64 eN⟩, ?_⟩
    rintro _ t w17 ⟨j, cv, rfl, hj, f17⟩
    have hcl : (repS (nmS xs 255) j (oC3 xs s).2).1.length = j := repS_len _ _ _
    refine gIf_dec (fun hlt => ?_) (fun hge => ?_)
    · have hlt : (j : Int) < (oC3 xs s).1 := hlt
      have hrx := nmS_rg (xs := xs) (s := (repS (nmS xs 255) j (oC3 xs s).2).2) (m := 255) (by decide) hx
      have hjn : ∀ {w' : World} {v : Value}, Fr w w' (oIt .i64 eN v ((repS (nmS xs 255) j (oC3 xs s).2).1 ++ [(nmS xs 255 (repS (nmS xs 255) j (oC3 xs s).2).2).1]) :: sIt o3 ((opG1 k n ev nv cv false lv bk false (.slice none 0 0) (.slice none 0 0) 0).set 4 v) :: RE :: bunIt DL :: RN :: rdIt ra y xs (nmS xs 255 (repS (nmS xs 255) j (oC3 xs s).2).2).2 :: F) →
          (∃ (j' : Nat) (cv' : Value), i64 ((j : Int) + 1) = (j' : Int) ∧ (j' : Int) ≤ (oC3 xs s).1 ∧ Fr w w' (oIt .i64 eN cv' (repS (nmS xs 255) j' (oC3 xs s).2).1 :: sIt o3 (opG1 k n ev nv cv' false lv bk false (.slice none 0 0) (.slice none 0 0) 0) :: RE :: bunIt DL :: RN :: rdIt ra y xs (repS (nmS xs 255) j' (oC3 xs s).2).2 :: F)) ∧ ((oC3 xs s).1 - i64 ((j : Int) + 1)).toNat < ((oC3 xs s).1 - (j : Int)).toNat := fun {w' v} hf => by
        refine ⟨⟨j + 1, v, by rw [i64_id (by omega) (by omega)]; omega, by omega, ?_⟩, by rw [i64_id (by omega) (by omega)]; omega⟩
        exact hf
      have lit : ∀ {w' : World} {x : Int} {G : List It} {K : Value → World → Prop}, Fr w w' G → (0 ≤ x ∧ x ≤ 255) → (∀ v w'', Fr w w'' (oIt .i64 eN v [x] :: G) → K v w'') → gLit P t_sl_int 1 #[(0, .int .i64 x)] w' K := fun {w' x G K} hf hx hk => fLit_n [x] hf rfl rfl (fun z hz => by
        rw [List.mem_singleton.1 hz]
        have h1 : IntKind.i64.min = -9223372036854775808 := by decide
        have h2 : IntKind.i64.max = 9223372036854775807 := by decide
        rw [h1, h2]; omega) fun v w'' f'' => hk v w'' f''
      have a34 : (o3.add 3).add 1 = o3.add 4 := a3 1
      rw [a34]
      exact ⟨fun _ => True, trivial, fLoad_v f17.drew 1 4 rfl rfl ⟨trivial, fNumQ f17.drew 5 rfl (by decide) fun w18 f18 => ⟨trivial, lit f18 hrx fun v w19 f19 => ⟨trivial, app_tag2 f19 (by omega) (Nat.le_of_ble_eq_true rfl) (fun v w20 f20 => hjn f20)⟩⟩⟩, fNumQ f17.drew 5 rfl (by decide) fun w18 f18 => ⟨trivial, fLoad_v f18 1 4 rfl rfl ⟨trivial, lit f18 hrx fun v w19 f19 => ⟨trivial, app_tag2 f19 (by omega) (Nat.le_of_ble_eq_true rfl) (fun v w20 f20 => hjn f20)⟩⟩, lit f18 hrx fun v w19 f19 => ⟨trivial, fLoad_v f19 2 4 rfl rfl ⟨trivial, app_tag2 f19 (by omega) (Nat.le_of_ble_eq_true rfl) (fun v w20 f20 => hjn f20)⟩⟩⟩⟩
    have hge : ¬ (j : Int) < (oC3 xs s).1 := hge
    have hjc : j = (oC3 xs s).1.toNat := by omega
    subst hjc
    have g17 : Fr w w17 (oIt .i64 eN cv (oCh xs s).1 :: sIt o3 (opG1 k n ev nv cv false lv bk false (.slice none 0 0) (.slice none 0 0) 0) :: RE :: bunIt DL :: RN :: rdIt ra y xs (oCh xs s).2 :: F) := f17
    have hv1 : ((Int.tmod (nmS xs 3 (oCh xs s).2).1 2) == 1) = decide ((oV xs s).1 % 2 = 1) := tmod2_i hrv
    refine fNumQ g17 5 rfl (by decide) fun w18 f18 => ?_
    rw [hv1, a3]
    refine fStore f18 1 3 rfl (fun w19 f19 => ?_)
    rw [a3]
    refine fStore f19 1 7 rfl (fun w20 f20 => fTextQ f20 5 rfl (by decide) fun sv w21 f21 => ?_)
    have hsv : Nm .u8 w21 sv _ := f21.nm 0 rfl
    rw [a3]
    refine fStore f21 2 8 rfl (fun w22 f22 => fTextQ f22 6 rfl (by decide) fun ov w23 f23 => ?_) (hu := hsv.oc) (hcl := hsv.one)
    have hov : Nm .u8 w23 ov _ := f23.nm 0 rfl
    rw [a3]
    refine fStore f23 3 9 rfl (fun w24 f24 => fNumQ f24 7 rfl (by decide) fun w25 f25 => ?_) (hu := hov.oc) (hcl := hov.one)
    rw [a3]
    subst hk hn hlv hbk
    refine fStore f25 3 10 rfl (fun w26 f26 => ?_)
    obtain ⟨o, ho⟩ : ∃ o : OpV, o = ⟨(oK xs s).1, (oEs xs s).1, (oNs xs s).1, decide ((oV xs s).1 % 2 = 1), (oCh xs s).1, (oLv xs s).1, (oBl xs s).1, decide ((oV xs s).1 ≥ 2), (oSa xs s).1, (oNo xs s).1, (oRo xs s).1, (oN xs s).1⟩ := ⟨_, rfl⟩
    have eo : opS xs s = (o, (oRo xs s).2) := by unfold opS; rw [if_neg hne, ho]
    have hkk : (opS xs s).1.kind ≠ 0 := by rw [eo, ho]; exact hne
    rw [hj', opsS_go hkk, eo] at hops
    rw [hF] at f26
    have g26 : Fr w w26 [oIt .u8 eB ov (oNo xs s).1, oIt .u8 eB sv (oSa xs s).1, oIt .i64 eN cv (oCh xs s).1, sIt o3 (opC o ev nv cv sv ov), RE, bunIt DL, RN, rdIt ra y xs (oRo xs s).2, bunIt OL, rIt eO 12 l ops.length css.flatten] := by rw [ho]; exact f26
    have hG : ∀ w'', (bunIt [oIt .u8 eB ov (oNo xs s).1, oIt .u8 eB sv (oSa xs s).1, oIt .i64 eN cv (oCh xs s).1, RE, bunIt DL, RN]).ok w'' → OpM w'' (opC o ev nv cv sv ov) o := fun w'' hok => by
      have k0 : ON .u8 eB w'' 0 ov (oNo xs s).1 := hok (oIt .u8 eB ov (oNo xs s).1) (by simp)
      have k1 : ON .u8 eB w'' 0 sv (oSa xs s).1 := hok (oIt .u8 eB sv (oSa xs s).1) (by simp)
      have k2 : ON .i64 eN w'' 0 cv (oCh xs s).1 := hok (oIt .i64 eN cv (oCh xs s).1) (by simp)
      have k3 := hok RE (by simp)
      have k4 := hok (bunIt DL) (by simp)
      have k5 := hok RN (by simp)
      rw [hRE] at k3
      rw [hRN] at k5
      refine ⟨ev, nv, cv, sv, ov, us, rfl, ⟨Sl.of_ownS k3, hDL w'' k4⟩, ?_, ?_, ?_, ?_, ?_⟩
      · rw [ho]; exact hus
      · rw [ho]; exact Sl.of_ownS k5
      · rw [ho]; exact k2.nm
      · rw [ho]; exact k1.nm
      · rw [ho]; exact k0.nm
    have g27 := Fr.bundle (G := [oIt .u8 eB ov (oNo xs s).1, oIt .u8 eB sv (oSa xs s).1, oIt .i64 eN cv (oCh xs s).1, RE, bunIt DL, RN]) (g26.picks [0, 1, 2, 4, 5, 6, 8, 7, 9] (by decide))
    have hone : ∀ x ∈ opC o ev nv cv sv ov, x.oneCell' = true := (hG w26 (g27.get 0 rfl)).one
    refine fLoadA g26 3 rfl (fLit_sz 12 [opC o ev nv cv sv ov] g26 rfl rfl (fun v hv => by rw [List.mem_singleton.1 hv]; rfl) (fun ad w27 f28 => ?_) (by decide) (by kernel_rfl) (by decide +kernel))
    refine fAppR 200 (m := 1) f28 10 rfl (Sl.of_stN (f28.get 0 rfl) rfl) (fun x hx => hone x (by simpa using hx)) (by omega) (by unfold maxLen; omega) (fun v' w28 f29 => ?_) (by kernel_rfl)
    have g := Fr.bundle (G := [oIt .u8 eB ov (oNo xs s).1, oIt .u8 eB sv (oSa xs s).1, oIt .i64 eN cv (oCh xs s).1, RE, bunIt DL, RN]) (f29.picks [1, 2, 3, 5, 6, 7, 9, 8, 10] (by decide))
    have g := Fr.join g
    have hv' : Sl w28 12 v' (ops.length + 1) (css.flatten ++ [opC o ev nv cv sv ov].flatten) := f29.row 10 rfl
    refine ⟨⟨css ++ [opC o ev nv cv sv ov], ops ++ [o], _ ++ OL, (oRo xs s).2, by simp; omega, by rw [hops, List.append_assoc, List.length_append]; rfl, hI.snoc hG, ?_⟩, ?_⟩
    · rw [flat_snoc, List.length_append]
      have g3 := g.picks [1, 0, 2] (by decide)
      simpa using g3
    · dsimp only
      have : slLen v' = ops.length + 1 := by obtain ⟨_, _, rfl, _⟩ := hv'; rfl
      omega
  · have hl100 : ops.length = 100 := by omega
    rw [hl100] at hops
    have e : opsS xs (100 - 100) s = [] := rfl
    rw [e, List.append_nil] at hops
    rw [hops]
    exact ⟨l, rfl, f2.old, hI.at (f2.get 1 rfl) (f2.row 2 rfl)⟩
end
end Go.Proofs.YtiimlfgjnapgjaaGreatDoorV

/- The bytes of a string, made anew: they bear a mark. -/
set_option linter.unusedVariables false
set_option linter.unusedSimpArgs false
namespace Go.Proofs.YtiimlfgjnapgjaaGreatDoorV
open Go Go.RowKit
/-! ### []byte(s) -/
def Tx (e : TypeId) (w : World) (v : Value) (xs : List Int) : Prop := ∃ g c cur, v = .slice (some ⟨g, 0, none⟩) xs.length c ∧ xs.length ≤ c ∧ w.heap[g]? = some (.cells cur e (cur.size, cur.size + 1)) ∧ cur.size = c ∧ cur.toList.take xs.length = xs.map (Value.int .u8) ∧ inR .u8 xs
theorem Tx.ch {e : TypeId} {S : SS} {w w' : World} {v : Value} {xs : List Int} (h : Tx e w v xs) (hc : Ch S w w') (hs : ∀ k i, v.ownBlock = some k → ¬ S k i) : Tx e w' v xs := by
  obtain ⟨g, c, cur, rfl, h1, h2, h3⟩ := h
  exact ⟨g, c, cur, rfl, h1, by rw [hc.blk g (hlt h2) fun i => hs g i rfl]; exact h2, h3⟩
theorem Tx.nm {e : TypeId} {w : World} {v : Value} {xs : List Int} (h : Tx e w v xs) : Nm .u8 w v xs := by
  obtain ⟨g, c, cur, rfl, h1, h2, h3, h4, h5⟩ := h
  refine ⟨⟨some ⟨g, 0, none⟩, c, rfl, h1, by simp, fun ad ha j u hj => ?_, fun h => by cases h⟩, h5⟩
  injection ha with ha; subst ha
  rw [Addr.add_lit]
  have hjl : j < xs.length := by simpa using (List.getElem?_eq_some_iff.1 hj).1
  rw [← h4, List.getElem?_take, if_pos hjl, Array.getElem?_toList] at hj
  simp [World.cell?, h2, hj]
def tIt (e : TypeId) (v : Value) (xs : List Int) : It := ⟨fun b => v.ownBlock = some b, fun w => Tx e w v xs, fun _ _ h hk => by
    obtain ⟨g, c, cur, rfl, _, h1, _⟩ := h
    simp [Value.ownBlock] at hk; subst hk; exact ⟨_, _, _, h1⟩, fun _ _ _ h hc hs => h.ch hc hs, fun _ _ h _ hc => by
    obtain ⟨g, c, cur, rfl, h1, h2, h3⟩ := h; exact ⟨g, c, cur, rfl, h1, by rw [hc _ _ _ _ h2]; exact h2, h3⟩⟩
def strBytes (P : Program) (s d : TypeId) : Bool := match P.underlying s, P.underlying d with
  | some .string, some (.slice e) => (match P.underlying e with | some (.int .u8) => true | _ => false)
  | _, _ => false
section
variable {w0 w : World} {F : List It}
theorem fConvStr {s d : TypeId} {x : ByteArray} {K : Value → World → Prop} (f : Fr w0 w F) (hl : x.size ≤ 1000000) (hk : ∀ v w', KeepsOthers w w' → Fr w0 w' (tIt (elOf P d) v (sOf x) :: F) → K v w') (ht : strBytes P s d = true := by kernel_rfl) : gConv P s d shV (.string x) w K := by
  unfold strBytes at ht
  split at ht
  · rename_i e hs hd
    split at ht
    · rename_i he
      have hel : elOf P d = e := by unfold elOf; rw [hd]
      rw [hel] at hk
      have hge := grownCap_ge w x.size 0 e
      have hil := sOf_len x
      have hdl : x.data.toList.length = x.size := by rw [Array.length_toList]; rfl
      have hrs : (bytesRow x (grownCap w x.size 0 e)).size = grownCap w x.size 0 e := by
        unfold bytesRow
        have : x.data.size = x.size := rfl
        simp only [Array.size_append, Array.size_map, Array.size_replicate, this] at *
        omega
      refine ⟨_, _, run_bytes_of_string w s d e x hs hd he, hk _ _ (Ev.trans (Ev.drew0 w) (Ev.alloc w.drew _)).others (f.new (jt := tIt e _ (sOf x)) (Ev.trans (Ev.drew0 w) (Ev.alloc w.drew _)) ⟨w.heap.size, _, _, by rw [hil], by rw [hil]; omega, heap_alloc_new w.drew _, hrs, ?_, sOf_u8 x⟩ fun k hk => ?_)⟩
      · unfold bytesRow
        rw [Array.toList_append, List.take_left' (by rw [Array.toList_map, List.length_map, hil, hdl])]
        rw [Array.toList_map]
        unfold sOf
        rw [List.map_map]; rfl
      · have : w.heap.size = k := by simpa [tIt, Value.ownBlock] using hk
        omega
    · cases ht
  · cases ht
end
end Go.Proofs.YtiimlfgjnapgjaaGreatDoorV

/- Package box: Right; chains and items, written. -/
set_option linter.unusedVariables false
set_option linter.unusedSimpArgs false
namespace Go.Proofs.YtiimlfgjnapgjaaGreatDoorV
open Go Go.RowKit
/-- Which options may be. -/
def optR (auto : Bool) (ts : List Int) (level block : Int) (locked : Bool) (ns nn rounds : Int) : Bool :=
  !decide (level < 0 ∨ level ≥ 3 ∨ block < 16 ∨ block > 65536) && (!(!rightB ts || (auto && decide (ts.length > 0))) && (if locked = true then decide (ns = 16 ∧ nn = 12 ∧ 1 ≤ rounds ∧ rounds ≤ 1000) else decide (ns = 0 ∧ nn = 0 ∧ rounds = 0)))
def tagsN (ts : List Int) : List Int := (ts.map fun t => numB (u64 t).toNat).flatten
def tagsB (ts : List Int) : List Int := numB ts.length ++ tagsN ts
theorem tagsN_app (a b : List Int) : tagsN (a ++ b) = tagsN a ++ tagsN b := by simp [tagsN]
theorem numB_10 (t : Int) : (numB (u64 t).toNat).length ≤ 10 := numB_len64 (by rw [u64_def]; omega)
theorem tagsN_len : ∀ ts : List Int, (tagsN ts).length ≤ 10 * ts.length
  | [] => by simp [tagsN]
  | t :: ts => by
    have := tagsN_len ts
    have h := numB_10 t
    have e : tagsN (t :: ts) = numB (u64 t).toNat ++ tagsN ts := by simp [tagsN]
    rw [e, List.length_append, List.length_cons]; omega
theorem tagsB_len (ts : List Int) (h : ts.length ≤ 1000000000) : (tagsB ts).length ≤ 10 * ts.length + 10 := by
  have := tagsN_len ts
  have h2 := numB_len64 (n := ts.length) (by omega)
  unfold tagsB; rw [List.length_append]; omega
/-- An item. -/
structure ItP where
  name : ByteArray
  size : Int
  sum : Int
  chain : List Int
  packed : Int
structure ItV where
  p : ItP
  cv : Value
def c5 (u : ItV) : List Value := [.string u.p.name, .int .i64 u.p.size, .int .u32 u.p.sum, u.cv, .int .i64 u.p.packed]
def cells5 (us : List ItV) : List Value := us.flatMap c5
theorem cells5_cons (u : ItV) (us : List ItV) : cells5 (u :: us) = c5 u ++ cells5 us := rfl
theorem cells5_app (a b : List ItV) : cells5 (a ++ b) = cells5 a ++ cells5 b := by simp [cells5]
theorem cells5_get : ∀ {us : List ItV} {i : Nat} {u : ItV}, us[i]? = some u → ∀ (j : Nat) (x : Value), j < 5 → (c5 u)[j]? = some x → (cells5 us)[i * 5 + j]? = some x
  | [], _, _, h, _, _, _, _ => by simp at h
  | y :: us, 0, u, h, j, x, hj, hx => by
    simp at h; subst h
    rw [cells5_cons, Nat.zero_mul, Nat.zero_add, List.getElem?_append_left (by exact hj)]; exact hx
  | y :: us, i + 1, u, h, j, x, hj, hx => by
    have h2 := cells5_get (us := us) (i := i) (u := u) (by simpa using h) j x hj hx
    rw [cells5_cons, show (i + 1) * 5 + j = 5 + (i * 5 + j) by omega, List.getElem?_append_right (by show 5 ≤ _; omega)]
    rw [show 5 + (i * 5 + j) - (c5 y).length = i * 5 + j by show 5 + (i * 5 + j) - 5 = _; omega]; exact h2
def Is (w : World) (v : Value) (us : List ItV) : Prop := Sl w 5 v us.length (cells5 us) ∧ ∀ u ∈ us, Nm .i64 w u.cv u.p.chain
theorem Is.ev {w w' : World} {v : Value} {us : List ItV} (h : Is w v us) (he : Ev w w') : Is w' v us := ⟨h.1.ev he, fun u hu => (h.2 u hu).ev he⟩
/-- Items, as bytes. -/
def itB (p : ItP) : List Int := numB p.name.size ++ sOf p.name ++ numB (u64 p.size).toNat ++ littleB (u64 p.sum) 4 ++ tagsB p.chain ++ numB (u64 p.packed).toNat
def itemsN (ps : List ItP) : List Int := (ps.map itB).flatten
def itemsB (ps : List ItP) : List Int := numB ps.length ++ itemsN ps
theorem itemsN_app (a b : List ItP) : itemsN (a ++ b) = itemsN a ++ itemsN b := by simp [itemsN]
def okP (p : ItP) : Prop := p.name.size ≤ 4096 ∧ p.chain.length ≤ 10
theorem itB_len {p : ItP} (h : okP p) : (itB p).length ≤ 5000 := by
  have h1 := numB_len64 (n := p.name.size) (by have := h.1; omega)
  have h2 := tagsB_len p.chain (by have := h.2; omega)
  have h3 := numB_10 p.size
  have h4 := numB_10 p.packed
  have := h.1
  have := h.2
  unfold itB
  simp only [List.length_append, sOf_len, littleB_len]
  omega
theorem itemsN_len : ∀ {ps : List ItP}, (∀ p ∈ ps, okP p) → (itemsN ps).length ≤ 5000 * ps.length
  | [], _ => by simp [itemsN]
  | p :: ps, h => by
    have := itemsN_len (ps := ps) fun q hq => h q (by simp [hq])
    have h2 := itB_len (h p (by simp))
    have e : itemsN (p :: ps) = itB p ++ itemsN ps := by simp [itemsN]
    rw [e, List.length_append, List.length_cons]; omega
theorem set_set' {α : Type} (l : List α) (i : Nat) (a b : α) : (l.set i a).set i b = l.set i b := List.set_set ..
theorem get_set' {α : Type} {l : List α} {i : Nat} {x : α} (h : l[i]? = some x) (a : α) : (l.set i a)[i]? = some a := by
  have := (List.getElem?_eq_some_iff.1 h).1
  rw [List.getElem?_set]; simp [this]
theorem erase_set' {α : Type} : ∀ (l : List α) (i : Nat) (a : α), (l.set i a).eraseIdx i = l.eraseIdx i
  | [], _, _ => rfl
  | _ :: _, 0, _ => rfl
  | x :: l, i + 1, a => by show x :: (l.set i a).eraseIdx i = x :: l.eraseIdx i; rw [erase_set' l i a]
section
variable {w0 w : World} {F : List It}
theorem gIdx_It {i : Int} {ki : IntKind} {v : Value} {us : List ItV} {j : Nat} {u : ItV} {K : Addr → Prop} (h : Is w v us) (hij : i = (j : Int)) (hu : us[j]? = some u) (hk : ∀ ad, (∀ z x, (c5 u)[z]? = some x → w.cell? (ad.add z) = some x) → K ad) : gIdx P t_sl_api_Item v (.int ki i) K := by
  subst hij
  refine gIdx_sz h.1 (List.getElem?_eq_some_iff.1 hu).1 (fun ad hc _ => hk ad fun z x hx => hc z x ?_ (cells5_get hu z x ?_ hx))
  · exact (List.getElem?_eq_some_iff.1 hx).1
  · exact (List.getElem?_eq_some_iff.1 hx).1
theorem BRight_any {auto locked : Bool} {cv sv nv : Value} {level block rounds : Int} {ts ss ns : List Int} (hc : Nm .i64 w cv ts) (hs : Nm .u8 w sv ss) (hn : Nm .u8 w nv ns) (hl : ts.length ≤ 1000000000) :
    Calls P n_box_Right #[.agg #[.bool auto, cv, .int .i64 level, .int .i64 block, .bool locked, sv, nv, .int .i64 rounds]] w (fun e w' => e = .returned (.bool (optR auto ts level block locked ss.length ns.length rounds)) ∧ Ev w w') := by
  have no1 : (level < 0 ∨ level ≥ 3 ∨ block < 16 ∨ block > 65536) → optR auto ts level block locked ss.length ns.length rounds = false := fun h => by unfold optR; rw [decide_eq_true h]; rfl
  refine of_box_Right (fBox (Fr.start w) fun ad w1 f1 => ⟨fun w' => Fr w w' [sIt ad [.bool auto, cv, .int .i64 level, .int .i64 block, .bool locked, sv, nv, .int .i64 rounds]] ∧ optR auto ts level block locked ss.length ns.length rounds = decide (ss.length = 0 ∧ ns.length = 0 ∧ rounds = 0), ⟨fun b w' => w' = w1 ∧ b = decide (level < 0 ∨ level ≥ 3 ∨ block < 16 ∨ block > 65536), ?_, ?_⟩, ?_⟩)
  · refine fLoad_i f1 0 2 rfl rfl (gIf_ndec (fun h1 => fLoad_i f1 0 2 rfl rfl (gIf_ndec (fun h2 => fLoad_i f1 0 3 rfl rfl (gIf_ndec (fun h3 => fLoad_i f1 0 3 rfl rfl ⟨rfl, ?_⟩) (fun h3 => ⟨rfl, ?_⟩))) (fun h2 => ⟨rfl, ?_⟩))) (fun h1 => ⟨rfl, ?_⟩))
    · exact decide_eq_decide.2 (by omega)
    · rw [decide_eq_true (by omega)]
    · rw [decide_eq_true (by omega)]
    · rw [decide_eq_true (by omega)]
  · rintro _ b w2 ⟨hw2, rfl⟩
    obtain rfl : w1 = w2 := hw2.symm
    refine gIf_dec (fun hb => ⟨by rw [no1 hb], f1.old⟩) (fun hb => ?_)
    have e1 : optR auto ts level block locked ss.length ns.length rounds = (!(!rightB ts || (auto && decide (ts.length > 0))) && (if locked = true then decide ((ss.length : Int) = 16 ∧ (ns.length : Int) = 12 ∧ 1 ≤ rounds ∧ rounds ≤ 1000) else decide ((ss.length : Int) = 0 ∧ (ns.length : Int) = 0 ∧ rounds = 0))) := by
      unfold optR; rw [decide_eq_false hb]; rfl
    refine ⟨fun b w' => Fr w w' [sIt ad [.bool auto, cv, .int .i64 level, .int .i64 block, .bool locked, sv, nv, .int .i64 rounds]] ∧ b = (!rightB ts || (auto && decide (ts.length > 0))), ?_, ?_⟩
    · refine fLoad_v f1 0 1 rfl rfl (gCall_b (cRight_any (hc.ev f1.old) hl) fun w3 h3 => ?_)
      have f3 := f1.ev h3
      refine gIf_nnb (fun hr => fLoad_b f3 0 0 rfl rfl ?_) (fun hr => ⟨f3, by rw [hr]; rfl⟩)
      refine gIf_b (fun ha => fLoad_v f3 0 1 rfl rfl (gLen_nm (hc.ev f3.old) ⟨f3, ?_⟩)) (fun ha => ⟨f3, by rw [hr, ha]; rfl⟩)
      rw [hr, ha]
      exact decide_eq_decide.2 (by omega)
    · rintro _ b w3 ⟨f3, hb3⟩
      rw [← hb3] at e1
      cases b with
      | true => exact gIf_t ⟨by rw [e1]; rfl, f3.old⟩
      | false =>
        refine gIf_f (fLoad_b f3 0 4 rfl rfl ?_)
        cases locked with
        | false => exact gIf_f ⟨f3, by rw [e1]; simp only [Bool.not_false, Bool.true_and]; rw [if_neg (by decide)]; exact decide_eq_decide.2 (by omega)⟩
        | true =>
          rw [show (!false) = true from rfl, Bool.true_and, if_pos rfl] at e1
          refine gIf_t (fLoad_v f3 0 5 rfl rfl (gLen_nm (hs.ev f3.old) (gIf_eq (fun h1 => fLoad_v f3 0 6 rfl rfl (gLen_nm (hn.ev f3.old) (gIf_eq (fun h2 => fLoad_i f3 0 7 rfl rfl (gIf_dec (fun h3 => fLoad_i f3 0 7 rfl rfl ⟨?_, f3.old⟩) (fun h3 => ⟨?_, f3.old⟩))) (fun h2 => ⟨?_, f3.old⟩)))) (fun h1 => ⟨?_, f3.old⟩))))
          · rw [e1]; congr 2; exact decide_eq_decide.2 (by omega)
          · rw [e1, decide_eq_false (by omega)]
          · rw [e1, decide_eq_false (by omega)]
          · rw [e1, decide_eq_false (by omega)]
  · rintro _ w5 ⟨f5, e5⟩
    refine fLoad_v f5 0 5 rfl rfl (gLen_nm (hs.ev f5.old) (gIf_eq (fun h1 => fLoad_v f5 0 6 rfl rfl (gLen_nm (hn.ev f5.old) (gIf_eq (fun h2 => fLoad_i f5 0 7 rfl rfl ⟨?_, f5.old⟩) (fun h2 => ⟨?_, f5.old⟩)))) (fun h1 => ⟨?_, f5.old⟩)))
    · rw [e5]; congr 2; show decide (rounds = 0) = _; exact decide_eq_decide.2 (by omega)
    · rw [e5, decide_eq_false (by omega)]
    · rw [e5, decide_eq_false (by omega)]
/-! ### What is written -/
theorem fNumU {ad : Addr} {v : Value} {xs : List Int} {n : Int} {K : World → Prop} (f : Fr w0 w F) (i : Nat) (hi : F[i]? = some (wIt eB ad v xs)) (hl : xs.length + 10 ≤ 10000000000)
    (hk : ∀ v' w', Fr w0 w' (F.set i (wIt eB ad v' (xs ++ numB (u64 n).toNat))) → K w') : gCall P n_num_Writer_Num shU #[.pointer (some ad), .int .u64 (u64 n)] w K :=
  fNum f i hi (by rw [u64_def]; omega) hl hk
theorem wtags_any {ad : Addr} {v lv : Value} {xs ts : List Int} (f : Fr w0 w F) (i : Nat) (hi : F[i]? = some (wIt eB ad v xs)) (hn : ∀ w', Fr w0 w' (F.eraseIdx i) → Nm .i64 w' lv ts) (hl : xs.length + 10 * ts.length + 20 ≤ 10000000000) :
    Calls P n_box_writer_tags #[.pointer (some ad), lv] w (fun e w' => e = .returned (.tuple #[]) ∧ ∃ v', Fr w0 w' (F.set i (wIt eB ad v' (xs ++ tagsB ts)))) := by
  refine of_box_writer_tags (gNil_some (gLen_nm (hn w (f.drop i)) ?_))
  rw [Addr.add_zero', show u64 (ts.length : Int) = (ts.length : Int) by rw [u64_def]; omega]
  have l10 := numB_len64 (n := ts.length) (by omega)
  refine fNum f i hi (by omega) (by omega) fun v1 w1 f1 => gLen_nm (hn w1 (by have := f1.drop i; rwa [erase_set'] at this)) ?_
  rw [Int.toNat_natCast] at f1
  refine ⟨fun t w' => ∃ (j : Nat) (v' : Value), t = j ∧ j ≤ ts.length ∧ Fr w0 w' (F.set i (wIt eB ad v' (xs ++ numB ts.length ++ tagsN (ts.take j)))), fun t _ => (ts.length - t).toNat, ⟨0, v1, rfl, by omega, by rw [List.take_zero]; show Fr w0 w1 (F.set i (wIt eB ad v1 (xs ++ numB ts.length ++ []))); rw [List.append_nil]; exact f1⟩, ?_⟩
  rintro _ t w2 ⟨j, v2, rfl, hj, f2⟩
  have hN : Nm .i64 w2 lv ts := hn w2 (by have := f2.drop i; rwa [erase_set'] at this)
  refine gIf_dec (fun hlt => gGet hN (by omega) (by omega) (gNil_some ?_)) (fun hge => ?_)
  · have hlt' : j < ts.length := by omega
    have htk : ts.take (j + 1) = ts.take j ++ [rd ts (j : Int)] := by rw [List.take_succ_eq_append_getElem hlt', ← rd_nat ts j hlt']
    have hl2 := tagsN_len (ts.take j)
    rw [List.length_take] at hl2
    rw [Addr.add_zero']
    refine fNumU f2 i (get_set' hi _) (by simp only [List.length_append]; omega) fun v3 w3 f3 => ⟨⟨j + 1, v3, by rw [i64_id (by omega) (by omega)]; omega, by omega, ?_⟩, by dsimp only; rw [i64_id (by omega) (by omega)]; omega⟩
    rw [set_set'] at f3
    rw [htk, tagsN_app]
    have e : tagsN [rd ts (j : Int)] = numB (u64 (rd ts (j : Int))).toNat := by simp [tagsN]
    rw [e, ← List.append_assoc]; exact f3
  · obtain rfl : j = ts.length := by omega
    rw [List.take_length] at f2
    refine ⟨rfl, v2, ?_⟩
    unfold tagsB; rw [← List.append_assoc]; exact f2
theorem fLittleW {ad : Addr} {v : Value} {xs : List Int} {z n : Int} {K : World → Prop} (f : Fr w0 w F) (i : Nat) (hi : F[i]? = some (wIt eB ad v xs)) (hz : 0 ≤ z ∧ z < 18446744073709551616) (hl : xs.length + 10 ≤ 10000000000)
    (hk : ∀ v' w', Fr w0 w' (F.set i (wIt eB ad v' (xs ++ littleB z (clN n)))) → K w') : gCall P n_num_Writer_Little shU #[.pointer (some ad), .int .u64 z, .int .i64 n] w K :=
  gCall_u (Little_any (f.get i hi) hz hl) fun w' ⟨v', hw⟩ => hk v' w' (f.wr i hi hw)
theorem witems_any {ad : Addr} {v lv : Value} {xs : List Int} {us : List ItV} (f : Fr w0 w F) (i : Nat) (hi : F[i]? = some (wIt eB ad v xs)) (hn : ∀ w', Fr w0 w' (F.eraseIdx i) → Is w' lv us) (hp : ∀ p ∈ us.map ItV.p, okP p) (hus : us.length ≤ 100000) (hl : xs.length ≤ 1000000000) :
    Calls P n_box_writer_items #[.pointer (some ad), lv] w (fun e w' => e = .returned (.tuple #[]) ∧ ∃ v', Fr w0 w' (F.set i (wIt eB ad v' (xs ++ itemsB (us.map ItV.p))))) := by
  refine of_box_writer_items (gNil_some (gLen_slv (hn w (f.drop i)).1 ?_))
  rw [Addr.add_zero', show u64 (us.length : Int) = (us.length : Int) by rw [u64_def]; omega]
  have l10 := numB_len64 (n := us.length) (by omega)
  refine fNum f i hi (by omega) (by omega) fun v1 w1 f1 => gLen_slv (hn w1 (by have := f1.drop i; rwa [erase_set'] at this)).1 ?_
  rw [Int.toNat_natCast] at f1
  refine ⟨fun t w' => ∃ (j : Nat) (v' : Value), t = j ∧ j ≤ us.length ∧ Fr w0 w' (F.set i (wIt eB ad v' (xs ++ numB us.length ++ itemsN ((us.take j).map ItV.p)))), fun t _ => (us.length - t).toNat, ⟨0, v1, rfl, by omega, by rw [List.take_zero]; show Fr w0 w1 (F.set i (wIt eB ad v1 (xs ++ numB us.length ++ []))); rw [List.append_nil]; exact f1⟩, ?_⟩
  rintro _ t w2 ⟨j, v2, rfl, hj, f2⟩
  have hI : Is w2 lv us := hn w2 (by have := f2.drop i; rwa [erase_set'] at this)
  refine gIf_dec (fun hlt => ?_) (fun hge => ?_)
  · have hlt' : j < us.length := by omega
    have hu := List.getElem?_eq_getElem hlt'
    have hmu : us[j] ∈ us := List.getElem_mem hlt'
    have tu : us.take (j + 1) = us.take j ++ [us[j]] := List.take_succ_eq_append_getElem hlt'
    generalize us[j] = u at hu hmu tu
    have hok : okP u.p := hp u.p (List.mem_map.2 ⟨u, hmu, rfl⟩)
    have hlen := itemsN_len (ps := (us.take j).map ItV.p) fun p hpp => hp p (by obtain ⟨q, hq, rfl⟩ := List.mem_map.1 hpp; exact List.mem_map.2 ⟨q, List.mem_of_mem_take hq, rfl⟩)
    rw [List.length_map, List.length_take] at hlen
    obtain ⟨Y, hY⟩ : ∃ Y, Y = xs ++ numB us.length ++ itemsN ((us.take j).map ItV.p) := ⟨_, rfl⟩
    have hYl : Y.length ≤ 2000000000 := by rw [hY]; simp only [List.length_append]; omega
    rw [← hY] at f2
    have hn4 := hok.1
    have hc4 := hok.2
    have hcv := (hI.2 u hmu).oc
    refine gIdx_It hI rfl hu fun ia hcell => gLoad_agg (c5 u) hcell ?_ rfl (by kernel_rfl)
    refine fAlloc (z := .agg #[.string ⟨#[]⟩, .int .i64 0, .int .u32 0, .slice none 0 0, .int .i64 0]) f2 (by kernel_rfl) fun x5 w3 f3 => fStoreA f3 0 rfl (fun w4 f4 => ?_) rfl (fun x hx => ?_)
    · have f4 : Fr w0 w4 (sIt x5 (c5 u) :: F.set i (wIt eB ad v2 Y)) := f4
      have hB : ∀ {w' : World} {v' : Value} {Z : List Int}, Fr w0 w' (sIt x5 (c5 u) :: F.set i (wIt eB ad v' Z)) → ∀ z y, (c5 u)[z]? = some y → w'.cell? (x5.add z) = some y := fun hf z y hy => hf.cell 0 z rfl hy
      have hgi : ∀ (v' : Value) (Z : List Int), (sIt x5 (c5 u) :: F.set i (wIt eB ad v' Z))[i + 1]? = some (wIt eB ad v' Z) := fun v' Z => by rw [List.getElem?_cons_succ]; exact get_set' hi _
      have hse : ∀ (v' v'' : Value) (Z Z' : List Int), (sIt x5 (c5 u) :: F.set i (wIt eB ad v' Z)).set (i + 1) (wIt eB ad v'' Z') = sIt x5 (c5 u) :: F.set i (wIt eB ad v'' Z') := fun v' v'' Z Z' => by rw [List.set_cons_succ, set_set']
      refine ⟨fun w' => ∀ z y, (c5 u)[z]? = some y → w'.cell? (x5.add z) = some y, hB f4.drew, gNil_some (gLoadB_s (fun w' hw => hw 0 _ rfl) ?_)⟩
      rw [Addr.add_zero']
      refine fConvStr f4.drew (by omega) fun t24 w5 hk5 f5 => ⟨fun z y hy => f5.cell 1 z rfl hy, ?_⟩
      refine fTextW (xs := Y) (ys := sOf u.p.name) f5 (i + 2) (by rw [List.getElem?_cons_succ]; exact hgi _ _) (fun w' hf => Tx.nm (hf.get 0 rfl)) (by rw [sOf_len]; omega) fun v6 w6 f6 => ?_
      rw [List.set_cons_succ, hse, sOf_len] at f6
      have f6 : Fr w0 w6 (sIt x5 (c5 u) :: F.set i (wIt eB ad v6 (Y ++ numB u.p.name.size ++ sOf u.p.name))) := f6.drop 0
      refine ⟨hB f6, fun w' => ∀ z y, (c5 u)[z]? = some y → w'.cell? (x5.add z) = some y, hB f6.drew, gNil_some (gLoadB_i (fun w' hw => hw 1 _ rfl) ?_)⟩
      have ln := numB_len64 (n := u.p.name.size) (by omega)
      have l2 := numB_10 u.p.size
      have l3 := tagsB_len u.p.chain (by omega)
      rw [Addr.add_zero']
      refine fNumU f6.drew (i + 1) (hgi _ _) (by simp only [List.length_append, sOf_len]; omega) fun v7 w7 f7 => ?_
      rw [hse] at f7
      refine ⟨hB f7, fun w' => ∀ z y, (c5 u)[z]? = some y → w'.cell? (x5.add z) = some y, hB f7.drew, gNil_some (gLoadB_i (fun w' hw => hw 2 _ rfl) ?_)⟩
      rw [Addr.add_zero']
      refine fLittleW (n := 4) f7.drew (i + 1) (hgi _ _) (by rw [u64_def]; omega) (by simp only [List.length_append, sOf_len]; omega) fun v8 w8 f8 => ?_
      rw [hse, show clN 4 = 4 from rfl] at f8
      refine ⟨hB f8, fLoad_v f8 0 3 rfl rfl (gCall_u (wtags_any (ts := u.p.chain) f8 (i + 1) (hgi _ _) (fun w' hf => ?_) (by simp only [List.length_append, sOf_len, littleB_len]; omega)) fun w9 ⟨v9, f9⟩ => ?_)⟩
      · rw [List.eraseIdx_cons_succ, erase_set'] at hf
        exact (hn w' (hf.drop 0)).2 u hmu
      rw [hse] at f9
      refine ⟨fun w' => ∀ z y, (c5 u)[z]? = some y → w'.cell? (x5.add z) = some y, hB f9.drew, gNil_some (gLoadB_i (fun w' hw => hw 4 _ rfl) ?_)⟩
      rw [Addr.add_zero']
      refine fNumU f9.drew (i + 1) (hgi _ _) (by simp only [List.length_append, sOf_len, littleB_len]; omega) fun v10 w10 f10 => ?_
      rw [hse] at f10
      refine ⟨hB f10, ⟨j + 1, v10, by rw [i64_id (by omega) (by omega)]; omega, by omega, ?_⟩, by dsimp only; rw [i64_id (by omega) (by omega)]; omega⟩
      have e : xs ++ numB us.length ++ itemsN ((us.take (j + 1)).map ItV.p) = Y ++ numB u.p.name.size ++ sOf u.p.name ++ numB (u64 u.p.size).toNat ++ littleB (u64 u.p.sum) 4 ++ tagsB u.p.chain ++ numB (u64 u.p.packed).toNat := by
        rw [tu, List.map_append, itemsN_app, hY]
        have e1 : itemsN ([u].map ItV.p) = itB u.p := by simp [itemsN]
        rw [e1]; unfold itB; simp only [List.append_assoc]
      rw [e]; exact f10.drop 0
    · simp at hx; rcases hx with rfl | rfl | rfl | rfl | rfl
      · rfl
      · rfl
      · rfl
      · exact hcv
      · rfl
  · obtain rfl : j = us.length := by omega
    rw [List.take_length] at f2
    refine ⟨rfl, v2, ?_⟩
    unfold itemsB; rw [List.length_map, ← List.append_assoc]; exact f2
end
end Go.Proofs.YtiimlfgjnapgjaaGreatDoorV

/- Package crc: the sum of bytes, by a table and bit by bit. -/
set_option linter.unusedVariables false
set_option linter.unusedSimpArgs false
namespace Go.Proofs.YtiimlfgjnapgjaaGreatDoorV
open Go Go.RowKit
/-- One bit of the remainder. -/
def cStep (s : Nat) : Nat := if s % 2 = 1 then s / 2 ^^^ 3988292384 else s / 2
def crIt : Nat → Nat → Nat
  | 0, s => s
  | k + 1, s => cStep (crIt k s)
theorem cStep_xor (a b : Nat) : cStep (a ^^^ b) = cStep a ^^^ cStep b := by
  unfold cStep
  have hm : (a ^^^ b) % 2 = 1 ↔ ¬ (a % 2 = 1 ↔ b % 2 = 1) := Nat.xor_mod_two_eq_one
  rw [Nat.xor_div_two]
  by_cases h1 : a % 2 = 1 <;> by_cases h2 : b % 2 = 1
  · rw [if_neg (by rw [hm]; simp [h1, h2]), if_pos h1, if_pos h2, show a / 2 ^^^ 3988292384 ^^^ (b / 2 ^^^ 3988292384) = (a / 2 ^^^ b / 2) ^^^ (3988292384 ^^^ 3988292384) by rw [Nat.xor_assoc, Nat.xor_assoc, ← Nat.xor_assoc 3988292384, Nat.xor_comm 3988292384 (b / 2), Nat.xor_assoc], Nat.xor_self, Nat.xor_zero]
  · rw [if_pos (by rw [hm]; simp [h1, h2]), if_pos h1, if_neg h2, Nat.xor_assoc, Nat.xor_assoc, Nat.xor_comm (b / 2)]
  · rw [if_pos (by rw [hm]; simp [h1, h2]), if_neg h1, if_pos h2, Nat.xor_assoc]
  · rw [if_neg (by rw [hm]; simp [h1, h2]), if_neg h1, if_neg h2]
theorem crIt_xor (a b : Nat) : ∀ k, crIt k (a ^^^ b) = crIt k a ^^^ crIt k b
  | 0 => rfl
  | k + 1 => by rw [crIt, crIt_xor a b k, cStep_xor]; rfl
theorem cStep_even {s : Nat} (h : s % 2 = 0) : cStep s = s / 2 := by unfold cStep; rw [if_neg (by omega)]
theorem crIt_high (y : Nat) : ∀ k d : Nat, crIt k (y * 2 ^ (k + d)) = y * 2 ^ d
  | 0, d => by rw [Nat.zero_add]; rfl
  | k + 1, d => by
    rw [crIt, show k + 1 + d = k + (d + 1) by omega, crIt_high y k (d + 1), Nat.pow_succ, ← Nat.mul_assoc, cStep_even (by omega)]
    omega
theorem xor_split (x : Nat) : x = x / 256 * 256 ^^^ x % 256 := by
  apply Nat.eq_of_testBit_eq
  intro i
  rw [Nat.testBit_xor, show (256 : Nat) = 2 ^ 8 from rfl, Nat.testBit_mod_two_pow, Nat.testBit_mul_two_pow, Nat.testBit_div_two_pow]
  by_cases h : i < 8
  · rw [decide_eq_false (show ¬ 8 ≤ i by omega), decide_eq_true h]; simp
  · rw [decide_eq_true (show 8 ≤ i by omega), decide_eq_false h, show i - 8 + 8 = i by omega]; simp
theorem crIt8 (x : Nat) : crIt 8 x = x / 256 ^^^ crIt 8 (x % 256) := by
  conv => lhs; rw [xor_split x, crIt_xor]
  rw [show (256 : Nat) = 2 ^ (8 + 0) from rfl, crIt_high, Nat.pow_zero, Nat.mul_one]
theorem cStep_lt {s : Nat} (h : s < 4294967296) : cStep s < 4294967296 := by
  unfold cStep
  split
  · exact Nat.xor_lt_two_pow (n := 32) (by omega) (by decide)
  · omega
theorem crIt_lt {s : Nat} (h : s < 4294967296) : ∀ k, crIt k s < 4294967296
  | 0 => h
  | k + 1 => cStep_lt (crIt_lt h k)
/-- The remainder behind bytes. -/
def cByte (v x : Nat) : Nat := crIt 8 (v ^^^ x)
def cRun (v : Nat) (xs : List Int) : Nat := xs.foldl (fun v x => cByte v x.toNat) v
theorem cRun_cons (v : Nat) (x : Int) (xs : List Int) : cRun v (x :: xs) = cRun (cByte v x.toNat) xs := by simp only [cRun, List.foldl_cons]
def cAdd (sum : Nat) (xs : List Int) : Nat := cRun (sum ^^^ 4294967295) xs ^^^ 4294967295
def cSum (xs : List Int) : Int := ((cAdd 0 xs : Nat) : Int)

theorem cRun_app (v : Nat) (xs ys : List Int) : cRun v (xs ++ ys) = cRun (cRun v xs) ys := by unfold cRun; rw [List.foldl_append]
theorem cRun_lt : ∀ (xs : List Int) (v : Nat), inR .u8 xs → v < 4294967296 → cRun v xs < 4294967296
  | [], v, _, h => h
  | x :: xs, v, hx, h => by
    rw [cRun_cons]
    refine cRun_lt xs _ (fun y hy => hx y (List.mem_cons_of_mem _ hy)) (crIt_lt ?_ 8)
    have := hx.u8 (x := x) (by simp)
    exact Nat.xor_lt_two_pow (n := 32) (by omega) (by omega)
theorem cAdd_lt {s : Nat} {xs : List Int} (hx : inR .u8 xs) (h : s < 4294967296) : cAdd s xs < 4294967296 := by
  unfold cAdd
  exact Nat.xor_lt_two_pow (n := 32) (cRun_lt xs _ hx (Nat.xor_lt_two_pow (n := 32) (by omega) (by decide))) (by decide)
theorem cSum_rng {xs : List Int} (hx : inR .u8 xs) : 0 ≤ cSum xs ∧ cSum xs < 4294967296 := by
  have := cAdd_lt (s := 0) hx (by decide)
  unfold cSum; omega
def crcT : List Int := (List.range 256).map fun i => ((crIt 8 i : Nat) : Int)
theorem crcT_len : crcT.length = 256 := by unfold crcT; rw [List.length_map, List.length_range]
theorem crcT_rd {j : Nat} (h : j < 256) : rd crcT (j : Int) = ((crIt 8 j : Nat) : Int) := by
  rw [rd_nat crcT j (by rw [crcT_len]; exact h)]
  unfold crcT
  rw [List.getElem_map, List.getElem_range]
theorem crcT_step {j : Nat} (h : j < 256) : (crcT.take j ++ List.replicate (256 - j) 0).set j ((crIt 8 j : Nat) : Int) = crcT.take (j + 1) ++ List.replicate (256 - (j + 1)) 0 := by
  have hl : (crcT.take j).length = j := by rw [List.length_take, crcT_len]; omega
  have hj : j < crcT.length := by rw [crcT_len]; exact h
  rw [List.take_succ_eq_append_getElem hj, ← rd_nat crcT j hj, crcT_rd h, List.set_append_right _ _ (by rw [hl]; exact Nat.le_refl _), hl, Nat.sub_self, show 256 - j = (256 - (j + 1)) + 1 by omega, List.replicate_succ, List.set_cons_zero, List.append_assoc]
  rfl
theorem xor_u32 {a b : Nat} (ha : a < 4294967296) (hb : b < 4294967296) : iXor .u32 (a : Int) (b : Int) = ((a ^^^ b : Nat) : Int) := iXor_nat rfl ha hb
theorem crShr1 (a : Nat) : iShr .u32 (a : Int) 1 = ((a / 2 : Nat) : Int) := by
  have := iShr_div (k := .u32) (a := (a : Int)) (n := 1) (by decide) (by omega)
  exact this
theorem crShr8 (a : Nat) : iShr .u32 (a : Int) 8 = ((a / 256 : Nat) : Int) := by
  have := iShr_div (k := .u32) (a := (a : Int)) (n := 8) (by decide) (by omega)
  exact this
theorem zero256u : (Value.agg (Array.replicate 256 (.int .u32 0))).cells.toList = List.replicate 256 (.int .u32 0) := Array.toList_replicate
theorem cStep_i {v : Nat} (hv : v < 4294967296) : ((iAnd .u32 (v : Int) 1) = 0 → iShr .u32 (v : Int) 1 = ((cStep v : Nat) : Int)) ∧ ((iAnd .u32 (v : Int) 1) ≠ 0 → iXor .u32 (iShr .u32 (v : Int) 1) 3988292384 = ((cStep v : Nat) : Int)) := by
  have h1 : iAnd .u32 (v : Int) 1 = ((v % 2 : Nat) : Int) := by
    have := iAnd_mask (k := .u32) (a := (v : Int)) (m := 1) (n := 1) rfl (by omega) (by show (v : Int) < 4294967296; omega) (by decide) (by decide)
    exact this
  have h2 : iShr .u32 (v : Int) 1 = ((v / 2 : Nat) : Int) := crShr1 v
  refine ⟨fun h => ?_, fun h => ?_⟩
  · rw [h2]; unfold cStep; rw [if_neg (by omega)]
  · rw [h2]; unfold cStep; rw [if_pos (by omega)]
    exact xor_u32 (b := 3988292384) (by omega) (by decide)
section
variable {w0 w : World} {F : List It} {xs : List Int}
set_option maxRecDepth 20000 in
theorem Table_any : Calls P n_crc_Table #[] w (fun e w' => e = .returned (.agg (crcT.map (.int .u32)).toArray) ∧ Ev w w') := by
  have hkl := crcT_len
  refine of_crc_Table (fAlloc (z := .agg (Array.replicate 256 (.int .u32 0))) (Fr.start w) (by kernel_rfl) fun t0 w1 f1 => fAlloc (z := .agg (Array.replicate 256 (.int .u32 0))) f1 (by kernel_rfl) fun t1 w2 f2 => ?_)
  rw [zero256u] at f2
  have e0 : List.replicate 256 (Value.int .u32 0) = (((crcT.take 0) ++ List.replicate (256 - 0) 0).map (.int .u32)) := by rw [List.take_zero, List.nil_append, List.map_replicate]
  refine ⟨fun i w' => ∃ j : Nat, i = j ∧ j ≤ 256 ∧ Fr w w' [sIt t1 (((crcT.take j) ++ List.replicate (256 - j) 0).map (.int .u32)), sIt t0 (List.replicate 256 (.int .u32 0))], fun i _ => 256 - i.toNat, ?_, ?_⟩
  · refine ⟨0, rfl, by omega, ?_⟩
    rw [← e0]; exact f2
  rintro _ i w3 ⟨j, rfl, hj, f3⟩
  refine gIf_dec (fun hlt => ?_) (fun hge => ?_)
  · have hlt' : j < 256 := by omega
    refine ⟨fun v k w' => ∃ q : Nat, k = q ∧ q ≤ 8 ∧ v = ((crIt q j : Nat) : Int) ∧ w' = w3, fun _ k _ => 8 - k.toNat, ⟨0, rfl, by omega, by rw [u32_def]; unfold crIt; omega, rfl⟩, ?_⟩
    rintro _ v k _ ⟨q, rfl, hq, rfl, rfl⟩
    have hs := cStep_i (crIt_lt (s := j) (by omega) q)
    refine gIf_dec (fun hq2 => gIf_neq (fun h0 => ?_) (fun h0 => ?_)) (fun hq2 => ?_)
    · rw [hs.2 h0]
      exact ⟨⟨q + 1, by rw [i64_id (by omega) (by omega)]; omega, by omega, rfl, rfl⟩, by dsimp only; rw [i64_id (by omega) (by omega)]; omega⟩
    · rw [hs.1 h0]
      exact ⟨⟨q + 1, by rw [i64_id (by omega) (by omega)]; omega, by omega, rfl, rfl⟩, by dsimp only; rw [i64_id (by omega) (by omega)]; omega⟩
    · have hq8 : q = 8 := by omega
      subst hq8
      rw [i64_id (n := (j : Int) + 1) (by omega) (by omega)]
      refine gIdx_ar1 256 j rfl hlt' (fStore f3 0 j rfl (fun w5 f5 => ⟨⟨j + 1, by omega, by omega, ?_⟩, by dsimp only; omega⟩) (by simp [hkl]; omega))
      have e2 : ((crcT.take (j + 1)) ++ List.replicate (256 - (j + 1)) 0).map (Value.int .u32) = (((crcT.take j) ++ List.replicate (256 - j) 0).map (Value.int .u32)).set j (.int .u32 ((crIt 8 j : Nat) : Int)) := by
        rw [← List.map_set, crcT_step hlt']
      rw [e2]; exact f5
  · have : j = 256 := by omega
    subst this
    rw [List.take_of_length_le (by rw [hkl]; exact Nat.le_refl _), Nat.sub_self, List.replicate_zero, List.append_nil] at f3
    have h64 : (crcT.map (Value.int .u32)).length = 256 := by rw [List.length_map, hkl]
    refine fLoadArr f3 0 rfl ?_ (by rw [h64]; kernel_rfl)
    refine fStoreA f3 1 rfl (fun w5 f5 => ?_) (by simp [hkl]) (fun u hu => by obtain ⟨x, _, rfl⟩ := List.mem_map.1 hu; rfl) (by rw [List.size_toArray, h64]; kernel_rfl)
    refine fLoadArr f5 1 rfl ⟨?_, f5.old⟩ (by simp only [List.length_map, hkl]; kernel_rfl)
    simp
set_option maxRecDepth 20000 in
theorem cAdd_any {s : Nat} {b : Value} (hs : s < 4294967296) (hb : Nm .u8 w b xs) (hl : xs.length ≤ 1000000000) : Calls P n_crc_Add #[.int .u32 (s : Int), b] w (fun e w' => e = .returned (.int .u32 ((cAdd s xs : Nat) : Int)) ∧ Ev w w') := by
  have hkl : (crcT.map (Value.int .u32)).length = 256 := by rw [List.length_map, crcT_len]
  refine of_crc_Add (gCall_of Table_any ?_)
  rintro _ w1 ⟨rfl, h1⟩
  refine ⟨_, rfl, fAlloc (z := .agg (Array.replicate 256 (.int .u32 0))) ((Fr.start w).ev h1) (by kernel_rfl) fun t5 w2 f2 => ?_⟩
  rw [zero256u] at f2
  refine fStoreA f2 0 rfl (fun w3 f3 => ?_) (by simp [crcT_len]) (fun u hu => by obtain ⟨x, _, rfl⟩ := List.mem_map.1 hu; rfl) (by rw [List.size_toArray, hkl]; kernel_rfl)
  have f3' : Fr w w3 [sIt t5 (crcT.map (Value.int .u32))] := f3
  refine gLen_nm (hb.ev f3'.old) ⟨fun v i w' => ∃ j : Nat, i = j ∧ j ≤ xs.length ∧ v = ((cRun (s ^^^ 4294967295) (xs.take j) : Nat) : Int) ∧ w' = w3, fun _ i _ => xs.length - i.toNat, ⟨0, rfl, by omega, ?_, rfl⟩, ?_⟩
  · exact xor_u32 (b := 4294967295) hs (by decide)
  rintro _ v i _ ⟨j, rfl, hj, rfl, rfl⟩
  have hN := hb.ev f3'.old
  have hv : cRun (s ^^^ 4294967295) (xs.take j) < 4294967296 := cRun_lt _ _ (fun x hx => hb.2 x (List.mem_of_mem_take hx)) (Nat.xor_lt_two_pow (n := 32) (by omega) (by decide))
  refine gIf_dec (fun hlt => ?_) (fun hge => ?_)
  · have hlt' : j < xs.length := by omega
    have htk : xs.take (j + 1) = xs.take j ++ [rd xs (j : Int)] := by rw [List.take_succ_eq_append_getElem hlt', ← rd_nat xs j hlt']
    have hx := rd_u8 hb.2 (j : Int)
    generalize hvv : cRun (s ^^^ 4294967295) (xs.take j) = v at hv
    refine gIdx_nm hN (by omega) hlt fun ad c _ => gLoad_i c ?_
    obtain ⟨x, hxx⟩ : ∃ x : Nat, rd xs (j : Int) = x := ⟨(rd xs (j : Int)).toNat, by omega⟩
    rw [hxx] at htk hx ⊢
    have hix : iXor .u8 (u8 (v : Int)) (x : Int) = ((v % 256 ^^^ x : Nat) : Int) := by
      rw [show u8 (v : Int) = ((v % 256 : Nat) : Int) by rw [u8_def]; omega]
      exact iXor_nat (k := .u8) rfl (show v % 256 < 256 by omega) (show x < 256 by omega)
    have hxl : v % 256 ^^^ x < 256 := Nat.xor_lt_two_pow (n := 8) (by omega) (by omega)
    rw [hix]
    refine gIdx_ar1 256 (v % 256 ^^^ x) rfl hxl (fLoad_i (n := ((crIt 8 (v % 256 ^^^ x) : Nat) : Int)) f3' 0 (v % 256 ^^^ x) rfl ?_ ?_)
    · have hq := rd_get (xs := crcT) (i := ((v % 256 ^^^ x : Nat) : Int)) (by omega) (by rw [crcT_len]; omega)
      rw [Int.toNat_natCast, crcT_rd hxl] at hq
      rw [List.getElem?_map, hq]; rfl
    · rw [crShr8, xor_u32 (by omega) (crIt_lt (by omega) 8)]
      refine ⟨⟨j + 1, by rw [i64_id (by omega) (by omega)]; omega, by omega, ?_, rfl⟩, by dsimp only; rw [i64_id (by omega) (by omega)]; omega⟩
      rw [htk, cRun_app, hvv]
      rw [cRun_cons, Int.toNat_natCast]
      show ((v / 256 ^^^ crIt 8 (v % 256 ^^^ x) : Nat) : Int) = ((cByte v x : Nat) : Int)
      unfold cByte
      rw [crIt8 (v ^^^ x)]
      have d1 : (v ^^^ x) / 256 = v / 256 := by
        have := Nat.xor_div_two_pow (a := v) (b := x) (n := 8)
        rw [show (2 : Nat) ^ 8 = 256 from rfl] at this
        rw [this, show x / 256 = 0 by omega, Nat.xor_zero]
      have d2 : (v ^^^ x) % 256 = v % 256 ^^^ x := by
        have := Nat.xor_mod_two_pow (a := v) (b := x) (n := 8)
        rw [show (2 : Nat) ^ 8 = 256 from rfl] at this
        rw [this, show x % 256 = x by omega]
      rw [d1, d2]
  · obtain rfl : j = xs.length := by omega
    rw [List.take_length] at hv ⊢
    refine ⟨?_, f3'.old⟩
    have e : iXor .u32 ((cRun (s ^^^ 4294967295) xs : Nat) : Int) 4294967295 = ((cRun (s ^^^ 4294967295) xs ^^^ 4294967295 : Nat) : Int) := xor_u32 (b := 4294967295) hv (by decide)
    rw [e]; unfold cAdd; rfl
theorem cSum_any {b : Value} (hb : Nm .u8 w b xs) (hl : xs.length ≤ 1000000000) : Calls P n_crc_Sum #[b] w (fun e w' => e = .returned (.int .u32 (cSum xs)) ∧ Ev w w') :=
  of_crc_Sum (gCall_i (cAdd_any (s := 0) (by decide) hb hl) fun w' h => ⟨rfl, h⟩)
end
end Go.Proofs.YtiimlfgjnapgjaaGreatDoorV

/- Package slices: Chunk: parts, and what ranges over it. -/
namespace Go.Proofs.YtiimlfgjnapgjaaGreatDoorV
open Go Go.RowKit
/-- v[l:h:h]. -/
def subV3 (sz : Nat) (v : Value) (l h : Nat) : Value := match v with
  | .slice a _ _ => .slice (if h = l then a else a.map (·.add (l * sz))) (h - l) (h - l)
  | v => v
section
variable {P : Program} {w : World}
theorem gSlice_3 {t : TypeId} {sz : Nat} {a : Option Addr} {n c : Nat} {k1 k2 k3 : IntKind} {l h : Nat} {K : Value → Prop} (hl : l ≤ h) (hh : h ≤ c)
    (hk : K (subV3 sz (.slice a n c) l h)) (ht : slSz P t sz = true) : gSlice P t (.slice a n c) (some (.int k1 l)) (some (.int k2 h)) (some (.int k3 h)) K := by
  obtain ⟨hu, i, hi', hsz⟩ := slSz_ok ht
  refine ⟨_, fun w => ?_, hk⟩
  have hb : (Instr.sliceBounds true n c (some (.int k1 l)) (some (.int k2 h)) (some (.int k3 h))).run P w = .ok (l, h, h) w := by
    simp [Instr.sliceBounds, Instr.sliceBound, asIntOf, hl, hh]
  simp only [Instr.sliceAt, Sem.run_bind, run_underlying hu, Result.andThen_ok, Instr.slice, hb, sizeOf, typeInfo, run_program, hi', Sem.run_pure, hsz, subV3]
theorem Nm.sub3 {k : IntKind} {v : Value} {xs : List Int} (h : Nm k w v xs) (l m : Nat) (hl : l ≤ m) (hm : m ≤ xs.length) : Nm k w (subV3 1 v l m) ((xs.drop l).take (m - l)) := by
  refine ⟨?_, (h.2.drop l).take _⟩
  obtain ⟨a, c, rfl, h1, h2, h3, h4⟩ := h.1
  have hlen : ((xs.drop l).take (m - l)).length = m - l := by rw [List.length_take, List.length_drop]; omega
  rw [hlen]
  refine ⟨_, _, rfl, Nat.le_refl _, by simp; omega, fun ad ha j u hj => ?_, fun ha => ?_⟩
  · have hjl : j < m - l := by have := (List.getElem?_eq_some_iff.1 hj).1; simp at this; omega
    rw [if_neg (by omega), Option.map_eq_some_iff] at ha
    obtain ⟨a0, rfl, rfl⟩ := ha
    rw [Addr.add2', Nat.mul_one]
    refine h3 a0 rfl _ u ?_
    rw [List.getElem?_map, List.getElem?_take, if_pos hjl, List.getElem?_drop] at hj
    rw [List.getElem?_map]; exact hj
  · split at ha
    · have := h4 ha; omega
    · have := h4 (Option.map_eq_none_iff.1 ha); omega
theorem subV3_own (sz : Nat) (v : Value) (l m : Nat) : (subV3 sz v l m).ownBlock = v.ownBlock := by
  cases v <;> try rfl
  rename_i a n c
  simp only [subV3]
  split
  · cases a <;> rfl
  · cases a with
    | none => rfl
    | some ad => simp only [Option.map_some, Value.ownBlock]; unfold Addr.add; split <;> rfl
theorem Fr.putObj {w0 : World} {F : List It} {D : Nat} {o o' : Obj} (h : Fr w0 w F) (hD : w0.heap.size ≤ D) (hk : w.heap[D]? = some o) (ho : o.isCells = false) : Fr w0 (w.putObj D o') F :=
  h.gr (by simp) rfl rfl rfl (fun k hk' => World.putObj_heap_other (by omega)) fun k c e f hc => World.putObj_heap_other (ne_cells hc hk ho).symm
theorem Fr.grown {w0 w' : World} {F : List It} {row : Option Nat} (h : Fr w0 w F) (hg : w.grownBy w' row) (hr : ∀ r, row = some r → w0.heap.size ≤ r ∧ ∃ o : Obj, w.heap[r]? = some o ∧ o.isCells = false) : Fr w0 w' F :=
  h.gr hg.size hg.os hg.tape hg.output (fun k hk => hg.block k (Nat.lt_of_lt_of_le hk h.old.size) fun e => by have := (hr k e.symm).1; omega)
    fun k c e f hc => hg.block k (hlt hc) fun e' => by obtain ⟨_, o, ho, hn⟩ := hr k e'.symm; exact ne_cells hc ho hn rfl
end
/-- The numbers of a part. -/
def chL (n : Nat) (xs : List Int) (j : Nat) : List Int := (xs.drop (j * n)).take n
/-- The part itself. -/
def chV (n : Nat) (s : Value) (len j : Nat) : Value := if j * n ≤ len then subV3 1 s (j * n) (min (j * n + n) len) else .slice none 0 0
/-- How many parts there are. -/
def chN (n len : Nat) : Nat := (len + (n - 1)) / n
theorem chL_len (n : Nat) (xs : List Int) (j : Nat) : (chL n xs j).length ≤ n := by unfold chL; rw [List.length_take]; omega
theorem chV_nm {k : IntKind} {w : World} {n : Nat} {s : Value} {xs : List Int} (h : Nm k w s xs) (j : Nat) : Nm k w (chV n s xs.length j) (chL n xs j) := by
  unfold chV chL
  split
  · rename_i hj
    have := h.sub3 (j * n) (min (j * n + n) xs.length) (by omega) (by omega)
    have e : (xs.drop (j * n)).take (min (j * n + n) xs.length - j * n) = (xs.drop (j * n)).take n := by
      by_cases hc : j * n + n ≤ xs.length
      · rw [Nat.min_eq_left hc, Nat.add_sub_cancel_left]
      · rw [Nat.min_eq_right (by omega), List.take_of_length_le (by simp), List.take_of_length_le (by simp; omega)]
    rwa [e] at this
  · rw [List.drop_of_length_le (by omega), List.take_nil]; exact Nm.nil k w
theorem chN_lt {n len j : Nat} (hn : 1 ≤ n) : j < chN n len ↔ j * n < len := by
  unfold chN
  rw [Nat.lt_div_iff_mul_lt (by omega)]
  omega
end Go.Proofs.YtiimlfgjnapgjaaGreatDoorV

/- Package slices: Chunk, byte. -/
namespace Go.Proofs.YtiimlfgjnapgjaaGreatDoorV
open Go Go.RowKit
section
variable {w0 w : World} {F : List It} {s : Value} {xs : List Int} {n : Nat} {a b : Addr}
theorem Chunk8_any {K : Value → World → Prop} (h : Fr w0 w F) (hs : s.cells = #[s]) (hn : 1 ≤ n) (hk : ∀ a b w', Fr w0 w' (sIt b [.int .i64 (n : Int)] :: sIt a [s] :: F) → K (.func (.func n_slices_Chunk_byte_byte_1) #[] #[.pointer (some a), .pointer (some b)]) w') :
    gCall P n_slices_Chunk_byte_byte shV #[s, .int .i64 (n : Int)] w K := by
  refine gCall_of (R := fun e w' => ∃ a b, e = .returned (.func (.func n_slices_Chunk_byte_byte_1) #[] #[.pointer (some a), .pointer (some b)]) ∧ Fr w0 w' (sIt b [.int .i64 (n : Int)] :: sIt a [s] :: F)) (of_slices_Chunk_byte_byte (fBox h fun a w1 f1 => fBox f1 fun b w2 f2 => ?_)) ?_
  · rw [hs] at f2
    have hc := f2.cell 0 0 rfl rfl
    rw [Addr.add_zero'] at hc
    exact gLoad_i hc (gIf_dec (fun h => by omega) fun _ => ⟨a, b, rfl, f2⟩)
  · rintro _ w' ⟨a, b, rfl, f⟩
    exact ⟨_, rfl, hk a b w' f⟩
/-- What a round keeps. -/
def KpC8 (a b : Addr) (s : Value) (n : Nat) (A B : World) : Prop := (A.cell? a = some s → B.cell? a = some s) ∧ (A.cell? b = some (.int .i64 (n : Int)) → B.cell? b = some (.int .i64 (n : Int)))
theorem chunk8_stops (hs : Nm .u8 w s xs) (hl : xs.length ≤ 1000000000) (hn : 1 ≤ n) (hn2 : n ≤ 1000000) (ha : w.cell? a = some s) (hb : w.cell? b = some (.int .i64 (n : Int))) :
    SeqStopsK Fence.wide 4 P n_slices_Chunk_byte_byte_1 #[.pointer (some a), .pointer (some b)] (fun j : Nat => #[chV n s xs.length j]) (KpC8 a b s n) (fun ys => ys = List.range (chN n xs.length)) (fun _ => True) (chN n xs.length) w := by
  intro l J Jx W hW hJ hJx hY h0
  refine callsIn_wide.2 ?_
  have sl := hs.shape
  obtain ⟨sa, sc, hsv, hsc⟩ := sl
  have haW := (hW.cell (p := a) (World.block_lt_of_cell? w _ ha)).trans ha
  have hbW := (hW.cell (p := b) (World.block_lt_of_cell? w _ hb)).trans hb
  show Calls P n_slices_Chunk_byte_byte_1 #[.func (.yield l) #[] #[], .pointer (some a), .pointer (some b)] W _
  refine of_slices_Chunk_byte_byte_1 ⟨fun i w' => ∃ j : Nat, i = ((j * n : Nat) : Int) ∧ j ≤ chN n xs.length ∧ J (List.range j) w' ∧ KpC8 a b s n W w', fun i _ => xs.length - i.toNat, ⟨0, by simp, by omega, h0, id, id⟩, ?_⟩
  rintro _ i w1 ⟨j, rfl, hj, hJ1, hK1⟩
  have ha1 := hK1.1 haW
  have hb1 := hK1.2 hbW
  have hjn := chN_lt (len := xs.length) (j := j) hn
  subst hsv
  refine gLoad_v ha1 (gLen_sl (gIf_dec (fun hlt => ?_) (fun hge => ?_)))
  · have hlt' : j * n < xs.length := by omega
    refine gLoadB_i (at1 hb1) (gLoadB_v (at1 ha1) (gSlice_any (sz := 1) (l := j * n) (h := xs.length) (.inr ⟨_, rfl⟩) (.inl ⟨rfl, rfl⟩) (by omega) hsc ?_ (by kernel_rfl)))
    refine gLen_sl ?_
    have hmin : (if ((xs.length - j * n : Nat) : Int) < (n : Int) then ((xs.length - j * n : Nat) : Int) else (n : Int)) = ((min (xs.length - j * n) n : Nat) : Int) := by split <;> omega
    have hend : i64 (((j * n : Nat) : Int) + ((min (xs.length - j * n) n : Nat) : Int)) = ((min (j * n + n) xs.length : Nat) : Int) := by rw [i64_id (by omega) (by omega)]; omega
    rw [hmin, hend]
    refine gLoad_v ha1 (gSlice_3 (sz := 1) (by omega) (by omega) ?_ (by kernel_rfl))
    have hcv : subV3 1 (.slice sa xs.length sc) (j * n) (min (j * n + n) xs.length) = chV n (.slice sa xs.length sc) xs.length j := by unfold chV; rw [if_pos (by omega)]
    rw [hcv]
    have hJd : J (List.range j) w1.drew := hJ _ w1 w1.drew none hJ1 ⟨rfl, rfl, rfl, Nat.le_refl _, fun _ _ _ => rfl⟩ fun r e => by cases e
    obtain ⟨fn, tmps, asg, bo, hy, hR⟩ := hY (List.range j) j w1.drew hJd (by rw [List.length_range]; exact hjn.2 hlt')
    refine .inr ⟨l, 3, rfl, fn, tmps, asg, bo, hy, hR.mono ?_⟩
    rintro e W' (⟨rfl, hJ2, hK2⟩ | ⟨rfl, hJx2⟩)
    · have hb2 : W'.cell? b = some (.int .i64 (n : Int)) := hK2.2 hb1
      refine ⟨true, rfl, gIf_nt (gLoad_i hb2 ?_)⟩
      rw [show i64 (((j * n : Nat) : Int) + (n : Int)) = (((j + 1) * n : Nat) : Int) by rw [i64_id (by omega) (by omega), Nat.succ_mul]; omega]
      refine ⟨⟨j + 1, rfl, hjn.2 hlt', by rw [List.range_succ]; exact hJ2, fun _ => hK2.1 ha1, fun _ => hb2⟩, ?_⟩
      dsimp only
      rw [Int.toNat_natCast, Int.toNat_natCast, Nat.succ_mul]; omega
    · exact ⟨false, rfl, gIf_nf ⟨⟨_, rfl⟩, .inr ⟨_, trivial, hJx2⟩⟩⟩
  · refine ⟨⟨_, rfl⟩, .inl ⟨_, rfl, ?_⟩⟩
    have : j = chN n xs.length := by
      have h1 : ¬ j < chN n xs.length := fun h => by rw [hjn] at h; omega
      omega
    rw [← this]; exact hJ1
/-- The parts of a slice, one by one: Q tells what stands when some have come. -/
theorem range_chunk8 {BODY : Value → World → (World → Prop) → Prop} {POST : Nat → World → Prop} (f : Fr w0 w (sIt b [.int .i64 (n : Int)] :: sIt a [s] :: F)) (hs : Nm .u8 w0 s xs) (hl : xs.length ≤ 1000000000) (hn : 1 ≤ n) (hn2 : n ≤ 1000000)
    (Q : List Nat → List It → Prop) (h0 : Q [] F)
    (hbody : ∀ pre j W G, Q pre G → Fr w0 W (sIt b [.int .i64 (n : Int)] :: sIt a [s] :: G) → pre.length < chN n xs.length → Nm .u8 W (chV n s xs.length j) (chL n xs j) → (∀ g, (chV n s xs.length j).ownBlock = some g → g < w0.heap.size ∨ chL n xs j = []) →
      ∀ K : World → Prop, (∀ W' G', KeepsOthers W W' → Q (pre ++ [j]) G' → Fr w0 W' (sIt b [.int .i64 (n : Int)] :: sIt a [s] :: G') → K W') → BODY (chV n s xs.length j) W K)
    (hpost : ∀ D W G, w.heap.size ≤ D → Q (List.range (chN n xs.length)) G → Fr w0 W (sIt b [.int .i64 (n : Int)] :: sIt a [s] :: G) → W.heap[D]? = some (.deferred (some [])) → POST D W) :
    gRange P (.func (.func n_slices_Chunk_byte_byte_1) #[] #[.pointer (some a), .pointer (some b)]) w BODY POST := by
  have ca : ∀ {W : World} {G : List It}, Fr w0 W (sIt b [.int .i64 (n : Int)] :: sIt a [s] :: G) → W.cell? a = some s := fun f => by have := f.cell 1 0 rfl rfl; rwa [Addr.add_zero'] at this
  have cb : ∀ {W : World} {G : List It}, Fr w0 W (sIt b [.int .i64 (n : Int)] :: sIt a [s] :: G) → W.cell? b = some (.int .i64 (n : Int)) := fun f => by have := f.cell 0 0 rfl rfl; rwa [Addr.add_zero'] at this
  refine ⟨_, _, rfl, by kernel_rfl, Nat, chV n s xs.length, KpC8 a b s n, _, _, _, fun pre W => ∃ G, Q pre G ∧ Fr w0 W (sIt b [.int .i64 (n : Int)] :: sIt a [s] :: G), chunk8_stops (hs.ev f.old) hl hn hn2 (ca f) (cb f), fun h k => ⟨fun x => k.1 (h.1 x), fun x => k.2 (h.2 x)⟩, ?_, ?_, ⟨F, h0, f⟩, ?_, ?_⟩
  · intro W l o o' _ hlo ho _
    have keep : ∀ {c : Addr} {u : Value}, W.cell? c = some u → (W.putObj l o').cell? c = some u := fun {c u} hc => by
      obtain ⟨oc, hoc, hcc⟩ := cells_of_cell hc
      have : c.block ≠ l := fun e => by rw [e, hlo] at hoc; injection hoc with hoc; subst hoc; rw [ho] at hcc; cases hcc
      rw [World.cell?_of_block (World.putObj_heap_other this)]; exact hc
    exact ⟨keep, keep⟩
  · rintro pre W W' row ⟨G, hQ, fG⟩ hg hr
    exact ⟨G, hQ, fG.grown hg fun r e => ⟨Nat.le_trans f.old.size (hr r e).1, (hr r e).2⟩⟩
  · rintro pre j W ⟨G, hQ, fG⟩ hlen
    have hN := chV_nm (n := n) (hs.ev fG.old) j
    refine hbody pre j W G hQ fG hlen hN (fun g hg => ?_) _ fun W' G' h1 h2 h3 => ⟨h1, ⟨fun _ => ca h3, fun _ => cb h3⟩, G', h2, h3⟩
    by_cases he : xs = []
    · right; unfold chL; rw [he]; simp
    · left
      unfold chV at hg
      split at hg
      · rw [subV3_own] at hg; exact hs.old he hg
      · cases hg
  · rintro D xs' W hD rfl ⟨G, hQ, fG⟩ hk
    exact hpost D W G hD hQ fG hk
end
end Go.Proofs.YtiimlfgjnapgjaaGreatDoorV

/- Package box: entries, turned; Make. -/
set_option linter.unusedVariables false
set_option linter.unusedSimpArgs false
namespace Go.Proofs.YtiimlfgjnapgjaaGreatDoorV
open Go Go.RowKit
theorem Nm.chN {k : IntKind} {S : SS} {w w' : World} {v : Value} {xs : List Int} (h : Nm k w v xs) (hc : Ch S w w') (hs : xs ≠ [] → ∀ g i, v.ownBlock = some g → ¬ S g i) : Nm k w' v xs := by
  by_cases he : xs = []
  · subst he
    obtain ⟨⟨a, c, h1, h2, h3, h4, h5⟩, h6⟩ := h
    exact ⟨⟨a, c, h1, h2, h3, fun ad ha j u hj => by simp at hj, h5⟩, h6⟩
  · exact h.ch hc (hs he)
noncomputable abbrev eI5 : TypeId := elOf P t_sl_api_Item
abbrev ChF := List Int → List Int → List Int × List Int
/-- An entry's bytes, turned, if that does not make them much longer. -/
def turnBx (ch : ChF) (tg xs : List Int) : List Int × List Int := if (((ch xs tg).1.length : Nat) : Int) > (xs.length : Int) + (xs.length : Int) / 256 + 8 then (xs, []) else ch xs tg
def itemP (r : List Int × List Int) (e : En) : ItP := ⟨e.1, e.2.length, cSum e.2, r.2, r.1.length⟩
/-- The chain that an entry is turned by. -/
def tgOf (auto : Bool) (ts : List Int) (dF : List Int → List Int) (xs : List Int) : List Int := if auto = true then dF xs else ts
def trOf (ch : ChF) (auto : Bool) (ts : List Int) (dF : List Int → List Int) (e : En) : List Int × List Int := turnBx ch (tgOf auto ts dF e.2) e.2
noncomputable def TurnE (w : World) (name : ByteArray) (xs : List Int) (r : List Int × List Int) (e : Ending) (w' : World) : Prop :=
  ∃ y did, e = .returned (.tuple #[y, .agg #[.string name, .int .i64 xs.length, .int .u32 (cSum xs), did, .int .i64 r.1.length]]) ∧ Ev w w' ∧ Nm .u8 w' y r.1 ∧ ON .i64 eN w' w.heap.size did r.2
section
variable {w0 w : World} {F : List It}
theorem turned_any {name : ByteArray} {dv cv sv nv : Value} {auto locked : Bool} {level block rounds : Int} {xs ts : List Int} {ch : ChF} {dF : List Int → List Int} (hd : Nm .u8 w dv xs) (hc : Nm .i64 w cv ts) (hl : xs.length ≤ 10000000)
    (hch : ∀ {w' : World} {b tv : Value}, Ev w w' → Nm .u8 w' b xs → Nm .i64 w' tv (tgOf auto ts dF xs) → Calls P n_chain_Choose #[b, tv] w' (FwdE w' (ch xs (tgOf auto ts dF xs))))
    (hdet : auto = true → ∀ {w' : World} {b : Value}, Ev w w' → Nm .u8 w' b xs → Calls P n_chain_Detect #[b] w' (DetE w' (dF xs))) :
    Calls P n_box_turned #[.agg #[.string name, dv], .agg #[.bool auto, cv, .int .i64 level, .int .i64 block, .bool locked, sv, nv, .int .i64 rounds]] w (TurnE w name xs (turnBx ch (tgOf auto ts dF xs) xs)) := by
  refine of_box_turned (fBox (Fr.start w) fun x2 w1 f1 => fBox f1 fun o3 w2 f2 => fAlloc (z := .agg #[.string ⟨#[]⟩, .int .i64 0, .int .u32 0, .slice none 0 0, .int .i64 0]) f2 (by kernel_rfl) fun t5 w3 f3 => fLoad_v f3 1 1 rfl rfl ?_)
  obtain ⟨tg, htg⟩ : ∃ tg, tg = tgOf auto ts dF xs := ⟨_, rfl⟩
  rw [← htg] at hch ⊢
  obtain ⟨FF, hFF⟩ : ∃ FF : List It, FF = [sIt t5 [.string ⟨#[]⟩, .int .i64 0, .int .u32 0, .slice none 0 0, .int .i64 0], sIt o3 [.bool auto, cv, .int .i64 level, .int .i64 block, .bool locked, sv, nv, .int .i64 rounds], sIt x2 [.string name, dv]] := ⟨_, rfl⟩
  have f3 : Fr w w3 FF := by rw [hFF]; exact f3
  refine ⟨fun v w' => Fr w w' FF ∧ Nm .i64 w' v tg, fLoad_b f3 1 0 (by rw [hFF]; rfl) rfl (gIf_b (fun ha => fLoad_v f3 2 1 (by rw [hFF]; rfl) rfl (gCall_of (hdet ha f3.old (hd.ev f3.old)) ?_)) (fun ha => ⟨f3, by rw [htg]; unfold tgOf; rw [ha]; exact hc.ev f3.old⟩)), ?_⟩
  · rintro _ w4 ⟨v, rfl, h4, nv4⟩
    exact ⟨v, rfl, f3.ev h4, by rw [htg]; unfold tgOf; rw [if_pos ha]; exact nv4⟩
  rintro _ tv w5 ⟨f5, ht5⟩
  refine fLoad_v f5 2 1 (by rw [hFF]; rfl) rfl (gCall_of (hch f5.old (hd.ev f5.old) ht5) ?_)
  rintro _ w6 ⟨y, did, rfl, h6, ny, nd⟩
  have f6 := f5.ev h6
  have ht5b : t5.block < w5.heap.size := (f5.ft 0 (it := sIt t5 [.string ⟨#[]⟩, .int .i64 0, .int .u32 0, .slice none 0 0, .int .i64 0]) (by rw [hFF]; rfl) (k := t5.block) rfl).2
  have ht5a : w.heap.size ≤ t5.block := (f5.ft 0 (it := sIt t5 [.string ⟨#[]⟩, .int .i64 0, .int .u32 0, .slice none 0 0, .int .i64 0]) (by rw [hFF]; rfl) (k := t5.block) rfl).1
  refine ⟨y, did, rfl, fun y' did' w' => Fr w w' FF ∧ Nm .u8 w' y' (turnBx ch tg xs).1 ∧ ON .i64 eN w' w5.heap.size did' (turnBx ch tg xs).2 ∧ ((turnBx ch tg xs).1 ≠ [] → ∀ g, y'.ownBlock = some g → g ≠ t5.block), ?_, ?_⟩
  · refine gLen_nm ny.nm (fLoad_v f6 2 1 (by rw [hFF]; rfl) rfl (gLen_nm (hd.ev f6.old) (gCall_i0 (of_box_grown ⟨rfl, rfl⟩) ?_)))
    have e : i64 (i64 ((xs.length : Int) + i64 (Int.tdiv (xs.length : Int) 256)) + 8) = (xs.length : Int) + (xs.length : Int) / 256 + 8 := by
      rw [Int.tdiv_eq_ediv_of_nonneg (by omega), i64_id (n := (xs.length : Int) / 256) (by omega) (by omega), i64_id (n := (xs.length : Int) + (xs.length : Int) / 256) (by omega) (by omega), i64_id (by omega) (by omega)]
    rw [e]
    refine gIf_dec (fun hg => fLoad_v f6 2 1 (by rw [hFF]; rfl) rfl ?_) (fun hg => ?_)
    · have e2 : turnBx ch tg xs = (xs, []) := by unfold turnBx; rw [if_pos hg]
      rw [e2]
      exact ⟨f6, hd.ev f6.old, ON.nil .i64 eN _ _, fun hne g hgo e => by have := hd.old hne hgo; omega⟩
    · have e2 : turnBx ch tg xs = ch xs tg := by unfold turnBx; rw [if_neg hg]
      rw [e2]
      exact ⟨f6, ny.nm, nd, fun _ g hgo e => by have := (ny.base hgo).1; omega⟩
  rintro _ y' did' w8 ⟨f8, ny8, nd8, hy8⟩
  have hB : ∀ {w' : World}, Ev w8 w' → ∀ z u, [Value.string name, dv][z]? = some u → w'.cell? (x2.add z) = some u := fun he z u hz => Ch.cell he (f8.cell 2 z (by rw [hFF]; rfl) hz) fun h => h
  refine ⟨fun w' => ∀ z u, [Value.string name, dv][z]? = some u → w'.cell? (x2.add z) = some u, hB (Ev.drew0 w8), gLoadB_s (fun w' hw => hw 0 _ rfl) (gLoadB_v (fun w' hw => hw 1 _ rfl) (gLen_nm (hd.ev f8.old) (gLoadB_v (fun w' hw => hw 1 _ rfl) (gLen_nm ny8 (gCall_i (cSum_any (hd.ev f8.drew.old) (by omega)) fun w9 h9 => ⟨hB ((Ev.drew0 w8).trans h9), nd8.one, ?_⟩)))))⟩
  have h89 := (Ev.drew0 w8).trans h9
  have f9 := f8.ev h89
  rw [hFF] at f9
  have hSt : St w9 t5 [.string ⟨#[]⟩, .int .i64 0, .int .u32 0, .slice none 0 0, .int .i64 0] := f9.get 0 rfl
  refine gStore_agg0 hSt (Nat.le_refl 5) (fun u hu => ?_) (fun w10 hc10 _ hS10 => ⟨?_, ?_⟩) (by kernel_rfl)
  · simp at hu; rcases hu with rfl | rfl | rfl | rfl | rfl
    · rfl
    · rfl
    · rfl
    · exact nd8.nm.oc
    · rfl
  · intro z u hz
    refine Ch.cell hc10 (hB h89 z u hz) fun hh => ?_
    have := f9.apart (i := 0) (j := 2) rfl rfl (by decide) t5.block rfl
    have h0 : x2.spot = none := (show St w9 x2 [.string name, dv] from f9.get 2 rfl).1
    have hb : (x2.add z).block = x2.block := by rw [Addr.add_none h0]
    exact this (by show t5.block = x2.block; rw [← hb]; exact hh.1.symm)
  · have f10 := f9.upd (jt := sIt t5 [.string name, .int .i64 xs.length, .int .u32 (cSum xs), did', .int .i64 (turnBx ch tg xs).1.length]) 0 rfl hc10 (fun k _ hh => .inl hh.1) hS10 fun k hk => .inl hk
    refine fLoadA f10 0 rfl ⟨y', did', rfl, f10.old, ?_, ?_⟩
    · exact (ny8.ev h89).chN hc10 fun hne g i hgo hh => hy8 hne g hgo hh.1
    · have n9 : ON .i64 eN w9 w5.heap.size did' (turnBx ch tg xs).2 := nd8.ev h89
      exact (n9.ch hc10 fun g i hgo hh => by have := (n9.base hgo).1; have := hh.1; omega).low (f5.old.size)
/-! ### Make -/
noncomputable def itF (v : Value) (us : List ItV) : List It := rIt eI5 5 v us.length (cells5 us) :: us.reverse.map fun u => oIt .i64 eN u.cv u.p.chain
theorem itF_is {v : Value} {us : List ItV} (f : Fr w0 w (itF v us)) : Is w v us := ⟨f.row 0 rfl, fun u hu => by
  have hm : oIt .i64 eN u.cv u.p.chain ∈ itF v us := List.mem_cons_of_mem _ (List.mem_map.2 ⟨u, List.mem_reverse.2 hu, rfl⟩)
  have : ON .i64 eN w 0 u.cv u.p.chain := (f.mem hm).1
  exact this.nm⟩
theorem itF_snoc (v : Value) (us : List ItV) (u : ItV) : itF v (us ++ [u]) = rIt eI5 5 v (us.length + 1) (cells5 us ++ c5 u) :: oIt .i64 eN u.cv u.p.chain :: us.reverse.map fun u => oIt .i64 eN u.cv u.p.chain := by
  unfold itF; rw [cells5_app, List.length_append, List.reverse_append]
  have : cells5 [u] = c5 u := by simp [cells5]
  rw [this]; rfl
theorem Sl.of_st5 {ad : Addr} {u : ItV} (h : St w ad (c5 u)) : Sl w 5 (.slice (some ad) 1 1) 1 (c5 u) :=
  ⟨some ad, 1, rfl, Nat.le_refl _, rfl, fun ad' ha j x hj => by injection ha with ha; subst ha; exact St.cell h hj, fun h => by cases h⟩
def allB (rs : List (List Int × List Int)) : List Int := (rs.map (·.1)).flatten
theorem allB_snoc (rs : List (List Int × List Int)) (r : List Int × List Int) : allB (rs ++ [r]) = allB rs ++ r.1 := by simp [allB]
/-- The blocks, as they are written. -/
def blksB (blk : List Int → List Int) (n : Nat) (xs : List Int) (js : List Nat) : List Int := (js.map fun j => blk (chL n xs j)).flatten
theorem blksB_snoc (blk : List Int → List Int) (n : Nat) (xs : List Int) (js : List Nat) (j : Nat) : blksB blk n xs (js ++ [j]) = blksB blk n xs js ++ blk (chL n xs j) := by simp [blksB]
def headB (auto : Bool) (ts : List Int) (level block : Int) : List Int := numB (u64 level).toNat ++ numB (u64 block).toNat ++ numB (if auto = true then 1 else 0) ++ tagsB ts
def bodyB (tr : En → List Int × List Int) (blk : List Int → List Int) (auto : Bool) (ts : List Int) (level block : Int) (es : List En) : List Int :=
  headB auto ts level block ++ itemsB (es.map fun e => itemP (tr e) e) ++ blksB blk block.toNat (allB (es.map tr)) (List.range (chN block.toNat (allB (es.map tr)).length))
def boxB (body : List Int) : List Int := [118, 98, 120, 1] ++ littleB (cSum body) 4 ++ body
/-- What Make tells. -/
def makeB (tr : En → List Int × List Int) (blk : List Int → List Int) (auto : Bool) (ts : List Int) (level block : Int) (locked : Bool) (ns nn rounds : Int) (l : List En) : List Int × Int :=
  if optR auto ts level block locked ns nn rounds = false then ([], 1) else if (sortE l).2 ≠ 0 then ([], (sortE l).2) else (boxB (bodyB tr blk auto ts level block (sortE l).1), 0)
theorem cSum_u64 {xs : List Int} (hx : inR .u8 xs) : u64 (cSum xs) = cSum xs := by have := cSum_rng hx; rw [u64_def]; omega
end
end Go.Proofs.YtiimlfgjnapgjaaGreatDoorV
