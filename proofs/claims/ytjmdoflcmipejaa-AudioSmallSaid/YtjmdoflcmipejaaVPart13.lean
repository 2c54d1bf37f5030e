import Derived.OpenShut
import Derived.Test.YtjmdoflcmipejaaVPart12
set_option linter.unusedVariables false
set_option linter.unusedSimpArgs false
/- How long a pack of tracks that stay the same is: plain. -/
namespace Go.Proofs.YtjmdoflcmipejaaV
open Go Go.RowKit
theorem numsTo_cost (p : List Int) (k : Nat) : ∀ t, t ≤ p.length → ((numsTo p k t).length : Int) = costL k (p.take t)
  | 0, _ => by simp [numsTo, costL]
  | t + 1, h => by
    have ih := numsTo_cost p k t (by omega)
    have := numL_len (rd p (t : Int)) k
    rw [numsTo, List.length_append, List.take_succ_eq_append_getElem (by omega), costL_app, ← rd_nat p t (by omega)]
    omega
theorem costL_zero {l : List Int} (h : ∀ i : Nat, i < l.length → rd l (i : Int) = 0) : ∀ t, t ≤ l.length → costL 0 (l.take t) = t
  | 0, _ => by simp [costL]
  | t + 1, ht => by
    have h0 := h t (by omega)
    rw [rd_nat l t (by omega)] at h0
    rw [List.take_succ_eq_append_getElem (by omega), costL_app, costL_zero h t (by omega), h0, show costN 0 0 = 1 by decide]; omega
theorem costL_one {l : List Int} (h : ∀ i : Nat, 1 ≤ i → i < l.length → rd l (i : Int) = 0) : ∀ t, t ≤ l.length → costL 0 (l.take t) ≤ 55 + (t : Int)
  | 0, _ => by simp [costL]
  | t + 1, ht => by
    have ih := costL_one h t (by omega)
    rw [List.take_succ_eq_append_getElem (by omega), costL_app]
    by_cases h1 : t = 0
    · subst h1
      have := costN_bd l[0] (k := 0) (by omega)
      simp only [List.take_zero, costL]; omega
    · have h0 := h t (by omega) (by omega)
      rw [rd_nat l t (by omega)] at h0
      rw [h0, show costN 0 0 = 1 by decide]; omega
theorem blk_len {p : List Int} : ((bitsL (bestL p) 5 ++ numsTo p (bestL p) p.length).length : Int) ≤ 5 + costL 0 p := by
  have h1 := numsTo_cost p (bestL p) p.length (Nat.le_refl _)
  rw [List.take_length] at h1
  have h2 := (bestU_is p 24 0 (by omega)).1
  rw [List.length_append, bitsL_len]
  unfold bestL at h1 ⊢
  omega
theorem part_len (l : List Int) (j : Nat) : (part64 l j).length = min 64 (l.length - j * 64) := by unfold part64; rw [List.length_take, List.length_drop]
theorem part_cost {l : List Int} (h : ∀ i : Nat, 1 ≤ i → i < l.length → rd l (i : Int) = 0) (j : Nat) : costL 0 (part64 l j) ≤ (part64 l j).length + (if j = 0 then 55 else 0) := by
  have hl := part_len l j
  have e := List.take_length (l := part64 l j)
  have hr : ∀ i : Nat, i < (part64 l j).length → 1 ≤ 64 * j + i → rd (part64 l j) (i : Int) = 0 := fun i hi h1 => by
    rw [rd_part (by omega)]; exact h _ h1 (by omega)
  split
  · have := costL_one (l := part64 l j) (fun i h1 hi => hr i hi (by omega)) _ (Nat.le_refl _)
    rw [e] at this; omega
  · have := costL_zero (l := part64 l j) (fun i hi => hr i hi (by omega)) _ (Nat.le_refl _)
    rw [e] at this; omega
theorem packTo_all {l : List Int} (h : ∀ i : Nat, 1 ≤ i → i < l.length → rd l (i : Int) = 0) : ∀ j t, t < 64 → 64 * j + (t + 1) = min (64 * j + 64) l.length → (packTo l (64 * j + (t + 1))).length ≤ 64 * j + (t + 1) + 5 * (j + 1) + 55 := by
  intro j
  induction j with
  | zero =>
    intro t ht he
    have hl := part_len l 0
    have hb := blk_len (p := part64 l 0)
    have hc := part_cost h 0
    rw [if_pos rfl] at hc
    rw [packTo_in l 0 t ht, List.length_append, List.length_append]
    rw [List.length_append] at hb
    have : (part64 l 0).length = t + 1 := by omega
    rw [this] at hb
    have h0 : (packTo l (64 * 0)).length = 0 := rfl
    omega
  | succ j ih =>
    intro t ht he
    have hl := part_len l (j + 1)
    have hb := blk_len (p := part64 l (j + 1))
    have hc := part_cost h (j + 1)
    rw [if_neg (by omega)] at hc
    have ih1 := ih 63 (by omega) (by omega)
    rw [packTo_in l (j + 1) t ht, List.length_append, List.length_append]
    rw [List.length_append] at hb
    have : (part64 l (j + 1)).length = t + 1 := by omega
    rw [this] at hb
    have h0 : 64 * j + (63 + 1) = 64 * (j + 1) := by omega
    rw [h0] at ih1
    omega
theorem packTo_bd {l : List Int} (h : ∀ i : Nat, 1 ≤ i → i < l.length → rd l (i : Int) = 0) (hl : 1 ≤ l.length) : (packTo l l.length).length ≤ l.length + 5 * ((l.length + 63) / 64) + 55 := by
  have := packTo_all h ((l.length - 1) / 64) ((l.length - 1) % 64) (by omega) (by omega)
  have e : 64 * ((l.length - 1) / 64) + ((l.length - 1) % 64 + 1) = l.length := by omega
  rw [e] at this
  omega
/-! ### The least weight of numbers that stay the same -/
theorem wt1 {v : Int} (h : -2147483648 ≤ v ∧ v ≤ 2147483647) : u64 (if i64 (0 - i64 v) > i64 v then i64 (0 - i64 v) else i64 v) = if v < 0 then -v else v := by
  rw [i64_id (n := v) (by omega) (by omega), i64_id (n := 0 - v) (by omega) (by omega), u64_def]
  split <;> split <;> omega
def absI (v : Int) : Int := if v < 0 then -v else v
theorem wtN_step {l : List Int} (hl : inR .i32 l) (hn : l.length ≤ 1000000) : ∀ k, k ≤ l.length → 0 ≤ wtN l k ∧ wtN l k ≤ k * 2147483648 ∧ (∀ h : k < l.length, wtN l (k + 1) = wtN l k + absI l[k])
  | 0, _ => by
    refine ⟨Int.le_refl _, Int.le_refl _, fun h => ?_⟩
    have hb := inR32.1 hl l[0] (List.getElem_mem h)
    have r0 := rd_nat l 0 h
    have z : wtN l 0 = 0 := rfl
    rw [show wtN l (0 + 1) = u64 (0 + u64 (if i64 (0 - i64 (rd l ((0 : Nat) : Int))) > i64 (rd l ((0 : Nat) : Int)) then i64 (0 - i64 (rd l ((0 : Nat) : Int))) else i64 (rd l ((0 : Nat) : Int)))) from rfl, r0, wt1 hb, z]
    show u64 (0 + absI l[0]) = 0 + absI l[0]
    have ha2 : 0 ≤ absI l[0] ∧ absI l[0] ≤ 2147483648 := by unfold absI; split <;> omega
    rw [u64_def]; omega
  | k + 1, hk => by
    have ih := wtN_step hl hn k (by omega)
    have e := ih.2.2 (by omega)
    have hb := inR32.1 hl l[k] (List.getElem_mem (by omega))
    have ha : 0 ≤ absI l[k] ∧ absI l[k] ≤ 2147483648 := by unfold absI; split <;> omega
    refine ⟨by omega, by omega, fun h => ?_⟩
    have hb2 := inR32.1 hl l[k + 1] (List.getElem_mem h)
    have r1 := rd_nat l (k + 1) h
    rw [wtN, r1, wt1 hb2]
    show u64 (_ + absI l[k + 1]) = _
    have ha2 : 0 ≤ absI l[k + 1] ∧ absI l[k + 1] ≤ 2147483648 := by unfold absI; split <;> omega
    rw [u64_def]; omega
theorem wtN_mono {l : List Int} (hl : inR .i32 l) (hn : l.length ≤ 1000000) : ∀ k, 1 ≤ k → k ≤ l.length → wtN l 1 ≤ wtN l k
  | 0, h, _ => by omega
  | 1, _, _ => Int.le_refl _
  | k + 2, _, h => by
    have ih := wtN_mono hl hn (k + 1) (by omega) (by omega)
    have := (wtN_step hl hn (k + 1) (by omega)).2.2 (by omega)
    have : 0 ≤ absI l[k + 1] := by unfold absI; split <;> omega
    show wtN l 1 ≤ wtN l (k + 1 + 1)
    omega
theorem wtN_flat {l : List Int} (hl : inR .i32 l) (hn : l.length ≤ 1000000) (h : ∀ i : Nat, 1 ≤ i → i < l.length → rd l (i : Int) = 0) : ∀ k, 1 ≤ k → k ≤ l.length → wtN l k = wtN l 1
  | 0, h, _ => by omega
  | 1, _, _ => rfl
  | k + 2, _, hk => by
    have ih := wtN_flat hl hn h (k + 1) (by omega) (by omega)
    have e := (wtN_step hl hn (k + 1) (by omega)).2.2 (by omega)
    have h0 := h (k + 1) (by omega) (by omega)
    rw [rd_nat l (k + 1) (by omega)] at h0
    show wtN l (k + 1 + 1) = wtN l 1
    rw [e, h0, ih, show absI 0 = 0 by decide]; omega
def con (n : Nat) (v : Int) : List Int := tab n fun _ => v
theorem con_len (n : Nat) (v : Int) : (con n v).length = n := tab_len _ _
theorem rd_con {n i : Nat} {v : Int} (h : i < n) : rd (con n v) (i : Int) = v := rd_tab h
theorem con_in {n : Nat} {v : Int} (h : -2147483648 ≤ v ∧ v ≤ 2147483647) : inR .i32 (con n v) := inR32.2 fun x hx => by
  unfold con tab at hx
  obtain ⟨i, _, rfl⟩ := List.mem_map.1 hx
  exact h
theorem con_rep (n : Nat) (v : Int) : con n v = List.replicate n v := by
  refine List.eq_replicate_iff.2 ⟨con_len n v, fun b hb => ?_⟩
  unfold con tab at hb
  obtain ⟨i, _, rfl⟩ := List.mem_map.1 hb
  rfl
theorem con_take {n i : Nat} {v : Int} (h : i ≤ n) : (con n v).take i = con i v := by
  rw [con_rep, con_rep, List.take_replicate, Nat.min_eq_left h]
theorem res1_con {n : Nat} {v : Int} (i : Nat) (hi : i < n) (h : -2147483648 ≤ v ∧ v ≤ 2147483647) : rd (resG (fixG 1) (con n v)) (i : Int) = if i = 0 then v else 0 := by
  have e : rd (resG (fixG 1) (con n v)) (i : Int) = i32 (rd (con n v) (i : Int) - fixG 1 ((con n v).take i)) := rd_tab (by rw [con_len]; exact hi)
  rw [e, rd_con hi, con_take (by omega)]
  unfold fixG
  rw [if_pos rfl]
  unfold atF
  rw [con_len]
  by_cases h0 : i = 0
  · subst h0; rw [if_pos (by omega), if_pos rfl, i32_def]; omega
  · rw [if_neg (by omega), if_neg h0, rd_con (by omega), i32_def]; omega
theorem res0_con {n : Nat} {v : Int} (k : Nat) (hn : 0 < n) (h : -2147483648 ≤ v ∧ v ≤ 2147483647) : rd (resG (fixG k) (con n v)) ((0 : Nat) : Int) = v := by
  have e : rd (resG (fixG k) (con n v)) ((0 : Nat) : Int) = i32 (rd (con n v) ((0 : Nat) : Int) - fixG k ((con n v).take 0)) := rd_tab (by rw [con_len]; exact hn)
  rw [e, rd_con hn, List.take_zero, show fixG k [] = 0 by unfold fixG atF; simp [i32_def], i32_def]; omega
/-- Of a track that stays the same nothing is left behind its first number. -/
theorem best_con {n : Nat} {v : Int} (hn : 2 ≤ n) (hn2 : n ≤ 1000000) (h : -2147483648 ≤ v ∧ v ≤ 2147483647) : ∀ i : Nat, 1 ≤ i → i < n → rd (resG (kindG (bestO (con n v) : Nat)) (con n v)) (i : Int) = 0 := by
  have hc := con_in (n := n) h
  have hcl := con_len n v
  have hin := fun k => resG_in (fixG k) (con n v)
  have hlen := fun k => resG_len (fixG k) (con n v)
  have w1 : ∀ k, wtN (resG (fixG k) (con n v)) 1 = absI v := fun k => by
    have := (wtN_step (hin k) (by rw [hlen, hcl]; omega) 0 (by omega)).2.2 (by rw [hlen, hcl]; omega)
    rw [this, ← rd_nat _ 0 (by rw [hlen, hcl]; omega), res0_con k (by omega) h]
    simp [wtN]
  have wge : ∀ k, absI v ≤ wtF (resG (fixG k) (con n v)) := fun k => by
    have := wtN_mono (hin k) (by rw [hlen, hcl]; omega) (resG (fixG k) (con n v)).length (by rw [hlen, hcl]; omega) (Nat.le_refl _)
    rw [w1] at this; exact this
  have weq : wtF (resG (fixG 1) (con n v)) = absI v := by
    have := wtN_flat (hin 1) (by rw [hlen, hcl]; omega) (fun i h1 h2 => by rw [res1_con i (by rw [hlen, hcl] at h2; exact h2) h, if_neg (by omega)]) (resG (fixG 1) (con n v)).length (by rw [hlen, hcl]; omega) (Nat.le_refl _)
    rw [w1] at this; exact this
  have w2 : wtN (con n v) 2 = absI v + absI v := by
    have a := (wtN_step hc (by omega) 0 (by omega)).2.2 (by omega)
    have b := (wtN_step hc (by omega) 1 (by omega)).2.2 (by omega)
    have r0 := rd_nat (con n v) 0 (by omega)
    have r1 := rd_nat (con n v) 1 (by omega)
    rw [rd_con (by omega)] at r0 r1
    rw [b, a, ← r0, ← r1]; simp [wtN]
  have w0 : absI v + absI v ≤ wtF (con n v) := by
    have key : ∀ k, 2 ≤ k → k ≤ (con n v).length → wtN (con n v) 2 ≤ wtN (con n v) k := by
      intro k
      induction k with
      | zero => intro h; omega
      | succ k ih =>
        intro h1 h2
        by_cases hk : k + 1 = 2
        · rw [hk]; exact Int.le_refl _
        · have := (wtN_step hc (by omega) k (by omega)).2.2 (by omega)
          have ha : 0 ≤ absI (con n v)[k] := by unfold absI; split <;> omega
          have := ih (by omega) (by omega)
          omega
    have := key _ (by omega) (Nat.le_refl _)
    rw [w2] at this; exact this
  have hav : 0 ≤ absI v := by unfold absI; split <;> omega
  intro i h1 h2
  by_cases hv : v = 0
  · subst hv
    have a0 : absI 0 = 0 := by decide
    -- no order is less
    have b1 : bfN (con n 0) 0 = (0, wtF (con n 0)) := rfl
    have z0 : wtF (con n 0) = 0 := by
      have key : ∀ k, k ≤ (con n 0).length → wtN (con n 0) k = 0 := by
        intro k
        induction k with
        | zero => intro _; rfl
        | succ k ih =>
          intro hk
          have := (wtN_step hc (by omega) k (by omega)).2.2 (by omega)
          have r := rd_nat (con n 0) k (by omega)
          rw [rd_con (by omega)] at r
          rw [this, ih (by omega), ← r, a0]; rfl
      exact key _ (Nat.le_refl _)
    have hb : ∀ k, bfN (con n 0) k = (0, 0) := by
      intro k
      induction k with
      | zero => rw [b1, z0]
      | succ k ih =>
        rw [bfN, ih, if_neg (by have := wge (k + 1); dsimp only; omega)]
    have : bestO (con n 0) = 0 := by unfold bestO; rw [hb 3]
    rw [this, show kindG ((0 : Nat) : Int) = fixG 0 by unfold kindG; rw [if_neg (by omega)]; rfl]
    have e : rd (resG (fixG 0) (con n 0)) (i : Int) = i32 (rd (con n 0) (i : Int) - fixG 0 ((con n 0).take i)) := rd_tab (by rw [con_len]; exact h2)
    rw [e, rd_con h2]
    show i32 (0 - fixG 0 _) = 0
    rw [show ∀ l, fixG 0 l = 0 from fun l => fixG_big 0 (.inl rfl) l]; decide
  · have hpos : 1 ≤ absI v := by unfold absI; split <;> omega
    have b1 : bfN (con n v) 1 = (1, absI v) := by
      rw [bfN, if_pos (by rw [weq]; show absI v < wtF (con n v); omega), weq]
    have b2 : bfN (con n v) 2 = (1, absI v) := by rw [bfN, b1, if_neg (by have := wge (1 + 1); dsimp only; omega)]
    have b3 : bfN (con n v) 3 = (1, absI v) := by rw [bfN, b2, if_neg (by have := wge (2 + 1); dsimp only; omega)]
    have : bestO (con n v) = 1 := by unfold bestO; rw [b3]
    rw [this, show kindG ((1 : Nat) : Int) = fixG 1 by unfold kindG; rw [if_neg (by omega)]; rfl, res1_con i h2 h, if_neg (by omega)]
theorem pkT_con {n : Nat} {v : Int} (hn : 2 ≤ n) (hn2 : n ≤ 1000000) (h : -2147483648 ≤ v ∧ v ≤ 2147483647) : (pkT (con n v)).2.length ≤ (n + 5 * ((n + 63) / 64) + 62) / 8 := by
  have hb := best_con hn hn2 h
  have hcl := con_len n v
  have hk : (pkK (con n v) (bestO (con n v) : Nat)).length ≤ (n + 5 * ((n + 63) / 64) + 62) / 8 := by
    rw [pkK_eq (by omega), pkB_len]
    have hr := resG_len (kindG (bestO (con n v) : Nat)) (con n v)
    have := packTo_bd (l := resG (kindG (bestO (con n v) : Nat)) (con n v)) (fun i h1 h2 => hb i h1 (by omega)) (by omega)
    rw [hr, hcl] at this ⊢
    omega
  unfold pkT
  split
  · rename_i hlt; dsimp only; omega
  · exact hk
end Go.Proofs.YtjmdoflcmipejaaV

/- A made file of which the samples of each channel are the same: plain. -/
namespace Go.Proofs.YtjmdoflcmipejaaV
open Go Go.RowKit
def gS (vs : Nat → Int) (ch size p : Nat) : Int := if p % size = 0 then u8 (vs (p / size % ch)) else u8 (iShr .i16 (vs (p / size % ch)) 8)
def cS (vs : Nat → Int) (size k : Nat) : Int := if size = 2 then i16 (u8 (vs k) + 256 * u8 (iShr .i16 (vs k) 8)) else u8 (vs k) - 128
theorem cS_rg (vs : Nat → Int) (size k : Nat) : -2147483648 ≤ cS vs size k ∧ cS vs size k ≤ 2147483647 := by
  unfold cS; split
  · rw [i16_def]; omega
  · rw [u8_def]; omega
theorem tab_con {n : Nat} {f : Nat → Int} {c : Int} (h : ∀ j, j < n → f j = c) : tab n f = con n c := by
  unfold con tab
  exact List.map_congr_left fun j hj => h j (List.mem_range.1 hj)
theorem split_gS {vs : Nat → Int} {ch size m : Nat} (hs : size = 1 ∨ size = 2) : splitN (tab (m * (ch * size)) (gS vs ch size)) ch size (m * ch) = (List.range ch).map fun k => con m (cS vs size k) := by
  unfold splitN
  refine List.map_congr_left fun k hk => ?_
  have hk := List.mem_range.1 hk
  unfold trackN
  rw [cntT_all hk]
  refine tab_con fun j hj => ?_
  have h1 : j * ch + k + 1 ≤ m * ch := by
    have := Nat.mul_le_mul_right ch (show j + 1 ≤ m from hj)
    rw [Nat.succ_mul] at this; omega
  have h2 : (j * ch + k) * size + size ≤ m * (ch * size) := by
    rw [← Nat.mul_assoc]
    have := Nat.mul_le_mul_right size h1
    rwa [Nat.succ_mul] at this
  have hm : (j * ch + k) % ch = k := by rw [Nat.add_comm, Nat.add_mul_mod_self_right, Nat.mod_eq_of_lt hk]
  have at0 : gS vs ch size ((j * ch + k) * size) = u8 (vs k) := by
    unfold gS
    rw [Nat.mul_mod_left, if_pos rfl, Nat.mul_div_cancel _ (by omega), hm]
  unfold smp cS
  rcases hs with rfl | rfl
  · rw [if_neg (by decide), if_neg (by decide), rd_tab (by omega), at0]
  · rw [if_pos rfl, if_pos rfl, rd_tab (by omega), rd_tab (by omega), at0]
    have at1 : gS vs ch 2 ((j * ch + k) * 2 + 1) = u8 (iShr .i16 (vs k) 8) := by
      unfold gS
      rw [if_neg (by omega), show ((j * ch + k) * 2 + 1) / 2 = j * ch + k by omega, hm]
    rw [at1]
theorem makeW_eq (ch bits : Int) (ss : List Int) : makeW ch bits ss = 82 :: 73 :: 70 :: 70 :: byteAt (36 + (ss.length : Int)) 0 :: byteAt (36 + (ss.length : Int)) 1 :: byteAt (36 + (ss.length : Int)) 2 :: byteAt (36 + (ss.length : Int)) 3 :: 87 :: 65 :: 86 :: 69 :: 102 :: 109 :: 116 :: 32 :: byteAt 16 0 :: byteAt 16 1 :: byteAt 16 2 :: byteAt 16 3 :: byteAt 1 0 :: byteAt 1 1 :: byteAt ch 0 :: byteAt ch 1 :: byteAt 8000 0 :: byteAt 8000 1 :: byteAt 8000 2 :: byteAt 8000 3 :: byteAt (8000 * (ch * bits / 8)) 0 :: byteAt (8000 * (ch * bits / 8)) 1 :: byteAt (8000 * (ch * bits / 8)) 2 :: byteAt (8000 * (ch * bits / 8)) 3 :: byteAt (ch * bits / 8) 0 :: byteAt (ch * bits / 8) 1 :: byteAt bits 0 :: byteAt bits 1 :: 100 :: 97 :: 116 :: 97 :: byteAt (ss.length : Int) 0 :: byteAt (ss.length : Int) 1 :: byteAt (ss.length : Int) 2 :: byteAt (ss.length : Int) 3 :: ss := by
  simp only [makeW, hdW, littleB, riffN, waveN, fmtN, datN, List.cons_append, List.nil_append]
theorem parse_make {ch size n : Nat} {ss : List Int} (c1 : 1 ≤ ch) (c8 : ch ≤ 8) (hs : size = 1 ∨ size = 2) (hn : ss.length = n * (ch * size)) (h1 : 1 ≤ n) (hl : ss.length ≤ 1000000) : parseW (makeW (ch : Int) ((8 * size : Nat) : Int) ss) = (⟨(ch : Int), ((8 * size : Nat) : Int), 44, ((44 + ss.length : Nat) : Int)⟩, true) := by
  have hlen : (makeW (ch : Int) ((8 * size : Nat) : Int) ss).length = 44 + ss.length := by unfold makeW; rw [List.length_append, hdW_len]
  have hmk := makeW_eq (ch : Int) ((8 * size : Nat) : Int) ss
  generalize makeW (ch : Int) ((8 * size : Nat) : Int) ss = x at hlen hmk ⊢
  have n0 : nameW x 0 = riffN := by rw [hmk]; rfl
  have n8 : nameW x 8 = waveN := by rw [hmk]; rfl
  have n12 : nameW x 12 = fmtN := by rw [hmk]; rfl
  have n36 : nameW x 36 = datN := by rw [hmk]; rfl
  have s16 : sizeW x 12 = 16 := by
    have : fldW x (12 + 4) 4 = leN [byteAt 16 0, byteAt 16 1, byteAt 16 2, byteAt 16 3] := by rw [hmk]; rfl
    unfold sizeW; rw [this]; decide
  have s40 : sizeW x 36 = ss.length := by
    have : fldW x (36 + 4) 4 = leN [byteAt (ss.length : Int) 0, byteAt (ss.length : Int) 1, byteAt (ss.length : Int) 2, byteAt (ss.length : Int) 3] := by rw [hmk]; rfl
    unfold sizeW; rw [this]; simp [leN, byteAt]; omega
  have f20 : fldW x (12 + 8) 2 = 1 := by
    have : fldW x (12 + 8) 2 = leN [byteAt 1 0, byteAt 1 1] := by rw [hmk]; rfl
    rw [this]; decide
  have f22 : fldW x (12 + 10) 2 = (ch : Int) := by
    have : fldW x (12 + 10) 2 = leN [byteAt (ch : Int) 0, byteAt (ch : Int) 1] := by rw [hmk]; rfl
    rw [this]; simp [leN, byteAt]; omega
  have f34 : fldW x (12 + 22) 2 = ((8 * size : Nat) : Int) := by
    have : fldW x (12 + 22) 2 = leN [byteAt ((8 * size : Nat) : Int) 0, byteAt ((8 * size : Nat) : Int) 1] := by rw [hmk]; rfl
    rw [this]; simp [leN, byteAt]; omega
  have hfr : frameW (ch : Int) ((8 * size : Nat) : Int) = ((ch * size : Nat) : Int) := by
    unfold frameW
    rw [if_neg (by omega)]
    rcases hs with rfl | rfl
    · show (ch : Int) * 8 / 8 = ((ch * 1 : Nat) : Int); omega
    · show (ch : Int) * 16 / 8 = ((ch * 2 : Nat) : Int); omega
  have hcs : 1 ≤ ch * size := Nat.mul_le_mul c1 (show 1 ≤ size by omega)
  have hnn : ch * size ≤ n * (ch * size) := Nat.le_mul_of_pos_left _ h1
  have hsk : skipW x 12 = 16 := by unfold skipW; rw [s16]
  have hmin : minW x 36 = ss.length := by unfold minW; rw [s40]; split <;> omega
  unfold parseW
  rw [if_neg (by rw [n0, n8]; simp; omega), hlen]
  rw [show 44 + ss.length + 1 = (43 + ss.length) + 1 + 1 by omega, goW, if_neg (by omega), if_pos (show isFmt x 12 false from ⟨n12, rfl, by omega, by omega⟩), hsk, if_neg (by omega)]
  rw [goW, if_neg (by omega), if_neg (fun h => by have := h.2.1; cases h.2.1), if_pos (show nameW x (12 + 8 + 16) = datN ∧ true = true from ⟨n36, rfl⟩), f20, f22, f34]
  unfold foundW
  rw [if_pos ⟨by decide, by rw [hfr]; omega, by rw [hfr, hmin]; omega⟩, hfr, hmin]
  have : (ss.length : Int) / ((ch * size : Nat) : Int) * ((ch * size : Nat) : Int) = (ss.length : Int) := by
    rw [hn, ← Int.natCast_ediv, Nat.mul_div_cancel _ (by omega), ← Int.natCast_mul]
  rw [this]
  rfl
theorem sizeP_le {B : Nat} : ∀ {r : List (Int × List Int)}, (∀ u ∈ r, u.2.length ≤ B) → sizeP r ≤ r.length * B
  | [], _ => by simp [sizeP]
  | u :: r, h => by
    have h1 := h u List.mem_cons_self
    have h2 := sizeP_le (r := r) fun x hx => h x (List.mem_cons_of_mem _ hx)
    rw [sizeP, List.length_cons, Nat.succ_mul]; omega
theorem sizeP_mem : ∀ {r : List (Int × List Int)}, ∀ u ∈ r, u.2.length ≤ sizeP r
  | v :: r, u, h => by
    rw [sizeP]
    rcases List.mem_cons.1 h with rfl | h
    · omega
    · have := sizeP_mem u h; omega
theorem body_size : ∀ {r : List (Int × List Int)}, (∀ u ∈ r, 0 ≤ u.1 ∧ u.1 ≤ 4 ∧ u.2.length < 16384) → (bodyP r).length ≤ sizeP r + 4 * r.length
  | [], _ => by simp [bodyP]
  | u :: r, h => by
    have h1 := h u List.mem_cons_self
    have h2 := body_size (r := r) fun x hx => h x (List.mem_cons_of_mem _ hx)
    have h3 : (numB u.1.toNat).length ≤ 2 := numB_len 1 _ (by rw [show 128 ^ (1 + 1) = 16384 by decide]; omega)
    have h4 : (numB u.2.length).length ≤ 2 := numB_len 1 _ (by rw [show 128 ^ (1 + 1) = 16384 by decide]; omega)
    have e : bodyP (u :: r) = numB u.1.toNat ++ numB u.2.length ++ u.2 ++ bodyP r := rfl
    rw [e, sizeP]
    simp only [List.length_append, List.length_cons]; omega
theorem small_all {vs : Nat → Int} {ch size m : Nat} (c8 : ch ≤ 8) (hm : 2 ≤ m) (hm2 : m ≤ 10000) : (bodyP (allI ((List.range ch).map fun k => con m (cS vs size k))).1).length ≤ ch * ((m + 5 * ((m + 63) / 64) + 62) / 8) + 4 * ch := by
  obtain ⟨xss, hx⟩ : ∃ xss, xss = (List.range ch).map fun k => con m (cS vs size k) := ⟨_, rfl⟩
  have hxl : xss.length = ch := by rw [hx]; simp
  have hpl : ∀ u ∈ xss.map pkT, u.2.length ≤ (m + 5 * ((m + 63) / 64) + 62) / 8 := fun u hu => by
    obtain ⟨ys, hy, rfl⟩ := List.mem_map.1 hu
    rw [hx] at hy
    obtain ⟨k, _, rfl⟩ := List.mem_map.1 hy
    exact pkT_con hm (by omega) (cS_rg _ _ _)
  have hs := sizeP_le hpl
  rw [List.length_map, hxl] at hs
  rw [← hx]
  have hB : ch * ((m + 5 * ((m + 63) / 64) + 62) / 8) ≤ 8 * 1400 := Nat.mul_le_mul c8 (by omega)
  generalize (m + 5 * ((m + 63) / 64) + 62) / 8 = B at *
  have key : ∀ r : List (Int × List Int), sizeP r ≤ ch * B → r.length = ch → (∀ u ∈ r, ∃ l : List Int, u = pkT l) → (bodyP r).length ≤ ch * B + 4 * ch := fun r h1 h2 h3 => by
    have := body_size (r := r) fun u hu => by
      have hl := sizeP_mem u hu
      obtain ⟨l, rfl⟩ := h3 u hu
      have := pkT_kind (l := l)
      exact ⟨this.1, this.2.1, by omega⟩
    omega
  have plain : (bodyP (xss.map pkT)).length ≤ ch * B + 4 * ch := key _ hs (by rw [List.length_map, hxl]) fun u hu => by
    obtain ⟨ys, _, rfl⟩ := List.mem_map.1 hu
    exact ⟨ys, rfl⟩
  unfold allI
  split
  · exact plain
  · rename_i h2
    split
    · rename_i hlt
      refine key _ (by dsimp only; omega) (by simp; omega) fun u hu => ?_
      simp only [List.mem_cons, List.not_mem_nil, or_false] at hu
      rcases hu with rfl | rfl
      · exact ⟨_, rfl⟩
      · exact ⟨_, rfl⟩
    · exact plain
/-- The pack is a quarter of the file at most. -/
theorem small_pack {vs : Nat → Int} {ch size m : Nat} {ss : List Int} (hss : ss = tab (m * (ch * size)) (gS vs ch size)) (c1 : 1 ≤ ch) (c8 : ch ≤ 8) (hs : size = 1 ∨ size = 2) (h1 : 2048 ≤ ss.length) (h2 : ss.length ≤ 4000) :
    (packA (makeW (ch : Int) ((8 * size : Nat) : Int) ss)).2 = true ∧ 4 * (packA (makeW (ch : Int) ((8 * size : Nat) : Int) ss)).1.length ≤ (makeW (ch : Int) ((8 * size : Nat) : Int) ss).length := by
  have hn : ss.length = m * (ch * size) := by rw [hss, tab_len]
  have hcs : 1 ≤ ch * size := Nat.mul_le_mul c1 (show 1 ≤ size by omega)
  have hcs8 : ch * size ≤ 8 * 2 := Nat.mul_le_mul c8 (by omega)
  have hm : 2 ≤ m := by
    refine Decidable.byContradiction fun hc => ?_
    have := Nat.mul_le_mul (show m ≤ 1 by omega) hcs8
    omega
  have hm2 : m ≤ m * (ch * size) := Nat.le_mul_of_pos_right _ hcs
  have hlen : (makeW (ch : Int) ((8 * size : Nat) : Int) ss).length = 44 + ss.length := by unfold makeW; rw [List.length_append, hdW_len]
  have hp := parse_make c1 c8 hs hn (by omega) (by omega)
  have hsub : ((makeW (ch : Int) ((8 * size : Nat) : Int) ss).drop 44).take (44 + ss.length - 44) = ss := by
    unfold makeW
    rw [List.drop_left' (hdW_len _ _ _), List.take_of_length_le (by omega)]
  have hdrop : ((makeW (ch : Int) ((8 * size : Nat) : Int) ss).drop (44 + ss.length)).length = 0 := by rw [List.length_drop, hlen]; omega
  have htake : ((makeW (ch : Int) ((8 * size : Nat) : Int) ss).take 44).length = 44 := by rw [List.length_take, hlen]; omega
  generalize makeW (ch : Int) ((8 * size : Nat) : Int) ss = x at *
  have e1 : (((8 * size : Nat) : Int) / 8).toNat = size := by omega
  have e2 : (44 + ss.length - 44) / (ch * size) = m := by rw [show 44 + ss.length - 44 = ss.length by omega, hn, Nat.mul_div_cancel _ (by omega)]
  have hsp : splitN ss ch size (m * ch) = (List.range ch).map fun k => con m (cS vs size k) := by rw [hss]; exact split_gS hs
  have hb := small_all (vs := vs) (size := size) c8 hm (by omega)
  unfold packA
  rw [if_pos ⟨by rw [hp], by omega⟩, hp]
  have e44 : ((44 : Int)).toNat = 44 := rfl
  simp only [Int.toNat_natCast, e1, e44, e2, hsub, hsp]
  refine ⟨trivial, ?_⟩
  have two : ∀ q : Nat, q < 16384 → (numB q).length ≤ 2 := fun q h => numB_len 1 q (by rw [show 128 ^ (1 + 1) = 16384 by decide]; exact h)
  have t1 := two x.length (by omega)
  have t2 := two 44 (by omega)
  have t3 := two (44 + ss.length) (by omega)
  have t4 := two ch (by omega)
  have t5 := two (8 * size) (by omega)
  have t6 : (numB (if (allI ((List.range ch).map fun k => con m (cS vs size k))).2 = true then 1 else 0)).length ≤ 2 := two _ (by split <;> omega)
  have hnb : (nbs [(x.length : Int), 44, ((44 + ss.length : Nat) : Int), (ch : Int), ((8 * size : Nat) : Int)]).length ≤ 10 := by
    simp only [nbs, List.map_cons, List.map_nil, List.flatten_cons, List.flatten_nil, List.length_append, List.length_nil, Int.toNat_natCast, e44]
    omega
  simp only [List.length_append, htake, hdrop]
  have hfin : 4 * (10 + 2 + (44 + 0) + (ch * ((m + 5 * ((m + 63) / 64) + 62) / 8) + 4 * ch)) ≤ 44 + m * (ch * size) := by
    rw [hn] at h1 h2
    have hc : ch = 1 ∨ ch = 2 ∨ ch = 3 ∨ ch = 4 ∨ ch = 5 ∨ ch = 6 ∨ ch = 7 ∨ ch = 8 := by omega
    rcases hs with rfl | rfl <;> rcases hc with rfl | rfl | rfl | rfl | rfl | rfl | rfl | rfl <;> omega
  rw [← hn] at hfin
  omega
end Go.Proofs.YtjmdoflcmipejaaV

/- The law AudioSmall. -/
namespace Go.Proofs.YtjmdoflcmipejaaV
open Go Go.RowKit
theorem okWide_arrA {P : Program} {t e : TypeId} {n : Nat} {w : World} {r : Reach} {b : Nat} {v : Value} (ht : P.underlying t = some (.array n e)) (h : Value.okWide P w r b t v) : ∃ cs, v = .agg cs ∧ cs.size = P.cellsOf t := by
  unfold Value.okWide at h
  rw [ht] at h
  obtain ⟨cs, h1, h2, _⟩ := h
  exact ⟨cs, h1, h2⟩
theorem good_ari {P : Program} {t e : TypeId} {n : Nat} {k : IntKind} {w : World} {cs : List Value} (ht : P.underlying t = some (.array n e)) (he : P.underlying e = some (.int k)) (hz : P.cellsOf e = 1) (h : Good P w t cs) :
    cs.length = P.cellsOf t ∧ ∀ i, i < n → ∃ m, cs[i]? = some (.int k m) ∧ k.min ≤ m ∧ m ≤ k.max := by
  obtain ⟨H, enc, q, y, h, _⟩ := h
  obtain ⟨xs, m, _, _, hl, hx, hf⟩ := DataW.trod_array ht h
  refine ⟨hl, fun i hi => ?_⟩
  have h1 := hf i hi
  rw [hz, Nat.mul_one, List.getElem?_eq_getElem (by omega)] at h1
  obtain ⟨v, hv, _, hw⟩ := DataW.trod_int he h1
  refine ⟨v, ?_, wf_rng hw⟩
  have h2 : ((cs.drop i).take 1)[0]? = some (.int k v) := by rw [hv]; rfl
  rwa [List.getElem?_take, if_pos (by omega), List.getElem?_drop, Nat.add_zero] at h2
section
variable {w : World}
theorem AudioSmall_law {c0 b1 n3 : Int} {a2 : Array Value} (_ : IntKind.i64.min ≤ c0 ∧ c0 ≤ IntKind.i64.max) (_ : IntKind.i64.min ≤ b1 ∧ b1 ≤ IntKind.i64.max) (ha : Good P w t_ar8_int16 a2.toList) (_ : IntKind.i64.min ≤ n3 ∧ n3 ≤ IntKind.i64.max) :
    Calls P n_valiselaw15_AudioSmall #[.int .i64 c0, .int .i64 b1, .agg a2, .int .i64 n3] w (Holds w) := by
  obtain ⟨e0, hu, he, hz, hcl⟩ : ∃ e, P.underlying t_ar8_int16 = some (.array 8 e) ∧ P.underlying e = some (.int .i16) ∧ P.cellsOf e = 1 ∧ P.cellsOf t_ar8_int16 = 8 := ⟨t_int16, by kernel_rfl, by kernel_rfl, by kernel_rfl, by kernel_rfl⟩
  obtain ⟨hl, hv⟩ := good_ari hu he hz ha
  rw [hcl] at hl
  obtain ⟨v0, g0, _⟩ := hv 0 (by omega)
  obtain ⟨v1, g1, _⟩ := hv 1 (by omega)
  obtain ⟨v2, g2, _⟩ := hv 2 (by omega)
  obtain ⟨v3, g3, _⟩ := hv 3 (by omega)
  obtain ⟨v4, g4, _⟩ := hv 4 (by omega)
  obtain ⟨v5, g5, _⟩ := hv 5 (by omega)
  obtain ⟨v6, g6, _⟩ := hv 6 (by omega)
  obtain ⟨v7, g7, _⟩ := hv 7 (by omega)
  have hae : a2 = #[.int .i16 v0, .int .i16 v1, .int .i16 v2, .int .i16 v3, .int .i16 v4, .int .i16 v5, .int .i16 v6, .int .i16 v7] := by
    apply Array.toList_inj.1
    refine List.ext_getElem? fun i => ?_
    rcases i with _ | _ | _ | _ | _ | _ | _ | _ | i
    · exact g0
    · exact g1
    · exact g2
    · exact g3
    · exact g4
    · exact g5
    · exact g6
    · exact g7
    · rw [List.getElem?_eq_none (by omega), List.getElem?_eq_none (by simp)]
  subst hae
  clear hv ha hl g0 g1 g2 g3 g4 g5 g6 g7
  obtain ⟨V, hV⟩ : ∃ V : List Int, V = [v0, v1, v2, v3, v4, v5, v6, v7] := ⟨_, rfl⟩
  have hVl : V.length = 8 := by rw [hV]; rfl
  obtain ⟨vs, hvs⟩ : ∃ vs : Nat → Int, vs = fun (k : Nat) => rd V (k : Int) := ⟨_, rfl⟩
  have uc : 0 ≤ u64 c0 := by rw [u64_def]; omega
  have ub : 0 ≤ u64 b1 := by rw [u64_def]; omega
  have un : 0 ≤ u64 n3 := by rw [u64_def]; omega
  have e1 : ∃ ch : Nat, i64 (1 + i64 (Int.tmod (u64 c0) 8)) = (ch : Int) ∧ 1 ≤ ch ∧ ch ≤ 8 := by
    refine ⟨(1 + u64 c0 % 8).toNat, ?_, by omega, by omega⟩
    rw [Int.tmod_eq_emod_of_nonneg uc, i64_id (n := u64 c0 % 8) (by omega) (by omega), i64_id (by omega) (by omega)]; omega
  have e2 : ∃ size : Nat, i64 (8 + i64 (8 * i64 (Int.tmod (u64 b1) 2))) = ((8 * size : Nat) : Int) ∧ (size = 1 ∨ size = 2) := by
    refine ⟨(1 + u64 b1 % 2).toNat, ?_, by omega⟩
    rw [Int.tmod_eq_emod_of_nonneg ub, i64_id (n := u64 b1 % 2) (by omega) (by omega), i64_id (n := 8 * (u64 b1 % 2)) (by omega) (by omega), i64_id (by omega) (by omega)]; omega
  have e3 : ∃ L : Nat, i64 (2048 + i64 (Int.tmod (u64 n3) 1000)) = (L : Int) ∧ 2048 ≤ L ∧ L ≤ 3047 := by
    refine ⟨(2048 + u64 n3 % 1000).toNat, ?_, by omega, by omega⟩
    rw [Int.tmod_eq_emod_of_nonneg un, i64_id (n := u64 n3 % 1000) (by omega) (by omega), i64_id (by omega) (by omega)]; omega
  obtain ⟨ch, ec, c1, c8⟩ := e1
  obtain ⟨size, eb, hs⟩ := e2
  obtain ⟨L, eL, l1, l2⟩ := e3
  have hcs : 1 ≤ ch * size := Nat.mul_le_mul c1 (show 1 ≤ size by omega)
  have hcs8 : ch * size ≤ 8 * 2 := Nat.mul_le_mul c8 (by omega)
  refine of_valiselaw15_AudioSmall (fBox (Fr.start w) fun va w1 f1 => fWvNew f1 fun wa w2 f2 => fWvSet f2 0 rfl rfl fun w3 f3 => ?_)
  rw [ec, eb, eL] at *
  obtain ⟨cc, hcc⟩ : ∃ cc, cc = (Wv.mk (ch : Int) ((8 * size : Nat) : Int) 0 0).c := ⟨_, rfl⟩
  have f3 : Fr w w3 [sIt wa cc, sIt va (V.map (.int .i16))] := by rw [hcc, hV]; exact f3
  have c0' : cc[0]? = some (.int .i64 (ch : Int)) := by rw [hcc]; rfl
  have c1' : cc[1]? = some (.int .i64 ((8 * size : Nat) : Int)) := by rw [hcc]; rfl
  have at0 : ∀ {j k : Nat}, k < ch → gS vs ch size ((j * ch + k) * size) = u8 (vs k) := fun {j k} hk => by
    unfold gS
    rw [Nat.mul_mod_left, if_pos rfl, Nat.mul_div_cancel _ (by omega), show (j * ch + k) % ch = k by rw [Nat.add_comm, Nat.add_mul_mod_self_right, Nat.mod_eq_of_lt hk]]
  have at1 : ∀ {j k : Nat}, k < ch → size = 2 → gS vs ch size ((j * ch + k) * size + 1) = u8 (iShr .i16 (vs k) 8) := fun {j k} hk h2 => by
    subst h2
    unfold gS
    rw [if_neg (by omega), show ((j * ch + k) * 2 + 1) / 2 = j * ch + k by omega, show (j * ch + k) % ch = k by rw [Nat.add_comm, Nat.add_mul_mod_self_right, Nat.mod_eq_of_lt hk]]
  refine ⟨fun s i w' => ∃ k : Nat, i = (k : Int) ∧ k * (ch * size) ≤ 4000 ∧ Fr w w' [oIt .u8 eB s (tab (k * (ch * size)) (gS vs ch size)), sIt wa cc, sIt va (V.map (.int .i16))], fun _ i _ => (4001 - i).toNat, ⟨0, rfl, by omega, ?_⟩, ?_⟩
  · rw [Nat.zero_mul]; exact f3.nil0 .u8 eB
  rintro _ s i w4 ⟨k, rfl, hk, f4⟩
  have hkk : k ≤ k * (ch * size) := Nat.le_mul_of_pos_right _ hcs
  refine gLen_nm (f4.nm 0 rfl) ?_
  rw [tab_len]
  refine gIf_dec (fun hlt => ?_) (fun hge => ?_)
  · refine ⟨fun s i w' => ∃ q : Nat, i = (q : Int) ∧ q ≤ ch ∧ Fr w w' [oIt .u8 eB s (tab ((k * ch + q) * size) (gS vs ch size)), sIt wa cc, sIt va (V.map (.int .i16))], fun _ i _ => (100 - i).toNat, ⟨0, rfl, by omega, by rw [Nat.add_zero, Nat.mul_assoc]; exact f4⟩, ?_⟩
    rintro _ s1 i1 w5 ⟨q, rfl, hq, f5⟩
    refine fLoad_i (n := (ch : Int)) f5 1 0 rfl c0' (gIf_dec (fun hlt2 => ?_) (fun hge2 => ?_))
    · have hqc : q < ch := by omega
      have hvq : (V.map (Value.int .i16))[q]? = some (.int .i16 (vs q)) := by rw [hvs]; exact rd_mg (k := .i16) (xs := V) (by omega)
      have hbd : (k * ch + q) * size + size ≤ 4000 + 100 := by
        have h1 : (k * ch + q + 1) * size ≤ (k * ch + ch) * size := Nat.mul_le_mul_right _ (by omega)
        rw [Nat.add_mul (k * ch), Nat.mul_assoc, Nat.succ_mul] at h1; omega
      have b1 : 0 ≤ u8 (vs q) ∧ u8 (vs q) < 256 := by rw [u8_def]; omega
      have b2 : 0 ≤ u8 (iShr .i16 (vs q) 8) ∧ u8 (iShr .i16 (vs q) 8) < 256 := by rw [u8_def]; omega
      refine gIdx_ar1 8 q rfl (by omega) (fLoad_i (n := vs q) f5 2 q rfl hvq (fAppB rfl f5 b1 (by rw [tab_len]; omega) fun s2 w6 f6 => fLoad_i (n := ((8 * size : Nat) : Int)) f6 1 1 rfl c1' (gIf_eq (fun h16 => ?_) (fun h16 => ?_))))
      · have h2 : size = 2 := by omega
        refine gIdx_ar1 8 q rfl (by omega) (fLoad_i (n := vs q) f6 2 q rfl hvq (fAppB rfl f6 b2 (by rw [List.length_append, tab_len]; simp; omega) fun s3 w7 f7 => ⟨⟨q + 1, by rw [i64_id (by omega) (by omega)]; omega, by omega, ?_⟩, by dsimp only; rw [i64_id (by omega) (by omega)]; omega⟩))
        rw [← at0 (j := k) hqc, ← at1 (j := k) hqc h2, ← tab_succ, ← tab_succ] at f7
        have e : (k * ch + q) * size + 1 + 1 = (k * ch + (q + 1)) * size := by rw [h2]; omega
        rwa [e] at f7
      · have h2 : size = 1 := by omega
        refine ⟨⟨q + 1, by rw [i64_id (by omega) (by omega)]; omega, by omega, ?_⟩, by dsimp only; rw [i64_id (by omega) (by omega)]; omega⟩
        rw [← at0 (j := k) hqc, ← tab_succ] at f6
        have e : (k * ch + q) * size + 1 = (k * ch + (q + 1)) * size := by rw [h2]; omega
        rwa [e] at f6
    · obtain rfl : q = ch := by omega
      refine ⟨⟨k + 1, by rw [i64_id (by omega) (by omega)]; omega, by rw [Nat.succ_mul]; omega, ?_⟩, by dsimp only; rw [i64_id (by omega) (by omega)]; omega⟩
      have e : (k * q + q) * size = (k + 1) * (q * size) := by rw [← Nat.succ_mul, Nat.mul_assoc]
      rwa [e] at f5
  · obtain ⟨ss, hss⟩ : ∃ ss, ss = tab (k * (ch * size)) (gS vs ch size) := ⟨_, rfl⟩
    rw [← hss] at f4
    have hsl : ss.length = k * (ch * size) := by rw [hss, tab_len]
    obtain ⟨p1, p2⟩ := small_pack hss c1 c8 hs (by omega) (by omega)
    have hml : (makeW (ch : Int) ((8 * size : Nat) : Int) ss).length = 44 + ss.length := by unfold makeW; rw [List.length_append, hdW_len]
    rw [hcc] at f4
    have f4 : Fr w w4 [oIt .u8 eB s ss, sIt wa [.int .i64 (ch : Int), .int .i64 ((8 * size : Nat) : Int), .int .i64 0, .int .i64 0], sIt va (V.map (.int .i16))] := f4
    refine fLoadA f4 1 rfl ?_ rfl (by kernel_rfl)
    show gCall _ _ _ _ _ _
    refine gCall_of (rwMake_any (ch := (ch : Int)) (bits := ((8 * size : Nat) : Int)) (f4.nm 0 rfl) (by omega) (by omega) (by omega)) ?_
    rintro _ w5 ⟨t64, rfl, h5, o5⟩
    generalize makeW (ch : Int) ((8 * size : Nat) : Int) ss = M at *
    refine ⟨t64, rfl, gCall_of (aPack_any o5.nm (by omega)) ?_⟩
    rintro _ w6 ⟨x, rfl, h6, nx⟩
    generalize packA M = pk at *
    obtain ⟨ys, ok⟩ := pk
    dsimp only at p1 p2 nx ⊢
    subst p1
    refine ⟨_, _, rfl, gCall_b awake15_any fun w7 h7 => gIf_t (gIf_t (gLen_nm (nx.nm.ev h7) (gLen_nm (o5.nm.ev (h6.trans h7)) ⟨?_, f4.old.trans (h5.trans (h6.trans h7))⟩)))⟩
    rw [i64_id (n := 4 * (ys.length : Int)) (by omega) (by omega), decide_eq_true (show 4 * (ys.length : Int) ≤ (M.length : Int) by omega)]
end
end Go.Proofs.YtjmdoflcmipejaaV
