/- Package rice: what its calls do. -/
import Derived.Test.YtnhlnpjfnoabcaaVRiceA
import Derived.Test.YtnhlnpjfnoabcaaVHelpChunk32
import Derived.Test.YtnhlnpjfnoabcaaVHelp
namespace Go.Proofs.YtnhlnpjfnoabcaaV
open Go Go.RowKit
noncomputable abbrev e32 : TypeId := elOf P t_sl_int32
theorem i32i {x : Int} (h : -2147483648 ≤ x ∧ x ≤ 2147483647) : IntKind.i32.min ≤ x ∧ x ≤ IntKind.i32.max := by simp [IntKind.min, IntKind.max, IntKind.signed, IntKind.bits]; omega
theorem rd_i32 {l : List Int} (h : inR .i32 l) (i : Nat) : -2147483648 ≤ rd l i ∧ rd l i ≤ 2147483647 := rd_in (fun x hx => i32_rng (h x hx)) i
/-! ### Zeros and ones have bytes -/
def B01 (bs : List Int) : Prop := ∀ x ∈ bs, x = 0 ∨ x = 1
theorem B01.app {cs bs : List Int} (h : B01 cs) (h2 : B01 bs) : B01 (cs ++ bs) := fun x hx => (List.mem_append.1 hx).elim (h x) (h2 x)
theorem B01.bits (v : Int) : ∀ k, B01 (bitsL v k)
  | 0 => fun x hx => by cases hx
  | k + 1 => fun x hx => by
    rcases List.mem_cons.1 hx with rfl | hx
    · omega
    · exact B01.bits v k x hx
theorem B01.ones (n : Nat) : B01 (List.replicate n 1) := fun x hx => .inr (List.eq_of_mem_replicate hx)
theorem B01.num (v : Int) (k : Nat) : B01 (numL v k) := by
  unfold numL
  split
  · exact ((B01.ones _).app (fun x hx => by simp at hx; exact .inl hx)).app (B01.bits _ _)
  · exact (B01.ones _).app (B01.bits _ _)
theorem B01.pack (l : List Int) : ∀ m, B01 (packTo l m)
  | 0 => fun x hx => by cases hx
  | m + 1 => (B01.pack l m).app (B01.app (by split; exact B01.bits _ _; exact fun x hx => by cases hx) (B01.num _ _))
theorem packs_snoc {xs bs : List Int} {b : Int} (hx : inR .u8 xs) (h : Packs xs bs) (hb : b = 0 ∨ b = 1) : ∃ ys, inR .u8 ys ∧ Packs ys (bs ++ [b]) := by
  have hl := h.1
  obtain ⟨zs, h1, h2, h3⟩ : ∃ zs, inR .u8 zs ∧ zs.length = (bs.length + 1 + 7) / 8 ∧ ∀ k, k < 8 * zs.length → bitAt zs k = bs.getD k 0 := by
    by_cases h0 : bs.length % 8 = 0
    · exact ⟨xs ++ [0], fun x hx' => (List.mem_append.1 hx').elim (hx x) fun h => by simp at h; subst h; decide, by simp; omega, fun k _ => h.grow h0 k⟩
    · exact ⟨xs, hx, by omega, h.2⟩
  rcases hb with rfl | rfl
  · exact ⟨zs, h1, Packs.zero h2 h3⟩
  · exact ⟨_, (Packs.set h1 h2 h3).2, (Packs.set h1 h2 h3).1⟩
theorem packs_rev : ∀ cs : List Int, B01 cs → ∃ xs, inR .u8 xs ∧ Packs xs cs.reverse
  | [], _ => ⟨[], (fun _ h => by cases h), Packs.nil⟩
  | b :: cs, h => by
    obtain ⟨xs, h1, h2⟩ := packs_rev cs fun x hx => h x (List.mem_cons_of_mem _ hx)
    rw [List.reverse_cons]; exact packs_snoc h1 h2 (h b List.mem_cons_self)
theorem pkB_ok {bs : List Int} (h : B01 bs) : inR .u8 (pkB bs) ∧ Packs (pkB bs) bs := by
  obtain ⟨xs, h1, h2⟩ := packs_rev bs.reverse fun x hx => h x (List.mem_reverse.1 hx)
  rw [List.reverse_reverse] at h2
  rw [pkB_eq h1 h2]; exact ⟨h1, h2⟩
/-! ### Bits that grow behind a pointer -/
def bIt (ad : Addr) (v : Value) (bs : List Int) : It := ⟨fun k => k = ad.block ∨ v.ownBlock = some k, fun w => Wb w ad v bs, fun _ _ ⟨_, h1, h2, _⟩ hk => by
    rcases hk with hk | hk
    · rw [hk]; exact h1.ce
    · exact h2.ce hk, fun _ _ _ h hc hs => h.ch hc fun k i hk => hs k i hk, fun _ _ ⟨xs, h1, h2, h3, h4⟩ _ hc => ⟨xs, h1.gr hc, h2.gr hc, h3, h4⟩⟩
section
variable {w0 w : World} {F : List It}
theorem Fr.asB (h : Fr w0 w F) (i : Nat) {ad : Addr} (hi : F[i]? = some (sIt ad [.slice none 0 0, .int .i64 0])) : Fr w0 w (F.set i (bIt ad (.slice none 0 0) [])) :=
  h.upd (S := No) i hi (Ch.refl _ w) (fun _ _ h => h.elim) ⟨[], h.get i hi, ON.nil _ _ _ _, (fun h => by cases h), Packs.nil⟩ fun k hk => .inl (by rcases hk with hk | hk; exact hk; cases hk)
theorem Fr.bw {w' : World} {ad : Addr} {v v' : Value} {xs ys : List Int} (h : Fr w0 w F) (i : Nat) (hi : F[i]? = some (bIt ad v xs)) (g : WbS w w' ad v v' ys) : Fr w0 w' (F.set i (bIt ad v' ys)) :=
  h.upd i hi g.2.1 (fun k _ hh => .inl hh) g.1 fun k hk => by
    rcases hk with hk | hk
    · exact .inl (.inl hk)
    · rcases g.2.2 with hm | hm
      · exact .inl (.inr (hm ▸ hk))
      · exact .inr (hm k hk)
theorem fStore0 {P : Program} {t : TypeId} {ad : Addr} {cs : List Value} {u : Value} {K : World → Prop} (h : Fr w0 w F) (i : Nat) (hi : F[i]? = some (sIt ad cs)) (hk : ∀ w', Fr w0 w' (F.set i (sIt ad (cs.set 0 u))) → K w') (hj : 0 < cs.length := by exact Nat.le_of_ble_eq_true rfl) (hu : u.oneCell' = true := by rfl) (hcl : u.cells = #[u] := by rfl) (ht : flat1 P t = true := by kernel_rfl) :
    gStore P t (.pointer (some ad)) u w K := by
  have := fStore h i 0 hi hk hj hu hcl ht
  rwa [Addr.add_zero'] at this
theorem Fr.cell0 {ad : Addr} {cs : List Value} (h : Fr w0 w F) (i : Nat) {u : Value} (hi : F[i]? = some (sIt ad cs)) (hj : cs[0]? = some u) : w.cell? ad = some u := by
  have := h.cell i 0 hi hj
  rwa [Addr.add_zero'] at this
end
/-! ### Numbers -/
theorem shr32' {v : Int} {k : Nat} (hv : 0 ≤ v ∧ v < 4294967296) (hk : k ≤ 32) : iShr .u32 v k = v / ((2 ^ k : Nat) : Int) ∧ 0 ≤ v / ((2 ^ k : Nat) : Int) ∧ v / ((2 ^ k : Nat) : Int) < 4294967296 := shr32 hv hk
theorem put_any {ad : Addr} {v : Value} {bs : List Int} {x : Int} {k : Nat} {w : World} (h : Wb w ad v bs) (hx : -2147483648 ≤ x ∧ x ≤ 2147483647) (hk : k ≤ 24) (hl : bs.length + 10000 ≤ 10000000000) :
    Calls P n_rice_packer_put #[.pointer (some ad), .int .i32 x, .int .i64 k] w (fun e w' => e = .returned (.tuple #[]) ∧ ∃ v', WbS w w' ad v v' (bs ++ numL x k)) := by
  have hf := foldI32 hx
  refine of_rice_packer_put ?_
  rw [i64_id (n := x) (by omega) (by omega)]
  refine gCall_i0 (Fold_any (by omega)) (gBin_shr (by omega) ?_)
  rw [show u32 (foldI x) = foldI x by rw [u32_def]; omega]
  obtain ⟨e1, e2, e3⟩ := shr32 hf (k := k) (by omega)
  rw [e1]
  unfold numL
  refine gIf_dec (fun hlt => gNil_some ?_) (fun hge => ?_)
  · rw [if_pos hlt, Addr.add_zero', i64_id (n := foldI x / _) (by omega) (by omega)]
    refine gCall_u (Unary_any h (by omega)) fun w1 ⟨v1, h1⟩ => gNil_some ?_
    have hc : cl4096 (foldI x / ((2 ^ k : Nat) : Int)) = (foldI x / ((2 ^ k : Nat) : Int)).toNat := by unfold cl4096; split <;> omega
    rw [Addr.add_zero']
    rw [hc] at h1
    refine gCall_u (Bits_any h1.1 hf (by rw [List.length_append, List.length_append, List.length_replicate, List.length_singleton]; omega)) fun w2 ⟨v2, h2⟩ => ⟨rfl, v2, ?_⟩
    rw [show cl32 (k : Int) = k by unfold cl32; split <;> omega] at h2
    have := h1.trans h2
    rwa [List.append_assoc] at this
  · rw [if_neg hge]
    refine ⟨fun i w1 => ∃ (j : Nat) (v' : Value), i = j ∧ j ≤ 24 ∧ WbS w w1 ad v v' (bs ++ List.replicate j 1), fun i _ => 24 - i.toNat, ⟨0, v, rfl, by omega, by simpa using h.step⟩, ?_⟩
    rintro _ i w1 ⟨j, v', rfl, hj, hW⟩
    refine gIf_dec (fun hlt => gNil_some ?_) (fun hend => gNil_some ?_)
    · rw [i64_id (n := (j : Int) + 1) (by omega) (by omega), Addr.add_zero']
      refine gCall_u (Bit_any hW.1 (by simp; omega)) fun w2 ⟨v2, hW2⟩ => ⟨⟨j + 1, v2, by omega, by omega, ?_⟩, by dsimp only; omega⟩
      rw [List.replicate_succ', ← List.append_assoc]; exact hW.trans hW2
    · obtain rfl : j = 24 := by omega
      rw [Addr.add_zero']
      refine gCall_u (Bits_any hW.1 hf (by simp; omega)) fun w2 ⟨v2, h2⟩ => ⟨rfl, v2, ?_⟩
      have := hW.trans h2
      rwa [List.append_assoc] at this
def cl24 (k : Int) : Nat := (if 24 < k then 24 else k).toNat
theorem cl24_le (k : Int) : cl24 k ≤ 24 := by unfold cl24; split <;> omega
theorem cl24a (k : Int) : (if (if 24 < k then 24 else k) > 0 then (if 24 < k then 24 else k) else 0) = (cl24 k : Int) := by unfold cl24; split <;> split <;> omega
theorem cl24_id {k : Nat} (h : k ≤ 24) : cl24 k = k := by unfold cl24; split <;> omega
theorem costL_take {l : List Int} {j k : Nat} (hj : j < l.length) : costL k (l.take (j + 1)) = costL k (l.take j) + costN (rd l j) k := by
  rw [List.take_succ_eq_append_getElem hj, costL_app, rd_nat l j hj]
theorem Cost_any {l0 : Value} {l : List Int} {k : Int} {w : World} (h : Nm .i32 w l0 l) (hl : l.length ≤ 1000000000) :
    Calls P n_rice_Cost #[l0, .int .i64 k] w (fun e w' => e = .returned (.int .i64 (costL (cl24 k) l)) ∧ w' = w) := by
  have hk := cl24_le k
  refine of_rice_Cost (gLen_nm h ?_)
  rw [cl24a]
  refine ⟨fun n i w' => ∃ j : Nat, i = j ∧ j ≤ l.length ∧ n = costL (cl24 k) (l.take j) ∧ w' = w, fun _ i _ => l.length - i.toNat, ⟨0, rfl, by omega, rfl, rfl⟩, ?_⟩
  rintro _ _ i _ ⟨j, rfl, hj, rfl, rfl⟩
  refine gIf_dec (fun hlt => ?_) (fun hge => ⟨by rw [List.take_of_length_le (by omega)], rfl⟩)
  refine gIdx_nm h (by omega) hlt fun ad c _ => gLoad_i c ?_
  have hx := rd_i32 h.2 j
  have hf := foldI32 hx
  rw [i64_id (n := rd l j) (by omega) (by omega)]
  refine gCall_i0 (Fold_any (by omega)) (gBin_shr (by omega) ?_)
  rw [show u32 (foldI (rd l j)) = foldI (rd l j) by rw [u32_def]; omega]
  obtain ⟨e1, e2, e3⟩ := shr32 hf (k := cl24 k) (by omega)
  rw [e1]
  have hb := costL_bd hk (l.take j)
  rw [List.length_take, Nat.min_eq_left hj] at hb
  have hs := costL_take (l := l) (k := cl24 k) (j := j) (by omega)
  unfold costN at hs
  rw [i64_id (n := (j : Int) + 1) (by omega) (by omega)]
  refine gIf_dec (fun hq => ?_) (fun hq => ?_)
  · rw [if_pos hq] at hs
    rw [i64_id (n := foldI _ / _) (by omega) (by omega), i64_id (n := foldI _ / _ + 1) (by omega) (by omega), i64_id (n := foldI _ / _ + 1 + _) (by omega) (by omega), i64_id (by omega) (by omega)]
    exact ⟨⟨j + 1, by omega, by omega, hs.symm, rfl⟩, by dsimp only; omega⟩
  · rw [if_neg hq] at hs
    rw [i64_id (by omega) (by omega)]
    exact ⟨⟨j + 1, by omega, by omega, hs.symm, rfl⟩, by dsimp only; omega⟩
theorem Best_any {l0 : Value} {l : List Int} {w : World} (h : Nm .i32 w l0 l) (hl : l.length ≤ 1000000000) :
    Calls P n_rice_Best #[l0] w (fun e w' => e = .returned (.int .i64 (bestL l)) ∧ w' = w) := by
  refine of_rice_Best (gCall_i0 (Cost_any h hl) ⟨fun b c k w' => ∃ j : Nat, k = ((j + 1 : Nat) : Int) ∧ j ≤ 24 ∧ b = (bestU l j : Int) ∧ c = costL (bestU l j) l ∧ w' = w, fun _ _ k _ => 25 - k.toNat, ⟨0, rfl, by omega, rfl, rfl, rfl⟩, ?_⟩)
  rintro _ _ _ k _ ⟨j, rfl, hj, rfl, rfl, rfl⟩
  refine gIf_dec (fun hlt => gCall_i0 (Cost_any h hl) ?_) (fun hge => ⟨by rw [show j = 24 by omega]; rfl, rfl⟩)
  rw [cl24_id (k := j + 1) (by omega), i64_id (n := ((j + 1 : Nat) : Int) + 1) (by omega) (by omega)]
  refine gIf_dec (fun hc => ⟨⟨j + 1, rfl, by omega, ?_, ?_, rfl⟩, by dsimp only; omega⟩) (fun hc => ⟨⟨j + 1, rfl, by omega, ?_, ?_, rfl⟩, by dsimp only; omega⟩) <;> simp only [bestU, hc, if_true, if_false]
/-! ### Packing -/
def blkB (p : List Int) : List Int := bitsL (bestL p) 5 ++ numsTo p (bestL p) p.length
def flatB (l : List Int) (js : List Nat) : List Int := (js.map fun j => blkB (part64 l j)).flatten
theorem flatB_snoc (l : List Int) (js : List Nat) (j : Nat) : flatB l (js ++ [j]) = flatB l js ++ (bitsL (bestL (part64 l j)) 5 ++ numsTo (part64 l j) (bestL (part64 l j)) (part64 l j).length) := by
  unfold flatB; rw [List.map_append, List.flatten_append]; simp [blkB]
theorem numsTo_len (p : List Int) {k : Nat} (hk : k ≤ 24) : ∀ t, (numsTo p k t).length ≤ 56 * t
  | 0 => by simp [numsTo]
  | t + 1 => by
    have h1 := numsTo_len p hk t
    have h2 := numL_len (rd p t) k
    have h3 := costN_bd (rd p t) hk
    rw [numsTo, List.length_append]; omega
theorem part64_len (l : List Int) (j : Nat) : (part64 l j).length = min 64 (l.length - j * 64) := by unfold part64; rw [List.length_take, List.length_drop]
theorem flatB_len (l : List Int) : ∀ js : List Nat, (flatB l js).length ≤ 3600 * js.length
  | [] => by simp [flatB]
  | j :: js => by
    have h1 := flatB_len l js
    have h2 := numsTo_len (part64 l j) (bestL_le (part64 l j)) (part64 l j).length
    have h3 := part64_len l j
    have h4 : (flatB l (j :: js)).length = (blkB (part64 l j)).length + (flatB l js).length := by unfold flatB; simp
    rw [h4]; unfold blkB; rw [List.length_append, bitsL_len, List.length_cons]; omega
theorem flatB_range (l : List Int) : ∀ j, j ≤ chN 64 l.length → flatB l (List.range j) = packTo l (min (64 * j) l.length)
  | 0, _ => by simp [flatB, packTo]
  | j + 1, h => by
    have hlt : j * 64 < l.length := (chN_lt (by decide)).1 (by omega)
    have hp := part64_len l j
    rw [List.range_succ, flatB_snoc, flatB_range l j (by omega), Nat.min_eq_left (by omega)]
    have := packTo_in l j ((part64 l j).length - 1) (by omega)
    rw [show (part64 l j).length - 1 + 1 = (part64 l j).length by omega] at this
    rw [show min (64 * (j + 1)) l.length = 64 * j + (part64 l j).length by omega, this, List.append_assoc]
theorem flatB_all (l : List Int) : flatB l (List.range (chN 64 l.length)) = packTo l l.length := by
  rw [flatB_range l _ (Nat.le_refl _), Nat.min_eq_right]
  have : ¬ chN 64 l.length < chN 64 l.length := by omega
  rw [chN_lt (by decide)] at this; omega
noncomputable def packE (l : List Int) : List Int × Int := if l.length > 1048576 then ([], 5) else (pkB (packTo l l.length), 0)
theorem rPack_any {l0 : Value} {l : List Int} {w : World} (h : Nm .i32 w l0 l) : Calls P n_rice_Pack #[l0] w (TupE w (packE l)) := by
  refine of_rice_Pack (gLen_nm h (gIf_dec (fun hbig => ?_) (fun hle => ?_)))
  · unfold packE
    rw [if_pos (by omega)]
    exact ⟨_, rfl, Ch.refl _ w, ON.nil _ _ _ _⟩
  have hle : l.length ≤ 1048576 := by omega
  refine fBox (Fr.start w) fun pk w1 f1 => fAlloc (z := .pointer none) f1 (by kernel_rfl) fun p4 w2 f2 => fStore0 f2 0 rfl fun w3 f3 => ?_
  have f3 := f3.asB 1 (ad := pk) rfl
  refine Chunk_any f3 h.one (n := 64) (by decide) fun a b w4 f4 => ?_
  refine range_chunk f4 h (by omega) (by decide) (by decide) (fun pre G => ∃ v, G = [sIt p4 [.pointer (some pk)], bIt pk v (flatB l pre)]) ⟨_, rfl⟩ ?_ ?_
  · rintro pre j W _ ⟨v, rfl⟩ f hlen hN hO K hK
    have hcl := chL_len 64 l j
    have hlt := (chN_lt (len := l.length) (j := pre.length) (n := 64) (by decide)).1 hlen
    have hbl := bestL_le (part64 l j)
    refine gCall_i0 (Best_any hN (by omega)) (gLoad_p (f.cell0 2 rfl rfl) (gNil_some ?_))
    rw [Addr.add_zero', show u32 ((bestL (chL 64 l j) : Nat) : Int) = ((bestL (part64 l j) : Nat) : Int) by rw [u32_def]; show ((bestL (part64 l j) : Nat) : Int) % _ = _; omega]
    have hfl := flatB_len l pre
    refine gCall_u (Bits_any (f.get 3 rfl) (by omega) (by omega)) fun W1 ⟨v1, g1⟩ => gLen_nm hN ?_
    have f5 := f.bw 3 rfl g1
    rw [show cl32 5 = 5 by decide] at f5
    refine ⟨fun i W' => ∃ (t : Nat) (v' : Value), i = t ∧ t ≤ (part64 l j).length ∧ KeepsOthers W W' ∧ Fr w W' [sIt b [.int .i64 (64 : Nat)], sIt a [l0], sIt p4 [.pointer (some pk)], bIt pk v' (flatB l pre ++ bitsL (bestL (part64 l j)) 5 ++ numsTo (part64 l j) (bestL (part64 l j)) t)],
      fun i _ => (part64 l j).length - i.toNat, ⟨0, v1, rfl, by omega, g1.2.1.others, by simpa [numsTo] using f5⟩, ?_⟩
    rintro _ i W2 ⟨t, v2, rfl, ht, ho, f6⟩
    refine gIf_dec (fun hlt2 => ?_) (fun hge => ?_)
    · have hN2 : Nm .i32 W2 (chV 64 l0 l.length j) (part64 l j) := chV_nm (n := 64) (h.ev f6.old) j
      have hlt3 : ((t : Nat) : Int) < (part64 l j).length := hlt2
      have hpl := part64_len l j
      refine gIdx_nm hN2 (by omega) hlt2 fun ad c _ => gLoad_i c (gLoad_p (f6.cell0 2 rfl rfl) ?_)
      have hnl := numsTo_len (part64 l j) hbl t
      refine gCall_u (put_any (f6.get 3 rfl) (rd_i32 hN2.2 t) hbl (by simp [bitsL_len]; omega)) fun W3 ⟨v3, g3⟩ => ?_
      rw [i64_id (n := (t : Int) + 1) (by omega) (by omega)]
      refine ⟨⟨t + 1, v3, rfl, by omega, ho.trans g3.2.1.others, ?_⟩, by dsimp only; omega⟩
      have f7 := f6.bw 3 rfl g3
      have e : flatB l pre ++ bitsL (bestL (part64 l j)) 5 ++ numsTo (part64 l j) (bestL (part64 l j)) (t + 1) = flatB l pre ++ bitsL (bestL (part64 l j)) 5 ++ numsTo (part64 l j) (bestL (part64 l j)) t ++ numL (rd (part64 l j) t) (bestL (part64 l j)) := by rw [numsTo, List.append_assoc (_ ++ _)]
      rw [e]
      exact f7
    · have ht2 : t = (part64 l j).length := by have : ¬ ((t : Int) < (part64 l j).length) := hge; omega
      subst ht2
      refine hK W2 _ ho ⟨v2, ?_⟩ f6
      rw [flatB_snoc, List.append_assoc]
  · rintro D W _ hD ⟨v, rfl⟩ f hDD
    rw [flatB_all] at f
    refine gLoad_p (f.cell0 2 rfl rfl) (gNil_some ?_)
    rw [Addr.add_zero']
    have hpl := packTo_len l l.length
    refine gCall_v (wBytes_any (f.get 3 rfl) (by omega)) fun y W1 ⟨h1, xs, hy, hp⟩ => ?_
    have hk1 : W1.heap[D]? = some (.deferred (some [])) := h1.oth D _ hDD rfl
    refine ⟨hk1, ?_⟩
    have f8 := ((f.newO h1 hy).putObj (D := D) (o' := .deferred none) (Nat.le_trans f4.old.size hD) hk1 rfl)
    unfold packE
    rw [if_neg (by omega), pkB_eq hy.2 hp]
    exact ⟨y, rfl, f8.old, f8.on 0 rfl⟩
end Go.Proofs.YtnhlnpjfnoabcaaV
