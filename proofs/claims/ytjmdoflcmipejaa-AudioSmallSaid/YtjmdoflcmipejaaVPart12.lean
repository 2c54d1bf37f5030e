import Derived.Test.YtjmdoflcmipejaaVPart11
set_option linter.unusedVariables false
set_option linter.unusedSimpArgs false
/- Package audio: Unpack. -/
namespace Go.Proofs.YtjmdoflcmipejaaV
open Go Go.RowKit
theorem len2 {α : Type} {l : List α} (h : l.length = 2) : ∃ a b, l = [a, b] := by
  match l, h with
  | [a, b], _ => exact ⟨a, b, rfl⟩
theorem endR_0 {n a : Nat} {er : Int} (h : endR n a er = 0) : er = 0 := by
  refine Decidable.byContradiction fun hn => hn ?_
  unfold endR at h; rw [if_pos hn] at h; exact h
section
variable {w : World}
theorem aUnpack_any {x : Value} {xs : List Int} {most : Int} (hb : Nm .u8 w x xs) (hl : xs.length ≤ 1000000000) (hun : ∀ (b : List Int) (n : Int), 0 ≤ n → n ≤ 1048576 → (unpE true b n).1.length ≤ 1048576 ∧ ((unpE true b n).2 = 0 → (unpE true b n).1.length = n.toNat)) : Calls P n_audio_Unpack #[x, .int .i64 most] w (TupE w (unpackA xs most)) := by
  have hx := hb.2
  refine of_audio_Unpack (fNewR (Fr.start w) hb (by omega) fun ad y w1 f1 => gCall_of (read_any f1 hl) ?_)
  rintro _ w2 ⟨rfl, f2⟩
  unfold msOf
  refine ⟨_, _, _, _, _, _, _, rfl, ?_⟩
  have hnl := numsN_len xs 6
  have hrg := numsN_rng hx 6
  have hat := numsN_at xs 6
  obtain ⟨l, hlq⟩ : ∃ l : List Int, l = (numsN xs 6).1 := ⟨_, rfl⟩
  obtain ⟨a6, ha6⟩ : ∃ a6, a6 = (numsN xs 6).2.1 := ⟨_, rfl⟩
  obtain ⟨er6, he6⟩ : ∃ er6, er6 = (numsN xs 6).2.2 := ⟨_, rfl⟩
  have hr : ∀ j : Nat, j < 6 → 0 ≤ rd l (j : Int) ∧ rd l (j : Int) ≤ 1099511627776 := fun j hj => by rw [← hlq] at hrg hnl; exact hrg _ (rd_mem (xs := l) (i := (j : Int)) (by omega) (by omega))
  have r0 := hr 0 (by omega)
  have r1 := hr 1 (by omega)
  have r2 := hr 2 (by omega)
  have r3 := hr 3 (by omega)
  have r4 := hr 4 (by omega)
  have r5 := hr 5 (by omega)
  have hokx : okX xs = okM (rd l 0) (rd l 1) (rd l 2) (rd l 3) (rd l 4) (rd l 5) := by unfold okX; rw [← hlq]
  obtain ⟨ok, hok⟩ : ∃ ok, ok = okX xs := ⟨_, rfl⟩
  have hU : unpackA xs most = if er6 ≠ 0 then ([], er6) else if rd l 0 > (if 0 > most then 0 else most) ∨ rd l 0 > 1048576 then ([], 5) else if ok = false then ([], 4) else
      match chanN xs ((rd l 2 - rd l 1) / (rd l 3 * rd l 4 / 8)) (rawR xs (rawR xs a6 0 (rd l 1)).2.1 (rawR xs a6 0 (rd l 1)).2.2 (rd l 0 - rd l 2)).2.1 (rawR xs (rawR xs a6 0 (rd l 1)).2.1 (rawR xs a6 0 (rd l 1)).2.2 (rd l 0 - rd l 2)).2.2 (rd l 3).toNat with
      | .inr e => ([], e)
      | .inl c => endU xs (rawR xs a6 0 (rd l 1)).1 (rawR xs (rawR xs a6 0 (rd l 1)).2.1 (rawR xs a6 0 (rd l 1)).2.2 (rd l 0 - rd l 2)).1 (rd l 4) (rd l 5) ((rd l 2 - rd l 1) / (rd l 3 * rd l 4 / 8)) c := by
    unfold unpackA; dsimp only; rw [← hlq, ← ha6, ← he6, ← hok]; rfl
  rw [← hlq, ← hok]
  rw [← ha6, ← he6] at f2
  rw [← ha6] at hat
  rw [← hok] at hokx
  simp only [show (((0 : Nat) : Int)) = 0 from rfl, show (((1 : Nat) : Int)) = 1 from rfl, show (((2 : Nat) : Int)) = 2 from rfl, show (((3 : Nat) : Int)) = 3 from rfl, show (((4 : Nat) : Int)) = 4 from rfl, show (((5 : Nat) : Int)) = 5 from rfl] at r0 r1 r2 r3 r4 r5
  generalize rd l 0 = n at *
  generalize rd l 1 = Fm at *
  generalize rd l 2 = T at *
  generalize rd l 3 = ch at *
  generalize rd l 4 = bits at *
  generalize rd l 5 = mid at *
  obtain ⟨mc, hmc⟩ : ∃ mc : List Value, mc = [.int .i64 ch, .int .i64 bits, .int .i64 Fm, .int .i64 T, .int .i64 n, .int .i64 mid] := ⟨_, rfl⟩
  have m0 : mc[0]? = some (.int .i64 ch) := by rw [hmc]; rfl
  have m1 : mc[1]? = some (.int .i64 bits) := by rw [hmc]; rfl
  have m2 : mc[2]? = some (.int .i64 Fm) := by rw [hmc]; rfl
  have m3 : mc[3]? = some (.int .i64 T) := by rw [hmc]; rfl
  have m4 : mc[4]? = some (.int .i64 n) := by rw [hmc]; rfl
  have m5 : mc[5]? = some (.int .i64 mid) := by rw [hmc]; rfl
  refine fAlloc (z := .agg #[.int .i64 0, .int .i64 0, .int .i64 0, .int .i64 0, .int .i64 0, .int .i64 0]) f2 (by kernel_rfl) fun m7 w3 f3 => fStoreA f3 0 rfl (fun w4 f4 => ?_) rfl
  have f4 : Fr w w4 [sIt m7 mc, sIt ad [y, .int .i64 a6, .int .i64 er6], oIt .u8 eB y xs] := by rw [hmc]; exact f4
  have f4 : Fr w w4 [sIt ad [y, .int .i64 a6, .int .i64 er6], oIt .u8 eB y xs, sIt m7 mc] := f4.picks [1, 2, 0] (by decide)
  have err : ∀ {w'} (e : Int), Ev w w' → unpackA xs most = ([], e) → TupE w (unpackA xs most) (.returned (.tuple #[.slice none 0 0, .int .i64 e])) w' := fun e he hu => by rw [hu]; exact ⟨_, rfl, he, ON.nil _ _ _ _⟩
  have hB : ∀ {w' : World} {F' : List It} (i : Nat), Fr w w' F' → F'[i]? = some (sIt m7 mc) → ∀ (j : Nat) (u : Value), mc[j]? = some u → w'.cell? (m7.add j) = some u := fun i f hi j u hj => f.cell i j hi hj
  rw [Addr.add_zero']
  refine ⟨fun w' => (er6 = 0 ∧ ¬ (n > (if 0 > most then 0 else most) ∨ n > 1048576) ∧ ok = true) ∧ w' = w4, fErrR f4 hat (by omega) (gIf_neq (fun hne => fErrR f4 hat (by omega) (err _ f4.old (by rw [hU, if_pos hne]))) (fun h0 => ?_)), ?_⟩
  · have h00 : ¬ (er6 ≠ 0) := fun h => h h0
    refine fLoad_i (n := n) f4 2 4 rfl m4 (gIf_ndec (fun h1 => fLoad_i (n := n) f4 2 4 rfl m4 (gIf_dec (fun h2 => err 5 f4.old (by rw [hU, if_neg h00, if_pos (.inr h2)])) (fun h2 => gIf_nb (fun hf => err 4 f4.old (by rw [hU, if_neg h00, if_neg (fun h => h.elim h1 h2), if_pos hf])) (fun ht => ⟨⟨h0, fun h => h.elim h1 h2, ht⟩, rfl⟩)))) (fun h1 => err 5 f4.old (by rw [hU, if_neg h00, if_pos (.inl h1)])))
  rintro _ w7 ⟨⟨h0, hlim, hokt⟩, hw7⟩
  obtain rfl : w4 = w7 := hw7.symm
  rw [if_neg (fun h => h h0), if_neg hlim, if_neg (by rw [hokt]; decide)] at hU
  rw [hokt] at hokx
  have hm := of_decide_eq_true (show decide _ = true from hokx.symm)
  obtain ⟨⟨c1, c8⟩, hbits, hmid, hmid2, hFT, hTn, hdiv⟩ := hm
  subst h0
  obtain ⟨h, hh⟩ : ∃ h, h = rawR xs a6 0 Fm := ⟨_, rfl⟩
  obtain ⟨t, htt⟩ : ∃ t, t = rawR xs h.2.1 h.2.2 (n - T) := ⟨_, rfl⟩
  rw [← hh, ← htt] at hU
  have hha : h.2.1 ≤ xs.length := by rw [hh]; exact rawR_le hat
  have hta : t.2.1 ≤ xs.length := by rw [htt]; exact rawR_le hha
  refine ⟨fun w' => ∀ (j : Nat) (u : Value), mc[j]? = some u → w'.cell? (m7.add j) = some u, hB 2 f4.drew rfl, gLoadB_i (fun w' hw => hw 2 _ m2) (gLoadB_i (fun w' hw => hw 4 _ m4) (gLoadB_i (fun w' hw => hw 3 _ m3) (fRawR f4.drew hat (by omega) (by omega) fun z1 w8 f8 => ⟨?_, ?_⟩)))⟩
  · exact hB 3 f8 rfl
  rw [← hh] at f8
  rw [i64_id (n := n - T) (by omega) (by omega)]
  refine fRawR f8 hha (by omega) (by omega) fun z2 w9 f9 => ⟨?_, ?_⟩
  · exact hB 4 f9 rfl
  rw [← htt] at f9
  have hm8 : i64 (Int.tdiv (i64 (ch * bits)) 8) = ch * bits / 8 := by
    rcases hbits with e | e
    · rw [e, i64_id (n := ch * 8) (by omega) (by omega), Int.tdiv_eq_ediv_of_nonneg (by omega), i64_id (by omega) (by omega)]
    · rw [e, i64_id (n := ch * 16) (by omega) (by omega), Int.tdiv_eq_ediv_of_nonneg (by omega), i64_id (by omega) (by omega)]
  have hm1 : 1 ≤ ch * bits / 8 := by rcases hbits with e | e <;> rw [e] <;> omega
  refine fLoad_i (n := T) f9 4 3 rfl m3 (fLoad_i (n := Fm) f9 4 2 rfl m2 (fLoad_i (n := ch) f9 4 0 rfl m0 (fLoad_i (n := bits) f9 4 1 rfl m1 ?_)))
  rw [hm8, i64_id (n := T - Fm) (by omega) (by omega)]
  refine gBin_quo (by omega) ?_
  have hq0 : 0 ≤ (T - Fm) / (ch * bits / 8) := Int.ediv_nonneg (by omega) (by omega)
  have hq1 : (T - Fm) / (ch * bits / 8) ≤ T - Fm := Int.ediv_le_self _ (by omega)
  rw [Int.tdiv_eq_ediv_of_nonneg (by omega), wrap_i64, i64_id (n := (T - Fm) / (ch * bits / 8)) (by omega) (by omega)]
  obtain ⟨nn, hnn⟩ : ∃ nn, nn = (T - Fm) / (ch * bits / 8) := ⟨_, rfl⟩
  rw [← hnn] at hU hq0 hq1 ⊢
  refine fLoad_i (n := ch) f9 4 0 rfl m0 ?_
  have f9 := (f9.nilR eT 1).picksN 3 [1, 2, 0] (by decide) (by decide)
  have f9 : Fr w w9 (sIt ad [y, .int .i64 (t.2.1 : Nat), .int .i64 t.2.2] :: oIt .u8 eB y xs :: (trP (.slice none 0 0) [] ++ [oIt .u8 eB z2 t.1, oIt .u8 eB z1 h.1, sIt m7 mc])) := f9
  refine ⟨fun l11 i w' => ∃ (j : Nat) (s : List (List Int) × Nat × Int) (Tr : List (Value × List Int)), i = (j : Int) ∧ (j : Int) ≤ ch ∧ chanN xs nn t.2.1 t.2.2 j = .inl s ∧ Tr.map (·.2) = s.1 ∧ s.2.1 ≤ xs.length ∧ Fr w w' (sIt ad [y, .int .i64 (s.2.1 : Nat), .int .i64 s.2.2] :: oIt .u8 eB y xs :: (trP l11 Tr ++ [oIt .u8 eB z2 t.1, oIt .u8 eB z1 h.1, sIt m7 mc])), fun _ i _ => (ch - i).toNat, ⟨0, ([], t.2.1, t.2.2), [], rfl, by omega, rfl, rfl, hta, f9⟩, ?_⟩
  rintro _ l11 i w10 ⟨j, s, Tr, rfl, hjc, hs, hTr, hsa, f10⟩
  have hcl := chan_len (fun b hb0 => (hun b nn hq0 (by omega)).2 hb0) j hs
  refine gIf_dec (fun hlt => ?_) (fun hge => ?_)
  · refine chan_step (n := nn) (a0 := t.2.1) (er0 := t.2.2) f10 hTr hcl.1 (by omega) hsa hl hs (fun e w' he hev => err e hev (by rw [hU, chan_err he ch.toNat (by omega)])) (fun v' w' s' T' hs' hT' ha' f' => ⟨⟨j + 1, s', T', by rw [i64_id (by omega) (by omega)]; omega, by omega, hs', hT', ha', f'⟩, by dsimp only; rw [i64_id (by omega) (by omega)]; omega⟩) (fun b => by have := (hun b nn hq0 (by omega)).1; omega)
  have hjch : ch.toNat = j := by omega
  rw [hjch, hs] at hU
  have hU : unpackA xs most = endU xs h.1 t.1 bits mid nn s := hU
  unfold endU at hU
  refine fEndR f10 hsa (by omega) fun w19 h19 => gIf_neq (fun hne => err _ (f10.ev h19).old (by rw [hU, if_pos hne])) (fun hend => ?_)
  rw [if_neg (fun h => h hend)] at hU
  dsimp only at hU
  have f19 : Fr w w19 (trP l11 Tr ++ [oIt .u8 eB z2 t.1, oIt .u8 eB z1 h.1, sIt m7 mc]) := (f10.ev h19).dropN 2
  have fW : Fr w w19 [oIt .u8 eB z2 t.1, oIt .u8 eB z1 h.1, sIt m7 mc] := by
    have := f19.dropN (trP l11 Tr).length
    rwa [List.drop_left] at this
  obtain ⟨lf, hlf⟩ : ∃ lf, lf = if mid = 1 then [leftL (s.1.getD 0 []) (s.1.getD 1 []), rightL (s.1.getD 0 []) (s.1.getD 1 [])] else s.1 := ⟨_, rfl⟩
  rw [← hlf] at hU
  obtain ⟨size, hs12, hbs⟩ : ∃ size : Nat, (size = 1 ∨ size = 2) ∧ bits = ((8 * size : Nat) : Int) := by
    rcases hbits with e | e
    · exact ⟨1, .inl rfl, e⟩
    · exact ⟨2, .inr rfl, e⟩
  have hsz : (bits / 8).toNat = size := by omega
  rw [hsz] at hU
  have hlen : lf.length = s.1.length ∧ ∀ l ∈ lf, l.length = nn.toNat := by
    rw [hlf]
    split
    · rename_i hm
      have hj2 : s.1.length = 2 := by omega
      refine ⟨by rw [hj2]; rfl, fun l hl => ?_⟩
      have h0 : (s.1.getD 0 []).length = nn.toNat := by
        rw [List.getD_eq_getElem?_getD, List.getElem?_eq_getElem (by omega)]
        exact (hcl.2 _ (List.getElem_mem (by omega))).1
      simp only [List.mem_cons, List.not_mem_nil, or_false] at hl
      rcases hl with rfl | rfl
      · unfold leftL; rw [tab_len]; exact h0
      · unfold rightL; rw [tab_len]; exact h0
    · exact ⟨rfl, fun l hl => (hcl.2 l hl).1⟩
  refine ⟨fun w' => ∃ us : List Value, Sl w' 1 l11 us.length us ∧ us.length = lf.length ∧ (∀ (i : Nat) (u : Value) (ys : List Int), us[i]? = some u → lf[i]? = some ys → Nm .i32 w' u ys) ∧ Fr w w' [oIt .u8 eB z2 t.1, oIt .u8 eB z1 h.1, sIt m7 mc], fLoad_i (n := mid) fW 2 5 rfl m5 (gIf_eq (fun hm1 => ?_) (fun hm0 => ?_)), ?_⟩
  · have hj2 : s.1.length = 2 := by omega
    have hTl : Tr.length = 2 := by have := congrArg List.length hTr; rw [List.length_map] at this; omega
    obtain ⟨u0, u1, rfl⟩ := len2 hTl
    have hs1 : s.1 = [u0.2, u1.2] := hTr.symm
    have f19 : Fr w w19 [rIt eT 1 l11 2 [u0.1, u1.1], oIt .i32 eI u1.1 u1.2, oIt .i32 eI u0.1 u0.2, oIt .u8 eB z2 t.1, oIt .u8 eB z1 h.1, sIt m7 mc] := f19
    have hl0 : u0.2.length = nn.toNat := (hcl.2 _ (by rw [hs1]; exact List.mem_cons_self)).1
    have hl1 : u1.2.length = nn.toNat := (hcl.2 _ (by rw [hs1]; exact List.mem_cons_of_mem _ List.mem_cons_self)).1
    have hS := f19.row 0 rfl
    refine ⟨fun _ => True, fun w' => Ev w19 w', ⟨trivial, Ev.drew0 w19⟩, gIdx_1 hS (by decide) (by decide) fun ad0 v0 hv0 hc0 _ => gLoadB_v (fun w' hw => Ch.cell hw hc0 fun h => h) (gIdx_1 hS (by decide) (by decide) fun ad1 v1 hv1 hc1 _ => gLoadB_v (fun w' hw => Ch.cell hw hc1 fun h => h) ?_)⟩
    obtain rfl : u0.1 = v0 := by simpa using hv0
    obtain rfl : u1.1 = v1 := by simpa using hv1
    refine gCall_of (Unmid_any (f19.drew.nm 2 rfl) (f19.drew.nm 1 rfl) (by omega) (by omega)) ?_
    rintro _ w20 ⟨a, b, rfl, g20⟩
    have f20 := f19.drew.glue g20
    have oca : a.oneCell' = true ∧ a.cells = #[a] := by obtain ⟨p, c, rfl, _⟩ := (g20.nm 1 rfl).shape; exact ⟨rfl, rfl⟩
    have ocb : b.oneCell' = true ∧ b.cells = #[b] := by obtain ⟨p, c, rfl, _⟩ := (g20.nm 0 rfl).shape; exact ⟨rfl, rfl⟩
    have f20 : Fr w w20 [oIt .i32 eI b (rightL u0.2 u1.2), oIt .i32 eI a (leftL u0.2 u1.2), rIt eT 1 l11 2 [u0.1, u1.1], oIt .i32 eI u1.1 u1.2, oIt .i32 eI u0.1 u0.2, oIt .u8 eB z2 t.1, oIt .u8 eB z1 h.1, sIt m7 mc] := f20
    have o20 : w20.ownsRow 0 eT 1 l11 2 [u0.1, u1.1] := f20.get 2 rfl
    refine ⟨_, _, _, rfl, ⟨trivial, (Ev.drew0 w19).trans g20.old⟩, gIdx_r (j := 0) o20 rfl (by decide) fun ad2 hs2 => fStoreR1 f20 2 rfl hs2 (by decide) oca.1 oca.2 fun w21 f21 => ⟨trivial, ?_⟩⟩
    have f21 : Fr w w21 [oIt .i32 eI b (rightL u0.2 u1.2), oIt .i32 eI a (leftL u0.2 u1.2), rIt eT 1 l11 2 [a, u1.1], oIt .i32 eI u1.1 u1.2, oIt .i32 eI u0.1 u0.2, oIt .u8 eB z2 t.1, oIt .u8 eB z1 h.1, sIt m7 mc] := f21
    have o21 : w21.ownsRow 0 eT 1 l11 2 [a, u1.1] := f21.get 2 rfl
    refine gIdx_r (j := 1) o21 rfl (by decide) fun ad3 hs3 => fStoreR1 f21 2 rfl hs3 (by decide) ocb.1 ocb.2 fun w22 f22 => ⟨trivial, ?_⟩
    have f22 : Fr w w22 [oIt .i32 eI b (rightL u0.2 u1.2), oIt .i32 eI a (leftL u0.2 u1.2), rIt eT 1 l11 2 [a, b], oIt .i32 eI u1.1 u1.2, oIt .i32 eI u0.1 u0.2, oIt .u8 eB z2 t.1, oIt .u8 eB z1 h.1, sIt m7 mc] := f22
    have hlf2 : lf = [leftL u0.2 u1.2, rightL u0.2 u1.2] := by rw [hlf, if_pos hm1, hs1]; rfl
    refine ⟨[a, b], f22.row 2 rfl, by rw [hlf2]; rfl, fun i u ys hu hy => ?_, f22.dropN 5⟩
    rw [hlf2] at hy
    rcases i with _ | _ | i
    · simp at hu hy; subst hu; subst hy; exact f22.nm 1 rfl
    · simp at hu hy; subst hu; subst hy; exact f22.nm 0 rfl
    · simp at hu
  · obtain ⟨q1, q2, q3⟩ := trP_nm hTr f19
    have hlf2 : lf = s.1 := by rw [hlf, if_neg hm0]
    exact ⟨Tr.map (·.1), q1, by rw [hlf2]; exact q2, by rw [hlf2]; exact q3, fW⟩
  rintro _ w23 ⟨us, u1, u2, u3, f23⟩
  refine fLoad_i (n := bits) f23 2 1 rfl m1 ?_
  rw [hbs]
  refine gCall_of (Join_any (size := size) (n := nn.toNat) u1 u2 u3 (by omega) (by omega) hs12 hlen.2 (by omega)) ?_
  rintro _ w24 ⟨v24, rfl, h24, o24⟩
  have f24 := f23.newO h24 o24
  obtain ⟨jj, hjj⟩ : ∃ jj, jj = joinE size lf nn.toNat := ⟨_, rfl⟩
  have hjl : jj.1.length ≤ 20000000 := by
    rw [hjj]; unfold joinE
    split
    · dsimp only
      rw [join_len hs12]
      have h5 : lf.length * size ≤ 8 * 2 := Nat.mul_le_mul (by omega) (by omega)
      have h6 : nn.toNat * (lf.length * size) ≤ 1048576 * 16 := Nat.mul_le_mul (by omega) (by omega)
      omega
    · exact Nat.zero_le _
  rw [← hjj] at f24 hU ⊢
  refine ⟨_, _, rfl, gIf_neq (fun hne => err 4 f24.old (by rw [hU, if_pos hne])) (fun he0 => ?_)⟩
  rw [if_neg (fun h => h he0)] at hU
  have hhl : h.1.length ≤ xs.length := by rw [hh]; exact rawR_lx
  have htl : t.1.length ≤ xs.length := by rw [htt]; exact rawR_lx
  rw [hU]
  refine fApp f24 2 rfl (f24.nm 0 rfl) (by omega) fun b25 w25 f25 => ?_
  refine fApp f25 2 rfl (f25.nm 1 rfl) (by rw [List.length_append]; omega) fun b26 w26 f26 => ⟨b26, rfl, f26.old, f26.on 2 rfl⟩
end
end Go.Proofs.YtjmdoflcmipejaaV

/- What Unpack answers, of any bytes. -/
namespace Go.Proofs.YtjmdoflcmipejaaV
open Go Go.RowKit
theorem textR_erR {xs : List Int} {a : Nat} {er m : Int} (h : ErR er) : ErR (textR xs a er m).2.2 := by
  unfold textR
  dsimp only
  generalize (if 0 > m then 0 else m) = mm
  by_cases h0 : er ≠ 0
  · rw [if_pos h0]; exact h
  · rw [if_neg h0]
    have := rawR_erR (xs := xs) (a := (numR xs a er mm).2.1) (n := (numR xs a er mm).1) (numR_er (xs := xs) (a := a) (m := mm) h)
    split
    · exact this
    · exact this
theorem textR_er0 {xs : List Int} {a : Nat} {er m : Int} (h : (textR xs a er m).2.2 = 0) : er = 0 := by
  unfold textR at h
  dsimp only at h
  by_cases h0 : er ≠ 0
  · rw [if_pos h0] at h; exact absurd h h0
  · exact Decidable.byContradiction h0
theorem numR_er0 {xs : List Int} {a : Nat} {er m : Int} (h : (numR xs a er m).2.2 = 0) : er = 0 := by
  refine Decidable.byContradiction fun hn => hn ?_
  unfold numR at h
  rw [if_pos hn] at h; exact h
/-- The loop's fault is one of form or of an end; if there is none, there was none. -/
theorem chan_er {xs : List Int} {n : Int} {a0 : Nat} {er0 : Int} (h0 : ErR er0) : ∀ (j : Nat), (∀ e, chanN xs n a0 er0 j = .inr e → e = 3 ∨ e = 4) ∧ (∀ s, chanN xs n a0 er0 j = .inl s → ErR s.2.2 ∧ (1 ≤ j → er0 = 0 ∧ s.2.2 = 0))
  | 0 => by
    refine ⟨fun e h => ?_, fun s h => ?_⟩
    · rw [chanN] at h; cases h
    · rw [chanN] at h
      injection h with h
      subst h
      exact ⟨h0, fun h => by omega⟩
  | j + 1 => by
    have ih := chan_er h0 j (xs := xs) (n := n) (a0 := a0)
    refine ⟨fun e h => ?_, fun s h => ?_⟩
    · rw [chanN] at h
      split at h
      · rename_i e' he'
        injection h with h; subst h
        exact ih.1 _ he'
      · rename_i s' hs'
        have h1 := (ih.2 _ hs').1
        dsimp only at h
        split at h
        · rename_i hne
          injection h with h
          have h2 := textR_erR (xs := xs) (a := (numR xs s'.2.1 s'.2.2 18446744073709551615).2.1) (m := (xs.length : Int) - ((numR xs s'.2.1 s'.2.2 18446744073709551615).2.1 : Nat)) (numR_er (xs := xs) (a := s'.2.1) (m := 18446744073709551615) h1)
          rw [h] at h2 hne
          rcases h2 with h2 | h2 | h2
          · exact absurd h2 hne
          · exact .inl h2
          · exact .inr h2
        · split at h
          · injection h with h; exact .inr h.symm
          · cases h
    · rw [chanN] at h
      split at h
      · cases h
      · rename_i s' hs'
        have h1 := ih.2 _ hs'
        dsimp only at h
        split at h
        · cases h
        · rename_i hne
          split at h
          · cases h
          · injection h with h; subst h
            have he : (textR xs (numR xs s'.2.1 s'.2.2 18446744073709551615).2.1 (numR xs s'.2.1 s'.2.2 18446744073709551615).2.2 ((xs.length : Int) - ((numR xs s'.2.1 s'.2.2 18446744073709551615).2.1 : Nat))).2.2 = 0 := Decidable.byContradiction hne
            have h3 := numR_er0 (textR_er0 he)
            refine ⟨.inl he, fun _ => ⟨?_, he⟩⟩
            cases j with
            | zero => rw [chanN] at hs'; injection hs' with hs'; subst hs'; exact h3
            | succ j => exact (h1.2 (by omega)).1
theorem unpackA_total (xs : List Int) (most : Int) (hx : inR .u8 xs) (hun : ∀ (b : List Int) (n : Int), 0 ≤ n → n ≤ 1048576 → (unpE true b n).1.length ≤ 1048576 ∧ ((unpE true b n).2 = 0 → (unpE true b n).1.length = n.toNat)) :
    ((unpackA xs most).2 = 0 ∧ ((unpackA xs most).1.length : Int) ≤ (if 0 > most then 0 else most) ∧ (unpackA xs most).1.length ≤ 1048576) ∨ ((unpackA xs most).1 = [] ∧ ((unpackA xs most).2 = 3 ∨ (unpackA xs most).2 = 4 ∨ (unpackA xs most).2 = 5)) := by
  have hrg := numsN_rng hx 6
  have hnl := numsN_len xs 6
  have hr : ∀ j : Nat, j < 6 → 0 ≤ rd (numsN xs 6).1 (j : Int) ∧ rd (numsN xs 6).1 (j : Int) ≤ 1099511627776 := fun j hj => hrg _ (rd_mem (xs := (numsN xs 6).1) (i := (j : Int)) (by omega) (by omega))
  have e6 := numsN_er xs 6
  unfold unpackA
  dsimp only
  by_cases h0 : (numsN xs 6).2.2 ≠ 0
  · rw [if_pos h0]
    refine .inr ⟨rfl, ?_⟩
    rcases e6 with h | h | h
    · exact absurd h h0
    · exact .inl h
    · exact .inr (.inl h)
  rw [if_neg h0]
  by_cases h1 : rd (numsN xs 6).1 0 > (if 0 > most then 0 else most) ∨ rd (numsN xs 6).1 0 > 1048576
  · rw [if_pos h1]; exact .inr ⟨rfl, .inr (.inr rfl)⟩
  rw [if_neg h1]
  by_cases h2 : okX xs = false
  · rw [if_pos h2]; exact .inr ⟨rfl, .inr (.inl rfl)⟩
  rw [if_neg h2]
  have hokt : okX xs = true := by cases h : okX xs <;> simp_all
  have r0 := hr 0 (by omega)
  have r1 := hr 1 (by omega)
  have r2 := hr 2 (by omega)
  have r3 := hr 3 (by omega)
  have r4 := hr 4 (by omega)
  unfold okX at hokt
  simp only [show (((0 : Nat) : Int)) = 0 from rfl, show (((1 : Nat) : Int)) = 1 from rfl, show (((2 : Nat) : Int)) = 2 from rfl, show (((3 : Nat) : Int)) = 3 from rfl, show (((4 : Nat) : Int)) = 4 from rfl] at r0 r1 r2 r3 r4
  generalize rd (numsN xs 6).1 0 = n at *
  generalize rd (numsN xs 6).1 1 = Fm at *
  generalize rd (numsN xs 6).1 2 = T at *
  generalize rd (numsN xs 6).1 3 = ch at *
  generalize rd (numsN xs 6).1 4 = bits at *
  generalize rd (numsN xs 6).1 5 = mid at *
  obtain ⟨⟨c1, c8⟩, hbits, hmid, hmid2, hFT, hTn, hdiv⟩ := of_decide_eq_true hokt
  obtain ⟨size, hs12, hbs⟩ : ∃ size : Nat, (size = 1 ∨ size = 2) ∧ bits = ((8 * size : Nat) : Int) := by
    rcases hbits with e | e
    · exact ⟨1, .inl rfl, e⟩
    · exact ⟨2, .inr rfl, e⟩
  have hsz : (bits / 8).toNat = size := by omega
  have hfr : ch * bits / 8 = ((ch.toNat * size : Nat) : Int) := by
    rw [hbs]
    rcases hs12 with rfl | rfl
    · show ch * 8 / 8 = ((ch.toNat * 1 : Nat) : Int); omega
    · show ch * 16 / 8 = ((ch.toNat * 2 : Nat) : Int); omega
  have hm1 : 1 ≤ ch * bits / 8 := by rcases hbits with e | e <;> rw [e] <;> omega
  obtain ⟨h, hh⟩ : ∃ h, h = rawR xs (numsN xs 6).2.1 0 Fm := ⟨_, rfl⟩
  obtain ⟨t, htt⟩ : ∃ t, t = rawR xs h.2.1 h.2.2 (n - T) := ⟨_, rfl⟩
  rw [← hh, ← htt]
  have hq0 : 0 ≤ (T - Fm) / (ch * bits / 8) := Int.ediv_nonneg (by omega) (by omega)
  have hq1 : (T - Fm) / (ch * bits / 8) ≤ T - Fm := Int.ediv_le_self _ (by omega)
  have hq2 : (T - Fm) / (ch * bits / 8) * (ch * bits / 8) = T - Fm := Int.ediv_mul_cancel (Int.dvd_of_emod_eq_zero hdiv)
  generalize hnn : (T - Fm) / (ch * bits / 8) = nn at *
  have heh : ErR h.2.2 := by rw [hh]; exact rawR_erR (.inl rfl)
  have het : ErR t.2.2 := by rw [htt]; exact rawR_erR heh
  have hce := chan_er (xs := xs) (n := nn) (a0 := t.2.1) het ch.toNat
  cases hC : chanN xs nn t.2.1 t.2.2 ch.toNat with
  | inr e =>
    refine .inr ⟨rfl, ?_⟩
    rcases hce.1 e hC with h | h
    · exact .inl h
    · exact .inr (.inl h)
  | inl s =>
    have hs := hce.2 s hC
    have hcl := chan_len (fun b hb0 => (hun b nn hq0 (by omega)).2 hb0) ch.toNat hC
    dsimp only
    unfold endU
    by_cases he : endR xs.length s.2.1 s.2.2 ≠ 0
    · rw [if_pos he]
      refine .inr ⟨rfl, ?_⟩
      rcases endR_er (n := xs.length) (a := s.2.1) hs.1 with h | h | h
      · exact absurd h he
      · exact .inl h
      · exact .inr (.inl h)
    rw [if_neg he]
    dsimp only
    obtain ⟨lf, hlf⟩ : ∃ lf, lf = if mid = 1 then [leftL (s.1.getD 0 []) (s.1.getD 1 []), rightL (s.1.getD 0 []) (s.1.getD 1 [])] else s.1 := ⟨_, rfl⟩
    rw [← hlf, hsz]
    have hlfl : lf.length = ch.toNat := by
      rw [hlf]; split
      · rename_i hm; simp; omega
      · exact hcl.1
    unfold joinE
    split
    · rw [if_neg (fun hh => hh rfl)]
      have ht0 := (hs.2 (by omega)).1
      obtain ⟨k1, k2⟩ := rawR_0 (xs := xs) (a := h.2.1) (er := h.2.2) (n := n - T) (by omega) (by rw [← htt]; exact ht0)
      obtain ⟨k3, _⟩ := rawR_0 (xs := xs) (a := (numsN xs 6).2.1) (er := 0) (n := Fm) (by omega) (by rw [← hh]; exact k2)
      rw [← htt] at k1
      rw [← hh] at k3
      have hj := join_len hs12 lf nn.toNat
      rw [hlfl] at hj
      have hj2 : ((nn.toNat * (ch.toNat * size) : Nat) : Int) = T - Fm := by
        rw [Int.natCast_mul, Int.toNat_of_nonneg hq0, ← hfr]; exact hq2
      refine .inl ⟨rfl, ?_, ?_⟩
      · dsimp only; rw [List.length_append, List.length_append, k1, k3, hj]; omega
      · dsimp only; rw [List.length_append, List.length_append, k1, k3, hj]; omega
    · rw [if_pos (by decide)]; exact .inr ⟨rfl, .inr (.inl rfl)⟩
end Go.Proofs.YtjmdoflcmipejaaV

/- The document's answer: where a WAV's samples are. -/
namespace Go.Proofs.YtjmdoflcmipejaaV
open Go Go.RowKit
theorem goW_out {xs : List Int} {f a : Nat} {has pcm : Bool} {ch bits : Int} (h : xs.length < a + 8) : goW xs f a has pcm ch bits = noW := by
  cases f with
  | zero => rfl
  | succ f => rw [goW, if_pos h]
/-- What comes of a chunk, has it been looked at for measures. -/
def restW (xs : List Int) (f a : Nat) (has pcm : Bool) (ch bits : Int) : Wv × Bool :=
  if nameW xs a = datN ∧ has = true then foundW xs a pcm ch bits else goW xs f (a + 8 + skipW xs a) has pcm ch bits
theorem goW_rest {xs : List Int} {f a : Nat} {has pcm : Bool} {ch bits : Int} (h : a + 8 ≤ xs.length) :
    goW xs (f + 1) a has pcm ch bits = if isFmt xs a has then restW xs f a true (decide (fldW xs (a + 8) 2 = 1)) (fldW xs (a + 10) 2) (fldW xs (a + 22) 2) else restW xs f a has pcm ch bits := by
  rw [goW, if_neg (by omega)]
  unfold restW
  by_cases hf : isFmt xs a has
  · have hn : ¬ (nameW xs a = datN ∧ true = true) := fun hh => absurd (hh.1.symm.trans hf.1) (by decide)
    rw [if_pos hf, if_pos hf, if_neg hn]
    split
    · rw [goW_out (by omega)]
    · rfl
  · rw [if_neg hf, if_neg hf]
    split
    · rfl
    · split
      · rw [goW_out (by omega)]
      · rfl
section
variable {w : World} {xs : List Int} {b : Value}
theorem little13_any {a n : Nat} (hb : Nm .u8 w b xs) (hl : xs.length ≤ 1000000000) (h : a + n ≤ xs.length) (hn : n ≤ 4) : Calls P n_valiseref13_little #[b, .int .i64 (a : Int), .int .i64 (n : Int)] w (fun e w' => e = .returned (.int .i64 (fldW xs a n)) ∧ Ev w w') := by
  have i1 : i64 ((a : Int) + (n : Int)) = ((a + n : Nat) : Int) := by rw [i64_id (by omega) (by omega)]; omega
  refine of_valiseref13_little ?_
  rw [i1]
  refine gSlice_nm hb a (a + n) (.inr ⟨_, rfl⟩) (.inr ⟨_, rfl⟩) (by omega) h fun hs => ?_
  rw [Nat.add_sub_cancel_left] at hs
  have hsl : ((xs.drop a).take n).length = n := by rw [List.length_take, List.length_drop]; omega
  refine frNew (Fr.start w) hs (by omega) fun ad y w1 f1 => ?_
  have hr := rrLittle_any (n := (n : Int)) (f1.rd 0 1 rfl rfl (by decide) (a := 0) (Nat.zero_le _) (by omega))
  rw [if_neg (show ¬ ((8 : Int) < (n : Int)) by omega), rawR_at (by omega)] at hr
  refine gCall_i hr fun w2 h2 => ?_
  have f2 := f1.rs (a := 0) 0 rfl h2
  have hr := fldW_rg hb.2 a n hn
  have e : leN ((((xs.drop a).take n).drop 0).take n) = fldW xs a n := by rw [List.drop_zero, List.take_take, Nat.min_self]; rfl
  refine ⟨?_, f2.old⟩
  dsimp only
  rw [e, i64_id (by omega) (by omega)]
theorem rwParse_any (hb : Nm .u8 w b xs) (hl : xs.length ≤ 1000000000) : Calls P n_valiseref13_Parse #[b] w (WavE w (parseW xs)) := by
  have hx := hb.2
  refine of_valiseref13_Parse (fWvNew (Fr.start w) fun t2 w1 f1 => ?_)
  have hb1 := hb.ev f1.old
  have hn0 : inR .u8 (nameW xs 0) := (hb.2.drop _).take _
  have hn8 : inR .u8 (nameW xs 8) := (hb.2.drop _).take _
  refine ⟨fun w' => ¬ (xs.length < 12 ∨ nameW xs 0 ≠ riffN ∨ nameW xs 8 ≠ waveN) ∧ w' = w1, gLen_nm hb1 (gIf_ndec (fun h12 => ?_) (fun hlt => ?_)), ?_⟩
  · refine gSlice_nm hb1 0 4 (.inl ⟨rfl, rfl⟩) (.inr ⟨_, rfl⟩) (by omega) (by omega) fun hs => gConv_bs hs ?_
    rw [show ((bsOf ((xs.drop 0).take (4 - 0))).toList == (ByteArray.mk #[82, 73, 70, 70]).toList) = decide (nameW xs 0 = riffN) from riff_eq hn0]
    refine gIf_nndec (fun hr => gSlice_nm hb1 8 12 (.inr ⟨_, rfl⟩) (.inr ⟨_, rfl⟩) (by omega) (by omega) fun hs2 => gConv_bs hs2 ?_) (fun hr => ?_)
    · rw [show ((bsOf ((xs.drop 8).take (12 - 8))).toList == (ByteArray.mk #[87, 65, 86, 69]).toList) = decide (nameW xs 8 = waveN) from wave_eq hn8]
      refine gIf_ndec (fun hw => ?_) (fun hw => ⟨fun hh => ?_, rfl⟩)
      · exact fWvEnd (r := noW) f1 0 rfl rfl (by unfold parseW; rw [if_pos (.inr (.inr hw))])
      · rcases hh with hh | hh | hh
        · omega
        · exact hh hr
        · exact hh hw
    · exact fWvEnd (r := noW) f1 0 rfl rfl (by unfold parseW; rw [if_pos (.inr (.inl hr))])
  · exact fWvEnd (r := noW) f1 0 rfl rfl (by unfold parseW; rw [if_pos (.inl (by omega))])
  rintro _ w7 ⟨hok, hw7⟩
  obtain rfl : w1 = w7 := hw7.symm
  have hp0 : parseW xs = goW xs (xs.length + 1) 12 false false 0 0 := by unfold parseW; rw [if_neg hok]
  refine fWvNew f1 fun w4 w8 f8 => ?_
  refine ⟨fun has fmt at' w' => ∃ (f a : Nat) (ch bits : Int), at' = (a : Int) ∧ a ≤ 10000000000 ∧ (0 ≤ ch ∧ ch < 65536) ∧ (0 ≤ bits ∧ bits < 65536) ∧ parseW xs = goW xs f a has (decide (fmt = 1)) ch bits ∧ xs.length < f + a ∧ Fr w w' [sIt w4 (Wv.mk ch bits 0 0).c, sIt t2 Wv.z.c], fun _ _ at' _ => (xs.length + 1 - at').toNat, ⟨xs.length + 1, 12, 0, 0, rfl, by omega, by omega, by omega, hp0, by omega, f8⟩, ?_⟩
  rintro _ has fmt at' w9 ⟨f, a, ch, bits, rfl, ha, hch, hbits, hp, hfu, f9⟩
  have i8 : i64 ((a : Int) + 8) = ((a + 8 : Nat) : Int) := by rw [i64_id (by omega) (by omega)]; rfl
  have i4 : i64 ((a : Int) + 4) = ((a + 4 : Nat) : Int) := by rw [i64_id (by omega) (by omega)]; rfl
  rw [i8]
  refine gLen_nm (hb.ev f9.old) (gIf_dec (fun hge => ?_) (fun hlt => ?_))
  rotate_left
  · exact fWvEnd (r := noW) f9 1 rfl rfl (by rw [hp, goW_out (by omega)])
  have hge : a + 8 ≤ xs.length := by omega
  obtain ⟨f, rfl⟩ : ∃ f', f = f' + 1 := ⟨f - 1, by omega⟩
  rw [goW_rest hge] at hp
  have hnm : inR .u8 (nameW xs a) := (hx.drop _).take _
  have hsr := fldW_rg hx (a + 4) 4 (by omega)
  have hsz : fldW xs (a + 4) 4 = ((sizeW xs a : Nat) : Int) := by unfold sizeW; omega
  have i24 : i64 (((a + 8 : Nat) : Int) + 16) = ((a + 24 : Nat) : Int) := by rw [i64_id (by omega) (by omega)]; omega
  have i10 : i64 (((a + 8 : Nat) : Int) + 2) = ((a + 10 : Nat) : Int) := by rw [i64_id (by omega) (by omega)]; omega
  have i22 : i64 (((a + 8 : Nat) : Int) + 14) = ((a + 22 : Nat) : Int) := by rw [i64_id (by omega) (by omega)]; omega
  have hnext : i64 (i64 (((a + 8 : Nat) : Int) + ((sizeW xs a : Nat) : Int)) + Int.tmod ((sizeW xs a : Nat) : Int) 2) = ((a + 8 + skipW xs a : Nat) : Int) := by
    rw [i64_id (n := ((a + 8 : Nat) : Int) + ((sizeW xs a : Nat) : Int)) (by omega) (by omega), Int.tmod_eq_emod_of_nonneg (by omega), i64_id (by omega) (by omega)]
    unfold skipW; omega
  have hlit := fun {w' : World} (he : Ev w w') => little13_any (hb.ev he) hl (a := a + 4) (n := 4) (by omega) (by omega)
  rw [hsz] at hlit
  rw [i4]
  refine ⟨fun _ => True, trivial, gSlice_nm (hb.ev f9.drew.old) a (a + 4) (.inr ⟨_, rfl⟩) (.inr ⟨_, rfl⟩) (by omega) (by omega) fun hs => ?_⟩
  rw [Nat.add_sub_cancel_left] at hs
  refine ⟨gConv_bs hs ⟨trivial, gCall_i (hlit f9.drew.old) fun w11 h11 => ⟨trivial, ?_⟩⟩, gCall_i (hlit f9.drew.old) fun w11 h11 => ⟨trivial, gConv_bs (hs.ev h11) ⟨trivial, ?_⟩⟩⟩
  all_goals
    have g := f9.drew.ev h11
    rw [i24, i10, i22, hnext]
    rw [show ((bsOf ((xs.drop a).take 4)).toList == (ByteArray.mk #[102, 109, 116, 32]).toList) = decide (nameW xs a = fmtN) from fmt_eq hnm, show ((bsOf ((xs.drop a).take 4)).toList == (ByteArray.mk #[100, 97, 116, 97]).toList) = decide (nameW xs a = datN) from dat_eq hnm]
    refine ⟨fun has' fmt' w' => ∃ ch' bits' : Int, (0 ≤ ch' ∧ ch' < 65536) ∧ (0 ≤ bits' ∧ bits' < 65536) ∧ parseW xs = restW xs f a has' (decide (fmt' = 1)) ch' bits' ∧ Fr w w' [sIt w4 (Wv.mk ch' bits' 0 0).c, sIt t2 Wv.z.c], ⟨fun t w' => w' = w11 ∧ t = decide (isFmt xs a has), ?_, ?_⟩, ?_⟩
    · refine gIf_dec (fun h1 => gIf_nb (fun h2 => gIf_dec (fun h3 => gLen_nm (hb.ev g.old) ⟨rfl, ?_⟩) (fun h3 => ⟨rfl, ?_⟩)) (fun h2 => ⟨rfl, ?_⟩)) (fun h1 => ⟨rfl, ?_⟩)
      · rw [decide_eq_decide]; unfold isFmt
        exact ⟨fun h4 => ⟨h1, h2, by omega, by omega⟩, fun h4 => by omega⟩
      · rw [decide_eq_false]; unfold isFmt; omega
      · rw [decide_eq_false]; unfold isFmt; rw [h2]; simp
      · rw [decide_eq_false]; unfold isFmt; exact fun hh => h1 hh.1
    · rintro _ t w15 ⟨hw15, ht⟩
      obtain rfl : w11 = w15 := hw15.symm
      subst ht
      refine gIf_dec (fun hf => ?_) (fun hf => ⟨ch, bits, hch, hbits, by rw [hp, if_neg hf], g⟩)
      rw [if_pos hf] at hp
      obtain ⟨_, _, _, h24⟩ := id hf
      have r1 := fldW2_rg hx (a + 10)
      have r2 := fldW2_rg hx (a + 22)
      refine gCall_i (little13_any (hb.ev g.old) hl (a := a + 8) (n := 2) (by omega) (by omega)) fun w12 h12 => gCall_i (little13_any (hb.ev (g.ev h12).old) hl (a := a + 10) (n := 2) (by omega) (by omega)) fun w13 h13 => gCall_i (little13_any (hb.ev ((g.ev h12).ev h13).old) hl (a := a + 22) (n := 2) (by omega) (by omega)) fun w14 h14 => ?_
      have g14 := ((g.ev h12).ev h13).ev h14
      refine fStore g14 0 0 rfl fun w16 g16 => ?_
      have g16 : Fr w w16 [sIt w4 (Wv.mk (fldW xs (a + 10) 2) bits 0 0).c, sIt t2 Wv.z.c] := g16
      exact fStore g16 0 1 rfl fun w17 g17 => ⟨fldW xs (a + 10) 2, fldW xs (a + 22) 2, r1, r2, hp, g17⟩
    · rintro _ has' fmt' w18 ⟨ch', bits', hch', hbits', hp', g'⟩
      unfold restW at hp'
      refine ⟨fun t w' => w' = w18 ∧ t = decide (nameW xs a = datN ∧ has' = true), gIf_dec (fun h1 => ⟨rfl, ?_⟩) (fun h1 => ⟨rfl, ?_⟩), ?_⟩
      · cases has' with
        | true => rw [decide_eq_true ⟨h1, rfl⟩]
        | false => rw [decide_eq_false (by simp)]
      · rw [decide_eq_false (fun hh => h1 hh.1)]
      rintro _ t w19 ⟨hw19, ht⟩
      obtain rfl : w18 = w19 := hw19.symm
      subst ht
      refine gIf_dec (fun hd => ?_) (fun hd => ?_)
      · rw [if_pos hd] at hp'
        have no : ¬ (decide (fmt' = 1) = true ∧ frameW ch' bits' ≠ 0 ∧ ¬ ((minW xs a : Int) < frameW ch' bits')) → parseW xs = noW := fun h => by rw [hp']; unfold foundW; rw [if_neg h]
        have bad : ¬ (fmt' = 1 ∧ frameW ch' bits' ≠ 0) → parseW xs = noW := fun h => no fun hh => h ⟨by simpa using hh.1, hh.2.1⟩
        have fz : (ch' < 1 ∨ ch' > 8 ∨ (bits' ≠ 8 ∧ bits' ≠ 16)) → frameW ch' bits' = 0 := fun h => by unfold frameW; rw [if_pos h]
        refine ⟨fun w' => (fmt' = 1 ∧ ¬ (ch' < 1 ∨ ch' > 8 ∨ (bits' ≠ 8 ∧ bits' ≠ 16))) ∧ w' = w18, gIf_nneq (fun h1 => fLoad_i (n := ch') g' 0 0 rfl rfl (gIf_ndec (fun h2 => fLoad_i (n := ch') g' 0 0 rfl rfl (gIf_ndec (fun h3 => fLoad_i (n := bits') g' 0 1 rfl rfl (gIf_neq (fun h4 => fLoad_i (n := bits') g' 0 1 rfl rfl (gIf_neq (fun h5 => ?_) (fun h5 => ⟨⟨h1, by omega⟩, rfl⟩))) (fun h4 => ⟨⟨h1, by omega⟩, rfl⟩))) (fun h3 => ?_))) (fun h2 => ?_))) (fun h1 => ?_), ?_⟩
        · exact fWvEnd (r := noW) g' 1 rfl rfl (by rw [bad fun hh => hh.2 (fz (by omega))])
        · exact fWvEnd (r := noW) g' 1 rfl rfl (by rw [bad fun hh => hh.2 (fz (by omega))])
        · exact fWvEnd (r := noW) g' 1 rfl rfl (by rw [bad fun hh => hh.2 (fz (by omega))])
        · exact fWvEnd (r := noW) g' 1 rfl rfl (by rw [bad fun hh => h1 hh.1])
        rintro _ w24 ⟨⟨hf1, hok2⟩, hw24⟩
        obtain rfl : w18 = w24 := hw24.symm
        have hfe : frameW ch' bits' = ch' * bits' / 8 := by unfold frameW; rw [if_neg hok2]
        have hbb : bits' = 8 ∨ bits' = 16 := by omega
        have hm8 : i64 (Int.tdiv (i64 (ch' * bits')) 8) = frameW ch' bits' := by
          rw [hfe]
          rcases hbb with e | e <;> subst e
          · rw [i64_id (n := ch' * 8) (by omega) (by omega), Int.tdiv_eq_ediv_of_nonneg (by omega), i64_id (by omega) (by omega)]
          · rw [i64_id (n := ch' * 16) (by omega) (by omega), Int.tdiv_eq_ediv_of_nonneg (by omega), i64_id (by omega) (by omega)]
        have hfr1 : 1 ≤ frameW ch' bits' ∧ frameW ch' bits' ≤ 16 := by
          rw [hfe]
          rcases hbb with e | e <;> subst e <;> omega
        obtain ⟨fr, hfr⟩ : ∃ fr, fr = frameW ch' bits' := ⟨_, rfl⟩
        rw [← hfr] at hfr1
        refine fLoad_i (n := ch') g' 0 0 rfl rfl (fLoad_i (n := bits') g' 0 1 rfl rfl (gLen_nm (hb.ev g'.old) ?_))
        rw [hm8, ← hfr]
        have hmin : (if i64 ((xs.length : Int) - ((a + 8 : Nat) : Int)) < ((sizeW xs a : Nat) : Int) then i64 ((xs.length : Int) - ((a + 8 : Nat) : Int)) else ((sizeW xs a : Nat) : Int)) = ((minW xs a : Nat) : Int) := by
          rw [i64_id (n := (xs.length : Int) - ((a + 8 : Nat) : Int)) (by omega) (by omega)]
          unfold minW; split <;> split <;> omega
        have hmle : minW xs a ≤ xs.length - (a + 8) := by unfold minW; split <;> omega
        rw [hmin]
        refine gBin_quo (by omega) ?_
        have h7 : (minW xs a : Int) / fr * fr ≤ (minW xs a : Int) := Int.ediv_mul_le _ (by omega)
        have h8 : 0 ≤ (minW xs a : Int) / fr := Int.ediv_nonneg (by omega) (by omega)
        have h9 : 0 ≤ (minW xs a : Int) / fr * fr := Int.mul_nonneg h8 (by omega)
        have h10 : (minW xs a : Int) / fr ≤ (minW xs a : Int) := Int.ediv_le_self _ (by omega)
        rw [Int.tdiv_eq_ediv_of_nonneg (by omega), wrap_i64, i64_id (n := (minW xs a : Int) / fr) (by omega) (by omega), i64_id (n := (minW xs a : Int) / fr * fr) (by omega) (by omega), i64_id (n := ((a + 8 : Nat) : Int) + (minW xs a : Int) / fr * fr) (by omega) (by omega)]
        refine gIf_dec (fun hlt => ?_) (fun hge1 => ?_)
        · refine fWvEnd (r := noW) g' 1 rfl rfl ?_
          rw [no fun hh => ?_]
          have h11 : 1 ≤ (minW xs a : Int) / fr := Int.le_ediv_of_mul_le (by omega) (by rw [hfr]; omega)
          have h12 : 1 * 1 ≤ (minW xs a : Int) / fr * fr := Int.mul_le_mul h11 hfr1.1 (by omega) (by omega)
          omega
        · have hfound : parseW xs = (⟨ch', bits', ((a + 8 : Nat) : Int), ((a + 8 : Nat) : Int) + (minW xs a : Int) / fr * fr⟩, true) := by
            have hnl : ¬ ((minW xs a : Int) < frameW ch' bits') := fun hh => by
              rw [← hfr] at hh
              rw [Int.ediv_eq_zero_of_lt (by omega) hh] at hge1
              omega
            have hd1 : decide (fmt' = 1) = true := decide_eq_true hf1
            have hne : frameW ch' bits' ≠ 0 := by omega
            rw [hp']; unfold foundW
            rw [if_pos ⟨hd1, hne, hnl⟩, hfr]
          refine fStore g' 0 2 rfl fun w26 g26 => fStore g26 0 3 rfl fun w27 g27 => ?_
          have g27 : Fr w w27 [sIt w4 (Wv.mk ch' bits' ((a + 8 : Nat) : Int) (((a + 8 : Nat) : Int) + (minW xs a : Int) / fr * fr)).c, sIt t2 Wv.z.c] := g27
          refine fWv (Wv.mk ch' bits' ((a + 8 : Nat) : Int) (((a + 8 : Nat) : Int) + (minW xs a : Int) / fr * fr)) g27 0 rfl ?_
          exact fWvEnd (r := (⟨ch', bits', ((a + 8 : Nat) : Int), ((a + 8 : Nat) : Int) + (minW xs a : Int) / fr * fr⟩, true)) g27 1 rfl rfl (by rw [hfound])
      · rw [if_neg hd] at hp'
        exact ⟨⟨f, a + 8 + skipW xs a, ch', bits', rfl, by unfold skipW; omega, hch', hbits', hp', by omega, g'⟩, by dsimp only; omega⟩
end
end Go.Proofs.YtjmdoflcmipejaaV

/- The document's answer: a file of samples. -/
namespace Go.Proofs.YtjmdoflcmipejaaV
open Go Go.RowKit
def hdW (ch bits : Int) (n : Nat) : List Int :=
  riffN ++ littleB (36 + (n : Int)) 4 ++ (waveN ++ fmtN) ++ littleB 16 4 ++ littleB 1 2 ++ littleB ch 2 ++ littleB 8000 4 ++ littleB (8000 * (ch * bits / 8)) 4 ++ littleB (ch * bits / 8) 2 ++ littleB bits 2 ++ datN ++ littleB (n : Int) 4
theorem hdW_len (ch bits : Int) (n : Nat) : (hdW ch bits n).length = 44 := by
  unfold hdW
  simp only [List.length_append, littleB_len]; rfl
def makeW (ch bits : Int) (ss : List Int) : List Int := hdW ch bits ss.length ++ ss
section
variable {w0 w : World} {F : List It}
theorem CopyBytesA_any {b : Value} {xs : List Int} (hb : Nm .u8 w b xs) (hl : xs.length ≤ 10000000000000) : Calls P n_valisehelp_CopyBytes #[b] w (NewB w xs) :=
  of_valisehelp_CopyBytes (fApp0 (Fr.start w) hb (by omega) fun v w' f => ⟨v, rfl, f.old, f.on 0 rfl⟩)
theorem fLitW {out : Value} {xs : List Int} {v n : Int} (k : Nat) {K : Value → World → Prop} (f : Fr w0 w (oIt .u8 eB out xs :: F)) (hv : 0 ≤ v) (hk : clN n = k) (hl : xs.length + k ≤ 1000000) (hK : ∀ out' w', Fr w0 w' (oIt .u8 eB out' (xs ++ littleB v k) :: F) → K out' w') :
    gCall P n_valiseref02_Little shV #[.int .u64 v, .int .i64 n] w fun t ww => gApp P #[t_sl_uint8, t_sl_uint8] t_sl_uint8 #[out, t] ww K := by
  refine gCall_of (rfLittle_any (n := n) hv) ?_
  rw [hk]
  rintro _ w' ⟨t, rfl, h, ho⟩
  exact ⟨t, rfl, fApp (f.ev h) 0 rfl ho.nm (by rw [littleB_len]; omega) fun v' w2 f2 => hK v' w2 f2⟩
theorem rwMake_any {ch bits p q : Int} {s0 : Value} {ss : List Int} (hs : Nm .u8 w s0 ss) (hl : ss.length ≤ 100000000) (hc : 1 ≤ ch ∧ ch ≤ 8) (hb : bits = 8 ∨ bits = 16) : Calls P n_valiseref13_Make #[.agg #[.int .i64 ch, .int .i64 bits, .int .i64 p, .int .i64 q], s0] w (NewB w (makeW ch bits ss)) := by
  refine of_valiseref13_Make (fBox (Fr.start w) fun w2 w1 f1 => ?_)
  have f1 : Fr w w1 [sIt w2 (Wv.mk ch bits p q).c] := f1
  refine ⟨fun w' => w' = w1, fLoad_i (n := ch) f1 0 0 rfl rfl (gIf_ndec (fun _ => fLoad_i (n := ch) f1 0 0 rfl rfl (gIf_ndec (fun _ => fLoad_i (n := bits) f1 0 1 rfl rfl (gIf_neq (fun _ => fLoad_i (n := bits) f1 0 1 rfl rfl (gIf_neq (fun _ => by omega) (fun _ => rfl))) (fun _ => rfl))) (fun _ => by omega))) (fun _ => by omega)), ?_⟩
  rintro _ w3 hw3
  obtain rfl : w1 = w3 := hw3.symm
  have hfr : i64 (Int.tdiv (i64 (ch * bits)) 8) = ch * bits / 8 := by
    rcases hb with rfl | rfl
    · rw [i64_id (n := ch * 8) (by omega) (by omega), Int.tdiv_eq_ediv_of_nonneg (by omega), i64_id (by omega) (by omega)]
    · rw [i64_id (n := ch * 16) (by omega) (by omega), Int.tdiv_eq_ediv_of_nonneg (by omega), i64_id (by omega) (by omega)]
  have hfr2 : 0 ≤ ch * bits / 8 ∧ ch * bits / 8 ≤ 16 := by rcases hb with rfl | rfl <;> omega
  refine gLen_nm (hs.ev f1.old) (fLoad_i (n := ch) f1 0 0 rfl rfl (fLoad_i (n := bits) f1 0 1 rfl rfl ?_))
  have u1 : u64 (36 + u64 ((ss.length : Nat) : Int)) = 36 + (ss.length : Int) := by rw [u64_def, u64_def]; omega
  have u2 : u64 ((ss.length : Nat) : Int) = (ss.length : Int) := by rw [u64_def]; omega
  have u3 : u64 (ch * bits / 8) = ch * bits / 8 := by rw [u64_def]; omega
  have u4 : u64 (8000 * (ch * bits / 8)) = 8000 * (ch * bits / 8) := by rw [u64_def]; omega
  rw [hfr, u1, u2, u3, u4]
  refine fLitC riffN f1 rfl rfl riff_in fun v w4 f4 => ?_
  have c4 : clN 4 = 4 := by decide
  have c2 : clN 2 = 2 := by decide
  have hu36 : 0 ≤ 36 + (ss.length : Int) := by omega
  refine gCall_of (rfLittle_any (n := 4) hu36) ?_
  rw [c4]
  rintro _ w5 ⟨t41, rfl, h5, o5⟩
  refine ⟨t41, rfl, fAppC (f4.ev h5) 0 rfl o5.nm (fun h => by have := congrArg List.length h; rw [littleB_len] at this; simp at this) (by rw [littleB_len]; decide) fun b1 w6 f6 => ?_⟩
  have f6 : Fr w w6 [oIt .u8 eB b1 (riffN ++ littleB (36 + (ss.length : Int)) 4), sIt w2 (Wv.mk ch bits p q).c] := f6.drop 1
  refine fAppS f6 0 rfl (by rw [List.length_append, littleB_len]; decide) fun b2 w7 f7 => ?_
  have f7 : Fr w w7 [oIt .u8 eB b2 (riffN ++ littleB (36 + (ss.length : Int)) 4 ++ (waveN ++ fmtN)), sIt w2 (Wv.mk ch bits p q).c] := f7
  refine fLitW 4 f7 (by decide) c4 (by simp only [List.length_append, littleB_len]; decide) fun b3 w8 f8 => fLitW 2 f8 (by decide) c2 (by simp only [List.length_append, littleB_len]; decide) fun b4 w9 f9 => fLoad_i (n := ch) f9 1 0 rfl rfl ?_
  rw [show u64 ch = ch by rw [u64_def]; omega]
  refine fLitW 2 f9 (by omega) c2 (by simp only [List.length_append, littleB_len]; decide) fun b5 w10 f10 => fLitW 4 f10 (by decide) c4 (by simp only [List.length_append, littleB_len]; decide) fun b6 w11 f11 => fLitW 4 f11 (by omega) c4 (by simp only [List.length_append, littleB_len]; decide) fun b7 w12 f12 => fLitW 2 f12 (by omega) c2 (by simp only [List.length_append, littleB_len]; decide) fun b8 w13 f13 => fLoad_i (n := bits) f13 1 1 rfl rfl ?_
  rw [show u64 bits = bits by rw [u64_def]; omega]
  refine fLitW 2 f13 (by omega) c2 (by simp only [List.length_append, littleB_len]; decide) fun b9 w14 f14 => fAppS f14 0 rfl (by simp only [List.length_append, littleB_len]; decide) fun b10 w15 f15 => ?_
  refine fLitW 4 f15 (by omega) c4 (by simp only [List.length_append, littleB_len]; decide) fun b11 w16 f16 => ?_
  have f16 : Fr w w16 [oIt .u8 eB b11 (hdW ch bits ss.length), sIt w2 (Wv.mk ch bits p q).c] := f16
  refine gCall_of (CopyBytesA_any (hs.ev f16.old) (by omega)) ?_
  rintro _ w17 ⟨t83, rfl, h17, o17⟩
  refine ⟨t83, rfl, fApp (f16.ev h17) 0 rfl o17.nm (by rw [hdW_len]; omega) fun v' w18 f18 => ⟨v', rfl, f18.old, f18.on 0 rfl⟩⟩
end
end Go.Proofs.YtjmdoflcmipejaaV

/- Packages valiseref01 (the writer) and valiseref10: what their calls do. -/
namespace Go.Proofs.YtjmdoflcmipejaaV
open Go Go.RowKit
/-! ### valiseref01: a list of zeros and ones -/
section
variable {ad : Addr} {v : Value} {bs : List Int} {w : World}
theorem in01 {b : Int} (h : b = 0 ∨ b = 1) : inR .u8 [b] := fun x hx => by
  simp at hx; subst hx
  rcases h with rfl | rfl <;> decide
theorem and1' {x : Int} (h : 0 ≤ x ∧ x < 4294967296) : u8 (iAnd .u32 x 1) = x % 2 := by
  have := iAnd_mask (k := .u32) (a := x) (m := 1) (n := 1) rfl h.1 (by rw [show (2 : Int) ^ IntKind.u32.bits = 4294967296 by decide]; omega) rfl (by decide)
  rw [show ((1 : Nat) : Int) = 1 from rfl] at this
  rw [this, show ((2 ^ 1 : Nat) : Int) = 2 from rfl, u8_def]; omega
theorem cl4096b (n : Int) : (if (if 4096 < n then 4096 else n) > 0 then (if 4096 < n then 4096 else n) else 0) = (cl4096 n : Int) := by unfold cl4096; split <;> split <;> omega
theorem set_rd {xs : List Int} {i : Nat} (h : i < xs.length) : xs.set i (rd xs i) = xs := by
  refine List.ext_getElem (by simp) fun j h1 h2 => ?_
  rw [List.getElem_set]
  split
  · rename_i e; subst e; rw [rd_nat xs _ h]
  · rfl
theorem iOr_zero {a : Int} (h : 0 ≤ a ∧ a < 256) : iOr .u8 a 0 = a := by
  obtain ⟨a, rfl⟩ := Int.eq_ofNat_of_zero_le h.1
  have := iOr_nat (k := .u8) rfl (a := a) (b := 0) (by rw [bits8]; omega) (by rw [bits8]; omega)
  rw [show ((0 : Nat) : Int) = 0 from rfl, Nat.or_zero] at this
  exact this
theorem shl01 : ∀ r : Nat, r < 8 → iShl .u8 1 ((7 - r : Nat) : Int) = iShr .u8 128 r ∧ iShl .u8 0 ((7 - r : Nat) : Int) = 0 := by decide
end
/-! ### valiseref10 -/
theorem B01.flat (l : List Int) {j : Nat} (h : j ≤ chN 64 l.length) : B01 (flatB l (List.range j)) := by rw [flatB_range l j h]; exact B01.pack _ _
end Go.Proofs.YtjmdoflcmipejaaV

/- Package valisehelp: Own, Kept, Plain, Same of @T@. -/
namespace Go.Proofs.YtjmdoflcmipejaaV
open Go Go.RowKit
theorem Own_byte_on {l : Value} {xs : List Int} {f : Int} {w : World} (h : Nm .u8 w l xs) (hl : xs.length ≤ 1000000000) (hf : IntKind.u8.min ≤ f ∧ f ≤ IntKind.u8.max) :
    Calls P n_valisehelp_Own_byte #[l, .int .u8 f] w (fun e w' => ∃ v, e = .returned v ∧ Ev w w' ∧ Owd .u8 w' v xs f ∧ ON .u8 (elOf P t_sl_uint8) w' w.heap.size v xs) := by
  refine of_valisehelp_Own_byte (gLen_nm h ?_)
  rw [show i64 ((xs.length : Int) + 3) = ((xs.length + 3 : Nat) : Int) from i64_id (by omega) (by omega)]
  refine gMake_cap (k := .u8) (by omega) fun w1 h1 hs1 hF => ?_
  generalize hg : w.heap.size = g at *
  have hz : (List.replicate (xs.length + 3) (0 : Int)).length = xs.length + 3 := by simp
  refine gApp_room (n := 0) hF hz (h.ev h1) (by omega) fun w2 h2 hs2 hF2 => gLen_nm h ?_
  rw [show i64 ((xs.length : Int) + 3) = ((xs.length + 3 : Nat) : Int) from i64_id (by omega) (by omega), Nat.zero_add]
  rw [Nat.zero_add] at hF2
  have e0 : List.replicate (xs.length + 3) (0 : Int) = List.replicate xs.length 0 ++ [0, 0, 0] := List.replicate_append_replicate.symm
  have eF : List.take 0 (List.replicate (xs.length + 3) (0 : Int)) ++ xs ++ List.drop xs.length (List.replicate (xs.length + 3) 0) = xs ++ [0, 0, 0] := by
    rw [e0, List.drop_append_of_le_length (by simp), List.drop_of_length_le (by simp)]; simp
  rw [eF] at hF2
  refine gSlice_any (sz := 1) (l := 0) (h := xs.length + 3) (.inl ⟨rfl, rfl⟩) (.inr ⟨_, rfl⟩) (by omega) (by omega) ?_ (by kernel_rfl)
  rw [subV_z (by omega)]
  have hO := hF2.on (xs.length + 3) (by simp)
  rw [List.take_of_length_le (by simp)] at hO
  have e2 : (xs ++ [(0 : Int), 0, 0]).length = xs.length + 3 := by simp
  rw [e2] at hO
  have hev : Ev w w2 := h1.new h2 fun n i hh => by rw [hh]; omega
  refine gLen_nm h ⟨fun i w3 => ∃ j : Nat, i = ((xs.length + j : Nat) : Int) ∧ j ≤ 3 ∧ Ev w w3 ∧ ON .u8 (elOf P t_sl_uint8) w3 g (.slice (some ⟨g, 0, none⟩) (xs.length + 3) (xs.length + 3)) (xs ++ (List.replicate j f ++ List.replicate (3 - j) 0)), fun i _ => xs.length + 3 - i.toNat, ⟨0, by omega, by omega, hev, hO⟩, ?_⟩
  rintro _ i w3 ⟨j, rfl, hj, h3, hO3⟩
  have hln : (xs ++ (List.replicate j f ++ List.replicate (3 - j) (0 : Int))).length = xs.length + 3 := by simp; omega
  refine gLen_nm hO3.nm (gIf_dec (fun hlt => ?_) (fun hge => ?_))
  · rw [hln] at hlt
    refine gIdx_on hO3 (by omega) (by rw [hln]; omega) fun ad hs _ => gStore_on hO3 hs (by omega) (by rw [hln]; omega) hf fun w4 h4 _ hO4 => ?_
    rw [show i64 (((xs.length + j : Nat) : Int) + 1) = ((xs.length + (j + 1) : Nat) : Int) by rw [i64_id (by omega) (by omega)]; omega]
    refine ⟨⟨j + 1, rfl, by omega, h3.new h4 fun n i hh => ?_, ?_⟩, by dsimp only; omega⟩
    · have : n = g := by simpa [Value.ownBlock] using hh.symm
      omega
    · have e3 : (xs ++ (List.replicate j f ++ List.replicate (3 - j) (0 : Int))).set (xs.length + j) f = xs ++ (List.replicate (j + 1) f ++ List.replicate (3 - (j + 1)) 0) := by
        rw [List.set_append_right _ _ (by omega), show xs.length + j - xs.length = j by omega, List.set_append_right _ _ (by simp), List.length_replicate, Nat.sub_self, show 3 - j = (3 - (j + 1)) + 1 by omega, List.replicate_succ, List.set_cons_zero, List.replicate_succ']
        simp
      rw [Int.toNat_natCast, e3] at hO4
      exact hO4
  · rw [hln] at hge
    obtain rfl : j = 3 := by omega
    refine ⟨_, rfl, h3, ⟨some ⟨g, 0, none⟩, xs.length + 3, rfl, Nat.le_refl _, hO3.nm⟩, ?_⟩
    have := hO3.pre xs.length (by omega)
    rw [List.take_left] at this
    exact this
theorem Own_byte_any {l : Value} {xs : List Int} {f : Int} {w : World} (h : Nm .u8 w l xs) (hl : xs.length ≤ 1000000000) (hf : IntKind.u8.min ≤ f ∧ f ≤ IntKind.u8.max) :
    Calls P n_valisehelp_Own_byte #[l, .int .u8 f] w (fun e w' => ∃ v, e = .returned v ∧ Ev w w' ∧ Owd .u8 w' v xs f) :=
  (Own_byte_on h hl hf).mono fun _ _ ⟨v, h1, h2, h3, _⟩ => ⟨v, h1, h2, h3⟩
theorem Same_byte_any {a b : Value} {xs ys : List Int} {w : World} (ha : Nm .u8 w a xs) (hb : Nm .u8 w b ys) (hl : xs.length ≤ 1000000000) :
    Calls P n_valisehelp_Same_byte #[a, b, .func (.func n_valisehelp_Plain_byte_1) #[] #[]] w (fun e w' => e = .returned (.bool (decide (xs = ys))) ∧ Ev w w') := by
  refine of_valisehelp_Same_byte (gLen_nm ha (gLen_nm hb (gIf_neq (fun hne => ⟨by rw [decide_eq_false fun h => hne (by rw [h])], Ch.refl _ w⟩) (fun heq => ?_))))
  have hle : xs.length = ys.length := by omega
  refine ⟨fun i w' => ∃ j : Nat, i = j ∧ j ≤ xs.length ∧ (∀ q, q < j → rd xs q = rd ys q) ∧ Ev w w', fun i _ => xs.length - i.toNat, ⟨0, rfl, by omega, by omega, Ch.refl _ w⟩, ?_⟩
  rintro _ i w1 ⟨j, rfl, hj, hq, h1⟩
  refine gLen_nm ha (gIf_dec (fun hlt => ?_) (fun hge => ⟨?_, h1⟩))
  · refine ⟨fun w' => w' = w1.drew, rfl, gIdx_nm (ha.ev h1) (by omega) (by omega) fun a1 c1 _ => gLoadB_i (at1 c1) (gIdx_nm (hb.ev h1) (by omega) (by omega) fun a2 c2 _ => gLoadB_i (at1 c2) (gCallV_of rfl (by kernel_rfl) (of_valisehelp_Plain_byte_1 (R := fun e w' => e = .returned (.bool (rd xs j == rd ys j)) ∧ w' = w1.drew) ⟨rfl, rfl⟩) ?_))⟩
    rintro _ _ ⟨rfl, rfl⟩
    refine ⟨_, rfl, rfl, ?_⟩
    refine gIf_neqq (fun hne => ⟨?_, h1.drew⟩) (fun he => ?_)
    · rw [decide_eq_false fun h => hne (by rw [h])]
    · rw [i64_id (n := (j : Int) + 1) (by omega) (by omega)]
      refine ⟨⟨j + 1, by omega, by omega, fun q hq' => ?_, h1.drew⟩, by dsimp only; omega⟩
      rcases Nat.lt_or_ge q j with h | h
      · exact hq q h
      · have : q = j := by omega
        subst this; exact he
  · rw [decide_eq_true]
    refine List.ext_getElem hle fun q h1 h2 => ?_
    rw [← rd_nat xs q h1, ← rd_nat ys q h2]; exact hq q (by omega)
theorem Plain_byte_any {a b : Value} {xs ys : List Int} {w : World} (ha : Nm .u8 w a xs) (hb : Nm .u8 w b ys) (hl : xs.length ≤ 1000000000) :
    Calls P n_valisehelp_Plain_byte #[a, b] w (fun e w' => e = .returned (.bool (decide (xs = ys))) ∧ Ev w w') :=
  of_valisehelp_Plain_byte (gCall_of (Same_byte_any ha hb hl) fun _ _ ⟨h1, h2⟩ => ⟨_, h1, rfl, h2⟩)
theorem Kept_byte_any {o l : Value} {xs : List Int} {f : Int} {w : World} (ho : Owd .u8 w o xs f) (h : Nm .u8 w l xs) (hl : xs.length ≤ 1000000000) :
    Calls P n_valisehelp_Kept_byte #[o, l, .int .u8 f] w (fun e w' => e = .returned (.bool true) ∧ Ev w w') := by
  have hn := ho.nm
  obtain ⟨a, c, rfl, hc, hN⟩ := ho
  have e3 : i64 ((xs.length : Int) + 3) = ((xs.length + 3 : Nat) : Int) := i64_id (by omega) (by omega)
  refine of_valisehelp_Kept_byte ⟨fun w' => Ev w w', gCall_of (Plain_byte_any hn h hl) ?_, ?_⟩
  · rintro _ w1 ⟨rfl, h1⟩
    refine ⟨_, rfl, ?_⟩
    rw [decide_eq_true rfl]
    refine gIf_nn (gCap_sl (gLen_nm h ?_))
    rw [e3]
    exact gIf_dec (fun hlt => by omega) (fun _ => h1)
  · rintro _ w2 h2
    refine gLen_nm h ?_
    rw [e3]
    refine gSlice_any (sz := 1) (l := 0) (h := xs.length + 3) (.inl ⟨rfl, rfl⟩) (.inr ⟨_, rfl⟩) (by omega) hc ?_ (by kernel_rfl)
    rw [subV_z (by omega)]
    have hN2 := hN.ev h2
    have hln : (xs ++ [f, f, f]).length = xs.length + 3 := by simp
    refine gLen_nm h ⟨fun i w3 => ∃ j : Nat, i = ((xs.length + j : Nat) : Int) ∧ j ≤ 3 ∧ w3 = w2, fun i _ => xs.length + 3 - i.toNat, ⟨0, by omega, by omega, rfl⟩, ?_⟩
    rintro _ i _ ⟨j, rfl, hj, rfl⟩
    refine gLen_nm hN2 (gIf_dec (fun hlt => ?_) (fun hge => ⟨rfl, h2⟩))
    rw [hln] at hlt
    refine gIdx_nm hN2 (by omega) (by rw [hln]; omega) fun ad c1 _ => gLoad_i c1 (gIf_neq (fun hne => (hne ?_).elim) (fun _ => ?_))
    · rw [rd, Int.toNat_natCast, List.getD_eq_getElem?_getD, List.getElem?_append_right (by omega), show xs.length + j - xs.length = j by omega]
      have : j = 0 ∨ j = 1 ∨ j = 2 := by omega
      rcases this with rfl | rfl | rfl <;> rfl
    · rw [show i64 (((xs.length + j : Nat) : Int) + 1) = ((xs.length + (j + 1) : Nat) : Int) by rw [i64_id (by omega) (by omega)]; omega]
      exact ⟨⟨j + 1, rfl, by omega, rfl⟩, by dsimp only; omega⟩
end Go.Proofs.YtjmdoflcmipejaaV

/- Package valisehelp: Own, Kept, Plain, Same of int32. -/
namespace Go.Proofs.YtjmdoflcmipejaaV
open Go Go.RowKit
end Go.Proofs.YtjmdoflcmipejaaV

/- The laws of rice. -/
namespace Go.Proofs.YtjmdoflcmipejaaV
open Go Go.RowKit
section
variable {w0 w : World} {F : List It} {f : FuncId} {args : Array Value}
theorem fCallTI {r : List Int × Int} {K : Value → Int → World → Prop} (h : Fr w0 w F) (hc : Calls P f args w (TupI w r)) (hk : ∀ v w', Fr w0 w' (oIt .i32 e32 v r.1 :: F) → K v r.2 w') : gCall P f (.tup [.one .val, .one (.int .i64)]) args w K :=
  gCall_of hc fun _ w' ⟨v, h1, h2, h3⟩ => ⟨v, r.2, h1, hk v w' (h.newO h2 h3)⟩
end
theorem packE_le {l : List Int} (h : l.length ≤ 1048576) : packE l = (pkB (packTo l l.length), 0) := by unfold packE; rw [if_neg (by omega)]
theorem pkB_len (l : List Int) : (pkB (packTo l l.length)).length = ((packTo l l.length).length + 7) / 8 := (pkB_ok (B01.pack l _)).2.1
theorem unpE_both (xs : List Int) (n : Int) : unpE true xs n = unpE false xs n := unpE_same (fun l _ _ => (pkB_ok (B01.pack l _)).2) n
theorem unpE_at {xs l : List Int} (hr : inR .i32 l) (h : hasAt xs 0 (packTo l l.length)) (hl : l.length ≤ 1048576) : unpE true xs l.length = if pkB (packTo l l.length) = xs then (l, 0) else ([], 4) := by
  unfold unpE
  rw [if_neg (by omega), if_neg (by omega), Int.toNat_natCast]
  have := readN_at (lim := true) (rd_i32 hr) h l.length 0 0 (by omega) (fun h => by omega)
  rw [show (packTo l 0).length = 0 from rfl] at this
  rw [this]; rfl
/-- What is packed is unpacked. -/
theorem unpE_pack {l : List Int} (hr : inR .i32 l) (hl : l.length ≤ 1048576) : unpE true (pkB (packTo l l.length)) l.length = (l, 0) := by
  rw [unpE_at hr (pkB_ok (B01.pack l _)).2.has hl, if_pos rfl]
theorem hasAt.more {xs bs : List Int} (ys : List Int) (h : hasAt xs 0 bs) : hasAt (xs ++ ys) 0 bs := by
  obtain ⟨h1, h2⟩ := h
  refine ⟨by rw [List.length_append]; omega, fun k hk => ?_⟩
  rw [← h2 k hk]
  unfold bitAt
  rw [rd_app, if_pos (by omega)]
theorem CopyBytesR_any {b : Value} {xs : List Int} {w : World} (hb : Nm .u8 w b xs) (hl : xs.length ≤ 1000000000) : Calls P n_valisehelp_CopyBytes #[b] w (NewB w xs) :=
  of_valisehelp_CopyBytes (fApp0 (Fr.start w) hb (by omega) fun v w1 f1 => ⟨v, rfl, f1.old, f1.on 0 rfl⟩)
theorem unpE_err (xs : List Int) {n : Int} (h0 : 0 ≤ n) (h1 : n ≤ 1048576) : ((unpE true xs n).2 = 4 ∧ (unpE true xs n).1 = []) ∨ ((unpE true xs n).2 = 0 ∧ (unpE true xs n).1.length = n.toNat ∧ pkB (packTo (unpE true xs n).1 (unpE true xs n).1.length) = xs) := by
  unfold unpE
  rw [if_neg (by omega), if_neg (by omega)]
  split
  · exact .inl ⟨rfl, rfl⟩
  · rename_i l hl
    split
    · rename_i he; exact .inr ⟨rfl, readN_len _ _ _ _ hl, he⟩
    · exact .inl ⟨rfl, rfl⟩
end Go.Proofs.YtjmdoflcmipejaaV

/- The law AudioTotal. -/
namespace Go.Proofs.YtjmdoflcmipejaaV
open Go Go.RowKit
theorem hunE (b : List Int) (n : Int) (h0 : 0 ≤ n) (h1 : n ≤ 1048576) : (unpE true b n).1.length ≤ 1048576 ∧ ((unpE true b n).2 = 0 → (unpE true b n).1.length = n.toNat) := by
  rcases unpE_err b h0 h1 with ⟨h2, h3⟩ | ⟨_, h3, _⟩
  · rw [h3]; exact ⟨Nat.zero_le _, fun h => by omega⟩
  · exact ⟨by omega, fun _ => h3⟩
theorem numB_pos (q : Nat) : 1 ≤ (numB q).length := by
  refine Decidable.byContradiction fun hc => ?_
  have h0 : numB q = [] := List.length_eq_zero_iff.1 (by omega)
  unfold numB at h0
  revert h0
  split <;> simp
theorem packA_pos {xs : List Int} (h : (packA xs).2 = true) : 1 ≤ (packA xs).1.length := by
  unfold packA at h ⊢
  split at h
  · rename_i hc
    rw [if_pos hc]
    have h1 := numB_pos xs.length
    dsimp only
    simp only [nbs, List.map_cons, List.flatten_cons, List.length_append, Int.toNat_natCast]
    omega
  · cases h
section
variable {w : World}
theorem awake15_any : Calls P n_valiselaw15_awake #[] w (fun e w' => e = .returned (.bool true) ∧ Ev w w') := by
  have hin : inR .u8 [1, 2] := byte_in (by decide)
  have hp : (parseW (makeW 1 8 [1, 2])).2 = true ∧ (makeW 1 8 [1, 2]).length ≤ 1048576 := by decide +kernel
  have ho : (packA (makeW 1 8 [1, 2])).2 = true := by unfold packA; rw [if_pos hp]
  have hl := packA_pos ho
  refine of_valiselaw15_awake (fLit_n [1, 2] (Fr.start w) rfl rfl hin fun t5 w1 f1 => gCall_of (rwMake_any (f1.nm 0 rfl) (by decide) (by decide) (.inl rfl)) ?_)
  rintro _ w2 ⟨t6, rfl, h2, o2⟩
  refine ⟨t6, rfl, gCall_of (aPack_any o2.nm (by omega)) ?_⟩
  rintro _ w3 ⟨v, rfl, h3, o3⟩
  refine ⟨_, _, rfl, ?_⟩
  rw [ho]
  refine gIf_t (gLen_nm o3.nm ⟨?_, f1.old.trans (h2.trans h3)⟩)
  rw [decide_eq_true (by omega)]
theorem AudioTotal_law {x : Value} {xs : List Int} {most : Int} (hb : Nm .u8 w x xs) (_ : IntKind.i64.min ≤ most ∧ most ≤ IntKind.i64.max) : Calls P n_valiselaw15_AudioTotal #[x, .int .i64 most] w (Holds w) := by
  have aw : gCall P n_valiselaw15_awake shB #[] w fun (t17 : Bool) ww1 => Holds w (.returned (.bool t17)) ww1 := gCall_b awake15_any fun w1 h1 => ⟨rfl, h1⟩
  refine of_valiselaw15_AudioTotal ⟨fun w' => w' = w ∧ xs.length ≤ 3000, gLen_nm hb (gIf_ndec (fun hle => gIf_dec (fun _ => aw) (fun _ => ⟨rfl, by omega⟩)) (fun _ => aw)), ?_⟩
  rintro _ w1 ⟨hw, hl⟩
  obtain rfl : w = w1 := hw.symm
  refine gCall_v (Own_byte_any hb (by omega) (by decide)) fun o w2 ⟨h2, ho⟩ => gCall_of (aUnpack_any ho.nm (by omega) hunE) ?_
  rintro _ w3 ⟨b, rfl, h3, nb⟩
  refine ⟨_, _, rfl, gCall_of (aUnpack_any (hb.ev (h2.trans h3)) (by omega) hunE) ?_⟩
  rintro _ w4 ⟨c, rfl, h4, nc⟩
  refine ⟨_, _, rfl, gCall_b awake15_any fun w5 h5 => gIf_t (gCall_b (Kept_byte_any (ho.ev (h3.trans (h4.trans h5))) (hb.ev (h2.trans (h3.trans (h4.trans h5)))) (by omega)) fun w6 h6 => gIf_t (gCall_b0 (Bytes_any (nb.nm.ev (h4.trans (h5.trans h6))) (nc.nm.ev (h5.trans h6))) (gIf_dec (fun _ => gIf_eq (fun _ => ?_) (fun h => (h rfl).elim)) (fun h => (h rfl).elim))))⟩
  have hev := h2.trans (h3.trans (h4.trans (h5.trans h6)))
  have hn := nb.nm.ev (h4.trans (h5.trans h6))
  have ht := unpackA_total xs most hb.2 hunE
  generalize unpackA xs most = r at ht hn
  obtain ⟨l, e⟩ := r
  dsimp only at ht hn ⊢
  rcases ht with ⟨rfl, h1, _⟩ | ⟨rfl, h1⟩
  · exact gIf_eq (fun _ => gLen_nm hn (gIf_ndec (fun h => (h h1).elim) (fun _ => ⟨rfl, hev⟩))) (fun h => (h rfl).elim)
  · have hz : gLen P t_sl_uint8 b fun (t60 : Nat) => gIf ((t60 : Int) == 0) (gIf (!(e == 4)) (gIf (!(e == 3)) (Holds w (.returned (.bool (e == 5))) w6) (Holds w (.returned (.bool true)) w6)) (Holds w (.returned (.bool true)) w6)) (Holds w (.returned (.bool false)) w6) := by
      refine gLen_nm hn (gIf_eq (fun _ => ?_) (fun h => (h rfl).elim))
      rcases h1 with rfl | rfl | rfl
      · exact ⟨rfl, hev⟩
      · exact ⟨rfl, hev⟩
      · exact ⟨rfl, hev⟩
    refine gIf_eq (fun he => ?_) (fun _ => hz)
    subst he
    rcases h1 with h | h | h <;> cases h
end
end Go.Proofs.YtjmdoflcmipejaaV

/- What was packed is unpacked: plain. -/
namespace Go.Proofs.YtjmdoflcmipejaaV
open Go Go.RowKit
theorem pkK_eq {l : List Int} (hl : l.length ≤ 1048576) (k : Int) : pkK l k = pkB (packTo (resG (kindG k) l) (resG (kindG k) l).length) := by
  unfold pkK packE
  rw [if_neg (by rw [resG_len]; omega)]
theorem un_pkK {l : List Int} (hr : inR .i32 l) (hl : l.length ≤ 1048576) (k : Int) : unpE true (pkK l k) (l.length : Int) = (resG (kindG k) l, 0) := by
  rw [pkK_eq hl]
  have := unpE_pack (resG_in (kindG k) l) (by rw [resG_len]; omega)
  rw [resG_len] at this ⊢
  exact this
/-- Tracks and what they are packed to. -/
def PkOf (ls : List (List Int)) (r : List (Int × List Int)) (n : Nat) : Prop := r.length = ls.length ∧ ∀ (j : Nat) (h1 : j < r.length) (h2 : j < ls.length), 0 ≤ r[j].1 ∧ r[j].1 ≤ 4 ∧ r[j].2 = pkK ls[j] r[j].1 ∧ ls[j].length = n ∧ inR .i32 ls[j]
theorem chanN_of {xs rest : List Int} {a0 n : Nat} {ls : List (List Int)} {r : List (Int × List Int)} (h : PkOf ls r n) (hn : n ≤ 1048576) (ha : a0 ≤ xs.length) (hx : xs.drop a0 = bodyP r ++ rest) : ∀ k, k ≤ r.length → chanN xs (n : Int) a0 0 k = .inl (ls.take k, a0 + (bodyP (r.take k)).length, 0) := by
  intro k
  induction k with
  | zero => intro _; rw [chanN]; simp [bodyP]
  | succ k ih =>
    intro hk
    have hkl : k < ls.length := by have := h.1; omega
    obtain ⟨k0, k4, hb, hl, hi⟩ := h.2 k (by omega) hkl
    have hbl : r[k].2.length ≤ 8 * 1048576 + 10000 := by rw [hb]; have := (pkK_len (l := ls[k]) (by omega) r[k].1).2; omega
    have hsp : bodyP r = bodyP (r.take k) ++ (numB r[k].1.toNat ++ (numB r[k].2.length ++ (r[k].2 ++ bodyP (r.drop (k + 1))))) := by
      have e1 : bodyP r = bodyP (r.take (k + 1)) ++ bodyP (r.drop (k + 1)) := by
        unfold bodyP
        conv => lhs; rw [← List.take_append_drop (k + 1) r]
        rw [List.map_append, List.flatten_append]
      rw [e1, bodyP_next (by omega)]; simp only [List.append_assoc]
    have hd : xs.drop (a0 + (bodyP (r.take k)).length) = numB r[k].1.toNat ++ (numB r[k].2.length ++ (r[k].2 ++ (bodyP (r.drop (k + 1)) ++ rest))) := by
      rw [← List.drop_drop, hx, hsp]
      simp only [List.append_assoc, List.drop_left]
    have hlen : a0 + (bodyP (r.take k)).length + (numB r[k].1.toNat).length + (numB r[k].2.length).length + r[k].2.length ≤ xs.length := by
      have h1 : (bodyP r).length ≤ xs.length - a0 := by rw [← List.length_drop, hx, List.length_append]; omega
      rw [hsp] at h1
      simp only [List.length_append] at h1; omega
    have hnum := numR_of (xs := xs) (a := a0 + (bodyP (r.take k)).length) (q := r[k].1.toNat) (m := 18446744073709551615) (by omega) (by omega) hd
    have hd2 := drop_next hd
    have htx := textR_of (xs := xs) (ys := r[k].2) (a := a0 + (bodyP (r.take k)).length + (numB r[k].1.toNat).length) (m := (xs.length : Int) - ((a0 + (bodyP (r.take k)).length + (numB r[k].1.toNat).length : Nat) : Int)) (by omega) (by omega) (by omega) hd2
    have hun := un_pkK hi (by omega) r[k].1
    rw [hl] at hun
    rw [chanN, ih (by omega)]
    dsimp only
    rw [hnum]
    dsimp only
    rw [htx]
    dsimp only
    rw [if_neg (show ¬ ((0 : Int) ≠ 0) from fun h => h rfl), hb, hun]
    dsimp only
    rw [if_neg (show ¬ ((0 : Int) ≠ 0 ∨ ((r[k].1.toNat : Nat) : Int) > 4) by omega), show ((r[k].1.toNat : Nat) : Int) = r[k].1 by omega, resG_len, rest_all hi, List.take_succ_eq_append_getElem hkl, bodyP_next (by omega)]
    congr 2
    simp only [List.length_append]
    rw [← hb]; congr 1; omega
theorem pkOf_map {xss : List (List Int)} {n : Nat} (h : ∀ ys ∈ xss, ys.length = n ∧ inR .i32 ys) : PkOf xss (xss.map pkT) n := by
  refine ⟨List.length_map _, fun j h1 h2 => ?_⟩
  rw [List.getElem_map]
  have hk := pkT_kind (l := xss[j])
  have hm := h _ (List.getElem_mem h2)
  exact ⟨hk.1, hk.2.1, hk.2.2, hm.1, hm.2⟩
/-- What the tracks were, out of what is packed. -/
theorem allI_of {xss : List (List Int)} {n : Nat} (h : ∀ ys ∈ xss, ys.length = n ∧ inR .i32 ys) : ∃ ls, PkOf ls (allI xss).1 n ∧ ls.length = xss.length ∧ ((allI xss).2 = true → xss.length = 2) ∧ (if (allI xss).2 = true then [leftL (ls.getD 0 []) (ls.getD 1 []), rightL (ls.getD 0 []) (ls.getD 1 [])] else ls) = xss := by
  unfold allI
  by_cases h2 : xss.length ≠ 2
  · rw [if_pos h2]; exact ⟨xss, pkOf_map h, rfl, (fun h => by cases h), rfl⟩
  rw [if_neg h2]
  split
  · obtain ⟨a, b, rfl⟩ := len2 (l := xss) (by omega)
    have ha := h a (by simp)
    have hb := h b (by simp)
    refine ⟨[midL a b, sideL a b], ?_, rfl, fun _ => rfl, ?_⟩
    · have := pkOf_map (xss := [midL a b, sideL a b]) (n := n) fun ys hy => by
        simp only [List.mem_cons, List.not_mem_nil, or_false] at hy
        rcases hy with rfl | rfl
        · exact ⟨by unfold midL; rw [tab_len]; exact ha.1, inR32.2 fun x hx => by
            unfold midL tab at hx
            obtain ⟨i, _, rfl⟩ := List.mem_map.1 hx
            exact i32_rg _⟩
        · exact ⟨by unfold sideL; rw [tab_len]; exact ha.1, inR32.2 fun x hx => by
            unfold sideL tab at hx
            obtain ⟨i, _, rfl⟩ := List.mem_map.1 hx
            exact i32_rg _⟩
      exact this
    · rw [if_pos rfl]
      show [leftL (midL a b) (sideL a b), rightL (midL a b) (sideL a b)] = [a, b]
      rw [un_left ha.2 hb.2 (by omega), un_right hb.2 (by omega)]
  · exact ⟨xss, pkOf_map h, rfl, (fun h => by cases h), rfl⟩
theorem unpack_packA {xs : List Int} (hx : inR .u8 xs) (hok : (packA xs).2 = true) (most : Int) : unpackA (packA xs).1 most = if (xs.length : Int) > (if 0 > most then 0 else most) then ([], 5) else (xs, 0) := by
  have hc : (parseW xs).2 = true ∧ xs.length ≤ 1048576 := Decidable.byContradiction fun hn => by
    unfold packA at hok; rw [if_neg hn] at hok; cases hok
  obtain ⟨F, T, ch, size, n, hp, c1, c8, hs, hFT, hTN, hn, hn1⟩ := inW_nat (parseW_in hc.1)
  have hch : 1 ≤ ch * size := Nat.mul_le_mul c1 (show 1 ≤ size by omega)
  have hnT : n ≤ T - F := by rw [hn]; exact Nat.le_mul_of_pos_right _ hch
  obtain ⟨xss, hxs⟩ : ∃ xss, xss = splitN ((xs.drop F).take (T - F)) ch size (n * ch) := ⟨_, rfl⟩
  have hxl : xss.length = ch := by rw [hxs, splitN_len]
  have hsub : inR .u8 ((xs.drop F).take (T - F)) := fun x h => hx x (List.mem_of_mem_drop (List.mem_of_mem_take h))
  have hsl : ((xs.drop F).take (T - F)).length = n * (ch * size) := by rw [List.length_take, List.length_drop]; omega
  have hrng : ∀ ys ∈ xss, ∀ v ∈ ys, -topM size ≤ v ∧ v < topM size := fun ys hy v hv => by
    rw [hxs] at hy
    unfold splitN at hy
    obtain ⟨k, hk, rfl⟩ := List.mem_map.1 hy
    have hk := List.mem_range.1 hk
    unfold trackN tab at hv
    obtain ⟨j, hj, rfl⟩ := List.mem_map.1 hv
    have hj := List.mem_range.1 hj
    rw [cntT_all hk] at hj
    have hin : ((j * ch + k) * size) + size ≤ ((xs.drop F).take (T - F)).length := by
      rw [hsl, ← Nat.mul_assoc]
      have h1 : j * ch + k + 1 ≤ n * ch := by
        have := Nat.mul_le_mul_right ch (show j + 1 ≤ n from hj)
        rw [Nat.succ_mul] at this; omega
      have := Nat.mul_le_mul_right size h1
      rwa [Nat.succ_mul] at this
    have := smp_rg hsub hs hin
    unfold topM
    rcases hs with rfl | rfl
    · rw [if_neg (by decide)]; have := this.1 rfl; omega
    · rw [if_pos rfl]; omega
  have htop : topM size ≤ 32768 := by unfold topM; split <;> omega
  have hmem : ∀ ys ∈ xss, ys.length = n ∧ inR .i32 ys := fun ys h => ⟨splitN_mem (hxs ▸ h), inR32.2 fun v hv => by have := hrng ys h v hv; omega⟩
  obtain ⟨ls, hpk, hll, hm2, hls⟩ := allI_of hmem
  obtain ⟨r, hr⟩ : ∃ r, r = allI xss := ⟨_, rfl⟩
  rw [← hr] at hpk hm2 hls
  obtain ⟨md, hmd⟩ : ∃ md : Nat, md = if r.2 = true then 1 else 0 := ⟨_, rfl⟩
  have hmd1 : md ≤ 1 := by rw [hmd]; split <;> omega
  have hmdt : md = 1 ↔ r.2 = true := by rw [hmd]; split <;> simp_all
  have hpa : (packA xs).1 = numsB [xs.length, F, T, ch, 8 * size, md] ++ (xs.take F ++ (xs.drop T ++ (bodyP r.1 ++ []))) := by
    unfold packA
    rw [if_pos hc, hp]
    have e1 : (((8 * size : Nat) : Int) / 8).toNat = size := by omega
    have e2 : (T - F) / (ch * size) = n := by rw [hn, Nat.mul_div_cancel _ (by omega)]
    simp only [Int.toNat_natCast, e1, e2]
    rw [← hxs, ← hr, ← hmd]
    simp only [nbs, numsB, List.map_cons, List.map_nil, List.flatten_cons, List.flatten_nil, Int.toNat_natCast, List.append_assoc, List.nil_append, List.append_nil]
  obtain ⟨ys, hys⟩ : ∃ ys, ys = (packA xs).1 := ⟨_, rfl⟩
  rw [← hys] at hpa ⊢
  have hnum := numsN_of (ys := ys) [xs.length, F, T, ch, 8 * size, md] hpa (fun q hq => by
    simp only [List.mem_cons, List.not_mem_nil, or_false] at hq
    rcases hq with rfl | rfl | rfl | rfl | rfl | rfl <;> omega) 6 (by simp)
  rw [show ([xs.length, F, T, ch, 8 * size, md].take 6) = [xs.length, F, T, ch, 8 * size, md] from rfl] at hnum
  obtain ⟨a6, ha6⟩ : ∃ a6, a6 = (numsB [xs.length, F, T, ch, 8 * size, md]).length := ⟨_, rfl⟩
  have hd0 : ys.drop a6 = xs.take F ++ (xs.drop T ++ (bodyP r.1 ++ [])) := by rw [hpa, ha6, List.drop_left]
  have hyl : ys.length = a6 + (F + (xs.length - T + (bodyP r.1).length)) := by
    rw [hpa, List.length_append, List.length_append, List.length_append, List.length_append, List.length_drop, List.length_take, ← ha6, List.length_nil]; omega
  rw [← ha6] at hnum
  clear ha6 hpa
  have hF : (xs.take F).length = F := by rw [List.length_take]; omega
  have hTl : (xs.drop T).length = xs.length - T := by rw [List.length_drop]
  have hd1 : ys.drop (a6 + F) = xs.drop T ++ (bodyP r.1 ++ []) := by have := drop_next hd0; rwa [hF] at this
  have hd2 : ys.drop (a6 + F + (xs.length - T)) = bodyP r.1 ++ [] := by have := drop_next hd1; rwa [hTl] at this
  have g0 : rd (List.map (fun (q : Nat) => (q : Int)) [xs.length, F, T, ch, 8 * size, md]) 0 = (xs.length : Int) := rfl
  have g1 : rd (List.map (fun (q : Nat) => (q : Int)) [xs.length, F, T, ch, 8 * size, md]) 1 = (F : Int) := rfl
  have g2 : rd (List.map (fun (q : Nat) => (q : Int)) [xs.length, F, T, ch, 8 * size, md]) 2 = (T : Int) := rfl
  have g3 : rd (List.map (fun (q : Nat) => (q : Int)) [xs.length, F, T, ch, 8 * size, md]) 3 = (ch : Int) := rfl
  have g4 : rd (List.map (fun (q : Nat) => (q : Int)) [xs.length, F, T, ch, 8 * size, md]) 4 = ((8 * size : Nat) : Int) := rfl
  have g5 : rd (List.map (fun (q : Nat) => (q : Int)) [xs.length, F, T, ch, 8 * size, md]) 5 = (md : Int) := rfl
  have hfr : (ch : Int) * ((8 * size : Nat) : Int) / 8 = ((ch * size : Nat) : Int) := by
    rcases hs with rfl | rfl
    · show (ch : Int) * 8 / 8 = ((ch * 1 : Nat) : Int); omega
    · show (ch : Int) * 16 / 8 = ((ch * 2 : Nat) : Int); omega
  have hTF : (T : Int) - (F : Int) = ((T - F : Nat) : Int) := by omega
  have hox : okX ys = true := by
    unfold okX
    rw [hnum]
    dsimp only
    rw [g0, g1, g2, g3, g4, g5]
    unfold okM
    refine decide_eq_true ⟨by omega, by omega, by omega, ?_, by omega, by omega, ?_⟩
    · by_cases h : r.2 = true
      · have := hm2 h; omega
      · have : md ≠ 1 := fun hh => h (hmdt.1 hh)
        omega
    · rw [hfr, hTF, ← Int.natCast_emod, hn, Nat.mul_mod_left]; rfl
  unfold unpackA
  dsimp only
  rw [hnum]
  dsimp only
  rw [if_neg (show ¬ ((0 : Int) ≠ 0) from fun h => h rfl), g0, g1, g2, g3, g4, g5, hox]
  generalize (if 0 > most then 0 else most) = mx
  by_cases hm : (xs.length : Int) > mx
  · rw [if_pos (.inl hm), if_pos hm]
  rw [if_neg (by omega), if_neg hm, if_neg (by decide)]
  rw [rawR_at (xs := ys) (a := a6) (n := F) (by omega)]
  dsimp only
  have hnT2 : (xs.length : Int) - (T : Int) = ((xs.length - T : Nat) : Int) := by omega
  rw [hnT2, rawR_at (xs := ys) (a := a6 + F) (n := xs.length - T) (by omega)]
  dsimp only
  have e2 : (T - F) / (ch * size) = n := by rw [hn, Nat.mul_div_cancel _ (by omega)]
  rw [hfr, hTF, ← Int.natCast_ediv, e2, Int.toNat_natCast, hd0, hd1, List.take_left' hF, List.take_left' hTl]
  have hchn := chanN_of hpk (by omega) (show a6 + F + (xs.length - T) ≤ ys.length by omega) hd2 ch (by have := hpk.1; omega)
  rw [hchn]
  dsimp only
  have hrl : r.1.length = ch := by have := hpk.1; omega
  rw [List.take_of_length_le (show ls.length ≤ ch by omega), List.take_of_length_le (show r.1.length ≤ ch by omega)]
  unfold endU
  dsimp only
  have hend : endR ys.length (a6 + F + (xs.length - T) + (bodyP r.1).length) 0 = 0 := by
    unfold endR; rw [if_neg (by decide), if_neg (by omega)]
  rw [hend, if_neg (by decide), Int.toNat_natCast]
  have hlse : (if (md : Int) = 1 then [leftL (ls.getD 0 []) (ls.getD 1 []), rightL (ls.getD 0 []) (ls.getD 1 [])] else ls) = xss := by
    rw [← hls]
    by_cases h : r.2 = true
    · rw [if_pos h, if_pos (by have := hmdt.2 h; omega)]
    · rw [if_neg h, if_neg (fun hh => h (hmdt.1 (by omega)))]
  have e8 : (((8 * size : Nat) : Int) / 8).toNat = size := by omega
  rw [hlse, e8]
  have hje : joinE size xss n = ((xs.drop F).take (T - F), 0) := by
    unfold joinE
    rw [if_pos]
    · rw [hxs, join_split hsub hs (by omega) hsl (Nat.le_refl n), List.take_of_length_le (by omega)]
    · rw [List.all_eq_true]
      intro l hl
      unfold inRg
      rw [List.all_eq_true]
      intro v hv
      exact decide_eq_true (hrng l hl v hv)
  rw [hje]
  dsimp only
  rw [if_neg (by decide)]
  congr 1
  rw [List.append_assoc, show xs.drop T = (xs.drop F).drop (T - F) by rw [List.drop_drop]; congr 1; omega, List.take_append_drop, List.take_append_drop]
end Go.Proofs.YtjmdoflcmipejaaV

/- The law AudioChanged. -/
namespace Go.Proofs.YtjmdoflcmipejaaV
open Go Go.RowKit
theorem bodyP_len {B : Nat} : ∀ {r : List (Int × List Int)}, (∀ u ∈ r, 0 ≤ u.1 ∧ u.1 ≤ 4 ∧ u.2.length ≤ B) → B ≤ 100000000 → (bodyP r).length ≤ r.length * (B + 20)
  | [], _, _ => by simp [bodyP]
  | u :: r, h, hB => by
    have h1 := h u List.mem_cons_self
    have h2 := bodyP_len (r := r) (fun x hx => h x (List.mem_cons_of_mem _ hx)) hB
    have h3 : (numB u.1.toNat).length ≤ 10 := numB_len64 (by omega)
    have h4 : (numB u.2.length).length ≤ 10 := numB_len64 (by omega)
    have e : bodyP (u :: r) = numB u.1.toNat ++ numB u.2.length ++ u.2 ++ bodyP r := rfl
    rw [e, List.length_append, List.length_append, List.length_append, List.length_cons, Nat.succ_mul]; omega
theorem packA_len {xs : List Int} : (packA xs).1.length ≤ 900000000 := by
  unfold packA
  split
  · rename_i hc
    obtain ⟨Fn, T, ch, size, n, hp, c1, c8, hs, hFT, hTN, hn, hn1⟩ := inW_nat (parseW_in hc.1)
    rw [hp]
    have e1 : (((8 * size : Nat) : Int) / 8).toNat = size := by omega
    have hch : 1 ≤ ch * size := Nat.mul_le_mul c1 (show 1 ≤ size by omega)
    have e2 : (T - Fn) / (ch * size) = n := by rw [hn, Nat.mul_div_cancel _ (by omega)]
    have hnT : n ≤ T - Fn := by rw [hn]; exact Nat.le_mul_of_pos_right _ hch
    simp only [Int.toNat_natCast, e1, e2]
    obtain ⟨xss, hxs⟩ : ∃ xss, xss = splitN ((xs.drop Fn).take (T - Fn)) ch size (n * ch) := ⟨_, rfl⟩
    have hxm : ∀ ys ∈ xss, ys.length = n := fun ys h => splitN_mem (hxs ▸ h)
    have hxl : xss.length = ch := by rw [hxs, splitN_len]
    rw [← hxs]
    have hu : ∀ u ∈ (allI xss).1, 0 ≤ u.1 ∧ u.1 ≤ 4 ∧ u.2.length ≤ 10000000 := fun u hu => by
      have key : ∃ ys : List Int, ys.length ≤ 1048576 ∧ u = pkT ys := by
        unfold allI at hu
        have hmap : u ∈ xss.map pkT → ∃ ys : List Int, ys.length ≤ 1048576 ∧ u = pkT ys := fun h => by
          obtain ⟨ys, h1, rfl⟩ := List.mem_map.1 h
          exact ⟨ys, by have := hxm ys h1; omega, rfl⟩
        have hgd : (xss.getD 0 []).length ≤ 1048576 := by
          rw [List.getD_eq_getElem?_getD]
          cases h : xss[0]? with
          | none => simp
          | some ys => have := hxm ys (List.mem_of_getElem? h); simp; omega
        split at hu
        · exact hmap hu
        · split at hu
          · simp only [List.mem_cons, List.not_mem_nil, or_false] at hu
            rcases hu with rfl | rfl
            · exact ⟨_, by unfold midL; rw [tab_len]; exact hgd, rfl⟩
            · exact ⟨_, by unfold sideL; rw [tab_len]; exact hgd, rfl⟩
          · exact hmap hu
      obtain ⟨ys, h1, rfl⟩ := key
      have := pkT_kind (l := ys)
      have h2 := pkT_len h1
      exact ⟨this.1, this.2.1, by omega⟩
    have hrl : (allI xss).1.length ≤ 8 := by
      unfold allI
      split
      · simp; omega
      · split
        · simp
        · simp; omega
    have hb := bodyP_len hu (by decide)
    have hb2 : (allI xss).1.length * (10000000 + 20) ≤ 8 * (10000000 + 20) := Nat.mul_le_mul_right _ hrl
    have hn5 := nbs_len (L := [(xs.length : Int), (Fn : Int), (T : Int), (ch : Int), ((8 * size : Nat) : Int)]) fun x hx => by
      simp only [List.mem_cons, List.not_mem_nil, or_false] at hx
      rcases hx with rfl | rfl | rfl | rfl | rfl <;> omega
    have hf : (numB (if (allI xss).2 = true then 1 else 0)).length ≤ 10 := numB_len64 (by split <;> omega)
    simp only [List.length_append, List.length_take, List.length_drop, List.length_cons, List.length_nil] at hn5 ⊢
    omega
  · exact Nat.zero_le _
section
variable {w : World}
theorem AudioChanged_law {b : Value} {ss : List Int} {c0 b1 at1 to2 cut3 : Int} (_ : IntKind.i64.min ≤ c0 ∧ c0 ≤ IntKind.i64.max) (_ : IntKind.i64.min ≤ b1 ∧ b1 ≤ IntKind.i64.max) (hb : Nm .u8 w b ss) (_ : IntKind.i64.min ≤ at1 ∧ at1 ≤ IntKind.i64.max) (hto : IntKind.u8.min ≤ to2 ∧ to2 ≤ IntKind.u8.max) (_ : IntKind.i64.min ≤ cut3 ∧ cut3 ≤ IntKind.i64.max) :
    Calls P n_valiselaw15_AudioChanged #[.int .i64 c0, .int .i64 b1, b, .int .i64 at1, .int .u8 to2, .int .i64 cut3] w (Holds w) := by
  have aw : ∀ {w'}, Ev w w' → gCall P n_valiselaw15_awake shB #[] w' fun (t17 : Bool) ww1 => Holds w (.returned (.bool t17)) ww1 := fun he => gCall_b awake15_any fun w1 h1 => ⟨rfl, he.trans h1⟩
  have uc : 0 ≤ u64 c0 := by rw [u64_def]; omega
  have ub : 0 ≤ u64 b1 := by rw [u64_def]; omega
  have e1 : ∃ ch : Int, i64 (1 + i64 (Int.tmod (u64 c0) 8)) = ch ∧ 1 ≤ ch ∧ ch ≤ 8 := by
    refine ⟨_, rfl, ?_⟩
    rw [Int.tmod_eq_emod_of_nonneg uc, i64_id (n := u64 c0 % 8) (by omega) (by omega), i64_id (by omega) (by omega)]; omega
  have e2 : ∃ bits : Int, i64 (8 + i64 (8 * i64 (Int.tmod (u64 b1) 2))) = bits ∧ (bits = 8 ∨ bits = 16) := by
    refine ⟨_, rfl, ?_⟩
    rw [Int.tmod_eq_emod_of_nonneg ub, i64_id (n := u64 b1 % 2) (by omega) (by omega), i64_id (n := 8 * (u64 b1 % 2)) (by omega) (by omega), i64_id (by omega) (by omega)]; omega
  obtain ⟨ch, ec, hch⟩ := e1
  obtain ⟨bits, eb, hbits⟩ := e2
  refine of_valiselaw15_AudioChanged (gLen_nm hb (gIf_dec (fun _ => aw (Ch.refl _ _)) (fun hgt => ?_)))
  rw [ec, eb]
  have hl : ss.length ≤ 1000 := by omega
  refine gCall_of (rwMake_any hb (by omega) hch hbits) ?_
  rintro _ w1 ⟨t38, rfl, h1, o1⟩
  have hml : (makeW ch bits ss).length ≤ 2000 := by unfold makeW; rw [List.length_append, hdW_len]; omega
  refine ⟨t38, rfl, gCall_of (aPack_any o1.nm (by omega)) ?_⟩
  rintro _ w2 ⟨x, rfl, h2, nx⟩
  obtain ⟨pk, hpk⟩ : ∃ pk, pk = packA (makeW ch bits ss) := ⟨_, rfl⟩
  have hpl : pk.1.length ≤ 900000000 := by rw [hpk]; exact packA_len
  rw [← hpk] at nx ⊢
  have e12 := h1.trans h2
  refine ⟨_, _, rfl, ⟨fun w' => Ev w2 w' ∧ 1 ≤ pk.1.length, gCall_b awake15_any fun w3 h3 => gIf_nn (gIf_nnb (fun ht => gLen_nm (nx.nm.ev h3) (gIf_eq (fun _ => aw (e12.trans h3)) (fun hne => ⟨h3, by omega⟩))) (fun _ => aw (e12.trans h3))), ?_⟩⟩
  rintro _ w7 ⟨h7, c3⟩
  obtain ⟨ys, hys⟩ : ∃ ys, ys = pk.1 := ⟨_, rfl⟩
  rw [← hys] at hpl c3 nx
  refine gCall_v (CopyBytesA_any (nx.nm.ev h7) (by omega)) fun y w8 ⟨h8, ny⟩ => gLen_nm ny.nm ?_
  have f8 := (Fr.start w7).newO h8 ny
  have hu : u64 (ys.length : Int) = (ys.length : Int) := by rw [u64_def]; omega
  rw [hu]
  obtain ⟨j, hj, ej⟩ := tmod_nat at1 (m := (ys.length : Int)) (by omega) (by omega)
  refine gBin_rem (by omega) ?_
  rw [ej]
  refine fSetO f8 0 rfl rfl (by omega) hto fun w9 f9 => ?_
  have f9 : Fr w7 w9 [oIt .u8 eB y (ys.set j to2)] := f9
  refine gCall_of (aUnpack_any (f9.nm 0 rfl) (by rw [List.length_set]; omega) hunE) ?_
  rintro _ w10 ⟨c, rfl, h10, nc⟩
  have n10 := nx.nm.ev (h7.trans (f9.old.trans h10))
  refine ⟨_, _, rfl, gLen_nm n10 ?_⟩
  rw [hu]
  obtain ⟨q, hq, eq⟩ := tmod_nat cut3 (m := (ys.length : Int)) (by omega) (by omega)
  refine gBin_rem (by omega) ?_
  rw [eq]
  refine gSlice_nm n10 0 q (.inl ⟨rfl, rfl⟩) (.inr ⟨_, rfl⟩) (Nat.zero_le _) (by omega) fun hs => gCall_of (aUnpack_any hs (by rw [List.length_take, List.length_drop]; omega) hunE) ?_
  rintro _ w11 ⟨d, rfl, h11, nd⟩
  have hev : Ev w w11 := e12.trans (h7.trans (f9.old.trans (h10.trans h11)))
  have t1 := unpackA_total (ys.set j to2) 4000 (f9.nm 0 rfl).2 hunE
  have t2 := unpackA_total ((ys.drop 0).take (q - 0)) 4000 hs.2 hunE
  have hc := nc.nm.ev h11
  have hd := nd.nm
  clear nc nd
  generalize unpackA (ys.set j to2) 4000 = r1 at t1 hc
  generalize unpackA ((ys.drop 0).take (q - 0)) 4000 = r2 at t2 hd
  obtain ⟨l1, v1⟩ := r1
  obtain ⟨l2, v2⟩ := r2
  dsimp only at t1 t2 hc hd
  have m1 : (l1.length : Int) ≤ 4000 := by
    rcases t1 with ⟨_, h, _⟩ | ⟨rfl, _⟩
    · exact h
    · decide
  have m2 : (l2.length : Int) ≤ 4000 := by
    rcases t2 with ⟨_, h, _⟩ | ⟨rfl, _⟩
    · exact h
    · decide
  have n1 : v1 ≠ 0 → l1.length = 0 := fun h => by
    rcases t1 with ⟨hh, _⟩ | ⟨rfl, _⟩
    · exact (h hh).elim
    · rfl
  have n2 : v2 ≠ 0 → l2.length = 0 := fun h => by
    rcases t2 with ⟨hh, _⟩ | ⟨rfl, _⟩
    · exact (h hh).elim
    · rfl
  have fin : gIf (!(v2 == 0)) (gLen P t_sl_uint8 d fun (t89 : Nat) => Holds w (.returned (.bool ((t89 : Int) == 0))) w11) (Holds w (.returned (.bool true)) w11) :=
    gIf_neqq (fun h => gLen_nm hd (by rw [n2 h]; exact ⟨rfl, hev⟩)) (fun _ => ⟨rfl, hev⟩)
  refine ⟨_, _, rfl, gLen_nm hc (gIf_dec (fun _ => gLen_nm hd (gIf_dec (fun _ => gIf_neqq (fun h => gLen_nm hc (gIf_eq (fun _ => fin) (fun hh => absurd (by rw [n1 h]; rfl) hh))) (fun _ => fin)) (fun h => absurd m2 h))) (fun h => absurd m1 h))⟩
end
end Go.Proofs.YtjmdoflcmipejaaV
