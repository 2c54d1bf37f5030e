import Derived.Test.YtilpoinhfiajcaaGreatDoorVPart10
set_option linter.unusedVariables false
set_option linter.unusedSimpArgs false
/- Package wav: Parse. -/
namespace Go.Proofs.YtilpoinhfiajcaaGreatDoorV
open Go Go.RowKit
theorem byte_in {l : List Int} (h : ∀ x ∈ l, 0 ≤ x ∧ x < 256) : inR .u8 l := fun x hx => u8i (h x hx)
theorem riff_in : inR .u8 riffN := byte_in (by decide)
theorem wave_in : inR .u8 waveN := byte_in (by decide)
theorem fmt_in : inR .u8 fmtN := byte_in (by decide)
theorem dat_in : inR .u8 datN := byte_in (by decide)
theorem riff_eq {zs : List Int} (h : inR .u8 zs) : ((bsOf zs).toList == (ByteArray.mk #[82, 73, 70, 70]).toList) = decide (zs = riffN) := bsOf_eq h riff_in
theorem wave_eq {zs : List Int} (h : inR .u8 zs) : ((bsOf zs).toList == (ByteArray.mk #[87, 65, 86, 69]).toList) = decide (zs = waveN) := bsOf_eq h wave_in
theorem fmt_eq {zs : List Int} (h : inR .u8 zs) : ((bsOf zs).toList == (ByteArray.mk #[102, 109, 116, 32]).toList) = decide (zs = fmtN) := bsOf_eq h fmt_in
theorem dat_eq {zs : List Int} (h : inR .u8 zs) : ((bsOf zs).toList == (ByteArray.mk #[100, 97, 116, 97]).toList) = decide (zs = datN) := bsOf_eq h dat_in
theorem beq_dec (x y : Int) : (x == y) = decide (x = y) := by by_cases h : x = y <;> simp [h]
/-- Where a reader stands. -/
def posW (ad : Addr) (w : World) : Nat := match w.cell? (ad.add 1) with
  | some (.int _ n) => n.toNat
  | _ => 0
theorem minW_i {xs : List Int} {a : Nat} (ha : a + 8 ≤ xs.length) (hl : xs.length ≤ 1000000000) : i64 ((if (xs.length : Int) < ((a + 8 + sizeW xs a : Nat) : Int) then (xs.length : Int) else ((a + 8 + sizeW xs a : Nat) : Int)) - ((a + 8 : Nat) : Int)) = ((minW xs a : Nat) : Int) := by
  unfold minW
  split <;> split <;> rw [i64_id (by omega) (by omega)] <;> omega
theorem wrap_i64 (n : Int) : IntKind.i64.wrap n = i64 n := rfl
section
variable {w : World} {xs : List Int} {b : Value}
theorem wvParse_any (hb : Nm .u8 w b xs) (hl : xs.length ≤ 1000000000) : Calls P n_wav_Parse #[b] w (WavE w (parseW xs)) := by
  refine of_wav_Parse (fWvNew (Fr.start w) fun t2 w1 f1 => ?_)
  have hb1 := hb.ev f1.old
  have hn0 : inR .u8 (nameW xs 0) := (hb.2.drop _).take _
  have hn8 : inR .u8 (nameW xs 8) := (hb.2.drop _).take _
  refine ⟨fun w' => ¬ (xs.length < 12 ∨ nameW xs 0 ≠ riffN ∨ nameW xs 8 ≠ waveN) ∧ w' = w1, gLen_nm hb1 (gIf_ndec (fun h12 => ?_) (fun hlt => ?_)), ?_⟩
  · refine gSlice_nm hb1 0 4 (.inl ⟨rfl, rfl⟩) (.inr ⟨_, rfl⟩) (by omega) (by omega) fun hs => gConv_bs hs ?_
    rw [show ((bsOf ((xs.drop 0).take (4 - 0))).toList == (ByteArray.mk #[82, 73, 70, 70]).toList) = decide (nameW xs 0 = riffN) from riff_eq hn0]
    refine gIf_nndec (fun hr => gSlice_nm hb1 8 12 (.inr ⟨_, rfl⟩) (.inr ⟨_, rfl⟩) (by omega) (by omega) fun hs2 => gConv_bs hs2 ?_) (fun hr => ?_)
    · rw [show ((bsOf ((xs.drop 8).take (12 - 8))).toList == (ByteArray.mk #[87, 65, 86, 69]).toList) = decide (nameW xs 8 = waveN) from wave_eq hn8]
      refine gIf_ndec (fun hw => ?_) (fun hw => ⟨fun hh => ?_, rfl⟩)
      · exact fWvEnd (r := noW) f1 0 rfl rfl (by unfold parseW; rw [if_pos (.inr (.inr hw))])
      · rcases hh with hh | hh | hh
        · omega
        · exact hh hr
        · exact hh hw
    · exact fWvEnd (r := noW) f1 0 rfl rfl (by unfold parseW; rw [if_pos (.inr (.inl hr))])
  · exact fWvEnd (r := noW) f1 0 rfl rfl (by unfold parseW; rw [if_pos (.inl (by omega))])
  rintro _ w7 ⟨hok, hw7⟩
  obtain rfl : w1 = w7 := hw7.symm
  have hp0 : parseW xs = goW xs (xs.length + 1) 12 false false 0 0 := by unfold parseW; rw [if_neg hok]
  refine fNewR f1 hb1 (by omega) fun ad y w8 f8 => gLen_nm (hb.ev f8.old) (fBox f8 fun c w9 f9 => ?_)
  have f9 : Fr w w9 (chF ad c y xs 0 [sIt t2 Wv.z.c]) := f9.picks [1, 2, 0, 3] (by decide)
  refine gNil_some (gLoad_p (v := some ad) (f9.cell 2 0 rfl rfl) (fRawA (n := 12) f9 (by omega) hl fun z w10 f10 => ?_))
  have f10 : Fr w w10 (chF ad c y xs 12 [sIt t2 Wv.z.c]) := by
    have := f10.drop 2
    exact this
  refine fWvNew f10 fun w5 w11 f11 => ?_
  have f11 : Fr w w11 (chF ad c y xs 12 [sIt w5 (Wv.mk 0 0 0 0).c, sIt t2 Wv.z.c]) := f11.picks [1, 2, 3, 0, 4] (by decide)
  refine ⟨fun has pcm w' => ∃ (f a : Nat) (ch bits : Int), a ≤ xs.length ∧ (0 ≤ ch ∧ ch < 65536) ∧ (0 ≤ bits ∧ bits < 65536) ∧ parseW xs = goW xs f a has pcm ch bits ∧ xs.length < f + a ∧ Fr w w' (chF ad c y xs a [sIt w5 (Wv.mk ch bits 0 0).c, sIt t2 Wv.z.c]), fun _ _ w' => xs.length + 1 - posW ad w', ⟨xs.length + 1, 12, 0, 0, by omega, by omega, by omega, hp0, by omega, f11⟩, ?_⟩
  rintro _ has pcm w12 ⟨f, a, ch, bits, ha, hch, hbits, hp, hfu, f12⟩
  have hpos : posW ad w12 = a := by
    unfold posW
    rw [f12.cell (u := .int .i64 (a : Int)) 0 1 rfl rfl]; rfl
  obtain ⟨f, rfl⟩ : ∃ f', f = f' + 1 := ⟨f - 1, by omega⟩
  refine gCall_of (nextW_any f12 ha hl) ?_
  rintro _ w13 (⟨hlt, rfl, g⟩ | ⟨hge, rfl, g⟩)
  · exact ⟨_, _, _, _, rfl, gIf_nf (fWvEnd (r := noW) g 4 rfl rfl (by rw [hp, goW, if_pos hlt]))⟩
  refine ⟨_, _, _, _, rfl, gIf_nt ?_⟩
  have hx := hb.2
  have hnm : inR .u8 (nameW xs a) := (hx.drop _).take _
  have hsr := fldW_rg hx (a + 4) 4 (by omega)
  have hsz : ((sizeW xs a : Nat) : Int) = fldW xs (a + 4) 4 := by unfold sizeW; omega
  rw [goW, if_neg (by omega)] at hp
  have i1 : i64 (((a + 8 + sizeW xs a : Nat) : Int) - ((a + 8 : Nat) : Int)) = ((sizeW xs a : Nat) : Int) := by rw [i64_id (by omega) (by omega)]; omega
  have i2 : i64 (((a + 8 : Nat) : Int) + 16) = ((a + 24 : Nat) : Int) := by rw [i64_id (by omega) (by omega)]; omega
  rw [fmt_eq hnm, dat_eq hnm, i1, i2]
  refine ⟨fun has' pcm' w' => ∃ ch' bits' : Int, (0 ≤ ch' ∧ ch' < 65536) ∧ (0 ≤ bits' ∧ bits' < 65536) ∧ parseW xs = (if skipW xs a > xs.length - (a + 8) then noW else goW xs f (a + 8 + skipW xs a) has' pcm' ch' bits') ∧ Fr w w' (chF ad c y xs (a + 8) [sIt w5 (Wv.mk ch' bits' 0 0).c, sIt t2 Wv.z.c]), ⟨fun t w' => w' = w13 ∧ t = decide (isFmt xs a has), ?_, ?_⟩, ?_⟩
  · refine gIf_dec (fun h1 => gIf_nb (fun h2 => gIf_dec (fun h3 => gLen_nm (hb.ev g.old) ⟨rfl, ?_⟩) (fun h3 => ⟨rfl, ?_⟩)) (fun h2 => ⟨rfl, ?_⟩)) (fun h1 => ⟨rfl, ?_⟩)
    · rw [decide_eq_decide]; unfold isFmt
      exact ⟨fun h4 => ⟨h1, h2, by omega, by omega⟩, fun h4 => by omega⟩
    · rw [decide_eq_false]; unfold isFmt; omega
    · rw [decide_eq_false]; unfold isFmt; rw [h2]; simp
    · rw [decide_eq_false]; unfold isFmt; exact fun hh => h1 hh.1
  · rintro _ t w15 ⟨hw15, ht⟩
    obtain rfl : w13 = w15 := hw15.symm
    subst ht
    refine gIf_dec (fun hf => ?_) (fun hf => ?_)
    · rw [if_pos hf] at hp
      obtain ⟨_, _, _, h24⟩ := id hf
      refine gSlice_nm (hb.ev g.old) (a + 8) (a + 24) (.inr ⟨_, rfl⟩) (.inr ⟨_, rfl⟩) (by omega) h24 fun hs => ?_
      obtain ⟨sl, hsl⟩ : ∃ sl, sl = (xs.drop (a + 8)).take 16 := ⟨_, rfl⟩
      rw [show a + 24 - (a + 8) = 16 by omega, ← hsl] at hs
      have hsll : sl.length = 16 := by rw [hsl, List.length_take, List.length_drop]; omega
      have e0 : fldW sl 0 2 = fldW xs (a + 8) 2 := by rw [hsl, fldW_sub (by omega)]
      have e1 : fldW sl 2 2 = fldW xs (a + 10) 2 := by rw [hsl, fldW_sub (by omega)]
      have e2 : fldW sl 14 2 = fldW xs (a + 22) 2 := by rw [hsl, fldW_sub (by omega)]
      have r1 := fldW2_rg hx (a + 10)
      have r2 := fldW2_rg hx (a + 22)
      refine fNewR g hs (by omega) fun ad2 y2 w16 g16 => fLittleR (n := 2) g16 (by omega) (by omega) (by omega) fun w17 g17 => fLittleR (n := 2) g17 (by omega) (by omega) (by omega) fun w18 g18 => ?_
      rw [e0, show fldW sl (0 + 2) 2 = fldW xs (a + 10) 2 from e1, i64_id (n := fldW xs (a + 10) 2) (by omega) (by omega)]
      refine fStore g18 5 0 rfl fun w19 g19 => ?_
      have g19 : Fr w w19 (sIt ad2 [y2, .int .i64 ((0 + 2 + 2 : Nat) : Int), .int .i64 0] :: oIt .u8 eB y2 sl :: chF ad c y xs (a + 8) [sIt w5 (Wv.mk (fldW xs (a + 10) 2) bits 0 0).c, sIt t2 Wv.z.c]) := g19
      refine fRawA (n := 10) g19 (by omega) (by omega) fun z w20 g20 => ?_
      have g20 := g20.drop 2
      refine fLittleR (n := 2) (a := 14) g20 (by omega) (by omega) (by omega) fun w21 g21 => ?_
      rw [e2, i64_id (n := fldW xs (a + 22) 2) (by omega) (by omega)]
      refine fStore g21 5 1 rfl fun w22 g22 => ?_
      have g22 : Fr w w22 (sIt ad2 [y2, .int .i64 ((14 + 2 : Nat) : Int), .int .i64 0] :: oIt .u8 eB y2 sl :: chF ad c y xs (a + 8) [sIt w5 (Wv.mk (fldW xs (a + 10) 2) (fldW xs (a + 22) 2) 0 0).c, sIt t2 Wv.z.c]) := g22
      refine ⟨fldW xs (a + 10) 2, fldW xs (a + 22) 2, r1, r2, ?_, (g22.drop 0).drop 0⟩
      rw [hp, beq_dec]
    · rw [if_neg hf] at hp
      refine ⟨fun t w' => w' = w13 ∧ t = decide (nameW xs a = datN ∧ has = true), gIf_dec (fun h1 => ⟨rfl, ?_⟩) (fun h1 => ⟨rfl, ?_⟩), ?_⟩
      · cases has with
        | true => rw [decide_eq_true ⟨h1, rfl⟩]
        | false => rw [decide_eq_false (by simp)]
      · rw [decide_eq_false (fun hh => h1 hh.1)]
      rintro _ t w23 ⟨hw23, ht⟩
      obtain rfl : w13 = w23 := hw23.symm
      subst ht
      refine gIf_dec (fun hd => ?_) (fun hd => ⟨ch, bits, hch, hbits, by rw [hp, if_neg hd], g⟩)
      rw [if_pos hd] at hp
      refine fWv (Wv.mk ch bits 0 0) g 3 rfl (gCall_i (frameW_any (ch := ch) (bits := bits) (by omega) (by omega)) fun w24 h24 => ?_)
      have g24 := g.ev h24
      have hmin := minW_i (xs := xs) (a := a) hge hl
      have hmle : minW xs a ≤ xs.length - (a + 8) := by unfold minW; split <;> omega
      refine ⟨fun w' => (pcm = true ∧ frameW ch bits ≠ 0 ∧ ¬ ((minW xs a : Int) < frameW ch bits)) ∧ w' = w24, gIf_nnb (fun h1 => gIf_neqq (fun h2 => gLen_nm (hb.ev g24.old) (hmin.symm ▸ gIf_dec (fun h3 => ?_) (fun h3 => ⟨⟨h1, h2, h3⟩, rfl⟩))) (fun h2 => ?_)) (fun h1 => ?_), ?_⟩
      · exact fWvEnd (r := noW) g24 4 rfl rfl (by rw [hp]; unfold foundW; rw [if_neg (fun hh => hh.2.2 h3)])
      · exact fWvEnd (r := noW) g24 4 rfl rfl (by rw [hp]; unfold foundW; rw [if_neg (fun hh => hh.2.1 h2)])
      · exact fWvEnd (r := noW) g24 4 rfl rfl (by rw [hp]; unfold foundW; rw [if_neg (fun hh => by rw [h1] at hh; cases hh.1)])
      rintro _ w28 ⟨hc, hw28⟩
      obtain rfl : w24 = w28 := hw28.symm
      obtain ⟨q1, q2, q3, q4, q5⟩ := frameW_pos hc.2.1
      have hfound : parseW xs = (⟨ch, bits, (a + 8 : Nat), ((a + 8 : Nat) : Int) + (minW xs a : Int) / frameW ch bits * frameW ch bits⟩, true) := by rw [hp]; unfold foundW; rw [if_pos hc]
      obtain ⟨fr, hfr⟩ : ∃ fr, fr = frameW ch bits := ⟨_, rfl⟩
      rw [← hfr] at hfound q5 ⊢
      have h7 : (minW xs a : Int) / fr * fr ≤ (minW xs a : Int) := Int.ediv_mul_le _ (by omega)
      have h8 : 0 ≤ (minW xs a : Int) / fr := Int.ediv_nonneg (by omega) (by omega)
      have h9 : 0 ≤ (minW xs a : Int) / fr * fr := Int.mul_nonneg h8 (by omega)
      have h10 : (minW xs a : Int) / fr ≤ (minW xs a : Int) := Int.ediv_le_self _ (by omega)
      refine ⟨fun _ => True, trivial, gLen_nm (hb.ev g24.old) ?_⟩
      rw [hmin]
      refine gBin_quo (by omega) ?_
      rw [Int.tdiv_eq_ediv_of_nonneg (by omega), wrap_i64, i64_id (n := (minW xs a : Int) / fr) (by omega) (by omega), i64_id (n := (minW xs a : Int) / fr * fr) (by omega) (by omega), i64_id (n := ((a + 8 : Nat) : Int) + (minW xs a : Int) / fr * fr) (by omega) (by omega)]
      refine fStore g24.drew 3 2 rfl fun w29 g29 => ⟨trivial, fStore g29 3 3 rfl fun w30 g30 => ⟨trivial, ?_⟩⟩
      have g30 : Fr w w30 (chF ad c y xs (a + 8) [sIt w5 (Wv.mk ch bits ((a + 8 : Nat) : Int) (((a + 8 : Nat) : Int) + (minW xs a : Int) / fr * fr)).c, sIt t2 Wv.z.c]) := g30
      refine fWv (Wv.mk ch bits ((a + 8 : Nat) : Int) (((a + 8 : Nat) : Int) + (minW xs a : Int) / fr * fr)) g30 3 rfl ?_
      exact fWvEnd (r := (⟨ch, bits, ((a + 8 : Nat) : Int), ((a + 8 : Nat) : Int) + (minW xs a : Int) / fr * fr⟩, true)) g30 4 rfl rfl (by rw [hfound])
  · rintro _ has' pcm' w32 ⟨ch', bits', hch', hbits', hp', f32⟩
    refine gCall_of (skipW_any f32 hge hl) ?_
    rintro _ w33 (⟨hs, rfl, f33⟩ | ⟨hs, rfl, f33⟩)
    · exact ⟨_, rfl, gIf_nf (fWvEnd (r := noW) f33 4 rfl rfl (by rw [hp', if_pos hs]))⟩
    · refine ⟨_, rfl, gIf_nt ⟨⟨f, a + 8 + skipW xs a, ch', bits', by omega, hch', hbits', by rw [hp', if_neg (by omega)], by omega, f33⟩, ?_⟩⟩
      have hpos2 : posW ad w33 = a + 8 + skipW xs a := by
        unfold posW
        rw [f33.cell (u := .int .i64 ((a + 8 + skipW xs a : Nat) : Int)) 0 1 rfl rfl]; rfl
      dsimp only
      rw [hpos, hpos2]; omega
end
end Go.Proofs.YtilpoinhfiajcaaGreatDoorV

/- Package audio: Pack. -/
namespace Go.Proofs.YtilpoinhfiajcaaGreatDoorV
open Go Go.RowKit
theorem inW_nat {p : Wv} {N : Nat} (h : InW p N) : ∃ F T ch size n : Nat, p = ⟨(ch : Int), ((8 * size : Nat) : Int), (F : Int), (T : Int)⟩ ∧ 1 ≤ ch ∧ ch ≤ 8 ∧ (size = 1 ∨ size = 2) ∧ F < T ∧ T ≤ N ∧ T - F = n * (ch * size) ∧ 1 ≤ n := by
  obtain ⟨a1, a2, a3, a4, a5, a6, a7, a8⟩ := h
  obtain ⟨ch, bits, fr, to⟩ := p
  simp only at *
  obtain ⟨size, hs, hb⟩ : ∃ size : Nat, (size = 1 ∨ size = 2) ∧ bits = ((8 * size : Nat) : Int) := by
    rcases a3 with rfl | rfl
    · exact ⟨1, .inl rfl, rfl⟩
    · exact ⟨2, .inr rfl, rfl⟩
  subst hb
  have hf : ch * ((8 * size : Nat) : Int) / 8 = ((ch.toNat * size : Nat) : Int) := by
    rcases hs with rfl | rfl
    · show ch * 8 / 8 = ((ch.toNat * 1 : Nat) : Int); omega
    · show ch * 16 / 8 = ((ch.toNat * 2 : Nat) : Int); omega
  rw [hf] at a7
  have hd : to - fr = ((to.toNat - fr.toNat : Nat) : Int) := by omega
  rw [hd, ← Int.natCast_emod] at a7
  have h7 : (to.toNat - fr.toNat) % (ch.toNat * size) = 0 := by omega
  have h8 := Nat.div_add_mod (to.toNat - fr.toNat) (ch.toNat * size)
  rw [h7, Nat.add_zero, Nat.mul_comm] at h8
  have hn : 1 ≤ (to.toNat - fr.toNat) / (ch.toNat * size) := by
    refine Decidable.byContradiction fun hc => ?_
    rw [Nat.lt_one_iff.1 (Nat.lt_of_not_le hc), Nat.zero_mul] at h8
    omega
  refine ⟨fr.toNat, to.toNat, ch.toNat, size, (to.toNat - fr.toNat) / (ch.toNat * size), ?_, by omega, by omega, hs, by omega, by omega, h8.symm, hn⟩
  congr 1 <;> omega
def bodyP (r : List (Int × List Int)) : List Int := (r.map fun u => numB u.1.toNat ++ numB u.2.length ++ u.2).flatten
theorem bodyP_next {r : List (Int × List Int)} {k : Nat} (hk : k < r.length) : bodyP (r.take (k + 1)) = bodyP (r.take k) ++ numB r[k].1.toNat ++ (numB r[k].2.length ++ r[k].2) := by
  unfold bodyP
  rw [List.take_succ_eq_append_getElem hk, List.map_append, List.flatten_append]; simp
def nbsA (L : List Int) : List Int := (L.map fun y => numB y.toNat).flatten
theorem nbsA_next {L : List Int} {k : Nat} (hk : k < L.length) : nbsA (L.take (k + 1)) = nbsA (L.take k) ++ numB L[k].toNat := by
  unfold nbsA
  rw [List.take_succ_eq_append_getElem hk, List.map_append, List.flatten_append]; simp
theorem nbsA_len {L : List Int} (h : ∀ x ∈ L, 0 ≤ x ∧ x < 18446744073709551616) : (nbsA L).length ≤ L.length * 10 := by
  induction L with
  | nil => simp [nbsA]
  | cons y L ih =>
    have h1 := ih fun x hx => h x (List.mem_cons_of_mem _ hx)
    have h2 := h y List.mem_cons_self
    have h3 : (numB y.toNat).length ≤ 10 := numB_len64 (by omega)
    have h4 : nbsA (y :: L) = numB y.toNat ++ nbsA L := rfl
    rw [h4, List.length_append, List.length_cons]; omega
noncomputable def packA (xs : List Int) : List Int × Bool :=
  if (parseW xs).2 = true ∧ xs.length ≤ 1048576 then
    let p := (parseW xs).1
    let F := p.fr.toNat
    let T := p.to.toNat
    let ch := p.ch.toNat
    let size := (p.bits / 8).toNat
    let r := allI (splitN ((xs.drop F).take (T - F)) ch size ((T - F) / (ch * size) * ch))
    (nbsA [(xs.length : Int), p.fr, p.to, p.ch, p.bits] ++ numB (if r.2 = true then 1 else 0) ++ (xs.take F ++ xs.drop T) ++ bodyP r.1, true)
  else ([], false)
section
variable {w0 w : World} {F : List It}
theorem Fr.rot {x : It} : ∀ {G : List It}, Fr w0 w (G ++ [x]) → Fr w0 w (x :: G)
  | [], h => h
  | g :: G, h => by
    have h1 : Fr w0 w (G ++ [x]) := h.2.2.2
    have ih := Fr.rot h1
    refine ⟨ih.1, ih.2.1, fun jt hj k hk => ?_, ⟨h.1, h.2.1, fun jt hj => h.2.2.1 jt (List.mem_append_left _ hj), ih.2.2.2⟩⟩
    rcases List.mem_cons.1 hj with rfl | hj
    · exact fun hg => h.2.2.1 x (List.mem_append_right _ (List.mem_singleton.2 rfl)) k hg hk
    · exact ih.2.2.1 jt hj k hk
theorem splitN_mem {xs : List Int} {ch size n : Nat} {ys : List Int} (h : ys ∈ splitN xs ch size (n * ch)) : ys.length = n := by
  unfold splitN at h
  obtain ⟨k, hk, rfl⟩ := List.mem_map.1 h
  unfold trackN
  rw [tab_len, cntT_all (List.mem_range.1 hk)]
theorem aPack_any {b : Value} {xs : List Int} (hb : Nm .u8 w b xs) (hl : xs.length ≤ 1000000000) : Calls P n_audio_Pack #[b] w (TupB w (packA xs)) := by
  refine of_audio_Pack (gCall_wav (wvParse_any hb hl) fun w1 h1 => fWvNew ((Fr.start w).ev h1) fun w4 w2 f2 => fWvSet f2 0 rfl rfl fun w3 f3 => ?_)
  have f3 : Fr w w3 [sIt w4 (parseW xs).1.c] := f3
  have nope : ¬ ((parseW xs).2 = true ∧ xs.length ≤ 1048576) → TupB w (packA xs) (.returned (.tuple #[.slice none 0 0, .bool false])) w3 := fun hn => by
    unfold packA; rw [if_neg hn]
    exact ⟨_, rfl, f3.old, ON.nil _ _ _ _⟩
  refine ⟨fun w' => ((parseW xs).2 = true ∧ xs.length ≤ 1048576) ∧ w' = w3, gIf_nnb (fun ht => gLen_nm (hb.ev f3.old) (gIf_dec (fun hgt => nope (by omega)) (fun hle => ⟨⟨ht, by omega⟩, rfl⟩))) (fun hf => nope (by rw [hf]; simp)), ?_⟩
  rintro _ w4' ⟨⟨ht, hle⟩, hw4⟩
  obtain rfl : w3 = w4' := hw4.symm
  obtain ⟨Fn, T, ch, size, n, hp, c1, c8, hs, hFT, hTN, hn, hn1⟩ := inW_nat (parseW_in ht)
  obtain ⟨p, hpe⟩ : ∃ p, p = (parseW xs).1 := ⟨_, rfl⟩
  rw [← hpe] at hp f3
  have hpk : packA xs = (nbsA [(xs.length : Int), (Fn : Int), (T : Int), (ch : Int), ((8 * size : Nat) : Int)] ++ numB (if (allI (splitN ((xs.drop Fn).take (T - Fn)) ch size (n * ch))).2 = true then 1 else 0) ++ (xs.take Fn ++ xs.drop T) ++ bodyP (allI (splitN ((xs.drop Fn).take (T - Fn)) ch size (n * ch))).1, true) := by
    unfold packA
    rw [if_pos ⟨ht, hle⟩, ← hpe, hp]
    dsimp only
    have e1 : (((8 * size : Nat) : Int) / 8).toNat = size := by omega
    have e2 : (T - Fn) / (ch * size) = n := by rw [hn, Nat.mul_div_cancel _ (Nat.mul_pos (by omega) (by omega))]
    simp only [Int.toNat_natCast, e1, e2]
  rw [hpk]
  rw [hp] at f3
  have hch : 1 ≤ ch * size := Nat.mul_le_mul c1 (show 1 ≤ size by omega)
  have hnT : n ≤ T - Fn := by rw [hn]; exact Nat.le_mul_of_pos_right _ hch
  obtain ⟨cc, hcc⟩ : ∃ cc, cc = (Wv.mk (ch : Int) ((8 * size : Nat) : Int) (Fn : Int) (T : Int)).c := ⟨_, rfl⟩
  rw [← hcc] at f3
  have cj : cc[0]? = some (.int .i64 (ch : Int)) ∧ cc[1]? = some (.int .i64 ((8 * size : Nat) : Int)) ∧ cc[2]? = some (.int .i64 (Fn : Int)) ∧ cc[3]? = some (.int .i64 (T : Int)) := by rw [hcc]; exact ⟨rfl, rfl, rfl, rfl⟩
  obtain ⟨cj0, cj1, cj2, cj3⟩ := cj
  have hB : ∀ {w' : World} {F' : List It} (i : Nat), Fr w w' F' → F'[i]? = some (sIt w4 cc) → ∀ (j : Nat) (u : Value), cc[j]? = some u → w'.cell? (w4.add j) = some u := fun i f hi j u hj => f.cell i j hi hj
  refine ⟨fun w' => ∀ (j : Nat) (u : Value), cc[j]? = some u → w'.cell? (w4.add j) = some u, hB 0 f3.drew rfl, gLoadB_i (fun w' hw => hw 2 _ cj2) (gLoadB_i (fun w' hw => hw 3 _ cj3) (gSlice_nm (hb.ev f3.drew.old) Fn T (.inr ⟨_, rfl⟩) (.inr ⟨_, rfl⟩) (by omega) hTN fun hsl => gLoadB_i (fun w' hw => hw 0 _ cj0) (gLoadB_i (fun w' hw => hw 1 _ cj1) ?_)))⟩
  obtain ⟨xss, hxs⟩ : ∃ xss, xss = splitN ((xs.drop Fn).take (T - Fn)) ch size (n * ch) := ⟨_, rfl⟩
  have hxm : ∀ ys ∈ xss, ys.length = n := fun ys h => splitN_mem (hxs ▸ h)
  have hxl : xss.length = ch := by rw [hxs, splitN_len]
  refine gCall_of (Split_any (n := n) hsl c1 c8 hs (by rw [List.length_take, List.length_drop]; omega) (by rw [List.length_take, List.length_drop]; omega)) ?_
  rintro _ w5 ⟨v5, T5, rfl, hT5, g5⟩
  rw [← hxs] at hT5 ⊢
  have f5 := f3.drew.ev g5.old
  refine ⟨_, _, rfl, hB 0 f5 rfl, gIf_neq (fun h => (h rfl).elim) (fun _ => ?_)⟩
  have hT5l : T5.length = ch := by have := congrArg List.length hT5; rw [List.length_map] at this; omega
  have hu5 : ∀ (i : Nat) (u : Value) (ys : List Int), (T5.map (·.1))[i]? = some u → xss[i]? = some ys → Nm .i32 w5 u ys := fun i u ys h1 h2 => by
    rw [List.getElem?_map] at h1
    rw [← hT5, List.getElem?_map] at h2
    cases ht : T5[i]? with
    | none => rw [ht] at h1; cases h1
    | some t =>
      rw [ht] at h1 h2
      simp at h1 h2
      subst h1; subst h2
      exact g5.nm (i + 1) (by unfold trF; rw [List.getElem?_cons_succ, List.getElem?_map, ht]; rfl)
  refine gCall_of (all_any (us := T5.map (·.1)) (xss := xss) (by rw [List.length_map]; exact g5.row 0 rfl) (by rw [List.length_map]; omega) hu5 (by rw [List.length_map]; omega) (fun ys h he => by have := hxm ys h; rw [he] at this; simp at this; omega) (fun ys h => by have := hxm ys h; omega) (fun ys h zs h2 => by rw [hxm ys h, hxm zs h2])) ?_
  rintro _ w6 ⟨v6, Q, rfl, hQ, g6⟩
  have f6 := (f5.glue g6).rot
  obtain ⟨r, hr⟩ : ∃ r, r = allI xss := ⟨_, rfl⟩
  rw [← hr] at hQ ⊢
  have hQl : Q.length ≤ 8 := by
    have h1 := congrArg List.length hQ
    rw [List.length_map] at h1
    have h2 : r.1.length ≤ 8 := by
      rw [hr]; unfold allI
      split
      · simp; omega
      · split
        · simp
        · simp; omega
    omega
  have hlx : ∀ ys : List Int, ys.length ≤ 1048576 → (pkT ys).2.length ≤ 10000000 := fun ys h => by have := pkT_len h; omega
  have hrl : ∀ u ∈ r.1, 0 ≤ u.1 ∧ u.1 ≤ 4 ∧ u.2.length ≤ 10000000 := fun u hu => by
    have key : ∃ ys : List Int, ys.length ≤ 1048576 ∧ u = pkT ys := by
      rw [hr] at hu
      unfold allI at hu
      have hmap : u ∈ xss.map pkT → ∃ ys : List Int, ys.length ≤ 1048576 ∧ u = pkT ys := fun h => by
        obtain ⟨ys, h1, rfl⟩ := List.mem_map.1 h
        exact ⟨ys, by have := hxm ys h1; omega, rfl⟩
      have hgd : (xss.getD 0 []).length ≤ 1048576 := by
        rw [List.getD_eq_getElem?_getD]
        cases h : xss[0]? with
        | none => simp
        | some ys => have := hxm ys (List.mem_of_getElem? h); simp; omega
      split at hu
      · exact hmap hu
      · split at hu
        · simp only [List.mem_cons, List.not_mem_nil, or_false] at hu
          rcases hu with rfl | rfl
          · exact ⟨_, by unfold midL; rw [tab_len]; exact hgd, rfl⟩
          · exact ⟨_, by unfold sideL; rw [tab_len]; exact hgd, rfl⟩
        · exact hmap hu
    obtain ⟨ys, h1, rfl⟩ := key
    have := pkT_kind (l := ys)
    exact ⟨this.1, this.2.1, hlx ys h1⟩
  refine ⟨_, _, rfl, fNewW f6 fun o10 v7 w7 f7 => gLen_nm (hb.ev f7.old) (fLoad_i (n := (Fn : Int)) f7 1 2 rfl cj2 (fLoad_i (n := (T : Int)) f7 1 3 rfl cj3 (fLoad_i (n := (ch : Int)) f7 1 0 rfl cj0 (fLoad_i (n := ((8 * size : Nat) : Int)) f7 1 1 rfl cj1 ?_))))⟩
  obtain ⟨L, hL⟩ : ∃ L : List Int, L = [(xs.length : Int), (Fn : Int), (T : Int), (ch : Int), ((8 * size : Nat) : Int)] := ⟨_, rfl⟩
  have hLr : ∀ x ∈ L, 0 ≤ x ∧ x < 9223372036854775807 := fun x hx => by
    rw [hL] at hx
    simp only [List.mem_cons, List.not_mem_nil, or_false] at hx
    rcases hx with rfl | rfl | rfl | rfl | rfl <;> omega
  have hL5 : L.length = 5 := by rw [hL]; rfl
  have hLi : inR .i64 L := fun x hx => by
    have h1 : IntKind.i64.min = -9223372036854775808 := by decide
    have h2 : IntKind.i64.max = 9223372036854775807 := by decide
    have := hLr x hx
    rw [h1, h2]; omega
  refine fLit_n L f7 (by rw [hL]; rfl) hL5 hLi fun t58 w8 f8 => gLen_nm (f8.nm 0 rfl) ?_
  rw [hL5, ← hL]
  have hnl : ∀ k, (nbsA (L.take k)).length ≤ 50 := fun k => by
    have h1 := nbsA_len (L := L.take k) fun x hx => by have := hLr x (List.mem_of_mem_take hx); omega
    have h2 : (L.take k).length ≤ 5 := by rw [List.length_take]; omega
    omega
  have f8 : Fr w w8 (oIt .i64 (elOf P t_sl_int) t58 L :: wIt eB o10 v7 [] :: sIt w4 cc :: pkF v6 Q) := f8
  refine ⟨fun i w' => ∃ (k : Nat) (v : Value), i = (k : Int) ∧ k ≤ 5 ∧ Fr w w' (oIt .i64 (elOf P t_sl_int) t58 L :: wIt eB o10 v (nbsA (L.take k)) :: sIt w4 cc :: pkF v6 Q), fun i _ => (5 - i).toNat, ⟨0, v7, rfl, by omega, f8⟩, ?_⟩
  rintro _ i w9 ⟨k, v9, rfl, hk, f9⟩
  refine gIf_dec (fun hlt => ?_) (fun hge => ?_)
  · have hk5 : k < L.length := by omega
    have hrk := hLr L[k] (List.getElem_mem hk5)
    refine gGet (f9.nm 0 rfl) (by omega) (by omega) ?_
    rw [rd_nat L k hk5, show u64 L[k] = L[k] by rw [u64_def]; omega]
    have hk1 := hnl k
    refine fNum f9 1 rfl (by omega) (by omega) fun v' w' f' => ⟨⟨k + 1, v', by rw [i64_id (by omega) (by omega)]; omega, by omega, ?_⟩, by dsimp only; rw [i64_id (by omega) (by omega)]; omega⟩
    rw [nbsA_next hk5]; exact f'
  obtain rfl : k = 5 := by omega
  have hk5 := hnl 5
  rw [List.take_of_length_le (by omega)] at f9 hk5
  obtain ⟨fl, hfl⟩ : ∃ fl : Nat, fl = if r.2 = true then 1 else 0 := ⟨_, rfl⟩
  rw [← hfl]
  have hfl1 : (numB fl).length ≤ 10 := numB_len64 (by rw [hfl]; split <;> omega)
  refine ⟨fun w' => ∃ v : Value, Fr w w' (oIt .i64 (elOf P t_sl_int) t58 L :: wIt eB o10 v (nbsA L ++ numB fl) :: sIt w4 cc :: pkF v6 Q), gIf_b (fun h => ?_) (fun h => ?_), ?_⟩
  · rw [h, if_pos rfl] at hfl
    subst hfl
    exact fNum f9 1 rfl (by decide) (by omega) fun v' w' f' => ⟨v', f'⟩
  · rw [h, if_neg (by decide)] at hfl
    subst hfl
    exact fNum f9 1 rfl (by decide) (by omega) fun v' w' f' => ⟨v', f'⟩
  rintro _ w13 ⟨v13, f13⟩
  refine ⟨fun w' => ∀ (j : Nat) (u : Value), cc[j]? = some u → w'.cell? (w4.add j) = some u, hB 2 f13.drew rfl, gLoadB_i (fun w' hw => hw 2 _ cj2) (gSlice_nm (hb.ev f13.drew.old) 0 Fn (.inl ⟨rfl, rfl⟩) (.inr ⟨_, rfl⟩) (Nat.zero_le _) (by omega) fun hs1 => gLoadB_i (fun w' hw => hw 3 _ cj3) (gSlice_nm (hb.ev f13.drew.old) T xs.length (.inr ⟨_, rfl⟩) (.inl ⟨rfl, rfl⟩) hTN (Nat.le_refl _) fun hs2 => ?_))⟩
  have hbn : ∀ {w'}, Ev w w' → Nm .u8 w' (subV 1 b 0 Fn) (xs.take Fn) ∧ Nm .u8 w' (subV 1 b T xs.length) (xs.drop T) := fun he => by
    have h1 := (hb.ev he).sub 0 Fn (Nat.zero_le _) (by omega)
    have h2 := (hb.ev he).sub T xs.length hTN (Nat.le_refl _)
    rw [Nat.sub_zero, List.drop_zero] at h1
    rw [List.take_of_length_le (by rw [List.length_drop]; exact Nat.le_refl _)] at h2
    exact ⟨h1, h2⟩
  refine fLitV [subV 1 b 0 Fn, subV 1 b T xs.length] f13.drew rfl rfl (fun v hv => by
    simp only [List.mem_cons, List.not_mem_nil, or_false] at hv
    rcases hv with rfl | rfl
    · exact (hbn f13.old).1.one
    · exact (hbn f13.old).2.one) fun t79 w14 f14 => ⟨hB 3 f14 rfl, ?_⟩
  have hfl2 : [xs.take Fn, xs.drop T].flatten = xs.take Fn ++ xs.drop T := by simp
  have hfl3 : (xs.take Fn ++ xs.drop T).length ≤ 1048576 := by rw [List.length_append, List.length_take, List.length_drop]; omega
  refine fRawW (yss := [xs.take Fn, xs.drop T]) f14 2 rfl (fun w' f' => NL.of (f'.sl 0 rfl) rfl fun j u ys hu hy => ?_) (by rw [hfl2, List.length_append]; omega) (by simp) fun v15 w15 f15 => ⟨hB 3 f15 rfl, ?_⟩
  · rcases j with _ | _ | j
    · simp at hu hy; subst hu; subst hy; exact (hbn f'.old).1
    · simp at hu hy; subst hu; subst hy; exact (hbn f'.old).2
    · simp at hu
  rw [hfl2] at f15
  obtain ⟨Hd, hHd⟩ : ∃ Hd, Hd = nbsA L ++ numB fl ++ (xs.take Fn ++ xs.drop T) := ⟨_, rfl⟩
  have hHdl : Hd.length ≤ 2000000 := by rw [hHd, List.length_append, List.length_append]; omega
  have f15 : Fr w w15 (lIt (elOf P t_sl_sl_uint8) t79 [subV 1 b 0 Fn, subV 1 b T xs.length] :: oIt .i64 (elOf P t_sl_int) t58 L :: wIt eB o10 v15 Hd :: sIt w4 cc :: pkF v6 Q) := by rw [hHd]; exact f15
  rw [← hHd]
  have hrQ : r.1.length = Q.length := by rw [← hQ, List.length_map]
  have hbl : ∀ k, k ≤ r.1.length → (bodyP (r.1.take k)).length ≤ k * 20000000 := by
    intro k
    induction k with
    | zero => intro _; simp [bodyP]
    | succ k ih =>
      intro hk
      have h1 := hrl r.1[k] (List.getElem_mem (by omega))
      have h2 : (numB r.1[k].1.toNat).length ≤ 10 := numB_len64 (by omega)
      have h3 : (numB r.1[k].2.length).length ≤ 10 := numB_len64 (by omega)
      have h4 := ih (by omega)
      rw [bodyP_next (by omega)]
      simp only [List.length_append]; omega
  refine gLen_slv (pk_at (f15.dropN 4)).1 ⟨fun i w' => ∃ (k : Nat) (v : Value), i = (k : Int) ∧ k ≤ Q.length ∧ Fr w w' (lIt (elOf P t_sl_sl_uint8) t79 [subV 1 b 0 Fn, subV 1 b T xs.length] :: oIt .i64 (elOf P t_sl_int) t58 L :: wIt eB o10 v (Hd ++ bodyP (r.1.take k)) :: sIt w4 cc :: pkF v6 Q), fun i _ => (Q.length - i).toNat, ⟨0, v15, rfl, Nat.zero_le _, by simpa [bodyP] using f15⟩, ?_⟩
  rintro _ i w16 ⟨k, v16, rfl, hk, f16⟩
  have hbk := hbl k (by omega)
  have hk8 : k * 20000000 ≤ 8 * 20000000 := Nat.mul_le_mul_right _ (by omega)
  refine gIf_dec (fun hlt => ?_) (fun hge => ?_)
  · have hkQ : k < Q.length := by omega
    have hkr : k < r.1.length := by omega
    have hu : Q[k]? = some Q[k] := List.getElem?_eq_getElem hkQ
    have hrk : r.1[k] = pkp Q[k] := by
      have h0 : (Q.map pkp)[k]'(by rw [List.length_map]; exact hkQ) = pkp Q[k] := List.getElem_map _
      rw [← h0]; simp only [hQ]
    have hr1 := hrl r.1[k] (List.getElem_mem hkr)
    rw [hrk] at hr1
    have hr1 : 0 ≤ Q[k].1 ∧ Q[k].1 ≤ 4 ∧ Q[k].2.2.length ≤ 10000000 := hr1
    have hnm : ∀ {w'}, Fr w w' (pkF v6 Q) → Nm .u8 w' Q[k].2.1 Q[k].2.2 := fun f => (pk_at f).2 _ (List.getElem_mem hkQ)
    refine gPk (pk_at (f16.dropN 4)).1 hu (fAlloc (z := .agg #[.int .i64 0, .slice none 0 0]) f16 (by kernel_rfl) fun p14 w17 f17 => fStoreA f17 0 rfl (fun w18 f18 => ?_) rfl (fun x hx => ?_))
    · have f18 : Fr w w18 (sIt p14 [.int .i64 Q[k].1, Q[k].2.1] :: lIt (elOf P t_sl_sl_uint8) t79 [subV 1 b 0 Fn, subV 1 b T xs.length] :: oIt .i64 (elOf P t_sl_int) t58 L :: wIt eB o10 v16 (Hd ++ bodyP (r.1.take k)) :: sIt w4 cc :: pkF v6 Q) := f18
      rw [Addr.add_zero']
      refine fLoad_i (n := Q[k].1) f18 0 0 rfl rfl ?_
      rw [show u64 Q[k].1 = Q[k].1 by rw [u64_def]; omega]
      have hnk : (numB Q[k].1.toNat).length ≤ 10 := numB_len64 (by omega)
      refine fNum f18 3 rfl (by omega) (by rw [List.length_append]; omega) fun v19 w19 f19 => fLoad_v f19 0 1 rfl rfl ?_
      refine fTextW (ys := Q[k].2.2) f19 3 rfl (fun w' f' => hnm (f'.dropN 4)) (by simp only [List.length_append]; omega) fun v20 w20 f20 => ⟨⟨k + 1, v20, by rw [i64_id (by omega) (by omega)]; omega, hkQ, ?_⟩, by dsimp only; rw [i64_id (by omega) (by omega)]; omega⟩
      have e : Hd ++ bodyP (r.1.take (k + 1)) = Hd ++ bodyP (r.1.take k) ++ numB Q[k].1.toNat ++ numB Q[k].2.2.length ++ Q[k].2.2 := by
        rw [bodyP_next hkr, hrk]; simp [pkp]
      rw [e]
      exact f20.drop 0
    · simp at hx
      rcases hx with rfl | rfl
      · rfl
      · obtain ⟨a, c, he, _⟩ := (hnm (f16.dropN 4)).shape
        rw [he]; rfl
  · obtain rfl : k = Q.length := by omega
    rw [← hrQ, List.take_length] at f16 hbk
    refine fBytesW f16 2 rfl (by rw [List.length_append]; omega) fun y w21 f21 => ⟨y, rfl, f21.old, f21.on 0 rfl⟩
end
end Go.Proofs.YtilpoinhfiajcaaGreatDoorV

/- Package num: what is written is read; the laws NumNil and NumBack. -/
namespace Go.Proofs.YtilpoinhfiajcaaGreatDoorV
open Go Go.RowKit

/-! ### Laws -/
/-- A writer in memory that is new since w0. -/
def FWr (w0 w : World) (ad : Addr) (xs : List Int) : Prop := ∃ v, W1 w ad v xs ∧ Ev w0 w ∧ w0.heap.size ≤ ad.block ∧ ∀ g, v.ownBlock = some g → w0.heap.size ≤ g
theorem FWr.to {w0 w w' : World} {ad : Addr} {v : Value} {ys : List Int} (h1 : Ev w0 w) (h2 : w0.heap.size ≤ ad.block) (h3 : ∀ g, v.ownBlock = some g → w0.heap.size ≤ g) (h : ∃ v', WS w w' ad v v' ys) : FWr w0 w' ad ys := by
  obtain ⟨v', hW⟩ := h
  have := WrS.evn h1 hW h2 h3
  exact ⟨v', hW.1, this.1, h2, this.2⟩
theorem FWr.ev {w0 w w' : World} {ad : Addr} {xs : List Int} (h : FWr w0 w ad xs) (he : Ev w w') : FWr w0 w' ad xs := by
  obtain ⟨v, h1, h2, h3, h4⟩ := h; exact ⟨v, h1.ev he, h2.trans he, h3, h4⟩
theorem newW {w0 w : World} {K : Addr → World → Prop} (h0 : Ev w0 w) (hk : ∀ ad w', FWr w0 w' ad [] → K ad w') : gAlloc P t_num_Writer w K :=
  gAlloc_of (z := .agg #[.slice none 0 0]) (by kernel_rfl) fun ad w' h1 had hs hS => hk ad w' ⟨.slice none 0 0, ⟨hS, ON.nil _ _ _ _, fun h => by cases h⟩, h0.trans h1, by rw [had]; exact h0.size, fun g hg => by cases hg⟩
theorem lNum {w0 w : World} {ad : Addr} {xs : List Int} {n : Int} {K : World → Prop} (h : FWr w0 w ad xs) (hn : 0 ≤ n ∧ n < 18446744073709551616) (hl : xs.length + 10 ≤ 10000000000) (hk : ∀ w', FWr w0 w' ad (xs ++ numB n.toNat) → K w') : gCall P n_num_Writer_Num shU #[.pointer (some ad), .int .u64 n] w K := by
  obtain ⟨v, h1, h2, h3, h4⟩ := h; exact gCall_u (Num_any h1 hn hl) fun w' hw => hk w' (FWr.to h2 h3 h4 hw)
theorem lBytes {w0 w : World} {ad : Addr} {xs : List Int} {K : Value → World → Prop} (h : FWr w0 w ad xs) (hl : xs.length ≤ 10000000000) (hk : ∀ y w', Ev w w' → ON .u8 eB w' w.heap.size y xs → K y w') : gCall P n_num_Writer_Bytes shV #[.pointer (some ad)] w K := by
  obtain ⟨v, h1, h2, h3, h4⟩ := h; exact gCall_v (Bytes_W h1 hl) fun y w' hw => hk y w' hw.1 hw.2
end Go.Proofs.YtilpoinhfiajcaaGreatDoorV

/- Six numbers ahead, and what is read of them: plain. -/
namespace Go.Proofs.YtilpoinhfiajcaaGreatDoorV
open Go Go.RowKit
def cap40 (v : Int) : Int := if 1099511627776 < v then 1099511627776 else v
def numsN (xs : List Int) : Nat → List Int × Nat × Int
  | 0 => ([], 0, 0)
  | k + 1 => ((numsN xs k).1 ++ [cap40 (numR xs (numsN xs k).2.1 (numsN xs k).2.2 18446744073709551615).1], (numR xs (numsN xs k).2.1 (numsN xs k).2.2 18446744073709551615).2)
theorem numsN_len (xs : List Int) : ∀ k, (numsN xs k).1.length = k
  | 0 => rfl
  | k + 1 => by rw [numsN, List.length_append, numsN_len]; rfl
theorem lookL_er {xs : List Int} {a : Nat} : ∀ (f n : Nat) (v : Int), (lookL xs a f n v).2.2 = 0 ∨ (lookL xs a f n v).2.2 = 3 ∨ (lookL xs a f n v).2.2 = 4
  | 0, _, _ => .inr (.inr rfl)
  | f + 1, n, v => by
    unfold lookL
    split
    · exact .inr (.inl rfl)
    · split
      · exact .inr (.inr rfl)
      · split
        · split
          · exact .inr (.inr rfl)
          · exact .inl rfl
        · exact lookL_er f _ _
def ErR (e : Int) : Prop := e = 0 ∨ e = 3 ∨ e = 4
theorem numR_er {xs : List Int} {a : Nat} {er m : Int} (h : ErR er) : ErR (numR xs a er m).2.2 := by
  unfold numR
  split
  · exact h
  · split
    · exact .inr (.inr rfl)
    · split
      · exact lookL_er 10 0 0
      · exact .inl rfl
theorem numsN_er (xs : List Int) : ∀ k, ErR (numsN xs k).2.2
  | 0 => .inl rfl
  | k + 1 => by rw [numsN]; exact numR_er (numsN_er xs k)
theorem rawR_erR {xs : List Int} {a : Nat} {er n : Int} (h : ErR er) : ErR (rawR xs a er n).2.2 := by
  unfold rawR
  split
  · exact h
  · split
    · exact .inr (.inl rfl)
    · exact .inl rfl
theorem endR_er {n a : Nat} {er : Int} (h : ErR er) : ErR (endR n a er) := by
  unfold endR
  split
  · exact h
  · split
    · exact .inr (.inr rfl)
    · exact .inl rfl
theorem rawR_0 {xs : List Int} {a : Nat} {er n : Int} (hn : 0 ≤ n) (h : (rawR xs a er n).2.2 = 0) : (rawR xs a er n).1.length = n.toNat ∧ er = 0 := by
  have he := rawR_er h
  subst he
  unfold rawR at h ⊢
  by_cases h0 : n ≤ 0
  · rw [if_pos (.inr h0)]; exact ⟨by simp; omega, rfl⟩
  · rw [if_neg (by omega)] at h ⊢
    split at h
    · cases h
    · rename_i hle
      rw [if_neg hle]
      exact ⟨by rw [List.length_take, List.length_drop]; omega, rfl⟩
def numsB (qs : List Nat) : List Int := (qs.map numB).flatten
theorem numsB_snoc (qs : List Nat) (q : Nat) : numsB (qs ++ [q]) = numsB qs ++ numB q := by simp [numsB]
theorem cap40_rng {v : Int} (h : 0 ≤ v) : 0 ≤ cap40 v ∧ cap40 v ≤ 1099511627776 := by unfold cap40; split <;> omega
theorem numsN_rng {xs : List Int} (hx : inR .u8 xs) : ∀ k, ∀ x ∈ (numsN xs k).1, 0 ≤ x ∧ x ≤ 1099511627776
  | 0, _, h => by cases h
  | k + 1, x, h => by
    rw [numsN] at h
    rcases List.mem_append.1 h with h | h
    · exact numsN_rng hx k x h
    · simp at h; subst h; exact cap40_rng (numR_rng hx).1
theorem numsN_at (xs : List Int) : ∀ k, (numsN xs k).2.1 ≤ xs.length
  | 0 => Nat.zero_le _
  | k + 1 => by rw [numsN]; exact numR_le (numsN_at xs k)
theorem rawR_lx {xs : List Int} {a : Nat} {er n : Int} : (rawR xs a er n).1.length ≤ xs.length := by
  unfold rawR; split
  · simp
  · split
    · simp
    · rw [List.length_take, List.length_drop]; omega
theorem rd_mg {k : IntKind} {xs : List Int} {j : Nat} (h : j < xs.length) : (xs.map (Value.int k))[j]? = some (.int k (rd xs (j : Int))) := by
  rw [List.getElem?_map, List.getElem?_eq_getElem h, rd_nat xs j h]; rfl
theorem half6 {l : List Int} {k : Nat} (hl : l.length = k) (hk : k < 6) (x : Int) : ((l ++ List.replicate (6 - k) 0).map (Value.int .i64)).set k (.int .i64 x) = ((l ++ [x]) ++ List.replicate (6 - (k + 1)) 0).map (Value.int .i64) := by
  rw [← List.map_set]
  congr 1
  rw [show 6 - k = (6 - (k + 1)) + 1 by omega, List.replicate_succ, List.set_append_right _ _ (by omega), hl, Nat.sub_self, List.set_cons_zero, List.append_assoc]; rfl
end Go.Proofs.YtilpoinhfiajcaaGreatDoorV

/- Package audio: the measures, read. -/
namespace Go.Proofs.YtilpoinhfiajcaaGreatDoorV
open Go Go.RowKit
def okM (n F T ch bits mid : Int) : Bool := decide ((1 ≤ ch ∧ ch ≤ 8) ∧ (bits = 8 ∨ bits = 16) ∧ mid ≤ 1 ∧ (mid = 0 ∨ ch = 2) ∧ F ≤ T ∧ T ≤ n ∧ (T - F) % (ch * bits / 8) = 0)
/-- The measures of bytes, and whether they may be. -/
def msOf (xs : List Int) : Array Value := #[.int .i64 (rd (numsN xs 6).1 3), .int .i64 (rd (numsN xs 6).1 4), .int .i64 (rd (numsN xs 6).1 1), .int .i64 (rd (numsN xs 6).1 2), .int .i64 (rd (numsN xs 6).1 0), .int .i64 (rd (numsN xs 6).1 5)]
def okX (xs : List Int) : Bool := okM (rd (numsN xs 6).1 0) (rd (numsN xs 6).1 1) (rd (numsN xs 6).1 2) (rd (numsN xs 6).1 3) (rd (numsN xs 6).1 4) (rd (numsN xs 6).1 5)
def ReadE (w0 : World) (ad : Addr) (y : Value) (xs : List Int) (G : List It) (e : Ending) (w' : World) : Prop :=
  e = .returned (.tuple #[.agg (msOf xs), .bool (okX xs)]) ∧ Fr w0 w' (sIt ad [y, .int .i64 ((numsN xs 6).2.1 : Nat), .int .i64 (numsN xs 6).2.2] :: oIt .u8 eB y xs :: G)
section
variable {w0 w : World} {G : List It} {ad : Addr} {y : Value} {xs : List Int}
theorem read_any (f : Fr w0 w (sIt ad [y, .int .i64 ((0 : Nat) : Int), .int .i64 0] :: oIt .u8 eB y xs :: G)) (hl : xs.length ≤ 1000000000) : Calls P n_audio_read #[.pointer (some ad)] w (ReadE w0 ad y xs G) := by
  have hx : inR .u8 xs := (f.nm 1 rfl).2
  refine of_audio_read (fAlloc (z := .agg #[.int .i64 0, .int .i64 0, .int .i64 0, .int .i64 0, .int .i64 0, .int .i64 0]) f (by kernel_rfl) fun t2 w1 f1 => fAlloc (z := .agg (Array.replicate 6 (.int .i64 0))) f1 (by kernel_rfl) fun l4 w2 f2 => ?_)
  obtain ⟨z6, hz6⟩ : ∃ z6 : List Value, z6 = [.int .i64 0, .int .i64 0, .int .i64 0, .int .i64 0, .int .i64 0, .int .i64 0] := ⟨_, rfl⟩
  have f2 : Fr w0 w2 (sIt l4 (((numsN xs 0).1 ++ List.replicate (6 - 0) 0).map (.int .i64)) :: sIt t2 z6 :: sIt ad [y, .int .i64 ((numsN xs 0).2.1), .int .i64 (numsN xs 0).2.2] :: oIt .u8 eB y xs :: G) := by rw [hz6]; exact f2
  have f2 : Fr w0 w2 (sIt ad [y, .int .i64 ((numsN xs 0).2.1), .int .i64 (numsN xs 0).2.2] :: oIt .u8 eB y xs :: sIt l4 (((numsN xs 0).1 ++ List.replicate (6 - 0) 0).map (.int .i64)) :: sIt t2 z6 :: G) := f2.picksN 4 [2, 3, 0, 1] (by decide) (by decide)
  refine ⟨fun i w' => ∃ k : Nat, i = (k : Int) ∧ k ≤ 6 ∧ Fr w0 w' (sIt ad [y, .int .i64 ((numsN xs k).2.1), .int .i64 (numsN xs k).2.2] :: oIt .u8 eB y xs :: sIt l4 (((numsN xs k).1 ++ List.replicate (6 - k) 0).map (.int .i64)) :: sIt t2 z6 :: G), fun i _ => (6 - i).toNat, ⟨0, rfl, by omega, f2⟩, ?_⟩
  rintro _ i w3 ⟨k, rfl, hk, f3⟩
  refine gIf_dec (fun hlt => ?_) (fun hge => ?_)
  · have hk6 : k < 6 := by omega
    refine fNumR f3 (numsN_at xs k) (by omega) fun w4 f4 => gIdx_ar1 6 k rfl hk6 ?_
    have hr := cap40_rng (numR_rng (xs := xs) (a := (numsN xs k).2.1) (er := (numsN xs k).2.2) (most := 18446744073709551615) hx).1
    have hc : i64 (if 1099511627776 < (numR xs (numsN xs k).2.1 (numsN xs k).2.2 18446744073709551615).1 then 1099511627776 else (numR xs (numsN xs k).2.1 (numsN xs k).2.2 18446744073709551615).1) = cap40 (numR xs (numsN xs k).2.1 (numsN xs k).2.2 18446744073709551615).1 := by
      show i64 (cap40 _) = _; rw [i64_id (by omega) (by omega)]
    rw [hc]
    refine fStore f4 2 k rfl (fun w5 f5 => ?_) (by rw [List.length_map, List.length_append, numsN_len, List.length_replicate]; omega)
    rw [half6 (numsN_len xs k) hk6] at f5
    exact ⟨⟨k + 1, by rw [i64_id (by omega) (by omega)]; omega, by omega, f5⟩, by dsimp only; rw [i64_id (by omega) (by omega)]; omega⟩
  have hk6 : k = 6 := by omega
  subst hk6
  have hnl := numsN_len xs 6
  have hrg := numsN_rng hx 6
  rw [show List.replicate (6 - 6) (0 : Int) = [] from rfl, List.append_nil] at f3
  unfold ReadE msOf okX
  obtain ⟨l, hlq⟩ : ∃ l : List Int, l = (numsN xs 6).1 := ⟨_, rfl⟩
  rw [← hlq] at hnl hrg f3 ⊢
  have hr : ∀ j : Nat, j < 6 → 0 ≤ rd l (j : Int) ∧ rd l (j : Int) ≤ 1099511627776 := fun j hj => hrg _ (rd_mem (xs := l) (i := (j : Int)) (by omega) (by omega))
  have ld : ∀ {j : Nat} {K : Int → Prop}, j < 6 → K (rd l (j : Int)) → gIdx P t_ar6_int (.pointer (some l4)) (.int .i64 (j : Int)) fun t38 => gLoad P t_int (shI .i64) (.pointer (some t38)) w3 K := fun {j K} hj hk =>
    gIdx_ar1 6 j rfl hj (fLoad_i (n := rd l (j : Int)) f3 2 j rfl (rd_mg (k := .i64) (xs := l) (by omega)) hk)
  refine ld (j := 1) (by omega) (ld (j := 2) (by omega) (ld (j := 3) (by omega) (ld (j := 4) (by omega) (ld (j := 0) (by omega) (ld (j := 5) (by omega) ?_)))))
  have r0 := hr 0 (by omega)
  have r1 := hr 1 (by omega)
  have r2 := hr 2 (by omega)
  have r3 := hr 3 (by omega)
  have r4 := hr 4 (by omega)
  have r5 := hr 5 (by omega)
  simp only [show (((0 : Nat) : Int)) = 0 from rfl, show (((1 : Nat) : Int)) = 1 from rfl, show (((2 : Nat) : Int)) = 2 from rfl, show (((3 : Nat) : Int)) = 3 from rfl, show (((4 : Nat) : Int)) = 4 from rfl, show (((5 : Nat) : Int)) = 5 from rfl] at r0 r1 r2 r3 r4 r5 ⊢
  generalize rd l 0 = n at *
  generalize rd l 1 = Fm at *
  generalize rd l 2 = T at *
  generalize rd l 3 = ch at *
  generalize rd l 4 = bits at *
  generalize rd l 5 = mid at *
  refine fAlloc (z := .agg #[.int .i64 0, .int .i64 0, .int .i64 0, .int .i64 0, .int .i64 0, .int .i64 0]) f3 (by kernel_rfl) fun m6 w6 f6 => fStoreA f6 0 rfl (fun w7 f7 => ?_) rfl
  obtain ⟨mc, hmc⟩ : ∃ mc : List Value, mc = [.int .i64 ch, .int .i64 bits, .int .i64 Fm, .int .i64 T, .int .i64 n, .int .i64 mid] := ⟨_, rfl⟩
  have f7 : Fr w0 w7 (sIt m6 mc :: sIt ad [y, .int .i64 ((numsN xs 6).2.1), .int .i64 (numsN xs 6).2.2] :: oIt .u8 eB y xs :: sIt l4 (l.map (.int .i64)) :: sIt t2 z6 :: G) := by rw [hmc]; exact f7
  have m0 : mc[0]? = some (.int .i64 ch) := by rw [hmc]; rfl
  have m1 : mc[1]? = some (.int .i64 bits) := by rw [hmc]; rfl
  have m2 : mc[2]? = some (.int .i64 Fm) := by rw [hmc]; rfl
  have m3 : mc[3]? = some (.int .i64 T) := by rw [hmc]; rfl
  have m4 : mc[4]? = some (.int .i64 n) := by rw [hmc]; rfl
  have m5 : mc[5]? = some (.int .i64 mid) := by rw [hmc]; rfl
  rw [Addr.add_zero']
  refine fLoad_i (n := ch) f7 0 0 rfl m0 (fLoad_i (n := bits) f7 0 1 rfl m1 ?_)
  have leaf : ∀ {bb : Bool}, okM n Fm T ch bits mid = bb → gStore P t_audio_measures (.pointer (some t2)) (.agg #[.int .i64 ch, .int .i64 bits, .int .i64 Fm, .int .i64 T, .int .i64 n, .int .i64 mid]) w7.drew fun ww => (∀ (j : Nat) (u : Value), mc[j]? = some u → ww.cell? (m6.add j) = some u) ∧ gLoad P t_audio_measures (.part (.agg [.int .i64, .int .i64, .int .i64, .int .i64, .int .i64, .int .i64])) (.pointer (some t2)) ww fun (r0_0 : Int) (r0_1 : Int) (r0_2 : Int) (r0_3 : Int) (r0_4 : Int) (r0_5 : Int) =>
      (Ending.returned (.tuple #[.agg #[.int .i64 r0_0, .int .i64 r0_1, .int .i64 r0_2, .int .i64 r0_3, .int .i64 r0_4, .int .i64 r0_5], .bool bb]) = Ending.returned (.tuple #[.agg #[.int .i64 ch, .int .i64 bits, .int .i64 Fm, .int .i64 T, .int .i64 n, .int .i64 mid], .bool (okM n Fm T ch bits mid)]) ∧ Fr w0 ww (sIt ad [y, .int .i64 ((numsN xs 6).2.1 : Nat), .int .i64 (numsN xs 6).2.2] :: oIt .u8 eB y xs :: G)) := fun {bb} hbb => by
    refine fStoreA f7.drew 4 rfl (fun w' f' => ⟨fun j u h => f'.cell 0 j rfl h, ?_⟩) (by rw [hz6]; rfl)
    refine fLoadA f' 4 rfl ?_ rfl (by kernel_rfl)
    exact ⟨by rw [hbb], f'.picksN 5 [1, 2] (by decide) (by decide)⟩
  have no : ¬ ((1 ≤ ch ∧ ch ≤ 8) ∧ (bits = 8 ∨ bits = 16) ∧ mid ≤ 1 ∧ (mid = 0 ∨ ch = 2) ∧ Fm ≤ T ∧ T ≤ n ∧ (T - Fm) % (ch * bits / 8) = 0) → okM n Fm T ch bits mid = false := fun h => decide_eq_false h
  have l0 : ∀ (j : Nat) (u : Value), mc[j]? = some u → ∀ w' : World, (∀ (j : Nat) (u : Value), mc[j]? = some u → w'.cell? (m6.add j) = some u) → w'.cell? (m6.add j) = some u := fun j u h w' hw => hw j u h
  refine ⟨fun w' => ∀ (j : Nat) (u : Value), mc[j]? = some u → w'.cell? (m6.add j) = some u, fun j u h => f7.drew.cell 0 j rfl h, gLoadB_agg [.int .i64 ch, .int .i64 bits, .int .i64 Fm, .int .i64 T, .int .i64 n, .int .i64 mid] (fun w' hw j u hj => hw j u (by rw [hmc]; exact hj)) ?_ rfl (by kernel_rfl)⟩
  show gLoadB _ _ _ _ _ _
  refine gLoadB_i (l0 0 _ m0) (gIf_dec (fun c1 => gLoadB_i (l0 0 _ m0) (gIf_dec (fun c8 => gLoadB_i (l0 1 _ m1) (gIf_neqq (fun b8 => gLoadB_i (l0 1 _ m1) (gIf_eq (fun b16 => ?_) (fun b16 => leaf (no (by omega))))) (fun b8 => ?_))) (fun c8 => leaf (no (by omega))))) (fun c1 => leaf (no (by omega))))
  all_goals
    have hbits : bits = 8 ∨ bits = 16 := by omega
    refine gLoadB_i (l0 5 _ m5) (gIf_dec (fun d1 => gLoadB_i (l0 5 _ m5) (gIf_neqq (fun d0 => gLoadB_i (l0 0 _ m0) (gIf_eq (fun d2 => ?_) (fun d2 => leaf (no (by omega))))) (fun d0 => ?_))) (fun d1 => leaf (no (by omega))))
    all_goals
      refine gLoadB_i (l0 2 _ m2) (gLoadB_i (l0 3 _ m3) (gIf_dec (fun e1 => gLoadB_i (l0 3 _ m3) (gLoadB_i (l0 4 _ m4) (gIf_dec (fun e2 => gLoadB_i (l0 3 _ m3) (gLoadB_i (l0 2 _ m2) ?_)) (fun e2 => leaf (no (by omega)))))) (fun e1 => leaf (no (by omega)))))
      have hm8 : i64 (Int.tdiv (i64 (ch * bits)) 8) = ch * bits / 8 := by
        rcases hbits with e | e
        · rw [e, i64_id (n := ch * 8) (by omega) (by omega), Int.tdiv_eq_ediv_of_nonneg (by omega), i64_id (by omega) (by omega)]
        · rw [e, i64_id (n := ch * 16) (by omega) (by omega), Int.tdiv_eq_ediv_of_nonneg (by omega), i64_id (by omega) (by omega)]
      have hm1 : 1 ≤ ch * bits / 8 := by rcases hbits with e | e <;> rw [e] <;> omega
      rw [hm8, i64_id (n := T - Fm) (by omega) (by omega)]
      refine gBin_rem (by omega) (leaf ?_)
      rw [Int.tmod_eq_emod_of_nonneg (by omega)]
      have hbeq : ((T - Fm) % (ch * bits / 8) == 0) = decide ((T - Fm) % (ch * bits / 8) = 0) := beq_dec _ _
      rw [hbeq]
      unfold okM
      rw [decide_eq_decide]
      exact ⟨fun h => h.2.2.2.2.2.2, fun h => ⟨by omega, hbits, d1, by omega, e1, e2, h⟩⟩
end
end Go.Proofs.YtilpoinhfiajcaaGreatDoorV

/- Package audio: what Unpack answers (plain); tracks that are put behind one another. -/
namespace Go.Proofs.YtilpoinhfiajcaaGreatDoorV
open Go Go.RowKit
/-- One channel behind the other: the tracks, and where the reader stands; or the fault. -/
noncomputable def chanN (xs : List Int) (n : Int) (a0 : Nat) (er0 : Int) : Nat → (List (List Int) × Nat × Int) ⊕ Int
  | 0 => .inl ([], a0, er0)
  | j + 1 => match chanN xs n a0 er0 j with
    | .inr e => .inr e
    | .inl s =>
      let k := numR xs s.2.1 s.2.2 18446744073709551615
      let t := textR xs k.2.1 k.2.2 ((xs.length : Int) - (k.2.1 : Nat))
      if t.2.2 ≠ 0 then .inr t.2.2
      else if (unpE true t.1 n).2 ≠ 0 ∨ k.1 > 4 then .inr 4
      else .inl (s.1 ++ [restG (kindG k.1) (unpE true t.1 n).1 (unpE true t.1 n).1.length], t.2.1, t.2.2)
/-- What comes of the tracks. -/
def endU (xs : List Int) (hd tl : List Int) (bits mid n : Int) (s : List (List Int) × Nat × Int) : List Int × Int :=
  if endR xs.length s.2.1 s.2.2 ≠ 0 then ([], endR xs.length s.2.1 s.2.2)
  else
    let ls := if mid = 1 then [leftL (s.1.getD 0 []) (s.1.getD 1 []), rightL (s.1.getD 0 []) (s.1.getD 1 [])] else s.1
    let j := joinE (bits / 8).toNat ls n.toNat
    if j.2 ≠ 0 then ([], 4) else (hd ++ j.1 ++ tl, 0)
noncomputable def unpackA (xs : List Int) (most : Int) : List Int × Int :=
  let s := numsN xs 6
  if s.2.2 ≠ 0 then ([], s.2.2)
  else if rd s.1 0 > (if 0 > most then 0 else most) ∨ rd s.1 0 > 1048576 then ([], 5)
  else if okX xs = false then ([], 4)
  else
    let h := rawR xs s.2.1 0 (rd s.1 1)
    let t := rawR xs h.2.1 h.2.2 (rd s.1 0 - rd s.1 2)
    let n := (rd s.1 2 - rd s.1 1) / (rd s.1 3 * rd s.1 4 / 8)
    match chanN xs n t.2.1 t.2.2 (rd s.1 3).toNat with
    | .inr e => ([], e)
    | .inl c => endU xs h.1 t.1 (rd s.1 4) (rd s.1 5) n c
/-- Tracks in memory of one's own, the newest one first. -/
noncomputable def trP (v : Value) (T : List (Value × List Int)) : List It := rIt eT 1 v T.length (T.map (·.1)) :: T.reverse.map fun u => oIt .i32 eI u.1 u.2
section
variable {w0 w : World} {F : List It}
theorem chan_len {xs : List Int} {n : Int} {a0 : Nat} {er0 : Int} (hxl : ∀ b : List Int, (unpE true b n).2 = 0 → (unpE true b n).1.length = n.toNat) : ∀ (j : Nat) {s : List (List Int) × Nat × Int}, chanN xs n a0 er0 j = .inl s → s.1.length = j ∧ ∀ l ∈ s.1, l.length = n.toNat ∧ inR .i32 l
  | 0, s, h => by
    rw [chanN] at h
    injection h with h; subst h
    exact ⟨rfl, fun l hl => by cases hl⟩
  | j + 1, s, h => by
    rw [chanN] at h
    split at h
    · cases h
    · rename_i s' hs'
      have ih := chan_len hxl j hs'
      dsimp only at h
      split at h
      · cases h
      · split at h
        · cases h
        · rename_i h1 h2
          injection h with h; subst h
          refine ⟨by simp [ih.1], fun l hl => ?_⟩
          rcases List.mem_append.1 hl with hl | hl
          · exact ih.2 l hl
          · rw [List.mem_singleton.1 hl]
            refine ⟨?_, restG_in _ _ _⟩
            rw [restG_len]
            exact hxl _ (Decidable.byContradiction fun hc => h2 (.inl hc))
end
end Go.Proofs.YtilpoinhfiajcaaGreatDoorV

/- Package audio: Unpack. -/
namespace Go.Proofs.YtilpoinhfiajcaaGreatDoorV
open Go Go.RowKit
theorem chan_err {xs : List Int} {n : Int} {a0 : Nat} {er0 e : Int} {j : Nat} (h : chanN xs n a0 er0 j = .inr e) : ∀ k, j ≤ k → chanN xs n a0 er0 k = .inr e := by
  intro k hk
  induction k with
  | zero => rw [show j = 0 by omega] at h; exact h
  | succ k ih =>
    by_cases hjk : j = k + 1
    · rw [← hjk]; exact h
    · rw [chanN, ih (by omega)]
theorem textR_le {xs : List Int} {a : Nat} {er m : Int} (ha : a ≤ xs.length) : (textR xs a er m).2.1 ≤ xs.length := by
  unfold textR
  dsimp only
  generalize (if 0 > m then 0 else m) = mm
  by_cases h : er ≠ 0
  · rw [if_pos h]; exact ha
  · rw [if_neg h]
    split
    · exact ha
    · exact rawR_le (numR_le ha)
theorem textR_lx {xs : List Int} {a : Nat} {er m : Int} : (textR xs a er m).1.length ≤ xs.length := by
  unfold textR
  dsimp only
  generalize (if 0 > m then 0 else m) = mm
  by_cases h : er ≠ 0
  · rw [if_pos h]; exact Nat.zero_le _
  · rw [if_neg h]
    split
    · exact Nat.zero_le _
    · exact rawR_lx
section
variable {w0 w : World} {F : List It}
theorem fTextR {ad : Addr} {y : Value} {xs : List Int} {a : Nat} {er n : Int} {K : Value → World → Prop} (f : Fr w0 w (sIt ad [y, .int .i64 a, .int .i64 er] :: oIt .u8 eB y xs :: F)) (ha : a ≤ xs.length) (hl : xs.length ≤ 10000000000) (hn : n ≤ 9223372036854775807)
    (hk : ∀ z w', Fr w0 w' (sIt ad [y, .int .i64 (textR xs a er n).2.1, .int .i64 (textR xs a er n).2.2] :: oIt .u8 eB y xs :: F) → Nm .u8 w' z (textR xs a er n).1 → K z w') : gCall P n_num_Reader_Text shV #[.pointer (some ad), .int .i64 n] w K := by
  refine gCall_of (rText_any (f.rd 0 1 rfl rfl (by decide) ha hl) hn) ?_
  rintro _ w' ⟨z, rfl, h1, h2⟩
  exact ⟨z, rfl, hk z w' (f.rs 0 rfl h1) h2.nm⟩
theorem trP_nm {v : Value} {T : List (Value × List Int)} {ls : List (List Int)} (hT : T.map (·.2) = ls) (f : Fr w0 w (trP v T ++ F)) : Sl w 1 v (T.map (·.1)).length (T.map (·.1)) ∧ (T.map (·.1)).length = ls.length ∧ ∀ (i : Nat) (u : Value) (ys : List Int), (T.map (·.1))[i]? = some u → ls[i]? = some ys → Nm .i32 w u ys := by
  refine ⟨by rw [List.length_map]; exact f.row 0 rfl, by rw [← hT, List.length_map, List.length_map], fun i u ys h1 h2 => ?_⟩
  rw [List.getElem?_map] at h1
  rw [← hT, List.getElem?_map] at h2
  cases ht : T[i]? with
  | none => rw [ht] at h1; cases h1
  | some t =>
    rw [ht] at h1 h2
    simp at h1 h2
    subst h1; subst h2
    have hm : oIt .i32 eI t.1 t.2 ∈ trP v T ++ F := List.mem_append_left _ (List.mem_cons_of_mem _ (List.mem_map.2 ⟨t, List.mem_reverse.2 (List.mem_of_getElem? ht), rfl⟩))
    obtain ⟨q, hq⟩ := List.mem_iff_getElem?.1 hm
    exact f.nm q hq
/-- The loop of channels: what its body does. -/
theorem chan_step {ad : Addr} {y l11 : Value} {xs : List Int} {n : Int} {a0 : Nat} {er0 : Int} {j : Nat} {s : List (List Int) × Nat × Int} {T : List (Value × List Int)} {R : Ending → World → Prop} {K : Value → World → Prop}
    (f : Fr w0 w (sIt ad [y, .int .i64 (s.2.1 : Nat), .int .i64 s.2.2] :: oIt .u8 eB y xs :: (trP l11 T ++ F))) (hT : T.map (·.2) = s.1) (hj : s.1.length = j) (hj8 : j ≤ 8) (ha : s.2.1 ≤ xs.length) (hl : xs.length ≤ 1000000000) (hs : chanN xs n a0 er0 j = .inl s)
    (hbad : ∀ e w', chanN xs n a0 er0 (j + 1) = .inr e → Ev w0 w' → R (.returned (.tuple #[.slice none 0 0, .int .i64 e])) w')
    (hk : ∀ v' w' s' T', chanN xs n a0 er0 (j + 1) = .inl s' → T'.map (·.2) = s'.1 → s'.2.1 ≤ xs.length → Fr w0 w' (sIt ad [y, .int .i64 (s'.2.1 : Nat), .int .i64 s'.2.2] :: oIt .u8 eB y xs :: (trP v' T' ++ F)) → K v' w') (hnn : ∀ b : List Int, (unpE true b n).1.length ≤ 1000000000) :
    gCall P n_num_Reader_Num (shI .u64) #[.pointer (some ad)] w fun (t83 : Int) ww11 => gCall P n_num_Reader_Left (shI .i64) #[.pointer (some ad)] ww11 fun (t86 : Int) ww12 => gCall P n_num_Reader_Text shV #[.pointer (some ad), .int .i64 t86] ww12 fun (t87 : Value) ww13 => gCall P n_num_Reader_Err (shI .i64) #[.pointer (some ad)] ww13 fun (t89 : Int) ww14 => gIf (t89 != 0) (R (.returned (.tuple #[.slice none 0 0, .int .i64 t89])) ww14) (gCall P n_rice_Unpack (.tup [.one .val, .one (.int .i64)]) #[t87, .int .i64 n] ww14 fun (t96_1 : Value) (t96_2 : Int) ww15 => gIf (!(t96_2 != 0)) (gIf (decide (t83 > 4)) (R (.returned (.tuple #[.slice none 0 0, .int .i64 4])) ww15) (gCall P n_audio_predictor_restore shV #[.agg #[.int .i64 (i64 t83)], t96_1] ww15 fun (t110 : Value) ww16 => gLit P t_sl_sl_int32 1 #[(0, t110)] ww16 fun (t111 : Value) ww17 => gApp P #[t_sl_sl_int32, t_sl_sl_int32] t_sl_sl_int32 #[l11, t111] ww17 fun (t112 : Value) ww18 => K t112 ww18)) (R (.returned (.tuple #[.slice none 0 0, .int .i64 4])) ww15)) := by
  have hx : inR .u8 xs := (f.nm 1 rfl).2
  have hTl : T.length = j := by have := congrArg List.length hT; rw [List.length_map] at this; omega
  refine fNumR f ha (by omega) fun w1 f1 => ?_
  have hk0 := (numR_rng (xs := xs) (a := s.2.1) (er := s.2.2) (most := 18446744073709551615) hx).1
  have hka := numR_le (xs := xs) (a := s.2.1) (er := s.2.2) (m := 18446744073709551615) ha
  obtain ⟨k, hke⟩ : ∃ k, k = numR xs s.2.1 s.2.2 18446744073709551615 := ⟨_, rfl⟩
  rw [← hke] at f1 hk0 hka ⊢
  refine gCall_i (rLeft_any (f1.rd 0 1 rfl rfl (by decide) hka (by omega))) fun w2 h2 => fTextR (f1.ev h2) hka (by omega) (by omega) fun z w3 f3 nz => ?_
  obtain ⟨t, hte⟩ : ∃ t, t = textR xs k.2.1 k.2.2 ((xs.length : Int) - (k.2.1 : Nat)) := ⟨_, rfl⟩
  have hta := textR_le (xs := xs) (er := k.2.2) (m := (xs.length : Int) - (k.2.1 : Nat)) hka
  have htl := textR_lx (xs := xs) (a := k.2.1) (er := k.2.2) (m := (xs.length : Int) - (k.2.1 : Nat))
  rw [← hte] at f3 nz hta htl
  have hC : chanN xs n a0 er0 (j + 1) = if t.2.2 ≠ 0 then .inr t.2.2 else if (unpE true t.1 n).2 ≠ 0 ∨ k.1 > 4 then .inr 4 else .inl (s.1 ++ [restG (kindG k.1) (unpE true t.1 n).1 (unpE true t.1 n).1.length], t.2.1, t.2.2) := by
    rw [chanN, hs]; dsimp only; rw [← hke, ← hte]
  refine fErrR f3 hta (by omega) (gIf_neq (fun hne => hbad _ _ (by rw [hC, if_pos hne]) f3.old) (fun heq => ?_))
  rw [if_neg (fun h => h heq)] at hC
  refine gCall_of (rUnpack_any (n := n) nz (by omega)) ?_
  rintro _ w4 ⟨v4, rfl, h4, o4⟩
  refine ⟨_, _, rfl, gIf_nneq (fun h0 => gIf_dec (fun hgt => hbad 4 _ (by rw [hC, if_pos (.inr hgt)]) (f3.ev h4).old) (fun hle => ?_)) (fun hne => hbad 4 _ (by rw [hC, if_pos (.inl hne)]) (f3.ev h4).old)⟩
  rw [if_neg (fun h => h.elim (fun h => h h0) hle)] at hC
  have ik : i64 k.1 = k.1 := by rw [i64_id (by omega) (by omega)]
  rw [ik]
  refine gCall_of (pRest_any (k := k.1) o4.nm (hnn _)) ?_
  rintro _ w5 ⟨v5, rfl, h5, o5⟩
  have f5 := (f3.ev h4).newO h5 o5
  have oc5 : v5.oneCell' = true := by obtain ⟨a, c, rfl, _⟩ := o5.nm.shape; rfl
  refine ⟨v5, rfl, fLitV [v5] f5 rfl rfl (fun u hu => by rw [List.mem_singleton.1 hu]; exact o5.nm.one) fun t6 w6 f6 => ?_⟩
  refine fAppR 24 (m := 1) f6 4 rfl (f6.sl 0 rfl) (fun x hx => by rw [List.mem_singleton.1 hx]; exact oc5) (by omega) (by unfold maxLen; omega) (fun v' w7 f7 => hk v' w7 _ (T ++ [(v5, restG (kindG k.1) (unpE true t.1 n).1 (unpE true t.1 n).1.length)]) hC ?_ hta ?_) (by kernel_rfl)
  · rw [List.map_append, hT]; rfl
  · have f8 := f7.picksN 5 [2, 3, 4, 1] (by decide) (by decide)
    have e1 : trP v' (T ++ [(v5, restG (kindG k.1) (unpE true t.1 n).1 (unpE true t.1 n).1.length)]) ++ F = rIt eT 1 v' (T.length + 1) (T.map (·.1) ++ [v5]) :: oIt .i32 eI v5 (restG (kindG k.1) (unpE true t.1 n).1 (unpE true t.1 n).1.length) :: ((T.reverse.map fun u => oIt .i32 eI u.1 u.2) ++ F) := by
      unfold trP; rw [List.map_append, List.length_append, List.reverse_append]; rfl
    rw [e1]; exact f8
end
end Go.Proofs.YtilpoinhfiajcaaGreatDoorV

/- Package audio: Unpack. -/
namespace Go.Proofs.YtilpoinhfiajcaaGreatDoorV
open Go Go.RowKit
theorem len2 {α : Type} {l : List α} (h : l.length = 2) : ∃ a b, l = [a, b] := by
  match l, h with
  | [a, b], _ => exact ⟨a, b, rfl⟩
section
variable {w : World}
theorem aUnpack_any {x : Value} {xs : List Int} {most : Int} (hb : Nm .u8 w x xs) (hl : xs.length ≤ 1000000000) (hun : ∀ (b : List Int) (n : Int), 0 ≤ n → n ≤ 1048576 → (unpE true b n).1.length ≤ 1048576 ∧ ((unpE true b n).2 = 0 → (unpE true b n).1.length = n.toNat)) : Calls P n_audio_Unpack #[x, .int .i64 most] w (TupE w (unpackA xs most)) := by
  have hx := hb.2
  refine of_audio_Unpack (fNewR (Fr.start w) hb (by omega) fun ad y w1 f1 => gCall_of (read_any f1 hl) ?_)
  rintro _ w2 ⟨rfl, f2⟩
  unfold msOf
  refine ⟨_, _, _, _, _, _, _, rfl, ?_⟩
  have hnl := numsN_len xs 6
  have hrg := numsN_rng hx 6
  have hat := numsN_at xs 6
  obtain ⟨l, hlq⟩ : ∃ l : List Int, l = (numsN xs 6).1 := ⟨_, rfl⟩
  obtain ⟨a6, ha6⟩ : ∃ a6, a6 = (numsN xs 6).2.1 := ⟨_, rfl⟩
  obtain ⟨er6, he6⟩ : ∃ er6, er6 = (numsN xs 6).2.2 := ⟨_, rfl⟩
  have hr : ∀ j : Nat, j < 6 → 0 ≤ rd l (j : Int) ∧ rd l (j : Int) ≤ 1099511627776 := fun j hj => by rw [← hlq] at hrg hnl; exact hrg _ (rd_mem (xs := l) (i := (j : Int)) (by omega) (by omega))
  have r0 := hr 0 (by omega)
  have r1 := hr 1 (by omega)
  have r2 := hr 2 (by omega)
  have r3 := hr 3 (by omega)
  have r4 := hr 4 (by omega)
  have r5 := hr 5 (by omega)
  have hokx : okX xs = okM (rd l 0) (rd l 1) (rd l 2) (rd l 3) (rd l 4) (rd l 5) := by unfold okX; rw [← hlq]
  obtain ⟨ok, hok⟩ : ∃ ok, ok = okX xs := ⟨_, rfl⟩
  have hU : unpackA xs most = if er6 ≠ 0 then ([], er6) else if rd l 0 > (if 0 > most then 0 else most) ∨ rd l 0 > 1048576 then ([], 5) else if ok = false then ([], 4) else
      match chanN xs ((rd l 2 - rd l 1) / (rd l 3 * rd l 4 / 8)) (rawR xs (rawR xs a6 0 (rd l 1)).2.1 (rawR xs a6 0 (rd l 1)).2.2 (rd l 0 - rd l 2)).2.1 (rawR xs (rawR xs a6 0 (rd l 1)).2.1 (rawR xs a6 0 (rd l 1)).2.2 (rd l 0 - rd l 2)).2.2 (rd l 3).toNat with
      | .inr e => ([], e)
      | .inl c => endU xs (rawR xs a6 0 (rd l 1)).1 (rawR xs (rawR xs a6 0 (rd l 1)).2.1 (rawR xs a6 0 (rd l 1)).2.2 (rd l 0 - rd l 2)).1 (rd l 4) (rd l 5) ((rd l 2 - rd l 1) / (rd l 3 * rd l 4 / 8)) c := by
    unfold unpackA; dsimp only; (rw [← hlq, ← ha6, ← he6, ← hok]) <;> rfl
  rw [← hlq, ← hok]
  rw [← ha6, ← he6] at f2
  rw [← ha6] at hat
  rw [← hok] at hokx
  simp only [show (((0 : Nat) : Int)) = 0 from rfl, show (((1 : Nat) : Int)) = 1 from rfl, show (((2 : Nat) : Int)) = 2 from rfl, show (((3 : Nat) : Int)) = 3 from rfl, show (((4 : Nat) : Int)) = 4 from rfl, show (((5 : Nat) : Int)) = 5 from rfl] at r0 r1 r2 r3 r4 r5
  generalize rd l 0 = n at *
  generalize rd l 1 = Fm at *
  generalize rd l 2 = T at *
  generalize rd l 3 = ch at *
  generalize rd l 4 = bits at *
  generalize rd l 5 = mid at *
  obtain ⟨mc, hmc⟩ : ∃ mc : List Value, mc = [.int .i64 ch, .int .i64 bits, .int .i64 Fm, .int .i64 T, .int .i64 n, .int .i64 mid] := ⟨_, rfl⟩
  have m0 : mc[0]? = some (.int .i64 ch) := by rw [hmc]; rfl
  have m1 : mc[1]? = some (.int .i64 bits) := by rw [hmc]; rfl
  have m2 : mc[2]? = some (.int .i64 Fm) := by rw [hmc]; rfl
  have m3 : mc[3]? = some (.int .i64 T) := by rw [hmc]; rfl
  have m4 : mc[4]? = some (.int .i64 n) := by rw [hmc]; rfl
  have m5 : mc[5]? = some (.int .i64 mid) := by rw [hmc]; rfl
  refine fAlloc (z := .agg #[.int .i64 0, .int .i64 0, .int .i64 0, .int .i64 0, .int .i64 0, .int .i64 0]) f2 (by kernel_rfl) fun m7 w3 f3 => fStoreA f3 0 rfl (fun w4 f4 => ?_) rfl
  have f4 : Fr w w4 [sIt m7 mc, sIt ad [y, .int .i64 a6, .int .i64 er6], oIt .u8 eB y xs] := by rw [hmc]; exact f4
  have f4 : Fr w w4 [sIt ad [y, .int .i64 a6, .int .i64 er6], oIt .u8 eB y xs, sIt m7 mc] := f4.picks [1, 2, 0] (by decide)
  have err : ∀ {w'} (e : Int), Ev w w' → unpackA xs most = ([], e) → TupE w (unpackA xs most) (.returned (.tuple #[.slice none 0 0, .int .i64 e])) w' := fun e he hu => by rw [hu]; exact ⟨_, rfl, he, ON.nil _ _ _ _⟩
  have hB : ∀ {w' : World} {F' : List It} (i : Nat), Fr w w' F' → F'[i]? = some (sIt m7 mc) → ∀ (j : Nat) (u : Value), mc[j]? = some u → w'.cell? (m7.add j) = some u := fun i f hi j u hj => f.cell i j hi hj
  rw [Addr.add_zero']
  refine ⟨fun w' => (er6 = 0 ∧ ¬ (n > (if 0 > most then 0 else most) ∨ n > 1048576) ∧ ok = true) ∧ w' = w4, fErrR f4 hat (by omega) (gIf_neq (fun hne => fErrR f4 hat (by omega) (err _ f4.old (by rw [hU, if_pos hne]))) (fun h0 => ?_)), ?_⟩
  · have h00 : ¬ (er6 ≠ 0) := fun h => h h0
    refine fLoad_i (n := n) f4 2 4 rfl m4 (gIf_ndec (fun h1 => fLoad_i (n := n) f4 2 4 rfl m4 (gIf_dec (fun h2 => err 5 f4.old (by rw [hU, if_neg h00, if_pos (.inr h2)])) (fun h2 => gIf_nb (fun hf => err 4 f4.old (by rw [hU, if_neg h00, if_neg (fun h => h.elim h1 h2), if_pos hf])) (fun ht => ⟨⟨h0, fun h => h.elim h1 h2, ht⟩, rfl⟩)))) (fun h1 => err 5 f4.old (by rw [hU, if_neg h00, if_pos (.inl h1)])))
  rintro _ w7 ⟨⟨h0, hlim, hokt⟩, hw7⟩
  obtain rfl : w4 = w7 := hw7.symm
  rw [if_neg (fun h => h h0), if_neg hlim, if_neg (by rw [hokt]; decide)] at hU
  rw [hokt] at hokx
  have hm := of_decide_eq_true (show decide _ = true from hokx.symm)
  obtain ⟨⟨c1, c8⟩, hbits, hmid, hmid2, hFT, hTn, hdiv⟩ := hm
  subst h0
  obtain ⟨h, hh⟩ : ∃ h, h = rawR xs a6 0 Fm := ⟨_, rfl⟩
  obtain ⟨t, htt⟩ : ∃ t, t = rawR xs h.2.1 h.2.2 (n - T) := ⟨_, rfl⟩
  rw [← hh, ← htt] at hU
  have hha : h.2.1 ≤ xs.length := by rw [hh]; exact rawR_le hat
  have hta : t.2.1 ≤ xs.length := by rw [htt]; exact rawR_le hha
  refine ⟨fun w' => ∀ (j : Nat) (u : Value), mc[j]? = some u → w'.cell? (m7.add j) = some u, hB 2 f4.drew rfl, gLoadB_i (fun w' hw => hw 2 _ m2) (gLoadB_i (fun w' hw => hw 4 _ m4) (gLoadB_i (fun w' hw => hw 3 _ m3) (fRawR f4.drew hat (by omega) (by omega) fun z1 w8 f8 => ⟨?_, ?_⟩)))⟩
  · exact hB 3 f8 rfl
  rw [← hh] at f8
  rw [i64_id (n := n - T) (by omega) (by omega)]
  refine fRawR f8 hha (by omega) (by omega) fun z2 w9 f9 => ⟨?_, ?_⟩
  · exact hB 4 f9 rfl
  rw [← htt] at f9
  have hm8 : i64 (Int.tdiv (i64 (ch * bits)) 8) = ch * bits / 8 := by
    rcases hbits with e | e
    · rw [e, i64_id (n := ch * 8) (by omega) (by omega), Int.tdiv_eq_ediv_of_nonneg (by omega), i64_id (by omega) (by omega)]
    · rw [e, i64_id (n := ch * 16) (by omega) (by omega), Int.tdiv_eq_ediv_of_nonneg (by omega), i64_id (by omega) (by omega)]
  have hm1 : 1 ≤ ch * bits / 8 := by rcases hbits with e | e <;> rw [e] <;> omega
  refine fLoad_i (n := T) f9 4 3 rfl m3 (fLoad_i (n := Fm) f9 4 2 rfl m2 (fLoad_i (n := ch) f9 4 0 rfl m0 (fLoad_i (n := bits) f9 4 1 rfl m1 ?_)))
  rw [hm8, i64_id (n := T - Fm) (by omega) (by omega)]
  refine gBin_quo (by omega) ?_
  have hq0 : 0 ≤ (T - Fm) / (ch * bits / 8) := Int.ediv_nonneg (by omega) (by omega)
  have hq1 : (T - Fm) / (ch * bits / 8) ≤ T - Fm := Int.ediv_le_self _ (by omega)
  rw [Int.tdiv_eq_ediv_of_nonneg (by omega), wrap_i64, i64_id (n := (T - Fm) / (ch * bits / 8)) (by omega) (by omega)]
  obtain ⟨nn, hnn⟩ : ∃ nn, nn = (T - Fm) / (ch * bits / 8) := ⟨_, rfl⟩
  rw [← hnn] at hU hq0 hq1 ⊢
  refine fLoad_i (n := ch) f9 4 0 rfl m0 ?_
  have f9 := (f9.nilR eT 1).picksN 3 [1, 2, 0] (by decide) (by decide)
  have f9 : Fr w w9 (sIt ad [y, .int .i64 (t.2.1 : Nat), .int .i64 t.2.2] :: oIt .u8 eB y xs :: (trP (.slice none 0 0) [] ++ [oIt .u8 eB z2 t.1, oIt .u8 eB z1 h.1, sIt m7 mc])) := f9
  refine ⟨fun l11 i w' => ∃ (j : Nat) (s : List (List Int) × Nat × Int) (Tr : List (Value × List Int)), i = (j : Int) ∧ (j : Int) ≤ ch ∧ chanN xs nn t.2.1 t.2.2 j = .inl s ∧ Tr.map (·.2) = s.1 ∧ s.2.1 ≤ xs.length ∧ Fr w w' (sIt ad [y, .int .i64 (s.2.1 : Nat), .int .i64 s.2.2] :: oIt .u8 eB y xs :: (trP l11 Tr ++ [oIt .u8 eB z2 t.1, oIt .u8 eB z1 h.1, sIt m7 mc])), fun _ i _ => (ch - i).toNat, ⟨0, ([], t.2.1, t.2.2), [], rfl, by omega, rfl, rfl, hta, f9⟩, ?_⟩
  rintro _ l11 i w10 ⟨j, s, Tr, rfl, hjc, hs, hTr, hsa, f10⟩
  have hcl := chan_len (fun b hb0 => (hun b nn hq0 (by omega)).2 hb0) j hs
  refine gIf_dec (fun hlt => ?_) (fun hge => ?_)
  · refine chan_step (n := nn) (a0 := t.2.1) (er0 := t.2.2) f10 hTr hcl.1 (by omega) hsa hl hs (fun e w' he hev => err e hev (by rw [hU, chan_err he ch.toNat (by omega)])) (fun v' w' s' T' hs' hT' ha' f' => ⟨⟨j + 1, s', T', by rw [i64_id (by omega) (by omega)]; omega, by omega, hs', hT', ha', f'⟩, by dsimp only; rw [i64_id (by omega) (by omega)]; omega⟩) (fun b => by have := (hun b nn hq0 (by omega)).1; omega)
  have hjch : ch.toNat = j := by omega
  rw [hjch, hs] at hU
  have hU : unpackA xs most = endU xs h.1 t.1 bits mid nn s := hU
  unfold endU at hU
  refine fEndR f10 hsa (by omega) fun w19 h19 => gIf_neq (fun hne => err _ (f10.ev h19).old (by rw [hU, if_pos hne])) (fun hend => ?_)
  rw [if_neg (fun h => h hend)] at hU
  dsimp only at hU
  have f19 : Fr w w19 (trP l11 Tr ++ [oIt .u8 eB z2 t.1, oIt .u8 eB z1 h.1, sIt m7 mc]) := (f10.ev h19).dropN 2
  have fW : Fr w w19 [oIt .u8 eB z2 t.1, oIt .u8 eB z1 h.1, sIt m7 mc] := by
    have := f19.dropN (trP l11 Tr).length
    rwa [List.drop_left] at this
  obtain ⟨lf, hlf⟩ : ∃ lf, lf = if mid = 1 then [leftL (s.1.getD 0 []) (s.1.getD 1 []), rightL (s.1.getD 0 []) (s.1.getD 1 [])] else s.1 := ⟨_, rfl⟩
  rw [← hlf] at hU
  obtain ⟨size, hs12, hbs⟩ : ∃ size : Nat, (size = 1 ∨ size = 2) ∧ bits = ((8 * size : Nat) : Int) := by
    rcases hbits with e | e
    · exact ⟨1, .inl rfl, e⟩
    · exact ⟨2, .inr rfl, e⟩
  have hsz : (bits / 8).toNat = size := by omega
  rw [hsz] at hU
  have hlen : lf.length = s.1.length ∧ ∀ l ∈ lf, l.length = nn.toNat := by
    rw [hlf]
    split
    · rename_i hm
      have hj2 : s.1.length = 2 := by omega
      refine ⟨by rw [hj2]; rfl, fun l hl => ?_⟩
      have h0 : (s.1.getD 0 []).length = nn.toNat := by
        rw [List.getD_eq_getElem?_getD, List.getElem?_eq_getElem (by omega)]
        exact (hcl.2 _ (List.getElem_mem (by omega))).1
      simp only [List.mem_cons, List.not_mem_nil, or_false] at hl
      rcases hl with rfl | rfl
      · unfold leftL; rw [tab_len]; exact h0
      · unfold rightL; rw [tab_len]; exact h0
    · exact ⟨rfl, fun l hl => (hcl.2 l hl).1⟩
  refine ⟨fun w' => ∃ us : List Value, Sl w' 1 l11 us.length us ∧ us.length = lf.length ∧ (∀ (i : Nat) (u : Value) (ys : List Int), us[i]? = some u → lf[i]? = some ys → Nm .i32 w' u ys) ∧ Fr w w' [oIt .u8 eB z2 t.1, oIt .u8 eB z1 h.1, sIt m7 mc], fLoad_i (n := mid) fW 2 5 rfl m5 (gIf_eq (fun hm1 => ?_) (fun hm0 => ?_)), ?_⟩
  · have hj2 : s.1.length = 2 := by omega
    have hTl : Tr.length = 2 := by have := congrArg List.length hTr; rw [List.length_map] at this; omega
    obtain ⟨u0, u1, rfl⟩ := len2 hTl
    have hs1 : s.1 = [u0.2, u1.2] := hTr.symm
    have f19 : Fr w w19 [rIt eT 1 l11 2 [u0.1, u1.1], oIt .i32 eI u1.1 u1.2, oIt .i32 eI u0.1 u0.2, oIt .u8 eB z2 t.1, oIt .u8 eB z1 h.1, sIt m7 mc] := f19
    have hl0 : u0.2.length = nn.toNat := (hcl.2 _ (by rw [hs1]; exact List.mem_cons_self)).1
    have hl1 : u1.2.length = nn.toNat := (hcl.2 _ (by rw [hs1]; exact List.mem_cons_of_mem _ List.mem_cons_self)).1
    have hS := f19.row 0 rfl
    refine ⟨fun _ => True, fun w' => Ev w19 w', ⟨trivial, Ev.drew0 w19⟩, gIdx_1 hS (by decide) (by decide) fun ad0 v0 hv0 hc0 _ => gLoadB_v (fun w' hw => Ch.cell hw hc0 fun h => h) (gIdx_1 hS (by decide) (by decide) fun ad1 v1 hv1 hc1 _ => gLoadB_v (fun w' hw => Ch.cell hw hc1 fun h => h) ?_)⟩
    obtain rfl : u0.1 = v0 := by simpa using hv0
    obtain rfl : u1.1 = v1 := by simpa using hv1
    refine gCall_of (Unmid_any (f19.drew.nm 2 rfl) (f19.drew.nm 1 rfl) (by omega) (by omega)) ?_
    rintro _ w20 ⟨a, b, rfl, g20⟩
    have f20 := f19.drew.glue g20
    have oca : a.oneCell' = true ∧ a.cells = #[a] := by obtain ⟨p, c, rfl, _⟩ := (g20.nm 1 rfl).shape; exact ⟨rfl, rfl⟩
    have ocb : b.oneCell' = true ∧ b.cells = #[b] := by obtain ⟨p, c, rfl, _⟩ := (g20.nm 0 rfl).shape; exact ⟨rfl, rfl⟩
    have f20 : Fr w w20 [oIt .i32 eI b (rightL u0.2 u1.2), oIt .i32 eI a (leftL u0.2 u1.2), rIt eT 1 l11 2 [u0.1, u1.1], oIt .i32 eI u1.1 u1.2, oIt .i32 eI u0.1 u0.2, oIt .u8 eB z2 t.1, oIt .u8 eB z1 h.1, sIt m7 mc] := f20
    have o20 : w20.ownsRow 0 eT 1 l11 2 [u0.1, u1.1] := f20.get 2 rfl
    refine ⟨_, _, _, rfl, ⟨trivial, (Ev.drew0 w19).trans g20.old⟩, gIdx_r (j := 0) o20 rfl (by decide) fun ad2 hs2 => fStoreR1 f20 2 rfl hs2 (by decide) oca.1 oca.2 fun w21 f21 => ⟨trivial, ?_⟩⟩
    have f21 : Fr w w21 [oIt .i32 eI b (rightL u0.2 u1.2), oIt .i32 eI a (leftL u0.2 u1.2), rIt eT 1 l11 2 [a, u1.1], oIt .i32 eI u1.1 u1.2, oIt .i32 eI u0.1 u0.2, oIt .u8 eB z2 t.1, oIt .u8 eB z1 h.1, sIt m7 mc] := f21
    have o21 : w21.ownsRow 0 eT 1 l11 2 [a, u1.1] := f21.get 2 rfl
    refine gIdx_r (j := 1) o21 rfl (by decide) fun ad3 hs3 => fStoreR1 f21 2 rfl hs3 (by decide) ocb.1 ocb.2 fun w22 f22 => ⟨trivial, ?_⟩
    have f22 : Fr w w22 [oIt .i32 eI b (rightL u0.2 u1.2), oIt .i32 eI a (leftL u0.2 u1.2), rIt eT 1 l11 2 [a, b], oIt .i32 eI u1.1 u1.2, oIt .i32 eI u0.1 u0.2, oIt .u8 eB z2 t.1, oIt .u8 eB z1 h.1, sIt m7 mc] := f22
    have hlf2 : lf = [leftL u0.2 u1.2, rightL u0.2 u1.2] := by rw [hlf, if_pos hm1, hs1]; rfl
    refine ⟨[a, b], f22.row 2 rfl, by rw [hlf2]; rfl, fun i u ys hu hy => ?_, f22.dropN 5⟩
    rw [hlf2] at hy
    rcases i with _ | _ | i
    · simp at hu hy; subst hu; subst hy; exact f22.nm 1 rfl
    · simp at hu hy; subst hu; subst hy; exact f22.nm 0 rfl
    · simp at hu
  · obtain ⟨q1, q2, q3⟩ := trP_nm hTr f19
    have hlf2 : lf = s.1 := by rw [hlf, if_neg hm0]
    exact ⟨Tr.map (·.1), q1, by rw [hlf2]; exact q2, by rw [hlf2]; exact q3, fW⟩
  rintro _ w23 ⟨us, u1, u2, u3, f23⟩
  refine fLoad_i (n := bits) f23 2 1 rfl m1 ?_
  rw [hbs]
  refine gCall_of (Join_any (size := size) (n := nn.toNat) u1 u2 u3 (by omega) (by omega) hs12 hlen.2 (by omega)) ?_
  rintro _ w24 ⟨v24, rfl, h24, o24⟩
  have f24 := f23.newO h24 o24
  obtain ⟨jj, hjj⟩ : ∃ jj, jj = joinE size lf nn.toNat := ⟨_, rfl⟩
  have hjl : jj.1.length ≤ 20000000 := by
    rw [hjj]; unfold joinE
    split
    · dsimp only
      rw [join_len hs12]
      have h5 : lf.length * size ≤ 8 * 2 := Nat.mul_le_mul (by omega) (by omega)
      have h6 : nn.toNat * (lf.length * size) ≤ 1048576 * 16 := Nat.mul_le_mul (by omega) (by omega)
      omega
    · exact Nat.zero_le _
  rw [← hjj] at f24 hU ⊢
  refine ⟨_, _, rfl, gIf_neq (fun hne => err 4 f24.old (by rw [hU, if_pos hne])) (fun he0 => ?_)⟩
  rw [if_neg (fun h => h he0)] at hU
  have hhl : h.1.length ≤ xs.length := by rw [hh]; exact rawR_lx
  have htl : t.1.length ≤ xs.length := by rw [htt]; exact rawR_lx
  rw [hU]
  refine fApp f24 2 rfl (f24.nm 0 rfl) (by omega) fun b25 w25 f25 => ?_
  refine fApp f25 2 rfl (f25.nm 1 rfl) (by rw [List.length_append]; omega) fun b26 w26 f26 => ⟨b26, rfl, f26.old, f26.on 2 rfl⟩
end
end Go.Proofs.YtilpoinhfiajcaaGreatDoorV

/- What Unpack answers, of any bytes. -/
namespace Go.Proofs.YtilpoinhfiajcaaGreatDoorV
open Go Go.RowKit
theorem textR_erR {xs : List Int} {a : Nat} {er m : Int} (h : ErR er) : ErR (textR xs a er m).2.2 := by
  unfold textR
  dsimp only
  generalize (if 0 > m then 0 else m) = mm
  by_cases h0 : er ≠ 0
  · rw [if_pos h0]; exact h
  · rw [if_neg h0]
    have := rawR_erR (xs := xs) (a := (numR xs a er mm).2.1) (n := (numR xs a er mm).1) (numR_er (xs := xs) (a := a) (m := mm) h)
    split
    · exact this
    · exact this
theorem textR_er0 {xs : List Int} {a : Nat} {er m : Int} (h : (textR xs a er m).2.2 = 0) : er = 0 := by
  unfold textR at h
  dsimp only at h
  by_cases h0 : er ≠ 0
  · rw [if_pos h0] at h; exact absurd h h0
  · exact Decidable.byContradiction h0
theorem numR_er0 {xs : List Int} {a : Nat} {er m : Int} (h : (numR xs a er m).2.2 = 0) : er = 0 := by
  refine Decidable.byContradiction fun hn => hn ?_
  unfold numR at h
  rw [if_pos hn] at h; exact h
/-- The loop's fault is one of form or of an end; if there is none, there was none. -/
theorem chan_er {xs : List Int} {n : Int} {a0 : Nat} {er0 : Int} (h0 : ErR er0) : ∀ (j : Nat), (∀ e, chanN xs n a0 er0 j = .inr e → e = 3 ∨ e = 4) ∧ (∀ s, chanN xs n a0 er0 j = .inl s → ErR s.2.2 ∧ (1 ≤ j → er0 = 0 ∧ s.2.2 = 0))
  | 0 => by
    refine ⟨fun e h => ?_, fun s h => ?_⟩
    · rw [chanN] at h; cases h
    · rw [chanN] at h
      injection h with h
      subst h
      exact ⟨h0, fun h => by omega⟩
  | j + 1 => by
    have ih := chan_er h0 j (xs := xs) (n := n) (a0 := a0)
    refine ⟨fun e h => ?_, fun s h => ?_⟩
    · rw [chanN] at h
      split at h
      · rename_i e' he'
        injection h with h; subst h
        exact ih.1 _ he'
      · rename_i s' hs'
        have h1 := (ih.2 _ hs').1
        dsimp only at h
        split at h
        · rename_i hne
          injection h with h
          have h2 := textR_erR (xs := xs) (a := (numR xs s'.2.1 s'.2.2 18446744073709551615).2.1) (m := (xs.length : Int) - ((numR xs s'.2.1 s'.2.2 18446744073709551615).2.1 : Nat)) (numR_er (xs := xs) (a := s'.2.1) (m := 18446744073709551615) h1)
          rw [h] at h2 hne
          rcases h2 with h2 | h2 | h2
          · exact absurd h2 hne
          · exact .inl h2
          · exact .inr h2
        · split at h
          · injection h with h; exact .inr h.symm
          · cases h
    · rw [chanN] at h
      split at h
      · cases h
      · rename_i s' hs'
        have h1 := ih.2 _ hs'
        dsimp only at h
        split at h
        · cases h
        · rename_i hne
          split at h
          · cases h
          · injection h with h; subst h
            have he : (textR xs (numR xs s'.2.1 s'.2.2 18446744073709551615).2.1 (numR xs s'.2.1 s'.2.2 18446744073709551615).2.2 ((xs.length : Int) - ((numR xs s'.2.1 s'.2.2 18446744073709551615).2.1 : Nat))).2.2 = 0 := Decidable.byContradiction hne
            have h3 := numR_er0 (textR_er0 he)
            refine ⟨.inl he, fun _ => ⟨?_, he⟩⟩
            cases j with
            | zero => rw [chanN] at hs'; injection hs' with hs'; subst hs'; exact h3
            | succ j => exact (h1.2 (by omega)).1
theorem unpackA_total (xs : List Int) (most : Int) (hx : inR .u8 xs) (hun : ∀ (b : List Int) (n : Int), 0 ≤ n → n ≤ 1048576 → (unpE true b n).1.length ≤ 1048576 ∧ ((unpE true b n).2 = 0 → (unpE true b n).1.length = n.toNat)) :
    ((unpackA xs most).2 = 0 ∧ ((unpackA xs most).1.length : Int) ≤ (if 0 > most then 0 else most) ∧ (unpackA xs most).1.length ≤ 1048576) ∨ ((unpackA xs most).1 = [] ∧ ((unpackA xs most).2 = 3 ∨ (unpackA xs most).2 = 4 ∨ (unpackA xs most).2 = 5)) := by
  have hrg := numsN_rng hx 6
  have hnl := numsN_len xs 6
  have hr : ∀ j : Nat, j < 6 → 0 ≤ rd (numsN xs 6).1 (j : Int) ∧ rd (numsN xs 6).1 (j : Int) ≤ 1099511627776 := fun j hj => hrg _ (rd_mem (xs := (numsN xs 6).1) (i := (j : Int)) (by omega) (by omega))
  have e6 := numsN_er xs 6
  unfold unpackA
  dsimp only
  by_cases h0 : (numsN xs 6).2.2 ≠ 0
  · rw [if_pos h0]
    refine .inr ⟨rfl, ?_⟩
    rcases e6 with h | h | h
    · exact absurd h h0
    · exact .inl h
    · exact .inr (.inl h)
  rw [if_neg h0]
  by_cases h1 : rd (numsN xs 6).1 0 > (if 0 > most then 0 else most) ∨ rd (numsN xs 6).1 0 > 1048576
  · rw [if_pos h1]; exact .inr ⟨rfl, .inr (.inr rfl)⟩
  rw [if_neg h1]
  by_cases h2 : okX xs = false
  · rw [if_pos h2]; exact .inr ⟨rfl, .inr (.inl rfl)⟩
  rw [if_neg h2]
  have hokt : okX xs = true := by cases h : okX xs <;> simp_all
  have r0 := hr 0 (by omega)
  have r1 := hr 1 (by omega)
  have r2 := hr 2 (by omega)
  have r3 := hr 3 (by omega)
  have r4 := hr 4 (by omega)
  unfold okX at hokt
  simp only [show (((0 : Nat) : Int)) = 0 from rfl, show (((1 : Nat) : Int)) = 1 from rfl, show (((2 : Nat) : Int)) = 2 from rfl, show (((3 : Nat) : Int)) = 3 from rfl, show (((4 : Nat) : Int)) = 4 from rfl] at r0 r1 r2 r3 r4
  generalize rd (numsN xs 6).1 0 = n at *
  generalize rd (numsN xs 6).1 1 = Fm at *
  generalize rd (numsN xs 6).1 2 = T at *
  generalize rd (numsN xs 6).1 3 = ch at *
  generalize rd (numsN xs 6).1 4 = bits at *
  generalize rd (numsN xs 6).1 5 = mid at *
  obtain ⟨⟨c1, c8⟩, hbits, hmid, hmid2, hFT, hTn, hdiv⟩ := of_decide_eq_true hokt
  obtain ⟨size, hs12, hbs⟩ : ∃ size : Nat, (size = 1 ∨ size = 2) ∧ bits = ((8 * size : Nat) : Int) := by
    rcases hbits with e | e
    · exact ⟨1, .inl rfl, e⟩
    · exact ⟨2, .inr rfl, e⟩
  have hsz : (bits / 8).toNat = size := by omega
  have hfr : ch * bits / 8 = ((ch.toNat * size : Nat) : Int) := by
    rw [hbs]
    rcases hs12 with rfl | rfl
    · show ch * 8 / 8 = ((ch.toNat * 1 : Nat) : Int); omega
    · show ch * 16 / 8 = ((ch.toNat * 2 : Nat) : Int); omega
  have hm1 : 1 ≤ ch * bits / 8 := by rcases hbits with e | e <;> rw [e] <;> omega
  obtain ⟨h, hh⟩ : ∃ h, h = rawR xs (numsN xs 6).2.1 0 Fm := ⟨_, rfl⟩
  obtain ⟨t, htt⟩ : ∃ t, t = rawR xs h.2.1 h.2.2 (n - T) := ⟨_, rfl⟩
  rw [← hh, ← htt]
  have hq0 : 0 ≤ (T - Fm) / (ch * bits / 8) := Int.ediv_nonneg (by omega) (by omega)
  have hq1 : (T - Fm) / (ch * bits / 8) ≤ T - Fm := Int.ediv_le_self _ (by omega)
  have hq2 : (T - Fm) / (ch * bits / 8) * (ch * bits / 8) = T - Fm := Int.ediv_mul_cancel (Int.dvd_of_emod_eq_zero hdiv)
  generalize hnn : (T - Fm) / (ch * bits / 8) = nn at *
  have heh : ErR h.2.2 := by rw [hh]; exact rawR_erR (.inl rfl)
  have het : ErR t.2.2 := by rw [htt]; exact rawR_erR heh
  have hce := chan_er (xs := xs) (n := nn) (a0 := t.2.1) het ch.toNat
  cases hC : chanN xs nn t.2.1 t.2.2 ch.toNat with
  | inr e =>
    refine .inr ⟨rfl, ?_⟩
    rcases hce.1 e hC with h | h
    · exact .inl h
    · exact .inr (.inl h)
  | inl s =>
    have hs := hce.2 s hC
    have hcl := chan_len (fun b hb0 => (hun b nn hq0 (by omega)).2 hb0) ch.toNat hC
    dsimp only
    unfold endU
    by_cases he : endR xs.length s.2.1 s.2.2 ≠ 0
    · rw [if_pos he]
      refine .inr ⟨rfl, ?_⟩
      rcases endR_er (n := xs.length) (a := s.2.1) hs.1 with h | h | h
      · exact absurd h he
      · exact .inl h
      · exact .inr (.inl h)
    rw [if_neg he]
    dsimp only
    obtain ⟨lf, hlf⟩ : ∃ lf, lf = if mid = 1 then [leftL (s.1.getD 0 []) (s.1.getD 1 []), rightL (s.1.getD 0 []) (s.1.getD 1 [])] else s.1 := ⟨_, rfl⟩
    rw [← hlf, hsz]
    have hlfl : lf.length = ch.toNat := by
      rw [hlf]; split
      · rename_i hm; simp; omega
      · exact hcl.1
    unfold joinE
    split
    · rw [if_neg (fun hh => hh rfl)]
      have ht0 := (hs.2 (by omega)).1
      obtain ⟨k1, k2⟩ := rawR_0 (xs := xs) (a := h.2.1) (er := h.2.2) (n := n - T) (by omega) (by rw [← htt]; exact ht0)
      obtain ⟨k3, _⟩ := rawR_0 (xs := xs) (a := (numsN xs 6).2.1) (er := 0) (n := Fm) (by omega) (by rw [← hh]; exact k2)
      rw [← htt] at k1
      rw [← hh] at k3
      have hj := join_len hs12 lf nn.toNat
      rw [hlfl] at hj
      have hj2 : ((nn.toNat * (ch.toNat * size) : Nat) : Int) = T - Fm := by
        rw [Int.natCast_mul, Int.toNat_of_nonneg hq0, ← hfr]; exact hq2
      refine .inl ⟨rfl, ?_, ?_⟩
      · dsimp only; rw [List.length_append, List.length_append, k1, k3, hj]; omega
      · dsimp only; rw [List.length_append, List.length_append, k1, k3, hj]; omega
    · rw [if_pos (by decide)]; exact .inr ⟨rfl, .inr (.inl rfl)⟩
end Go.Proofs.YtilpoinhfiajcaaGreatDoorV
