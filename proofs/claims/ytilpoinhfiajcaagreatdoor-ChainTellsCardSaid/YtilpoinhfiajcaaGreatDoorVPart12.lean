import Derived.Test.YtilpoinhfiajcaaGreatDoorVPart11
set_option linter.unusedVariables false
set_option linter.unusedSimpArgs false
/- The document's answer: where a WAV's samples are. -/
namespace Go.Proofs.YtilpoinhfiajcaaGreatDoorV
open Go Go.RowKit
theorem goW_out {xs : List Int} {f a : Nat} {has pcm : Bool} {ch bits : Int} (h : xs.length < a + 8) : goW xs f a has pcm ch bits = noW := by
  cases f with
  | zero => rfl
  | succ f => rw [goW, if_pos h]
/-- What comes of a chunk, has it been looked at for measures. -/
def restW (xs : List Int) (f a : Nat) (has pcm : Bool) (ch bits : Int) : Wv × Bool :=
  if nameW xs a = datN ∧ has = true then foundW xs a pcm ch bits else goW xs f (a + 8 + skipW xs a) has pcm ch bits
theorem goW_rest {xs : List Int} {f a : Nat} {has pcm : Bool} {ch bits : Int} (h : a + 8 ≤ xs.length) :
    goW xs (f + 1) a has pcm ch bits = if isFmt xs a has then restW xs f a true (decide (fldW xs (a + 8) 2 = 1)) (fldW xs (a + 10) 2) (fldW xs (a + 22) 2) else restW xs f a has pcm ch bits := by
  rw [goW, if_neg (by omega)]
  unfold restW
  by_cases hf : isFmt xs a has
  · have hn : ¬ (nameW xs a = datN ∧ true = true) := fun hh => absurd (hh.1.symm.trans hf.1) (by decide)
    rw [if_pos hf, if_pos hf, if_neg hn]
    split
    · rw [goW_out (by omega)]
    · rfl
  · rw [if_neg hf, if_neg hf]
    split
    · rfl
    · split
      · rw [goW_out (by omega)]
      · rfl
section
variable {w : World} {xs : List Int} {b : Value}
theorem little13_any {a n : Nat} (hb : Nm .u8 w b xs) (hl : xs.length ≤ 1000000000) (h : a + n ≤ xs.length) (hn : n ≤ 4) : Calls P n_valiseref13_little #[b, .int .i64 (a : Int), .int .i64 (n : Int)] w (fun e w' => e = .returned (.int .i64 (fldW xs a n)) ∧ Ev w w') := by
  have i1 : i64 ((a : Int) + (n : Int)) = ((a + n : Nat) : Int) := by rw [i64_id (by omega) (by omega)]; omega
  refine of_valiseref13_little ?_
  rw [i1]
  refine gSlice_nm hb a (a + n) (.inr ⟨_, rfl⟩) (.inr ⟨_, rfl⟩) (by omega) h fun hs => ?_
  rw [Nat.add_sub_cancel_left] at hs
  have hsl : ((xs.drop a).take n).length = n := by rw [List.length_take, List.length_drop]; omega
  refine frNew (Fr.start w) hs (by omega) fun ad y w1 f1 => ?_
  have hr := rrLittle_any (n := (n : Int)) (f1.rd 0 1 rfl rfl (by decide) (a := 0) (Nat.zero_le _) (by omega))
  rw [if_neg (show ¬ ((8 : Int) < (n : Int)) by omega), rawR_at (by omega)] at hr
  refine gCall_i hr fun w2 h2 => ?_
  have f2 := f1.rs (a := 0) 0 rfl h2
  have hr := fldW_rg hb.2 a n hn
  have e : leN ((((xs.drop a).take n).drop 0).take n) = fldW xs a n := by rw [List.drop_zero, List.take_take, Nat.min_self]; rfl
  refine ⟨?_, f2.old⟩
  dsimp only
  rw [e, i64_id (by omega) (by omega)]
theorem rwParse_any (hb : Nm .u8 w b xs) (hl : xs.length ≤ 1000000000) : Calls P n_valiseref13_Parse #[b] w (WavE w (parseW xs)) := by
  have hx := hb.2
  refine of_valiseref13_Parse (fWvNew (Fr.start w) fun t2 w1 f1 => ?_)
  have hb1 := hb.ev f1.old
  have hn0 : inR .u8 (nameW xs 0) := (hb.2.drop _).take _
  have hn8 : inR .u8 (nameW xs 8) := (hb.2.drop _).take _
  refine ⟨fun w' => ¬ (xs.length < 12 ∨ nameW xs 0 ≠ riffN ∨ nameW xs 8 ≠ waveN) ∧ w' = w1, gLen_nm hb1 (gIf_ndec (fun h12 => ?_) (fun hlt => ?_)), ?_⟩
  · refine gSlice_nm hb1 0 4 (.inl ⟨rfl, rfl⟩) (.inr ⟨_, rfl⟩) (by omega) (by omega) fun hs => gConv_bs hs ?_
    rw [show ((bsOf ((xs.drop 0).take (4 - 0))).toList == (ByteArray.mk #[82, 73, 70, 70]).toList) = decide (nameW xs 0 = riffN) from riff_eq hn0]
    refine gIf_nndec (fun hr => gSlice_nm hb1 8 12 (.inr ⟨_, rfl⟩) (.inr ⟨_, rfl⟩) (by omega) (by omega) fun hs2 => gConv_bs hs2 ?_) (fun hr => ?_)
    · rw [show ((bsOf ((xs.drop 8).take (12 - 8))).toList == (ByteArray.mk #[87, 65, 86, 69]).toList) = decide (nameW xs 8 = waveN) from wave_eq hn8]
      refine gIf_ndec (fun hw => ?_) (fun hw => ⟨fun hh => ?_, rfl⟩)
      · exact fWvEnd (r := noW) f1 0 rfl rfl (by unfold parseW; rw [if_pos (.inr (.inr hw))])
      · rcases hh with hh | hh | hh
        · omega
        · exact hh hr
        · exact hh hw
    · exact fWvEnd (r := noW) f1 0 rfl rfl (by unfold parseW; rw [if_pos (.inr (.inl hr))])
  · exact fWvEnd (r := noW) f1 0 rfl rfl (by unfold parseW; rw [if_pos (.inl (by omega))])
  rintro _ w7 ⟨hok, hw7⟩
  obtain rfl : w1 = w7 := hw7.symm
  have hp0 : parseW xs = goW xs (xs.length + 1) 12 false false 0 0 := by unfold parseW; rw [if_neg hok]
  refine fWvNew f1 fun w4 w8 f8 => ?_
  refine ⟨fun has fmt at' w' => ∃ (f a : Nat) (ch bits : Int), at' = (a : Int) ∧ a ≤ 10000000000 ∧ (0 ≤ ch ∧ ch < 65536) ∧ (0 ≤ bits ∧ bits < 65536) ∧ parseW xs = goW xs f a has (decide (fmt = 1)) ch bits ∧ xs.length < f + a ∧ Fr w w' [sIt w4 (Wv.mk ch bits 0 0).c, sIt t2 Wv.z.c], fun _ _ at' _ => (xs.length + 1 - at').toNat, ⟨xs.length + 1, 12, 0, 0, rfl, by omega, by omega, by omega, hp0, by omega, f8⟩, ?_⟩
  rintro _ has fmt at' w9 ⟨f, a, ch, bits, rfl, ha, hch, hbits, hp, hfu, f9⟩
  have i8 : i64 ((a : Int) + 8) = ((a + 8 : Nat) : Int) := by rw [i64_id (by omega) (by omega)]; rfl
  have i4 : i64 ((a : Int) + 4) = ((a + 4 : Nat) : Int) := by rw [i64_id (by omega) (by omega)]; rfl
  rw [i8]
  refine gLen_nm (hb.ev f9.old) (gIf_dec (fun hge => ?_) (fun hlt => ?_))
  rotate_left
  · exact fWvEnd (r := noW) f9 1 rfl rfl (by rw [hp, goW_out (by omega)])
  have hge : a + 8 ≤ xs.length := by omega
  obtain ⟨f, rfl⟩ : ∃ f', f = f' + 1 := ⟨f - 1, by omega⟩
  rw [goW_rest hge] at hp
  have hnm : inR .u8 (nameW xs a) := (hx.drop _).take _
  have hsr := fldW_rg hx (a + 4) 4 (by omega)
  have hsz : fldW xs (a + 4) 4 = ((sizeW xs a : Nat) : Int) := by unfold sizeW; omega
  have i24 : i64 (((a + 8 : Nat) : Int) + 16) = ((a + 24 : Nat) : Int) := by rw [i64_id (by omega) (by omega)]; omega
  have i10 : i64 (((a + 8 : Nat) : Int) + 2) = ((a + 10 : Nat) : Int) := by rw [i64_id (by omega) (by omega)]; omega
  have i22 : i64 (((a + 8 : Nat) : Int) + 14) = ((a + 22 : Nat) : Int) := by rw [i64_id (by omega) (by omega)]; omega
  have hnext : i64 (i64 (((a + 8 : Nat) : Int) + ((sizeW xs a : Nat) : Int)) + Int.tmod ((sizeW xs a : Nat) : Int) 2) = ((a + 8 + skipW xs a : Nat) : Int) := by
    rw [i64_id (n := ((a + 8 : Nat) : Int) + ((sizeW xs a : Nat) : Int)) (by omega) (by omega), Int.tmod_eq_emod_of_nonneg (by omega), i64_id (by omega) (by omega)]
    unfold skipW; omega
  have hlit := fun {w' : World} (he : Ev w w') => little13_any (hb.ev he) hl (a := a + 4) (n := 4) (by omega) (by omega)
  rw [hsz] at hlit
  rw [i4]
  refine ⟨fun _ => True, trivial, gSlice_nm (hb.ev f9.drew.old) a (a + 4) (.inr ⟨_, rfl⟩) (.inr ⟨_, rfl⟩) (by omega) (by omega) fun hs => ?_⟩
  rw [Nat.add_sub_cancel_left] at hs
  refine ⟨gConv_bs hs ⟨trivial, gCall_i (hlit f9.drew.old) fun w11 h11 => ⟨trivial, ?_⟩⟩, gCall_i (hlit f9.drew.old) fun w11 h11 => ⟨trivial, gConv_bs (hs.ev h11) ⟨trivial, ?_⟩⟩⟩
  all_goals
    have g := f9.drew.ev h11
    rw [i24, i10, i22, hnext]
    rw [show ((bsOf ((xs.drop a).take 4)).toList == (ByteArray.mk #[102, 109, 116, 32]).toList) = decide (nameW xs a = fmtN) from fmt_eq hnm, show ((bsOf ((xs.drop a).take 4)).toList == (ByteArray.mk #[100, 97, 116, 97]).toList) = decide (nameW xs a = datN) from dat_eq hnm]
    refine ⟨fun has' fmt' w' => ∃ ch' bits' : Int, (0 ≤ ch' ∧ ch' < 65536) ∧ (0 ≤ bits' ∧ bits' < 65536) ∧ parseW xs = restW xs f a has' (decide (fmt' = 1)) ch' bits' ∧ Fr w w' [sIt w4 (Wv.mk ch' bits' 0 0).c, sIt t2 Wv.z.c], ⟨fun t w' => w' = w11 ∧ t = decide (isFmt xs a has), ?_, ?_⟩, ?_⟩
    · refine gIf_dec (fun h1 => gIf_nb (fun h2 => gIf_dec (fun h3 => gLen_nm (hb.ev g.old) ⟨rfl, ?_⟩) (fun h3 => ⟨rfl, ?_⟩)) (fun h2 => ⟨rfl, ?_⟩)) (fun h1 => ⟨rfl, ?_⟩)
      · rw [decide_eq_decide]; unfold isFmt
        exact ⟨fun h4 => ⟨h1, h2, by omega, by omega⟩, fun h4 => by omega⟩
      · rw [decide_eq_false]; unfold isFmt; omega
      · rw [decide_eq_false]; unfold isFmt; rw [h2]; simp
      · rw [decide_eq_false]; unfold isFmt; exact fun hh => h1 hh.1
    · rintro _ t w15 ⟨hw15, ht⟩
      obtain rfl : w11 = w15 := hw15.symm
      subst ht
      refine gIf_dec (fun hf => ?_) (fun hf => ⟨ch, bits, hch, hbits, by rw [hp, if_neg hf], g⟩)
      rw [if_pos hf] at hp
      obtain ⟨_, _, _, h24⟩ := id hf
      have r1 := fldW2_rg hx (a + 10)
      have r2 := fldW2_rg hx (a + 22)
      refine gCall_i (little13_any (hb.ev g.old) hl (a := a + 8) (n := 2) (by omega) (by omega)) fun w12 h12 => gCall_i (little13_any (hb.ev (g.ev h12).old) hl (a := a + 10) (n := 2) (by omega) (by omega)) fun w13 h13 => gCall_i (little13_any (hb.ev ((g.ev h12).ev h13).old) hl (a := a + 22) (n := 2) (by omega) (by omega)) fun w14 h14 => ?_
      have g14 := ((g.ev h12).ev h13).ev h14
      refine fStore g14 0 0 rfl fun w16 g16 => ?_
      have g16 : Fr w w16 [sIt w4 (Wv.mk (fldW xs (a + 10) 2) bits 0 0).c, sIt t2 Wv.z.c] := g16
      exact fStore g16 0 1 rfl fun w17 g17 => ⟨fldW xs (a + 10) 2, fldW xs (a + 22) 2, r1, r2, hp, g17⟩
    · rintro _ has' fmt' w18 ⟨ch', bits', hch', hbits', hp', g'⟩
      unfold restW at hp'
      refine ⟨fun t w' => w' = w18 ∧ t = decide (nameW xs a = datN ∧ has' = true), gIf_dec (fun h1 => ⟨rfl, ?_⟩) (fun h1 => ⟨rfl, ?_⟩), ?_⟩
      · cases has' with
        | true => rw [decide_eq_true ⟨h1, rfl⟩]
        | false => rw [decide_eq_false (by simp)]
      · rw [decide_eq_false (fun hh => h1 hh.1)]
      rintro _ t w19 ⟨hw19, ht⟩
      obtain rfl : w18 = w19 := hw19.symm
      subst ht
      refine gIf_dec (fun hd => ?_) (fun hd => ?_)
      · rw [if_pos hd] at hp'
        have no : ¬ (decide (fmt' = 1) = true ∧ frameW ch' bits' ≠ 0 ∧ ¬ ((minW xs a : Int) < frameW ch' bits')) → parseW xs = noW := fun h => by rw [hp']; unfold foundW; rw [if_neg h]
        have bad : ¬ (fmt' = 1 ∧ frameW ch' bits' ≠ 0) → parseW xs = noW := fun h => no fun hh => h ⟨by simpa using hh.1, hh.2.1⟩
        have fz : (ch' < 1 ∨ ch' > 8 ∨ (bits' ≠ 8 ∧ bits' ≠ 16)) → frameW ch' bits' = 0 := fun h => by unfold frameW; rw [if_pos h]
        refine ⟨fun w' => (fmt' = 1 ∧ ¬ (ch' < 1 ∨ ch' > 8 ∨ (bits' ≠ 8 ∧ bits' ≠ 16))) ∧ w' = w18, gIf_nneq (fun h1 => fLoad_i (n := ch') g' 0 0 rfl rfl (gIf_ndec (fun h2 => fLoad_i (n := ch') g' 0 0 rfl rfl (gIf_ndec (fun h3 => fLoad_i (n := bits') g' 0 1 rfl rfl (gIf_neq (fun h4 => fLoad_i (n := bits') g' 0 1 rfl rfl (gIf_neq (fun h5 => ?_) (fun h5 => ⟨⟨h1, by omega⟩, rfl⟩))) (fun h4 => ⟨⟨h1, by omega⟩, rfl⟩))) (fun h3 => ?_))) (fun h2 => ?_))) (fun h1 => ?_), ?_⟩
        · exact fWvEnd (r := noW) g' 1 rfl rfl (by rw [bad fun hh => hh.2 (fz (by omega))])
        · exact fWvEnd (r := noW) g' 1 rfl rfl (by rw [bad fun hh => hh.2 (fz (by omega))])
        · exact fWvEnd (r := noW) g' 1 rfl rfl (by rw [bad fun hh => hh.2 (fz (by omega))])
        · exact fWvEnd (r := noW) g' 1 rfl rfl (by rw [bad fun hh => h1 hh.1])
        rintro _ w24 ⟨⟨hf1, hok2⟩, hw24⟩
        obtain rfl : w18 = w24 := hw24.symm
        have hfe : frameW ch' bits' = ch' * bits' / 8 := by unfold frameW; rw [if_neg hok2]
        have hbb : bits' = 8 ∨ bits' = 16 := by omega
        have hm8 : i64 (Int.tdiv (i64 (ch' * bits')) 8) = frameW ch' bits' := by
          rw [hfe]
          rcases hbb with e | e <;> subst e
          · rw [i64_id (n := ch' * 8) (by omega) (by omega), Int.tdiv_eq_ediv_of_nonneg (by omega), i64_id (by omega) (by omega)]
          · rw [i64_id (n := ch' * 16) (by omega) (by omega), Int.tdiv_eq_ediv_of_nonneg (by omega), i64_id (by omega) (by omega)]
        have hfr1 : 1 ≤ frameW ch' bits' ∧ frameW ch' bits' ≤ 16 := by
          rw [hfe]
          rcases hbb with e | e <;> subst e <;> omega
        obtain ⟨fr, hfr⟩ : ∃ fr, fr = frameW ch' bits' := ⟨_, rfl⟩
        rw [← hfr] at hfr1
        refine fLoad_i (n := ch') g' 0 0 rfl rfl (fLoad_i (n := bits') g' 0 1 rfl rfl (gLen_nm (hb.ev g'.old) ?_))
        rw [hm8, ← hfr]
        have hmin : (if i64 ((xs.length : Int) - ((a + 8 : Nat) : Int)) < ((sizeW xs a : Nat) : Int) then i64 ((xs.length : Int) - ((a + 8 : Nat) : Int)) else ((sizeW xs a : Nat) : Int)) = ((minW xs a : Nat) : Int) := by
          rw [i64_id (n := (xs.length : Int) - ((a + 8 : Nat) : Int)) (by omega) (by omega)]
          unfold minW; split <;> split <;> omega
        have hmle : minW xs a ≤ xs.length - (a + 8) := by unfold minW; split <;> omega
        rw [hmin]
        refine gBin_quo (by omega) ?_
        have h7 : (minW xs a : Int) / fr * fr ≤ (minW xs a : Int) := Int.ediv_mul_le _ (by omega)
        have h8 : 0 ≤ (minW xs a : Int) / fr := Int.ediv_nonneg (by omega) (by omega)
        have h9 : 0 ≤ (minW xs a : Int) / fr * fr := Int.mul_nonneg h8 (by omega)
        have h10 : (minW xs a : Int) / fr ≤ (minW xs a : Int) := Int.ediv_le_self _ (by omega)
        rw [Int.tdiv_eq_ediv_of_nonneg (by omega), wrap_i64, i64_id (n := (minW xs a : Int) / fr) (by omega) (by omega), i64_id (n := (minW xs a : Int) / fr * fr) (by omega) (by omega), i64_id (n := ((a + 8 : Nat) : Int) + (minW xs a : Int) / fr * fr) (by omega) (by omega)]
        refine gIf_dec (fun hlt => ?_) (fun hge1 => ?_)
        · refine fWvEnd (r := noW) g' 1 rfl rfl ?_
          rw [no fun hh => ?_]
          have h11 : 1 ≤ (minW xs a : Int) / fr := Int.le_ediv_of_mul_le (by omega) (by rw [hfr]; omega)
          have h12 : 1 * 1 ≤ (minW xs a : Int) / fr * fr := Int.mul_le_mul h11 hfr1.1 (by omega) (by omega)
          omega
        · have hfound : parseW xs = (⟨ch', bits', ((a + 8 : Nat) : Int), ((a + 8 : Nat) : Int) + (minW xs a : Int) / fr * fr⟩, true) := by
            have hnl : ¬ ((minW xs a : Int) < frameW ch' bits') := fun hh => by
              rw [← hfr] at hh
              rw [Int.ediv_eq_zero_of_lt (by omega) hh] at hge1
              omega
            have hd1 : decide (fmt' = 1) = true := decide_eq_true hf1
            have hne : frameW ch' bits' ≠ 0 := by omega
            rw [hp']; unfold foundW
            rw [if_pos ⟨hd1, hne, hnl⟩, hfr]
          refine fStore g' 0 2 rfl fun w26 g26 => fStore g26 0 3 rfl fun w27 g27 => ?_
          have g27 : Fr w w27 [sIt w4 (Wv.mk ch' bits' ((a + 8 : Nat) : Int) (((a + 8 : Nat) : Int) + (minW xs a : Int) / fr * fr)).c, sIt t2 Wv.z.c] := g27
          refine fWv (Wv.mk ch' bits' ((a + 8 : Nat) : Int) (((a + 8 : Nat) : Int) + (minW xs a : Int) / fr * fr)) g27 0 rfl ?_
          exact fWvEnd (r := (⟨ch', bits', ((a + 8 : Nat) : Int), ((a + 8 : Nat) : Int) + (minW xs a : Int) / fr * fr⟩, true)) g27 1 rfl rfl (by rw [hfound])
      · rw [if_neg hd] at hp'
        exact ⟨⟨f, a + 8 + skipW xs a, ch', bits', rfl, by unfold skipW; omega, hch', hbits', hp', by omega, g'⟩, by dsimp only; omega⟩
end
end Go.Proofs.YtilpoinhfiajcaaGreatDoorV

/- The document's answer: a file of samples. -/
namespace Go.Proofs.YtilpoinhfiajcaaGreatDoorV
open Go Go.RowKit
section
variable {w0 w : World} {F : List It}
end
end Go.Proofs.YtilpoinhfiajcaaGreatDoorV

/- Packages valiseref01 (the writer) and valiseref10: what their calls do. -/
namespace Go.Proofs.YtilpoinhfiajcaaGreatDoorV
open Go Go.RowKit
/-! ### valiseref01: a list of zeros and ones -/
section
variable {ad : Addr} {v : Value} {bs : List Int} {w : World}
end
/-! ### valiseref10 -/
theorem B01.flat (l : List Int) {j : Nat} (h : j ≤ chN 64 l.length) : B01 (flatB l (List.range j)) := by rw [flatB_range l j h]; exact B01.pack _ _
end Go.Proofs.YtilpoinhfiajcaaGreatDoorV

/- Package valisehelp: Own, Kept, Plain, Same of @T@. -/
namespace Go.Proofs.YtilpoinhfiajcaaGreatDoorV
open Go Go.RowKit
theorem Own_byte_on {l : Value} {xs : List Int} {f : Int} {w : World} (h : Nm .u8 w l xs) (hl : xs.length ≤ 1000000000) (hf : IntKind.u8.min ≤ f ∧ f ≤ IntKind.u8.max) :
    Calls P n_valisehelp_Own_byte #[l, .int .u8 f] w (fun e w' => ∃ v, e = .returned v ∧ Ev w w' ∧ Owd .u8 w' v xs f ∧ ON .u8 (elOf P t_sl_uint8) w' w.heap.size v xs) := by
  refine of_valisehelp_Own_byte (gLen_nm h ?_)
  rw [show i64 ((xs.length : Int) + 3) = ((xs.length + 3 : Nat) : Int) from i64_id (by omega) (by omega)]
  refine gMake_cap (k := .u8) (by omega) fun w1 h1 hs1 hF => ?_
  generalize hg : w.heap.size = g at *
  have hz : (List.replicate (xs.length + 3) (0 : Int)).length = xs.length + 3 := by simp
  refine gApp_room (n := 0) hF hz (h.ev h1) (by omega) fun w2 h2 hs2 hF2 => gLen_nm h ?_
  rw [show i64 ((xs.length : Int) + 3) = ((xs.length + 3 : Nat) : Int) from i64_id (by omega) (by omega), Nat.zero_add]
  rw [Nat.zero_add] at hF2
  have e0 : List.replicate (xs.length + 3) (0 : Int) = List.replicate xs.length 0 ++ [0, 0, 0] := List.replicate_append_replicate.symm
  have eF : List.take 0 (List.replicate (xs.length + 3) (0 : Int)) ++ xs ++ List.drop xs.length (List.replicate (xs.length + 3) 0) = xs ++ [0, 0, 0] := by
    rw [e0, List.drop_append_of_le_length (by simp), List.drop_of_length_le (by simp)]; simp
  rw [eF] at hF2
  refine gSlice_any (sz := 1) (l := 0) (h := xs.length + 3) (.inl ⟨rfl, rfl⟩) (.inr ⟨_, rfl⟩) (by omega) (by omega) ?_ (by kernel_rfl)
  rw [subV_z (by omega)]
  have hO := hF2.on (xs.length + 3) (by simp)
  rw [List.take_of_length_le (by simp)] at hO
  have e2 : (xs ++ [(0 : Int), 0, 0]).length = xs.length + 3 := by simp
  rw [e2] at hO
  have hev : Ev w w2 := h1.new h2 fun n i hh => by rw [hh]; omega
  refine gLen_nm h ⟨fun i w3 => ∃ j : Nat, i = ((xs.length + j : Nat) : Int) ∧ j ≤ 3 ∧ Ev w w3 ∧ ON .u8 (elOf P t_sl_uint8) w3 g (.slice (some ⟨g, 0, none⟩) (xs.length + 3) (xs.length + 3)) (xs ++ (List.replicate j f ++ List.replicate (3 - j) 0)), fun i _ => xs.length + 3 - i.toNat, ⟨0, by omega, by omega, hev, hO⟩, ?_⟩
  rintro _ i w3 ⟨j, rfl, hj, h3, hO3⟩
  have hln : (xs ++ (List.replicate j f ++ List.replicate (3 - j) (0 : Int))).length = xs.length + 3 := by simp; omega
  refine gLen_nm hO3.nm (gIf_dec (fun hlt => ?_) (fun hge => ?_))
  · rw [hln] at hlt
    refine gIdx_on hO3 (by omega) (by rw [hln]; omega) fun ad hs _ => gStore_on hO3 hs (by omega) (by rw [hln]; omega) hf fun w4 h4 _ hO4 => ?_
    rw [show i64 (((xs.length + j : Nat) : Int) + 1) = ((xs.length + (j + 1) : Nat) : Int) by rw [i64_id (by omega) (by omega)]; omega]
    refine ⟨⟨j + 1, rfl, by omega, h3.new h4 fun n i hh => ?_, ?_⟩, by dsimp only; omega⟩
    · have : n = g := by simpa [Value.ownBlock] using hh.symm
      omega
    · have e3 : (xs ++ (List.replicate j f ++ List.replicate (3 - j) (0 : Int))).set (xs.length + j) f = xs ++ (List.replicate (j + 1) f ++ List.replicate (3 - (j + 1)) 0) := by
        rw [List.set_append_right _ _ (by omega), show xs.length + j - xs.length = j by omega, List.set_append_right _ _ (by simp), List.length_replicate, Nat.sub_self, show 3 - j = (3 - (j + 1)) + 1 by omega, List.replicate_succ, List.set_cons_zero, List.replicate_succ']
        simp
      rw [Int.toNat_natCast, e3] at hO4
      exact hO4
  · rw [hln] at hge
    obtain rfl : j = 3 := by omega
    refine ⟨_, rfl, h3, ⟨some ⟨g, 0, none⟩, xs.length + 3, rfl, Nat.le_refl _, hO3.nm⟩, ?_⟩
    have := hO3.pre xs.length (by omega)
    rw [List.take_left] at this
    exact this
theorem Own_byte_any {l : Value} {xs : List Int} {f : Int} {w : World} (h : Nm .u8 w l xs) (hl : xs.length ≤ 1000000000) (hf : IntKind.u8.min ≤ f ∧ f ≤ IntKind.u8.max) :
    Calls P n_valisehelp_Own_byte #[l, .int .u8 f] w (fun e w' => ∃ v, e = .returned v ∧ Ev w w' ∧ Owd .u8 w' v xs f) :=
  (Own_byte_on h hl hf).mono fun _ _ ⟨v, h1, h2, h3, _⟩ => ⟨v, h1, h2, h3⟩
theorem Same_byte_any {a b : Value} {xs ys : List Int} {w : World} (ha : Nm .u8 w a xs) (hb : Nm .u8 w b ys) (hl : xs.length ≤ 1000000000) :
    Calls P n_valisehelp_Same_byte #[a, b, .func (.func n_valisehelp_Plain_byte_1) #[] #[]] w (fun e w' => e = .returned (.bool (decide (xs = ys))) ∧ Ev w w') := by
  refine of_valisehelp_Same_byte (gLen_nm ha (gLen_nm hb (gIf_neq (fun hne => ⟨by rw [decide_eq_false fun h => hne (by rw [h])], Ch.refl _ w⟩) (fun heq => ?_))))
  have hle : xs.length = ys.length := by omega
  refine ⟨fun i w' => ∃ j : Nat, i = j ∧ j ≤ xs.length ∧ (∀ q, q < j → rd xs q = rd ys q) ∧ Ev w w', fun i _ => xs.length - i.toNat, ⟨0, rfl, by omega, by omega, Ch.refl _ w⟩, ?_⟩
  rintro _ i w1 ⟨j, rfl, hj, hq, h1⟩
  refine gLen_nm ha (gIf_dec (fun hlt => ?_) (fun hge => ⟨?_, h1⟩))
  · refine ⟨fun w' => w' = w1.drew, rfl, gIdx_nm (ha.ev h1) (by omega) (by omega) fun a1 c1 _ => gLoadB_i (at1 c1) (gIdx_nm (hb.ev h1) (by omega) (by omega) fun a2 c2 _ => gLoadB_i (at1 c2) (gCallV_of rfl (by kernel_rfl) (of_valisehelp_Plain_byte_1 (R := fun e w' => e = .returned (.bool (rd xs j == rd ys j)) ∧ w' = w1.drew) ⟨rfl, rfl⟩) ?_))⟩
    rintro _ _ ⟨rfl, rfl⟩
    refine ⟨_, rfl, rfl, ?_⟩
    refine gIf_neqq (fun hne => ⟨?_, h1.drew⟩) (fun he => ?_)
    · rw [decide_eq_false fun h => hne (by rw [h])]
    · rw [i64_id (n := (j : Int) + 1) (by omega) (by omega)]
      refine ⟨⟨j + 1, by omega, by omega, fun q hq' => ?_, h1.drew⟩, by dsimp only; omega⟩
      rcases Nat.lt_or_ge q j with h | h
      · exact hq q h
      · have : q = j := by omega
        subst this; exact he
  · rw [decide_eq_true]
    refine List.ext_getElem hle fun q h1 h2 => ?_
    rw [← rd_nat xs q h1, ← rd_nat ys q h2]; exact hq q (by omega)
theorem Plain_byte_any {a b : Value} {xs ys : List Int} {w : World} (ha : Nm .u8 w a xs) (hb : Nm .u8 w b ys) (hl : xs.length ≤ 1000000000) :
    Calls P n_valisehelp_Plain_byte #[a, b] w (fun e w' => e = .returned (.bool (decide (xs = ys))) ∧ Ev w w') :=
  of_valisehelp_Plain_byte (gCall_of (Same_byte_any ha hb hl) fun _ _ ⟨h1, h2⟩ => ⟨_, h1, rfl, h2⟩)
theorem Kept_byte_any {o l : Value} {xs : List Int} {f : Int} {w : World} (ho : Owd .u8 w o xs f) (h : Nm .u8 w l xs) (hl : xs.length ≤ 1000000000) :
    Calls P n_valisehelp_Kept_byte #[o, l, .int .u8 f] w (fun e w' => e = .returned (.bool true) ∧ Ev w w') := by
  have hn := ho.nm
  obtain ⟨a, c, rfl, hc, hN⟩ := ho
  have e3 : i64 ((xs.length : Int) + 3) = ((xs.length + 3 : Nat) : Int) := i64_id (by omega) (by omega)
  refine of_valisehelp_Kept_byte ⟨fun w' => Ev w w', gCall_of (Plain_byte_any hn h hl) ?_, ?_⟩
  · rintro _ w1 ⟨rfl, h1⟩
    refine ⟨_, rfl, ?_⟩
    rw [decide_eq_true rfl]
    refine gIf_nn (gCap_sl (gLen_nm h ?_))
    rw [e3]
    exact gIf_dec (fun hlt => by omega) (fun _ => h1)
  · rintro _ w2 h2
    refine gLen_nm h ?_
    rw [e3]
    refine gSlice_any (sz := 1) (l := 0) (h := xs.length + 3) (.inl ⟨rfl, rfl⟩) (.inr ⟨_, rfl⟩) (by omega) hc ?_ (by kernel_rfl)
    rw [subV_z (by omega)]
    have hN2 := hN.ev h2
    have hln : (xs ++ [f, f, f]).length = xs.length + 3 := by simp
    refine gLen_nm h ⟨fun i w3 => ∃ j : Nat, i = ((xs.length + j : Nat) : Int) ∧ j ≤ 3 ∧ w3 = w2, fun i _ => xs.length + 3 - i.toNat, ⟨0, by omega, by omega, rfl⟩, ?_⟩
    rintro _ i _ ⟨j, rfl, hj, rfl⟩
    refine gLen_nm hN2 (gIf_dec (fun hlt => ?_) (fun hge => ⟨rfl, h2⟩))
    rw [hln] at hlt
    refine gIdx_nm hN2 (by omega) (by rw [hln]; omega) fun ad c1 _ => gLoad_i c1 (gIf_neq (fun hne => (hne ?_).elim) (fun _ => ?_))
    · rw [rd, Int.toNat_natCast, List.getD_eq_getElem?_getD, List.getElem?_append_right (by omega), show xs.length + j - xs.length = j by omega]
      have : j = 0 ∨ j = 1 ∨ j = 2 := by omega
      rcases this with rfl | rfl | rfl <;> rfl
    · rw [show i64 (((xs.length + j : Nat) : Int) + 1) = ((xs.length + (j + 1) : Nat) : Int) by rw [i64_id (by omega) (by omega)]; omega]
      exact ⟨⟨j + 1, rfl, by omega, rfl⟩, by dsimp only; omega⟩
end Go.Proofs.YtilpoinhfiajcaaGreatDoorV

/- Package valisehelp: Own, Kept, Plain, Same of int32. -/
namespace Go.Proofs.YtilpoinhfiajcaaGreatDoorV
open Go Go.RowKit
end Go.Proofs.YtilpoinhfiajcaaGreatDoorV

/- The laws of rice. -/
namespace Go.Proofs.YtilpoinhfiajcaaGreatDoorV
open Go Go.RowKit
section
variable {w0 w : World} {F : List It} {f : FuncId} {args : Array Value}
end
theorem hasAt.more {xs bs : List Int} (ys : List Int) (h : hasAt xs 0 bs) : hasAt (xs ++ ys) 0 bs := by
  obtain ⟨h1, h2⟩ := h
  refine ⟨by rw [List.length_append]; omega, fun k hk => ?_⟩
  rw [← h2 k hk]
  unfold bitAt
  rw [rd_app, if_pos (by omega)]
theorem unpE_err (xs : List Int) {n : Int} (h0 : 0 ≤ n) (h1 : n ≤ 1048576) : ((unpE true xs n).2 = 4 ∧ (unpE true xs n).1 = []) ∨ ((unpE true xs n).2 = 0 ∧ (unpE true xs n).1.length = n.toNat ∧ pkB (packTo (unpE true xs n).1 (unpE true xs n).1.length) = xs) := by
  unfold unpE
  rw [if_neg (by omega), if_neg (by omega)]
  split
  · exact .inl ⟨rfl, rfl⟩
  · rename_i l hl
    split
    · rename_i he; exact .inr ⟨rfl, readN_len _ _ _ _ hl, he⟩
    · exact .inl ⟨rfl, rfl⟩
end Go.Proofs.YtilpoinhfiajcaaGreatDoorV

/- The law AudioTotal. -/
namespace Go.Proofs.YtilpoinhfiajcaaGreatDoorV
open Go Go.RowKit
theorem hunE (b : List Int) (n : Int) (h0 : 0 ≤ n) (h1 : n ≤ 1048576) : (unpE true b n).1.length ≤ 1048576 ∧ ((unpE true b n).2 = 0 → (unpE true b n).1.length = n.toNat) := by
  rcases unpE_err b h0 h1 with ⟨h2, h3⟩ | ⟨_, h3, _⟩
  · rw [h3]; exact ⟨Nat.zero_le _, fun h => by omega⟩
  · exact ⟨by omega, fun _ => h3⟩
section
variable {w : World}
end
end Go.Proofs.YtilpoinhfiajcaaGreatDoorV

/- Package filter: what its functions compute, first part. -/
namespace Go.Proofs.YtilpoinhfiajcaaGreatDoorV
open Go Go.RowKit

def ofL (l : List Int) (i : Int) : Int := if i < 0 ∨ i ≥ l.length then 0 else rd l i
theorem ofL_u8 {l : List Int} (h : inR .u8 l) (i : Int) : 0 ≤ ofL l i ∧ ofL l i < 256 := by
  unfold ofL; split
  · omega
  · exact rd_u8 h i
def farI (a b : Int) : Int := if b - a > a - b then b - a else a - b
def paethI (a b c : Int) : Int :=
  if farI (a + b - c) a ≤ farI (a + b - c) b ∧ farI (a + b - c) a ≤ farI (a + b - c) c then a
  else if farI (a + b - c) b ≤ farI (a + b - c) c then b else c
def guessI (kind a b c : Int) : Int :=
  if kind = 1 then a else if kind = 2 then b else if kind = 3 then paethI a b c else if kind = 4 then (a + b) / 2 else 0

theorem of_any {l : Value} {xs : List Int} {i : Int} {w : World} (h : Nm .u8 w l xs) : Calls P n_filter_of #[l, .int .i64 i] w (fun e w' => e = .returned (.int .i64 (ofL xs i)) ∧ w' = w) := by
  refine of_filter_of (gIf_ndec (fun h0 => gLen_nm h (gIf_dec (fun h1 => ⟨?_, rfl⟩) (fun h1 => ?_))) (fun h0 => ⟨?_, rfl⟩))
  · unfold ofL; rw [if_pos (.inr h1)]
  · refine gIdx_nm h (by omega) (by omega) fun ad hc _ => gLoad_i hc ⟨?_, rfl⟩
    have := rd_u8 h.2 i
    unfold ofL; rw [if_neg (by omega), i64_id (by omega) (by omega)]
  · unfold ofL; rw [if_pos (.inl h0)]
theorem far_any {a b : Int} {w : World} (ha : -100000 ≤ a ∧ a ≤ 100000) (hb : -100000 ≤ b ∧ b ≤ 100000) : Calls P n_filter_far #[.int .i64 a, .int .i64 b] w (fun e w' => e = .returned (.int .i64 (farI a b)) ∧ w' = w) := by
  refine of_filter_far ⟨?_, rfl⟩
  rw [i64_id (by omega) (by omega), i64_id (by omega) (by omega)]; rfl
abbrev rng (x : Int) : Prop := 0 ≤ x ∧ x < 256
theorem paeth_any {ad : Addr} {a b c : Int} {w : World} {r : List Value} (h : St w ad (.int .i64 a :: .int .i64 b :: .int .i64 c :: r)) (ha : rng a) (hb : rng b) (hc : rng c) :
    Calls P n_filter_around_paeth #[.pointer (some ad)] w (fun e w' => e = .returned (.int .i64 (paethI a b c)) ∧ Ev w w') := by
  refine of_filter_around_paeth (gNil_some (gLoadB_i (at1 (h.cell (j := 0) rfl)) (gNil_some (gLoadB_i (at1 (h.cell (j := 1) rfl)) (gNil_some (gLoadB_i (at1 (h.cell (j := 2) rfl)) ?_))))))
  refine ⟨fun w' => w' = w.drew.drew, rfl, gNil_some (gLoadB_i (at1 (h.drew.cell (j := 0) rfl)) (gNil_some (gLoadB_i (at1 (h.drew.cell (j := 1) rfl)) (gNil_some (gLoadB_i (at1 (h.drew.cell (j := 2) rfl)) ?_)))))⟩
  rw [i64_id (n := a + b) (by omega) (by omega), i64_id (n := a + b - c) (by omega) (by omega)]
  refine gCall_of (far_any (by omega) (by omega)) ?_
  rintro _ _ ⟨rfl, rfl⟩
  refine ⟨_, rfl, rfl, gCall_of (far_any (by omega) (by omega)) ?_⟩
  rintro _ _ ⟨rfl, rfl⟩
  refine ⟨_, rfl, rfl, gCall_of (far_any (by omega) (by omega)) ?_⟩
  rintro _ _ ⟨rfl, rfl⟩
  refine ⟨_, rfl, rfl, ?_⟩
  have hev : Ev w w.drew.drew := (Ev.drew0 w).drew
  have hB : farI (a + b - c) b ≤ farI (a + b - c) c → ¬ (farI (a + b - c) a ≤ farI (a + b - c) b ∧ farI (a + b - c) a ≤ farI (a + b - c) c) → paethI a b c = b := fun h1 h2 => by unfold paethI; rw [if_neg h2, if_pos h1]
  have hC : ¬ farI (a + b - c) b ≤ farI (a + b - c) c → ¬ (farI (a + b - c) a ≤ farI (a + b - c) b ∧ farI (a + b - c) a ≤ farI (a + b - c) c) → paethI a b c = c := fun h1 h2 => by unfold paethI; rw [if_neg h2, if_neg h1]
  refine gIf_dec (fun h1 => gIf_dec (fun h2 => gNil_some (gLoad_i (h.drew.drew.cell (j := 0) rfl) ⟨?_, hev⟩)) (fun h2 => ?_)) (fun h1 => ?_)
  · unfold paethI; rw [if_pos ⟨h1, h2⟩]
  all_goals
    have hn : ¬ (farI (a + b - c) a ≤ farI (a + b - c) b ∧ farI (a + b - c) a ≤ farI (a + b - c) c) := fun h => by first | exact h2 h.2 | exact h1 h.1
    refine gIf_dec (fun h3 => gNil_some (gLoad_i (h.drew.drew.cell (j := 1) rfl) ⟨by rw [hB h3 hn], hev⟩)) (fun h3 => gNil_some (gLoad_i (h.drew.drew.cell (j := 2) rfl) ⟨by rw [hC h3 hn], hev⟩))
theorem paethI_rng {a b c : Int} (ha : rng a) (hb : rng b) (hc : rng c) : rng (paethI a b c) := by unfold paethI; split <;> first | exact ha | skip; split <;> assumption
theorem guess_any {ad : Addr} {k a b c : Int} {w : World} {r : List Value} (h : St w ad (.int .i64 a :: .int .i64 b :: .int .i64 c :: r)) (ha : rng a) (hb : rng b) (hc : rng c) :
    Calls P n_filter_around_guess #[.pointer (some ad), .int .i64 k] w (fun e w' => e = .returned (.int .u8 (guessI k a b c)) ∧ Ev w w') := by
  refine of_filter_around_guess (gIf_eq (fun h1 => gNil_some (gLoad_i (h.cell (j := 0) rfl) ⟨?_, Ch.refl _ w⟩)) (fun h1 => gIf_eq (fun h2 => gNil_some (gLoad_i (h.cell (j := 1) rfl) ⟨?_, Ch.refl _ w⟩)) (fun h2 =>
    gIf_eq (fun h3 => gCall_of (paeth_any h ha hb hc) ?_) (fun h3 => gIf_eq (fun h4 => gNil_some (gLoadB_i (at1 (h.cell (j := 0) rfl)) (gNil_some (gLoadB_i (at1 (h.cell (j := 1) rfl)) ⟨?_, Ev.drew0 w⟩)))) (fun h4 => ⟨?_, Ch.refl _ w⟩)))))
  · unfold guessI; rw [if_pos h1, u8_id ha.1 ha.2]
  · unfold guessI; rw [if_neg h1, if_pos h2, u8_id hb.1 hb.2]
  · rintro _ w1 ⟨rfl, hw⟩
    have := paethI_rng ha hb hc
    refine ⟨_, rfl, ?_, hw⟩
    unfold guessI; rw [if_neg h1, if_neg h2, if_pos h3, u8_id this.1 this.2]
  · unfold guessI; rw [if_neg h1, if_neg h2, if_neg h3, if_pos h4, i64_id (n := a + b) (by omega) (by omega), Int.tdiv_eq_ediv_of_nonneg (by omega), i64_id (by omega) (by omega), u8_id (by omega) (by omega)]
  · unfold guessI; rw [if_neg h1, if_neg h2, if_neg h3, if_neg h4]
/-- What the struct of a row's neighbours holds. -/
def nbs (a b c : Int) (row up : Value) (p : Int) : List Value := [.int .i64 a, .int .i64 b, .int .i64 c, row, up, .int .i64 p]
theorem nlook_any {ad : Addr} {a b c p i : Int} {row up : Value} {xs us : List Int} {w : World} (h : St w ad (nbs a b c row up p)) (hr : Nm .u8 w row xs) (hu : Nm .u8 w up us) (hp : 0 ≤ p ∧ p ≤ 9223372036854775807) (hi : 0 ≤ i ∧ i ≤ 9223372036854775807) :
    Calls P n_filter_neighbours_look #[.pointer (some ad), .int .i64 i] w (fun e w' => e = .returned (.tuple #[]) ∧ Ch (Rg ad 3) w w' ∧ St w' ad (nbs (ofL xs (i - p)) (ofL us i) (ofL us (i - p)) row up p)) := by
  refine of_filter_neighbours_look ⟨fun w' => St w' (ad.add 3) [row, up, .int .i64 p], ?_, ?_⟩
  · exact (h.sub 3 3).drew
  have cell : ∀ {w' : World} (_ : St w' (ad.add 3) [row, up, .int .i64 p]) (j : Nat) (u : Value), ([row, up, .int .i64 p] : List Value)[j]? = some u → w'.cell? (ad.add (3 + j)) = some u := fun {w'} hw j u hj => by
    have := hw.cell hj
    rw [Addr.add_none h.1, Addr.add_lit] at this
    rw [Addr.add_none h.1]; rwa [Nat.add_assoc] at this
  refine gNil_some (gLoadB_v (fun w' hw => cell hw 0 _ rfl) (gNil_some (gLoadB_i (fun w' hw => cell hw 2 _ rfl) (gNil_some (gLoadB_v (fun w' hw => cell hw 1 _ rfl) (gNil_some (gLoadB_v (fun w' hw => cell hw 1 _ rfl) (gNil_some (gLoadB_i (fun w' hw => cell hw 2 _ rfl) ?_)))))))))
  rw [i64_id (n := i - p) (by omega) (by omega)]
  refine gCall_of (of_any hr.drew) ?_
  rintro _ _ ⟨rfl, rfl⟩
  refine ⟨_, rfl, (h.sub 3 3).drew, gCall_of (of_any hu.drew) ?_⟩
  rintro _ _ ⟨rfl, rfl⟩
  refine ⟨_, rfl, (h.sub 3 3).drew, gCall_of (of_any hu.drew) ?_⟩
  rintro _ _ ⟨rfl, rfl⟩
  refine ⟨_, rfl, (h.sub 3 3).drew, gNil_some (gStore_agg h.drew (j := 0) (by simp [nbs]) (by simp; exact ⟨rfl, rfl, rfl⟩) ?_ (by kernel_rfl))⟩
  intro w' hc _ hS
  refine ⟨(h.sub 3 3).drew.ch hc fun j hj hh => ?_, rfl, ?_, hS⟩
  · have h1 := hh.2.2
    rw [Addr.add_none h.1, Addr.add_none h.1] at h1
    simp at h1
    omega
  · refine Ch.trans (Ev.drew0 w |>.mono fun _ _ _ h => h.elim) hc fun n i _ hh => ?_
    rw [Addr.add_zero'] at hh; exact hh
end Go.Proofs.YtilpoinhfiajcaaGreatDoorV

/- Package filter: Row and Unrow. -/
namespace Go.Proofs.YtilpoinhfiajcaaGreatDoorV
open Go Go.RowKit

/-- The first j bytes of a row, each less its guess. -/
def rowN (kind : Int) (xs us : List Int) (p : Int) : Nat → List Int
  | 0 => []
  | j + 1 => rowN kind xs us p j ++ [(rd xs j - guessI kind (ofL xs (j - p)) (ofL us j) (ofL us (j - p))) % 256]
def unrowN (kind : Int) (xs us : List Int) (p : Int) : Nat → List Int
  | 0 => []
  | j + 1 => unrowN kind xs us p j ++ [(rd xs j + guessI kind (ofL (unrowN kind xs us p j) (j - p)) (ofL us j) (ofL us (j - p))) % 256]
theorem rowN_len (kind : Int) (xs us : List Int) (p : Int) : ∀ j, (rowN kind xs us p j).length = j
  | 0 => rfl
  | j + 1 => by simp [rowN, rowN_len kind xs us p j]
theorem unrowN_len (kind : Int) (xs us : List Int) (p : Int) : ∀ j, (unrowN kind xs us p j).length = j
  | 0 => rfl
  | j + 1 => by simp [unrowN, unrowN_len kind xs us p j]
theorem inR_u8 {xs : List Int} (h : ∀ x ∈ xs, rng x) : inR .u8 xs := fun x hx => by
  have := h x hx; simp [IntKind.min, IntKind.max, IntKind.signed, IntKind.bits]; omega
theorem fill_setF {A : List Int} {n j : Nat} (x : Int) (ha : A.length = j) (h : j < n) : (A ++ List.replicate (n - j) 0).set j x = (A ++ [x]) ++ List.replicate (n - (j + 1)) 0 := by
  rw [List.set_append_right _ _ (by omega), ha, Nat.sub_self, show n - j = (n - (j + 1)) + 1 by omega, List.replicate_succ]
  simp
theorem St.add0 {w : World} {ad : Addr} {cs : List Value} (h : St w ad cs) : St w (ad.add 0) cs := by rw [Addr.add_zero']; exact h
theorem fill_lenF {A : List Int} {n j : Nat} (ha : A.length = j) (h : j ≤ n) : (A ++ List.replicate (n - j) 0).length = n := by simp [ha]; omega
theorem ofL_fill {A : List Int} {m : Nat} {i : Int} (h : i < A.length) : ofL (A ++ List.replicate m 0) i = ofL A i := by
  unfold ofL
  by_cases h0 : i < 0
  · rw [if_pos (.inl h0), if_pos (.inl h0)]
  · rw [if_neg (by simp; omega), if_neg (by omega)]
    unfold rd
    rw [List.getD_eq_getElem?_getD, List.getElem?_append_left (by omega), ← List.getD_eq_getElem?_getD]
def planesI (p : Int) : Int := if 1 > p then 1 else p
/-- One round of both: look, guess, store. -/
theorem round_any {row up v : Value} {xs us ys : List Int} {kind p : Int} {j B : Nat} {w3 : World} {ad : Addr} {R : World → Prop}
    (hr : Nm .u8 w3 row xs) (hu : Nm .u8 w3 up us) (hS : ∃ a b c, St w3 ad (nbs a b c row up p)) (hO : ON .u8 eB w3 B v ys) (hj : (j : Int) < ys.length) (hp : 1 ≤ p ∧ p ≤ 9223372036854775807) (hB : ∀ g, v.ownBlock = some g → g ≠ ad.block) (hj63 : j ≤ 1000000000) {f : Int → Int} (hf : ∀ x, rng (f x) )
    (hk : ∀ w6, Ch (fun k i => Rg ad 3 k i ∨ Ob v k i) w3 w6 → (∃ a b c, St w6 ad (nbs a b c row up p)) → ON .u8 eB w6 B v (ys.set j (f (guessI kind (ofL xs (j - p)) (ofL us j) (ofL us (j - p))))) → R w6) :
    gCall P n_filter_neighbours_look shU #[.pointer (some ad), .int .i64 j] w3 fun ww4 => gNil (some ad) fun (t36 : Addr) => gCall P n_filter_around_guess (shI .u8) #[.pointer (some (Addr.add t36 0)), .int .i64 kind] ww4 fun (t39 : Int) ww5 =>
      gIdx P t_sl_uint8 v (.int .i64 j) fun (t41 : Addr) => gStore P t_uint8 (.pointer (some t41)) (.int .u8 (f t39)) ww5 fun ww6 => R ww6 := by
  obtain ⟨a, b, c, hS⟩ := hS
  have hvb := hB
  refine gCall_of (nlook_any hS hr hu (by omega) (by omega)) ?_
  rintro _ w4 ⟨rfl, hc4, hS4⟩
  refine ⟨rfl, gNil_some (gCall_of (guess_any hS4.add0 (ofL_u8 hr.2 _) (ofL_u8 hu.2 _) (ofL_u8 hu.2 _)) ?_)⟩
  rintro _ w5 ⟨rfl, hw5⟩
  have hO5 : ON .u8 eB w5 B v ys := (hO.ch hc4 fun g i hg hh => hvb g hg hh.1).ev hw5
  refine ⟨_, rfl, gIdx_on hO5 (by omega) hj fun a2 hs2 _ => gStore_on hO5 hs2 (by omega) hj ?_ fun w6 hc6 _ hO6 => hk w6 ?_ ⟨_, _, _, (hS4.ev hw5).ch hc6 fun q _ hh => hvb _ hh rfl⟩ hO6⟩
  · have := hf (guessI kind (ofL xs (j - p)) (ofL us j) (ofL us (j - p)))
    simp [IntKind.min, IntKind.max, IntKind.signed, IntKind.bits]; omega
  · refine Ch.trans (Ch.trans (hc4.mono fun _ _ _ h => .inl h) (hw5.mono fun _ _ _ h => h.elim) fun _ _ _ h => h) (hc6.mono fun _ _ _ h => .inr h) fun _ _ _ h => h
theorem Row_any {row up : Value} {xs us : List Int} {kind p : Int} {w : World} (hr : Nm .u8 w row xs) (hu : Nm .u8 w up us) (hl : xs.length ≤ 1000000000) (hp : p ≤ 9223372036854775807) :
    Calls P n_filter_Row #[.int .i64 kind, row, up, .int .i64 p] w (NewB w (rowN kind xs us (planesI p) xs.length)) := by
  refine of_filter_Row ⟨hr.one, hu.one, gBox_of fun ad w1 hw1 had hsz hS => ?_⟩
  refine gLen_nm (hr.ev hw1) (gMake_n (k := .u8) (by omega) (by omega) fun v w2 hw2 hO => gLen_nm ((hr.ev hw1).ev hw2) ?_)
  have hS : St w1 ad (nbs 0 0 0 row up (planesI p)) := hS
  have hpl : 1 ≤ planesI p ∧ planesI p ≤ 9223372036854775807 := by unfold planesI; split <;> omega
  have hbk : ad.block = w.heap.size := by rw [had]
  refine ⟨fun i w3 => ∃ j : Nat, i = j ∧ j ≤ xs.length ∧ Ev w w3 ∧ (∃ a b c, St w3 ad (nbs a b c row up (planesI p))) ∧ ON .u8 eB w3 w1.heap.size v (rowN kind xs us (planesI p) j ++ List.replicate (xs.length - j) 0),
    fun i _ => xs.length - i.toNat, ⟨0, rfl, by omega, hw1.trans hw2, ⟨_, _, _, hS.ev hw2⟩, by simpa [rowN] using hO⟩, ?_⟩
  rintro _ i w3 ⟨j, rfl, hj, hw3, hS3, hO3⟩
  refine gIf_dec (fun h => ?_) (fun h => ⟨v, rfl, hw3, ?_⟩)
  · have hj' : j < xs.length := by omega
    have hlen := fill_lenF (rowN_len kind xs us (planesI p) j) hj
    refine gIdx_nm (hr.ev hw3) (by omega) (by omega) fun a1 hc1 _ => gLoad_i hc1 (round_any (f := fun g => u8 (rd xs j - g)) (hr.ev hw3) (hu.ev hw3) hS3 hO3 (by omega) hpl (fun g hg => by have := (hO3.base hg).1; omega) (by omega) (fun x => by rw [u8_def]; exact ⟨by omega, by omega⟩) fun w6 hc6 hS6 hO6 => ?_)
    rw [i64_id (n := (j : Int) + 1) (by omega) (by omega)]
    refine ⟨⟨j + 1, by omega, hj', hw3.new hc6 fun n i hh => ?_, hS6, ?_⟩, by dsimp only; omega⟩
    · rcases hh with hh | hh
      · have := hh.1; omega
      · have := (hO3.base hh).1; omega
    · rw [fill_setF _ (rowN_len ..) hj', u8_def] at hO6; exact hO6
  · have : j = xs.length := by omega
    subst this
    simpa using hO3.low (by omega)
theorem Unrow_any {row up : Value} {xs us : List Int} {kind p : Int} {w : World} (hr : Nm .u8 w row xs) (hu : Nm .u8 w up us) (hl : xs.length ≤ 1000000000) (hp : p ≤ 9223372036854775807) :
    Calls P n_filter_Unrow #[.int .i64 kind, row, up, .int .i64 p] w (NewB w (unrowN kind xs us (planesI p) xs.length)) := by
  refine of_filter_Unrow (gLen_nm hr (gMake_n (k := .u8) (by omega) (by omega) fun v w1 hw1 hO => ⟨hO.one, hu.one, gBox_of fun ad w2 hw2 had hsz hS => gLen_nm ((hr.ev hw1).ev hw2) ?_⟩))
  have hS : St w2 ad (nbs 0 0 0 v up (planesI p)) := hS
  have hpl : 1 ≤ planesI p ∧ planesI p ≤ 9223372036854775807 := by unfold planesI; split <;> omega
  have hbk : ad.block = w1.heap.size := by rw [had]
  have hvb : ∀ {w3 : World} {ys : List Int}, ON .u8 eB w3 w.heap.size v ys → ∀ g, v.ownBlock = some g → g < w1.heap.size := fun _ g hg => (hO.base hg).2
  refine ⟨fun i w3 => ∃ j : Nat, i = j ∧ j ≤ xs.length ∧ Ev w w3 ∧ (∃ a b c, St w3 ad (nbs a b c v up (planesI p))) ∧ ON .u8 eB w3 w.heap.size v (unrowN kind xs us (planesI p) j ++ List.replicate (xs.length - j) 0),
    fun i _ => xs.length - i.toNat, ⟨0, rfl, by omega, hw1.trans hw2, ⟨_, _, _, hS⟩, by simpa [unrowN] using hO.ev hw2⟩, ?_⟩
  rintro _ i w3 ⟨j, rfl, hj, hw3, hS3, hO3⟩
  refine gIf_dec (fun h => ?_) (fun h => ⟨v, rfl, hw3, ?_⟩)
  · have hj' : j < xs.length := by omega
    have hlen := fill_lenF (unrowN_len kind xs us (planesI p) j) hj
    refine gIdx_nm (hr.ev hw3) (by omega) (by omega) fun a1 hc1 _ => gLoad_i hc1 (round_any (f := fun g => u8 (rd xs j + g)) hO3.nm (hu.ev hw3) hS3 hO3 (by omega) hpl (fun g hg => by have := hvb hO3 g hg; omega) (by omega) (fun x => by rw [u8_def]; exact ⟨by omega, by omega⟩) fun w6 hc6 hS6 hO6 => ?_)
    rw [i64_id (n := (j : Int) + 1) (by omega) (by omega)]
    refine ⟨⟨j + 1, by omega, hj', hw3.new hc6 fun n i hh => ?_, hS6, ?_⟩, by dsimp only; omega⟩
    · rcases hh with hh | hh
      · have := hh.1; have := hw1.size; omega
      · have := (hO3.base hh).1; omega
    · rw [ofL_fill (by rw [unrowN_len]; omega), fill_setF _ (unrowN_len ..) hj', u8_def] at hO6; exact hO6
  · have : j = xs.length := by omega
    subst this
    simpa using hO3
end Go.Proofs.YtilpoinhfiajcaaGreatDoorV

/- Package filter: weight, Best, Paeth, right. -/
namespace Go.Proofs.YtilpoinhfiajcaaGreatDoorV
open Go Go.RowKit

def wt (c : Int) : Int := if 256 - c < c then 256 - c else c
theorem wt_bd {c : Int} (h : rng c) : 0 ≤ wt c ∧ wt c ≤ 128 := by unfold wt; split <;> omega
def weightN (xs : List Int) : Nat → Int
  | 0 => 0
  | j + 1 => weightN xs j + wt (rd xs j)
theorem weightN_bd {xs : List Int} (h : inR .u8 xs) : ∀ j, 0 ≤ weightN xs j ∧ weightN xs j ≤ 128 * j
  | 0 => by simp [weightN]
  | j + 1 => by have := weightN_bd h j; have := wt_bd (rd_u8 h j); simp only [weightN]; omega
theorem weight_any {l : Value} {xs : List Int} {w : World} (h : Nm .u8 w l xs) (hl : xs.length ≤ 1000000000) : Calls P n_filter_weight #[l] w (fun e w' => e = .returned (.int .i64 (weightN xs xs.length)) ∧ w' = w) := by
  refine of_filter_weight (gLen_nm h ⟨fun n i w' => ∃ j : Nat, i = j ∧ j ≤ xs.length ∧ n = weightN xs j ∧ w' = w, fun _ i _ => xs.length - i.toNat, ⟨0, rfl, by omega, rfl, rfl⟩, ?_⟩)
  rintro _ n i _ ⟨j, rfl, hj, rfl, rfl⟩
  refine gIf_dec (fun hlt => ?_) (fun hge => ⟨?_, rfl⟩)
  · refine gIdx_nm h (by omega) (by omega) fun ad hc _ => gLoad_i hc ?_
    have hr := rd_u8 h.2 j
    have hb := weightN_bd h.2 j
    have hw := wt_bd hr
    have e1 : i64 (rd xs j) = rd xs j := i64_id (by omega) (by omega)
    have e2 : i64 (256 - rd xs j) = 256 - rd xs j := i64_id (by omega) (by omega)
    have e3 : i64 ((j : Int) + 1) = j + 1 := i64_id (by omega) (by omega)
    rw [e1, e2, e3, show (if 256 - rd xs j < rd xs j then 256 - rd xs j else rd xs j) = wt (rd xs j) from rfl, i64_id (by omega) (by omega)]
    exact ⟨⟨j + 1, by omega, by omega, rfl, rfl⟩, by dsimp only; omega⟩
  · rw [show j = xs.length by omega]
/-- The best kind of those up to k, and what it leaves. -/
def bestN (f : Int → Int) : Nat → Int × Int
  | 0 => (0, f 0)
  | k + 1 => if f ((k + 1 : Nat) : Int) < (bestN f k).2 then (((k + 1 : Nat) : Int), f ((k + 1 : Nat) : Int)) else bestN f k
theorem bestN_bd (f : Int → Int) : ∀ k, 0 ≤ (bestN f k).1 ∧ (bestN f k).1 ≤ k ∧ (bestN f k).2 = f (bestN f k).1
  | 0 => by simp [bestN]
  | k + 1 => by
    have := bestN_bd f k
    simp only [bestN]; split
    · exact ⟨by dsimp only; omega, by dsimp only; omega, rfl⟩
    · exact ⟨this.1, by omega, this.2.2⟩
def leftW (xs us : List Int) (p k : Int) : Int := weightN (rowN k xs us (planesI p) xs.length) xs.length
def bestI (xs us : List Int) (p : Int) : Int := (bestN (leftW xs us p) 4).1
theorem BestF_any {row up : Value} {xs us : List Int} {p : Int} {w : World} (hr : Nm .u8 w row xs) (hu : Nm .u8 w up us) (hl : xs.length ≤ 1000000000) (hp : p ≤ 9223372036854775807) :
    Calls P n_filter_Best #[row, up, .int .i64 p] w (fun e w' => e = .returned (.int .i64 (bestI xs us p)) ∧ Ev w w') := by
  have one : ∀ {w1 : World} (_ : Ev w w1) (k : Int) (K : Int → World → Prop), (∀ w2, Ev w w2 → K (leftW xs us p k) w2) →
      gCall P n_filter_Row shV #[.int .i64 k, row, up, .int .i64 p] w1 fun (v : Value) w2 => gCall P n_filter_weight (shI .i64) #[v] w2 K := fun {w1} he k K hK => by
    refine gCall_of (Row_any (hr.ev he) (hu.ev he) hl hp) ?_
    rintro _ w2 ⟨v, rfl, h2, hO⟩
    refine ⟨v, rfl, gCall_of (weight_any hO.nm (by rw [rowN_len]; exact hl)) ?_⟩
    rintro _ _ ⟨rfl, rfl⟩
    refine ⟨_, rfl, ?_⟩
    rw [rowN_len]; exact hK _ (he.trans h2)
  refine of_filter_Best (one (Ch.refl _ w) 0 _ fun w2 h2 => ⟨fun best least k w' => ∃ j : Nat, k = j + 1 ∧ j ≤ 4 ∧ (best, least) = bestN (leftW xs us p) j ∧ Ev w w', fun _ _ k _ => 5 - k.toNat, ⟨0, rfl, by omega, rfl, h2⟩, ?_⟩)
  rintro _ best least k w3 ⟨j, rfl, hj, hb, h3⟩
  refine gIf_dec (fun hlt => ?_) (fun hge => ⟨?_, h3⟩)
  · refine one h3 _ _ fun w5 h5 => ?_
    have e3 : i64 ((j : Int) + 1 + 1) = j + 1 + 1 := i64_id (by omega) (by omega)
    rw [e3]
    have hb2 : least = (bestN (leftW xs us p) j).2 := congrArg Prod.snd hb
    refine gIf_dec (fun hs => ⟨⟨j + 1, by omega, by omega, ?_, h5⟩, by dsimp only; omega⟩) (fun hs => ⟨⟨j + 1, by omega, by omega, ?_, h5⟩, by dsimp only; omega⟩)
    · simp only [bestN]; rw [← hb2, if_pos (by simpa using hs)]; simp
    · simp only [bestN]; rw [← hb2, if_neg (by simpa using hs)]; exact hb
  · obtain rfl : j = 4 := by omega
    have : best = bestI xs us p := congrArg Prod.fst hb
    rw [this]
def rightI (width p : Int) : Bool := decide (width ≥ 1) && decide (width ≤ 1048576) && decide (p ≥ 1) && decide (p ≤ 4)
theorem right_any {width p : Int} {w : World} : Calls P n_filter_right #[.int .i64 width, .int .i64 p] w (fun e w' => e = .returned (.bool (rightI width p)) ∧ w' = w) := by
  refine of_filter_right (gIf_dec (fun h1 => gIf_dec (fun h2 => gIf_dec (fun h3 => ⟨?_, rfl⟩) (fun h3 => ⟨?_, rfl⟩)) (fun h2 => ⟨?_, rfl⟩)) (fun h1 => ⟨?_, rfl⟩)) <;> simp [rightI, *]
end Go.Proofs.YtilpoinhfiajcaaGreatDoorV

/- awake, and the laws FilterPaeth and FilterFlat: what is shown of their calls. -/
namespace Go.Proofs.YtilpoinhfiajcaaGreatDoorV
open Go Go.RowKit

end Go.Proofs.YtilpoinhfiajcaaGreatDoorV

/- The law FilterFlat. -/
namespace Go.Proofs.YtilpoinhfiajcaaGreatDoorV
open Go Go.RowKit

end Go.Proofs.YtilpoinhfiajcaaGreatDoorV

/- Package filter: Apply and Undo. -/
namespace Go.Proofs.YtilpoinhfiajcaaGreatDoorV
open Go Go.RowKit

/-- Row i of rows of a width. -/
def rowAt (xs : List Int) (width i : Nat) : List Int := (xs.drop (i * width)).take width
def upAt (xs : List Int) (width : Nat) : Nat → List Int
  | 0 => []
  | i + 1 => rowAt xs width i
def applyN (xs : List Int) (width : Nat) (p : Int) : Nat → List Int
  | 0 => []
  | i + 1 => applyN xs width p i ++ [bestI (rowAt xs width i) (upAt xs width i) p] ++ rowN (bestI (rowAt xs width i) (upAt xs width i) p) (rowAt xs width i) (upAt xs width i) (planesI p) (rowAt xs width i).length
theorem rowAt_len {xs : List Int} {width i n : Nat} (h : xs.length = n * width) (hi : i < n) : (rowAt xs width i).length = width := by
  unfold rowAt
  rw [List.length_take, List.length_drop, h]
  have : (i + 1) * width ≤ n * width := Nat.mul_le_mul_right _ hi
  rw [Nat.succ_mul] at this
  omega
theorem applyN_len {xs : List Int} {width n : Nat} {p : Int} (h : xs.length = n * width) : ∀ {i}, i ≤ n → (applyN xs width p i).length = i * (width + 1)
  | 0, _ => by simp [applyN]
  | i + 1, hi => by
    simp only [applyN, List.length_append, applyN_len h (show i ≤ n by omega), rowN_len, rowAt_len h (show i < n by omega), List.length_singleton, Nat.succ_mul]
    omega
theorem best_rng (xs us : List Int) (p : Int) : 0 ≤ bestI xs us p ∧ bestI xs us p ≤ 4 := by have := bestN_bd (leftW xs us p) 4; unfold bestI; omega
/-- Bytes in new memory and an error; of an error no bytes. -/
def NewBE (w : World) (r : Option (List Int)) (er : Int) (e : Ending) (w' : World) : Prop := Ev w w' ∧ match r with
  | some xs => ∃ v, e = .returned (.tuple #[v, .int .i64 0]) ∧ ON .u8 eB w' w.heap.size v xs
  | none => e = .returned (.tuple #[.slice none 0 0, .int .i64 er])
def applyOk (n : Nat) (width p : Int) : Bool := rightI width p && decide ((n : Int) % width = 0) && decide (n ≤ 1048576)
theorem applyOk_iff {n W : Nat} {p : Int} (h : applyOk n W p = true) : 1 ≤ W ∧ W ≤ 1048576 ∧ 1 ≤ p ∧ p ≤ 4 ∧ n = n / W * W ∧ n ≤ 1048576 := by
  simp only [applyOk, rightI, Bool.and_eq_true, decide_eq_true_eq] at h
  obtain ⟨⟨⟨⟨⟨h1, h2⟩, h3⟩, h4⟩, h5⟩, h6⟩ := h
  have : n % W = 0 := by omega
  have := Nat.div_add_mod n W
  rw [Nat.mul_comm] at this
  omega
theorem Apply_any {b : Value} {xs : List Int} {width p : Int} {w : World} (hb : Nm .u8 w b xs) (hl : xs.length ≤ 1000000000) (hp : p ≤ 9223372036854775807) :
    Calls P n_filter_Apply #[b, .int .i64 width, .int .i64 p] w (NewBE w (if applyOk xs.length width p then some (applyN xs width.toNat p (xs.length / width.toNat)) else none) 1) := by
  have bad : applyOk xs.length width p = false → NewBE w (if applyOk xs.length width p then some (applyN xs width.toNat p (xs.length / width.toNat)) else none) 1 (.returned (.tuple #[.slice none 0 0, .int .i64 1])) w := fun h => by
    rw [h]; exact ⟨Ch.refl _ w, rfl⟩
  refine of_filter_Apply ⟨fun w' => applyOk xs.length width p = true ∧ w' = w, gCall_of right_any ?_, ?_⟩
  · rintro _ _ ⟨rfl, rfl⟩
    refine ⟨_, rfl, ?_⟩
    cases hr : rightI width p with
    | false => exact gIf_nnf (bad (by simp [applyOk, hr]))
    | true =>
      have hw : 1 ≤ width := by simp [rightI] at hr; omega
      refine gIf_nn (gLen_nm hb (gBin_rem (by omega) (gIf_nneq (fun h0 => gLen_nm hb (gIf_dec (fun h1 => bad ?_) (fun h1 => ⟨?_, rfl⟩))) (fun h0 => bad ?_))))
      all_goals rw [Int.tmod_eq_emod_of_nonneg (by omega)] at h0
      · simp [applyOk]; omega
      · simp [applyOk, hr]; omega
      · simp [applyOk, h0]
  rintro _ _ ⟨hok, rfl⟩
  rw [hok, if_pos rfl]
  clear bad
  obtain ⟨W, rfl⟩ : ∃ W : Nat, width = W := ⟨width.toNat, by simp [applyOk, rightI] at hok; omega⟩
  obtain ⟨hW1, hW2, hp1, hp4, hn, hn2⟩ := applyOk_iff hok
  rw [Int.toNat_natCast]
  generalize xs.length / W = n at hn
  rename_i w
  refine ⟨fun bv out up w3 => ∃ i : Nat, i ≤ n ∧ Nm .u8 w bv (xs.drop (i * W)) ∧ ON .u8 eB w3 w.heap.size out (applyN xs W p i) ∧ Nm .u8 w up (upAt xs W i) ∧ Ev w w3,
    fun bv _ _ _ => slenV bv, ⟨0, by omega, by simpa using hb, ON.nil _ _ _ _, Nm.nil _ _, Ch.refl _ w⟩, ?_⟩
  rintro _ bv out up w3 ⟨i, hi, hbv, hO, hup, hw3⟩
  have hiW : i * W ≤ n * W := Nat.mul_le_mul_right _ hi
  have hdl : (xs.drop (i * W)).length = n * W - i * W := by rw [List.length_drop, ← hn]
  refine gLen_nm hbv (gIf_dec (fun hpos => ?_) (fun hend => ⟨hw3, out, rfl, ?_⟩))
  · have hlt : i < n := by
      rcases Nat.lt_or_ge i n with h | h
      · exact h
      · have : i = n := by omega
        subst this; omega
    have hi1 : (i + 1) * W ≤ n * W := Nat.mul_le_mul_right _ hlt
    rw [Nat.succ_mul] at hi1
    have hrow : ∀ {w' : World}, Nm .u8 w (subV 1 bv 0 W) (rowAt xs W i) := fun {_} => by
      have := hbv.sub 0 W (by omega) (by omega)
      simpa [rowAt] using this
    have hrl : (rowAt xs W i).length = W := rowAt_len hn hlt
    have hup' := hup
    refine gSlice_nm hbv 0 W (.inl ⟨rfl, rfl⟩) (.inr ⟨_, rfl⟩) (by omega) (by omega) fun _ => gCall_of (BestF_any ((hrow (w' := w)).ev hw3) (hup.ev hw3) (by omega) hp) ?_
    rintro _ w4 ⟨rfl, h4⟩
    have hbr := best_rng (rowAt xs W i) (upAt xs W i) p
    generalize hk : bestI (rowAt xs W i) (upAt xs W i) p = k at *
    have hw4 : Ev w w4.drew := (hw3.trans h4).drew
    refine ⟨k, rfl, fun _ => True, trivial, gSlice_nm hbv 0 W (.inl ⟨rfl, rfl⟩) (.inr ⟨_, rfl⟩) (by omega) (by omega) fun _ => gLit_n (k := .u8) [k] (by rw [u8_id (by omega) (by omega)]; rfl) rfl (by decide) (inR_u8 (by simp; exact ⟨by omega, by omega⟩)) fun y w5 h5 hy => ⟨trivial, ?_⟩⟩
    have hal := applyN_len hn (p := p) hi
    have hiW2 : i * (W + 1) ≤ 3000000 := by rw [Nat.mul_succ]; have : n * 1 ≤ n * W := Nat.mul_le_mul_left _ hW1; omega
    refine gApp_on (((hO.ev h4).drew).ev h5) hy.nm (by rw [hal]; simp; omega) ((hw4.trans h5).size) fun o1 w6 hO1 hc1 hm1 => ⟨trivial, ?_⟩
    have hw6 : Ev w w6 := (hw4.trans h5).new hc1 fun g _ hg => (hO.base hg).1
    refine gCall_of (Row_any ((hrow (w' := w)).ev hw6) (hup.ev hw6) (by omega) hp) ?_
    rintro _ w7 ⟨r, rfl, h7, hr⟩
    refine ⟨r, rfl, trivial, gApp_on (hO1.ev h7) hr.nm (by rw [List.length_append, hal, rowN_len, hrl]; simp; omega) ((hw6.trans h7).size) fun o2 w8 hO2 hc2 hm2 => ⟨trivial, ?_⟩⟩
    have hw8 : Ev w w8 := (hw6.trans h7).new hc2 fun g _ hg => (hO1.base hg).1
    refine gSlice_nm hbv 0 W (.inl ⟨rfl, rfl⟩) (.inr ⟨_, rfl⟩) (by omega) (by omega) fun _ => gSlice_nm hbv W (n * W - i * W) (.inr ⟨_, rfl⟩) (.inl ⟨rfl, hdl.symm⟩) (by omega) (by omega) fun hrest => ⟨⟨i + 1, hlt, ?_, ?_, hrow (w' := w), hw8⟩, ?_⟩
    · rw [List.drop_drop, List.take_of_length_le (by rw [List.length_drop, ← hn]; omega)] at hrest
      rwa [Nat.succ_mul]
    · simp only [applyN, hk]; exact hO2
    · dsimp only
      rw [hrest.slen, hbv.slen, List.length_take, List.length_drop]; omega
  · have : i = n := by
      rcases Nat.lt_or_ge i n with h | h
      · have : (i + 1) * W ≤ n * W := Nat.mul_le_mul_right _ h
        rw [Nat.succ_mul] at this; omega
      · omega
    subst this; exact hO
end Go.Proofs.YtilpoinhfiajcaaGreatDoorV

/- Package filter: Undo; what is turned is turned back; the law FilterBack. -/
namespace Go.Proofs.YtilpoinhfiajcaaGreatDoorV
open Go Go.RowKit

def kindAt (xs : List Int) (W i : Nat) : Int := rd xs ((i * (W + 1) : Nat) : Int)
def rowAt1 (xs : List Int) (W i : Nat) : List Int := (xs.drop (i * (W + 1) + 1)).take W
def undoR (xs : List Int) (W : Nat) (p : Int) : Nat → List Int
  | 0 => unrowN (kindAt xs W 0) (rowAt1 xs W 0) [] (planesI p) W
  | i + 1 => unrowN (kindAt xs W (i + 1)) (rowAt1 xs W (i + 1)) (undoR xs W p i) (planesI p) W
def upU (xs : List Int) (W : Nat) (p : Int) : Nat → List Int
  | 0 => []
  | i + 1 => undoR xs W p i
theorem undoR_up (xs : List Int) (W : Nat) (p : Int) (i : Nat) : undoR xs W p i = unrowN (kindAt xs W i) (rowAt1 xs W i) (upU xs W p i) (planesI p) W := by cases i <;> rfl
def undoN (xs : List Int) (W : Nat) (p : Int) : Nat → List Int
  | 0 => []
  | i + 1 => undoN xs W p i ++ undoR xs W p i
theorem undoR_len (xs : List Int) (W : Nat) (p : Int) (i : Nat) : (undoR xs W p i).length = W := by rw [undoR_up, unrowN_len]
theorem undoN_len (xs : List Int) (W : Nat) (p : Int) : ∀ i, (undoN xs W p i).length = i * W
  | 0 => by simp [undoN]
  | i + 1 => by rw [undoN, List.length_append, undoN_len, undoR_len, Nat.succ_mul]
def undoOk (n : Nat) (width p : Int) : Bool := rightI width p && decide ((n : Int) % (width + 1) = 0) && decide ((n : Int) / (width + 1) * width ≤ 1048576)
def kindsOk (xs : List Int) (W n : Nat) : Bool := decide (∀ i, i < n → kindAt xs W i ≤ 4)
/-- What Undo tells. -/
def UndoE (w : World) (xs : List Int) (width p : Int) (e : Ending) (w' : World) : Prop :=
  if undoOk xs.length width p then
    if kindsOk xs width.toNat (xs.length / (width.toNat + 1)) then NewBE w (some (undoN xs width.toNat p (xs.length / (width.toNat + 1)))) 0 e w'
    else NewBE w none 4 e w'
  else NewBE w none 1 e w'
theorem undoOk_iff {n W : Nat} {p : Int} (h : undoOk n W p = true) : 1 ≤ W ∧ W ≤ 1048576 ∧ 1 ≤ p ∧ p ≤ 4 ∧ n = n / (W + 1) * (W + 1) ∧ n / (W + 1) * W ≤ 1048576 := by
  simp only [undoOk, rightI, Bool.and_eq_true, decide_eq_true_eq] at h
  obtain ⟨⟨⟨⟨⟨h1, h2⟩, h3⟩, h4⟩, h5⟩, h6⟩ := h
  have e5 : n % (W + 1) = 0 := by
    have : ((n % (W + 1) : Nat) : Int) = (n : Int) % ((W : Int) + 1) := by rw [Int.natCast_emod]; rfl
    omega
  have := Nat.div_add_mod n (W + 1)
  rw [Nat.mul_comm] at this
  have e6 : ((n / (W + 1) * W : Nat) : Int) ≤ 1048576 := by
    have : ((n / (W + 1) * W : Nat) : Int) = (n : Int) / ((W : Int) + 1) * W := by rw [Int.natCast_mul, Int.natCast_ediv]; rfl
    omega
  omega
theorem Undo_any {x : Value} {xs : List Int} {width p : Int} {w : World} (hx : Nm .u8 w x xs) (hl : xs.length ≤ 1000000000) (hp : p ≤ 9223372036854775807) :
    Calls P n_filter_Undo #[x, .int .i64 width, .int .i64 p] w (UndoE w xs width p) := by
  have bad : undoOk xs.length width p = false → UndoE w xs width p (.returned (.tuple #[.slice none 0 0, .int .i64 1])) w := fun h => by
    unfold UndoE; rw [h]; exact ⟨Ch.refl _ w, rfl⟩
  refine of_filter_Undo ⟨fun w' => undoOk xs.length width p = true ∧ w' = w, gCall_of right_any ?_, ?_⟩
  · rintro _ _ ⟨rfl, rfl⟩
    refine ⟨_, rfl, ?_⟩
    cases hr : rightI width p with
    | false => exact gIf_nnf (bad (by simp [undoOk, hr]))
    | true =>
      have hw : 1 ≤ width ∧ width ≤ 1048576 := by simp [rightI] at hr; omega
      have e1 : i64 (width + 1) = width + 1 := i64_id (by omega) (by omega)
      rw [e1]
      have hd0 : 0 ≤ (xs.length : Int) / (width + 1) := Int.ediv_nonneg (by omega) (by omega)
      have hd1 : (xs.length : Int) / (width + 1) ≤ xs.length := Int.ediv_le_self _ (by omega)
      have hm0 : 0 ≤ (xs.length : Int) / (width + 1) * width := Int.mul_nonneg hd0 (by omega)
      have hm1 : (xs.length : Int) / (width + 1) * width ≤ 1000000000 * 1048576 := Int.mul_le_mul (by omega) hw.2 (by omega) (by omega)
      have e0 : IntKind.wrap .i64 (Int.tdiv (xs.length : Int) (width + 1)) = (xs.length : Int) / (width + 1) := by
        rw [Int.tdiv_eq_ediv_of_nonneg (by omega)]; exact i64_id (by omega) (by omega)
      refine gIf_nn (gLen_nm hx (gBin_rem (by omega) (gIf_nneq (fun h0 => gLen_nm hx (gBin_quo (by omega) (gIf_dec (fun h1 => bad ?_) (fun h1 => ⟨?_, rfl⟩)))) (fun h0 => bad ?_))))
      all_goals rw [Int.tmod_eq_emod_of_nonneg (by omega)] at h0
      · rw [e0, i64_id (by omega) (by omega)] at h1
        simp [undoOk, h1]
      · rw [e0, i64_id (by omega) (by omega)] at h1
        simp [undoOk, hr]; omega
      · simp [undoOk, h0]
  rintro _ _ ⟨hok, rfl⟩
  clear bad
  rename_i w
  obtain ⟨W, rfl⟩ : ∃ W : Nat, width = W := ⟨width.toNat, by simp [undoOk, rightI] at hok; omega⟩
  obtain ⟨hW1, hW2, hp1, hp4, hn, hn2⟩ := undoOk_iff hok
  have fin : ∀ {e : Ending} {w' : World}, (if kindsOk xs W (xs.length / (W + 1)) then NewBE w (some (undoN xs W p (xs.length / (W + 1)))) 0 e w' else NewBE w none 4 e w') → UndoE w xs W p e w' := fun h => by
    unfold UndoE; rw [if_pos hok, Int.toNat_natCast]; exact h
  generalize xs.length / (W + 1) = n at hn hn2 fin
  have eW : i64 ((W : Int) + 1) = ((W + 1 : Nat) : Int) := by rw [i64_id (by omega) (by omega)]; omega
  rw [eW]
  refine ⟨fun xv out up w3 => ∃ i : Nat, i ≤ n ∧ (∀ j, j < i → kindAt xs W j ≤ 4) ∧ Nm .u8 w xv (xs.drop (i * (W + 1))) ∧ ON .u8 eB w3 w.heap.size out (undoN xs W p i) ∧ Nm .u8 w3 up (upU xs W p i) ∧ (∀ g, up.ownBlock = some g → out.ownBlock = some g → False) ∧ Ev w w3,
    fun xv _ _ _ => slenV xv, ⟨0, by omega, by omega, by simpa using hx, ON.nil _ _ _ _, Nm.nil _ _, (fun g h => by cases h), Ch.refl _ w⟩, ?_⟩
  rintro _ xv out up w3 ⟨i, hi, hks, hxv, hO, hup, hne, hw3⟩
  have hiW : i * (W + 1) ≤ n * (W + 1) := Nat.mul_le_mul_right _ hi
  have hdl : (xs.drop (i * (W + 1))).length = n * (W + 1) - i * (W + 1) := by rw [List.length_drop, ← hn]
  refine gLen_nm hxv (gIf_dec (fun hpos => ?_) (fun hend => ?_))
  · have hlt : i < n := by
      rcases Nat.lt_or_ge i n with h | h
      · exact h
      · have : i = n := by omega
        subst this; omega
    have hi1 : (i + 1) * (W + 1) ≤ n * (W + 1) := Nat.mul_le_mul_right _ hlt
    rw [Nat.succ_mul] at hi1
    have hk : rd (xs.drop (i * (W + 1))) 0 = kindAt xs W i := by
      simp only [kindAt, rd, List.getD_eq_getElem?_getD, List.getElem?_drop, Int.toNat_natCast]; rfl
    have hxv3 := hxv.ev hw3
    have hu8 := rd_u8 hxv.2 0
    refine gIdx_nm hxv3 (by omega) (by omega) fun a1 c1 _ => gLoad_i c1 (gIf_dec (fun h5 => ?_) (fun h5 => ?_))
    · rw [hk] at h5
      refine fin ?_
      rw [if_neg (by simp only [kindsOk, decide_eq_true_eq]; intro h; have := h i hlt; omega)]
      exact ⟨hw3, rfl⟩
    · have hrow : Nm .u8 w (subV 1 xv 1 (W + 1)) (rowAt1 xs W i) := by
        have := hxv.sub 1 (W + 1) (by omega) (by omega)
        rwa [List.drop_drop, Nat.add_sub_cancel] at this
      refine ⟨fun w' => Ev w3 w', Ev.drew0 w3, gIdx_nm hxv3 (by omega) (by omega) fun a2 c2 _ => gLoadB_i (fun w' hw' => hw'.cell c2 (fun h => h)) (gSlice_nm hxv 1 (W + 1) (.inr ⟨.i64, rfl⟩) (.inr ⟨.i64, rfl⟩) (by omega) (by omega) fun _ => ?_)⟩
      rw [i64_id (n := rd _ _) (by omega) (by omega), hk]
      have hl1 : (rowAt1 xs W i).length = W := by unfold rowAt1; rw [List.length_take, List.length_drop]; omega
      refine gCall_of (Unrow_any (hrow.ev hw3.drew) hup.drew (by omega) hp) ?_
      rintro _ w4 ⟨r, rfl, h4, hr⟩
      have hw4 : Ev w w4 := Ev.trans hw3.drew h4
      have hul := undoN_len xs W p i
      have hrU : ON .u8 eB w4 w3.heap.size r (undoR xs W p i) := by rw [undoR_up]; rw [hl1] at hr; exact hr
      have hiW2 : i * W ≤ n * W := Nat.mul_le_mul_right _ hi
      refine ⟨r, rfl, (Ev.drew0 w3).trans h4, gApp_on (hO.ev (Ev.drew0 w3 |>.trans h4)) hrU.nm (by rw [hul, undoR_len]; omega) hw4.size fun o1 w5 hO1 hc1 hm1 => gSlice_nm hxv (W + 1) (n * (W + 1) - i * (W + 1)) (.inr ⟨.i64, rfl⟩) (.inl ⟨rfl, hdl.symm⟩) (by omega) (by omega) fun hrest => ?_⟩
      have hw5 : Ev w w5 := hw4.new hc1 fun g _ hg => (hO.base hg).1
      have hro : ∀ g, r.ownBlock = some g → w3.heap.size ≤ g ∧ g < w4.heap.size := fun g hg => hr.base hg
      have hoo : ∀ g, out.ownBlock = some g → g < w3.heap.size := fun g hg => (hO.base hg).2
      refine ⟨⟨i + 1, hlt, ?_, ?_, hO1, ?_, ?_, hw5⟩, ?_⟩
      · intro j hj
        rcases Nat.lt_or_ge j i with h | h
        · exact hks j h
        · have : j = i := by omega
          subst this; rw [← hk]; omega
      · rw [List.drop_drop, List.take_of_length_le (by rw [List.length_drop, ← hn]; omega)] at hrest
        rwa [Nat.succ_mul]
      · exact hrU.nm.ch hc1 fun g _ hg hh => by have := hro g hg; have := hoo g hh; omega
      · intro g hg hh
        have := hro g hg
        rcases hm1 with h | h
        · rw [h] at hh; have := hoo g hh; omega
        · have := h g hh; omega
      · dsimp only
        rw [hrest.slen, hxv.slen, List.length_take, List.length_drop]; omega
  · have : i = n := by
      rcases Nat.lt_or_ge i n with h | h
      · have : (i + 1) * (W + 1) ≤ n * (W + 1) := Nat.mul_le_mul_right _ h
        rw [Nat.succ_mul] at this; omega
      · omega
    subst this
    refine fin ?_
    rw [if_pos (by simp only [kindsOk, decide_eq_true_eq]; exact hks)]
    exact ⟨hw3, out, rfl, hO⟩
end Go.Proofs.YtilpoinhfiajcaaGreatDoorV

/- What is turned is turned back; the law FilterBack. -/
namespace Go.Proofs.YtilpoinhfiajcaaGreatDoorV
open Go Go.RowKit

end Go.Proofs.YtilpoinhfiajcaaGreatDoorV

/- Package picture: signs of a head. -/
namespace Go.Proofs.YtilpoinhfiajcaaGreatDoorV
open Go Go.RowKit
theorem Nm.chx {k : IntKind} {S : SS} {w w' : World} {v : Value} {xs : List Int} (h : Nm k w v xs) (hc : Ch S w w') (hs : xs ≠ [] → ∀ g i, v.ownBlock = some g → ¬ S g i) : Nm k w' v xs := by
  by_cases hx : xs = []
  · subst hx
    obtain ⟨⟨a, c, rfl, h1, h2, h3, h4⟩, hr⟩ := h
    exact ⟨⟨a, c, rfl, h1, h2, fun ad ha j u hj => by simp at hj, h4⟩, hr⟩
  · exact h.ch hc (hs hx)
theorem beq_decP (a b : Int) : (a == b) = decide (a = b) := by by_cases h : a = b <;> simp [h]
def whiteB (c : Int) : Bool := decide (c = 32 ∨ c = 9 ∨ c = 10 ∨ c = 13)
theorem white_any {c : Int} {w : World} : Calls P n_picture_white #[.int .u8 c] w (fun e w' => e = .returned (.bool (whiteB c)) ∧ w' = w) := by
  refine of_picture_white (gIf_neqq (fun h1 => gIf_neqq (fun h2 => gIf_neqq (fun h3 => ⟨?_, rfl⟩) (fun h3 => ⟨?_, rfl⟩)) (fun h2 => ⟨?_, rfl⟩)) (fun h1 => ⟨?_, rfl⟩)) <;> simp [whiteB, *] <;> exact beq_decP _ _
theorem rblank_any {c : Int} {w : World} : Calls P n_valiseref16_blank #[.int .u8 c] w (fun e w' => e = .returned (.bool (whiteB c)) ∧ w' = w) := by
  refine of_valiseref16_blank (gIf_neqq (fun h1 => gIf_neqq (fun h2 => gIf_neqq (fun h3 => ⟨?_, rfl⟩) (fun h3 => ⟨?_, rfl⟩)) (fun h2 => ⟨?_, rfl⟩)) (fun h1 => ⟨?_, rfl⟩)) <;> simp [whiteB, *] <;> exact beq_decP _ _
def SG (w : World) (ad : Addr) (b : Value) (xs : List Int) (a : Nat) : Prop := St w ad [b, .int .i64 a] ∧ Nm .u8 w b xs ∧ (xs ≠ [] → b.ownBlock ≠ some ad.block) ∧ a ≤ xs.length ∧ xs.length ≤ 1000000000
theorem SG.ev {w w' : World} {ad : Addr} {b : Value} {xs : List Int} {a : Nat} (h : SG w ad b xs a) (he : Ev w w') : SG w' ad b xs a := ⟨h.1.ev he, h.2.1.ev he, h.2.2⟩
def GS (w w' : World) (ad : Addr) (b : Value) (xs : List Int) (a : Nat) : Prop := SG w' ad b xs a ∧ Ch (Rg ad 2) w w'
theorem GS.trans {w w1 w2 : World} {ad : Addr} {b : Value} {xs : List Int} {a a2 : Nat} (h : GS w w1 ad b xs a) (h2 : GS w1 w2 ad b xs a2) : GS w w2 ad b xs a2 := ⟨h2.1, Ch.trans h.2 h2.2 fun _ _ _ h => h⟩
theorem GS.ev {w w1 w2 : World} {ad : Addr} {b : Value} {xs : List Int} {a : Nat} (h : GS w w1 ad b xs a) (he : Ev w1 w2) : GS w w2 ad b xs a := ⟨h.1.ev he, Ch.trans h.2 he fun _ _ _ h => h.elim⟩
theorem GS.pre {w w1 w2 : World} {ad : Addr} {b : Value} {xs : List Int} {a : Nat} (he : Ev w w1) (h : GS w1 w2 ad b xs a) : GS w w2 ad b xs a := ⟨h.1, Ch.trans (he.mono fun _ _ _ h => h.elim) h.2 fun _ _ _ h => h⟩
theorem SG.step {w : World} {ad : Addr} {b : Value} {xs : List Int} {a : Nat} (h : SG w ad b xs a) : GS w w ad b xs a := ⟨h, Ch.refl _ w⟩
theorem SG.set {w w' : World} {ad : Addr} {b : Value} {xs : List Int} {a a2 : Nat} (h : SG w ad b xs a) (hc : Ch (Rg (ad.add 1) 1) w w') (hS : St w' ad ([b, .int .i64 a].set 1 (.int .i64 a2))) (ha : a2 ≤ xs.length) : GS w w' ad b xs a2 := by
  have hc2 : Ch (Rg ad 2) w w' := hc.mono fun n i _ hh => by
    have h1 := hh.1; have h2 := hh.2
    rw [Addr.add_none h.1.1] at h1 h2
    exact ⟨h1, by dsimp only at h2; omega, by dsimp only at h2; omega⟩
  exact ⟨⟨hS, h.2.1.chx hc2 fun hx g i hg hh => h.2.2.1 hx (by rw [hg, hh.1]), h.2.2.1, ha, h.2.2.2.2⟩, hc2⟩
section
variable {ad : Addr} {b : Value} {xs : List Int} {a : Nat} {w : World}
theorem is_any {f : FuncId} {pf : Int → Bool} (hok : callOk P f = true) (hf : ∀ {c : Int} {w : World}, Calls P f #[.int .u8 c] w (fun e w' => e = .returned (.bool (pf c)) ∧ w' = w)) (h : SG w ad b xs a) :
    Calls P n_picture_signs_is #[.pointer (some ad), .func (.func f) #[] #[]] w (fun e w' => e = .returned (.bool (decide (a < xs.length) && pf (rd xs a))) ∧ Ev w w') := by
  refine of_picture_signs_is ⟨fun w' => w' = w.drew, rfl, gNil_some (gLoadB_i (at1 (h.1.cell (j := 1) rfl)) (gNil_some (gLoadB_v (at1 (h.1.cell (j := 0) rfl)) (gLen_nm h.2.1 (gIf_dec (fun hlt => ?_) (fun hge => ⟨?_, Ev.drew0 w⟩))))))⟩
  · refine gNil_some (gLoadB_v (at1 (h.1.cell (j := 0) rfl)) (gNil_some (gLoadB_i (at1 (h.1.cell (j := 1) rfl)) (gIdx_nm h.2.1 (by omega) hlt fun a1 c1 _ => gLoadB_i (at1 c1) (gCallV_of rfl hok hf ?_)))))
    rintro _ _ ⟨rfl, rfl⟩
    refine ⟨_, rfl, rfl, ?_, Ev.drew0 w⟩
    rw [decide_eq_true (show a < xs.length by omega)]; rfl
  · rw [decide_eq_false (show ¬ a < xs.length by omega)]; rfl
def nlL (xs : List Int) : Nat → Nat → Option Nat
  | 0, _ => none
  | f + 1, i => if rd xs i = 10 then some i else nlL xs f (i + 1)
def nlI (xs : List Int) (i : Nat) : Option Nat := nlL xs (xs.length - i) i
theorem nlL_bd {xs : List Int} : ∀ {f i k : Nat}, nlL xs f i = some k → i ≤ k ∧ k < i + f
  | f + 1, i, k, h => by
    rw [nlL] at h; split at h
    · injection h with h; omega
    · have := nlL_bd h; omega
theorem nlI_bd {xs : List Int} {i k : Nat} (h : nlI xs i = some k) (hi : i ≤ xs.length) : i ≤ k ∧ k < xs.length := by have := nlL_bd h; omega
theorem nlI_step {xs : List Int} {i : Nat} (h : i < xs.length) : nlI xs i = if rd xs i = 10 then some i else nlI xs (i + 1) := by
  unfold nlI; rw [show xs.length - i = (xs.length - (i + 1)) + 1 by omega, nlL]
theorem remark_any (h : SG w ad b xs a) : Calls P n_picture_signs_remark #[.pointer (some ad)] w (fun e w' => e = .returned (.bool (nlI xs a).isSome) ∧ GS w w' ad b xs (match nlI xs a with | some i => i + 1 | none => a)) := by
  have hl := h.2.2.2.2
  have ha := h.2.2.2.1
  refine of_picture_signs_remark (gNil_some (gLoad_i (h.1.cell (j := 1) rfl) ⟨fun i w' => ∃ j : Nat, i = j ∧ a ≤ j ∧ j ≤ xs.length ∧ nlI xs j = nlI xs a ∧ w' = w, fun i _ => xs.length - i.toNat, ⟨a, rfl, by omega, ha, rfl, rfl⟩, ?_⟩))
  rintro _ i _ ⟨j, rfl, haj, hj, hn, rfl⟩
  rw [← hn]
  refine gNil_some (gLoad_v (h.1.cell (j := 0) rfl) (gLen_nm h.2.1 (gIf_dec (fun hlt => ?_) (fun hge => ?_))))
  · refine gNil_some (gLoad_v (h.1.cell (j := 0) rfl) (gIdx_nm h.2.1 (by omega) hlt fun a1 c1 _ => gLoad_i c1 (gIf_eq (fun e => ?_) (fun e => ?_))))
    · rw [nlI_step (by omega), if_pos e, i64_id (n := (j : Int) + 1) (by omega) (by omega)]
      exact gNil_some (gStore_st h.1 (j := 1) (by simp) rfl rfl fun w2 h2 _ hS2 => ⟨rfl, h.set (a2 := j + 1) h2 hS2 (by omega)⟩)
    · rw [nlI_step (by omega), if_neg e, i64_id (n := (j : Int) + 1) (by omega) (by omega)]
      exact ⟨⟨j + 1, rfl, by omega, by omega, rfl, rfl⟩, by dsimp only; omega⟩
  · have : nlI xs j = none := by unfold nlI; rw [show xs.length - j = 0 by omega]; rfl
    rw [this]; exact ⟨rfl, h.step⟩
end
end Go.Proofs.YtilpoinhfiajcaaGreatDoorV

/- Package picture: blank and number; the same of valiseref16. -/
namespace Go.Proofs.YtilpoinhfiajcaaGreatDoorV
open Go Go.RowKit
/-- Behind white and remarks; false: a remark has no end. -/
def blankL (xs : List Int) : Nat → Nat → Bool × Nat
  | 0, a => (true, a)
  | f + 1, a =>
    if a < xs.length then
      (if whiteB (rd xs a) then blankL xs f (a + 1)
       else if rd xs a = 35 then (match nlI xs a with | some i => blankL xs f (i + 1) | none => (false, a))
       else (true, a))
    else (true, a)
theorem blankL_bd {xs : List Int} : ∀ {f a : Nat}, a ≤ xs.length → a ≤ (blankL xs f a).2 ∧ (blankL xs f a).2 ≤ xs.length
  | 0, a, h => by simp [blankL]; exact h
  | f + 1, a, h => by
    rw [blankL]
    split
    · split
      · have := blankL_bd (xs := xs) (f := f) (a := a + 1) (by omega); omega
      · split
        · split
          · rename_i i hi
            have h1 := nlI_bd hi h
            have := blankL_bd (xs := xs) (f := f) (a := i + 1) (by omega); omega
          · exact ⟨Nat.le_refl _, h⟩
        · exact ⟨Nat.le_refl _, h⟩
    · exact ⟨Nat.le_refl _, h⟩
def blankI (xs : List Int) (a : Nat) : Bool × Nat := blankL xs (xs.length + 1 - a) a
def atS (w : World) (ad : Addr) : Nat := match w.cell? (ad.add 1) with
  | some (.int _ n) => n.toNat
  | _ => 0
section
variable {ad : Addr} {b : Value} {xs : List Int} {a : Nat} {w : World}
theorem atS_SG (h : SG w ad b xs a) : atS w ad = a := by unfold atS; rw [h.1.cell (j := 1) rfl]; rfl
theorem hash_any {c : Int} {w : World} : Calls P n_picture_signs_blank_1 #[.int .u8 c] w (fun e w' => e = .returned (.bool (c == 35)) ∧ w' = w) := of_picture_signs_blank_1 ⟨rfl, rfl⟩
theorem blank_any (h : SG w ad b xs a) : Calls P n_picture_signs_blank #[.pointer (some ad)] w (fun e w' => e = .returned (.bool ((blankI xs a).1 && decide ((blankI xs a).2 > a))) ∧ GS w w' ad b xs (blankI xs a).2) := by
  have hl := h.2.2.2.2
  have ha := h.2.2.2.1
  refine of_picture_signs_blank (gNil_some (gLoad_i (h.1.cell (j := 1) rfl) ⟨fun w' => ∃ j f : Nat, a ≤ j ∧ xs.length < f + j ∧ blankL xs f j = blankI xs a ∧ GS w w' ad b xs j, fun w' => xs.length - atS w' ad, ⟨a, xs.length + 1 - a, by omega, by omega, rfl, h.step⟩, ?_⟩))
  rintro _ w1 ⟨j, f, haj, hf, hbl, h1⟩
  have hj := h1.1.2.2.2.1
  obtain ⟨f, rfl⟩ : ∃ g, f = g + 1 := ⟨f - 1, by omega⟩
  rw [blankL] at hbl
  refine gCall_b (is_any (pf := whiteB) (by kernel_rfl) white_any h1.1) fun w2 h2 => ?_
  have g2 := h1.ev h2
  by_cases hlt : j < xs.length
  · rw [if_pos hlt] at hbl
    rw [decide_eq_true hlt, Bool.true_and]
    cases hw : whiteB (rd xs j) with
    | true =>
      rw [hw, if_pos rfl] at hbl
      refine gIf_t (gNil_some (gLoad_i (g2.1.1.cell (j := 1) rfl) (gNil_some (gStore_st g2.1.1 (j := 1) (by simp) rfl rfl fun w3 h3 _ hS3 => ?_))))
      rw [i64_id (n := (j : Int) + 1) (by omega) (by omega)] at hS3
      have g3 := g2.1.set (a2 := j + 1) h3 hS3 (by omega)
      exact ⟨⟨j + 1, f, by omega, by omega, hbl, g2.trans g3⟩, by dsimp only; rw [atS_SG g3.1, atS_SG h1.1]; omega⟩
    | false =>
      rw [hw, if_neg (by simp)] at hbl
      refine gIf_f (gCall_b (is_any (pf := fun c => c == 35) (by kernel_rfl) hash_any g2.1) fun w4 h4 => ?_)
      have g4 := g2.ev h4
      rw [decide_eq_true hlt, Bool.true_and]
      refine gIf_eq (fun e35 => ?_) (fun n35 => ?_)
      · rw [if_pos e35] at hbl
        refine gCall_b (remark_any g4.1) fun w5 h5 => ?_
        cases hn : nlI xs j with
        | none =>
          rw [hn] at hbl h5
          refine gIf_t ⟨?_, ?_⟩
          · rw [← hbl]; rfl
          · rw [← hbl]; exact g4.trans h5
        | some i =>
          rw [hn] at hbl h5
          replace h5 : GS w4 w5 ad b xs (i + 1) := h5
          have := nlI_bd hn hj
          exact gIf_f ⟨⟨i + 1, f, by omega, by omega, hbl, g4.trans h5⟩, by dsimp only; rw [atS_SG h5.1, atS_SG h1.1]; omega⟩
      · rw [if_neg n35] at hbl
        refine gNil_some (gLoad_i (g4.1.1.cell (j := 1) rfl) ?_)
        rw [← hbl]
        exact ⟨by simp, g4⟩
  · rw [if_neg hlt] at hbl
    rw [decide_eq_false hlt, Bool.false_and]
    refine gIf_f (gCall_b (is_any (pf := fun c => c == 35) (by kernel_rfl) hash_any g2.1) fun w4 h4 => ?_)
    have g4 := g2.ev h4
    rw [decide_eq_false hlt, Bool.false_and]
    refine gIf_f (gNil_some (gLoad_i (g4.1.1.cell (j := 1) rfl) ?_))
    rw [← hbl]
    exact ⟨by simp, g4⟩
end
end Go.Proofs.YtilpoinhfiajcaaGreatDoorV

/- Package picture: number; the same of valiseref16; white of valiseref16. -/
namespace Go.Proofs.YtilpoinhfiajcaaGreatDoorV
open Go Go.RowKit
def digB (c : Int) : Bool := decide (c ≥ 48) && decide (c ≤ 57)
/-- How many digits stand from a on, at most so many; and the number. -/
def runL (xs : List Int) : Nat → Nat → Int → Nat × Int
  | 0, _, v => (0, v)
  | f + 1, a, v => if a < xs.length ∧ digB (rd xs a) = true then ((runL xs f (a + 1) (10 * v + (rd xs a - 48))).1 + 1, (runL xs f (a + 1) (10 * v + (rd xs a - 48))).2) else (0, v)
theorem runL_bd {xs : List Int} : ∀ {f a : Nat} {v : Int}, a ≤ xs.length → (runL xs f a v).1 ≤ f ∧ a + (runL xs f a v).1 ≤ xs.length
  | 0, a, v, h => by simp [runL]; exact h
  | f + 1, a, v, h => by
    rw [runL]; split
    · have := runL_bd (xs := xs) (f := f) (a := a + 1) (v := 10 * v + (rd xs a - 48)) (by omega)
      dsimp only; omega
    · exact ⟨Nat.zero_le _, h⟩
theorem digB_iff {c : Int} : digB c = true ↔ 48 ≤ c ∧ c ≤ 57 := by simp [digB]
theorem runL_rng {xs : List Int} : ∀ {f a : Nat} {v m : Int}, 0 ≤ v → v < m → 0 ≤ (runL xs f a v).2 ∧ (runL xs f a v).2 < m * ((10 ^ f : Nat) : Int)
  | 0, a, v, m, h0, h1 => by simp [runL]; omega
  | f + 1, a, v, m, h0, h1 => by
    have e : m * ((10 ^ (f + 1) : Nat) : Int) = (m * 10) * ((10 ^ f : Nat) : Int) := by rw [Nat.pow_succ, Int.natCast_mul, Int.mul_assoc, Int.mul_comm ((10 ^ f : Nat) : Int)]; rfl
    rw [runL]; split
    · rename_i h
      have hd := digB_iff.1 h.2
      have := runL_rng (xs := xs) (f := f) (a := a + 1) (v := 10 * v + (rd xs a - 48)) (m := m * 10) (by omega) (by omega)
      rw [e]; exact this
    · refine ⟨h0, ?_⟩
      have h10 : (1 : Int) ≤ ((10 ^ (f + 1) : Nat) : Int) := by have := Nat.pow_pos (n := f + 1) (show 0 < 10 by decide); omega
      have : m * 1 ≤ m * ((10 ^ (f + 1) : Nat) : Int) := Int.mul_le_mul_of_nonneg_left h10 (by omega)
      dsimp only; omega
def numPI (xs : List Int) (a : Nat) (most : Int) : Int × Nat :=
  if (runL xs 6 a 0).1 ≥ 6 then (0, a + 5) else if (runL xs 6 a 0).2 > most then (0, a + (runL xs 6 a 0).1) else ((runL xs 6 a 0).2, a + (runL xs 6 a 0).1)
section
variable {ad : Addr} {b : Value} {xs : List Int} {a : Nat} {w : World}
theorem dig_any {c : Int} {w : World} : Calls P n_picture_signs_number_1 #[.int .u8 c] w (fun e w' => e = .returned (.bool (digB c)) ∧ w' = w) := by
  refine of_picture_signs_number_1 (gIf_dec (fun h => ⟨?_, rfl⟩) (fun h => ⟨?_, rfl⟩)) <;> simp [digB, h]
theorem number_any {most : Int} (h : SG w ad b xs a) : Calls P n_picture_signs_number #[.pointer (some ad), .int .i64 most] w (fun e w' => e = .returned (.int .i64 (numPI xs a most).1) ∧ GS w w' ad b xs (numPI xs a most).2) := by
  have hl := h.2.2.2.2
  have ha := h.2.2.2.1
  refine of_picture_signs_number (gNil_some (gLoadB_i (at1 (h.1.cell (j := 1) rfl)) ⟨fun n w' => ∃ k : Nat, k ≤ 5 ∧ 0 ≤ n ∧ n < 100000 ∧ a + k ≤ xs.length ∧ runL xs 6 a 0 = (k + (runL xs (6 - k) (a + k) n).1, (runL xs (6 - k) (a + k) n).2) ∧ n < ((10 ^ k : Nat) : Int) ∧ GS w w' ad b xs (a + k), fun _ w' => xs.length - atS w' ad, ⟨0, by omega, by omega, by omega, by omega, by simp, by decide, (h.step).ev (Ev.drew0 w)⟩, ?_⟩))
  rintro _ n w1 ⟨k, hk, hn0, hn1, hak, hr, hnk, h1⟩
  refine gCall_b (is_any (pf := digB) (by kernel_rfl) dig_any h1.1) fun w2 h2 => ?_
  have g2 := h1.ev h2
  generalize hR0 : runL xs 6 a 0 = r0 at hr
  rw [show 6 - k = (5 - k) + 1 by omega, runL] at hr
  by_cases hc : a + k < xs.length ∧ digB (rd xs ((a + k : Nat) : Int)) = true
  · rw [if_pos hc] at hr
    dsimp only at hr
    rw [decide_eq_true hc.1, hc.2]
    have hd := digB_iff.1 hc.2
    refine gIf_t (gNil_some (gLoad_i (g2.1.1.cell (j := 1) rfl) ?_))
    rw [i64_id (n := ((a + k : Nat) : Int) - a) (by omega) (by omega)]
    refine gIf_dec (fun h5 => ?_) (fun h5 => ?_)
    · have : k = 5 := by omega
      subst this
      unfold numPI
      rw [hR0, hr, if_pos (by dsimp only; omega)]
      exact ⟨rfl, g2⟩
    · refine gNil_some (gLoadB_v (at1 (g2.1.1.cell (j := 0) rfl)) (gNil_some (gLoadB_i (at1 (g2.1.1.cell (j := 1) rfl)) (gIdx_nm g2.1.2.1 (by omega) (by omega) fun a1 c1 _ => gLoadB_i (at1 c1) (gNil_some (gLoad_i ((g2.1.ev (Ev.drew0 _)).1.cell (j := 1) rfl) (gNil_some (gStore_st (g2.1.ev (Ev.drew0 _)).1 (j := 1) (by simp) rfl rfl fun w3 h3 _ hS3 => ?_))))))))
      have hp : ((10 ^ (k + 1) : Nat) : Int) = ((10 ^ k : Nat) : Int) * 10 := by rw [Nat.pow_succ, Int.natCast_mul]; rfl
      have hq : ((10 ^ k : Nat) : Int) ≤ ((10000 : Nat) : Int) := Int.ofNat_le.2 (Nat.le_trans (Nat.pow_le_pow_right (by decide) (show k ≤ 4 by omega)) (by decide))
      rw [u8_id (n := rd xs ((a + k : Nat) : Int) - 48) (by omega) (by omega), i64_id (n := rd xs ((a + k : Nat) : Int) - 48) (by omega) (by omega), i64_id (n := 10 * n) (by omega) (by omega), i64_id (n := 10 * n + _) (by omega) (by omega)]
      rw [show i64 (((a + k : Nat) : Int) + 1) = ((a + (k + 1) : Nat) : Int) by rw [i64_id (by omega) (by omega)]; omega] at hS3
      have g3 := (g2.1.ev (Ev.drew0 w2)).set (a2 := a + (k + 1)) h3 hS3 (by omega)
      refine ⟨⟨k + 1, by omega, by omega, by omega, by omega, ?_, by rw [hp]; omega, (g2.ev (Ev.drew0 w2)).trans g3⟩, by dsimp only; rw [atS_SG g3.1, atS_SG h1.1]; omega⟩
      rw [hr, show 6 - (k + 1) = 5 - k by omega, show a + (k + 1) = a + k + 1 by omega]
      congr 1; omega
  · rw [if_neg hc] at hr
    have hf : (decide (a + k < xs.length) && digB (rd xs ((a + k : Nat) : Int))) = false := by
      rw [Bool.eq_false_iff]; intro hh; rw [Bool.and_eq_true, decide_eq_true_eq] at hh; exact hc hh
    rw [hf]
    unfold numPI
    rw [hR0, hr]
    dsimp only
    rw [if_neg (by omega)]
    refine gIf_f (gIf_dec (fun hg => ?_) (fun hg => ?_))
    · rw [if_pos hg]; exact ⟨rfl, by simpa using g2⟩
    · rw [if_neg hg]; exact ⟨rfl, by simpa using g2⟩
end
end Go.Proofs.YtilpoinhfiajcaaGreatDoorV
