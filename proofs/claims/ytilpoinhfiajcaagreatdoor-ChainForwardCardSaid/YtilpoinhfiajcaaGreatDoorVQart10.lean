import Derived.Test.YtilpoinhfiajcaaGreatDoorVQart9
set_option linter.unusedVariables false
set_option linter.unusedSimpArgs false
/- Package wav: chunks, frames. -/
namespace Go.Proofs.YtilpoinhfiajcaaGreatDoorV
open Go Go.RowKit
def WavE (w : World) (r : Wv × Bool) (e : Ending) (w' : World) : Prop := e = .returned (.tuple #[.agg r.1.c.toArray, .bool r.2]) ∧ Ev w w'
theorem rawR_at {xs : List Int} {a n : Nat} (h : a + n ≤ xs.length) : rawR xs a 0 (n : Int) = ((xs.drop a).take n, a + n, 0) := by
  unfold rawR
  by_cases hn : n = 0
  · subst hn; rw [if_pos (.inr (by omega))]; simp
  · rw [if_neg (by omega), if_neg (by omega), Int.toNat_natCast]
theorem fldW_sub {xs : List Int} {p q n m : Nat} (h : q + n ≤ m) : fldW ((xs.drop p).take m) q n = fldW xs (p + q) n := by
  unfold fldW
  rw [List.drop_take, List.take_take, List.drop_drop, show min n (m - q) = n by omega]
section
variable {w0 w : World} {F G : List It} {xs : List Int} {ad c : Addr} {y : Value} {a : Nat}
theorem gCall_wav {f : FuncId} {args : Array Value} {r : Wv × Bool} {K : Int → Int → Int → Int → Bool → World → Prop} (h : Calls P f args w (WavE w r)) (hk : ∀ w', Ev w w' → K r.1.ch r.1.bits r.1.fr r.1.to r.2 w') :
    gCall P f (.tup [.agg [.int .i64, .int .i64, .int .i64, .int .i64], .one .bool]) args w K :=
  gCall_of h fun _ w' ⟨h1, h2⟩ => ⟨_, _, _, _, _, h1, hk w' h2⟩
theorem fWv {ad : Addr} {K : Int → Int → Int → Int → Prop} (p : Wv) (h : Fr w0 w F) (i : Nat) (hi : F[i]? = some (sIt ad p.c)) (hk : K p.ch p.bits p.fr p.to) : gLoad P t_api_Wav (.part (.agg [.int .i64, .int .i64, .int .i64, .int .i64])) (.pointer (some ad)) w K :=
  fLoadA h i hi hk rfl (by kernel_rfl)
theorem fWvNew {K : Addr → World → Prop} (h : Fr w0 w F) (hk : ∀ ad w', Fr w0 w' (sIt ad Wv.z.c :: F) → K ad w') : gAlloc P t_api_Wav w K :=
  fAlloc (z := .agg #[.int .i64 0, .int .i64 0, .int .i64 0, .int .i64 0]) h (by kernel_rfl) hk
theorem fWvSet {ad : Addr} {a b c d : Int} {cs : List Value} {K : World → Prop} (h : Fr w0 w F) (i : Nat) (hi : F[i]? = some (sIt ad cs)) (hl : cs.length = 4) (hk : ∀ w', Fr w0 w' (F.set i (sIt ad (Wv.mk a b c d).c)) → K w') : gStore P t_api_Wav (.pointer (some ad)) (.agg #[.int .i64 a, .int .i64 b, .int .i64 c, .int .i64 d]) w K :=
  fStoreA h i hi hk (by rw [hl]; rfl)
theorem fWvEnd {ad : Addr} {r : Wv × Bool} {cs : List Value} (h : Fr w0 w F) (i : Nat) (hi : F[i]? = some (sIt ad cs)) (hl : cs.length = 4) {R : Ending → World → Prop} (hR : R = WavE w0 r) :
    gStore P t_api_Wav (.pointer (some ad)) (.agg #[.int .i64 r.1.ch, .int .i64 r.1.bits, .int .i64 r.1.fr, .int .i64 r.1.to]) w fun ww => gLoad P t_api_Wav (.part (.agg [.int .i64, .int .i64, .int .i64, .int .i64])) (.pointer (some ad)) ww fun (r0_0 : Int) (r0_1 : Int) (r0_2 : Int) (r0_3 : Int) => R (.returned (.tuple #[.agg #[.int .i64 r0_0, .int .i64 r0_1, .int .i64 r0_2, .int .i64 r0_3], .bool r.2])) ww := by
  subst hR
  refine fWvSet h i hi hl fun w3 f3 => fWv r.1 f3 i ?_ ⟨rfl, f3.old⟩
  have hlt := (List.getElem?_eq_some_iff.1 hi).1
  rw [List.getElem?_set_self hlt]
/-! ### Readers -/
theorem fLeftR {K : Int → World → Prop} (f : Fr w0 w (sIt ad [y, .int .i64 a, .int .i64 0] :: oIt .u8 eB y xs :: F)) (ha : a ≤ xs.length) (hl : xs.length ≤ 1000000000) (hk : ∀ w', Fr w0 w' (sIt ad [y, .int .i64 a, .int .i64 0] :: oIt .u8 eB y xs :: F) → K ((xs.length : Int) - a) w') : gCall P n_num_Reader_Left (shI .i64) #[.pointer (some ad)] w K :=
  gCall_i (rLeft_any (f.rd 0 1 rfl rfl (by decide) ha (by omega))) fun w' h => hk w' (f.ev h)
theorem fLittleR {n : Nat} {K : Int → World → Prop} (f : Fr w0 w (sIt ad [y, .int .i64 a, .int .i64 0] :: oIt .u8 eB y xs :: F)) (h : a + n ≤ xs.length) (h8 : n ≤ 8) (hl : xs.length ≤ 1000000000) (hk : ∀ w', Fr w0 w' (sIt ad [y, .int .i64 ((a + n : Nat) : Int), .int .i64 0] :: oIt .u8 eB y xs :: F) → K (fldW xs a n) w') :
    gCall P n_num_Reader_Little (shI .u64) #[.pointer (some ad), .int .i64 (n : Int)] w K := by
  have hr := rLittle_any (n := (n : Int)) (f.rd 0 1 rfl rfl (by decide) (by omega) (by omega))
  rw [if_neg (show ¬ ((8 : Int) < (n : Int)) by omega), rawR_at h] at hr
  exact gCall_i hr fun w' h => hk w' (f.rs 0 rfl h)
theorem fRawA {n : Nat} {K : Value → World → Prop} (f : Fr w0 w (sIt ad [y, .int .i64 a, .int .i64 0] :: oIt .u8 eB y xs :: F)) (h : a + n ≤ xs.length) (hl : xs.length ≤ 1000000000) (hk : ∀ z w', Fr w0 w' (sIt ad [y, .int .i64 ((a + n : Nat) : Int), .int .i64 0] :: oIt .u8 eB y xs :: oIt .u8 eB z ((xs.drop a).take n) :: F) → K z w') :
    gCall P n_num_Reader_Raw shV #[.pointer (some ad), .int .i64 (n : Int)] w K := by
  refine fRawR (n := (n : Int)) f (by omega) (by omega) (by omega) fun z w' f' => hk z w' ?_
  rw [rawR_at h] at f'; exact f'
theorem frameW_any {ch bits p q : Int} (h1 : -70000 ≤ ch ∧ ch ≤ 70000) (h2 : -70000 ≤ bits ∧ bits ≤ 70000) : Calls P n_wav_frame #[.agg #[.int .i64 ch, .int .i64 bits, .int .i64 p, .int .i64 q]] w (fun e w' => e = .returned (.int .i64 (frameW ch bits)) ∧ Ev w w') := by
  refine of_wav_frame (fBox (Fr.start w) fun w1 ww f => ?_)
  have f : Fr w ww [sIt w1 (Wv.mk ch bits p q).c] := f
  refine ⟨fun w' => ¬ (ch < 1 ∨ ch > 8 ∨ (bits ≠ 8 ∧ bits ≠ 16)) ∧ w' = ww, fLoad_i (n := ch) f 0 0 rfl rfl (gIf_ndec (fun h3 => fLoad_i (n := ch) f 0 0 rfl rfl (gIf_ndec (fun h4 => fLoad_i (n := bits) f 0 1 rfl rfl (gIf_neq (fun h5 => fLoad_i (n := bits) f 0 1 rfl rfl (gIf_neq (fun h6 => ⟨?_, f.old⟩) (fun h6 => ⟨by omega, rfl⟩))) (fun h5 => ⟨by omega, rfl⟩))) (fun h4 => ⟨?_, f.old⟩))) (fun h3 => ⟨?_, f.old⟩)), ?_⟩
  · unfold frameW; rw [if_pos (by omega)]
  · unfold frameW; rw [if_pos (by omega)]
  · unfold frameW; rw [if_pos (by omega)]
  rintro _ w2 ⟨hok, hw⟩
  obtain rfl : ww = w2 := hw.symm
  refine fLoad_i (n := ch) f 0 0 rfl rfl (fLoad_i (n := bits) f 0 1 rfl rfl ⟨?_, f.old⟩)
  have e : frameW ch bits = ch * bits / 8 := by unfold frameW; rw [if_neg hok]
  have hb : bits = 8 ∨ bits = 16 := by omega
  have hm : i64 (Int.tdiv (i64 (ch * bits)) 8) = ch * bits / 8 := by
    rcases hb with rfl | rfl
    · rw [i64_id (n := ch * 8) (by omega) (by omega), Int.tdiv_eq_ediv_of_nonneg (by omega), i64_id (by omega) (by omega)]
    · rw [i64_id (n := ch * 16) (by omega) (by omega), Int.tdiv_eq_ediv_of_nonneg (by omega), i64_id (by omega) (by omega)]
  rw [hm, e]
/-- A reader, and what goes through chunks. -/
noncomputable def chF (ad c : Addr) (y : Value) (xs : List Int) (a : Nat) (G : List It) : List It := sIt ad [y, .int .i64 a, .int .i64 0] :: oIt .u8 eB y xs :: sIt c [.pointer (some ad), .int .i64 (xs.length : Int)] :: G
def NextE (w0 : World) (ad c : Addr) (y : Value) (xs : List Int) (a : Nat) (G : List It) (e : Ending) (w' : World) : Prop :=
  (xs.length < a + 8 ∧ e = .returned (.tuple #[.string ⟨#[]⟩, .int .i64 0, .int .i64 0, .bool false]) ∧ Fr w0 w' (chF ad c y xs a G)) ∨
  (a + 8 ≤ xs.length ∧ e = .returned (.tuple #[.string (bsOf (nameW xs a)), .int .i64 ((a + 8 : Nat) : Int), .int .i64 ((a + 8 + sizeW xs a : Nat) : Int), .bool true]) ∧ Fr w0 w' (chF ad c y xs (a + 8) G))
theorem nextW_any (f : Fr w0 w (chF ad c y xs a G)) (ha : a ≤ xs.length) (hl : xs.length ≤ 1000000000) : Calls P n_wav_chunks_next #[.pointer (some c)] w (NextE w0 ad c y xs a G) := by
  have hx : inR .u8 xs := (f.nm 1 rfl).2
  refine of_wav_chunks_next (gNil_some ?_)
  refine gLoad_p (v := some ad) (f.cell 2 0 rfl rfl) (fLeftR f ha hl fun w1 f1 => gIf_dec (fun hlt => .inl ⟨by omega, rfl, f1⟩) (fun hge => gNil_some (gLoad_p (v := some ad) (f1.cell 2 0 rfl rfl) (fRawA (n := 4) f1 (by omega) hl fun z w2 f2 => ?_))))
  refine gConv_bs (f2.nm 2 rfl) (gNil_some (gLoad_p (v := some ad) (f2.cell 3 0 rfl rfl) (fLittleR (n := 4) f2 (by omega) (by omega) hl fun w3 f3 => ?_)))
  have f3 : Fr w0 w3 (chF ad c y xs (a + 8) G) := by
    have := f3.drop 2
    exact this
  refine ⟨fun w' => ∃ w, Fr w0 w (chF ad c y xs (a + 8) G) ∧ w' = w, ⟨_, f3.drew, rfl⟩, gNil_some (gLoadB_i (n := (xs.length : Int)) (fun w' ⟨w, g, e⟩ => by subst e; exact g.cell 2 1 rfl rfl) (gNil_some (gLoadB_p (v := some ad) (fun w' ⟨w, g, e⟩ => by subst e; exact g.cell 2 0 rfl rfl) (fLeftR f3.drew (by omega) hl fun w4 f4 => ⟨⟨_, f4, rfl⟩, .inr ⟨by omega, ?_, f4⟩⟩))))⟩
  have hs := fldW_rg hx (a + 4) 4 (by omega)
  have hsz : ((sizeW xs a : Nat) : Int) = fldW xs (a + 4) 4 := by unfold sizeW; omega
  rw [i64_id (n := (xs.length : Int) - ((xs.length : Int) - ((a + 8 : Nat) : Int))) (by omega) (by omega), i64_id (n := fldW xs (a + 4) 4) (by omega) (by omega), ← hsz, show (xs.length : Int) - ((xs.length : Int) - ((a + 8 : Nat) : Int)) = ((a + 8 : Nat) : Int) by omega, i64_id (n := ((a + 8 : Nat) : Int) + ((sizeW xs a : Nat) : Int)) (by omega) (by omega)]
  rfl
def SkipE (w0 : World) (ad c : Addr) (y : Value) (xs : List Int) (a : Nat) (G : List It) (e : Ending) (w' : World) : Prop :=
  (skipW xs a > xs.length - (a + 8) ∧ e = .returned (.bool false) ∧ Fr w0 w' (chF ad c y xs (a + 8) G)) ∨
  (skipW xs a ≤ xs.length - (a + 8) ∧ e = .returned (.bool true) ∧ Fr w0 w' (chF ad c y xs (a + 8 + skipW xs a) G))
theorem skipW_any (f : Fr w0 w (chF ad c y xs (a + 8) G)) (ha : a + 8 ≤ xs.length) (hl : xs.length ≤ 1000000000) : Calls P n_wav_chunks_skip #[.pointer (some c), .int .i64 ((a + 8 : Nat) : Int), .int .i64 ((a + 8 + sizeW xs a : Nat) : Int)] w (SkipE w0 ad c y xs a G) := by
  have hx : inR .u8 xs := (f.nm 1 rfl).2
  have hs := fldW_rg hx (a + 4) 4 (by omega)
  have hsz : ((sizeW xs a : Nat) : Int) = fldW xs (a + 4) 4 := by unfold sizeW; omega
  have hn : i64 (i64 (((a + 8 + sizeW xs a : Nat) : Int) - ((a + 8 : Nat) : Int)) + Int.tmod (i64 (((a + 8 + sizeW xs a : Nat) : Int) - ((a + 8 : Nat) : Int))) 2) = ((skipW xs a : Nat) : Int) := by
    rw [show ((a + 8 + sizeW xs a : Nat) : Int) - ((a + 8 : Nat) : Int) = ((sizeW xs a : Nat) : Int) by omega, i64_id (n := ((sizeW xs a : Nat) : Int)) (by omega) (by omega), Int.tmod_eq_emod_of_nonneg (by omega), i64_id (by omega) (by omega)]
    unfold skipW; omega
  refine of_wav_chunks_skip ?_
  rw [hn]
  refine gNil_some (gLoad_p (v := some ad) (f.cell 2 0 rfl rfl) (fLeftR f ha hl fun w1 f1 => gIf_dec (fun hlt => .inl ⟨by omega, rfl, f1⟩) (fun hge => gNil_some (gLoad_p (v := some ad) (f1.cell 2 0 rfl rfl) (fRawA (n := skipW xs a) f1 (by omega) hl fun z w2 f2 => .inr ⟨by omega, rfl, f2.drop 2⟩)))))
end
end Go.Proofs.YtilpoinhfiajcaaGreatDoorV

/- Package wav: Parse. -/
namespace Go.Proofs.YtilpoinhfiajcaaGreatDoorV
open Go Go.RowKit
theorem byte_in {l : List Int} (h : ∀ x ∈ l, 0 ≤ x ∧ x < 256) : inR .u8 l := fun x hx => u8i (h x hx)
theorem riff_in : inR .u8 riffN := byte_in (by decide)
theorem wave_in : inR .u8 waveN := byte_in (by decide)
theorem fmt_in : inR .u8 fmtN := byte_in (by decide)
theorem dat_in : inR .u8 datN := byte_in (by decide)
theorem riff_eq {zs : List Int} (h : inR .u8 zs) : ((bsOf zs).toList == (ByteArray.mk #[82, 73, 70, 70]).toList) = decide (zs = riffN) := bsOf_eq h riff_in
theorem wave_eq {zs : List Int} (h : inR .u8 zs) : ((bsOf zs).toList == (ByteArray.mk #[87, 65, 86, 69]).toList) = decide (zs = waveN) := bsOf_eq h wave_in
theorem fmt_eq {zs : List Int} (h : inR .u8 zs) : ((bsOf zs).toList == (ByteArray.mk #[102, 109, 116, 32]).toList) = decide (zs = fmtN) := bsOf_eq h fmt_in
theorem dat_eq {zs : List Int} (h : inR .u8 zs) : ((bsOf zs).toList == (ByteArray.mk #[100, 97, 116, 97]).toList) = decide (zs = datN) := bsOf_eq h dat_in
theorem beq_dec (x y : Int) : (x == y) = decide (x = y) := by by_cases h : x = y <;> simp [h]
/-- Where a reader stands. -/
def posW (ad : Addr) (w : World) : Nat := match w.cell? (ad.add 1) with
  | some (.int _ n) => n.toNat
  | _ => 0
theorem minW_i {xs : List Int} {a : Nat} (ha : a + 8 ≤ xs.length) (hl : xs.length ≤ 1000000000) : i64 ((if (xs.length : Int) < ((a + 8 + sizeW xs a : Nat) : Int) then (xs.length : Int) else ((a + 8 + sizeW xs a : Nat) : Int)) - ((a + 8 : Nat) : Int)) = ((minW xs a : Nat) : Int) := by
  unfold minW
  split <;> split <;> rw [i64_id (by omega) (by omega)] <;> omega
theorem wrap_i64 (n : Int) : IntKind.i64.wrap n = i64 n := rfl
section
variable {w : World} {xs : List Int} {b : Value}
theorem wvParse_any (hb : Nm .u8 w b xs) (hl : xs.length ≤ 1000000000) : Calls P n_wav_Parse #[b] w (WavE w (parseW xs)) := by
  refine of_wav_Parse (fWvNew (Fr.start w) fun t2 w1 f1 => ?_)
  have hb1 := hb.ev f1.old
  have hn0 : inR .u8 (nameW xs 0) := (hb.2.drop _).take _
  have hn8 : inR .u8 (nameW xs 8) := (hb.2.drop _).take _
  refine ⟨fun w' => ¬ (xs.length < 12 ∨ nameW xs 0 ≠ riffN ∨ nameW xs 8 ≠ waveN) ∧ w' = w1, gLen_nm hb1 (gIf_ndec (fun h12 => ?_) (fun hlt => ?_)), ?_⟩
  · refine gSlice_nm hb1 0 4 (.inl ⟨rfl, rfl⟩) (.inr ⟨_, rfl⟩) (by omega) (by omega) fun hs => gConv_bs hs ?_
    rw [show ((bsOf ((xs.drop 0).take (4 - 0))).toList == (ByteArray.mk #[82, 73, 70, 70]).toList) = decide (nameW xs 0 = riffN) from riff_eq hn0]
    refine gIf_nndec (fun hr => gSlice_nm hb1 8 12 (.inr ⟨_, rfl⟩) (.inr ⟨_, rfl⟩) (by omega) (by omega) fun hs2 => gConv_bs hs2 ?_) (fun hr => ?_)
    · rw [show ((bsOf ((xs.drop 8).take (12 - 8))).toList == (ByteArray.mk #[87, 65, 86, 69]).toList) = decide (nameW xs 8 = waveN) from wave_eq hn8]
      refine gIf_ndec (fun hw => ?_) (fun hw => ⟨fun hh => ?_, rfl⟩)
      · exact fWvEnd (r := noW) f1 0 rfl rfl (by unfold parseW; rw [if_pos (.inr (.inr hw))])
      · rcases hh with hh | hh | hh
        · omega
        · exact hh hr
        · exact hh hw
    · exact fWvEnd (r := noW) f1 0 rfl rfl (by unfold parseW; rw [if_pos (.inr (.inl hr))])
  · exact fWvEnd (r := noW) f1 0 rfl rfl (by unfold parseW; rw [if_pos (.inl (by omega))])
  rintro _ w7 ⟨hok, hw7⟩
  obtain rfl : w1 = w7 := hw7.symm
  have hp0 : parseW xs = goW xs (xs.length + 1) 12 false false 0 0 := by unfold parseW; rw [if_neg hok]
  refine fNewR f1 hb1 (by omega) fun ad y w8 f8 => gLen_nm (hb.ev f8.old) (fBox f8 fun c w9 f9 => ?_)
  have f9 : Fr w w9 (chF ad c y xs 0 [sIt t2 Wv.z.c]) := f9.picks [1, 2, 0, 3] (by decide)
  refine gNil_some (gLoad_p (v := some ad) (f9.cell 2 0 rfl rfl) (fRawA (n := 12) f9 (by omega) hl fun z w10 f10 => ?_))
  have f10 : Fr w w10 (chF ad c y xs 12 [sIt t2 Wv.z.c]) := by
    have := f10.drop 2
    exact this
  refine fWvNew f10 fun w5 w11 f11 => ?_
  have f11 : Fr w w11 (chF ad c y xs 12 [sIt w5 (Wv.mk 0 0 0 0).c, sIt t2 Wv.z.c]) := f11.picks [1, 2, 3, 0, 4] (by decide)
  refine ⟨fun has pcm w' => ∃ (f a : Nat) (ch bits : Int), a ≤ xs.length ∧ (0 ≤ ch ∧ ch < 65536) ∧ (0 ≤ bits ∧ bits < 65536) ∧ parseW xs = goW xs f a has pcm ch bits ∧ xs.length < f + a ∧ Fr w w' (chF ad c y xs a [sIt w5 (Wv.mk ch bits 0 0).c, sIt t2 Wv.z.c]), fun _ _ w' => xs.length + 1 - posW ad w', ⟨xs.length + 1, 12, 0, 0, by omega, by omega, by omega, hp0, by omega, f11⟩, ?_⟩
  rintro _ has pcm w12 ⟨f, a, ch, bits, ha, hch, hbits, hp, hfu, f12⟩
  have hpos : posW ad w12 = a := by
    unfold posW
    rw [f12.cell (u := .int .i64 (a : Int)) 0 1 rfl rfl]; rfl
  obtain ⟨f, rfl⟩ : ∃ f', f = f' + 1 := ⟨f - 1, by omega⟩
  refine gCall_of (nextW_any f12 ha hl) ?_
  rintro _ w13 (⟨hlt, rfl, g⟩ | ⟨hge, rfl, g⟩)
  · exact ⟨_, _, _, _, rfl, gIf_nf (fWvEnd (r := noW) g 4 rfl rfl (by rw [hp, goW, if_pos hlt]))⟩
  refine ⟨_, _, _, _, rfl, gIf_nt ?_⟩
  have hx := hb.2
  have hnm : inR .u8 (nameW xs a) := (hx.drop _).take _
  have hsr := fldW_rg hx (a + 4) 4 (by omega)
  have hsz : ((sizeW xs a : Nat) : Int) = fldW xs (a + 4) 4 := by unfold sizeW; omega
  rw [goW, if_neg (by omega)] at hp
  have i1 : i64 (((a + 8 + sizeW xs a : Nat) : Int) - ((a + 8 : Nat) : Int)) = ((sizeW xs a : Nat) : Int) := by rw [i64_id (by omega) (by omega)]; omega
  have i2 : i64 (((a + 8 : Nat) : Int) + 16) = ((a + 24 : Nat) : Int) := by rw [i64_id (by omega) (by omega)]; omega
  rw [fmt_eq hnm, dat_eq hnm, i1, i2]
  refine ⟨fun has' pcm' w' => ∃ ch' bits' : Int, (0 ≤ ch' ∧ ch' < 65536) ∧ (0 ≤ bits' ∧ bits' < 65536) ∧ parseW xs = (if skipW xs a > xs.length - (a + 8) then noW else goW xs f (a + 8 + skipW xs a) has' pcm' ch' bits') ∧ Fr w w' (chF ad c y xs (a + 8) [sIt w5 (Wv.mk ch' bits' 0 0).c, sIt t2 Wv.z.c]), ⟨fun t w' => w' = w13 ∧ t = decide (isFmt xs a has), ?_, ?_⟩, ?_⟩
  · refine gIf_dec (fun h1 => gIf_nb (fun h2 => gIf_dec (fun h3 => gLen_nm (hb.ev g.old) ⟨rfl, ?_⟩) (fun h3 => ⟨rfl, ?_⟩)) (fun h2 => ⟨rfl, ?_⟩)) (fun h1 => ⟨rfl, ?_⟩)
    · rw [decide_eq_decide]; unfold isFmt
      exact ⟨fun h4 => ⟨h1, h2, by omega, by omega⟩, fun h4 => by omega⟩
    · rw [decide_eq_false]; unfold isFmt; omega
    · rw [decide_eq_false]; unfold isFmt; rw [h2]; simp
    · rw [decide_eq_false]; unfold isFmt; exact fun hh => h1 hh.1
  · rintro _ t w15 ⟨hw15, ht⟩
    obtain rfl : w13 = w15 := hw15.symm
    subst ht
    refine gIf_dec (fun hf => ?_) (fun hf => ?_)
    · rw [if_pos hf] at hp
      obtain ⟨_, _, _, h24⟩ := id hf
      refine gSlice_nm (hb.ev g.old) (a + 8) (a + 24) (.inr ⟨_, rfl⟩) (.inr ⟨_, rfl⟩) (by omega) h24 fun hs => ?_
      obtain ⟨sl, hsl⟩ : ∃ sl, sl = (xs.drop (a + 8)).take 16 := ⟨_, rfl⟩
      rw [show a + 24 - (a + 8) = 16 by omega, ← hsl] at hs
      have hsll : sl.length = 16 := by rw [hsl, List.length_take, List.length_drop]; omega
      have e0 : fldW sl 0 2 = fldW xs (a + 8) 2 := by rw [hsl, fldW_sub (by omega)]
      have e1 : fldW sl 2 2 = fldW xs (a + 10) 2 := by rw [hsl, fldW_sub (by omega)]
      have e2 : fldW sl 14 2 = fldW xs (a + 22) 2 := by rw [hsl, fldW_sub (by omega)]
      have r1 := fldW2_rg hx (a + 10)
      have r2 := fldW2_rg hx (a + 22)
      refine fNewR g hs (by omega) fun ad2 y2 w16 g16 => fLittleR (n := 2) g16 (by omega) (by omega) (by omega) fun w17 g17 => fLittleR (n := 2) g17 (by omega) (by omega) (by omega) fun w18 g18 => ?_
      rw [e0, show fldW sl (0 + 2) 2 = fldW xs (a + 10) 2 from e1, i64_id (n := fldW xs (a + 10) 2) (by omega) (by omega)]
      refine fStore g18 5 0 rfl fun w19 g19 => ?_
      have g19 : Fr w w19 (sIt ad2 [y2, .int .i64 ((0 + 2 + 2 : Nat) : Int), .int .i64 0] :: oIt .u8 eB y2 sl :: chF ad c y xs (a + 8) [sIt w5 (Wv.mk (fldW xs (a + 10) 2) bits 0 0).c, sIt t2 Wv.z.c]) := g19
      refine fRawA (n := 10) g19 (by omega) (by omega) fun z w20 g20 => ?_
      have g20 := g20.drop 2
      refine fLittleR (n := 2) (a := 14) g20 (by omega) (by omega) (by omega) fun w21 g21 => ?_
      rw [e2, i64_id (n := fldW xs (a + 22) 2) (by omega) (by omega)]
      refine fStore g21 5 1 rfl fun w22 g22 => ?_
      have g22 : Fr w w22 (sIt ad2 [y2, .int .i64 ((14 + 2 : Nat) : Int), .int .i64 0] :: oIt .u8 eB y2 sl :: chF ad c y xs (a + 8) [sIt w5 (Wv.mk (fldW xs (a + 10) 2) (fldW xs (a + 22) 2) 0 0).c, sIt t2 Wv.z.c]) := g22
      refine ⟨fldW xs (a + 10) 2, fldW xs (a + 22) 2, r1, r2, ?_, (g22.drop 0).drop 0⟩
      rw [hp, beq_dec]
    · rw [if_neg hf] at hp
      refine ⟨fun t w' => w' = w13 ∧ t = decide (nameW xs a = datN ∧ has = true), gIf_dec (fun h1 => ⟨rfl, ?_⟩) (fun h1 => ⟨rfl, ?_⟩), ?_⟩
      · cases has with
        | true => rw [decide_eq_true ⟨h1, rfl⟩]
        | false => rw [decide_eq_false (by simp)]
      · rw [decide_eq_false (fun hh => h1 hh.1)]
      rintro _ t w23 ⟨hw23, ht⟩
      obtain rfl : w13 = w23 := hw23.symm
      subst ht
      refine gIf_dec (fun hd => ?_) (fun hd => ⟨ch, bits, hch, hbits, by rw [hp, if_neg hd], g⟩)
      rw [if_pos hd] at hp
      refine fWv (Wv.mk ch bits 0 0) g 3 rfl (gCall_i (frameW_any (ch := ch) (bits := bits) (by omega) (by omega)) fun w24 h24 => ?_)
      have g24 := g.ev h24
      have hmin := minW_i (xs := xs) (a := a) hge hl
      have hmle : minW xs a ≤ xs.length - (a + 8) := by unfold minW; split <;> omega
      refine ⟨fun w' => (pcm = true ∧ frameW ch bits ≠ 0 ∧ ¬ ((minW xs a : Int) < frameW ch bits)) ∧ w' = w24, gIf_nnb (fun h1 => gIf_neqq (fun h2 => gLen_nm (hb.ev g24.old) (hmin.symm ▸ gIf_dec (fun h3 => ?_) (fun h3 => ⟨⟨h1, h2, h3⟩, rfl⟩))) (fun h2 => ?_)) (fun h1 => ?_), ?_⟩
      · exact fWvEnd (r := noW) g24 4 rfl rfl (by rw [hp]; unfold foundW; rw [if_neg (fun hh => hh.2.2 h3)])
      · exact fWvEnd (r := noW) g24 4 rfl rfl (by rw [hp]; unfold foundW; rw [if_neg (fun hh => hh.2.1 h2)])
      · exact fWvEnd (r := noW) g24 4 rfl rfl (by rw [hp]; unfold foundW; rw [if_neg (fun hh => by rw [h1] at hh; cases hh.1)])
      rintro _ w28 ⟨hc, hw28⟩
      obtain rfl : w24 = w28 := hw28.symm
      obtain ⟨q1, q2, q3, q4, q5⟩ := frameW_pos hc.2.1
      have hfound : parseW xs = (⟨ch, bits, (a + 8 : Nat), ((a + 8 : Nat) : Int) + (minW xs a : Int) / frameW ch bits * frameW ch bits⟩, true) := by rw [hp]; unfold foundW; rw [if_pos hc]
      obtain ⟨fr, hfr⟩ : ∃ fr, fr = frameW ch bits := ⟨_, rfl⟩
      rw [← hfr] at hfound q5 ⊢
      have h7 : (minW xs a : Int) / fr * fr ≤ (minW xs a : Int) := Int.ediv_mul_le _ (by omega)
      have h8 : 0 ≤ (minW xs a : Int) / fr := Int.ediv_nonneg (by omega) (by omega)
      have h9 : 0 ≤ (minW xs a : Int) / fr * fr := Int.mul_nonneg h8 (by omega)
      have h10 : (minW xs a : Int) / fr ≤ (minW xs a : Int) := Int.ediv_le_self _ (by omega)
      refine ⟨fun _ => True, trivial, gLen_nm (hb.ev g24.old) ?_⟩
      rw [hmin]
      refine gBin_quo (by omega) ?_
      rw [Int.tdiv_eq_ediv_of_nonneg (by omega), wrap_i64, i64_id (n := (minW xs a : Int) / fr) (by omega) (by omega), i64_id (n := (minW xs a : Int) / fr * fr) (by omega) (by omega), i64_id (n := ((a + 8 : Nat) : Int) + (minW xs a : Int) / fr * fr) (by omega) (by omega)]
      refine fStore g24.drew 3 2 rfl fun w29 g29 => ⟨trivial, fStore g29 3 3 rfl fun w30 g30 => ⟨trivial, ?_⟩⟩
      have g30 : Fr w w30 (chF ad c y xs (a + 8) [sIt w5 (Wv.mk ch bits ((a + 8 : Nat) : Int) (((a + 8 : Nat) : Int) + (minW xs a : Int) / fr * fr)).c, sIt t2 Wv.z.c]) := g30
      refine fWv (Wv.mk ch bits ((a + 8 : Nat) : Int) (((a + 8 : Nat) : Int) + (minW xs a : Int) / fr * fr)) g30 3 rfl ?_
      exact fWvEnd (r := (⟨ch, bits, ((a + 8 : Nat) : Int), ((a + 8 : Nat) : Int) + (minW xs a : Int) / fr * fr⟩, true)) g30 4 rfl rfl (by rw [hfound])
  · rintro _ has' pcm' w32 ⟨ch', bits', hch', hbits', hp', f32⟩
    refine gCall_of (skipW_any f32 hge hl) ?_
    rintro _ w33 (⟨hs, rfl, f33⟩ | ⟨hs, rfl, f33⟩)
    · exact ⟨_, rfl, gIf_nf (fWvEnd (r := noW) f33 4 rfl rfl (by rw [hp', if_pos hs]))⟩
    · refine ⟨_, rfl, gIf_nt ⟨⟨f, a + 8 + skipW xs a, ch', bits', by omega, hch', hbits', by rw [hp', if_neg (by omega)], by omega, f33⟩, ?_⟩⟩
      have hpos2 : posW ad w33 = a + 8 + skipW xs a := by
        unfold posW
        rw [f33.cell (u := .int .i64 ((a + 8 + skipW xs a : Nat) : Int)) 0 1 rfl rfl]; rfl
      dsimp only
      rw [hpos, hpos2]; omega
end
end Go.Proofs.YtilpoinhfiajcaaGreatDoorV

/- Package audio: Pack. -/
namespace Go.Proofs.YtilpoinhfiajcaaGreatDoorV
open Go Go.RowKit
theorem inW_nat {p : Wv} {N : Nat} (h : InW p N) : ∃ F T ch size n : Nat, p = ⟨(ch : Int), ((8 * size : Nat) : Int), (F : Int), (T : Int)⟩ ∧ 1 ≤ ch ∧ ch ≤ 8 ∧ (size = 1 ∨ size = 2) ∧ F < T ∧ T ≤ N ∧ T - F = n * (ch * size) ∧ 1 ≤ n := by
  obtain ⟨a1, a2, a3, a4, a5, a6, a7, a8⟩ := h
  obtain ⟨ch, bits, fr, to⟩ := p
  simp only at *
  obtain ⟨size, hs, hb⟩ : ∃ size : Nat, (size = 1 ∨ size = 2) ∧ bits = ((8 * size : Nat) : Int) := by
    rcases a3 with rfl | rfl
    · exact ⟨1, .inl rfl, rfl⟩
    · exact ⟨2, .inr rfl, rfl⟩
  subst hb
  have hf : ch * ((8 * size : Nat) : Int) / 8 = ((ch.toNat * size : Nat) : Int) := by
    rcases hs with rfl | rfl
    · show ch * 8 / 8 = ((ch.toNat * 1 : Nat) : Int); omega
    · show ch * 16 / 8 = ((ch.toNat * 2 : Nat) : Int); omega
  rw [hf] at a7
  have hd : to - fr = ((to.toNat - fr.toNat : Nat) : Int) := by omega
  rw [hd, ← Int.natCast_emod] at a7
  have h7 : (to.toNat - fr.toNat) % (ch.toNat * size) = 0 := by omega
  have h8 := Nat.div_add_mod (to.toNat - fr.toNat) (ch.toNat * size)
  rw [h7, Nat.add_zero, Nat.mul_comm] at h8
  have hn : 1 ≤ (to.toNat - fr.toNat) / (ch.toNat * size) := by
    refine Decidable.byContradiction fun hc => ?_
    rw [Nat.lt_one_iff.1 (Nat.lt_of_not_le hc), Nat.zero_mul] at h8
    omega
  refine ⟨fr.toNat, to.toNat, ch.toNat, size, (to.toNat - fr.toNat) / (ch.toNat * size), ?_, by omega, by omega, hs, by omega, by omega, h8.symm, hn⟩
  congr 1 <;> omega
def bodyP (r : List (Int × List Int)) : List Int := (r.map fun u => numB u.1.toNat ++ numB u.2.length ++ u.2).flatten
theorem bodyP_next {r : List (Int × List Int)} {k : Nat} (hk : k < r.length) : bodyP (r.take (k + 1)) = bodyP (r.take k) ++ numB r[k].1.toNat ++ (numB r[k].2.length ++ r[k].2) := by
  unfold bodyP
  rw [List.take_succ_eq_append_getElem hk, List.map_append, List.flatten_append]; simp
def nbsA (L : List Int) : List Int := (L.map fun y => numB y.toNat).flatten
theorem nbsA_next {L : List Int} {k : Nat} (hk : k < L.length) : nbsA (L.take (k + 1)) = nbsA (L.take k) ++ numB L[k].toNat := by
  unfold nbsA
  rw [List.take_succ_eq_append_getElem hk, List.map_append, List.flatten_append]; simp
theorem nbsA_len {L : List Int} (h : ∀ x ∈ L, 0 ≤ x ∧ x < 18446744073709551616) : (nbsA L).length ≤ L.length * 10 := by
  induction L with
  | nil => simp [nbsA]
  | cons y L ih =>
    have h1 := ih fun x hx => h x (List.mem_cons_of_mem _ hx)
    have h2 := h y List.mem_cons_self
    have h3 : (numB y.toNat).length ≤ 10 := numB_len64 (by omega)
    have h4 : nbsA (y :: L) = numB y.toNat ++ nbsA L := rfl
    rw [h4, List.length_append, List.length_cons]; omega
noncomputable def packA (xs : List Int) : List Int × Bool :=
  if (parseW xs).2 = true ∧ xs.length ≤ 1048576 then
    let p := (parseW xs).1
    let F := p.fr.toNat
    let T := p.to.toNat
    let ch := p.ch.toNat
    let size := (p.bits / 8).toNat
    let r := allI (splitN ((xs.drop F).take (T - F)) ch size ((T - F) / (ch * size) * ch))
    (nbsA [(xs.length : Int), p.fr, p.to, p.ch, p.bits] ++ numB (if r.2 = true then 1 else 0) ++ (xs.take F ++ xs.drop T) ++ bodyP r.1, true)
  else ([], false)
section
variable {w0 w : World} {F : List It}
theorem Fr.rot {x : It} : ∀ {G : List It}, Fr w0 w (G ++ [x]) → Fr w0 w (x :: G)
  | [], h => h
  | g :: G, h => by
    have h1 : Fr w0 w (G ++ [x]) := h.2.2.2
    have ih := Fr.rot h1
    refine ⟨ih.1, ih.2.1, fun jt hj k hk => ?_, ⟨h.1, h.2.1, fun jt hj => h.2.2.1 jt (List.mem_append_left _ hj), ih.2.2.2⟩⟩
    rcases List.mem_cons.1 hj with rfl | hj
    · exact fun hg => h.2.2.1 x (List.mem_append_right _ (List.mem_singleton.2 rfl)) k hg hk
    · exact ih.2.2.1 jt hj k hk
theorem splitN_mem {xs : List Int} {ch size n : Nat} {ys : List Int} (h : ys ∈ splitN xs ch size (n * ch)) : ys.length = n := by
  unfold splitN at h
  obtain ⟨k, hk, rfl⟩ := List.mem_map.1 h
  unfold trackN
  rw [tab_len, cntT_all (List.mem_range.1 hk)]
theorem aPack_any {b : Value} {xs : List Int} (hb : Nm .u8 w b xs) (hl : xs.length ≤ 1000000000) : Calls P n_audio_Pack #[b] w (TupB w (packA xs)) := by
  refine of_audio_Pack (gCall_wav (wvParse_any hb hl) fun w1 h1 => fWvNew ((Fr.start w).ev h1) fun w4 w2 f2 => fWvSet f2 0 rfl rfl fun w3 f3 => ?_)
  have f3 : Fr w w3 [sIt w4 (parseW xs).1.c] := f3
  have nope : ¬ ((parseW xs).2 = true ∧ xs.length ≤ 1048576) → TupB w (packA xs) (.returned (.tuple #[.slice none 0 0, .bool false])) w3 := fun hn => by
    unfold packA; rw [if_neg hn]
    exact ⟨_, rfl, f3.old, ON.nil _ _ _ _⟩
  refine ⟨fun w' => ((parseW xs).2 = true ∧ xs.length ≤ 1048576) ∧ w' = w3, gIf_nnb (fun ht => gLen_nm (hb.ev f3.old) (gIf_dec (fun hgt => nope (by omega)) (fun hle => ⟨⟨ht, by omega⟩, rfl⟩))) (fun hf => nope (by rw [hf]; simp)), ?_⟩
  rintro _ w4' ⟨⟨ht, hle⟩, hw4⟩
  obtain rfl : w3 = w4' := hw4.symm
  obtain ⟨Fn, T, ch, size, n, hp, c1, c8, hs, hFT, hTN, hn, hn1⟩ := inW_nat (parseW_in ht)
  obtain ⟨p, hpe⟩ : ∃ p, p = (parseW xs).1 := ⟨_, rfl⟩
  rw [← hpe] at hp f3
  have hpk : packA xs = (nbsA [(xs.length : Int), (Fn : Int), (T : Int), (ch : Int), ((8 * size : Nat) : Int)] ++ numB (if (allI (splitN ((xs.drop Fn).take (T - Fn)) ch size (n * ch))).2 = true then 1 else 0) ++ (xs.take Fn ++ xs.drop T) ++ bodyP (allI (splitN ((xs.drop Fn).take (T - Fn)) ch size (n * ch))).1, true) := by
    unfold packA
    rw [if_pos ⟨ht, hle⟩, ← hpe, hp]
    dsimp only
    have e1 : (((8 * size : Nat) : Int) / 8).toNat = size := by omega
    have e2 : (T - Fn) / (ch * size) = n := by rw [hn, Nat.mul_div_cancel _ (Nat.mul_pos (by omega) (by omega))]
    simp only [Int.toNat_natCast, e1, e2]
  rw [hpk]
  rw [hp] at f3
  have hch : 1 ≤ ch * size := Nat.mul_le_mul c1 (show 1 ≤ size by omega)
  have hnT : n ≤ T - Fn := by rw [hn]; exact Nat.le_mul_of_pos_right _ hch
  obtain ⟨cc, hcc⟩ : ∃ cc, cc = (Wv.mk (ch : Int) ((8 * size : Nat) : Int) (Fn : Int) (T : Int)).c := ⟨_, rfl⟩
  rw [← hcc] at f3
  have cj : cc[0]? = some (.int .i64 (ch : Int)) ∧ cc[1]? = some (.int .i64 ((8 * size : Nat) : Int)) ∧ cc[2]? = some (.int .i64 (Fn : Int)) ∧ cc[3]? = some (.int .i64 (T : Int)) := by rw [hcc]; exact ⟨rfl, rfl, rfl, rfl⟩
  obtain ⟨cj0, cj1, cj2, cj3⟩ := cj
  have hB : ∀ {w' : World} {F' : List It} (i : Nat), Fr w w' F' → F'[i]? = some (sIt w4 cc) → ∀ (j : Nat) (u : Value), cc[j]? = some u → w'.cell? (w4.add j) = some u := fun i f hi j u hj => f.cell i j hi hj
  refine ⟨fun w' => ∀ (j : Nat) (u : Value), cc[j]? = some u → w'.cell? (w4.add j) = some u, hB 0 f3.drew rfl, gLoadB_i (fun w' hw => hw 2 _ cj2) (gLoadB_i (fun w' hw => hw 3 _ cj3) (gSlice_nm (hb.ev f3.drew.old) Fn T (.inr ⟨_, rfl⟩) (.inr ⟨_, rfl⟩) (by omega) hTN fun hsl => gLoadB_i (fun w' hw => hw 0 _ cj0) (gLoadB_i (fun w' hw => hw 1 _ cj1) ?_)))⟩
  obtain ⟨xss, hxs⟩ : ∃ xss, xss = splitN ((xs.drop Fn).take (T - Fn)) ch size (n * ch) := ⟨_, rfl⟩
  have hxm : ∀ ys ∈ xss, ys.length = n := fun ys h => splitN_mem (hxs ▸ h)
  have hxl : xss.length = ch := by rw [hxs, splitN_len]
  refine gCall_of (Split_any (n := n) hsl c1 c8 hs (by rw [List.length_take, List.length_drop]; omega) (by rw [List.length_take, List.length_drop]; omega)) ?_
  rintro _ w5 ⟨v5, T5, rfl, hT5, g5⟩
  rw [← hxs] at hT5 ⊢
  have f5 := f3.drew.ev g5.old
  refine ⟨_, _, rfl, hB 0 f5 rfl, gIf_neq (fun h => (h rfl).elim) (fun _ => ?_)⟩
  have hT5l : T5.length = ch := by have := congrArg List.length hT5; rw [List.length_map] at this; omega
  have hu5 : ∀ (i : Nat) (u : Value) (ys : List Int), (T5.map (·.1))[i]? = some u → xss[i]? = some ys → Nm .i32 w5 u ys := fun i u ys h1 h2 => by
    rw [List.getElem?_map] at h1
    rw [← hT5, List.getElem?_map] at h2
    cases ht : T5[i]? with
    | none => rw [ht] at h1; cases h1
    | some t =>
      rw [ht] at h1 h2
      simp at h1 h2
      subst h1; subst h2
      exact g5.nm (i + 1) (by unfold trF; rw [List.getElem?_cons_succ, List.getElem?_map, ht]; rfl)
  refine gCall_of (all_any (us := T5.map (·.1)) (xss := xss) (by rw [List.length_map]; exact g5.row 0 rfl) (by rw [List.length_map]; omega) hu5 (by rw [List.length_map]; omega) (fun ys h he => by have := hxm ys h; rw [he] at this; simp at this; omega) (fun ys h => by have := hxm ys h; omega) (fun ys h zs h2 => by rw [hxm ys h, hxm zs h2])) ?_
  rintro _ w6 ⟨v6, Q, rfl, hQ, g6⟩
  have f6 := (f5.glue g6).rot
  obtain ⟨r, hr⟩ : ∃ r, r = allI xss := ⟨_, rfl⟩
  rw [← hr] at hQ ⊢
  have hQl : Q.length ≤ 8 := by
    have h1 := congrArg List.length hQ
    rw [List.length_map] at h1
    have h2 : r.1.length ≤ 8 := by
      rw [hr]; unfold allI
      split
      · simp; omega
      · split
        · simp
        · simp; omega
    omega
  have hlx : ∀ ys : List Int, ys.length ≤ 1048576 → (pkT ys).2.length ≤ 10000000 := fun ys h => by have := pkT_len h; omega
  have hrl : ∀ u ∈ r.1, 0 ≤ u.1 ∧ u.1 ≤ 4 ∧ u.2.length ≤ 10000000 := fun u hu => by
    have key : ∃ ys : List Int, ys.length ≤ 1048576 ∧ u = pkT ys := by
      rw [hr] at hu
      unfold allI at hu
      have hmap : u ∈ xss.map pkT → ∃ ys : List Int, ys.length ≤ 1048576 ∧ u = pkT ys := fun h => by
        obtain ⟨ys, h1, rfl⟩ := List.mem_map.1 h
        exact ⟨ys, by have := hxm ys h1; omega, rfl⟩
      have hgd : (xss.getD 0 []).length ≤ 1048576 := by
        rw [List.getD_eq_getElem?_getD]
        cases h : xss[0]? with
        | none => simp
        | some ys => have := hxm ys (List.mem_of_getElem? h); simp; omega
      split at hu
      · exact hmap hu
      · split at hu
        · simp only [List.mem_cons, List.not_mem_nil, or_false] at hu
          rcases hu with rfl | rfl
          · exact ⟨_, by unfold midL; rw [tab_len]; exact hgd, rfl⟩
          · exact ⟨_, by unfold sideL; rw [tab_len]; exact hgd, rfl⟩
        · exact hmap hu
    obtain ⟨ys, h1, rfl⟩ := key
    have := pkT_kind (l := ys)
    exact ⟨this.1, this.2.1, hlx ys h1⟩
  refine ⟨_, _, rfl, fNewW f6 fun o10 v7 w7 f7 => gLen_nm (hb.ev f7.old) (fLoad_i (n := (Fn : Int)) f7 1 2 rfl cj2 (fLoad_i (n := (T : Int)) f7 1 3 rfl cj3 (fLoad_i (n := (ch : Int)) f7 1 0 rfl cj0 (fLoad_i (n := ((8 * size : Nat) : Int)) f7 1 1 rfl cj1 ?_))))⟩
  obtain ⟨L, hL⟩ : ∃ L : List Int, L = [(xs.length : Int), (Fn : Int), (T : Int), (ch : Int), ((8 * size : Nat) : Int)] := ⟨_, rfl⟩
  have hLr : ∀ x ∈ L, 0 ≤ x ∧ x < 9223372036854775807 := fun x hx => by
    rw [hL] at hx
    simp only [List.mem_cons, List.not_mem_nil, or_false] at hx
    rcases hx with rfl | rfl | rfl | rfl | rfl <;> omega
  have hL5 : L.length = 5 := by rw [hL]; rfl
  have hLi : inR .i64 L := fun x hx => by
    have h1 : IntKind.i64.min = -9223372036854775808 := by decide
    have h2 : IntKind.i64.max = 9223372036854775807 := by decide
    have := hLr x hx
    rw [h1, h2]; omega
  refine fLit_n L f7 (by rw [hL]; rfl) hL5 hLi fun t58 w8 f8 => gLen_nm (f8.nm 0 rfl) ?_
  rw [hL5, ← hL]
  have hnl : ∀ k, (nbsA (L.take k)).length ≤ 50 := fun k => by
    have h1 := nbsA_len (L := L.take k) fun x hx => by have := hLr x (List.mem_of_mem_take hx); omega
    have h2 : (L.take k).length ≤ 5 := by rw [List.length_take]; omega
    omega
  have f8 : Fr w w8 (oIt .i64 (elOf P t_sl_int) t58 L :: wIt eB o10 v7 [] :: sIt w4 cc :: pkF v6 Q) := f8
  refine ⟨fun i w' => ∃ (k : Nat) (v : Value), i = (k : Int) ∧ k ≤ 5 ∧ Fr w w' (oIt .i64 (elOf P t_sl_int) t58 L :: wIt eB o10 v (nbsA (L.take k)) :: sIt w4 cc :: pkF v6 Q), fun i _ => (5 - i).toNat, ⟨0, v7, rfl, by omega, f8⟩, ?_⟩
  rintro _ i w9 ⟨k, v9, rfl, hk, f9⟩
  refine gIf_dec (fun hlt => ?_) (fun hge => ?_)
  · have hk5 : k < L.length := by omega
    have hrk := hLr L[k] (List.getElem_mem hk5)
    refine gGet (f9.nm 0 rfl) (by omega) (by omega) ?_
    rw [rd_nat L k hk5, show u64 L[k] = L[k] by rw [u64_def]; omega]
    have hk1 := hnl k
    refine fNum f9 1 rfl (by omega) (by omega) fun v' w' f' => ⟨⟨k + 1, v', by rw [i64_id (by omega) (by omega)]; omega, by omega, ?_⟩, by dsimp only; rw [i64_id (by omega) (by omega)]; omega⟩
    rw [nbsA_next hk5]; exact f'
  obtain rfl : k = 5 := by omega
  have hk5 := hnl 5
  rw [List.take_of_length_le (by omega)] at f9 hk5
  obtain ⟨fl, hfl⟩ : ∃ fl : Nat, fl = if r.2 = true then 1 else 0 := ⟨_, rfl⟩
  rw [← hfl]
  have hfl1 : (numB fl).length ≤ 10 := numB_len64 (by rw [hfl]; split <;> omega)
  refine ⟨fun w' => ∃ v : Value, Fr w w' (oIt .i64 (elOf P t_sl_int) t58 L :: wIt eB o10 v (nbsA L ++ numB fl) :: sIt w4 cc :: pkF v6 Q), gIf_b (fun h => ?_) (fun h => ?_), ?_⟩
  · rw [h, if_pos rfl] at hfl
    subst hfl
    exact fNum f9 1 rfl (by decide) (by omega) fun v' w' f' => ⟨v', f'⟩
  · rw [h, if_neg (by decide)] at hfl
    subst hfl
    exact fNum f9 1 rfl (by decide) (by omega) fun v' w' f' => ⟨v', f'⟩
  rintro _ w13 ⟨v13, f13⟩
  refine ⟨fun w' => ∀ (j : Nat) (u : Value), cc[j]? = some u → w'.cell? (w4.add j) = some u, hB 2 f13.drew rfl, gLoadB_i (fun w' hw => hw 2 _ cj2) (gSlice_nm (hb.ev f13.drew.old) 0 Fn (.inl ⟨rfl, rfl⟩) (.inr ⟨_, rfl⟩) (Nat.zero_le _) (by omega) fun hs1 => gLoadB_i (fun w' hw => hw 3 _ cj3) (gSlice_nm (hb.ev f13.drew.old) T xs.length (.inr ⟨_, rfl⟩) (.inl ⟨rfl, rfl⟩) hTN (Nat.le_refl _) fun hs2 => ?_))⟩
  have hbn : ∀ {w'}, Ev w w' → Nm .u8 w' (subV 1 b 0 Fn) (xs.take Fn) ∧ Nm .u8 w' (subV 1 b T xs.length) (xs.drop T) := fun he => by
    have h1 := (hb.ev he).sub 0 Fn (Nat.zero_le _) (by omega)
    have h2 := (hb.ev he).sub T xs.length hTN (Nat.le_refl _)
    rw [Nat.sub_zero, List.drop_zero] at h1
    rw [List.take_of_length_le (by rw [List.length_drop]; exact Nat.le_refl _)] at h2
    exact ⟨h1, h2⟩
  refine fLitV [subV 1 b 0 Fn, subV 1 b T xs.length] f13.drew rfl rfl (fun v hv => by
    simp only [List.mem_cons, List.not_mem_nil, or_false] at hv
    rcases hv with rfl | rfl
    · exact (hbn f13.old).1.one
    · exact (hbn f13.old).2.one) fun t79 w14 f14 => ⟨hB 3 f14 rfl, ?_⟩
  have hfl2 : [xs.take Fn, xs.drop T].flatten = xs.take Fn ++ xs.drop T := by simp
  have hfl3 : (xs.take Fn ++ xs.drop T).length ≤ 1048576 := by rw [List.length_append, List.length_take, List.length_drop]; omega
  refine fRawW (yss := [xs.take Fn, xs.drop T]) f14 2 rfl (fun w' f' => NL.of (f'.sl 0 rfl) rfl fun j u ys hu hy => ?_) (by rw [hfl2, List.length_append]; omega) (by simp) fun v15 w15 f15 => ⟨hB 3 f15 rfl, ?_⟩
  · rcases j with _ | _ | j
    · simp at hu hy; subst hu; subst hy; exact (hbn f'.old).1
    · simp at hu hy; subst hu; subst hy; exact (hbn f'.old).2
    · simp at hu
  rw [hfl2] at f15
  obtain ⟨Hd, hHd⟩ : ∃ Hd, Hd = nbsA L ++ numB fl ++ (xs.take Fn ++ xs.drop T) := ⟨_, rfl⟩
  have hHdl : Hd.length ≤ 2000000 := by rw [hHd, List.length_append, List.length_append]; omega
  have f15 : Fr w w15 (lIt (elOf P t_sl_sl_uint8) t79 [subV 1 b 0 Fn, subV 1 b T xs.length] :: oIt .i64 (elOf P t_sl_int) t58 L :: wIt eB o10 v15 Hd :: sIt w4 cc :: pkF v6 Q) := by rw [hHd]; exact f15
  rw [← hHd]
  have hrQ : r.1.length = Q.length := by rw [← hQ, List.length_map]
  have hbl : ∀ k, k ≤ r.1.length → (bodyP (r.1.take k)).length ≤ k * 20000000 := by
    intro k
    induction k with
    | zero => intro _; simp [bodyP]
    | succ k ih =>
      intro hk
      have h1 := hrl r.1[k] (List.getElem_mem (by omega))
      have h2 : (numB r.1[k].1.toNat).length ≤ 10 := numB_len64 (by omega)
      have h3 : (numB r.1[k].2.length).length ≤ 10 := numB_len64 (by omega)
      have h4 := ih (by omega)
      rw [bodyP_next (by omega)]
      simp only [List.length_append]; omega
  refine gLen_slv (pk_at (f15.dropN 4)).1 ⟨fun i w' => ∃ (k : Nat) (v : Value), i = (k : Int) ∧ k ≤ Q.length ∧ Fr w w' (lIt (elOf P t_sl_sl_uint8) t79 [subV 1 b 0 Fn, subV 1 b T xs.length] :: oIt .i64 (elOf P t_sl_int) t58 L :: wIt eB o10 v (Hd ++ bodyP (r.1.take k)) :: sIt w4 cc :: pkF v6 Q), fun i _ => (Q.length - i).toNat, ⟨0, v15, rfl, Nat.zero_le _, by simpa [bodyP] using f15⟩, ?_⟩
  rintro _ i w16 ⟨k, v16, rfl, hk, f16⟩
  have hbk := hbl k (by omega)
  have hk8 : k * 20000000 ≤ 8 * 20000000 := Nat.mul_le_mul_right _ (by omega)
  refine gIf_dec (fun hlt => ?_) (fun hge => ?_)
  · have hkQ : k < Q.length := by omega
    have hkr : k < r.1.length := by omega
    have hu : Q[k]? = some Q[k] := List.getElem?_eq_getElem hkQ
    have hrk : r.1[k] = pkp Q[k] := by
      have h0 : (Q.map pkp)[k]'(by rw [List.length_map]; exact hkQ) = pkp Q[k] := List.getElem_map _
      rw [← h0]; simp only [hQ]
    have hr1 := hrl r.1[k] (List.getElem_mem hkr)
    rw [hrk] at hr1
    have hr1 : 0 ≤ Q[k].1 ∧ Q[k].1 ≤ 4 ∧ Q[k].2.2.length ≤ 10000000 := hr1
    have hnm : ∀ {w'}, Fr w w' (pkF v6 Q) → Nm .u8 w' Q[k].2.1 Q[k].2.2 := fun f => (pk_at f).2 _ (List.getElem_mem hkQ)
    refine gPk (pk_at (f16.dropN 4)).1 hu (fAlloc (z := .agg #[.int .i64 0, .slice none 0 0]) f16 (by kernel_rfl) fun p14 w17 f17 => fStoreA f17 0 rfl (fun w18 f18 => ?_) rfl (fun x hx => ?_))
    · have f18 : Fr w w18 (sIt p14 [.int .i64 Q[k].1, Q[k].2.1] :: lIt (elOf P t_sl_sl_uint8) t79 [subV 1 b 0 Fn, subV 1 b T xs.length] :: oIt .i64 (elOf P t_sl_int) t58 L :: wIt eB o10 v16 (Hd ++ bodyP (r.1.take k)) :: sIt w4 cc :: pkF v6 Q) := f18
      rw [Addr.add_zero']
      refine fLoad_i (n := Q[k].1) f18 0 0 rfl rfl ?_
      rw [show u64 Q[k].1 = Q[k].1 by rw [u64_def]; omega]
      have hnk : (numB Q[k].1.toNat).length ≤ 10 := numB_len64 (by omega)
      refine fNum f18 3 rfl (by omega) (by rw [List.length_append]; omega) fun v19 w19 f19 => fLoad_v f19 0 1 rfl rfl ?_
      refine fTextW (ys := Q[k].2.2) f19 3 rfl (fun w' f' => hnm (f'.dropN 4)) (by simp only [List.length_append]; omega) fun v20 w20 f20 => ⟨⟨k + 1, v20, by rw [i64_id (by omega) (by omega)]; omega, hkQ, ?_⟩, by dsimp only; rw [i64_id (by omega) (by omega)]; omega⟩
      have e : Hd ++ bodyP (r.1.take (k + 1)) = Hd ++ bodyP (r.1.take k) ++ numB Q[k].1.toNat ++ numB Q[k].2.2.length ++ Q[k].2.2 := by
        rw [bodyP_next hkr, hrk]; simp [pkp]
      rw [e]
      exact f20.drop 0
    · simp at hx
      rcases hx with rfl | rfl
      · rfl
      · obtain ⟨a, c, he, _⟩ := (hnm (f16.dropN 4)).shape
        rw [he]; rfl
  · obtain rfl : k = Q.length := by omega
    rw [← hrQ, List.take_length] at f16 hbk
    refine fBytesW f16 2 rfl (by rw [List.length_append]; omega) fun y w21 f21 => ⟨y, rfl, f21.old, f21.on 0 rfl⟩
end
end Go.Proofs.YtilpoinhfiajcaaGreatDoorV

/- Package num: what is written is read; the laws NumNil and NumBack. -/
namespace Go.Proofs.YtilpoinhfiajcaaGreatDoorV
open Go Go.RowKit

/-! ### Laws -/
/-- A writer in memory that is new since w0. -/
def FWr (w0 w : World) (ad : Addr) (xs : List Int) : Prop := ∃ v, W1 w ad v xs ∧ Ev w0 w ∧ w0.heap.size ≤ ad.block ∧ ∀ g, v.ownBlock = some g → w0.heap.size ≤ g
theorem FWr.to {w0 w w' : World} {ad : Addr} {v : Value} {ys : List Int} (h1 : Ev w0 w) (h2 : w0.heap.size ≤ ad.block) (h3 : ∀ g, v.ownBlock = some g → w0.heap.size ≤ g) (h : ∃ v', WS w w' ad v v' ys) : FWr w0 w' ad ys := by
  obtain ⟨v', hW⟩ := h
  have := WrS.evn h1 hW h2 h3
  exact ⟨v', hW.1, this.1, h2, this.2⟩
theorem FWr.ev {w0 w w' : World} {ad : Addr} {xs : List Int} (h : FWr w0 w ad xs) (he : Ev w w') : FWr w0 w' ad xs := by
  obtain ⟨v, h1, h2, h3, h4⟩ := h; exact ⟨v, h1.ev he, h2.trans he, h3, h4⟩
theorem newW {w0 w : World} {K : Addr → World → Prop} (h0 : Ev w0 w) (hk : ∀ ad w', FWr w0 w' ad [] → K ad w') : gAlloc P t_num_Writer w K :=
  gAlloc_of (z := .agg #[.slice none 0 0]) (by kernel_rfl) fun ad w' h1 had hs hS => hk ad w' ⟨.slice none 0 0, ⟨hS, ON.nil _ _ _ _, fun h => by cases h⟩, h0.trans h1, by rw [had]; exact h0.size, fun g hg => by cases hg⟩
theorem lNum {w0 w : World} {ad : Addr} {xs : List Int} {n : Int} {K : World → Prop} (h : FWr w0 w ad xs) (hn : 0 ≤ n ∧ n < 18446744073709551616) (hl : xs.length + 10 ≤ 10000000000) (hk : ∀ w', FWr w0 w' ad (xs ++ numB n.toNat) → K w') : gCall P n_num_Writer_Num shU #[.pointer (some ad), .int .u64 n] w K := by
  obtain ⟨v, h1, h2, h3, h4⟩ := h; exact gCall_u (Num_any h1 hn hl) fun w' hw => hk w' (FWr.to h2 h3 h4 hw)
theorem lBytes {w0 w : World} {ad : Addr} {xs : List Int} {K : Value → World → Prop} (h : FWr w0 w ad xs) (hl : xs.length ≤ 10000000000) (hk : ∀ y w', Ev w w' → ON .u8 eB w' w.heap.size y xs → K y w') : gCall P n_num_Writer_Bytes shV #[.pointer (some ad)] w K := by
  obtain ⟨v, h1, h2, h3, h4⟩ := h; exact gCall_v (Bytes_W h1 hl) fun y w' hw => hk y w' hw.1 hw.2
end Go.Proofs.YtilpoinhfiajcaaGreatDoorV

/- Six numbers ahead, and what is read of them: plain. -/
namespace Go.Proofs.YtilpoinhfiajcaaGreatDoorV
open Go Go.RowKit
def numsB (qs : List Nat) : List Int := (qs.map numB).flatten
theorem numsB_snoc (qs : List Nat) (q : Nat) : numsB (qs ++ [q]) = numsB qs ++ numB q := by simp [numsB]
end Go.Proofs.YtilpoinhfiajcaaGreatDoorV

/- Package audio: the measures, read. -/
namespace Go.Proofs.YtilpoinhfiajcaaGreatDoorV
open Go Go.RowKit
section
variable {w0 w : World} {G : List It} {ad : Addr} {y : Value} {xs : List Int}
end
end Go.Proofs.YtilpoinhfiajcaaGreatDoorV

/- Package audio: what Unpack answers (plain); tracks that are put behind one another. -/
namespace Go.Proofs.YtilpoinhfiajcaaGreatDoorV
open Go Go.RowKit
section
variable {w0 w : World} {F : List It}
end
end Go.Proofs.YtilpoinhfiajcaaGreatDoorV

/- Package audio: Unpack. -/
namespace Go.Proofs.YtilpoinhfiajcaaGreatDoorV
open Go Go.RowKit
section
variable {w0 w : World} {F : List It}
end
end Go.Proofs.YtilpoinhfiajcaaGreatDoorV

/- Package audio: Unpack. -/
namespace Go.Proofs.YtilpoinhfiajcaaGreatDoorV
open Go Go.RowKit
section
variable {w : World}
end
end Go.Proofs.YtilpoinhfiajcaaGreatDoorV

/- What Unpack answers, of any bytes. -/
namespace Go.Proofs.YtilpoinhfiajcaaGreatDoorV
open Go Go.RowKit
end Go.Proofs.YtilpoinhfiajcaaGreatDoorV

/- The document's answer: where a WAV's samples are. -/
namespace Go.Proofs.YtilpoinhfiajcaaGreatDoorV
open Go Go.RowKit
section
variable {w : World} {xs : List Int} {b : Value}
end
end Go.Proofs.YtilpoinhfiajcaaGreatDoorV

/- The document's answer: a file of samples. -/
namespace Go.Proofs.YtilpoinhfiajcaaGreatDoorV
open Go Go.RowKit
section
variable {w0 w : World} {F : List It}
end
end Go.Proofs.YtilpoinhfiajcaaGreatDoorV

/- Packages valiseref01 (the writer) and valiseref10: what their calls do. -/
namespace Go.Proofs.YtilpoinhfiajcaaGreatDoorV
open Go Go.RowKit
/-! ### valiseref01: a list of zeros and ones -/
section
variable {ad : Addr} {v : Value} {bs : List Int} {w : World}
end
/-! ### valiseref10 -/
theorem B01.flat (l : List Int) {j : Nat} (h : j ≤ chN 64 l.length) : B01 (flatB l (List.range j)) := by rw [flatB_range l j h]; exact B01.pack _ _
end Go.Proofs.YtilpoinhfiajcaaGreatDoorV

/- Package valisehelp: Own, Kept, Plain, Same of @T@. -/
namespace Go.Proofs.YtilpoinhfiajcaaGreatDoorV
open Go Go.RowKit
theorem Own_byte_on {l : Value} {xs : List Int} {f : Int} {w : World} (h : Nm .u8 w l xs) (hl : xs.length ≤ 1000000000) (hf : IntKind.u8.min ≤ f ∧ f ≤ IntKind.u8.max) :
    Calls P n_valisehelp_Own_byte #[l, .int .u8 f] w (fun e w' => ∃ v, e = .returned v ∧ Ev w w' ∧ Owd .u8 w' v xs f ∧ ON .u8 (elOf P t_sl_uint8) w' w.heap.size v xs) := by
  refine of_valisehelp_Own_byte (gLen_nm h ?_)
  rw [show i64 ((xs.length : Int) + 3) = ((xs.length + 3 : Nat) : Int) from i64_id (by omega) (by omega)]
  refine gMake_cap (k := .u8) (by omega) fun w1 h1 hs1 hF => ?_
  generalize hg : w.heap.size = g at *
  have hz : (List.replicate (xs.length + 3) (0 : Int)).length = xs.length + 3 := by simp
  refine gApp_room (n := 0) hF hz (h.ev h1) (by omega) fun w2 h2 hs2 hF2 => gLen_nm h ?_
  rw [show i64 ((xs.length : Int) + 3) = ((xs.length + 3 : Nat) : Int) from i64_id (by omega) (by omega), Nat.zero_add]
  rw [Nat.zero_add] at hF2
  have e0 : List.replicate (xs.length + 3) (0 : Int) = List.replicate xs.length 0 ++ [0, 0, 0] := List.replicate_append_replicate.symm
  have eF : List.take 0 (List.replicate (xs.length + 3) (0 : Int)) ++ xs ++ List.drop xs.length (List.replicate (xs.length + 3) 0) = xs ++ [0, 0, 0] := by
    rw [e0, List.drop_append_of_le_length (by simp), List.drop_of_length_le (by simp)]; simp
  rw [eF] at hF2
  refine gSlice_any (sz := 1) (l := 0) (h := xs.length + 3) (.inl ⟨rfl, rfl⟩) (.inr ⟨_, rfl⟩) (by omega) (by omega) ?_ (by kernel_rfl)
  rw [subV_z (by omega)]
  have hO := hF2.on (xs.length + 3) (by simp)
  rw [List.take_of_length_le (by simp)] at hO
  have e2 : (xs ++ [(0 : Int), 0, 0]).length = xs.length + 3 := by simp
  rw [e2] at hO
  have hev : Ev w w2 := h1.new h2 fun n i hh => by rw [hh]; omega
  refine gLen_nm h ⟨fun i w3 => ∃ j : Nat, i = ((xs.length + j : Nat) : Int) ∧ j ≤ 3 ∧ Ev w w3 ∧ ON .u8 (elOf P t_sl_uint8) w3 g (.slice (some ⟨g, 0, none⟩) (xs.length + 3) (xs.length + 3)) (xs ++ (List.replicate j f ++ List.replicate (3 - j) 0)), fun i _ => xs.length + 3 - i.toNat, ⟨0, by omega, by omega, hev, hO⟩, ?_⟩
  rintro _ i w3 ⟨j, rfl, hj, h3, hO3⟩
  have hln : (xs ++ (List.replicate j f ++ List.replicate (3 - j) (0 : Int))).length = xs.length + 3 := by simp; omega
  refine gLen_nm hO3.nm (gIf_dec (fun hlt => ?_) (fun hge => ?_))
  · rw [hln] at hlt
    refine gIdx_on hO3 (by omega) (by rw [hln]; omega) fun ad hs _ => gStore_on hO3 hs (by omega) (by rw [hln]; omega) hf fun w4 h4 _ hO4 => ?_
    rw [show i64 (((xs.length + j : Nat) : Int) + 1) = ((xs.length + (j + 1) : Nat) : Int) by rw [i64_id (by omega) (by omega)]; omega]
    refine ⟨⟨j + 1, rfl, by omega, h3.new h4 fun n i hh => ?_, ?_⟩, by dsimp only; omega⟩
    · have : n = g := by simpa [Value.ownBlock] using hh.symm
      omega
    · have e3 : (xs ++ (List.replicate j f ++ List.replicate (3 - j) (0 : Int))).set (xs.length + j) f = xs ++ (List.replicate (j + 1) f ++ List.replicate (3 - (j + 1)) 0) := by
        rw [List.set_append_right _ _ (by omega), show xs.length + j - xs.length = j by omega, List.set_append_right _ _ (by simp), List.length_replicate, Nat.sub_self, show 3 - j = (3 - (j + 1)) + 1 by omega, List.replicate_succ, List.set_cons_zero, List.replicate_succ']
        simp
      rw [Int.toNat_natCast, e3] at hO4
      exact hO4
  · rw [hln] at hge
    obtain rfl : j = 3 := by omega
    refine ⟨_, rfl, h3, ⟨some ⟨g, 0, none⟩, xs.length + 3, rfl, Nat.le_refl _, hO3.nm⟩, ?_⟩
    have := hO3.pre xs.length (by omega)
    rw [List.take_left] at this
    exact this
theorem Own_byte_any {l : Value} {xs : List Int} {f : Int} {w : World} (h : Nm .u8 w l xs) (hl : xs.length ≤ 1000000000) (hf : IntKind.u8.min ≤ f ∧ f ≤ IntKind.u8.max) :
    Calls P n_valisehelp_Own_byte #[l, .int .u8 f] w (fun e w' => ∃ v, e = .returned v ∧ Ev w w' ∧ Owd .u8 w' v xs f) :=
  (Own_byte_on h hl hf).mono fun _ _ ⟨v, h1, h2, h3, _⟩ => ⟨v, h1, h2, h3⟩
theorem Same_byte_any {a b : Value} {xs ys : List Int} {w : World} (ha : Nm .u8 w a xs) (hb : Nm .u8 w b ys) (hl : xs.length ≤ 1000000000) :
    Calls P n_valisehelp_Same_byte #[a, b, .func (.func n_valisehelp_Plain_byte_1) #[] #[]] w (fun e w' => e = .returned (.bool (decide (xs = ys))) ∧ Ev w w') := by
  refine of_valisehelp_Same_byte (gLen_nm ha (gLen_nm hb (gIf_neq (fun hne => ⟨by rw [decide_eq_false fun h => hne (by rw [h])], Ch.refl _ w⟩) (fun heq => ?_))))
  have hle : xs.length = ys.length := by omega
  refine ⟨fun i w' => ∃ j : Nat, i = j ∧ j ≤ xs.length ∧ (∀ q, q < j → rd xs q = rd ys q) ∧ Ev w w', fun i _ => xs.length - i.toNat, ⟨0, rfl, by omega, by omega, Ch.refl _ w⟩, ?_⟩
  rintro _ i w1 ⟨j, rfl, hj, hq, h1⟩
  refine gLen_nm ha (gIf_dec (fun hlt => ?_) (fun hge => ⟨?_, h1⟩))
  · refine ⟨fun w' => w' = w1.drew, rfl, gIdx_nm (ha.ev h1) (by omega) (by omega) fun a1 c1 _ => gLoadB_i (at1 c1) (gIdx_nm (hb.ev h1) (by omega) (by omega) fun a2 c2 _ => gLoadB_i (at1 c2) (gCallV_of rfl (by kernel_rfl) (of_valisehelp_Plain_byte_1 (R := fun e w' => e = .returned (.bool (rd xs j == rd ys j)) ∧ w' = w1.drew) ⟨rfl, rfl⟩) ?_))⟩
    rintro _ _ ⟨rfl, rfl⟩
    refine ⟨_, rfl, rfl, ?_⟩
    refine gIf_neqq (fun hne => ⟨?_, h1.drew⟩) (fun he => ?_)
    · rw [decide_eq_false fun h => hne (by rw [h])]
    · rw [i64_id (n := (j : Int) + 1) (by omega) (by omega)]
      refine ⟨⟨j + 1, by omega, by omega, fun q hq' => ?_, h1.drew⟩, by dsimp only; omega⟩
      rcases Nat.lt_or_ge q j with h | h
      · exact hq q h
      · have : q = j := by omega
        subst this; exact he
  · rw [decide_eq_true]
    refine List.ext_getElem hle fun q h1 h2 => ?_
    rw [← rd_nat xs q h1, ← rd_nat ys q h2]; exact hq q (by omega)
theorem Plain_byte_any {a b : Value} {xs ys : List Int} {w : World} (ha : Nm .u8 w a xs) (hb : Nm .u8 w b ys) (hl : xs.length ≤ 1000000000) :
    Calls P n_valisehelp_Plain_byte #[a, b] w (fun e w' => e = .returned (.bool (decide (xs = ys))) ∧ Ev w w') :=
  of_valisehelp_Plain_byte (gCall_of (Same_byte_any ha hb hl) fun _ _ ⟨h1, h2⟩ => ⟨_, h1, rfl, h2⟩)
theorem Kept_byte_any {o l : Value} {xs : List Int} {f : Int} {w : World} (ho : Owd .u8 w o xs f) (h : Nm .u8 w l xs) (hl : xs.length ≤ 1000000000) :
    Calls P n_valisehelp_Kept_byte #[o, l, .int .u8 f] w (fun e w' => e = .returned (.bool true) ∧ Ev w w') := by
  have hn := ho.nm
  obtain ⟨a, c, rfl, hc, hN⟩ := ho
  have e3 : i64 ((xs.length : Int) + 3) = ((xs.length + 3 : Nat) : Int) := i64_id (by omega) (by omega)
  refine of_valisehelp_Kept_byte ⟨fun w' => Ev w w', gCall_of (Plain_byte_any hn h hl) ?_, ?_⟩
  · rintro _ w1 ⟨rfl, h1⟩
    refine ⟨_, rfl, ?_⟩
    rw [decide_eq_true rfl]
    refine gIf_nn (gCap_sl (gLen_nm h ?_))
    rw [e3]
    exact gIf_dec (fun hlt => by omega) (fun _ => h1)
  · rintro _ w2 h2
    refine gLen_nm h ?_
    rw [e3]
    refine gSlice_any (sz := 1) (l := 0) (h := xs.length + 3) (.inl ⟨rfl, rfl⟩) (.inr ⟨_, rfl⟩) (by omega) hc ?_ (by kernel_rfl)
    rw [subV_z (by omega)]
    have hN2 := hN.ev h2
    have hln : (xs ++ [f, f, f]).length = xs.length + 3 := by simp
    refine gLen_nm h ⟨fun i w3 => ∃ j : Nat, i = ((xs.length + j : Nat) : Int) ∧ j ≤ 3 ∧ w3 = w2, fun i _ => xs.length + 3 - i.toNat, ⟨0, by omega, by omega, rfl⟩, ?_⟩
    rintro _ i _ ⟨j, rfl, hj, rfl⟩
    refine gLen_nm hN2 (gIf_dec (fun hlt => ?_) (fun hge => ⟨rfl, h2⟩))
    rw [hln] at hlt
    refine gIdx_nm hN2 (by omega) (by rw [hln]; omega) fun ad c1 _ => gLoad_i c1 (gIf_neq (fun hne => (hne ?_).elim) (fun _ => ?_))
    · rw [rd, Int.toNat_natCast, List.getD_eq_getElem?_getD, List.getElem?_append_right (by omega), show xs.length + j - xs.length = j by omega]
      have : j = 0 ∨ j = 1 ∨ j = 2 := by omega
      rcases this with rfl | rfl | rfl <;> rfl
    · rw [show i64 (((xs.length + j : Nat) : Int) + 1) = ((xs.length + (j + 1) : Nat) : Int) by rw [i64_id (by omega) (by omega)]; omega]
      exact ⟨⟨j + 1, rfl, by omega, rfl⟩, by dsimp only; omega⟩
end Go.Proofs.YtilpoinhfiajcaaGreatDoorV

/- Package valisehelp: Own, Kept, Plain, Same of int32. -/
namespace Go.Proofs.YtilpoinhfiajcaaGreatDoorV
open Go Go.RowKit
end Go.Proofs.YtilpoinhfiajcaaGreatDoorV

/- The laws of rice. -/
namespace Go.Proofs.YtilpoinhfiajcaaGreatDoorV
open Go Go.RowKit
section
variable {w0 w : World} {F : List It} {f : FuncId} {args : Array Value}
end
theorem hasAt.more {xs bs : List Int} (ys : List Int) (h : hasAt xs 0 bs) : hasAt (xs ++ ys) 0 bs := by
  obtain ⟨h1, h2⟩ := h
  refine ⟨by rw [List.length_append]; omega, fun k hk => ?_⟩
  rw [← h2 k hk]
  unfold bitAt
  rw [rd_app, if_pos (by omega)]
end Go.Proofs.YtilpoinhfiajcaaGreatDoorV

/- The law AudioTotal. -/
namespace Go.Proofs.YtilpoinhfiajcaaGreatDoorV
open Go Go.RowKit
section
variable {w : World}
end
end Go.Proofs.YtilpoinhfiajcaaGreatDoorV

/- Package filter: what its functions compute, first part. -/
namespace Go.Proofs.YtilpoinhfiajcaaGreatDoorV
open Go Go.RowKit

def ofL (l : List Int) (i : Int) : Int := if i < 0 ∨ i ≥ l.length then 0 else rd l i
theorem ofL_u8 {l : List Int} (h : inR .u8 l) (i : Int) : 0 ≤ ofL l i ∧ ofL l i < 256 := by
  unfold ofL; split
  · omega
  · exact rd_u8 h i
def farI (a b : Int) : Int := if b - a > a - b then b - a else a - b
def paethI (a b c : Int) : Int :=
  if farI (a + b - c) a ≤ farI (a + b - c) b ∧ farI (a + b - c) a ≤ farI (a + b - c) c then a
  else if farI (a + b - c) b ≤ farI (a + b - c) c then b else c
def guessI (kind a b c : Int) : Int :=
  if kind = 1 then a else if kind = 2 then b else if kind = 3 then paethI a b c else if kind = 4 then (a + b) / 2 else 0

theorem of_any {l : Value} {xs : List Int} {i : Int} {w : World} (h : Nm .u8 w l xs) : Calls P n_filter_of #[l, .int .i64 i] w (fun e w' => e = .returned (.int .i64 (ofL xs i)) ∧ w' = w) := by
  refine of_filter_of (gIf_ndec (fun h0 => gLen_nm h (gIf_dec (fun h1 => ⟨?_, rfl⟩) (fun h1 => ?_))) (fun h0 => ⟨?_, rfl⟩))
  · unfold ofL; rw [if_pos (.inr h1)]
  · refine gIdx_nm h (by omega) (by omega) fun ad hc _ => gLoad_i hc ⟨?_, rfl⟩
    have := rd_u8 h.2 i
    unfold ofL; rw [if_neg (by omega), i64_id (by omega) (by omega)]
  · unfold ofL; rw [if_pos (.inl h0)]
theorem far_any {a b : Int} {w : World} (ha : -100000 ≤ a ∧ a ≤ 100000) (hb : -100000 ≤ b ∧ b ≤ 100000) : Calls P n_filter_far #[.int .i64 a, .int .i64 b] w (fun e w' => e = .returned (.int .i64 (farI a b)) ∧ w' = w) := by
  refine of_filter_far ⟨?_, rfl⟩
  rw [i64_id (by omega) (by omega), i64_id (by omega) (by omega)]; rfl
abbrev rng (x : Int) : Prop := 0 ≤ x ∧ x < 256
theorem paeth_any {ad : Addr} {a b c : Int} {w : World} {r : List Value} (h : St w ad (.int .i64 a :: .int .i64 b :: .int .i64 c :: r)) (ha : rng a) (hb : rng b) (hc : rng c) :
    Calls P n_filter_around_paeth #[.pointer (some ad)] w (fun e w' => e = .returned (.int .i64 (paethI a b c)) ∧ Ev w w') := by
  refine of_filter_around_paeth (gNil_some (gLoadB_i (at1 (h.cell (j := 0) rfl)) (gNil_some (gLoadB_i (at1 (h.cell (j := 1) rfl)) (gNil_some (gLoadB_i (at1 (h.cell (j := 2) rfl)) ?_))))))
  refine ⟨fun w' => w' = w.drew.drew, rfl, gNil_some (gLoadB_i (at1 (h.drew.cell (j := 0) rfl)) (gNil_some (gLoadB_i (at1 (h.drew.cell (j := 1) rfl)) (gNil_some (gLoadB_i (at1 (h.drew.cell (j := 2) rfl)) ?_)))))⟩
  rw [i64_id (n := a + b) (by omega) (by omega), i64_id (n := a + b - c) (by omega) (by omega)]
  refine gCall_of (far_any (by omega) (by omega)) ?_
  rintro _ _ ⟨rfl, rfl⟩
  refine ⟨_, rfl, rfl, gCall_of (far_any (by omega) (by omega)) ?_⟩
  rintro _ _ ⟨rfl, rfl⟩
  refine ⟨_, rfl, rfl, gCall_of (far_any (by omega) (by omega)) ?_⟩
  rintro _ _ ⟨rfl, rfl⟩
  refine ⟨_, rfl, rfl, ?_⟩
  have hev : Ev w w.drew.drew := (Ev.drew0 w).drew
  have hB : farI (a + b - c) b ≤ farI (a + b - c) c → ¬ (farI (a + b - c) a ≤ farI (a + b - c) b ∧ farI (a + b - c) a ≤ farI (a + b - c) c) → paethI a b c = b := fun h1 h2 => by unfold paethI; rw [if_neg h2, if_pos h1]
  have hC : ¬ farI (a + b - c) b ≤ farI (a + b - c) c → ¬ (farI (a + b - c) a ≤ farI (a + b - c) b ∧ farI (a + b - c) a ≤ farI (a + b - c) c) → paethI a b c = c := fun h1 h2 => by unfold paethI; rw [if_neg h2, if_neg h1]
  refine gIf_dec (fun h1 => gIf_dec (fun h2 => gNil_some (gLoad_i (h.drew.drew.cell (j := 0) rfl) ⟨?_, hev⟩)) (fun h2 => ?_)) (fun h1 => ?_)
  · unfold paethI; rw [if_pos ⟨h1, h2⟩]
  all_goals
    have hn : ¬ (farI (a + b - c) a ≤ farI (a + b - c) b ∧ farI (a + b - c) a ≤ farI (a + b - c) c) := fun h => by first | exact h2 h.2 | exact h1 h.1
    refine gIf_dec (fun h3 => gNil_some (gLoad_i (h.drew.drew.cell (j := 1) rfl) ⟨by rw [hB h3 hn], hev⟩)) (fun h3 => gNil_some (gLoad_i (h.drew.drew.cell (j := 2) rfl) ⟨by rw [hC h3 hn], hev⟩))
theorem paethI_rng {a b c : Int} (ha : rng a) (hb : rng b) (hc : rng c) : rng (paethI a b c) := by unfold paethI; split <;> first | exact ha | skip; split <;> assumption
theorem guess_any {ad : Addr} {k a b c : Int} {w : World} {r : List Value} (h : St w ad (.int .i64 a :: .int .i64 b :: .int .i64 c :: r)) (ha : rng a) (hb : rng b) (hc : rng c) :
    Calls P n_filter_around_guess #[.pointer (some ad), .int .i64 k] w (fun e w' => e = .returned (.int .u8 (guessI k a b c)) ∧ Ev w w') := by
  refine of_filter_around_guess (gIf_eq (fun h1 => gNil_some (gLoad_i (h.cell (j := 0) rfl) ⟨?_, Ch.refl _ w⟩)) (fun h1 => gIf_eq (fun h2 => gNil_some (gLoad_i (h.cell (j := 1) rfl) ⟨?_, Ch.refl _ w⟩)) (fun h2 =>
    gIf_eq (fun h3 => gCall_of (paeth_any h ha hb hc) ?_) (fun h3 => gIf_eq (fun h4 => gNil_some (gLoadB_i (at1 (h.cell (j := 0) rfl)) (gNil_some (gLoadB_i (at1 (h.cell (j := 1) rfl)) ⟨?_, Ev.drew0 w⟩)))) (fun h4 => ⟨?_, Ch.refl _ w⟩)))))
  · unfold guessI; rw [if_pos h1, u8_id ha.1 ha.2]
  · unfold guessI; rw [if_neg h1, if_pos h2, u8_id hb.1 hb.2]
  · rintro _ w1 ⟨rfl, hw⟩
    have := paethI_rng ha hb hc
    refine ⟨_, rfl, ?_, hw⟩
    unfold guessI; rw [if_neg h1, if_neg h2, if_pos h3, u8_id this.1 this.2]
  · unfold guessI; rw [if_neg h1, if_neg h2, if_neg h3, if_pos h4, i64_id (n := a + b) (by omega) (by omega), Int.tdiv_eq_ediv_of_nonneg (by omega), i64_id (by omega) (by omega), u8_id (by omega) (by omega)]
  · unfold guessI; rw [if_neg h1, if_neg h2, if_neg h3, if_neg h4]
/-- What the struct of a row's neighbours holds. -/
def nbs (a b c : Int) (row up : Value) (p : Int) : List Value := [.int .i64 a, .int .i64 b, .int .i64 c, row, up, .int .i64 p]
theorem nlook_any {ad : Addr} {a b c p i : Int} {row up : Value} {xs us : List Int} {w : World} (h : St w ad (nbs a b c row up p)) (hr : Nm .u8 w row xs) (hu : Nm .u8 w up us) (hp : 0 ≤ p ∧ p ≤ 9223372036854775807) (hi : 0 ≤ i ∧ i ≤ 9223372036854775807) :
    Calls P n_filter_neighbours_look #[.pointer (some ad), .int .i64 i] w (fun e w' => e = .returned (.tuple #[]) ∧ Ch (Rg ad 3) w w' ∧ St w' ad (nbs (ofL xs (i - p)) (ofL us i) (ofL us (i - p)) row up p)) := by
  refine of_filter_neighbours_look ⟨fun w' => St w' (ad.add 3) [row, up, .int .i64 p], ?_, ?_⟩
  · exact (h.sub 3 3).drew
  have cell : ∀ {w' : World} (_ : St w' (ad.add 3) [row, up, .int .i64 p]) (j : Nat) (u : Value), ([row, up, .int .i64 p] : List Value)[j]? = some u → w'.cell? (ad.add (3 + j)) = some u := fun {w'} hw j u hj => by
    have := hw.cell hj
    rw [Addr.add_none h.1, Addr.add_lit] at this
    rw [Addr.add_none h.1]; rwa [Nat.add_assoc] at this
  refine gNil_some (gLoadB_v (fun w' hw => cell hw 0 _ rfl) (gNil_some (gLoadB_i (fun w' hw => cell hw 2 _ rfl) (gNil_some (gLoadB_v (fun w' hw => cell hw 1 _ rfl) (gNil_some (gLoadB_v (fun w' hw => cell hw 1 _ rfl) (gNil_some (gLoadB_i (fun w' hw => cell hw 2 _ rfl) ?_)))))))))
  rw [i64_id (n := i - p) (by omega) (by omega)]
  refine gCall_of (of_any hr.drew) ?_
  rintro _ _ ⟨rfl, rfl⟩
  refine ⟨_, rfl, (h.sub 3 3).drew, gCall_of (of_any hu.drew) ?_⟩
  rintro _ _ ⟨rfl, rfl⟩
  refine ⟨_, rfl, (h.sub 3 3).drew, gCall_of (of_any hu.drew) ?_⟩
  rintro _ _ ⟨rfl, rfl⟩
  refine ⟨_, rfl, (h.sub 3 3).drew, gNil_some (gStore_agg h.drew (j := 0) (by simp [nbs]) (by simp; exact ⟨rfl, rfl, rfl⟩) ?_ (by kernel_rfl))⟩
  intro w' hc _ hS
  refine ⟨(h.sub 3 3).drew.ch hc fun j hj hh => ?_, rfl, ?_, hS⟩
  · have h1 := hh.2.2
    rw [Addr.add_none h.1, Addr.add_none h.1] at h1
    simp at h1
    omega
  · refine Ch.trans (Ev.drew0 w |>.mono fun _ _ _ h => h.elim) hc fun n i _ hh => ?_
    rw [Addr.add_zero'] at hh; exact hh
end Go.Proofs.YtilpoinhfiajcaaGreatDoorV

/- Package filter: Row and Unrow. -/
namespace Go.Proofs.YtilpoinhfiajcaaGreatDoorV
open Go Go.RowKit

/-- The first j bytes of a row, each less its guess. -/
def rowN (kind : Int) (xs us : List Int) (p : Int) : Nat → List Int
  | 0 => []
  | j + 1 => rowN kind xs us p j ++ [(rd xs j - guessI kind (ofL xs (j - p)) (ofL us j) (ofL us (j - p))) % 256]
theorem rowN_len (kind : Int) (xs us : List Int) (p : Int) : ∀ j, (rowN kind xs us p j).length = j
  | 0 => rfl
  | j + 1 => by simp [rowN, rowN_len kind xs us p j]
theorem inR_u8 {xs : List Int} (h : ∀ x ∈ xs, rng x) : inR .u8 xs := fun x hx => by
  have := h x hx; simp [IntKind.min, IntKind.max, IntKind.signed, IntKind.bits]; omega
theorem fill_setF {A : List Int} {n j : Nat} (x : Int) (ha : A.length = j) (h : j < n) : (A ++ List.replicate (n - j) 0).set j x = (A ++ [x]) ++ List.replicate (n - (j + 1)) 0 := by
  rw [List.set_append_right _ _ (by omega), ha, Nat.sub_self, show n - j = (n - (j + 1)) + 1 by omega, List.replicate_succ]
  simp
theorem St.add0 {w : World} {ad : Addr} {cs : List Value} (h : St w ad cs) : St w (ad.add 0) cs := by rw [Addr.add_zero']; exact h
theorem fill_lenF {A : List Int} {n j : Nat} (ha : A.length = j) (h : j ≤ n) : (A ++ List.replicate (n - j) 0).length = n := by simp [ha]; omega
def planesI (p : Int) : Int := if 1 > p then 1 else p
/-- One round of both: look, guess, store. -/
theorem round_any {row up v : Value} {xs us ys : List Int} {kind p : Int} {j B : Nat} {w3 : World} {ad : Addr} {R : World → Prop}
    (hr : Nm .u8 w3 row xs) (hu : Nm .u8 w3 up us) (hS : ∃ a b c, St w3 ad (nbs a b c row up p)) (hO : ON .u8 eB w3 B v ys) (hj : (j : Int) < ys.length) (hp : 1 ≤ p ∧ p ≤ 9223372036854775807) (hB : ∀ g, v.ownBlock = some g → g ≠ ad.block) (hj63 : j ≤ 1000000000) {f : Int → Int} (hf : ∀ x, rng (f x) )
    (hk : ∀ w6, Ch (fun k i => Rg ad 3 k i ∨ Ob v k i) w3 w6 → (∃ a b c, St w6 ad (nbs a b c row up p)) → ON .u8 eB w6 B v (ys.set j (f (guessI kind (ofL xs (j - p)) (ofL us j) (ofL us (j - p))))) → R w6) :
    gCall P n_filter_neighbours_look shU #[.pointer (some ad), .int .i64 j] w3 fun ww4 => gNil (some ad) fun (t36 : Addr) => gCall P n_filter_around_guess (shI .u8) #[.pointer (some (Addr.add t36 0)), .int .i64 kind] ww4 fun (t39 : Int) ww5 =>
      gIdx P t_sl_uint8 v (.int .i64 j) fun (t41 : Addr) => gStore P t_uint8 (.pointer (some t41)) (.int .u8 (f t39)) ww5 fun ww6 => R ww6 := by
  obtain ⟨a, b, c, hS⟩ := hS
  have hvb := hB
  refine gCall_of (nlook_any hS hr hu (by omega) (by omega)) ?_
  rintro _ w4 ⟨rfl, hc4, hS4⟩
  refine ⟨rfl, gNil_some (gCall_of (guess_any hS4.add0 (ofL_u8 hr.2 _) (ofL_u8 hu.2 _) (ofL_u8 hu.2 _)) ?_)⟩
  rintro _ w5 ⟨rfl, hw5⟩
  have hO5 : ON .u8 eB w5 B v ys := (hO.ch hc4 fun g i hg hh => hvb g hg hh.1).ev hw5
  refine ⟨_, rfl, gIdx_on hO5 (by omega) hj fun a2 hs2 _ => gStore_on hO5 hs2 (by omega) hj ?_ fun w6 hc6 _ hO6 => hk w6 ?_ ⟨_, _, _, (hS4.ev hw5).ch hc6 fun q _ hh => hvb _ hh rfl⟩ hO6⟩
  · have := hf (guessI kind (ofL xs (j - p)) (ofL us j) (ofL us (j - p)))
    simp [IntKind.min, IntKind.max, IntKind.signed, IntKind.bits]; omega
  · refine Ch.trans (Ch.trans (hc4.mono fun _ _ _ h => .inl h) (hw5.mono fun _ _ _ h => h.elim) fun _ _ _ h => h) (hc6.mono fun _ _ _ h => .inr h) fun _ _ _ h => h
theorem Row_any {row up : Value} {xs us : List Int} {kind p : Int} {w : World} (hr : Nm .u8 w row xs) (hu : Nm .u8 w up us) (hl : xs.length ≤ 1000000000) (hp : p ≤ 9223372036854775807) :
    Calls P n_filter_Row #[.int .i64 kind, row, up, .int .i64 p] w (NewB w (rowN kind xs us (planesI p) xs.length)) := by
  refine of_filter_Row ⟨hr.one, hu.one, gBox_of fun ad w1 hw1 had hsz hS => ?_⟩
  refine gLen_nm (hr.ev hw1) (gMake_n (k := .u8) (by omega) (by omega) fun v w2 hw2 hO => gLen_nm ((hr.ev hw1).ev hw2) ?_)
  have hS : St w1 ad (nbs 0 0 0 row up (planesI p)) := hS
  have hpl : 1 ≤ planesI p ∧ planesI p ≤ 9223372036854775807 := by unfold planesI; split <;> omega
  have hbk : ad.block = w.heap.size := by rw [had]
  refine ⟨fun i w3 => ∃ j : Nat, i = j ∧ j ≤ xs.length ∧ Ev w w3 ∧ (∃ a b c, St w3 ad (nbs a b c row up (planesI p))) ∧ ON .u8 eB w3 w1.heap.size v (rowN kind xs us (planesI p) j ++ List.replicate (xs.length - j) 0),
    fun i _ => xs.length - i.toNat, ⟨0, rfl, by omega, hw1.trans hw2, ⟨_, _, _, hS.ev hw2⟩, by simpa [rowN] using hO⟩, ?_⟩
  rintro _ i w3 ⟨j, rfl, hj, hw3, hS3, hO3⟩
  refine gIf_dec (fun h => ?_) (fun h => ⟨v, rfl, hw3, ?_⟩)
  · have hj' : j < xs.length := by omega
    have hlen := fill_lenF (rowN_len kind xs us (planesI p) j) hj
    refine gIdx_nm (hr.ev hw3) (by omega) (by omega) fun a1 hc1 _ => gLoad_i hc1 (round_any (f := fun g => u8 (rd xs j - g)) (hr.ev hw3) (hu.ev hw3) hS3 hO3 (by omega) hpl (fun g hg => by have := (hO3.base hg).1; omega) (by omega) (fun x => by rw [u8_def]; exact ⟨by omega, by omega⟩) fun w6 hc6 hS6 hO6 => ?_)
    rw [i64_id (n := (j : Int) + 1) (by omega) (by omega)]
    refine ⟨⟨j + 1, by omega, hj', hw3.new hc6 fun n i hh => ?_, hS6, ?_⟩, by dsimp only; omega⟩
    · rcases hh with hh | hh
      · have := hh.1; omega
      · have := (hO3.base hh).1; omega
    · rw [fill_setF _ (rowN_len ..) hj', u8_def] at hO6; exact hO6
  · have : j = xs.length := by omega
    subst this
    simpa using hO3.low (by omega)
end Go.Proofs.YtilpoinhfiajcaaGreatDoorV

/- Package filter: weight, Best, Paeth, right. -/
namespace Go.Proofs.YtilpoinhfiajcaaGreatDoorV
open Go Go.RowKit

def wt (c : Int) : Int := if 256 - c < c then 256 - c else c
theorem wt_bd {c : Int} (h : rng c) : 0 ≤ wt c ∧ wt c ≤ 128 := by unfold wt; split <;> omega
def weightN (xs : List Int) : Nat → Int
  | 0 => 0
  | j + 1 => weightN xs j + wt (rd xs j)
theorem weightN_bd {xs : List Int} (h : inR .u8 xs) : ∀ j, 0 ≤ weightN xs j ∧ weightN xs j ≤ 128 * j
  | 0 => by simp [weightN]
  | j + 1 => by have := weightN_bd h j; have := wt_bd (rd_u8 h j); simp only [weightN]; omega
theorem weight_any {l : Value} {xs : List Int} {w : World} (h : Nm .u8 w l xs) (hl : xs.length ≤ 1000000000) : Calls P n_filter_weight #[l] w (fun e w' => e = .returned (.int .i64 (weightN xs xs.length)) ∧ w' = w) := by
  refine of_filter_weight (gLen_nm h ⟨fun n i w' => ∃ j : Nat, i = j ∧ j ≤ xs.length ∧ n = weightN xs j ∧ w' = w, fun _ i _ => xs.length - i.toNat, ⟨0, rfl, by omega, rfl, rfl⟩, ?_⟩)
  rintro _ n i _ ⟨j, rfl, hj, rfl, rfl⟩
  refine gIf_dec (fun hlt => ?_) (fun hge => ⟨?_, rfl⟩)
  · refine gIdx_nm h (by omega) (by omega) fun ad hc _ => gLoad_i hc ?_
    have hr := rd_u8 h.2 j
    have hb := weightN_bd h.2 j
    have hw := wt_bd hr
    have e1 : i64 (rd xs j) = rd xs j := i64_id (by omega) (by omega)
    have e2 : i64 (256 - rd xs j) = 256 - rd xs j := i64_id (by omega) (by omega)
    have e3 : i64 ((j : Int) + 1) = j + 1 := i64_id (by omega) (by omega)
    rw [e1, e2, e3, show (if 256 - rd xs j < rd xs j then 256 - rd xs j else rd xs j) = wt (rd xs j) from rfl, i64_id (by omega) (by omega)]
    exact ⟨⟨j + 1, by omega, by omega, rfl, rfl⟩, by dsimp only; omega⟩
  · rw [show j = xs.length by omega]
/-- The best kind of those up to k, and what it leaves. -/
def bestN (f : Int → Int) : Nat → Int × Int
  | 0 => (0, f 0)
  | k + 1 => if f ((k + 1 : Nat) : Int) < (bestN f k).2 then (((k + 1 : Nat) : Int), f ((k + 1 : Nat) : Int)) else bestN f k
theorem bestN_bd (f : Int → Int) : ∀ k, 0 ≤ (bestN f k).1 ∧ (bestN f k).1 ≤ k ∧ (bestN f k).2 = f (bestN f k).1
  | 0 => by simp [bestN]
  | k + 1 => by
    have := bestN_bd f k
    simp only [bestN]; split
    · exact ⟨by dsimp only; omega, by dsimp only; omega, rfl⟩
    · exact ⟨this.1, by omega, this.2.2⟩
def leftW (xs us : List Int) (p k : Int) : Int := weightN (rowN k xs us (planesI p) xs.length) xs.length
def bestI (xs us : List Int) (p : Int) : Int := (bestN (leftW xs us p) 4).1
theorem BestF_any {row up : Value} {xs us : List Int} {p : Int} {w : World} (hr : Nm .u8 w row xs) (hu : Nm .u8 w up us) (hl : xs.length ≤ 1000000000) (hp : p ≤ 9223372036854775807) :
    Calls P n_filter_Best #[row, up, .int .i64 p] w (fun e w' => e = .returned (.int .i64 (bestI xs us p)) ∧ Ev w w') := by
  have one : ∀ {w1 : World} (_ : Ev w w1) (k : Int) (K : Int → World → Prop), (∀ w2, Ev w w2 → K (leftW xs us p k) w2) →
      gCall P n_filter_Row shV #[.int .i64 k, row, up, .int .i64 p] w1 fun (v : Value) w2 => gCall P n_filter_weight (shI .i64) #[v] w2 K := fun {w1} he k K hK => by
    refine gCall_of (Row_any (hr.ev he) (hu.ev he) hl hp) ?_
    rintro _ w2 ⟨v, rfl, h2, hO⟩
    refine ⟨v, rfl, gCall_of (weight_any hO.nm (by rw [rowN_len]; exact hl)) ?_⟩
    rintro _ _ ⟨rfl, rfl⟩
    refine ⟨_, rfl, ?_⟩
    rw [rowN_len]; exact hK _ (he.trans h2)
  refine of_filter_Best (one (Ch.refl _ w) 0 _ fun w2 h2 => ⟨fun best least k w' => ∃ j : Nat, k = j + 1 ∧ j ≤ 4 ∧ (best, least) = bestN (leftW xs us p) j ∧ Ev w w', fun _ _ k _ => 5 - k.toNat, ⟨0, rfl, by omega, rfl, h2⟩, ?_⟩)
  rintro _ best least k w3 ⟨j, rfl, hj, hb, h3⟩
  refine gIf_dec (fun hlt => ?_) (fun hge => ⟨?_, h3⟩)
  · refine one h3 _ _ fun w5 h5 => ?_
    have e3 : i64 ((j : Int) + 1 + 1) = j + 1 + 1 := i64_id (by omega) (by omega)
    rw [e3]
    have hb2 : least = (bestN (leftW xs us p) j).2 := congrArg Prod.snd hb
    refine gIf_dec (fun hs => ⟨⟨j + 1, by omega, by omega, ?_, h5⟩, by dsimp only; omega⟩) (fun hs => ⟨⟨j + 1, by omega, by omega, ?_, h5⟩, by dsimp only; omega⟩)
    · simp only [bestN]; rw [← hb2, if_pos (by simpa using hs)]; simp
    · simp only [bestN]; rw [← hb2, if_neg (by simpa using hs)]; exact hb
  · obtain rfl : j = 4 := by omega
    have : best = bestI xs us p := congrArg Prod.fst hb
    rw [this]
def rightI (width p : Int) : Bool := decide (width ≥ 1) && decide (width ≤ 1048576) && decide (p ≥ 1) && decide (p ≤ 4)
theorem right_any {width p : Int} {w : World} : Calls P n_filter_right #[.int .i64 width, .int .i64 p] w (fun e w' => e = .returned (.bool (rightI width p)) ∧ w' = w) := by
  refine of_filter_right (gIf_dec (fun h1 => gIf_dec (fun h2 => gIf_dec (fun h3 => ⟨?_, rfl⟩) (fun h3 => ⟨?_, rfl⟩)) (fun h2 => ⟨?_, rfl⟩)) (fun h1 => ⟨?_, rfl⟩)) <;> simp [rightI, *]
end Go.Proofs.YtilpoinhfiajcaaGreatDoorV

/- awake, and the laws FilterPaeth and FilterFlat: what is shown of their calls. -/
namespace Go.Proofs.YtilpoinhfiajcaaGreatDoorV
open Go Go.RowKit

end Go.Proofs.YtilpoinhfiajcaaGreatDoorV

/- The law FilterFlat. -/
namespace Go.Proofs.YtilpoinhfiajcaaGreatDoorV
open Go Go.RowKit

end Go.Proofs.YtilpoinhfiajcaaGreatDoorV

/- Package filter: Apply and Undo. -/
namespace Go.Proofs.YtilpoinhfiajcaaGreatDoorV
open Go Go.RowKit

/-- Row i of rows of a width. -/
def rowAt (xs : List Int) (width i : Nat) : List Int := (xs.drop (i * width)).take width
def upAt (xs : List Int) (width : Nat) : Nat → List Int
  | 0 => []
  | i + 1 => rowAt xs width i
def applyN (xs : List Int) (width : Nat) (p : Int) : Nat → List Int
  | 0 => []
  | i + 1 => applyN xs width p i ++ [bestI (rowAt xs width i) (upAt xs width i) p] ++ rowN (bestI (rowAt xs width i) (upAt xs width i) p) (rowAt xs width i) (upAt xs width i) (planesI p) (rowAt xs width i).length
theorem rowAt_len {xs : List Int} {width i n : Nat} (h : xs.length = n * width) (hi : i < n) : (rowAt xs width i).length = width := by
  unfold rowAt
  rw [List.length_take, List.length_drop, h]
  have : (i + 1) * width ≤ n * width := Nat.mul_le_mul_right _ hi
  rw [Nat.succ_mul] at this
  omega
theorem applyN_len {xs : List Int} {width n : Nat} {p : Int} (h : xs.length = n * width) : ∀ {i}, i ≤ n → (applyN xs width p i).length = i * (width + 1)
  | 0, _ => by simp [applyN]
  | i + 1, hi => by
    simp only [applyN, List.length_append, applyN_len h (show i ≤ n by omega), rowN_len, rowAt_len h (show i < n by omega), List.length_singleton, Nat.succ_mul]
    omega
theorem best_rng (xs us : List Int) (p : Int) : 0 ≤ bestI xs us p ∧ bestI xs us p ≤ 4 := by have := bestN_bd (leftW xs us p) 4; unfold bestI; omega
/-- Bytes in new memory and an error; of an error no bytes. -/
def NewBE (w : World) (r : Option (List Int)) (er : Int) (e : Ending) (w' : World) : Prop := Ev w w' ∧ match r with
  | some xs => ∃ v, e = .returned (.tuple #[v, .int .i64 0]) ∧ ON .u8 eB w' w.heap.size v xs
  | none => e = .returned (.tuple #[.slice none 0 0, .int .i64 er])
def applyOk (n : Nat) (width p : Int) : Bool := rightI width p && decide ((n : Int) % width = 0) && decide (n ≤ 1048576)
theorem applyOk_iff {n W : Nat} {p : Int} (h : applyOk n W p = true) : 1 ≤ W ∧ W ≤ 1048576 ∧ 1 ≤ p ∧ p ≤ 4 ∧ n = n / W * W ∧ n ≤ 1048576 := by
  simp only [applyOk, rightI, Bool.and_eq_true, decide_eq_true_eq] at h
  obtain ⟨⟨⟨⟨⟨h1, h2⟩, h3⟩, h4⟩, h5⟩, h6⟩ := h
  have : n % W = 0 := by omega
  have := Nat.div_add_mod n W
  rw [Nat.mul_comm] at this
  omega
theorem Apply_any {b : Value} {xs : List Int} {width p : Int} {w : World} (hb : Nm .u8 w b xs) (hl : xs.length ≤ 1000000000) (hp : p ≤ 9223372036854775807) :
    Calls P n_filter_Apply #[b, .int .i64 width, .int .i64 p] w (NewBE w (if applyOk xs.length width p then some (applyN xs width.toNat p (xs.length / width.toNat)) else none) 1) := by
  have bad : applyOk xs.length width p = false → NewBE w (if applyOk xs.length width p then some (applyN xs width.toNat p (xs.length / width.toNat)) else none) 1 (.returned (.tuple #[.slice none 0 0, .int .i64 1])) w := fun h => by
    rw [h]; exact ⟨Ch.refl _ w, rfl⟩
  refine of_filter_Apply ⟨fun w' => applyOk xs.length width p = true ∧ w' = w, gCall_of right_any ?_, ?_⟩
  · rintro _ _ ⟨rfl, rfl⟩
    refine ⟨_, rfl, ?_⟩
    cases hr : rightI width p with
    | false => exact gIf_nnf (bad (by simp [applyOk, hr]))
    | true =>
      have hw : 1 ≤ width := by simp [rightI] at hr; omega
      refine gIf_nn (gLen_nm hb (gBin_rem (by omega) (gIf_nneq (fun h0 => gLen_nm hb (gIf_dec (fun h1 => bad ?_) (fun h1 => ⟨?_, rfl⟩))) (fun h0 => bad ?_))))
      all_goals rw [Int.tmod_eq_emod_of_nonneg (by omega)] at h0
      · simp [applyOk]; omega
      · simp [applyOk, hr]; omega
      · simp [applyOk, h0]
  rintro _ _ ⟨hok, rfl⟩
  rw [hok, if_pos rfl]
  clear bad
  obtain ⟨W, rfl⟩ : ∃ W : Nat, width = W := ⟨width.toNat, by simp [applyOk, rightI] at hok; omega⟩
  obtain ⟨hW1, hW2, hp1, hp4, hn, hn2⟩ := applyOk_iff hok
  rw [Int.toNat_natCast]
  generalize xs.length / W = n at hn
  rename_i w
  refine ⟨fun bv out up w3 => ∃ i : Nat, i ≤ n ∧ Nm .u8 w bv (xs.drop (i * W)) ∧ ON .u8 eB w3 w.heap.size out (applyN xs W p i) ∧ Nm .u8 w up (upAt xs W i) ∧ Ev w w3,
    fun bv _ _ _ => slenV bv, ⟨0, by omega, by simpa using hb, ON.nil _ _ _ _, Nm.nil _ _, Ch.refl _ w⟩, ?_⟩
  rintro _ bv out up w3 ⟨i, hi, hbv, hO, hup, hw3⟩
  have hiW : i * W ≤ n * W := Nat.mul_le_mul_right _ hi
  have hdl : (xs.drop (i * W)).length = n * W - i * W := by rw [List.length_drop, ← hn]
  refine gLen_nm hbv (gIf_dec (fun hpos => ?_) (fun hend => ⟨hw3, out, rfl, ?_⟩))
  · have hlt : i < n := by
      rcases Nat.lt_or_ge i n with h | h
      · exact h
      · have : i = n := by omega
        subst this; omega
    have hi1 : (i + 1) * W ≤ n * W := Nat.mul_le_mul_right _ hlt
    rw [Nat.succ_mul] at hi1
    have hrow : ∀ {w' : World}, Nm .u8 w (subV 1 bv 0 W) (rowAt xs W i) := fun {_} => by
      have := hbv.sub 0 W (by omega) (by omega)
      simpa [rowAt] using this
    have hrl : (rowAt xs W i).length = W := rowAt_len hn hlt
    have hup' := hup
    refine gSlice_nm hbv 0 W (.inl ⟨rfl, rfl⟩) (.inr ⟨_, rfl⟩) (by omega) (by omega) fun _ => gCall_of (BestF_any ((hrow (w' := w)).ev hw3) (hup.ev hw3) (by omega) hp) ?_
    rintro _ w4 ⟨rfl, h4⟩
    have hbr := best_rng (rowAt xs W i) (upAt xs W i) p
    generalize hk : bestI (rowAt xs W i) (upAt xs W i) p = k at *
    have hw4 : Ev w w4.drew := (hw3.trans h4).drew
    refine ⟨k, rfl, fun _ => True, trivial, gSlice_nm hbv 0 W (.inl ⟨rfl, rfl⟩) (.inr ⟨_, rfl⟩) (by omega) (by omega) fun _ => gLit_n (k := .u8) [k] (by rw [u8_id (by omega) (by omega)]; rfl) rfl (by decide) (inR_u8 (by simp; exact ⟨by omega, by omega⟩)) fun y w5 h5 hy => ⟨trivial, ?_⟩⟩
    have hal := applyN_len hn (p := p) hi
    have hiW2 : i * (W + 1) ≤ 3000000 := by rw [Nat.mul_succ]; have : n * 1 ≤ n * W := Nat.mul_le_mul_left _ hW1; omega
    refine gApp_on (((hO.ev h4).drew).ev h5) hy.nm (by rw [hal]; simp; omega) ((hw4.trans h5).size) fun o1 w6 hO1 hc1 hm1 => ⟨trivial, ?_⟩
    have hw6 : Ev w w6 := (hw4.trans h5).new hc1 fun g _ hg => (hO.base hg).1
    refine gCall_of (Row_any ((hrow (w' := w)).ev hw6) (hup.ev hw6) (by omega) hp) ?_
    rintro _ w7 ⟨r, rfl, h7, hr⟩
    refine ⟨r, rfl, trivial, gApp_on (hO1.ev h7) hr.nm (by rw [List.length_append, hal, rowN_len, hrl]; simp; omega) ((hw6.trans h7).size) fun o2 w8 hO2 hc2 hm2 => ⟨trivial, ?_⟩⟩
    have hw8 : Ev w w8 := (hw6.trans h7).new hc2 fun g _ hg => (hO1.base hg).1
    refine gSlice_nm hbv 0 W (.inl ⟨rfl, rfl⟩) (.inr ⟨_, rfl⟩) (by omega) (by omega) fun _ => gSlice_nm hbv W (n * W - i * W) (.inr ⟨_, rfl⟩) (.inl ⟨rfl, hdl.symm⟩) (by omega) (by omega) fun hrest => ⟨⟨i + 1, hlt, ?_, ?_, hrow (w' := w), hw8⟩, ?_⟩
    · rw [List.drop_drop, List.take_of_length_le (by rw [List.length_drop, ← hn]; omega)] at hrest
      rwa [Nat.succ_mul]
    · simp only [applyN, hk]; exact hO2
    · dsimp only
      rw [hrest.slen, hbv.slen, List.length_take, List.length_drop]; omega
  · have : i = n := by
      rcases Nat.lt_or_ge i n with h | h
      · have : (i + 1) * W ≤ n * W := Nat.mul_le_mul_right _ h
        rw [Nat.succ_mul] at this; omega
      · omega
    subst this; exact hO
end Go.Proofs.YtilpoinhfiajcaaGreatDoorV

/- Package filter: Undo; what is turned is turned back; the law FilterBack. -/
namespace Go.Proofs.YtilpoinhfiajcaaGreatDoorV
open Go Go.RowKit

end Go.Proofs.YtilpoinhfiajcaaGreatDoorV

/- What is turned is turned back; the law FilterBack. -/
namespace Go.Proofs.YtilpoinhfiajcaaGreatDoorV
open Go Go.RowKit

end Go.Proofs.YtilpoinhfiajcaaGreatDoorV

/- Package picture: signs of a head. -/
namespace Go.Proofs.YtilpoinhfiajcaaGreatDoorV
open Go Go.RowKit
theorem Nm.chx {k : IntKind} {S : SS} {w w' : World} {v : Value} {xs : List Int} (h : Nm k w v xs) (hc : Ch S w w') (hs : xs ≠ [] → ∀ g i, v.ownBlock = some g → ¬ S g i) : Nm k w' v xs := by
  by_cases hx : xs = []
  · subst hx
    obtain ⟨⟨a, c, rfl, h1, h2, h3, h4⟩, hr⟩ := h
    exact ⟨⟨a, c, rfl, h1, h2, fun ad ha j u hj => by simp at hj, h4⟩, hr⟩
  · exact h.ch hc (hs hx)
theorem beq_decP (a b : Int) : (a == b) = decide (a = b) := by by_cases h : a = b <;> simp [h]
def whiteB (c : Int) : Bool := decide (c = 32 ∨ c = 9 ∨ c = 10 ∨ c = 13)
theorem white_any {c : Int} {w : World} : Calls P n_picture_white #[.int .u8 c] w (fun e w' => e = .returned (.bool (whiteB c)) ∧ w' = w) := by
  refine of_picture_white (gIf_neqq (fun h1 => gIf_neqq (fun h2 => gIf_neqq (fun h3 => ⟨?_, rfl⟩) (fun h3 => ⟨?_, rfl⟩)) (fun h2 => ⟨?_, rfl⟩)) (fun h1 => ⟨?_, rfl⟩)) <;> simp [whiteB, *] <;> exact beq_decP _ _
def SG (w : World) (ad : Addr) (b : Value) (xs : List Int) (a : Nat) : Prop := St w ad [b, .int .i64 a] ∧ Nm .u8 w b xs ∧ (xs ≠ [] → b.ownBlock ≠ some ad.block) ∧ a ≤ xs.length ∧ xs.length ≤ 1000000000
theorem SG.ev {w w' : World} {ad : Addr} {b : Value} {xs : List Int} {a : Nat} (h : SG w ad b xs a) (he : Ev w w') : SG w' ad b xs a := ⟨h.1.ev he, h.2.1.ev he, h.2.2⟩
def GS (w w' : World) (ad : Addr) (b : Value) (xs : List Int) (a : Nat) : Prop := SG w' ad b xs a ∧ Ch (Rg ad 2) w w'
theorem GS.trans {w w1 w2 : World} {ad : Addr} {b : Value} {xs : List Int} {a a2 : Nat} (h : GS w w1 ad b xs a) (h2 : GS w1 w2 ad b xs a2) : GS w w2 ad b xs a2 := ⟨h2.1, Ch.trans h.2 h2.2 fun _ _ _ h => h⟩
theorem GS.ev {w w1 w2 : World} {ad : Addr} {b : Value} {xs : List Int} {a : Nat} (h : GS w w1 ad b xs a) (he : Ev w1 w2) : GS w w2 ad b xs a := ⟨h.1.ev he, Ch.trans h.2 he fun _ _ _ h => h.elim⟩
theorem GS.pre {w w1 w2 : World} {ad : Addr} {b : Value} {xs : List Int} {a : Nat} (he : Ev w w1) (h : GS w1 w2 ad b xs a) : GS w w2 ad b xs a := ⟨h.1, Ch.trans (he.mono fun _ _ _ h => h.elim) h.2 fun _ _ _ h => h⟩
theorem SG.step {w : World} {ad : Addr} {b : Value} {xs : List Int} {a : Nat} (h : SG w ad b xs a) : GS w w ad b xs a := ⟨h, Ch.refl _ w⟩
theorem SG.set {w w' : World} {ad : Addr} {b : Value} {xs : List Int} {a a2 : Nat} (h : SG w ad b xs a) (hc : Ch (Rg (ad.add 1) 1) w w') (hS : St w' ad ([b, .int .i64 a].set 1 (.int .i64 a2))) (ha : a2 ≤ xs.length) : GS w w' ad b xs a2 := by
  have hc2 : Ch (Rg ad 2) w w' := hc.mono fun n i _ hh => by
    have h1 := hh.1; have h2 := hh.2
    rw [Addr.add_none h.1.1] at h1 h2
    exact ⟨h1, by dsimp only at h2; omega, by dsimp only at h2; omega⟩
  exact ⟨⟨hS, h.2.1.chx hc2 fun hx g i hg hh => h.2.2.1 hx (by rw [hg, hh.1]), h.2.2.1, ha, h.2.2.2.2⟩, hc2⟩
section
variable {ad : Addr} {b : Value} {xs : List Int} {a : Nat} {w : World}
theorem is_any {f : FuncId} {pf : Int → Bool} (hok : callOk P f = true) (hf : ∀ {c : Int} {w : World}, Calls P f #[.int .u8 c] w (fun e w' => e = .returned (.bool (pf c)) ∧ w' = w)) (h : SG w ad b xs a) :
    Calls P n_picture_signs_is #[.pointer (some ad), .func (.func f) #[] #[]] w (fun e w' => e = .returned (.bool (decide (a < xs.length) && pf (rd xs a))) ∧ Ev w w') := by
  refine of_picture_signs_is ⟨fun w' => w' = w.drew, rfl, gNil_some (gLoadB_i (at1 (h.1.cell (j := 1) rfl)) (gNil_some (gLoadB_v (at1 (h.1.cell (j := 0) rfl)) (gLen_nm h.2.1 (gIf_dec (fun hlt => ?_) (fun hge => ⟨?_, Ev.drew0 w⟩))))))⟩
  · refine gNil_some (gLoadB_v (at1 (h.1.cell (j := 0) rfl)) (gNil_some (gLoadB_i (at1 (h.1.cell (j := 1) rfl)) (gIdx_nm h.2.1 (by omega) hlt fun a1 c1 _ => gLoadB_i (at1 c1) (gCallV_of rfl hok hf ?_)))))
    rintro _ _ ⟨rfl, rfl⟩
    refine ⟨_, rfl, rfl, ?_, Ev.drew0 w⟩
    rw [decide_eq_true (show a < xs.length by omega)]; rfl
  · rw [decide_eq_false (show ¬ a < xs.length by omega)]; rfl
def nlL (xs : List Int) : Nat → Nat → Option Nat
  | 0, _ => none
  | f + 1, i => if rd xs i = 10 then some i else nlL xs f (i + 1)
def nlI (xs : List Int) (i : Nat) : Option Nat := nlL xs (xs.length - i) i
theorem nlL_bd {xs : List Int} : ∀ {f i k : Nat}, nlL xs f i = some k → i ≤ k ∧ k < i + f
  | f + 1, i, k, h => by
    rw [nlL] at h; split at h
    · injection h with h; omega
    · have := nlL_bd h; omega
theorem nlI_bd {xs : List Int} {i k : Nat} (h : nlI xs i = some k) (hi : i ≤ xs.length) : i ≤ k ∧ k < xs.length := by have := nlL_bd h; omega
theorem nlI_step {xs : List Int} {i : Nat} (h : i < xs.length) : nlI xs i = if rd xs i = 10 then some i else nlI xs (i + 1) := by
  unfold nlI; rw [show xs.length - i = (xs.length - (i + 1)) + 1 by omega, nlL]
theorem remark_any (h : SG w ad b xs a) : Calls P n_picture_signs_remark #[.pointer (some ad)] w (fun e w' => e = .returned (.bool (nlI xs a).isSome) ∧ GS w w' ad b xs (match nlI xs a with | some i => i + 1 | none => a)) := by
  have hl := h.2.2.2.2
  have ha := h.2.2.2.1
  refine of_picture_signs_remark (gNil_some (gLoad_i (h.1.cell (j := 1) rfl) ⟨fun i w' => ∃ j : Nat, i = j ∧ a ≤ j ∧ j ≤ xs.length ∧ nlI xs j = nlI xs a ∧ w' = w, fun i _ => xs.length - i.toNat, ⟨a, rfl, by omega, ha, rfl, rfl⟩, ?_⟩))
  rintro _ i _ ⟨j, rfl, haj, hj, hn, rfl⟩
  rw [← hn]
  refine gNil_some (gLoad_v (h.1.cell (j := 0) rfl) (gLen_nm h.2.1 (gIf_dec (fun hlt => ?_) (fun hge => ?_))))
  · refine gNil_some (gLoad_v (h.1.cell (j := 0) rfl) (gIdx_nm h.2.1 (by omega) hlt fun a1 c1 _ => gLoad_i c1 (gIf_eq (fun e => ?_) (fun e => ?_))))
    · rw [nlI_step (by omega), if_pos e, i64_id (n := (j : Int) + 1) (by omega) (by omega)]
      exact gNil_some (gStore_st h.1 (j := 1) (by simp) rfl rfl fun w2 h2 _ hS2 => ⟨rfl, h.set (a2 := j + 1) h2 hS2 (by omega)⟩)
    · rw [nlI_step (by omega), if_neg e, i64_id (n := (j : Int) + 1) (by omega) (by omega)]
      exact ⟨⟨j + 1, rfl, by omega, by omega, rfl, rfl⟩, by dsimp only; omega⟩
  · have : nlI xs j = none := by unfold nlI; rw [show xs.length - j = 0 by omega]; rfl
    rw [this]; exact ⟨rfl, h.step⟩
end
end Go.Proofs.YtilpoinhfiajcaaGreatDoorV
