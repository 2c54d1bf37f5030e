import Derived.Test.YtjmdoflcmipejaaVPart9
set_option linter.unusedVariables false
set_option linter.unusedSimpArgs false
/- Package rice: unpacking. -/
namespace Go.Proofs.YtjmdoflcmipejaaV
open Go Go.RowKit
section
variable {w0 w : World} {F : List It} {xs : List Int} {ad rad : Addr} {y : Value} {a : Nat} {er : Int}
theorem Fr.pr (h : Fr w0 w F) (i j : Nat) (hi : F[i]? = some (sIt ad [y, .int .i64 a, .int .i64 er])) (hj : F[j]? = some (oIt .u8 eB y xs)) (hn : i ≠ j) (ha : a ≤ 8 * xs.length) (hl : xs.length ≤ 1000000000) : PR w ad y xs a er :=
  ⟨h.get i hi, h.nm j hj, fun _ hg => h.apart hi hj hn ad.block rfl hg, ha, hl⟩
theorem Fr.rb (h : Fr w0 w F) (q i j : Nat) (hq : F[q]? = some (sIt rad [.pointer (some ad)])) (hi : F[i]? = some (sIt ad [y, .int .i64 a, .int .i64 er])) (hj : F[j]? = some (oIt .u8 eB y xs)) (hn : i ≠ j) (hn2 : q ≠ i) (ha : a ≤ 8 * xs.length) (hl : xs.length ≤ 1000000000) : RB w rad ad y xs a er :=
  ⟨h.get q hq, h.pr i j hi hj hn ha hl, fun e => h.apart hq hi hn2 rad.block rfl e⟩
theorem Fr.ps {w' : World} {a2 : Nat} {er2 : Int} (h : Fr w0 w F) (i : Nat) (hi : F[i]? = some (sIt ad [y, .int .i64 a, .int .i64 er])) (g : PS w w' ad y xs a2 er2) : Fr w0 w' (F.set i (sIt ad [y, .int .i64 a2, .int .i64 er2])) :=
  h.upd i hi g.2 (fun k _ hh => .inl hh.1) g.1.1 fun k hk => .inl hk
theorem fbNew {b : Value} {K : Option Addr → World → Prop} (h : Fr w0 w F) (hb : Nm .u8 w b xs) (hl : xs.length ≤ 1000000000) (hk : ∀ rad pad y w', Fr w0 w' (sIt rad [.pointer (some pad)] :: sIt pad [y, .int .i64 (0 : Nat), .int .i64 0] :: oIt .u8 eB y xs :: F) → K (some rad) w') : gCall P n_bits_New shP #[b] w K := by
  refine gCall_of (R := fun e w' => ∃ rad pad y, e = .returned (.pointer (some rad)) ∧ Fr w0 w' (sIt rad [.pointer (some pad)] :: sIt pad [y, .int .i64 (0 : Nat), .int .i64 0] :: oIt .u8 eB y xs :: F)) (of_bits_New (fApp0 h hb (by omega) fun y w1 f1 => ⟨(f1.on 0 rfl).one, fBox f1 fun pad w2 f2 => fBox f2 fun rad w3 f3 => ⟨rad, pad, y, rfl, f3⟩⟩)) ?_
  rintro _ w' ⟨rad, pad, y, rfl, f⟩
  exact ⟨_, rfl, hk rad pad y w' f⟩
end
theorem bEqual_any {a b : Value} {xs ys : List Int} {w : World} (ha : Nm .u8 w a xs) (hb : Nm .u8 w b ys) : Calls P n_bytes_Equal #[a, b] w (fun e w' => e = .returned (.bool (decide (xs = ys))) ∧ w' = w) :=
  of_bytes_Equal (gConv_bs ha (gConv_bs hb ⟨by rw [bsOf_eq ha.2 hb.2], rfl⟩))
theorem iOr_u32 (a b : Int) : 0 ≤ iOr .u32 a b ∧ iOr .u32 a b < 4294967296 := by unfold iOr; show 0 ≤ u32 _ ∧ u32 _ < _; rw [u32_def]; omega
theorem next_any {w : World} {x rad pad : Addr} {b : Value} {xs : List Int} {a k : Nat} {er : Int} (hx : St w x [.pointer (some rad)]) (hne : x.block ≠ pad.block) (h : RB w rad pad b xs a er) (hk : k ≤ 31) :
    Calls P n_rice_unpacker_next #[.pointer (some x), .int .i64 k] w (fun e w' => e = .returned (.int .i32 (nextV xs a er k).1) ∧ PS w w' pad b xs (nextV xs a er k).2.1 (nextV xs a er k).2.2) := by
  have hu := unaryR_rng xs a er
  refine of_rice_unpacker_next (gNil_some (gLoad_p (hx.cell (j := 0) rfl) (gCall_i (Unary_R h) fun w1 h1 => ?_)))
  have hx1 : St w1 x [.pointer (some rad)] := hx.ch h1.2 fun _ _ hh => hne hh.1
  have hr1 := h.to h1
  unfold nextV
  refine gIf_eq (fun e => gNil_some (gLoad_p (hx1.cell (j := 0) rfl) (gCall_i (Bits_R hr1) fun w2 h2 => ?_))) (fun e => ⟨fun w' => w'.cell? (x.add 0) = some (.pointer (some rad)), hx1.drew.cell rfl, gBin_shl (by omega) (gNil_some (gLoadB_p (fun _ h => h) (gCall_i (Bits_R (h.to (h1.ev (Ev.drew0 w1)))) fun w2 h2 => ⟨?_, ?_⟩)))⟩)
  · have hb := bitsR_bd (xs := xs) (a := (unaryR xs a er 24).2.1) (er := (unaryR xs a er 24).2.2) 32
    rw [u64_def, Int.emod_eq_of_lt (by omega) (by omega), if_pos e]
    exact gCall_i0 (Unfold_any (by omega)) ⟨rfl, h1.trans h2⟩
  · exact (hx1.drew.ch h2.2 fun _ _ hh => hne hh.1).cell rfl
  · have hb := iOr_u32 (iShl .u32 (u32 (unaryR xs a er 24).1) k) (bitsR xs (unaryR xs a er 24).2.1 (unaryR xs a er 24).2.2 k).1
    rw [u64_def, Int.emod_eq_of_lt (by omega) (by omega), if_neg e]
    rw [u32_def, Int.emod_eq_of_lt (by omega) (by omega)] at hb ⊢
    exact gCall_i0 (Unfold_any (by omega)) ⟨rfl, (h1.ev (Ev.drew0 w1)).trans h2⟩
/-- Numbers in new memory, or none, and an error. -/
def TupI (w : World) (r : List Int × Int) (e : Ending) (w' : World) : Prop := ∃ v, e = .returned (.tuple #[v, .int .i64 r.2]) ∧ Ev w w' ∧ ON .i32 e32 w' w.heap.size v r.1
theorem TupI.err (w w' : World) (h : Ev w w') (c : Int) : TupI w ([], c) (.returned (.tuple #[.slice none 0 0, .int .i64 c])) w' := ⟨_, rfl, h, ON.nil _ _ _ _⟩
theorem headK_rng {xs : List Int} {i k a : Nat} (hk : k ≤ 24) : 0 ≤ (headK xs i k a).1 ∧ (headK xs i k a).1 ≤ 31 := by
  unfold headK
  split
  · unfold bitsR
    rw [if_neg (by simp)]
    split
    · simp
    · have := bitsVal_bd xs a (cl32 5)
      rw [show cl32 5 = 5 by decide, show ((2 ^ 5 : Nat) : Int) = 32 from rfl] at this
      rw [show cl32 5 = 5 by decide]; dsimp only; omega
  · dsimp only; omega
theorem tmod64 (i : Nat) : (Int.tmod (i : Int) 64 = 0) ↔ i % 64 = 0 := by rw [Int.tmod_eq_emod_of_nonneg (by omega)]; omega
theorem readN_step {lim : Bool} {xs : List Int} {f i k a : Nat} : readN lim xs (f + 1) i k a = match stepR xs i k a with
    | none => none
    | some (v, k', a') => if lim = true ∧ 24 < k' then none else (readN lim xs f (i + 1) k' a').map (v :: ·) := rfl
theorem rUnpack_any {b0 : Value} {xs : List Int} {n : Int} {w : World} (hb : Nm .u8 w b0 xs) (hl : xs.length ≤ 1000000000) : Calls P n_rice_Unpack #[b0, .int .i64 n] w (TupI w (unpE true xs n)) := by
  unfold unpE
  refine of_rice_Unpack (gIf_dec (fun h0 => by rw [if_pos h0]; exact TupI.err w w (Ch.refl _ w) 1) (fun h0 => ?_))
  rw [if_neg h0]
  refine gIf_dec (fun h1 => by rw [if_pos h1]; exact TupI.err w w (Ch.refl _ w) 5) (fun h1 => ?_)
  rw [if_neg h1]
  obtain ⟨m, rfl⟩ := Int.eq_ofNat_of_zero_le (show 0 ≤ n by omega)
  rw [Int.toNat_natCast]
  refine fbNew (Fr.start w) hb hl fun rad pad y w1 f1 => fBox f1 fun x w2 f2 => ?_
  have f2 := f2.nil0 .i32 e32
  refine ⟨fun lv kv ww => ∃ (zs : List Int) (k a : Nat), kv = k ∧ k ≤ 24 ∧ zs.length ≤ m ∧ a ≤ 8 * xs.length ∧ (readN true xs (m - zs.length) zs.length k a).map (zs ++ ·) = readN true xs m 0 0 0 ∧
      Fr w ww [oIt .i32 e32 lv zs, sIt x [.pointer (some rad)], sIt rad [.pointer (some pad)], sIt pad [y, .int .i64 a, .int .i64 0], oIt .u8 eB y xs], fun lv _ _ => m - slLen lv, ⟨[], 0, 0, rfl, by omega, by simp, by omega, ?_, f2⟩, ?_⟩
  · show (readN true xs m 0 0 0).map _ = _
    cases readN true xs m 0 0 0 <;> rfl
  rintro _ lv kv w3 ⟨zs, k, a, rfl, hk, hzm, ha, hr, f3⟩
  have hz := f3.nm 0 rfl
  refine gLen_nm hz (gIf_dec (fun hlt => ?_) (fun hge => ?_))
  · have hk31 := headK_rng (xs := xs) (i := zs.length) (a := a) hk
    refine ⟨fun kv ww => kv = (headK xs zs.length k a).1 ∧ (headK xs zs.length k a).2.1 ≤ 8 * xs.length ∧ Fr w ww [oIt .i32 e32 lv zs, sIt x [.pointer (some rad)], sIt rad [.pointer (some pad)], sIt pad [y, .int .i64 (headK xs zs.length k a).2.1, .int .i64 (headK xs zs.length k a).2.2], oIt .u8 eB y xs], gLen_nm hz (gIf_eq (fun e => gNil_some (gLoad_p (f3.cell 1 0 rfl rfl) (gCall_i (Bits_R (f3.rb 2 3 4 rfl rfl rfl (by decide) (by decide) ha hl)) fun w4 h4 => ?_))) (fun e => ?_)), ?_⟩
    · rw [tmod64] at e
      have f4 := f3.ps 3 rfl h4
      unfold headK at hk31 ⊢
      rw [if_pos e] at hk31 ⊢
      exact ⟨i64_id (by omega) (by omega), h4.1.2.2.2.1, f4⟩
    · rw [Ne, tmod64] at e
      unfold headK
      rw [if_neg e]
      exact ⟨rfl, ha, f3⟩
    rintro _ kv w4 ⟨rfl, ha4, f4⟩
    obtain ⟨q, hq⟩ := Int.eq_ofNat_of_zero_le hk31.1
    rw [hq]
    refine gCall_i (next_any (f4.get 1 rfl) (fun e => f4.apart (i := 1) (j := 3) rfl rfl (by decide) x.block rfl e) (f4.rb 2 3 4 rfl rfl rfl (by decide) (by decide) ha4 hl) (by omega)) fun w5 h5 => ?_
    have f5 := f4.ps 3 rfl h5
    have hin := nextV_rng xs (headK xs zs.length k a).2.1 (headK xs zs.length k a).2.2 q
    refine fLit_n [(nextV xs (headK xs zs.length k a).2.1 (headK xs zs.length k a).2.2 q).1] f5 rfl rfl (fun x hx => by simp at hx; subst hx; exact i32i hin) fun t w6 f6 => fApp f6 1 rfl (f6.nm 0 rfl) (by simp; omega) fun l2 w7 f7 => ?_
    have f7 := f7.drop 0
    refine gNil_some (gLoad_p (f7.cell 1 0 rfl rfl) (gCall_i0 (Err_R (f7.rb 2 3 4 rfl rfl rfl (by decide) (by decide) h5.1.2.2.2.1 hl)) ?_))
    have hm1 : m - zs.length = (m - (zs.length + 1)) + 1 := by omega
    rw [hm1, readN_step] at hr
    unfold stepR at hr
    dsimp only at hr
    rw [hq, Int.toNat_natCast] at hr
    have bad : readN true xs m 0 0 0 = none → TupI w (match readN true xs m 0 0 0 with
        | none => ([], 4)
        | some l => if pkB (packTo l l.length) = xs then (l, 0) else ([], 4)) (.returned (.tuple #[.slice none 0 0, .int .i64 4])) w7 := fun e => by rw [e]; exact TupI.err w w7 f7.old 4
    refine gIf_nneq (fun e0 => gIf_dec (fun hq24 => bad ?_) (fun hq24 => ⟨⟨zs ++ [(nextV xs (headK xs zs.length k a).2.1 (headK xs zs.length k a).2.2 q).1], q, (nextV xs (headK xs zs.length k a).2.1 (headK xs zs.length k a).2.2 q).2.1, rfl, by omega, by simp; omega, h5.1.2.2.2.1, ?_, ?_⟩, ?_⟩)) (fun e0 => bad ?_)
    · rw [← hr]
      split
      · rfl
      · rename_i v k' a' hs
        split at hs
        · cases hs
        · injection hs with hs; injection hs with _ hs; injection hs with hs _
          rw [if_pos ⟨rfl, by omega⟩]; rfl
    · rw [← hr, Nat.min_eq_left (by omega), if_neg (by simpa using e0)]
      dsimp only
      rw [if_neg (by omega), List.length_append, List.length_singleton, Option.map_map]
      congr 1
      funext l; simp
    · rw [e0] at f7; exact f7
    · dsimp only; rw [hz.slLen, (f7.nm 0 rfl).slLen]; simp; omega
    · rw [← hr]
      by_cases hq24 : q ≤ 24
      · rw [Nat.min_eq_left hq24, if_pos e0]; rfl
      · split
        · rfl
        · rename_i v k' a' hs
          split at hs
          · cases hs
          · injection hs with hs; injection hs with _ hs; injection hs with hs _
            rw [if_pos ⟨rfl, by omega⟩]; rfl
  · have hzl : zs.length = m := by omega
    rw [hzl, Nat.sub_self, readN] at hr
    have hr' : readN true xs m 0 0 0 = some zs := by rw [← hr]; simp
    rw [hr']
    have hp : packE zs = (pkB (packTo zs zs.length), 0) := by unfold packE; rw [if_neg (by omega)]
    refine fCallTE f3 (rPack_any hz) fun v w4 f4 => ?_
    rw [hp] at f4 ⊢
    refine gIf_nneq (fun _ => gCall_b (bEqual_any (hb.ev f4.old) (f4.nm 0 rfl)) fun w5 e5 => ?_) (fun e => absurd rfl e)
    subst e5
    dsimp only
    refine gIf_ndec (fun hne => ?_) (fun he => ?_)
    · rw [if_neg (fun e => hne e.symm)]; exact TupI.err w _ f4.old 4
    · rw [if_pos he.symm]; exact ⟨lv, rfl, f4.old, f4.on 1 rfl⟩
end Go.Proofs.YtjmdoflcmipejaaV

/- Package num: the reader. -/
namespace Go.Proofs.YtjmdoflcmipejaaV
open Go Go.RowKit

def Rd (w : World) (ad : Addr) (b : Value) (xs : List Int) (a : Nat) (er : Int) : Prop := St w ad [b, .int .i64 a, .int .i64 er] ∧ Nm .u8 w b xs ∧ b.ownBlock ≠ some ad.block ∧ a ≤ xs.length ∧ xs.length ≤ 10000000000
theorem Rd.ev {w w' : World} {ad : Addr} {b : Value} {xs : List Int} {a : Nat} {er : Int} (h : Rd w ad b xs a er) (he : Ev w w') : Rd w' ad b xs a er := ⟨h.1.ev he, h.2.1.ev he, h.2.2⟩
theorem Rd.ch {S : SS} {w w' : World} {ad : Addr} {b : Value} {xs : List Int} {a : Nat} {er : Int} (h : Rd w ad b xs a er) (hc : Ch S w w') (hs : ∀ k i, (k = ad.block ∨ b.ownBlock = some k) → ¬ S k i) : Rd w' ad b xs a er :=
  ⟨h.1.ch hc fun _ _ => hs _ _ (.inl rfl), h.2.1.ch hc fun g i hg => hs g i (.inr hg), h.2.2⟩
theorem Rd.drew {w : World} {ad : Addr} {b : Value} {xs : List Int} {a : Nat} {er : Int} (h : Rd w ad b xs a er) : Rd w.drew ad b xs a er := h
/-- A reader's step. -/
def RS (w w' : World) (ad : Addr) (b : Value) (xs : List Int) (a : Nat) (er : Int) : Prop := Rd w' ad b xs a er ∧ Ch (Rg ad 3) w w'
theorem RS.trans {w w1 w2 : World} {ad : Addr} {b : Value} {xs : List Int} {a a2 : Nat} {er er2 : Int} (h : RS w w1 ad b xs a er) (h2 : RS w1 w2 ad b xs a2 er2) : RS w w2 ad b xs a2 er2 :=
  ⟨h2.1, Ch.trans h.2 h2.2 fun _ _ _ h => h⟩
theorem RS.ev {w w1 w2 : World} {ad : Addr} {b : Value} {xs : List Int} {a : Nat} {er : Int} (h : RS w w1 ad b xs a er) (he : Ev w1 w2) : RS w w2 ad b xs a er :=
  ⟨h.1.ev he, Ch.trans h.2 he fun _ _ _ h => h.elim⟩
theorem Rd.step {w : World} {ad : Addr} {b : Value} {xs : List Int} {a : Nat} {er : Int} (h : Rd w ad b xs a er) : RS w w ad b xs a er := ⟨h, Ch.refl _ w⟩
/-- A store into its place or its fault. -/
theorem Rd.set {w w' : World} {ad : Addr} {b : Value} {xs : List Int} {a : Nat} {er : Int} (h : Rd w ad b xs a er) {j : Nat} {u : Value} {a2 : Nat} {er2 : Int} (hj : j < 3) (hc : Ch (Rg (ad.add j) 1) w w')
    (hS : St w' ad ([b, .int .i64 a, .int .i64 er].set j u)) (he : ([b, .int .i64 a, .int .i64 er] : List Value).set j u = [b, .int .i64 a2, .int .i64 er2]) (ha : a2 ≤ xs.length) : RS w w' ad b xs a2 er2 := by
  have hc3 : Ch (Rg ad 3) w w' := hc.mono fun n i _ hh => by
    have h1 := hh.1; have h2 := hh.2
    rw [Addr.add_none h.1.1] at h1 h2
    exact ⟨h1, by dsimp only at h2; omega, by dsimp only at h2; omega⟩
  exact ⟨⟨he ▸ hS, h.2.1.ch hc3 fun g i hg hh => h.2.2.1 (by rw [hg, hh.1]), h.2.2.1, ha, h.2.2.2.2⟩, hc3⟩
def lookL (xs : List Int) (a : Nat) : Nat → Nat → Int → Int × Int × Int
  | 0, _, _ => (0, 0, 4)
  | f + 1, n, v =>
    if xs.length ≤ a + n then (0, 0, 3)
    else if n = 9 ∧ rd xs ((a + n : Nat) : Int) > 1 then (0, 0, 4)
    else if rd xs ((a + n : Nat) : Int) < 128 then
      (if rd xs ((a + n : Nat) : Int) = 0 ∧ n > 0 then (0, 0, 4) else (v + rd xs ((a + n : Nat) : Int) % 128 * ((2 ^ (7 * n) : Nat) : Int), ((a + n + 1 : Nat) : Int), 0))
    else lookL xs a f (n + 1) (v + rd xs ((a + n : Nat) : Int) % 128 * ((2 ^ (7 * n) : Nat) : Int))
def lookI (xs : List Int) (a : Nat) : Int × Int × Int := lookL xs a 10 0 0
def Look (w : World) (r : Int × Int × Int) (e : Ending) (w' : World) : Prop := e = .returned (.tuple #[.int .u64 r.1, .int .i64 r.2.1, .int .i64 r.2.2]) ∧ Ev w w'
theorem pow7_le {n : Nat} (h : n ≤ 8) : (2 ^ (7 * n) : Nat) ≤ 72057594037927936 := Nat.le_trans (Nat.pow_le_pow_right (by decide) (show 7 * n ≤ 56 by omega)) (by decide)
theorem look_any {ad : Addr} {b : Value} {xs : List Int} {a : Nat} {er : Int} {w : World} (h : Rd w ad b xs a er) : Calls P n_num_Reader_look #[.pointer (some ad)] w (Look w (lookI xs a)) := by
  have hal := h.2.2.2.1
  have hxl := h.2.2.2.2
  refine of_num_Reader_look ⟨fun w' => lookI xs a = (0, 0, 4) ∧ Ev w w', ?_, fun _ w' ⟨h1, h2⟩ => ⟨by rw [h1], h2⟩⟩
  refine ⟨fun v i w1 => ∃ n : Nat, i = n ∧ n ≤ 10 ∧ lookL xs a (10 - n) n v = lookI xs a ∧ 0 ≤ v ∧ (n ≤ 9 → v < ((2 ^ (7 * n) : Nat) : Int)) ∧ Ev w w1, fun _ i _ => 10 - i.toNat, ⟨0, rfl, by omega, rfl, by omega, (fun _ => by decide), Ch.refl _ w⟩, ?_⟩
  rintro _ v i w1 ⟨n, rfl, hn, hL, hv0, hv1, h1⟩
  have hR : Rd w1.drew ad b xs a er := (h.ev h1).drew
  refine gIf_dec (fun hlt => gNil_some (gLoadB_i (at1 ((h.ev h1).1.cell (j := 1) rfl)) (gNil_some (gLoadB_v (at1 ((h.ev h1).1.cell (j := 0) rfl)) (gLen_nm h.2.1 (gIf_dec (fun hge => ?_) (fun hin => ?_))))))) (fun hge => ?_)
  · rw [i64_id (by omega) (by omega)] at hge
    rw [show 10 - n = (9 - n) + 1 by omega, lookL, if_pos (by omega)] at hL
    exact ⟨by rw [← hL], h1.drew⟩
  · rw [i64_id (by omega) (by omega)] at hin
    refine gNil_some (gLoadB_v (at1 (hR.1.cell (j := 0) rfl)) (gNil_some (gLoadB_i (at1 (hR.1.cell (j := 1) rfl)) ?_)))
    rw [show i64 ((a : Int) + n) = ((a + n : Nat) : Int) by rw [i64_id (by omega) (by omega)]; omega]
    refine gIdx_nm hR.2.1 (by omega) (by omega) fun ad2 c2 _ => gLoadB_i (at1 c2) (gBin_shl (by rw [i64_id (by omega) (by omega)]; omega) ?_)
    have hc := rd_u8 h.2.1.2 ((a + n : Nat) : Int)
    generalize hcr : rd xs ((a + n : Nat) : Int) = c at hc
    have eA : iAnd .u8 c 127 = c % 128 := by
      have := iAnd_mask (k := .u8) (a := c) (m := 7) (n := 127) rfl (by omega) (by rw [show (2 : Int) ^ IntKind.u8.bits = 256 by decide]; omega) rfl (by decide)
      rw [show ((127 : Nat) : Int) = 127 from rfl] at this
      rw [this]; rfl
    have eU : u64 (c % 128) = c % 128 := by rw [u64_def]; omega
    have e7 : i64 (7 * (n : Int)) = ((7 * n : Nat) : Int) := by rw [i64_id (by omega) (by omega)]; omega
    rw [eA, eU, e7]
    have hstep : lookL xs a (10 - n) n v = if n = 9 ∧ c > 1 then (0, 0, 4) else if c < 128 then (if c = 0 ∧ n > 0 then (0, 0, 4) else (v + c % 128 * ((2 ^ (7 * n) : Nat) : Int), ((a + n + 1 : Nat) : Int), 0)) else lookL xs a (10 - (n + 1)) (n + 1) (v + c % 128 * ((2 ^ (7 * n) : Nat) : Int)) := by
      rw [show 10 - n = (10 - (n + 1)) + 1 by omega, lookL, if_neg (by omega), hcr]
    rw [hstep] at hL
    -- what is or'ed, where it is used
    have hor : ¬ (n = 9 ∧ c > 1) → iOr .u64 v (iShl .u64 (c % 128) ((7 * n : Nat) : Int)) = v + c % 128 * ((2 ^ (7 * n) : Nat) : Int) ∧ v + c % 128 * ((2 ^ (7 * n) : Nat) : Int) < 18446744073709551616 := fun hne => by
      have hb : v + c % 128 * ((2 ^ (7 * n) : Nat) : Int) < 18446744073709551616 := by
        by_cases h9 : n = 9
        · subst h9
          have := hv1 (by omega)
          have e : ((2 ^ (7 * 9) : Nat) : Int) = 9223372036854775808 := by decide
          rw [e] at this ⊢; omega
        · have h1 := hv1 (by omega)
          have hq : ((2 ^ (7 * n) : Nat) : Int) ≤ ((72057594037927936 : Nat) : Int) := Int.ofNat_le.2 (pow7_le (n := n) (by omega))
          generalize ((2 ^ (7 * n) : Nat) : Int) = q at *
          have : c % 128 * q ≤ 127 * q := Int.mul_le_mul_of_nonneg_right (by omega) (by omega)
          omega
      refine ⟨?_, hb⟩
      rw [iShl_u (k := .u64) rfl (by have : IntKind.u64.bits = 64 := rfl; omega) (by omega), bits64, Int.emod_eq_of_lt (Int.mul_nonneg (by omega) (by omega)) (by have : (0 : Int) ≤ v := hv0; show _ < (18446744073709551616 : Int); omega)]
      exact iOr_add rfl hv0 (hv1 (by omega)) (by omega) (by rw [bits64]; exact hb)
    refine ⟨fun w' => ¬ (n = 9 ∧ c > 1) ∧ Ev w w', ?_, ?_⟩
    · refine gIf_eq (fun e9 => gIf_dec (fun hg => ⟨?_, h1.drew.drew⟩) (fun hg => ⟨fun hh => hg hh.2, h1.drew.drew⟩)) (fun e9 => ⟨fun hh => e9 (by rw [hh.1]; rfl), h1.drew.drew⟩)
      rw [if_pos ⟨by omega, hg⟩] at hL; exact hL.symm
    · rintro _ w2 ⟨hne, h2⟩
      obtain ⟨ho, hob⟩ := hor hne
      rw [if_neg hne] at hL
      rw [ho]
      have fin : ¬ (c = 0 ∧ n > 0) → c < 128 → gNil (some ad) fun (t59 : Addr) => gLoadB P t_int (shI .i64) (.pointer (some (Addr.add t59 1))) (fun w' => w' = w2.drew) fun (t61 : Int) => Look w (lookI xs a) (.returned (.tuple #[.int .u64 (v + c % 128 * ((2 ^ (7 * n) : Nat) : Int)), .int .i64 (i64 ((i64 (t61 + n)) + 1)), .int .i64 0])) w2.drew := fun hz hlt => by
        refine gNil_some (gLoadB_i (at1 ((h.ev h2).1.cell (j := 1) rfl)) ⟨?_, h2.drew⟩)
        rw [if_pos hlt, if_neg hz] at hL
        rw [← hL, i64_id (n := (a : Int) + n) (by omega) (by omega), i64_id (by omega) (by omega)]; rfl
      refine gIf_dec (fun hlt => gIf_eq (fun ez => gIf_dec (fun hp => ⟨?_, h2⟩) (fun hp => fin (fun hh => hp (by omega)) hlt)) (fun ez => fin (fun hh => ez hh.1) hlt)) (fun hge => ?_)
      · rw [if_pos hlt, if_pos ⟨ez, by omega⟩] at hL; exact hL.symm
      · rw [if_neg hge] at hL
        rw [i64_id (n := (n : Int) + 1) (by omega) (by omega)]
        have hn9 : n ≠ 9 := fun e => hne ⟨e, by omega⟩
        refine ⟨⟨n + 1, by omega, by omega, hL, Int.add_nonneg hv0 (Int.mul_nonneg (by omega) (by omega)), fun h9 => ?_, h2⟩, by dsimp only; omega⟩
        have h3 := hv1 (by omega)
        rw [show 7 * (n + 1) = 7 * n + 7 by omega, Nat.pow_add]
        have e : ((2 ^ (7 * n) * 2 ^ 7 : Nat) : Int) = ((2 ^ (7 * n) : Nat) : Int) * 128 := by rw [Int.natCast_mul]; rfl
        rw [e]
        have : c % 128 * ((2 ^ (7 * n) : Nat) : Int) ≤ 127 * ((2 ^ (7 * n) : Nat) : Int) := Int.mul_le_mul_of_nonneg_right (by omega) (by omega)
        omega
  · have : n = 10 := by omega
    subst this
    rw [show 10 - 10 = 0 from rfl, lookL] at hL
    exact ⟨hL.symm, h1⟩
theorem lookL_rng {xs : List Int} {a : Nat} (hx : inR .u8 xs) : ∀ (f n : Nat) (v : Int), f + n = 10 → 0 ≤ v → (n ≤ 9 → v < ((2 ^ (7 * n) : Nat) : Int)) →
    (lookL xs a f n v).2.2 = 0 ∨ (lookL xs a f n v).2.2 = 3 ∨ (lookL xs a f n v).2.2 = 4
  | 0, n, v, _, _, _ => by simp [lookL]
  | f + 1, n, v, hf, h0, h1 => by
    rw [lookL]
    split
    · simp
    · split
      · simp
      · split
        · split <;> simp
        · refine lookL_rng hx f (n + 1) _ (by omega) (Int.add_nonneg h0 (Int.mul_nonneg (by omega) (by omega))) fun h9 => ?_
          have h3 := h1 (by omega)
          rw [show 7 * (n + 1) = 7 * n + 7 by omega, Nat.pow_add]
          have e : ((2 ^ (7 * n) * 2 ^ 7 : Nat) : Int) = ((2 ^ (7 * n) : Nat) : Int) * 128 := by rw [Int.natCast_mul]; rfl
          rw [e]
          have : rd xs ((a + n : Nat) : Int) % 128 * ((2 ^ (7 * n) : Nat) : Int) ≤ 127 * ((2 ^ (7 * n) : Nat) : Int) := Int.mul_le_mul_of_nonneg_right (by omega) (by omega)
          omega
end Go.Proofs.YtjmdoflcmipejaaV

/- Package num: the reader, second part. -/
namespace Go.Proofs.YtjmdoflcmipejaaV
open Go Go.RowKit

theorem lookL_end {xs : List Int} {a : Nat} : ∀ (f n : Nat) (v : Int), (lookL xs a f n v).2.2 = 0 → 0 ≤ v → (a + n : Int) < (lookL xs a f n v).2.1 ∧ (lookL xs a f n v).2.1 ≤ xs.length ∧ 0 ≤ (lookL xs a f n v).1
  | 0, n, v, h, _ => by simp [lookL] at h
  | f + 1, n, v, h, hv => by
    rw [lookL] at h ⊢
    split at h
    · simp at h
    · rename_i h1
      rw [if_neg h1]
      split at h
      · simp at h
      · rename_i h2
        rw [if_neg h2]
        split at h
        · rename_i h3
          rw [if_pos h3]
          split at h
          · simp at h
          · rename_i h4
            rw [if_neg h4]
            exact ⟨by dsimp only; omega, by dsimp only; omega, Int.add_nonneg hv (Int.mul_nonneg (by omega) (Int.natCast_nonneg _))⟩
        · rename_i h3
          rw [if_neg h3]
          have := lookL_end f (n + 1) _ h (Int.add_nonneg hv (Int.mul_nonneg (by omega) (Int.natCast_nonneg _)))
          exact ⟨by omega, this.2⟩
theorem lookI_end {xs : List Int} {a : Nat} (h : (lookI xs a).2.2 = 0) : (a : Int) < (lookI xs a).2.1 ∧ (lookI xs a).2.1 ≤ xs.length ∧ 0 ≤ (lookI xs a).1 := by
  unfold lookI at h ⊢
  have := lookL_end 10 0 0 h (by decide); exact ⟨by simpa using this.1, this.2⟩
theorem RS.pre {w w1 w2 : World} {ad : Addr} {b : Value} {xs : List Int} {a : Nat} {er : Int} (he : Ev w w1) (h : RS w1 w2 ad b xs a er) : RS w w2 ad b xs a er := ⟨h.1, Ch.trans (he.mono fun _ _ _ h => h.elim) h.2 fun _ _ _ h => h⟩
/-- The next number: it, where it ends, and the fault. -/
def numR (xs : List Int) (a : Nat) (er most : Int) : Int × Nat × Int :=
  if er ≠ 0 then (0, a, er)
  else if (lookI xs a).2.2 = 0 ∧ (lookI xs a).1 > most then (0, a, 4)
  else if (lookI xs a).2.2 ≠ 0 then (0, a, (lookI xs a).2.2)
  else ((lookI xs a).1, (lookI xs a).2.1.toNat, 0)
theorem num_any {ad : Addr} {b : Value} {xs : List Int} {a : Nat} {er most : Int} {w : World} (h : Rd w ad b xs a er) : Calls P n_num_Reader_num #[.pointer (some ad), .int .u64 most] w (fun e w' => e = .returned (.int .u64 (numR xs a er most).1) ∧ RS w w' ad b xs (numR xs a er most).2.1 (numR xs a er most).2.2) := by
  refine of_num_Reader_num ⟨fun w' => er = 0 ∧ w' = w, gEq_pnil (gIf_nf (gNil_some (gLoad_i (h.1.cell (j := 2) rfl) (gIf_neq (fun hne => ?_) (fun he => ⟨he, rfl⟩))))), ?_⟩
  · unfold numR; rw [if_pos hne]; exact ⟨rfl, h.step⟩
  rintro _ _ ⟨rfl, rfl⟩
  rename_i w
  have hl := lookI_end (xs := xs) (a := a)
  unfold numR
  rw [if_neg (by simp)]
  refine gCall_of (look_any h) ?_
  rintro _ w1 ⟨rfl, h1⟩
  generalize lookI xs a = r at hl
  obtain ⟨v, a2, e⟩ := r
  dsimp only at hl ⊢
  have hR := h.ev h1
  refine ⟨v, a2, e, rfl, fun e' w' => e' = (if e = 0 ∧ v > most then 4 else e) ∧ w' = w1, ?_, ?_⟩
  · exact gIf_eq (fun e0 => gIf_dec (fun hg => ⟨by rw [if_pos ⟨e0, hg⟩], rfl⟩) (fun hg => ⟨by rw [if_neg (fun hh => hg hh.2)], rfl⟩)) (fun e0 => ⟨by rw [if_neg (fun hh => e0 hh.1)], rfl⟩)
  · rintro _ e' _ ⟨he', rfl⟩
    refine gIf_neq (fun hne => ?_) (fun he0 => ?_)
    · refine gNil_some (gStore_st hR.1 (j := 2) (by simp) rfl rfl fun w2 h2 _ hS2 => ?_)
      have hRS := hR.set (j := 2) (a2 := a) (er2 := e') (by decide) h2 hS2 rfl hR.2.2.2.1
      have : RS w w2 ad b xs a e' := ⟨hRS.1, Ch.trans (h1.mono fun _ _ _ h => h.elim) hRS.2 fun _ _ _ h => h⟩
      by_cases hc : e = 0 ∧ v > most
      · rw [if_pos hc] at he' ⊢; subst he'; exact ⟨rfl, this⟩
      · rw [if_neg hc] at he' ⊢; subst he'; rw [if_pos hne]; exact ⟨rfl, this⟩
    · subst he0
      have hc : ¬ (e = 0 ∧ v > most) := fun hc => by rw [if_pos hc] at he'; cases he'
      rw [if_neg hc] at he' ⊢
      rw [← he'] at hl ⊢
      rw [if_neg (by simp)]
      have hl2 := hl rfl
      refine gNil_some (gStore_st hR.1 (j := 1) (by simp) rfl rfl fun w2 h2 _ hS2 => ⟨rfl, ?_⟩)
      have hRS := hR.set (j := 1) (a2 := a2.toNat) (er2 := 0) (by decide) h2 hS2 (by rw [show ((a2.toNat : Nat) : Int) = a2 by omega]; rfl) (by omega)
      exact ⟨hRS.1, Ch.trans (h1.mono fun _ _ _ h => h.elim) hRS.2 fun _ _ _ h => h⟩
theorem rNum_any {ad : Addr} {b : Value} {xs : List Int} {a : Nat} {er : Int} {w : World} (h : Rd w ad b xs a er) : Calls P n_num_Reader_Num #[.pointer (some ad)] w (fun e w' => e = .returned (.int .u64 (numR xs a er 18446744073709551615).1) ∧ RS w w' ad b xs (numR xs a er 18446744073709551615).2.1 (numR xs a er 18446744073709551615).2.2) :=
  of_num_Reader_Num (gCall_i (num_any h) fun _ h => ⟨rfl, h⟩)
theorem lookL_64 {xs : List Int} {a : Nat} (hx : inR .u8 xs) : ∀ (f n : Nat) (v : Int), f + n = 10 → 0 ≤ v → (n ≤ 9 → v < ((2 ^ (7 * n) : Nat) : Int)) → (lookL xs a f n v).1 < 18446744073709551616
  | 0, n, v, _, _, _ => by simp [lookL]
  | f + 1, n, v, hf, h0, h1 => by
    rw [lookL]
    split
    · simp
    · split
      · simp
      · rename_i hne
        have h3 := h1 (by omega)
        split
        · split
          · simp
          · show v + _ < _
            by_cases h9 : n = 9
            · subst h9
              have := rd_u8 hx ((a + 9 : Nat) : Int)
              have e : ((2 ^ (7 * 9) : Nat) : Int) = 9223372036854775808 := by decide
              rw [e] at h3 ⊢; omega
            · have hq : ((2 ^ (7 * n) : Nat) : Int) ≤ ((72057594037927936 : Nat) : Int) := Int.ofNat_le.2 (pow7_le (n := n) (by omega))
              have : rd xs ((a + n : Nat) : Int) % 128 * ((2 ^ (7 * n) : Nat) : Int) ≤ 127 * ((2 ^ (7 * n) : Nat) : Int) := Int.mul_le_mul_of_nonneg_right (by omega) (by omega)
              omega
        · refine lookL_64 hx f (n + 1) _ (by omega) (Int.add_nonneg h0 (Int.mul_nonneg (by omega) (Int.natCast_nonneg _))) fun h9 => ?_
          rw [show 7 * (n + 1) = 7 * n + 7 by omega, Nat.pow_add]
          have e : ((2 ^ (7 * n) * 2 ^ 7 : Nat) : Int) = ((2 ^ (7 * n) : Nat) : Int) * 128 := by rw [Int.natCast_mul]; rfl
          rw [e]
          have : rd xs ((a + n : Nat) : Int) % 128 * ((2 ^ (7 * n) : Nat) : Int) ≤ 127 * ((2 ^ (7 * n) : Nat) : Int) := Int.mul_le_mul_of_nonneg_right (by omega) (by omega)
          omega
theorem lookI_rng {xs : List Int} {a : Nat} (hx : inR .u8 xs) (h : (lookI xs a).2.2 = 0) : 0 ≤ (lookI xs a).1 ∧ (lookI xs a).1 < 18446744073709551616 := ⟨(lookL_end 10 0 0 h (by decide)).2.2, lookL_64 hx 10 0 0 rfl (by decide) (fun _ => by decide)⟩
theorem numR_rng {xs : List Int} {a : Nat} {er most : Int} (hx : inR .u8 xs) : 0 ≤ (numR xs a er most).1 ∧ (numR xs a er most).1 < 18446744073709551616 := by
  unfold numR
  split
  · simp
  · split
    · simp
    · split
      · simp
      · rename_i h; exact lookI_rng hx (by omega)
theorem numR_most {xs : List Int} {a : Nat} {er most : Int} (hm : 0 ≤ most) : (numR xs a er most).1 ≤ most := by
  unfold numR
  split
  · exact hm
  · split
    · exact hm
    · rename_i h2
      split
      · exact hm
      · rename_i h3; dsimp only; omega
theorem numR_at {xs : List Int} {a : Nat} {er most : Int} (ha : a ≤ xs.length) : a ≤ (numR xs a er most).2.1 ∧ (numR xs a er most).2.1 ≤ xs.length := by
  unfold numR
  split
  · exact ⟨Nat.le_refl _, ha⟩
  · split
    · exact ⟨Nat.le_refl _, ha⟩
    · split
      · exact ⟨Nat.le_refl _, ha⟩
      · rename_i h
        have := lookI_end (xs := xs) (a := a) (by simpa using h)
        dsimp only; omega
/-- The next bytes. -/
def rawR (xs : List Int) (a : Nat) (er n : Int) : List Int × Nat × Int :=
  if er ≠ 0 ∨ n ≤ 0 then ([], a, er) else if n > (xs.length : Int) - a then ([], a, 3) else ((xs.drop a).take n.toNat, a + n.toNat, 0)
def RawE (w : World) (ad : Addr) (b : Value) (xs : List Int) (r : List Int × Nat × Int) (e : Ending) (w' : World) : Prop := ∃ y, e = .returned y ∧ RS w w' ad b xs r.2.1 r.2.2 ∧ ON .u8 eB w' w.heap.size y r.1
theorem rRaw_any {ad : Addr} {b : Value} {xs : List Int} {a : Nat} {er n : Int} {w : World} (h : Rd w ad b xs a er) (hn : n ≤ 9223372036854775807) : Calls P n_num_Reader_Raw #[.pointer (some ad), .int .i64 n] w (RawE w ad b xs (rawR xs a er n)) := by
  have hal := h.2.2.2.1
  have hxl := h.2.2.2.2
  refine of_num_Reader_Raw ⟨fun w' => er = 0 ∧ 0 < n ∧ w' = w, gEq_pnil (gIf_nf (gNil_some (gLoad_i (h.1.cell (j := 2) rfl) (gIf_nneq (fun he => gIf_dec (fun hle => ?_) (fun hgt => ⟨he, by omega, rfl⟩)) (fun hne => ?_))))), ?_⟩
  · unfold rawR; rw [if_pos (.inr hle)]; exact ⟨_, rfl, h.step, ON.nil _ _ _ _⟩
  · unfold rawR; rw [if_pos (.inl hne)]; exact ⟨_, rfl, h.step, ON.nil _ _ _ _⟩
  rintro _ _ ⟨rfl, hn0, rfl⟩
  rename_i w
  unfold rawR
  rw [if_neg (by omega)]
  refine gNil_some (gLoadB_v (at1 (h.1.cell (j := 0) rfl)) (gLen_nm h.2.1 (gNil_some (gLoadB_i (at1 (h.1.cell (j := 1) rfl)) ?_))))
  rw [i64_id (n := (xs.length : Int) - a) (by omega) (by omega)]
  refine gIf_dec (fun hg => ?_) (fun hle => ?_)
  · rw [if_pos hg]
    refine gNil_some (gStore_st h.drew.1 (j := 2) (by simp) rfl rfl fun w2 h2 _ hS2 => ⟨_, rfl, ?_, ON.nil _ _ _ _⟩)
    exact RS.pre (Ev.drew0 w) (h.drew.set (j := 2) (a2 := a) (er2 := 3) (by decide) h2 hS2 rfl hal)
  · rw [if_neg hle]
    obtain ⟨m, rfl⟩ : ∃ m : Nat, n = m := ⟨n.toNat, by omega⟩
    rw [Int.toNat_natCast]
    refine gNil_some (gLoad_i (h.drew.1.cell (j := 1) rfl) (gNil_some (gStore_st h.drew.1 (j := 1) (by simp) rfl rfl fun w2 h2 hs2 hS2 => ?_)))
    have hRS : RS w w2 ad b xs (a + m) 0 := RS.pre (Ev.drew0 w) <| h.drew.set (j := 1) (a2 := a + m) (er2 := 0) (by decide) h2 hS2 (by rw [i64_id (by omega) (by omega)]; rfl) (by omega)
    have hR := hRS.1.drew
    refine ⟨fun w' => Rd w' ad b xs (a + m) 0, hR, gNil_some (gLoadB_v (fun w' h => h.1.cell (j := 0) rfl) (gNil_some (gLoadB_i (fun w' h => h.1.cell (j := 1) rfl) (gNil_some (gLoadB_i (fun w' h => h.1.cell (j := 1) rfl) ?_)))))⟩
    rw [show i64 (((a + m : Nat) : Int) - (m : Int)) = (a : Int) by rw [i64_id (by omega) (by omega)]; omega]
    refine gSlice_nm hR.2.1 a (a + m) (.inr ⟨_, rfl⟩) (.inr ⟨_, rfl⟩) (by omega) (by omega) fun hs => ?_
    rw [Nat.add_sub_cancel_left] at hs
    refine gApp_on (ON.nil .u8 eB w2.drew w.heap.size) hs (by rw [List.length_take, List.length_drop]; simp; omega) (Nat.le_of_eq hs2.symm) fun y w3 hy hc hm => ?_
    have h3 : Ev w2.drew w3 := hc.mono fun _ _ _ hh => by cases hh
    exact ⟨hR.ev h3, y, rfl, RS.ev hRS ((Ev.drew0 w2).trans h3), by simpa using hy⟩
end Go.Proofs.YtjmdoflcmipejaaV

/- Package num: the reader, third part; nil readers; laws NumNil. -/
namespace Go.Proofs.YtjmdoflcmipejaaV
open Go Go.RowKit

theorem rLeft_any {ad : Addr} {b : Value} {xs : List Int} {a : Nat} {er : Int} {w : World} (h : Rd w ad b xs a er) : Calls P n_num_Reader_Left #[.pointer (some ad)] w (fun e w' => e = .returned (.int .i64 ((xs.length : Int) - a)) ∧ Ev w w') := by
  have hal := h.2.2.2.1
  have hxl := h.2.2.2.2
  refine of_num_Reader_Left (gEq_pnil (gIf_f (gNil_some (gLoadB_v (at1 (h.1.cell (j := 0) rfl)) (gLen_nm h.2.1 (gNil_some (gLoadB_i (at1 (h.1.cell (j := 1) rfl)) ⟨?_, Ev.drew0 w⟩)))))))
  rw [i64_id (by omega) (by omega)]
theorem rErr_any {ad : Addr} {b : Value} {xs : List Int} {a : Nat} {er : Int} {w : World} (h : Rd w ad b xs a er) : Calls P n_num_Reader_Err #[.pointer (some ad)] w (fun e w' => e = .returned (.int .i64 er) ∧ w' = w) :=
  of_num_Reader_Err (gEq_pnil (gIf_f (gNil_some (gLoad_i (h.1.cell (j := 2) rfl) ⟨rfl, rfl⟩))))
def endR (n a : Nat) (er : Int) : Int := if er ≠ 0 then er else if (n : Int) - a > 0 then 4 else 0
theorem rEnd_any {ad : Addr} {b : Value} {xs : List Int} {a : Nat} {er : Int} {w : World} (h : Rd w ad b xs a er) : Calls P n_num_Reader_End #[.pointer (some ad)] w (fun e w' => e = .returned (.int .i64 (endR xs.length a er)) ∧ Ev w w') := by
  refine of_num_Reader_End (gCall_i0 (rErr_any h) (gIf_neq (fun hne => ⟨?_, Ch.refl _ w⟩) (fun he => gCall_i (rLeft_any h) fun w1 h1 => gIf_dec (fun hg => ⟨?_, h1⟩) (fun hg => ⟨?_, h1⟩))))
  · unfold endR; rw [if_pos hne]
  · unfold endR; rw [if_neg (by omega), if_pos hg]
  · unfold endR; rw [if_neg (by omega), if_neg hg]
theorem rNew_any {b : Value} {xs : List Int} {w : World} (hb : Nm .u8 w b xs) (hl : xs.length ≤ 10000000000) : Calls P n_num_New #[b] w (fun e w' => ∃ ad y, e = .returned (.pointer (some ad)) ∧ Ev w w' ∧ w.heap.size ≤ ad.block ∧ Rd w' ad y xs 0 0) := by
  refine of_num_New (gApp_on (ON.nil .u8 eB w w.heap.size) hb (by simp; omega) (Nat.le_refl _) fun y w1 hy hc hm => ⟨hy.one, gBox_of fun ad w2 h2 had hs hS => ?_⟩)
  have h1 : Ev w w1 := hc.mono fun _ _ _ hh => by cases hh
  have hy' := hy.ev h2
  refine ⟨ad, y, rfl, h1.trans h2, by rw [had]; exact h1.size, hS, by simpa using hy'.nm, fun hh => ?_, by omega, hl⟩
  have := (hy.base hh).2
  rw [had] at this; dsimp only at this; omega
/-- The next text. -/
def textR (xs : List Int) (a : Nat) (er most : Int) : List Int × Nat × Int :=
  if er ≠ 0 then ([], a, er)
  else
    let p := numR xs a er (if 0 > most then 0 else most)
    let q := rawR xs p.2.1 p.2.2 p.1
    if q.2.2 ≠ 0 then ([], a, q.2.2) else q
theorem rawR_er {xs : List Int} {a : Nat} {er n : Int} (h : (rawR xs a er n).2.2 = 0) : er = 0 := by
  unfold rawR at h; split at h
  · exact h
  · omega
theorem rText_any {ad : Addr} {b : Value} {xs : List Int} {a : Nat} {er most : Int} {w : World} (h : Rd w ad b xs a er) (hm : most ≤ 9223372036854775807) : Calls P n_num_Reader_Text #[.pointer (some ad), .int .i64 most] w (RawE w ad b xs (textR xs a er most)) := by
  refine of_num_Reader_Text ⟨fun w' => er = 0 ∧ w' = w, gEq_pnil (gIf_nf (gNil_some (gLoad_i (h.1.cell (j := 2) rfl) (gIf_neq (fun hne => ?_) (fun he => ⟨he, rfl⟩))))), ?_⟩
  · unfold textR; rw [if_pos hne]; exact ⟨_, rfl, h.step, ON.nil _ _ _ _⟩
  rintro _ _ ⟨rfl, rfl⟩
  rename_i w
  unfold textR
  rw [if_neg (show ¬ ((0 : Int) ≠ 0) by simp)]
  have hm0 : 0 ≤ (if 0 > most then 0 else most) ∧ (if 0 > most then 0 else most) ≤ 9223372036854775807 := by split <;> omega
  generalize (if 0 > most then 0 else most) = mm at hm0
  rw [show u64 mm = mm by rw [u64_def]; omega]
  refine gNil_some (gLoad_i (h.1.cell (j := 1) rfl) (gCall_i (num_any h) fun w1 h1 => ?_))
  have hr := numR_rng (xs := xs) (a := a) (er := 0) (most := mm) h.2.1.2
  have hm2 := numR_most (xs := xs) (a := a) (er := 0) (most := mm) hm0.1
  dsimp only
  generalize numR xs a 0 mm = p at *
  rw [i64_id (n := p.1) (by omega) (by omega)]
  refine gCall_of (rRaw_any h1.1 (by omega)) ?_
  rintro _ w2 ⟨y, rfl, h2, hy⟩
  have hw2 := h1.trans h2
  generalize rawR xs p.2.1 p.2.2 p.1 = q at *
  refine ⟨y, rfl, gNil_some (gLoad_i (hw2.1.1.cell (j := 2) rfl) (gIf_neq (fun hne => gNil_some (gStore_st hw2.1.1 (j := 1) (by simp) rfl rfl fun w3 h3 _ hS3 => ?_)) (fun he => ?_)))⟩
  · rw [if_pos hne]
    exact ⟨_, rfl, hw2.trans (hw2.1.set (j := 1) (a2 := a) (er2 := q.2.2) (by decide) h3 hS3 rfl h.2.2.2.1), ON.nil _ _ _ _⟩
  · rw [if_neg (by omega)]
    exact ⟨y, rfl, hw2, hy.low h1.2.size⟩
def leN : List Int → Int
  | [] => 0
  | c :: r => c + 256 * leN r
def beN : Int → List Int → Int
  | v, [] => v
  | v, c :: r => beN (v * 256 + c) r
theorem rawR_len {xs : List Int} {a : Nat} {er n : Int} {m : Nat} (hm : n ≤ m) : (rawR xs a er n).1.length ≤ m := by
  unfold rawR; split
  · simp
  · split
    · simp
    · rw [List.length_take]; omega
theorem rawR_u8 {xs : List Int} {a : Nat} {er n : Int} (h : inR .u8 xs) : inR .u8 (rawR xs a er n).1 := by
  unfold rawR; split
  · intro x hx; cases hx
  · split
    · intro x hx; cases hx
    · exact (h.drop _).take _
theorem leN_take {ys : List Int} : ∀ {j : Nat}, j < ys.length → leN (ys.take (j + 1)) = leN (ys.take j) + rd ys j * ((2 ^ (8 * j) : Nat) : Int) := by
  induction ys with
  | nil => intro j h; simp at h
  | cons c r ih =>
    intro j h
    cases j with
    | zero => simp [leN, rd]
    | succ j =>
      have hr : rd (c :: r) ((j + 1 : Nat) : Int) = rd r j := by simp [rd]
      rw [List.take_succ_cons, List.take_succ_cons, leN, leN, ih (by simpa using h), hr, show 8 * (j + 1) = 8 * j + 8 by omega, Nat.pow_add]
      have e : ((2 ^ (8 * j) * 2 ^ 8 : Nat) : Int) = ((2 ^ (8 * j) : Nat) : Int) * 256 := by rw [Int.natCast_mul]; rfl
      rw [e, Int.mul_add]; ac_rfl
theorem leN_bd {ys : List Int} (h : inR .u8 ys) : 0 ≤ leN ys ∧ leN ys < ((2 ^ (8 * ys.length) : Nat) : Int) := by
  induction ys with
  | nil => simp [leN]
  | cons c r ih =>
    have h1 := ih fun x hx => h x (by simp [hx])
    have h2 := h.u8 (x := c) (by simp)
    rw [leN, List.length_cons, show 8 * (r.length + 1) = 8 * r.length + 8 by omega, Nat.pow_add]
    have e : ((2 ^ (8 * r.length) * 2 ^ 8 : Nat) : Int) = ((2 ^ (8 * r.length) : Nat) : Int) * 256 := by rw [Int.natCast_mul]; rfl
    rw [e]; omega
def U64E (w : World) (ad : Addr) (b : Value) (xs : List Int) (v : Int) (r : List Int × Nat × Int) (e : Ending) (w' : World) : Prop := e = .returned (.int .u64 v) ∧ RS w w' ad b xs r.2.1 r.2.2
theorem rLittle_any {ad : Addr} {b : Value} {xs : List Int} {a : Nat} {er n : Int} {w : World} (h : Rd w ad b xs a er) : Calls P n_num_Reader_Little #[.pointer (some ad), .int .i64 n] w (U64E w ad b xs (leN (rawR xs a er (if 8 < n then 8 else n)).1) (rawR xs a er (if 8 < n then 8 else n))) := by
  have hn8 : (if 8 < n then 8 else n) ≤ 8 := by split <;> omega
  refine of_num_Reader_Little ?_
  generalize (if 8 < n then 8 else n) = m at *
  refine gCall_of (rRaw_any h (by omega)) ?_
  have hlen := rawR_len (xs := xs) (a := a) (er := er) (n := m) (m := 8) (by omega)
  rintro _ w1 ⟨y, rfl, h1, hy⟩
  generalize rawR xs a er m = r at *
  refine ⟨y, rfl, gLen_nm hy.nm ⟨fun v i w' => ∃ j : Nat, i = j ∧ j ≤ r.1.length ∧ v = leN (r.1.take j) ∧ w' = w1, fun _ i _ => r.1.length - i.toNat, ⟨0, rfl, by omega, by simp [leN], rfl⟩, ?_⟩⟩
  rintro _ v i _ ⟨j, rfl, hj, rfl, rfl⟩
  refine gIf_dec (fun hlt => gIdx_nm hy.nm (by omega) hlt fun a1 c1 _ => gLoad_i c1 (gBin_shl (by rw [i64_id (by omega) (by omega)]; omega) ?_)) (fun hge => ?_)
  · have hc := rd_u8 hy.2 j
    have hb := leN_bd (hy.2.take j)
    have hb2 := leN_bd (hy.2.take (j + 1))
    rw [leN_take (by omega)] at hb2
    rw [show u64 (rd r.1 j) = rd r.1 j by rw [u64_def]; omega, show i64 (8 * (j : Int)) = ((8 * j : Nat) : Int) by rw [i64_id (by omega) (by omega)]; omega, i64_id (n := (j : Int) + 1) (by omega) (by omega)]
    rw [List.length_take, Nat.min_eq_left (by omega)] at hb hb2
    have h64 : ((2 ^ (8 * (j + 1)) : Nat) : Int) ≤ ((18446744073709551616 : Nat) : Int) := Int.ofNat_le.2 (Nat.le_trans (Nat.pow_le_pow_right (by decide) (show 8 * (j + 1) ≤ 64 by omega)) (by decide))
    rw [iShl_u (k := .u64) rfl (by have : IntKind.u64.bits = 64 := rfl; omega) (by omega), bits64, Int.emod_eq_of_lt (Int.mul_nonneg (by omega) (Int.natCast_nonneg _)) (by show _ < (18446744073709551616 : Int); omega), iOr_add rfl hb.1 hb.2 hc.1 (by rw [bits64]; show _ < (18446744073709551616 : Int); omega)]
    exact ⟨⟨j + 1, by omega, by omega, by rw [leN_take (by omega)], rfl⟩, by dsimp only; omega⟩
  · rw [List.take_of_length_le (by omega)]; exact ⟨rfl, h1⟩
theorem beN_bd {ys : List Int} (h : inR .u8 ys) : ∀ {v : Int} {k : Nat}, 0 ≤ v → v < ((2 ^ (8 * k) : Nat) : Int) → 0 ≤ beN v ys ∧ beN v ys < ((2 ^ (8 * (k + ys.length)) : Nat) : Int) := by
  induction ys with
  | nil => intro v k h0 h1; exact ⟨h0, h1⟩
  | cons c r ih =>
    intro v k h0 h1
    have h2 := h.u8 (x := c) (by simp)
    have h3 : v * 256 + c < ((2 ^ (8 * (k + 1)) : Nat) : Int) := by
      rw [show 8 * (k + 1) = 8 * k + 8 by omega, Nat.pow_add]
      have e : ((2 ^ (8 * k) * 2 ^ 8 : Nat) : Int) = ((2 ^ (8 * k) : Nat) : Int) * 256 := by rw [Int.natCast_mul]; rfl
      rw [e]; omega
    have := ih (fun x hx => h x (by simp [hx])) (v := v * 256 + c) (k := k + 1) (by omega) h3
    rw [beN, List.length_cons, show k + (r.length + 1) = k + 1 + r.length by omega]; exact this
theorem beN_take {ys : List Int} : ∀ {j : Nat} {v : Int}, j < ys.length → beN v (ys.take (j + 1)) = beN v (ys.take j) * 256 + rd ys j := by
  induction ys with
  | nil => intro j v h; simp at h
  | cons c r ih =>
    intro j v h
    cases j with
    | zero => simp [beN, rd]
    | succ j =>
      have hr : rd (c :: r) ((j + 1 : Nat) : Int) = rd r j := by simp [rd]
      rw [List.take_succ_cons, List.take_succ_cons, beN, beN, ih (by simpa using h), hr]
/-! ### A nil reader -/
theorem num_nil {m : Int} {w : World} : Calls P n_num_Reader_num #[.pointer none, .int .u64 m] w (fun e w' => e = .returned (.int .u64 0) ∧ w' = w) := of_num_Reader_num ⟨fun _ => False, gEq_pnil (gIf_nt ⟨rfl, rfl⟩), fun _ _ h => h.elim⟩
theorem rNum_nil {w : World} : Calls P n_num_Reader_Num #[.pointer none] w (fun e w' => e = .returned (.int .u64 0) ∧ w' = w) := of_num_Reader_Num (gCall_i0 num_nil ⟨rfl, rfl⟩)
theorem rText_nil {m : Int} {w : World} : Calls P n_num_Reader_Text #[.pointer none, .int .i64 m] w (fun e w' => e = .returned (.slice none 0 0) ∧ w' = w) := of_num_Reader_Text ⟨fun _ => False, gEq_pnil (gIf_nt ⟨rfl, rfl⟩), fun _ _ h => h.elim⟩
theorem rRaw_nil {m : Int} {w : World} : Calls P n_num_Reader_Raw #[.pointer none, .int .i64 m] w (fun e w' => e = .returned (.slice none 0 0) ∧ w' = w) := of_num_Reader_Raw ⟨fun _ => False, gEq_pnil (gIf_nt ⟨rfl, rfl⟩), fun _ _ h => h.elim⟩
theorem rLittle_nil {m : Int} {w : World} : Calls P n_num_Reader_Little #[.pointer none, .int .i64 m] w (fun e w' => e = .returned (.int .u64 0) ∧ w' = w) :=
  of_num_Reader_Little (gCall_v0 rRaw_nil (gLen_sl ⟨fun v i w' => v = 0 ∧ i = 0 ∧ w' = w, fun _ _ _ => 0, ⟨rfl, rfl, rfl⟩, fun _ v i w' ⟨h1, h2, h3⟩ => by
    subst h1; subst h2; subst h3
    exact gIf_f ⟨rfl, rfl⟩⟩))
theorem rLeft_nil {w : World} : Calls P n_num_Reader_Left #[.pointer none] w (fun e w' => e = .returned (.int .i64 0) ∧ w' = w) := of_num_Reader_Left (gEq_pnil (gIf_t ⟨rfl, rfl⟩))
theorem rErr_nil {w : World} : Calls P n_num_Reader_Err #[.pointer none] w (fun e w' => e = .returned (.int .i64 2) ∧ w' = w) := of_num_Reader_Err (gEq_pnil (gIf_t ⟨rfl, rfl⟩))
theorem rEnd_nil {w : World} : Calls P n_num_Reader_End #[.pointer none] w (fun e w' => e = .returned (.int .i64 2) ∧ w' = w) := of_num_Reader_End (gCall_i0 rErr_nil (gIf_t ⟨rfl, rfl⟩))
end Go.Proofs.YtjmdoflcmipejaaV

/- Package valiseref02: Little, New, Raw, Little of a reader. -/
namespace Go.Proofs.YtjmdoflcmipejaaV
open Go Go.RowKit
theorem byteAt_u8 (v : Int) (k : Nat) : 0 ≤ byteAt v k ∧ byteAt v k < 256 := by unfold byteAt; omega
theorem rfLittle_any {v n : Int} {w : World} (hv : 0 ≤ v) : Calls P n_valiseref02_Little #[.int .u64 v, .int .i64 n] w (NewB w (littleB v (clN n))) := by
  have hcn := clN_le n
  refine of_valiseref02_Little ⟨fun out i w' => ∃ j : Nat, i = j ∧ j ≤ clN n ∧ Fr w w' [oIt .u8 eB out (littleB v j)], fun _ i _ => clN n - i.toNat, ⟨0, rfl, by omega, (Fr.start w).nil0 _ _⟩, ?_⟩
  rintro _ out i w1 ⟨j, rfl, hj, f1⟩
  rw [cl2]
  refine gIf_dec (fun hlt => ?_) (fun hge => ?_)
  · rw [show u64 (i64 (8 * (j : Int))) = ((8 * j : Nat) : Int) by rw [i64_id (by omega) (by omega), u64_def]; omega]
    refine gBin_shr (by omega) ?_
    rw [iShr_div (by show 8 * j ≤ 64; omega) hv, u8_def]
    refine fLit_n [byteAt v j] f1 rfl rfl (fun x hx => by simp at hx; subst hx; exact u8i (byteAt_u8 v j)) fun l w2 f2 => fApp f2 1 rfl (f2.nm 0 rfl) (by rw [littleB_len]; simp; omega) fun o w3 f3 => ?_
    rw [i64_id (n := (j : Int) + 1) (by omega) (by omega)]
    exact ⟨⟨j + 1, rfl, by omega, f3.drop 0⟩, by dsimp only; omega⟩
  · obtain rfl : j = clN n := by omega
    exact ⟨out, rfl, f1.old, f1.on 0 rfl⟩
section
variable {w0 w : World} {F : List It} {xs : List Int} {ad : Addr} {y : Value} {a : Nat} {er : Int}
/-- A reader that is new: its struct, and its bytes. -/
theorem Fr.rd (h : Fr w0 w F) (i j : Nat) (hi : F[i]? = some (sIt ad [y, .int .i64 a, .int .i64 er])) (hj : F[j]? = some (oIt .u8 eB y xs)) (hn : i ≠ j) (ha : a ≤ xs.length) (hl : xs.length ≤ 10000000000) : Rd w ad y xs a er :=
  ⟨h.get i hi, h.nm j hj, fun hg => h.apart hi hj hn ad.block rfl hg, ha, hl⟩
theorem Fr.rs {w' : World} {a2 : Nat} {er2 : Int} (h : Fr w0 w F) (i : Nat) (hi : F[i]? = some (sIt ad [y, .int .i64 a, .int .i64 er])) (g : RS w w' ad y xs a2 er2) : Fr w0 w' (F.set i (sIt ad [y, .int .i64 a2, .int .i64 er2])) :=
  h.upd i hi g.2 (fun k _ hh => .inl hh.1) g.1.1 fun k hk => .inl hk
/-- What New hands back. -/
def NewR (w : World) (xs : List Int) (e : Ending) (w' : World) : Prop := ∃ ad y, e = .returned (.pointer (some ad)) ∧ ∀ {w0 F}, Fr w0 w F → Fr w0 w' (sIt ad [y, .int .i64 0, .int .i64 0] :: oIt .u8 eB y xs :: F)
theorem nNew_any {b : Value} {w : World} (hb : Nm .u8 w b xs) (hl : xs.length ≤ 10000000000) : Calls P n_num_New #[b] w (NewR w xs) := by
  refine of_num_New (gApp_on (ON.nil .u8 eB w w.heap.size) hb (by simp; omega) (Nat.le_refl _) fun y w1 hy hc hm => ⟨hy.one, gBox_of fun ad w2 h2 had hs hS => ?_⟩)
  have h1 : Ev w w1 := hc.mono fun _ _ _ hh => by cases hh
  exact ⟨ad, y, rfl, fun f => (f.newO h1 (by simpa using hy)).new h2 hS fun k hk => by have hk : k = ad.block := hk; subst had; dsimp only at hk; omega⟩
theorem rrNew_any {b : Value} {w : World} (hb : Nm .u8 w b xs) (hl : xs.length ≤ 10000000000) : Calls P n_valiseref02_New #[b] w (NewR w xs) := by
  refine of_valiseref02_New (gApp_on (ON.nil .u8 eB w w.heap.size) hb (by simp; omega) (Nat.le_refl _) fun y w1 hy hc hm => ⟨hy.one, gBox_of fun ad w2 h2 had hs hS => ?_⟩)
  have h1 : Ev w w1 := hc.mono fun _ _ _ hh => by cases hh
  exact ⟨ad, y, rfl, fun f => (f.newO h1 (by simpa using hy)).new h2 hS fun k hk => by have hk : k = ad.block := hk; subst had; dsimp only at hk; omega⟩
theorem fNew {b : Value} {K : Option Addr → World → Prop} (h : Fr w0 w F) (hb : Nm .u8 w b xs) (hl : xs.length ≤ 10000000000) (hk : ∀ ad y w', Fr w0 w' (sIt ad [y, .int .i64 0, .int .i64 0] :: oIt .u8 eB y xs :: F) → K (some ad) w') : gCall P n_num_New shP #[b] w K :=
  gCall_of (nNew_any hb hl) fun _ w' ⟨ad, y, h1, h2⟩ => ⟨some ad, h1, hk ad y w' (h2 h)⟩
theorem frNew {b : Value} {K : Option Addr → World → Prop} (h : Fr w0 w F) (hb : Nm .u8 w b xs) (hl : xs.length ≤ 10000000000) (hk : ∀ ad y w', Fr w0 w' (sIt ad [y, .int .i64 0, .int .i64 0] :: oIt .u8 eB y xs :: F) → K (some ad) w') : gCall P n_valiseref02_New shP #[b] w K :=
  gCall_of (rrNew_any hb hl) fun _ w' ⟨ad, y, h1, h2⟩ => ⟨some ad, h1, hk ad y w' (h2 h)⟩
theorem rrRaw_any {b : Value} {n : Int} {w : World} (h : Rd w ad b xs a er) (hn : n ≤ 9223372036854775807) : Calls P n_valiseref02_Reader_Raw #[.pointer (some ad), .int .i64 n] w (RawE w ad b xs (rawR xs a er n)) := by
  have hal := h.2.2.2.1
  have hxl := h.2.2.2.2
  refine of_valiseref02_Reader_Raw (gNil_some (gLoad_i (h.1.cell (j := 2) rfl) (gIf_neq (fun hne => ?_) (fun he => ?_))))
  · unfold rawR; rw [if_pos (.inl hne)]; exact ⟨_, rfl, h.step, ON.nil _ _ _ _⟩
  subst he
  refine gNil_some (gLoadB_v (at1 (h.1.cell (j := 0) rfl)) (gLen_nm h.2.1 (gNil_some (gLoadB_i (at1 (h.1.cell (j := 1) rfl)) ?_))))
  rw [i64_id (n := (xs.length : Int) - a) (by omega) (by omega)]
  have hraw : rawR xs a 0 n = if (if 0 > n then 0 else n) > (xs.length : Int) - a then ([], a, 3) else ((xs.drop a).take (if 0 > n then 0 else n).toNat, a + (if 0 > n then 0 else n).toNat, 0) := by
    unfold rawR
    by_cases hn0 : n ≤ 0
    · rw [if_pos (.inr hn0)]
      have : (if 0 > n then 0 else n) = 0 := by split <;> omega
      rw [this, if_neg (by omega)]; simp
    · rw [if_neg (by omega), if_neg (show ¬ 0 > n by omega)]
  rw [hraw]
  have hm0 : 0 ≤ (if 0 > n then 0 else n) := by split <;> omega
  generalize (if 0 > n then 0 else n) = m at *
  refine gIf_dec (fun hg => ?_) (fun hle => ?_)
  · rw [if_pos hg]
    refine gNil_some (gStore_st h.drew.1 (j := 2) (by simp) rfl rfl fun w2 h2 _ hS2 => ⟨_, rfl, ?_, ON.nil _ _ _ _⟩)
    exact RS.pre (Ev.drew0 w) (h.drew.set (j := 2) (a2 := a) (er2 := 3) (by decide) h2 hS2 rfl hal)
  · rw [if_neg hle]
    obtain ⟨m, rfl⟩ : ∃ q : Nat, m = q := ⟨m.toNat, by omega⟩
    rw [Int.toNat_natCast]
    refine gNil_some (gLoad_i (h.drew.1.cell (j := 1) rfl) (gNil_some (gStore_st h.drew.1 (j := 1) (by simp) rfl rfl fun w2 h2 hs2 hS2 => ?_)))
    have hRS : RS w w2 ad b xs (a + m) 0 := RS.pre (Ev.drew0 w) <| h.drew.set (j := 1) (a2 := a + m) (er2 := 0) (by decide) h2 hS2 (by rw [i64_id (by omega) (by omega)]; rfl) (by omega)
    have hR := hRS.1.drew
    refine ⟨fun w' => Rd w' ad b xs (a + m) 0, hR, gNil_some (gLoadB_v (fun w' h => h.1.cell (j := 0) rfl) (gNil_some (gLoadB_i (fun w' h => h.1.cell (j := 1) rfl) (gNil_some (gLoadB_i (fun w' h => h.1.cell (j := 1) rfl) ?_)))))⟩
    rw [show i64 (((a + m : Nat) : Int) - (m : Int)) = (a : Int) by rw [i64_id (by omega) (by omega)]; omega]
    refine gSlice_nm hR.2.1 a (a + m) (.inr ⟨_, rfl⟩) (.inr ⟨_, rfl⟩) (by omega) (by omega) fun hs => ?_
    rw [Nat.add_sub_cancel_left] at hs
    refine gApp_on (ON.nil .u8 eB w2.drew w.heap.size) hs (by rw [List.length_take, List.length_drop]; simp; omega) (Nat.le_of_eq hs2.symm) fun y w3 hy hc hm => ?_
    have h3 : Ev w2.drew w3 := hc.mono fun _ _ _ hh => by cases hh
    exact ⟨hR.ev h3, y, rfl, RS.ev hRS ((Ev.drew0 w2).trans h3), by simpa using hy⟩
theorem shl8 {v : Int} (h0 : 0 ≤ v) (h : v < 72057594037927936) : iShl .u64 v 8 = v * ((2 ^ 8 : Nat) : Int) := by
  have e64 : ((2 ^ IntKind.u64.bits : Nat) : Int) = 18446744073709551616 := rfl
  have e8 : ((2 ^ 8 : Nat) : Int) = 256 := rfl
  have := iShl_u (k := .u64) (n := 8) rfl (by decide) h0
  rw [e64, e8, Int.emod_eq_of_lt (by omega) (by omega)] at this
  exact this
theorem leN_drop {ys : List Int} {j : Nat} (hj : j < ys.length) : leN (ys.drop j) = rd ys j + 256 * leN (ys.drop (j + 1)) := by
  rw [List.drop_eq_getElem_cons hj, leN, rd_nat ys j hj]
theorem rrLittle_any {b : Value} {n : Int} {w : World} (h : Rd w ad b xs a er) : Calls P n_valiseref02_Reader_Little #[.pointer (some ad), .int .i64 n] w (U64E w ad b xs (leN (rawR xs a er (if 8 < n then 8 else n)).1) (rawR xs a er (if 8 < n then 8 else n))) := by
  have hn8 : (if 8 < n then 8 else n) ≤ 8 := by split <;> omega
  refine of_valiseref02_Reader_Little ?_
  generalize (if 8 < n then 8 else n) = m at *
  refine gCall_of (rrRaw_any h (by omega)) ?_
  have hlen := rawR_len (xs := xs) (a := a) (er := er) (n := m) (m := 8) (by omega)
  rintro _ w1 ⟨y, rfl, h1, hy⟩
  generalize rawR xs a er m = r at *
  refine ⟨y, rfl, gLen_nm hy.nm ⟨fun v i w' => ∃ j : Nat, i = (j : Int) - 1 ∧ j ≤ r.1.length ∧ v = leN (r.1.drop j) ∧ w1 = w', fun _ i _ => (i + 1).toNat, ⟨r.1.length, by rw [i64_id (by omega) (by omega)], Nat.le_refl _, by rw [List.drop_of_length_le (Nat.le_refl _)]; rfl, rfl⟩, ?_⟩⟩
  rintro _ v i _ ⟨j, rfl, hj, rfl, rfl⟩
  refine gIf_dec (fun hlt => gIdx_nm hy.nm (by omega) (by omega) fun a1 c1 _ => gLoad_i c1 ?_) (fun hge => ?_)
  · obtain ⟨j, rfl⟩ : ∃ q, j = q + 1 := ⟨j - 1, by omega⟩
    rw [show ((j + 1 : Nat) : Int) - 1 = j by omega]
    have hc := rd_u8 hy.2 j
    have hb := leN_bd (hy.2.drop (j + 1))
    have hp : ((2 ^ (8 * (r.1.drop (j + 1)).length) : Nat) : Int) ≤ ((72057594037927936 : Nat) : Int) := by
      rw [List.length_drop]
      exact Int.ofNat_le.2 (Nat.le_trans (Nat.pow_le_pow_right (by decide) (show 8 * (r.1.length - (j + 1)) ≤ 56 by omega)) (by decide))
    have e64 : ((2 ^ IntKind.u64.bits : Nat) : Int) = 18446744073709551616 := rfl
    have e8 : ((2 ^ 8 : Nat) : Int) = 256 := rfl
    rw [shl8 hb.1 (Int.lt_of_lt_of_le hb.2 hp), show u64 (rd r.1 j) = rd r.1 j by rw [u64_def]; omega, iOr_add' (m := 8) rfl hc.1 (by rw [e8]; omega) hb.1 (by rw [e8, e64]; omega), e8, i64_id (n := (j : Int) - 1) (by omega) (by omega)]
    refine ⟨⟨j, rfl, by omega, ?_, rfl⟩, by dsimp only; omega⟩
    rw [leN_drop (j := j) (by omega), Int.mul_comm 256]
  · obtain rfl : j = 0 := by omega
    exact ⟨rfl, h1⟩
end
end Go.Proofs.YtjmdoflcmipejaaV

/- Writers and readers of numbers, in a frame. -/
namespace Go.Proofs.YtjmdoflcmipejaaV
open Go Go.RowKit
section
variable {w0 w w' : World} {F : List It}
theorem Fr.oth {it : It} {S : SS} (h : Fr w0 w F) (i : Nat) (hi : F[i]? = some it) (hc : Ch S w w') (hS : ∀ k q, S k q → it.ft k) : Fr w0 w' (F.eraseIdx i) := by
  refine (h.drop i).ch hc (fun k q hs => (h.ft i hi (hS k q hs)).1) fun jt hj k q hk hs => ?_
  obtain ⟨j, hj2⟩ := List.mem_iff_getElem?.1 hj
  rw [List.getElem?_eraseIdx] at hj2
  split at hj2
  · rename_i hlt
    exact h.apart hi hj2 (by omega) k (hS k q hs) hk
  · rename_i hge
    exact h.apart hi hj2 (by omega) k (hS k q hs) hk
theorem Fr.cons {jt : It} {n : Nat} (h : Fr w0 w F) (hn : w0.heap.size ≤ n) (hF : ∀ it ∈ F, ∀ k, it.ft k → k < n) (ok : jt.ok w) (hf : ∀ k, jt.ft k → n ≤ k) : Fr w0 w (jt :: F) :=
  ⟨ok, fun k hk => Nat.le_trans hn (hf k hk), fun it hi k hk hik => by have := hf k hk; have := hF it hi k hik; omega, h⟩
/-! ### Writers -/
theorem fNewW {K : Addr → World → Prop} (f : Fr w0 w F) (hk : ∀ ad v w', Fr w0 w' (wIt eB ad v [] :: F) → K ad w') : gAlloc P t_num_Writer w K :=
  fAlloc (z := .agg #[.slice none 0 0]) f (by kernel_rfl) fun ad w' f' => hk ad (.slice none 0 0) w' (f'.asW (e := eB) 0 rfl)
theorem fNum {ad : Addr} {v : Value} {xs : List Int} {n : Int} {K : World → Prop} (f : Fr w0 w F) (i : Nat) (hi : F[i]? = some (wIt eB ad v xs)) (hn : 0 ≤ n ∧ n < 18446744073709551616) (hl : xs.length + 10 ≤ 10000000000)
    (hk : ∀ v' w', Fr w0 w' (F.set i (wIt eB ad v' (xs ++ numB n.toNat))) → K w') : gCall P n_num_Writer_Num shU #[.pointer (some ad), .int .u64 n] w K :=
  gCall_u (Num_any (f.get i hi) hn hl) fun w' ⟨v', hw⟩ => hk v' w' (f.wr i hi hw)
theorem fRawW {ad : Addr} {v p : Value} {xs : List Int} {yss : List (List Int)} {K : World → Prop} (f : Fr w0 w F) (i : Nat) (hi : F[i]? = some (wIt eB ad v xs)) (hp : ∀ w', Fr w0 w' (F.eraseIdx i) → NL .u8 w' p yss) (hl : xs.length + yss.flatten.length ≤ 10000000000) (hn : yss.length ≤ 10000000000)
    (hk : ∀ v' w', Fr w0 w' (F.set i (wIt eB ad v' (xs ++ yss.flatten))) → K w') : gCall P n_num_Writer_Raw shU #[.pointer (some ad), p] w K :=
  gCall_u (Raw_any (f.get i hi) (fun w' hc => hp w' (f.oth i hi hc fun k q h => h)) hl hn) fun w' ⟨v', hw⟩ => hk v' w' (f.wr i hi hw)
theorem fBytesW {ad : Addr} {v : Value} {xs : List Int} {K : Value → World → Prop} (f : Fr w0 w F) (i : Nat) (hi : F[i]? = some (wIt eB ad v xs)) (hl : xs.length ≤ 10000000000) (hk : ∀ y w', Fr w0 w' (oIt .u8 eB y xs :: F) → K y w') : gCall P n_num_Writer_Bytes shV #[.pointer (some ad)] w K :=
  gCall_v (Q := fun y w' => Ev w w' ∧ ON .u8 eB w' w.heap.size y xs) (Bytes_W (f.get i hi) hl) fun y w' ⟨h1, h2⟩ => hk y w' (f.newO h1 h2)
/-! ### Readers -/
theorem fNewR {b : Value} {xs : List Int} {K : Option Addr → World → Prop} (f : Fr w0 w F) (hb : Nm .u8 w b xs) (hl : xs.length ≤ 10000000000) (hk : ∀ ad y w', Fr w0 w' (sIt ad [y, .int .i64 ((0 : Nat) : Int), .int .i64 0] :: oIt .u8 eB y xs :: F) → K (some ad) w') : gCall P n_num_New shP #[b] w K :=
  gCall_of (nNew_any hb hl) fun _ w' ⟨ad, y, h1, h2⟩ => ⟨some ad, h1, hk ad y w' (h2 f)⟩
theorem fNumR {ad : Addr} {y : Value} {xs : List Int} {a : Nat} {er : Int} {K : Int → World → Prop} (f : Fr w0 w (sIt ad [y, .int .i64 a, .int .i64 er] :: oIt .u8 eB y xs :: F)) (ha : a ≤ xs.length) (hl : xs.length ≤ 10000000000)
    (hk : ∀ w', Fr w0 w' (sIt ad [y, .int .i64 (numR xs a er 18446744073709551615).2.1, .int .i64 (numR xs a er 18446744073709551615).2.2] :: oIt .u8 eB y xs :: F) → K (numR xs a er 18446744073709551615).1 w') : gCall P n_num_Reader_Num (shI .u64) #[.pointer (some ad)] w K :=
  gCall_i (rNum_any (f.rd 0 1 rfl rfl (by decide) ha hl)) fun w' h => hk w' (f.rs 0 rfl h)
theorem fErrR {ad : Addr} {y : Value} {xs : List Int} {a : Nat} {er : Int} {K : Int → World → Prop} (f : Fr w0 w (sIt ad [y, .int .i64 a, .int .i64 er] :: oIt .u8 eB y xs :: F)) (ha : a ≤ xs.length) (hl : xs.length ≤ 10000000000) (hk : K er w) : gCall P n_num_Reader_Err (shI .i64) #[.pointer (some ad)] w K :=
  gCall_i0 (rErr_any (f.rd 0 1 rfl rfl (by decide) ha hl)) hk
theorem fEndR {ad : Addr} {y : Value} {xs : List Int} {a : Nat} {er : Int} {K : Int → World → Prop} (f : Fr w0 w (sIt ad [y, .int .i64 a, .int .i64 er] :: oIt .u8 eB y xs :: F)) (ha : a ≤ xs.length) (hl : xs.length ≤ 10000000000) (hk : ∀ w', Ev w w' → K (endR xs.length a er) w') : gCall P n_num_Reader_End (shI .i64) #[.pointer (some ad)] w K :=
  gCall_i (rEnd_any (f.rd 0 1 rfl rfl (by decide) ha hl)) hk
theorem fRawR {ad : Addr} {y : Value} {xs : List Int} {a : Nat} {er n : Int} {K : Value → World → Prop} (f : Fr w0 w (sIt ad [y, .int .i64 a, .int .i64 er] :: oIt .u8 eB y xs :: F)) (ha : a ≤ xs.length) (hl : xs.length ≤ 10000000000) (hn : n ≤ 9223372036854775807)
    (hk : ∀ z w', Fr w0 w' (sIt ad [y, .int .i64 (rawR xs a er n).2.1, .int .i64 (rawR xs a er n).2.2] :: oIt .u8 eB y xs :: oIt .u8 eB z (rawR xs a er n).1 :: F) → K z w') : gCall P n_num_Reader_Raw shV #[.pointer (some ad), .int .i64 n] w K := by
  refine gCall_of (rRaw_any (f.rd 0 1 rfl rfl (by decide) ha hl) hn) ?_
  rintro _ w' ⟨z, rfl, h1, h2⟩
  refine ⟨z, rfl, hk z w' ?_⟩
  have f' : Fr w0 w' (sIt ad [y, .int .i64 (rawR xs a er n).2.1, .int .i64 (rawR xs a er n).2.2] :: oIt .u8 eB y xs :: F) := f.rs 0 rfl h1
  have hz : ∀ k, z.ownBlock = some k → w.heap.size ≤ k := fun k hk => (h2.base hk).1
  have hlt : ∀ it ∈ (sIt ad [y, .int .i64 (rawR xs a er n).2.1, .int .i64 (rawR xs a er n).2.2] :: oIt .u8 eB y xs :: F), ∀ k, it.ft k → k < w.heap.size := fun it hi k hk => by
    rcases List.mem_cons.1 hi with rfl | hi
    · exact It.lt (sIt ad [y, .int .i64 a, .int .i64 er]) w k (f.get 0 rfl) hk
    · exact It.lt it w k (f.mem (List.mem_cons_of_mem _ hi)).1 hk
  have f2 := f'.cons (jt := oIt .u8 eB z (rawR xs a er n).1) f.old.size hlt (h2.low (Nat.zero_le _)) hz
  exact f2.picksN 3 [1, 2, 0] (by decide) (by decide)
theorem numR_le {xs : List Int} {a : Nat} {er m : Int} (ha : a ≤ xs.length) : (numR xs a er m).2.1 ≤ xs.length := (numR_at ha).2
theorem rawR_le {xs : List Int} {a : Nat} {er n : Int} (ha : a ≤ xs.length) : (rawR xs a er n).2.1 ≤ xs.length := by
  unfold rawR
  split
  · exact ha
  · split
    · exact ha
    · dsimp only; omega
/-- Slices of which each reads so, in a slice. -/
theorem NL.of {k : IntKind} {p : Value} {us : List Value} {yss : List (List Int)} (hp : Sl w 1 p us.length us) (hl : us.length = yss.length) (h : ∀ (i : Nat) (u : Value) (ys : List Int), us[i]? = some u → yss[i]? = some ys → Nm k w u ys) : NL k w p yss := ⟨us, by rw [← hl]; exact hp, h⟩
end
end Go.Proofs.YtjmdoflcmipejaaV

/- Package audio: a track, packed. -/
namespace Go.Proofs.YtjmdoflcmipejaaV
open Go Go.RowKit
/-- A track, packed by a predictor. -/
noncomputable def pkK (l : List Int) (k : Int) : List Int := (packE (resG (kindG k) l)).1
noncomputable def pkT (l : List Int) : Int × List Int := if (pkK l 4).length < (pkK l (bestO l : Nat)).length then (4, pkK l 4) else ((bestO l : Nat), pkK l (bestO l : Nat))
section
variable {w0 w : World} {F : List It} {l0 : Value} {l : List Int}
theorem fTry {k : Int} {K : Addr → Value → World → Prop} (f : Fr w0 w F) (h : Nm .i32 w0 l0 l) (hl : l.length ≤ 1000000000) (hk : ∀ p6 v w', Fr w0 w' (oIt .u8 eB v (pkK l k) :: sIt p6 [.int .i64 k, v] :: F) → K p6 v w') :
    gAlloc P t_audio_packer w fun p6 ww6 => gStore P t_audio_packer (.pointer (some p6)) (.agg #[.int .i64 k, .slice none 0 0]) ww6 fun ww7 => gLoad P t_audio_predictor (.part (.agg [.int .i64])) (.pointer (some (Addr.add p6 0))) ww7 fun (t20_1 : Int) => gCall P n_audio_predictor_residual shV #[.agg #[.int .i64 t20_1], l0] ww7 fun t22 ww8 => gCall P n_rice_Pack (.tup [.one .val, .one (.int .i64)]) #[t22] ww8 fun (t23_1 : Value) (_ : Int) ww9 => gStore P t_sl_uint8 (.pointer (some (Addr.add p6 1))) t23_1 ww9 fun ww10 => K p6 t23_1 ww10 := by
  refine fAlloc (z := .agg #[.int .i64 0, .slice none 0 0]) f (by kernel_rfl) fun p6 w1 f1 => fStoreA f1 0 rfl (fun w2 f2 => ?_) rfl
  have f2 : Fr w0 w2 (sIt p6 [.int .i64 k, .slice none 0 0] :: F) := f2
  refine gLoad_agg [.int .i64 k] (fun j u hj => ?_) ?_ rfl (by kernel_rfl)
  · rcases j with _ | j
    · simp at hj; subst hj; rw [Addr.add_zero']; exact f2.cell 0 0 rfl rfl
    · simp at hj
  show gCall _ _ _ _ _ _
  refine gCall_of (pRes_any (k := k) (h.ev f2.old) hl) ?_
  rintro _ w3 ⟨t22, rfl, h3, o3⟩
  refine ⟨t22, rfl, gCall_of (rPack_any o3.nm) ?_⟩
  rintro _ w4 ⟨v, rfl, h4, o4⟩
  have f4 := (f2.ev h3).newO h4 o4
  refine ⟨v, _, rfl, fStore f4 1 1 rfl (fun w5 f5 => hk p6 v w5 f5) (by exact Nat.le_of_ble_eq_true rfl) (by obtain ⟨a, c, rfl, _⟩ := o4.nm.shape; rfl) (by obtain ⟨a, c, rfl, _⟩ := o4.nm.shape; rfl)⟩
theorem numL_pos (v : Int) (k : Nat) : 1 ≤ (numL v k).length := by
  unfold numL; split
  · simp only [List.length_append, List.length_cons]; omega
  · simp only [List.length_append, List.length_replicate]; omega
theorem packTo_pos (l : List Int) : ∀ m, 0 < m → 1 ≤ (packTo l m).length
  | 0, h => by omega
  | m + 1, _ => by
    rw [packTo, List.length_append]
    unfold piece
    have := numL_pos (rd l (m : Int)) (kOf l m)
    rw [List.length_append]; omega
theorem pkK_len (hl : l.length ≤ 1048576) (k : Int) : (l ≠ [] → 1 ≤ (pkK l k).length) ∧ (pkK l k).length ≤ 8 * l.length + 10000 := by
  have hr := resG_len (kindG k) l
  unfold pkK packE
  rw [if_neg (by omega)]
  dsimp only
  have hp := (pkB_ok (B01.pack (resG (kindG k) l) (resG (kindG k) l).length)).2.1
  have h1 := packTo_len (resG (kindG k) l) (resG (kindG k) l).length
  refine ⟨fun hne => ?_, by omega⟩
  have h0 : 0 < l.length := List.length_pos_iff.2 hne
  have := packTo_pos (resG (kindG k) l) (resG (kindG k) l).length (by omega)
  omega
theorem pkT_len (hl : l.length ≤ 1048576) : (pkT l).2.length ≤ 8 * l.length + 10000 := by
  unfold pkT; split <;> exact (pkK_len hl _).2
theorem pkT_kind : 0 ≤ (pkT l).1 ∧ (pkT l).1 ≤ 4 ∧ (pkT l).2 = pkK l (pkT l).1 := by
  have h3 : bestO l ≤ 3 := bfN_le l 3
  unfold pkT; split
  · exact ⟨by dsimp only; omega, by dsimp only; omega, rfl⟩
  · exact ⟨by dsimp only; omega, by dsimp only; omega, rfl⟩
def PackedE (w : World) (r : Int × List Int) (e : Ending) (w' : World) : Prop := ∃ v, e = .returned (.agg #[.int .i64 r.1, v]) ∧ Ev w w' ∧ ON .u8 eB w' w.heap.size v r.2
theorem ne_nil_some {k : IntKind} {v : Value} {xs : List Int} (h : Nm k w v xs) (hx : 1 ≤ xs.length) : ∃ a c, v = .slice (some a) xs.length c := by
  obtain ⟨⟨a, c, rfl, _, _, _, hn⟩, _⟩ := h
  cases a with
  | none => have := hn rfl; omega
  | some a => exact ⟨a, c, rfl⟩
theorem packed_any (h : Nm .i32 w l0 l) (hne : l ≠ []) (hl : l.length ≤ 1048576) : Calls P n_audio_packed #[l0] w (PackedE w (pkT l)) := by
  refine of_audio_packed (fAlloc (z := .agg #[.int .i64 0, .slice none 0 0]) (Fr.start w) (by kernel_rfl) fun t2 w1 f1 => fAlloc (z := .agg #[.int .i64 0, .slice none 0 0]) f1 (by kernel_rfl) fun best3 w2 f2 => gCall_i (fBest_any (h.ev f2.old) (by omega)) fun w3 h3 => ?_)
  have hb3 : bestO l ≤ 3 := bfN_le l 3
  have hin : inR .i64 [(bestO l : Int), 4] := fun x hx => by
    have h1 : IntKind.i64.min = -9223372036854775808 := by decide
    have h2 : IntKind.i64.max = 9223372036854775807 := by decide
    rw [h1, h2]
    simp only [List.mem_cons, List.not_mem_nil, or_false] at hx
    rcases hx with rfl | rfl <;> omega
  refine fLit_n [(bestO l : Int), 4] (f2.ev h3) rfl rfl hin fun t9 w4 f4 => gLen_nm (f4.nm 0 rfl) ?_
  have f4 : Fr w w4 [oIt .i64 (elOf P t_sl_int) t9 [(bestO l : Int), 4], sIt best3 [.int .i64 0, .slice none 0 0], sIt t2 [.int .i64 0, .slice none 0 0]] := f4
  obtain ⟨k1, hk1⟩ : ∃ k1 : Int, k1 = (bestO l : Nat) := ⟨_, rfl⟩
  rw [← hk1] at f4
  refine ⟨fun i w' => (i = 0 ∧ Fr w w' [oIt .i64 (elOf P t_sl_int) t9 [k1, 4], sIt best3 [.int .i64 0, .slice none 0 0], sIt t2 [.int .i64 0, .slice none 0 0]]) ∨ (∃ (r : Int × List Int) (v : Value), ((i = 1 ∧ r = (k1, pkK l k1)) ∨ (i = 2 ∧ r = pkT l)) ∧ Fr w w' [oIt .i64 (elOf P t_sl_int) t9 [k1, 4], sIt best3 [.int .i64 r.1, v], sIt t2 [.int .i64 0, .slice none 0 0], oIt .u8 eB v r.2]), fun i _ => (2 - i).toNat, .inl ⟨rfl, f4⟩, ?_⟩
  have one : ∀ (v : Value) (xs : List Int) (w' : World), Nm .u8 w' v xs → v.oneCell' = true := fun v xs w' hn => by obtain ⟨a, c, rfl, _⟩ := hn.shape; rfl
  rintro _ i w5 (⟨rfl, f5⟩ | ⟨r, v, hir, f5⟩)
  · refine gIf_t (gGet (f5.nm 0 rfl) (by decide) (by simp) ?_)
    rw [show rd [k1, 4] 0 = k1 from rfl]
    refine fTry (k := k1) f5 h (by omega) fun p6 v w6 f6 => fLoad_v f6 3 1 rfl rfl (gEq_snil (gIf_nt (fLoadA f6 1 rfl ?_ rfl (by kernel_rfl))))
    show gStore _ _ _ _ _ _
    refine fStoreA f6 3 rfl (fun w7 f7 => ⟨.inr ⟨(k1, pkK l k1), v, .inl ⟨by decide, rfl⟩, ?_⟩, by dsimp only; decide⟩) rfl (fun u hu => ?_)
    · have f7 : Fr w w7 [oIt .u8 eB v (pkK l k1), sIt p6 [.int .i64 k1, v], oIt .i64 (elOf P t_sl_int) t9 [k1, 4], sIt best3 [.int .i64 k1, v], sIt t2 [.int .i64 0, .slice none 0 0]] := f7
      exact f7.picks [2, 3, 4, 0] (by decide)
    · simp at hu
      rcases hu with rfl | rfl
      · rfl
      · exact one _ _ _ (f6.nm 0 rfl)
  · rcases hir with ⟨rfl, rfl⟩ | ⟨rfl, rfl⟩
    · refine gIf_t (gGet (f5.nm 0 rfl) (by decide) (by simp) ?_)
      rw [show rd [k1, 4] 1 = 4 from rfl]
      have f5 : Fr w w5 [oIt .i64 (elOf P t_sl_int) t9 [k1, 4], sIt best3 [.int .i64 k1, v], sIt t2 [.int .i64 0, .slice none 0 0], oIt .u8 eB v (pkK l k1)] := f5
      refine fTry (k := 4) f5 h (by omega) fun p6 v2 w6 f6 => fLoad_v f6 3 1 rfl rfl ?_
      obtain ⟨a, c, hv⟩ := ne_nil_some (f6.nm 5 rfl) ((pkK_len hl k1).1 hne)
      have hgo : ∀ K : Bool → Prop, K false → gEq P .eql t_sl_uint8 v (.slice none 0 0) K := fun K hK => by rw [hv]; exact gEq_snil hK
      refine hgo _ (gIf_nf (fLoad_v f6 1 1 rfl rfl (gLen_nm (f6.nm 0 rfl) (fLoad_v f6 3 1 rfl rfl (gLen_nm (f6.nm 5 rfl) (gIf_dec (fun hlt => fLoadA f6 1 rfl ?_ rfl (by kernel_rfl)) (fun hge => ?_)))))))
      · show gStore _ _ _ _ _ _
        refine fStoreA f6 3 rfl (fun w7 f7 => ⟨.inr ⟨pkT l, v2, .inr ⟨by decide, rfl⟩, ?_⟩, by dsimp only; decide⟩) rfl (fun u hu => ?_)
        · have f7 : Fr w w7 [oIt .u8 eB v2 (pkK l 4), sIt p6 [.int .i64 4, v2], oIt .i64 (elOf P t_sl_int) t9 [k1, 4], sIt best3 [.int .i64 4, v2], sIt t2 [.int .i64 0, .slice none 0 0], oIt .u8 eB v (pkK l k1)] := f7
          have e : pkT l = (4, pkK l 4) := by unfold pkT; rw [if_pos (by rw [← hk1]; omega)]
          rw [e]
          exact f7.picks [2, 3, 4, 0] (by decide)
        · simp at hu
          rcases hu with rfl | rfl
          · rfl
          · exact one _ _ _ (f6.nm 0 rfl)
      · refine ⟨.inr ⟨pkT l, v, .inr ⟨by decide, rfl⟩, ?_⟩, by dsimp only; decide⟩
        have e : pkT l = (k1, pkK l k1) := by unfold pkT; rw [if_neg (by rw [← hk1]; omega), ← hk1]
        rw [e]
        exact f6.picks [2, 3, 4, 5] (by decide)
    · refine gIf_f (fLoadA f5 1 rfl ?_ rfl (by kernel_rfl))
      show gStore _ _ _ _ _ _
      refine fStoreA f5 2 rfl (fun w6 f6 => ?_) rfl (fun u hu => ?_)
      · have f6 : Fr w w6 [oIt .i64 (elOf P t_sl_int) t9 [k1, 4], sIt best3 [.int .i64 (pkT l).1, v], sIt t2 [.int .i64 (pkT l).1, v], oIt .u8 eB v (pkT l).2] := f6
        refine fLoadA f6 2 rfl ?_ rfl (by kernel_rfl)
        exact ⟨v, rfl, f6.old, f6.on 3 rfl⟩
      · simp at hu
        rcases hu with rfl | rfl
        · rfl
        · exact one _ _ _ (f5.nm 3 rfl)
end
end Go.Proofs.YtjmdoflcmipejaaV

/- Package audio: all tracks, packed. -/
namespace Go.Proofs.YtjmdoflcmipejaaV
open Go Go.RowKit
noncomputable abbrev eP : TypeId := elOf P t_sl_audio_packer
/-- A packed track: its kind, its bytes' value, its bytes. -/
abbrev Pk := Int × Value × List Int
def pkp (u : Pk) : Int × List Int := (u.1, u.2.2)
def cellsP : List Pk → List Value
  | [] => []
  | u :: T => .int .i64 u.1 :: u.2.1 :: cellsP T
theorem cellsP_app (S T : List Pk) : cellsP (S ++ T) = cellsP S ++ cellsP T := by
  induction S with
  | nil => rfl
  | cons u S ih => rw [List.cons_append, cellsP, cellsP, ih]; rfl
theorem cellsP_len : ∀ T : List Pk, (cellsP T).length = 2 * T.length
  | [] => rfl
  | u :: T => by rw [cellsP, List.length_cons, List.length_cons, cellsP_len T, List.length_cons]; omega
theorem cellsP_at : ∀ {T : List Pk} {k : Nat} {u : Pk}, T[k]? = some u → (cellsP T)[2 * k]? = some (.int .i64 u.1) ∧ (cellsP T)[2 * k + 1]? = some u.2.1
  | t :: T, 0, u, h => by simp at h; subst h; exact ⟨rfl, rfl⟩
  | t :: T, k + 1, u, h => by
    have := cellsP_at (T := T) (k := k) (u := u) (by simpa using h)
    rw [cellsP, show 2 * (k + 1) = 2 * k + 1 + 1 by omega, List.getElem?_cons_succ, List.getElem?_cons_succ, List.getElem?_cons_succ]
    exact ⟨this.1, this.2⟩
/-- Packed tracks, all in memory of one's own. -/
noncomputable def pkF (v : Value) (T : List Pk) : List It := rIt eP 2 v T.length (cellsP T) :: T.reverse.map fun u => oIt .u8 eB u.2.1 u.2.2
def sizeP : List (Int × List Int) → Nat
  | [] => 0
  | u :: T => u.2.length + sizeP T
theorem sizeP_app (S T : List (Int × List Int)) : sizeP (S ++ T) = sizeP S + sizeP T := by
  induction S with
  | nil => simp [sizeP]
  | cons u S ih => rw [List.cons_append, sizeP, sizeP, ih]; omega
/-- All tracks, packed; whether the first two are a middle and a side. -/
noncomputable def allI (xss : List (List Int)) : List (Int × List Int) × Bool :=
  if xss.length ≠ 2 then (xss.map pkT, false)
  else if sizeP [pkT (midL (xss.getD 0 []) (xss.getD 1 [])), pkT (sideL (xss.getD 0 []) (xss.getD 1 []))] < sizeP (xss.map pkT) then ([pkT (midL (xss.getD 0 []) (xss.getD 1 [])), pkT (sideL (xss.getD 0 []) (xss.getD 1 []))], true)
  else (xss.map pkT, false)
section
variable {w0 w : World} {F : List It}
theorem Sl.of_cells {ad : Addr} {n : Nat} {cs : List Value} (h : St w ad cs) (hn : cs.length = n * 2) : Sl w 2 (.slice (some ad) n n) n cs :=
  ⟨some ad, n, rfl, Nat.le_refl _, by rw [hn], fun ad' ha j u hj => by injection ha with ha; subst ha; exact St.cell h hj, fun h => by cases h⟩
theorem pk_step {out v : Value} {T : List Pk} {k : Int} {bs : List Int} {K : Value → World → Prop} (f : Fr w0 w (oIt .u8 eB v bs :: pkF out T)) (hl : T.length ≤ 1000) (hk : ∀ out' w', Fr w0 w' (pkF out' (T ++ [(k, v, bs)])) → K out' w') :
    gLit P t_sl_audio_packer 1 #[(0, .agg #[.int .i64 k, v])] w fun t20 w5 => gApp P #[t_sl_audio_packer, t_sl_audio_packer] t_sl_audio_packer #[out, t20] w5 K := by
  have hn := f.nm 0 rfl
  have ho : v.oneCell' = true := by obtain ⟨a, c, rfl, _⟩ := hn.shape; rfl
  refine fLit_sz 2 [[.int .i64 k, v]] f rfl rfl (fun v hv => by simp at hv; subst hv; rfl) (fun ad w5 f5 => ?_) (by decide) (by kernel_rfl) (by decide +kernel)
  refine fAppR 40 (m := 1) f5 2 rfl (Sl.of_cells (f5.get 0 rfl) rfl) (fun x hx => ?_) (by omega) (by unfold maxLen; omega) (fun v' w6 f6 => hk v' w6 ?_) (by kernel_rfl)
  · simp at hx; rcases hx with rfl | rfl
    · rfl
    · exact ho
  · have f7 := f6.picksN 3 [2, 1] (by decide) (by decide)
    have e1 : pkF v' (T ++ [(k, v, bs)]) = rIt eP 2 v' (T.length + 1) (cellsP T ++ [.int .i64 k, v]) :: oIt .u8 eB v bs :: T.reverse.map fun u => oIt .u8 eB u.2.1 u.2.2 := by
      unfold pkF; rw [cellsP_app, List.length_append, List.reverse_append]; rfl
    rw [e1]; exact f7
/-- Where a packed track lies, and its bytes. -/
theorem pk_at {v : Value} {T : List Pk} (f : Fr w0 w (pkF v T)) : Sl w 2 v T.length (cellsP T) ∧ ∀ u ∈ T, Nm .u8 w u.2.1 u.2.2 := by
  refine ⟨f.row 0 rfl, fun u hu => ?_⟩
  have hm : oIt .u8 eB u.2.1 u.2.2 ∈ pkF v T := List.mem_cons_of_mem _ (List.mem_map.2 ⟨u, List.mem_reverse.2 hu, rfl⟩)
  obtain ⟨i, hi⟩ := List.mem_iff_getElem?.1 hm
  exact f.nm i hi
/-- A packed track, read. -/
theorem gPk {v : Value} {T : List Pk} {k : Nat} {u : Pk} {K : Int → Value → Prop} (h : Sl w 2 v T.length (cellsP T)) (hu : T[k]? = some u) (hk : K u.1 u.2.1) : gIdx P t_sl_audio_packer v (.int .i64 (k : Int)) fun ad => gLoad P t_audio_packer (.part (.agg [.int .i64, .val])) (.pointer (some ad)) w K := by
  have hlt := (List.getElem?_eq_some_iff.1 hu).1
  have hc := cellsP_at hu
  refine gIdx_sz (sz := 2) h hlt (fun ad hcell _ => gLoad_agg [.int .i64 u.1, u.2.1] (fun j x hj => ?_) hk rfl (by kernel_rfl)) (by kernel_rfl)
  rcases j with _ | _ | j
  · simp at hj; subst hj; exact hcell 0 _ (by decide) (by rw [show k * 2 + 0 = 2 * k by omega]; exact hc.1)
  · simp at hj; subst hj; exact hcell 1 _ (by decide) (by rw [show k * 2 + 1 = 2 * k + 1 by omega]; exact hc.2)
  · simp at hj
theorem size_any {v : Value} {T : List Pk} (hp : Sl w 2 v T.length (cellsP T)) (hb : ∀ u ∈ T, Nm .u8 w u.2.1 u.2.2) (hl : T.length ≤ 1000) (hs : ∀ u ∈ T, u.2.2.length ≤ 1000000000) : Calls P n_audio_size #[v] w (fun e w' => e = .returned (.int .i64 (sizeP (T.map pkp) : Nat)) ∧ Ev w w') := by
  have hsz : ∀ k, k ≤ T.length → sizeP ((T.take k).map pkp) ≤ k * 1000000000 := by
    intro k
    induction k with
    | zero => intro _; simp [sizeP]
    | succ k ih =>
      intro hk
      have h1 := hs T[k] (List.getElem_mem (by omega))
      rw [List.take_succ_eq_append_getElem (by omega), List.map_append, sizeP_app]
      have := ih (by omega)
      simp only [List.map_cons, List.map_nil, sizeP, pkp]; omega
  refine of_audio_size (gLen_slv hp ⟨fun n i w' => ∃ k : Nat, i = (k : Int) ∧ k ≤ T.length ∧ n = ((sizeP ((T.take k).map pkp) : Nat) : Int) ∧ Ev w w', fun _ i _ => (T.length - i).toNat, ⟨0, rfl, Nat.zero_le _, rfl, Ch.refl _ _⟩, ?_⟩)
  rintro _ n i w1 ⟨k, rfl, hk, rfl, h1⟩
  have hk1 := hsz k hk
  refine gIf_dec (fun hlt => ?_) (fun hge => ?_)
  · have hkl : k < T.length := by omega
    have hu : T[k]? = some T[k] := List.getElem?_eq_getElem hkl
    have hm : T[k] ∈ T := List.getElem_mem hkl
    have hk2 := hsz (k + 1) hkl
    have htk : sizeP ((T.take (k + 1)).map pkp) = sizeP ((T.take k).map pkp) + T[k].2.2.length := by rw [List.take_succ_eq_append_getElem hkl, List.map_append, sizeP_app]; rfl
    refine gPk (hp.ev h1) hu (fAlloc (z := .agg #[.int .i64 0, .slice none 0 0]) (Fr.start w1) (by kernel_rfl) fun p5 w2 f2 => fStoreA f2 0 rfl (fun w3 f3 => ?_) rfl (fun x hx => ?_))
    · have f3 : Fr w1 w3 [sIt p5 [.int .i64 T[k].1, T[k].2.1]] := f3
      refine fLoad_v f3 0 1 rfl rfl (gLen_nm ((hb _ hm).ev (h1.trans f3.old)) ⟨⟨k + 1, by rw [i64_id (by omega) (by omega)]; omega, hkl, ?_, h1.trans f3.old⟩, by dsimp only; rw [i64_id (n := (k : Int) + 1) (by omega) (by omega)]; omega⟩)
      rw [htk, i64_id (by omega) (by omega)]; omega
    · simp at hx
      rcases hx with rfl | rfl
      · rfl
      · obtain ⟨a, c, he, _⟩ := (hb _ hm).shape
        rw [he]; rfl
  · obtain rfl : k = T.length := by omega
    rw [List.take_length]
    exact ⟨rfl, h1⟩
def AllE (w : World) (r : List (Int × List Int) × Bool) (e : Ending) (w' : World) : Prop := ∃ v T, e = .returned (.tuple #[v, .bool r.2]) ∧ T.map pkp = r.1 ∧ Fr w w' (pkF v T)
theorem all_any {p : Value} {us : List Value} {xss : List (List Int)} (hp : Sl w 1 p us.length us) (hl : us.length = xss.length) (hu : ∀ (i : Nat) (u : Value) (xs : List Int), us[i]? = some u → xss[i]? = some xs → Nm .i32 w u xs)
    (h8 : us.length ≤ 8) (hne : ∀ xs ∈ xss, xs ≠ []) (hb : ∀ xs ∈ xss, xs.length ≤ 1048576) (heq : ∀ xs ∈ xss, ∀ ys ∈ xss, xs.length = ys.length) : Calls P n_audio_all #[p] w (AllE w (allI xss)) := by
  have hnm : ∀ {k : Nat} (hk : k < us.length), Nm .i32 w us[k] (xss[k]'(by omega)) := fun {k} hk => hu k _ _ (by simp [hk]) (by simp [show k < xss.length by omega])
  have hT8 : ∀ {T : List Pk} {r : List (Int × List Int)}, T.map pkp = r → r.length ≤ 8 → (∀ u ∈ r, u.2.length ≤ 1000000000) → T.length ≤ 1000 ∧ ∀ u ∈ T, u.2.2.length ≤ 1000000000 := fun {T r} h h1 h2 => by
    have hlen := congrArg List.length h
    rw [List.length_map] at hlen
    exact ⟨by omega, fun u hu => h2 (pkp u) (by rw [← h]; exact List.mem_map.2 ⟨u, hu, rfl⟩)⟩
  have hpl : ∀ u ∈ xss.map pkT, u.2.length ≤ 1000000000 := fun u hu => by
    obtain ⟨xs, hx, rfl⟩ := List.mem_map.1 hu
    have := pkT_len (hb xs hx)
    have := hb xs hx; omega
  refine of_audio_all (gLen_slv hp ⟨fun plain i w' => ∃ (k : Nat) (T : List Pk), i = (k : Int) ∧ k ≤ us.length ∧ T.map pkp = (xss.take k).map pkT ∧ Fr w w' (pkF plain T), fun _ i _ => (us.length - i).toNat, ⟨0, [], rfl, Nat.zero_le _, rfl, (Fr.start w).nilR eP 2⟩, ?_⟩)
  rintro _ plain i w1 ⟨k, T, rfl, hk, hT, f1⟩
  have hTl : T.length = k := by have := congrArg List.length hT; simp only [List.length_map, List.length_take] at this; omega
  refine gIf_dec (fun hlt => ?_) (fun hge => ?_)
  · have hkl : k < us.length := by omega
    have hkx : k < xss.length := by omega
    refine gIdx_1 (hp.ev f1.old) (by omega) (by omega) fun a u hua hc _ => gLoad_v hc ?_
    have hue : u = us[k] := by
      rw [Int.toNat_natCast, List.getElem?_eq_getElem hkl] at hua; injection hua with hua; exact hua.symm
    subst hue
    refine gCall_of (packed_any ((hnm hkl).ev f1.old) (hne _ (List.getElem_mem hkx)) (hb _ (List.getElem_mem hkx))) ?_
    rintro _ w2 ⟨v, rfl, h2, o2⟩
    refine ⟨_, _, rfl, pk_step (f1.newO h2 o2) (by omega) fun out' w4 f4 => ⟨⟨k + 1, _, by rw [i64_id (by omega) (by omega)]; omega, hkl, ?_, f4⟩, by dsimp only; rw [i64_id (by omega) (by omega)]; omega⟩⟩
    rw [List.take_succ_eq_append_getElem hkx, List.map_append, List.map_append, hT]; rfl
  · obtain rfl : k = us.length := by omega
    rw [hl, List.take_length] at hT
    refine gLen_slv (hp.ev f1.old) (gIf_neq (fun h2 => ?_) (fun h2 => ?_))
    · have e : allI xss = (xss.map pkT, false) := by unfold allI; rw [if_pos (by omega)]
      rw [e]
      exact ⟨plain, T, rfl, hT, f1⟩
    · have h2' : us.length = 2 := by omega
      obtain ⟨x0, hx0⟩ : ∃ x0, x0 = xss[0]'(by omega) := ⟨_, rfl⟩
      obtain ⟨x1, hx1⟩ : ∃ x1, x1 = xss[1]'(by omega) := ⟨_, rfl⟩
      have g0 : xss.getD 0 [] = x0 := by rw [List.getD_eq_getElem?_getD, List.getElem?_eq_getElem (by omega), hx0]; rfl
      have g1 : xss.getD 1 [] = x1 := by rw [List.getD_eq_getElem?_getD, List.getElem?_eq_getElem (by omega), hx1]; rfl
      have m0 : x0 ∈ xss := by rw [hx0]; exact List.getElem_mem _
      have m1 : x1 ∈ xss := by rw [hx1]; exact List.getElem_mem _
      have n0 := hnm (k := 0) (by omega)
      have n1 := hnm (k := 1) (by omega)
      rw [← hx0] at n0
      rw [← hx1] at n1
      have hb0 := hb x0 m0
      have hmne : midL x0 x1 ≠ [] := fun h => hne x0 m0 (List.length_eq_zero_iff.1 (by have := congrArg List.length h; unfold midL at this; rw [tab_len] at this; exact this))
      have hsne : sideL x0 x1 ≠ [] := fun h => hne x0 m0 (List.length_eq_zero_iff.1 (by have := congrArg List.length h; unfold sideL at this; rw [tab_len] at this; exact this))
      have hml : (midL x0 x1).length ≤ 1048576 := by unfold midL; rw [tab_len]; exact hb0
      have hsl : (sideL x0 x1).length ≤ 1048576 := by unfold sideL; rw [tab_len]; exact hb0
      have elem : ∀ {k : Nat} (hk : k < us.length) {K : Value → Prop}, K us[k] → gIdx P t_sl_sl_int32 p (.int .i64 (k : Int)) fun ad => gLoadB P t_sl_int32 shV (.pointer (some ad)) (fun w' => Ev w w') K := fun {k} hk {K} h => by
        refine gIdx_1 hp (by omega) (by omega) fun a u hua hc _ => gLoadB_v (fun w' hw => Ch.cell hw hc fun h => h) ?_
        have hue : u = us[k] := by
          rw [Int.toNat_natCast, List.getElem?_eq_getElem hk] at hua; injection hua with hua; exact hua.symm
        rw [hue]; exact h
      refine ⟨fun w' => Ev w w', f1.drew.old, elem (k := 0) (by omega) (elem (k := 1) (by omega) (gCall_of (Mid_any (n0.ev f1.drew.old) (n1.ev f1.drew.old) (heq x0 m0 x1 m1) (by omega)) ?_))⟩
      rintro _ w5 ⟨a, b, rfl, g5⟩
      have f5 := f1.drew.glue g5
      have f5 : Fr w w5 (oIt .i32 eI b (sideL x0 x1) :: oIt .i32 eI a (midL x0 x1) :: pkF plain T) := f5
      refine ⟨_, _, _, rfl, f5.old, gCall_of (packed_any (f5.nm 1 rfl) hmne hml) ?_⟩
      rintro _ w6 ⟨v1, rfl, h6, o6⟩
      have f6 := f5.newO h6 o6
      refine ⟨_, _, rfl, gCall_of (packed_any (f6.nm 1 rfl) hsne hsl) ?_⟩
      rintro _ w7 ⟨v2, rfl, h7, o7⟩
      have f7 := ((f6.newO h7 o7).nilR eP 2)
      have f7 : Fr w w7 (rIt eP 2 (.slice none 0 0) 0 [] :: oIt .u8 eB v2 (pkT (sideL x0 x1)).2 :: oIt .u8 eB v1 (pkT (midL x0 x1)).2 :: oIt .i32 eI b (sideL x0 x1) :: oIt .i32 eI a (midL x0 x1) :: pkF plain T) := f7
      have oc1 : v1.oneCell' = true := by obtain ⟨a, c, rfl, _⟩ := (f7.nm 2 rfl).shape; rfl
      have oc2 : v2.oneCell' = true := by obtain ⟨a, c, rfl, _⟩ := (f7.nm 1 rfl).shape; rfl
      refine ⟨_, _, rfl, fLit_sz 2 [[.int .i64 (pkT (midL x0 x1)).1, v1], [.int .i64 (pkT (sideL x0 x1)).1, v2]] f7 rfl rfl (fun v hv => by simp at hv; rcases hv with rfl | rfl <;> rfl) (fun ad w8 f8 => ?_) (by decide) (by kernel_rfl) (by decide +kernel)⟩
      refine fAppR 40 (m := 2) f8 1 rfl (Sl.of_cells (f8.get 0 rfl) rfl) (fun x hx => ?_) (by omega) (by unfold maxLen; omega) (fun t44 w9 f9 => ?_) (by kernel_rfl)
      · simp at hx; rcases hx with rfl | rfl | rfl | rfl
        · rfl
        · exact oc1
        · rfl
        · exact oc2
      obtain ⟨M, hM⟩ : ∃ M : List Pk, M = [((pkT (midL x0 x1)).1, v1, (pkT (midL x0 x1)).2), ((pkT (sideL x0 x1)).1, v2, (pkT (sideL x0 x1)).2)] := ⟨_, rfl⟩
      have f9 := f9.drop 0
      have f9 : Fr w w9 (pkF t44 M ++ (oIt .i32 eI b (sideL x0 x1) :: oIt .i32 eI a (midL x0 x1) :: pkF plain T)) := by rw [hM]; exact f9
      have hMp : M.map pkp = [pkT (midL x0 x1), pkT (sideL x0 x1)] := by rw [hM]; rfl
      have fM : Fr w w9 (pkF t44 M) := by
        have := f9.picks (List.range (pkF t44 M).length) List.nodup_range
        have e : ((List.range (pkF t44 M).length).filterMap fun i => (pkF t44 M ++ (oIt .i32 eI b (sideL x0 x1) :: oIt .i32 eI a (midL x0 x1) :: pkF plain T))[i]?) = pkF t44 M := by rw [hM]; rfl
        rw [e] at this; exact this
      have fT : Fr w w9 (pkF plain T) := by
        have := f9.dropN 5
        rw [hM] at this; exact this
      have bM := hT8 hMp (by simp) (fun u hu => by
        simp only [List.mem_cons, List.not_mem_nil, or_false] at hu
        rcases hu with rfl | rfl
        · have := pkT_len hml; omega
        · have := pkT_len hsl; omega)
      have bT := hT8 hT (by rw [List.length_map]; omega) hpl
      obtain ⟨s1, s2⟩ := pk_at fM
      obtain ⟨s3, s4⟩ := pk_at fT
      refine gCall_i (size_any s1 s2 bM.1 bM.2) fun w10 h10 => gCall_i (size_any (s3.ev h10) (fun u hu => (s4 u hu).ev h10) bT.1 bT.2) fun w11 h11 => ?_
      rw [hMp, hT]
      refine gIf_dec (fun hlt => ?_) (fun hge => ?_)
      · have e : allI xss = ([pkT (midL x0 x1), pkT (sideL x0 x1)], true) := by unfold allI; rw [if_neg (by omega), g0, g1, if_pos (by omega)]
        rw [e]
        exact ⟨t44, M, rfl, hMp, (fM.ev h10).ev h11⟩
      · have e : allI xss = (xss.map pkT, false) := by unfold allI; rw [if_neg (by omega), g0, g1, if_neg (by omega)]
        rw [e]
        exact ⟨plain, T, rfl, hT, (fT.ev h10).ev h11⟩
end
end Go.Proofs.YtjmdoflcmipejaaV
