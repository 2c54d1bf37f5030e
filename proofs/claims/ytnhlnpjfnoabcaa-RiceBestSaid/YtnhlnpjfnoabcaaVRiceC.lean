/- Package rice: unpacking. -/
import Derived.Test.YtnhlnpjfnoabcaaVRiceB
namespace Go.Proofs.YtnhlnpjfnoabcaaV
open Go Go.RowKit
section
variable {w0 w : World} {F : List It} {xs : List Int} {ad rad : Addr} {y : Value} {a : Nat} {er : Int}
theorem Fr.pr (h : Fr w0 w F) (i j : Nat) (hi : F[i]? = some (sIt ad [y, .int .i64 a, .int .i64 er])) (hj : F[j]? = some (oIt .u8 eB y xs)) (hn : i ≠ j) (ha : a ≤ 8 * xs.length) (hl : xs.length ≤ 1000000000) : PR w ad y xs a er :=
  ⟨h.get i hi, h.nm j hj, fun _ hg => h.apart hi hj hn ad.block rfl hg, ha, hl⟩
theorem Fr.rb (h : Fr w0 w F) (q i j : Nat) (hq : F[q]? = some (sIt rad [.pointer (some ad)])) (hi : F[i]? = some (sIt ad [y, .int .i64 a, .int .i64 er])) (hj : F[j]? = some (oIt .u8 eB y xs)) (hn : i ≠ j) (hn2 : q ≠ i) (ha : a ≤ 8 * xs.length) (hl : xs.length ≤ 1000000000) : RB w rad ad y xs a er :=
  ⟨h.get q hq, h.pr i j hi hj hn ha hl, fun e => h.apart hq hi hn2 rad.block rfl e⟩
theorem Fr.ps {w' : World} {a2 : Nat} {er2 : Int} (h : Fr w0 w F) (i : Nat) (hi : F[i]? = some (sIt ad [y, .int .i64 a, .int .i64 er])) (g : PS w w' ad y xs a2 er2) : Fr w0 w' (F.set i (sIt ad [y, .int .i64 a2, .int .i64 er2])) :=
  h.upd i hi g.2 (fun k _ hh => .inl hh.1) g.1.1 fun k hk => .inl hk
theorem fbNew {b : Value} {K : Option Addr → World → Prop} (h : Fr w0 w F) (hb : Nm .u8 w b xs) (hl : xs.length ≤ 1000000000) (hk : ∀ rad pad y w', Fr w0 w' (sIt rad [.pointer (some pad)] :: sIt pad [y, .int .i64 (0 : Nat), .int .i64 0] :: oIt .u8 eB y xs :: F) → K (some rad) w') : gCall P n_bits_New shP #[b] w K := by
  refine gCall_of (R := fun e w' => ∃ rad pad y, e = .returned (.pointer (some rad)) ∧ Fr w0 w' (sIt rad [.pointer (some pad)] :: sIt pad [y, .int .i64 (0 : Nat), .int .i64 0] :: oIt .u8 eB y xs :: F)) (of_bits_New (fApp0 h hb (by omega) fun y w1 f1 => ⟨(f1.on 0 rfl).one, fBox f1 fun pad w2 f2 => fBox f2 fun rad w3 f3 => ⟨rad, pad, y, rfl, f3⟩⟩)) ?_
  rintro _ w' ⟨rad, pad, y, rfl, f⟩
  exact ⟨_, rfl, hk rad pad y w' f⟩
end
theorem bEqual_any {a b : Value} {xs ys : List Int} {w : World} (ha : Nm .u8 w a xs) (hb : Nm .u8 w b ys) : Calls P n_bytes_Equal #[a, b] w (fun e w' => e = .returned (.bool (decide (xs = ys))) ∧ w' = w) :=
  of_bytes_Equal (gConv_bs ha (gConv_bs hb ⟨by rw [bsOf_eq ha.2 hb.2], rfl⟩))
theorem iOr_u32 (a b : Int) : 0 ≤ iOr .u32 a b ∧ iOr .u32 a b < 4294967296 := by unfold iOr; show 0 ≤ u32 _ ∧ u32 _ < _; rw [u32_def]; omega
theorem next_any {w : World} {x rad pad : Addr} {b : Value} {xs : List Int} {a k : Nat} {er : Int} (hx : St w x [.pointer (some rad)]) (hne : x.block ≠ pad.block) (h : RB w rad pad b xs a er) (hk : k ≤ 31) :
    Calls P n_rice_unpacker_next #[.pointer (some x), .int .i64 k] w (fun e w' => e = .returned (.int .i32 (nextV xs a er k).1) ∧ PS w w' pad b xs (nextV xs a er k).2.1 (nextV xs a er k).2.2) := by
  have hu := unaryR_rng xs a er
  refine of_rice_unpacker_next (gNil_some (gLoad_p (hx.cell (j := 0) rfl) (gCall_i (Unary_R h) fun w1 h1 => ?_)))
  have hx1 : St w1 x [.pointer (some rad)] := hx.ch h1.2 fun _ _ hh => hne hh.1
  have hr1 := h.to h1
  unfold nextV
  refine gIf_eq (fun e => gNil_some (gLoad_p (hx1.cell (j := 0) rfl) (gCall_i (Bits_R hr1) fun w2 h2 => ?_))) (fun e => ⟨fun w' => w'.cell? (x.add 0) = some (.pointer (some rad)), hx1.drew.cell rfl, gBin_shl (by omega) (gNil_some (gLoadB_p (fun _ h => h) (gCall_i (Bits_R (h.to (h1.ev (Ev.drew0 w1)))) fun w2 h2 => ⟨?_, ?_⟩)))⟩)
  · have hb := bitsR_bd (xs := xs) (a := (unaryR xs a er 24).2.1) (er := (unaryR xs a er 24).2.2) 32
    rw [u64_def, Int.emod_eq_of_lt (by omega) (by omega), if_pos e]
    exact gCall_i0 (Unfold_any (by omega)) ⟨rfl, h1.trans h2⟩
  · exact (hx1.drew.ch h2.2 fun _ _ hh => hne hh.1).cell rfl
  · have hb := iOr_u32 (iShl .u32 (u32 (unaryR xs a er 24).1) k) (bitsR xs (unaryR xs a er 24).2.1 (unaryR xs a er 24).2.2 k).1
    rw [u64_def, Int.emod_eq_of_lt (by omega) (by omega), if_neg e]
    rw [u32_def, Int.emod_eq_of_lt (by omega) (by omega)] at hb ⊢
    exact gCall_i0 (Unfold_any (by omega)) ⟨rfl, (h1.ev (Ev.drew0 w1)).trans h2⟩
/-- Numbers in new memory, or none, and an error. -/
def TupI (w : World) (r : List Int × Int) (e : Ending) (w' : World) : Prop := ∃ v, e = .returned (.tuple #[v, .int .i64 r.2]) ∧ Ev w w' ∧ ON .i32 e32 w' w.heap.size v r.1
theorem TupI.err (w w' : World) (h : Ev w w') (c : Int) : TupI w ([], c) (.returned (.tuple #[.slice none 0 0, .int .i64 c])) w' := ⟨_, rfl, h, ON.nil _ _ _ _⟩
def slLen : Value → Nat
  | .slice _ n _ => n
  | _ => 0
theorem Nm.slLen {k : IntKind} {w : World} {v : Value} {xs : List Int} (h : Nm k w v xs) : slLen v = xs.length := by obtain ⟨a, c, rfl, _⟩ := h.shape; rfl
theorem headK_rng {xs : List Int} {i k a : Nat} (hk : k ≤ 24) : 0 ≤ (headK xs i k a).1 ∧ (headK xs i k a).1 ≤ 31 := by
  unfold headK
  split
  · unfold bitsR
    rw [if_neg (by simp)]
    split
    · simp
    · have := bitsVal_bd xs a (cl32 5)
      rw [show cl32 5 = 5 by decide, show ((2 ^ 5 : Nat) : Int) = 32 from rfl] at this
      rw [show cl32 5 = 5 by decide]; dsimp only; omega
  · dsimp only; omega
theorem tmod64 (i : Nat) : (Int.tmod (i : Int) 64 = 0) ↔ i % 64 = 0 := by rw [Int.tmod_eq_emod_of_nonneg (by omega)]; omega
theorem readN_step {lim : Bool} {xs : List Int} {f i k a : Nat} : readN lim xs (f + 1) i k a = match stepR xs i k a with
    | none => none
    | some (v, k', a') => if lim = true ∧ 24 < k' then none else (readN lim xs f (i + 1) k' a').map (v :: ·) := rfl
theorem rUnpack_any {b0 : Value} {xs : List Int} {n : Int} {w : World} (hb : Nm .u8 w b0 xs) (hl : xs.length ≤ 1000000000) : Calls P n_rice_Unpack #[b0, .int .i64 n] w (TupI w (unpE true xs n)) := by
  unfold unpE
  refine of_rice_Unpack (gIf_dec (fun h0 => by rw [if_pos h0]; exact TupI.err w w (Ch.refl _ w) 1) (fun h0 => ?_))
  rw [if_neg h0]
  refine gIf_dec (fun h1 => by rw [if_pos h1]; exact TupI.err w w (Ch.refl _ w) 5) (fun h1 => ?_)
  rw [if_neg h1]
  obtain ⟨m, rfl⟩ := Int.eq_ofNat_of_zero_le (show 0 ≤ n by omega)
  rw [Int.toNat_natCast]
  refine fbNew (Fr.start w) hb hl fun rad pad y w1 f1 => fBox f1 fun x w2 f2 => ?_
  have f2 := f2.nil0 .i32 e32
  refine ⟨fun lv kv ww => ∃ (zs : List Int) (k a : Nat), kv = k ∧ k ≤ 24 ∧ zs.length ≤ m ∧ a ≤ 8 * xs.length ∧ (readN true xs (m - zs.length) zs.length k a).map (zs ++ ·) = readN true xs m 0 0 0 ∧
      Fr w ww [oIt .i32 e32 lv zs, sIt x [.pointer (some rad)], sIt rad [.pointer (some pad)], sIt pad [y, .int .i64 a, .int .i64 0], oIt .u8 eB y xs], fun lv _ _ => m - slLen lv, ⟨[], 0, 0, rfl, by omega, by simp, by omega, ?_, f2⟩, ?_⟩
  · show (readN true xs m 0 0 0).map _ = _
    cases readN true xs m 0 0 0 <;> rfl
  rintro _ lv kv w3 ⟨zs, k, a, rfl, hk, hzm, ha, hr, f3⟩
  have hz := f3.nm 0 rfl
  refine gLen_nm hz (gIf_dec (fun hlt => ?_) (fun hge => ?_))
  · have hk31 := headK_rng (xs := xs) (i := zs.length) (a := a) hk
    refine ⟨fun kv ww => kv = (headK xs zs.length k a).1 ∧ (headK xs zs.length k a).2.1 ≤ 8 * xs.length ∧ Fr w ww [oIt .i32 e32 lv zs, sIt x [.pointer (some rad)], sIt rad [.pointer (some pad)], sIt pad [y, .int .i64 (headK xs zs.length k a).2.1, .int .i64 (headK xs zs.length k a).2.2], oIt .u8 eB y xs], gLen_nm hz (gIf_eq (fun e => gNil_some (gLoad_p (f3.cell 1 0 rfl rfl) (gCall_i (Bits_R (f3.rb 2 3 4 rfl rfl rfl (by decide) (by decide) ha hl)) fun w4 h4 => ?_))) (fun e => ?_)), ?_⟩
    · rw [tmod64] at e
      have f4 := f3.ps 3 rfl h4
      unfold headK at hk31 ⊢
      rw [if_pos e] at hk31 ⊢
      exact ⟨i64_id (by omega) (by omega), h4.1.2.2.2.1, f4⟩
    · rw [Ne, tmod64] at e
      unfold headK
      rw [if_neg e]
      exact ⟨rfl, ha, f3⟩
    rintro _ kv w4 ⟨rfl, ha4, f4⟩
    obtain ⟨q, hq⟩ := Int.eq_ofNat_of_zero_le hk31.1
    rw [hq]
    refine gCall_i (next_any (f4.get 1 rfl) (fun e => f4.apart (i := 1) (j := 3) rfl rfl (by decide) x.block rfl e) (f4.rb 2 3 4 rfl rfl rfl (by decide) (by decide) ha4 hl) (by omega)) fun w5 h5 => ?_
    have f5 := f4.ps 3 rfl h5
    have hin := nextV_rng xs (headK xs zs.length k a).2.1 (headK xs zs.length k a).2.2 q
    refine fLit_n [(nextV xs (headK xs zs.length k a).2.1 (headK xs zs.length k a).2.2 q).1] f5 rfl rfl (fun x hx => by simp at hx; subst hx; exact i32i hin) fun t w6 f6 => fApp f6 1 rfl (f6.nm 0 rfl) (by simp; omega) fun l2 w7 f7 => ?_
    have f7 := f7.drop 0
    refine gNil_some (gLoad_p (f7.cell 1 0 rfl rfl) (gCall_i0 (Err_R (f7.rb 2 3 4 rfl rfl rfl (by decide) (by decide) h5.1.2.2.2.1 hl)) ?_))
    have hm1 : m - zs.length = (m - (zs.length + 1)) + 1 := by omega
    rw [hm1, readN_step] at hr
    unfold stepR at hr
    dsimp only at hr
    rw [hq, Int.toNat_natCast] at hr
    have bad : readN true xs m 0 0 0 = none → TupI w (match readN true xs m 0 0 0 with
        | none => ([], 4)
        | some l => if pkB (packTo l l.length) = xs then (l, 0) else ([], 4)) (.returned (.tuple #[.slice none 0 0, .int .i64 4])) w7 := fun e => by rw [e]; exact TupI.err w w7 f7.old 4
    refine gIf_nneq (fun e0 => gIf_dec (fun hq24 => bad ?_) (fun hq24 => ⟨⟨zs ++ [(nextV xs (headK xs zs.length k a).2.1 (headK xs zs.length k a).2.2 q).1], q, (nextV xs (headK xs zs.length k a).2.1 (headK xs zs.length k a).2.2 q).2.1, rfl, by omega, by simp; omega, h5.1.2.2.2.1, ?_, ?_⟩, ?_⟩)) (fun e0 => bad ?_)
    · rw [← hr]
      split
      · rfl
      · rename_i v k' a' hs
        split at hs
        · cases hs
        · injection hs with hs; injection hs with _ hs; injection hs with hs _
          rw [if_pos ⟨rfl, by omega⟩]; rfl
    · rw [← hr, Nat.min_eq_left (by omega), if_neg (by simpa using e0)]
      dsimp only
      rw [if_neg (by omega), List.length_append, List.length_singleton, Option.map_map]
      congr 1
      funext l; simp
    · rw [e0] at f7; exact f7
    · dsimp only; rw [hz.slLen, (f7.nm 0 rfl).slLen]; simp; omega
    · rw [← hr]
      by_cases hq24 : q ≤ 24
      · rw [Nat.min_eq_left hq24, if_pos e0]; rfl
      · split
        · rfl
        · rename_i v k' a' hs
          split at hs
          · cases hs
          · injection hs with hs; injection hs with _ hs; injection hs with hs _
            rw [if_pos ⟨rfl, by omega⟩]; rfl
  · have hzl : zs.length = m := by omega
    rw [hzl, Nat.sub_self, readN] at hr
    have hr' : readN true xs m 0 0 0 = some zs := by rw [← hr]; simp
    rw [hr']
    have hp : packE zs = (pkB (packTo zs zs.length), 0) := by unfold packE; rw [if_neg (by omega)]
    refine fCallTE f3 (rPack_any hz) fun v w4 f4 => ?_
    rw [hp] at f4 ⊢
    refine gIf_nneq (fun _ => gCall_b (bEqual_any (hb.ev f4.old) (f4.nm 0 rfl)) fun w5 e5 => ?_) (fun e => absurd rfl e)
    subst e5
    dsimp only
    refine gIf_ndec (fun hne => ?_) (fun he => ?_)
    · rw [if_neg (fun e => hne e.symm)]; exact TupI.err w _ f4.old 4
    · rw [if_pos he.symm]; exact ⟨lv, rfl, f4.old, f4.on 1 rfl⟩
end Go.Proofs.YtnhlnpjfnoabcaaV
