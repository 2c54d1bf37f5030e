/- Package num: what is written. -/
import Derived.Test.YtcjopcplhabgkaaVBase
namespace Go.Proofs.YtcjopcplhabgkaaV
open Go Go.RowKit

abbrev W1 (w : World) (ad : Addr) (v : Value) (xs : List Int) : Prop := Wr eB w ad v xs
abbrev WS (w w' : World) (ad : Addr) (v v' : Value) (xs : List Int) : Prop := WrS eB w w' ad v v' xs
theorem put_any {ad : Addr} {v p : Value} {xs : List Int} {yss : List (List Int)} {w : World} (h : W1 w ad v xs) (hp : Stab (Ft ad v) w fun w' => NL .u8 w' p yss) (hl : xs.length + yss.flatten.length ≤ 10000000000) (hn : yss.length ≤ 10000000000) :
    Calls P n_num_buffer_put #[.pointer (some ad), p] w (fun e w' => e = .returned (.tuple #[]) ∧ ∃ v', WS w w' ad v v' (xs ++ yss.flatten)) := by
  obtain ⟨us, hus, hel⟩ := hp.now
  refine of_num_buffer_put (gLen_slv hus ?_)
  refine ⟨fun i w1 => ∃ j : Nat, i = j ∧ j ≤ yss.length ∧ ∃ v', WS w w1 ad v v' (xs ++ (yss.take j).flatten), fun i _ => yss.length - i.toNat, ⟨0, rfl, by omega, v, by simpa using h.step⟩, ?_⟩
  rintro _ i w1 ⟨j, rfl, hj, v', hW⟩
  refine gIf_dec (fun hlt => ?_) (fun hge => ⟨rfl, v', ?_⟩)
  · obtain ⟨us, hus, hel⟩ := hp w1 hW.2.1
    refine gIdx_1 hus (by omega) (by omega) fun a u hu hc _ => gLoad_v hc (gNil_some (gLoad_v (v := v') ?_ ?_))
    · have := hW.1.1.cell (j := 0) rfl; exact this
    have hlt' : j < yss.length := by omega
    have hx := hel j u yss[j] (by simpa using hu) (by simp [hlt'])
    have hfl : (yss.take (j + 1)).flatten = (yss.take j).flatten ++ yss[j] := by rw [List.take_succ_eq_append_getElem hlt', List.flatten_append]; simp
    have hle : (yss.take (j + 1)).flatten.length ≤ yss.flatten.length := by
      have : yss.flatten = (yss.take (j + 1)).flatten ++ (yss.drop (j + 1)).flatten := by rw [← List.flatten_append, List.take_append_drop]
      rw [this, List.length_append]; omega
    rw [hfl, List.length_append] at hle
    refine gApp_on hW.1.2.1 hx (by rw [List.length_append]; omega) (Nat.zero_le _) fun v2 w2 hO2 hc2 hm2 => gNil_some ?_
    have hne : ∀ i, ¬ Ob v' ad.block i := fun _ hh => hW.1.2.2 hh
    have hS2 : St w2 ad [v'] := hW.1.1.ch hc2 fun _ _ => hne _
    rw [Addr.add_zero']
    refine gStore_st0 hS2 (by simp) (by obtain ⟨a, c, rfl, _⟩ := hO2.nm.shape; rfl) hO2.one fun w3 h3 hs3 hS3 => ?_
    rw [i64_id (n := (j : Int) + 1) (by omega) (by omega)]
    have hv2 : v2.ownBlock ≠ some ad.block := by
      rcases hm2 with h | h
      · rw [h]; exact hW.1.2.2
      · intro hh; have := h _ hh; have := hW.1.1.lt; omega
    have hO3 : ON .u8 eB w3 0 v2 (xs ++ (yss.take j).flatten ++ yss[j]) := hO2.ch h3 fun g i hg hh => hv2 (by rw [hg, hh.1])
    refine ⟨⟨j + 1, by omega, hlt', v2, hW.trans ⟨⟨by simpa using hS3, ?_, hv2⟩, Ch.trans (hc2.mono fun _ _ _ h => .inr h) h3 fun n i _ hh => .inl hh.1, hm2⟩⟩, by dsimp only; omega⟩
    rw [hfl, ← List.append_assoc]; exact hO3
  · have : j = yss.length := by omega
    subst this
    rw [List.take_length] at hW; exact hW
theorem Raw_any {ad : Addr} {v p : Value} {xs : List Int} {yss : List (List Int)} {w : World} (h : W1 w ad v xs) (hp : Stab (Ft ad v) w fun w' => NL .u8 w' p yss) (hl : xs.length + yss.flatten.length ≤ 10000000000) (hn : yss.length ≤ 10000000000) :
    Calls P n_num_Writer_Raw #[.pointer (some ad), p] w (fun e w' => e = .returned (.tuple #[]) ∧ ∃ v', WS w w' ad v v' (xs ++ yss.flatten)) := by
  refine of_num_Writer_Raw (gNe_pnil (gIf_t (gNil_some ?_)))
  rw [Addr.add_zero']
  exact gCall_u (put_any h hp hl hn) fun w' hw => ⟨rfl, hw⟩
/-- A list of one. -/
theorem NL.one {k : IntKind} {B : Nat} {e : TypeId} {w : World} {p x : Value} {xs : List Int} (h : w.ownsRow B e 1 p 1 [x]) (hx : Nm k w x xs) : NL k w p [xs] :=
  ⟨[x], Sl.of_own h, fun i u ys hu hy => by
    cases i with
    | zero => simp at hu hy; subst hu; subst hy; exact hx
    | succ i => simp at hu⟩
/-- One part more. -/
theorem raw1_any {ad : Addr} {v x : Value} {xs ys : List Int} {w : World} {K : World → Prop} (h : W1 w ad v xs) (hx : Stab (Ft ad v) w fun w' => Nm .u8 w' x ys) (hl : xs.length + ys.length ≤ 10000000000) (hk : ∀ v' w', WS w w' ad v v' (xs ++ ys) → K w') :
    gLit P t_sl_sl_uint8 1 #[(0, x)] w fun (p : Value) w1 => gCall P n_num_Writer_Raw shU #[.pointer (some ad), p] w1 K := by
  refine gLit_1 [x] rfl rfl (by decide) (by simpa using hx.now.one) fun p w1 h1 hp => gCall_u (Raw_any (yss := [ys]) (h.ev h1) ?_ (by simpa using hl) (by simp)) ?_
  · intro w2 h2
    have hx2 : Nm .u8 w2 x ys := hx w2 (Ch.trans (h1.mono fun _ _ _ h => h.elim) h2 fun _ _ _ h => h)
    have hb : ∀ g, p.ownBlock = some g → w.heap.size ≤ g := fun g hg => (hp.lt g hg).1
    refine NL.one (B := 0) (e := elOf P t_sl_sl_uint8) ?_ hx2
    refine ⟨rfl, ?_⟩
    rcases hp.2 with ⟨_, h0⟩ | ⟨g, cap, cur, hv, hbg, hg, r⟩
    · cases h0
    · refine .inr ⟨g, cap, cur, hv, Nat.zero_le _, ?_, r⟩
      rw [h2.blk g (hlt hg) fun i hh => ?_]; exact hg
      have := hb g (by rw [hv]; rfl)
      have := h.lt (k := g) (i := i) hh; omega
  · rintro w2 ⟨v', hW⟩
    exact hk v' w2 (WrS.pre h1 (by simpa using hW))
/-- One byte more. -/
theorem rawb_any {ad : Addr} {v : Value} {xs : List Int} {x : Int} {w : World} {K : World → Prop} (h : W1 w ad v xs) (hx : 0 ≤ x ∧ x < 256) (hl : xs.length + 1 ≤ 10000000000) (hk : ∀ v' w', WS w w' ad v v' (xs ++ [x]) → K w') :
    gLit P t_sl_uint8 1 #[(0, .int .u8 x)] w fun (y : Value) w1 => gLit P t_sl_sl_uint8 1 #[(0, y)] w1 fun (p : Value) w2 => gCall P n_num_Writer_Raw shU #[.pointer (some ad), p] w2 K :=
  gLit_n (k := .u8) [x] rfl rfl (by decide) (fun y hy => by simp at hy; subst hy; exact u8i hx) fun y w1 h1 hy => raw1_any (h.ev h1) (hy.nm.stab fun g i hg hlt hf => by
    have := (hy.base hg).1; have := h.lt (k := g) (i := i) hf; omega) (by simpa using hl) fun v' w' hW => hk v' w' (WrS.pre h1 hW)
def numB (v : Nat) : List Int := if v < 128 then [(v : Int)] else ((v % 128 + 128 : Nat) : Int) :: numB (v / 128)
theorem numB_lt {v : Nat} (h : v < 128) : numB v = [(v : Int)] := by rw [numB, if_pos h]
theorem numB_ge {v : Nat} (h : ¬ v < 128) : numB v = ((v % 128 + 128 : Nat) : Int) :: numB (v / 128) := by rw [numB, if_neg h]
theorem numB_len : ∀ (k v : Nat), v < 128 ^ (k + 1) → (numB v).length ≤ k + 1
  | 0, v, h => by rw [numB_lt (by simpa using h)]; simp
  | k + 1, v, h => by
    by_cases hv : v < 128
    · rw [numB_lt hv]; simp
    · rw [numB_ge hv]
      have : v / 128 < 128 ^ (k + 1) := by rw [Nat.div_lt_iff_lt_mul (by decide)]; rwa [Nat.pow_succ] at h
      have := numB_len k (v / 128) this
      simp; omega
theorem Num_any {ad : Addr} {v : Value} {xs : List Int} {n : Int} {w : World} (h : W1 w ad v xs) (hn : 0 ≤ n ∧ n < 18446744073709551616) (hl : xs.length + 10 ≤ 10000000000) :
    Calls P n_num_Writer_Num #[.pointer (some ad), .int .u64 n] w (fun e w' => e = .returned (.tuple #[]) ∧ ∃ v', WS w w' ad v v' (xs ++ numB n.toNat)) := by
  have h10 := numB_len 9 n.toNat (by rw [show (128 : Nat) ^ (9 + 1) = 1180591620717411303424 by decide]; omega)
  refine of_num_Writer_Num ⟨fun m w1 => ∃ (q : Nat) (ys : List Int) (v' : Value), m = q ∧ q < 18446744073709551616 ∧ numB n.toNat = ys ++ numB q ∧ WS w w1 ad v v' (xs ++ ys), fun m _ => m.toNat, ⟨n.toNat, [], v, by omega, by omega, by simp, by simpa using h.step⟩, ?_⟩
  rintro _ m w1 ⟨q, ys, v', rfl, hq, hnb, hW⟩
  refine gIf_dec (fun hge => ?_) (fun hlt => ?_)
  · have e1 : iOr .u8 (u8 (q : Int)) 128 = ((q % 128 + 128 : Nat) : Int) := by
      have h1 : u8 (q : Int) = ((q % 256 : Nat) : Int) := by rw [u8_def, Int.natCast_emod]; rfl
      rw [h1]
      have h2 := iOr_nat (k := .u8) rfl (a := q % 256) (b := 128) (by rw [bits8]; omega) (by decide)
      have h3 : ∀ a : Nat, a < 256 → a ||| 128 = a % 128 + 128 := by decide +kernel
      rw [show ((128 : Nat) : Int) = 128 from rfl] at h2
      rw [h2, h3 _ (by omega)]; omega
    rw [e1]
    rw [numB_ge (v := q) (by omega)] at hnb
    have hlen := congrArg List.length hnb
    simp only [List.length_append, List.length_cons] at hlen
    have e2 : iShr .u64 (q : Int) 7 = ((q / 128 : Nat) : Int) := by
      have := iShr_div (k := .u64) (a := (q : Int)) (n := 7) (by decide) (by omega)
      rw [show ((7 : Nat) : Int) = 7 from rfl] at this
      rw [this, Int.natCast_ediv]
    rw [e2]
    refine rawb_any hW.1 (by omega) (by rw [List.length_append]; omega) fun v2 w2 hW2 => ⟨⟨q / 128, ys ++ [((q % 128 + 128 : Nat) : Int)], v2, rfl, by omega, ?_, ?_⟩, by dsimp only; omega⟩
    · rw [hnb]; simp
    · rw [← List.append_assoc]; exact hW.trans hW2
  · have h1 : u8 (q : Int) = q := u8_id (by omega) (by omega)
    rw [h1]
    rw [numB_lt (v := q) (by omega)] at hnb
    have hlen := congrArg List.length hnb
    simp only [List.length_append, List.length_cons] at hlen
    refine rawb_any hW.1 (by omega) (by rw [List.length_append]; omega) fun v2 w2 hW2 => ⟨rfl, v2, ?_⟩
    rw [hnb, ← List.append_assoc]; exact hW.trans hW2
theorem Bytes_W {ad : Addr} {v : Value} {xs : List Int} {w : World} (h : W1 w ad v xs) (hl : xs.length ≤ 10000000000) :
    Calls P n_num_Writer_Bytes #[.pointer (some ad)] w (fun e w' => ∃ y, e = .returned y ∧ Ev w w' ∧ ON .u8 eB w' w.heap.size y xs) := by
  refine of_num_Writer_Bytes (gEq_pnil (gIf_f (gNil_some ?_)))
  rw [Addr.add_zero', Addr.add_zero']
  refine gLoad_v (v := v) (by have := h.1.cell (j := 0) rfl; rwa [Addr.add_zero'] at this) (gApp_on (ON.nil .u8 eB w w.heap.size) h.2.1.nm (by simp; omega) (Nat.le_refl _) fun y w' hy hc hm => ⟨y, rfl, ?_, by simpa using hy⟩)
  exact hc.mono fun _ _ _ hh => by cases hh
end Go.Proofs.YtcjopcplhabgkaaV
