/- Package filter: what its functions compute, first part. -/
import Derived.Test.YtcnigagagjmogaaVNodes2
import Derived.Test.YtcnigagagjmogaaVS
namespace Go.Proofs.YtcnigagagjmogaaV
open Go Go.RowKit

def ofL (l : List Int) (i : Int) : Int := if i < 0 ∨ i ≥ l.length then 0 else rd l i
theorem ofL_u8 {l : List Int} (h : inR .u8 l) (i : Int) : 0 ≤ ofL l i ∧ ofL l i < 256 := by
  unfold ofL; split
  · omega
  · exact rd_u8 h i
def farI (a b : Int) : Int := if b - a > a - b then b - a else a - b
def paethI (a b c : Int) : Int :=
  if farI (a + b - c) a ≤ farI (a + b - c) b ∧ farI (a + b - c) a ≤ farI (a + b - c) c then a
  else if farI (a + b - c) b ≤ farI (a + b - c) c then b else c
def guessI (kind a b c : Int) : Int :=
  if kind = 1 then a else if kind = 2 then b else if kind = 3 then paethI a b c else if kind = 4 then (a + b) / 2 else 0

theorem of_any {l : Value} {xs : List Int} {i : Int} {w : World} (h : Nm .u8 w l xs) : Calls P n_filter_of #[l, .int .i64 i] w (fun e w' => e = .returned (.int .i64 (ofL xs i)) ∧ w' = w) := by
  refine of_filter_of (gIf_ndec (fun h0 => gLen_nm h (gIf_dec (fun h1 => ⟨?_, rfl⟩) (fun h1 => ?_))) (fun h0 => ⟨?_, rfl⟩))
  · unfold ofL; rw [if_pos (.inr h1)]
  · refine gIdx_nm h (by omega) (by omega) fun ad hc _ => gLoad_i hc ⟨?_, rfl⟩
    have := rd_u8 h.2 i
    unfold ofL; rw [if_neg (by omega), i64_id (by omega) (by omega)]
  · unfold ofL; rw [if_pos (.inl h0)]
theorem far_any {a b : Int} {w : World} (ha : -100000 ≤ a ∧ a ≤ 100000) (hb : -100000 ≤ b ∧ b ≤ 100000) : Calls P n_filter_far #[.int .i64 a, .int .i64 b] w (fun e w' => e = .returned (.int .i64 (farI a b)) ∧ w' = w) := by
  refine of_filter_far ⟨?_, rfl⟩
  rw [i64_id (by omega) (by omega), i64_id (by omega) (by omega)]; rfl
theorem farI_bd {a b : Int} : (0 ≤ farI a b) ∧ (farI a b = a - b ∨ farI a b = b - a) := by unfold farI; split <;> omega
abbrev rng (x : Int) : Prop := 0 ≤ x ∧ x < 256
theorem paeth_any {ad : Addr} {a b c : Int} {w : World} {r : List Value} (h : St w ad (.int .i64 a :: .int .i64 b :: .int .i64 c :: r)) (ha : rng a) (hb : rng b) (hc : rng c) :
    Calls P n_filter_around_paeth #[.pointer (some ad)] w (fun e w' => e = .returned (.int .i64 (paethI a b c)) ∧ Ev w w') := by
  refine of_filter_around_paeth (gNil_some (gLoadB_i (at1 (h.cell (j := 0) rfl)) (gNil_some (gLoadB_i (at1 (h.cell (j := 1) rfl)) (gNil_some (gLoadB_i (at1 (h.cell (j := 2) rfl)) ?_))))))
  refine ⟨fun w' => w' = w.drew.drew, rfl, gNil_some (gLoadB_i (at1 (h.drew.cell (j := 0) rfl)) (gNil_some (gLoadB_i (at1 (h.drew.cell (j := 1) rfl)) (gNil_some (gLoadB_i (at1 (h.drew.cell (j := 2) rfl)) ?_)))))⟩
  rw [i64_id (n := a + b) (by omega) (by omega), i64_id (n := a + b - c) (by omega) (by omega)]
  refine gCall_of (far_any (by omega) (by omega)) ?_
  rintro _ _ ⟨rfl, rfl⟩
  refine ⟨_, rfl, rfl, gCall_of (far_any (by omega) (by omega)) ?_⟩
  rintro _ _ ⟨rfl, rfl⟩
  refine ⟨_, rfl, rfl, gCall_of (far_any (by omega) (by omega)) ?_⟩
  rintro _ _ ⟨rfl, rfl⟩
  refine ⟨_, rfl, rfl, ?_⟩
  have hev : Ev w w.drew.drew := (Ev.drew0 w).drew
  have hB : farI (a + b - c) b ≤ farI (a + b - c) c → ¬ (farI (a + b - c) a ≤ farI (a + b - c) b ∧ farI (a + b - c) a ≤ farI (a + b - c) c) → paethI a b c = b := fun h1 h2 => by unfold paethI; rw [if_neg h2, if_pos h1]
  have hC : ¬ farI (a + b - c) b ≤ farI (a + b - c) c → ¬ (farI (a + b - c) a ≤ farI (a + b - c) b ∧ farI (a + b - c) a ≤ farI (a + b - c) c) → paethI a b c = c := fun h1 h2 => by unfold paethI; rw [if_neg h2, if_neg h1]
  refine gIf_dec (fun h1 => gIf_dec (fun h2 => gNil_some (gLoad_i (h.drew.drew.cell (j := 0) rfl) ⟨?_, hev⟩)) (fun h2 => ?_)) (fun h1 => ?_)
  · unfold paethI; rw [if_pos ⟨h1, h2⟩]
  all_goals
    have hn : ¬ (farI (a + b - c) a ≤ farI (a + b - c) b ∧ farI (a + b - c) a ≤ farI (a + b - c) c) := fun h => by first | exact h2 h.2 | exact h1 h.1
    refine gIf_dec (fun h3 => gNil_some (gLoad_i (h.drew.drew.cell (j := 1) rfl) ⟨by rw [hB h3 hn], hev⟩)) (fun h3 => gNil_some (gLoad_i (h.drew.drew.cell (j := 2) rfl) ⟨by rw [hC h3 hn], hev⟩))
theorem paethI_rng {a b c : Int} (ha : rng a) (hb : rng b) (hc : rng c) : rng (paethI a b c) := by unfold paethI; split <;> first | exact ha | skip; split <;> assumption
theorem guessI_rng {k a b c : Int} (ha : rng a) (hb : rng b) (hc : rng c) : rng (guessI k a b c) := by
  unfold guessI; have := paethI_rng ha hb hc
  split; exact ha; split; exact hb; split; exact this; split <;> omega
theorem guess_any {ad : Addr} {k a b c : Int} {w : World} {r : List Value} (h : St w ad (.int .i64 a :: .int .i64 b :: .int .i64 c :: r)) (ha : rng a) (hb : rng b) (hc : rng c) :
    Calls P n_filter_around_guess #[.pointer (some ad), .int .i64 k] w (fun e w' => e = .returned (.int .u8 (guessI k a b c)) ∧ Ev w w') := by
  refine of_filter_around_guess (gIf_eq (fun h1 => gNil_some (gLoad_i (h.cell (j := 0) rfl) ⟨?_, Ch.refl _ w⟩)) (fun h1 => gIf_eq (fun h2 => gNil_some (gLoad_i (h.cell (j := 1) rfl) ⟨?_, Ch.refl _ w⟩)) (fun h2 =>
    gIf_eq (fun h3 => gCall_of (paeth_any h ha hb hc) ?_) (fun h3 => gIf_eq (fun h4 => gNil_some (gLoadB_i (at1 (h.cell (j := 0) rfl)) (gNil_some (gLoadB_i (at1 (h.cell (j := 1) rfl)) ⟨?_, Ev.drew0 w⟩)))) (fun h4 => ⟨?_, Ch.refl _ w⟩)))))
  · unfold guessI; rw [if_pos h1, u8_id ha.1 ha.2]
  · unfold guessI; rw [if_neg h1, if_pos h2, u8_id hb.1 hb.2]
  · rintro _ w1 ⟨rfl, hw⟩
    have := paethI_rng ha hb hc
    refine ⟨_, rfl, ?_, hw⟩
    unfold guessI; rw [if_neg h1, if_neg h2, if_pos h3, u8_id this.1 this.2]
  · unfold guessI; rw [if_neg h1, if_neg h2, if_neg h3, if_pos h4, i64_id (n := a + b) (by omega) (by omega), Int.tdiv_eq_ediv_of_nonneg (by omega), i64_id (by omega) (by omega), u8_id (by omega) (by omega)]
  · unfold guessI; rw [if_neg h1, if_neg h2, if_neg h3, if_neg h4]
/-- What the struct of a row's neighbours holds. -/
def nbs (a b c : Int) (row up : Value) (p : Int) : List Value := [.int .i64 a, .int .i64 b, .int .i64 c, row, up, .int .i64 p]
theorem look_any {ad : Addr} {a b c p i : Int} {row up : Value} {xs us : List Int} {w : World} (h : St w ad (nbs a b c row up p)) (hr : Nm .u8 w row xs) (hu : Nm .u8 w up us) (hp : 0 ≤ p ∧ p ≤ 9223372036854775807) (hi : 0 ≤ i ∧ i ≤ 9223372036854775807) :
    Calls P n_filter_neighbours_look #[.pointer (some ad), .int .i64 i] w (fun e w' => e = .returned (.tuple #[]) ∧ Ch (Rg ad 3) w w' ∧ St w' ad (nbs (ofL xs (i - p)) (ofL us i) (ofL us (i - p)) row up p)) := by
  refine of_filter_neighbours_look ⟨fun w' => St w' (ad.add 3) [row, up, .int .i64 p], ?_, ?_⟩
  · exact (h.sub 3 3).drew
  have cell : ∀ {w' : World} (_ : St w' (ad.add 3) [row, up, .int .i64 p]) (j : Nat) (u : Value), ([row, up, .int .i64 p] : List Value)[j]? = some u → w'.cell? (ad.add (3 + j)) = some u := fun {w'} hw j u hj => by
    have := hw.cell hj
    rw [Addr.add_none h.1, Addr.add_lit] at this
    rw [Addr.add_none h.1]; rwa [Nat.add_assoc] at this
  refine gNil_some (gLoadB_v (fun w' hw => cell hw 0 _ rfl) (gNil_some (gLoadB_i (fun w' hw => cell hw 2 _ rfl) (gNil_some (gLoadB_v (fun w' hw => cell hw 1 _ rfl) (gNil_some (gLoadB_v (fun w' hw => cell hw 1 _ rfl) (gNil_some (gLoadB_i (fun w' hw => cell hw 2 _ rfl) ?_)))))))))
  rw [i64_id (n := i - p) (by omega) (by omega)]
  refine gCall_of (of_any hr.drew) ?_
  rintro _ _ ⟨rfl, rfl⟩
  refine ⟨_, rfl, (h.sub 3 3).drew, gCall_of (of_any hu.drew) ?_⟩
  rintro _ _ ⟨rfl, rfl⟩
  refine ⟨_, rfl, (h.sub 3 3).drew, gCall_of (of_any hu.drew) ?_⟩
  rintro _ _ ⟨rfl, rfl⟩
  refine ⟨_, rfl, (h.sub 3 3).drew, gNil_some (gStore_agg h.drew (j := 0) (by simp [nbs]) (by simp; exact ⟨rfl, rfl, rfl⟩) ?_ (by kernel_rfl))⟩
  intro w' hc _ hS
  refine ⟨(h.sub 3 3).drew.ch hc fun j hj hh => ?_, rfl, ?_, hS⟩
  · have h1 := hh.2.2
    rw [Addr.add_none h.1, Addr.add_none h.1] at h1
    simp at h1
    omega
  · refine Ch.trans (Ev.drew0 w |>.mono fun _ _ _ h => h.elim) hc fun n i _ hh => ?_
    rw [Addr.add_zero'] at hh; exact hh
end Go.Proofs.YtcnigagagjmogaaV
