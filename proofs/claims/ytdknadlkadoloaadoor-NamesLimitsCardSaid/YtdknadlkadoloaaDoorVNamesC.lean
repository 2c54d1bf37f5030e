/- Sorting entries: insertion, the merge, the whole. -/
import Derived.Test.YtdknadlkadoloaaDoorVNamesB
namespace Go.Proofs.YtdknadlkadoloaaDoorV
open Go Go.RowKit
def lt3 (x y : E3) : Bool := nlt x.1 y.1
theorem wk3 : Wk lt3 := ⟨fun _ _ _ h h' => nle_tr h h', fun _ _ h => nlt_as h⟩
theorem lt3_of {h a k : E3} (h1 : lt3 h a = true) (h2 : lt3 h k = false) : lt3 k a = true := by
  cases hc : lt3 k a with
  | true => rfl
  | false => rw [wk3.tr a k h hc h2] at h1; cases h1
theorem lt3_of' {m h k : E3} (h1 : lt3 m h = true) (h2 : lt3 k h = false) : lt3 m k = true := by
  cases hc : lt3 m k with
  | true => rfl
  | false => rw [wk3.tr h k m h2 hc] at h1; cases h1
theorem down_at {α : Type} (f : Nat → α) (i j : Nat) : down f i j j = f i := by unfold down; rw [if_neg (by omega), if_pos rfl]
theorem down_lt {α : Type} (f : Nat → α) {i j k : Nat} (h : k < j) : down f i j k = f k := by unfold down; rw [if_pos h]
theorem rot_id1 {α : Type} (m b : Nat) (f : Nat → α) : rot m m b f = f := by
  funext k; unfold rot rotS
  repeat' split
  all_goals first | rfl | (congr 1; omega)
theorem rot_id2 {α : Type} (s m : Nat) (f : Nat → α) : rot s m m f = f := by
  funext k; unfold rot rotS
  repeat' split
  all_goals first | rfl | (congr 1; omega)
theorem mid_eq {i j : Int} (p q : Nat) (hi : i = (p : Int)) (hj : j = (q : Int)) (h : p + q ≤ 4611686018427387904) : i64 (iShr .u64 (u64 (i64 (i + j))) 1) = (((p + q) / 2 : Nat) : Int) := by
  subst hi; subst hj
  have h1 : i64 ((p : Int) + q) = ((p + q : Nat) : Int) := by rw [i64_id (by omega) (by omega)]; omega
  rw [h1]
  generalize p + q = s at h ⊢
  have h2 : u64 (s : Int) = (s : Int) := by rw [u64_def]; omega
  rw [h2, show (1 : Int) = ((1 : Nat) : Int) from rfl, iShr_div (by decide) (by omega), show ((2 ^ 1 : Nat) : Int) = 2 from rfl, i64_id (by omega) (by omega)]
  omega
section
variable {w0 w w' : World} {G : List It} {e : TypeId} {v : Value} {n : Nat}
/-- What a sort leaves. -/
def Sorted3 (w0 : World) (G : List It) (e : TypeId) (v : Value) (n a b : Nat) (f : Nat → E3) (e' : Ending) (w' : World) : Prop :=
  e' = .returned (.tuple #[]) ∧ ∃ g, PermOn a b f g ∧ Srt lt3 a b g ∧ Fr w0 w' (fIt e v n g :: G)
theorem insertion_any {f : Nat → E3} (hv : Fr w0 w (fIt e v n f :: G)) (ho : Ok1 f) (a b : Nat) (h1 : a ≤ b) (h2 : b ≤ n) (hn : n ≤ 1000000000000) :
    Calls P n_slices_insertionSortCmpFunc_api_Entry #[v, .int .i64 a, .int .i64 b, byV] w (Sorted3 w0 G e v n a b f) := by
  refine of_slices_insertionSortCmpFunc_api_Entry ⟨fun i w' => ∃ (k : Nat) (g : Nat → E3), i = (k : Int) ∧ a + 1 ≤ k ∧ (k ≤ b ∨ k = a + 1) ∧ Ok1 g ∧ PermOn a b f g ∧ Srt lt3 a k g ∧ Fr w0 w' (fIt e v n g :: G), fun i _ => (b - i).toNat, ?_, ?_⟩
  · exact ⟨a + 1, f, by rw [i64_id (by omega) (by omega)]; omega, by omega, .inr rfl, ho, PermOn.refl _ _ _, fun i j p q r => by omega, hv⟩
  rintro _ i w1 ⟨k, g, rfl, hk1, hk2, hg, hp, hs, g1⟩
  refine gIf_dec (fun hlt => ?_) (fun hge => ?_)
  · have hkb : k < b := by omega
    refine ⟨fun j w' => ∃ q : Nat, j = (q : Int) ∧ a ≤ q ∧ q ≤ k ∧ (∀ r, q ≤ r → r < k → lt3 (g k) (g r) = true) ∧ Fr w0 w' (fIt e v n (down g k q) :: G), fun j _ => j.toNat, ?_, ?_⟩
    · exact ⟨k, rfl, by omega, Nat.le_refl _, fun r _ _ => by omega, by rw [down_start]; exact g1⟩
    rintro _ j w2 ⟨q, rfl, hq1, hq2, hq3, g2⟩
    have hod : Ok1 (down g k q) := hg.perm (down_perm g (a := a) hq1 hq2)
    -- the inner loop's end
    have fin : ∀ w', (q = a ∨ lt3 (g k) (g (q - 1)) = false) → Fr w0 w' (fIt e v n (down g k q) :: G) → ∃ (k' : Nat) (g' : Nat → E3), i64 ((k : Int) + 1) = (k' : Int) ∧ a + 1 ≤ k' ∧ (k' ≤ b ∨ k' = a + 1) ∧ Ok1 g' ∧ PermOn a b f g' ∧ Srt lt3 a k' g' ∧ Fr w0 w' (fIt e v n g' :: G) := fun w' hc g3 =>
      ⟨k + 1, _, by rw [i64_id (by omega) (by omega)]; omega, by omega, .inl (by omega), hod, hp.trans ((down_perm g hq1 hq2).mono (Nat.le_refl _) (by omega)), down_srt wk3 hs hq1 hq2 hq3 hc, g3⟩
    have mfin : ∀ (_ : World), ((b : Int) - i64 ((k : Int) + 1)).toNat < ((b : Int) - (k : Int)).toNat := fun _ => by rw [i64_id (by omega) (by omega)]; omega
    refine ⟨fun w' => a < q ∧ lt3 (g k) (g (q - 1)) = true ∧ Fr w0 w' (fIt e v n (down g k q) :: G), ⟨fun w' => Ev w2.drew w', Ch.refl _ _, ?_⟩, ?_⟩
    · refine gIf_dec (fun hgt => ?_) (fun hle => ?_)
      · have hqa : a < q := by omega
        refine fIdxLdB g2.drew q rfl (by omega) (fun _ h => h) ?_
        rw [i64_id (n := (q : Int) - 1) (by omega) (by omega)]
        refine fIdxLdB g2.drew (q - 1) (by omega) (by omega) (fun _ h => h) ?_
        rw [down_at, down_lt g (show q - 1 < q by omega)]
        refine gCmp (hg _) (hg _) fun w3 h3 => ⟨h3, ?_⟩
        rw [cmpN_lt]
        refine gIf_b (fun hl => ⟨hqa, hl, g2.drew.ev h3⟩) (fun hl => ⟨fin _ (.inr hl) (g2.drew.ev h3), mfin w3⟩)
      · exact ⟨fin _ (.inl (by omega)) g2.drew, mfin w2⟩
    · rintro _ w4 ⟨hqa, hl, g4⟩
      rw [i64_id (n := (q : Int) - 1) (by omega) (by omega)]
      refine gSwap g4 hod q (q - 1) rfl (by omega) (by omega) (by omega) fun w5 g5 => ⟨⟨q - 1, by omega, by omega, by omega, fun r r1 r2 => ?_, ?_⟩, by dsimp only; omega⟩
      · by_cases hr : r = q - 1
        · subst hr; exact hl
        · exact hq3 r (by omega) r2
      · rw [down_step g k q (by omega) hq2] at g5; exact g5
  · exact ⟨rfl, g, hp, hs.sub (Nat.le_refl _) (by omega), g1⟩
theorem symMerge_any : ∀ (N : Nat) {w : World} {f : Nat → E3} (a m b : Nat), b - a ≤ N → Fr w0 w (fIt e v n f :: G) → Ok1 f → a < m → m < b → b ≤ n → n ≤ 1000000000000 → Srt lt3 a m f → Srt lt3 m b f →
    Calls P n_slices_symMergeCmpFunc_api_Entry #[v, .int .i64 a, .int .i64 m, .int .i64 b, byV] w (Sorted3 w0 G e v n a b f)
  | 0, _, _, a, m, b, hN, _, _, h1, h2, _, _, _, _ => by omega
  | N + 1, w, f, a, m, b, hN, hv, ho, h1, h2, h3, hn, s1, s2 => by
    refine of_slices_symMergeCmpFunc_api_Entry ?_
    rw [i64_id (n := (m : Int) - a) (by omega) (by omega), i64_id (n := (b : Int) - m) (by omega) (by omega)]
    refine gIf_eq (fun hone => ?_) (fun hmore => gIf_eq (fun hone => ?_) (fun hmore2 => ?_))
    · have hma : m = a + 1 := by omega
      subst hma
      refine ⟨fun i j w' => ∃ p q : Nat, i = (p : Int) ∧ j = (q : Int) ∧ a + 1 ≤ p ∧ p ≤ q ∧ q ≤ b ∧ (∀ k, a + 1 ≤ k → k < p → lt3 (f k) (f a) = true) ∧ (∀ k, q ≤ k → k < b → lt3 (f k) (f a) = false) ∧ Fr w0 w' (fIt e v n f :: G), fun i j _ => (j - i).toNat, ?_, ?_⟩
      · exact ⟨a + 1, b, rfl, rfl, Nat.le_refl _, by omega, Nat.le_refl _, fun k _ _ => by omega, fun k _ _ => by omega, hv⟩
      rintro _ i j w1 ⟨p, q, rfl, rfl, hp1, hp2, hp3, hl, hr, g1⟩
      refine gIf_dec (fun hlt => ?_) (fun hge => ?_)
      · rw [mid_eq p q rfl rfl (by omega)]
        have hh1 : p ≤ (p + q) / 2 := by omega
        have hh2 : (p + q) / 2 < q := by omega
        generalize (p + q) / 2 = hm at hh1 hh2
        refine ⟨fun w' => Ev w1.drew w', Ch.refl _ _, fIdxLdB g1.drew hm rfl (by omega) (fun _ h => h) (fIdxLdB g1.drew a rfl (by omega) (fun _ h => h) (gCmp (ho _) (ho _) fun w2 h2' => ⟨h2', ?_⟩))⟩
        rw [cmpN_lt, i64_id (n := (hm : Int) + 1) (by omega) (by omega)]
        refine gIf_b (fun hc => ⟨⟨hm + 1, q, by omega, rfl, by omega, by omega, hp3, fun k k1 k2 => ?_, hr, g1.drew.ev h2'⟩, by dsimp only; omega⟩) (fun hc => ⟨⟨p, hm, rfl, rfl, hp1, hh1, by omega, hl, fun k k1 k2 => ?_, g1.drew.ev h2'⟩, by dsimp only; omega⟩)
        · by_cases hk : k = hm
          · subst hk; exact hc
          · exact lt3_of hc (s2 k hm k1 (by omega) (by omega))
        · by_cases hk : k = hm
          · subst hk; exact hc
          · exact wk3.tr _ _ _ hc (s2 hm k (by omega) (by omega) k2)
      · have hpq : p = q := by omega
        subst hpq
        refine ⟨fun k w' => ∃ r : Nat, k = (r : Int) ∧ a ≤ r ∧ r ≤ p - 1 ∧ Fr w0 w' (fIt e v n (up f a r) :: G), fun k _ => (b - k).toNat, ⟨a, rfl, Nat.le_refl _, by omega, by rw [up_start]; exact g1⟩, ?_⟩
        rintro _ k w3 ⟨r, rfl, hr1, hr2, g3⟩
        rw [i64_id (n := (p : Int) - 1) (by omega) (by omega)]
        refine gIf_dec (fun hlt => ?_) (fun hge2 => ?_)
        · have hup : Ok1 (up f a r) := ho.perm (up_perm f (b := b) hr1 (by omega))
          rw [i64_id (n := (r : Int) + 1) (by omega) (by omega)]
          refine gSwap g3 hup r (r + 1) rfl (by omega) (by omega) (by omega) fun w4 g4 => ⟨⟨r + 1, by omega, by omega, by omega, ?_⟩, by dsimp only; omega⟩
          rw [up_step f a r hr1] at g4; exact g4
        · have hrp : r = p - 1 := by omega
          subst hrp
          exact ⟨rfl, _, up_perm f hr1 (by omega), up_srt wk3 s2 hp1 hp3 hl hr, g3⟩
    · have hbm : b = m + 1 := by omega
      subst hbm
      refine ⟨fun i j w' => ∃ p q : Nat, i = (p : Int) ∧ j = (q : Int) ∧ a ≤ p ∧ p ≤ q ∧ q ≤ m ∧ (∀ k, a ≤ k → k < p → lt3 (f m) (f k) = false) ∧ (∀ k, q ≤ k → k < m → lt3 (f m) (f k) = true) ∧ Fr w0 w' (fIt e v n f :: G), fun i j _ => (j - i).toNat, ?_, ?_⟩
      · exact ⟨a, m, rfl, rfl, Nat.le_refl _, by omega, Nat.le_refl _, fun k _ _ => by omega, fun k _ _ => by omega, hv⟩
      rintro _ i j w1 ⟨p, q, rfl, rfl, hp1, hp2, hp3, hl, hr, g1⟩
      refine gIf_dec (fun hlt => ?_) (fun hge => ?_)
      · rw [mid_eq p q rfl rfl (by omega)]
        have hh1 : p ≤ (p + q) / 2 := by omega
        have hh2 : (p + q) / 2 < q := by omega
        generalize (p + q) / 2 = hm at hh1 hh2
        refine ⟨fun w' => Ev w1.drew w', Ch.refl _ _, fIdxLdB g1.drew m rfl (by omega) (fun _ h => h) (fIdxLdB g1.drew hm rfl (by omega) (fun _ h => h) (gCmp (ho _) (ho _) fun w2 h2' => ⟨h2', ?_⟩))⟩
        rw [cmpN_lt, i64_id (n := (hm : Int) + 1) (by omega) (by omega)]
        refine gIf_nb (fun hc => ⟨⟨hm + 1, q, by omega, rfl, by omega, by omega, hp3, fun k k1 k2 => ?_, hr, g1.drew.ev h2'⟩, by dsimp only; omega⟩) (fun hc => ⟨⟨p, hm, rfl, rfl, hp1, hh1, by omega, hl, fun k k1 k2 => ?_, g1.drew.ev h2'⟩, by dsimp only; omega⟩)
        · by_cases hk : k = hm
          · subst hk; exact hc
          · exact wk3.tr _ _ _ (s1 k hm k1 (by omega) (by omega)) hc
        · by_cases hk : k = hm
          · subst hk; exact hc
          · exact lt3_of' hc (s1 hm k (by omega) (by omega) k2)
      · have hpq : p = q := by omega
        subst hpq
        refine ⟨fun k w' => ∃ r : Nat, k = (r : Int) ∧ p ≤ r ∧ r ≤ m ∧ Fr w0 w' (fIt e v n (down f m r) :: G), fun k _ => k.toNat, ⟨m, rfl, hp3, Nat.le_refl _, by rw [down_start]; exact g1⟩, ?_⟩
        rintro _ k w3 ⟨r, rfl, hr1, hr2, g3⟩
        refine gIf_dec (fun hgt => ?_) (fun hle => ?_)
        · have hdn : Ok1 (down f m r) := ho.perm (down_perm f (a := a) (by omega) hr2)
          rw [i64_id (n := (r : Int) - 1) (by omega) (by omega)]
          refine gSwap g3 hdn r (r - 1) rfl (by omega) (by omega) (by omega) fun w4 g4 => ⟨⟨r - 1, by omega, by omega, by omega, ?_⟩, by dsimp only; omega⟩
          rw [down_step f m r (by omega) hr2] at g4; exact g4
        · have hrp : r = p := by omega
          subst hrp
          exact ⟨rfl, _, down_perm f hp1 hp3, down_srt' wk3 s1 hp1 hp3 hl hr, g3⟩
    · rw [mid_eq a b rfl rfl (by omega)]
      have hmid : ∃ mid : Nat, mid = (a + b) / 2 := ⟨_, rfl⟩
      obtain ⟨mid, hmid⟩ := hmid
      have hm1 : a ≤ mid := by omega
      have hm2 : mid ≤ b := by omega
      have hm3 : 2 * mid ≤ a + b := by omega
      have hm4 : a + b ≤ 2 * mid + 1 := by omega
      rw [← hmid]
      clear hmid
      rw [i64_id (n := (mid : Int) + m) (by omega) (by omega), i64_id (n := (mid : Int) + m - 1) (by omega) (by omega)]
      refine ⟨fun s r w' => ∃ s0 r0 : Nat, s = (s0 : Int) ∧ r = (r0 : Int) ∧ a ≤ s0 ∧ s0 ≤ r0 ∧ r0 ≤ m ∧ r0 ≤ mid ∧ mid + m ≤ s0 + b ∧ (s0 = a ∨ s0 + b = mid + m) ∧ (r0 = m ∨ r0 = mid) ∧ Fr w0 w' (fIt e v n f :: G), ?_, ?_⟩
      · refine gIf_dec (fun hgt => ?_) (fun hle => ?_)
        · exact ⟨mid + m - b, mid, by rw [i64_id (by omega) (by omega)]; omega, rfl, by omega, by omega, by omega, Nat.le_refl _, by omega, .inr (by omega), .inr rfl, hv⟩
        · exact ⟨a, m, rfl, rfl, Nat.le_refl _, by omega, Nat.le_refl _, by omega, by omega, .inl rfl, .inl rfl, hv⟩
      rintro _ s r w11 ⟨s0, r0, rfl, rfl, c1, c2, c3, c4, c5, c6, c7, g11⟩
      have up1 : ∀ x y, a ≤ x → x < y → y < m → lt3 (f y) (f x) = false := s1
      refine ⟨fun i j w' => ∃ p q : Nat, i = (p : Int) ∧ j = (q : Int) ∧ s0 ≤ p ∧ p ≤ q ∧ q ≤ r0 ∧ (∀ c, s0 ≤ c → c < p → lt3 (f (mid + m - 1 - c)) (f c) = false) ∧ (∀ c, q ≤ c → c < r0 → lt3 (f (mid + m - 1 - c)) (f c) = true) ∧ Fr w0 w' (fIt e v n f :: G), fun i j _ => (j - i).toNat, ?_, ?_⟩
      · exact ⟨s0, r0, rfl, rfl, Nat.le_refl _, c2, Nat.le_refl _, fun c _ _ => by omega, fun c _ _ => by omega, g11⟩
      rintro _ i j w12 ⟨p, q, rfl, rfl, hp1, hp2, hp3, hl, hr, g12⟩
      refine gIf_dec (fun hlt => ?_) (fun hge => ?_)
      · rw [mid_eq p q rfl rfl (by omega)]
        have hh1 : p ≤ (p + q) / 2 := by omega
        have hh2 : (p + q) / 2 < q := by omega
        generalize (p + q) / 2 = hm at hh1 hh2
        rw [i64_id (n := (mid : Int) + m - 1 - hm) (by omega) (by omega)]
        refine ⟨fun w' => Ev w12.drew w', Ch.refl _ _, fIdxLdB g12.drew (mid + m - 1 - hm) (by omega) (by omega) (fun _ h => h) (fIdxLdB g12.drew hm rfl (by omega) (fun _ h => h) (gCmp (ho _) (ho _) fun w2 h2' => ⟨h2', ?_⟩))⟩
        rw [cmpN_lt, i64_id (n := (hm : Int) + 1) (by omega) (by omega)]
        refine gIf_nb (fun hc => ⟨⟨hm + 1, q, by omega, rfl, by omega, by omega, hp3, fun k k1 k2 => ?_, hr, g12.drew.ev h2'⟩, by dsimp only; omega⟩) (fun hc => ⟨⟨p, hm, rfl, rfl, hp1, hh1, by omega, hl, fun k k1 k2 => ?_, g12.drew.ev h2'⟩, by dsimp only; omega⟩)
        · by_cases hk : k = hm
          · subst hk; exact hc
          · exact wk3.tr _ _ _ (s1 k hm (by omega) (by omega) (by omega)) (wk3.tr _ _ _ hc (s2 _ _ (by omega) (by omega) (by omega)))
        · by_cases hk : k = hm
          · subst hk; exact hc
          · have e1 := s1 hm k (by omega) (by omega) (by omega)
            have e2 := s2 (mid + m - 1 - k) (mid + m - 1 - hm) (by omega) (by omega) (by omega)
            exact lt3_of (lt3_of' hc e1) e2
      · have hpq : p = q := by omega
        subst hpq
        rw [i64_id (n := (mid : Int) + m - p) (by omega) (by omega)]
        have hend : ((mid : Int) + m - p) = ((mid + m - p : Nat) : Int) := by omega
        rw [hend]
        obtain ⟨q1, q2, q3, q4, q5⟩ := merge_parts (mid := mid) (s := p) wk3 s1 s2 hm1 hm2 (by omega) (by omega) (by omega) (by omega) (fun c d1 d2 d3 => hl c (by omega) d2) (fun d1 d2 => hr p (Nat.le_refl _) (by omega))
        have hrp : PermOn a b f (rot p m (mid + m - p) f) := (rot_perm f (by omega) (by omega)).mono (by omega) (by omega)
        have hro : Ok1 (rot p m (mid + m - p) f) := ho.perm hrp
        refine ⟨fun w' => Fr w0 w' (fIt e v n (rot p m (mid + m - p) f) :: G), ?_, ?_⟩
        · refine gIf_dec (fun ha => gIf_dec (fun hb => ?_) (fun hb => ?_)) (fun ha => ?_)
          · exact gCall_u (rotate_any g12 ho p m (mid + m - p) byV (by omega) (by omega) (by omega) hn) fun w14 g14 => g14
          · have : mid + m - p = m := by omega
            rw [this, rot_id2]; exact g12
          · have : p = m := by omega
            subst this; rw [rot_id1]; exact g12
        intro _ w15 g15
        generalize rot p m (mid + m - p) f = F at *
        refine ⟨fun w' => ∃ g, PermOn a mid F g ∧ Srt lt3 a mid g ∧ Ok1 g ∧ Fr w0 w' (fIt e v n g :: G), ?_, ?_⟩
        · refine gIf_dec (fun ha => gIf_dec (fun hb => ?_) (fun hb => ?_)) (fun ha => ?_)
          · exact gCall_u (symMerge_any N a p mid (by omega) g15 hro (by omega) (by omega) (by omega) hn q1 q2) fun w16 ⟨g, x1, x2, x3⟩ => ⟨g, x1, x2, hro.perm x1, x3⟩
          · have : p = mid := by omega
            subst this; exact ⟨F, PermOn.refl _ _ _, q1, hro, g15⟩
          · have : p = a := by omega
            subst this; exact ⟨F, PermOn.refl _ _ _, q2, hro, g15⟩
        rintro _ w17 ⟨g, x1, x2, x3, g17⟩
        have y1 : Srt lt3 mid (mid + m - p) g := q3.out x1 (.inr (Nat.le_refl _))
        have y2 : Srt lt3 (mid + m - p) b g := q4.out x1 (.inr (by omega))
        have hp0 : PermOn a b f g := hrp.trans (x1.mono (Nat.le_refl _) hm2)
        have fin : ∀ w' h, PermOn mid b g h → Srt lt3 mid b h → Fr w0 w' (fIt e v n h :: G) → ∃ h, PermOn a b f h ∧ Srt lt3 a b h ∧ Fr w0 w' (fIt e v n h :: G) := fun w' h z1 z2 z3 => ⟨h, hp0.trans (z1.mono hm1 (Nat.le_refl _)), merge_join q5 x1 x2 z1 z2, z3⟩
        refine gIf_dec (fun ha => gIf_dec (fun hb => ?_) (fun hb => ?_)) (fun ha => ?_)
        · exact gCall_u (symMerge_any N mid (mid + m - p) b (by omega) g17 x3 (by omega) (by omega) h3 hn y1 y2) fun w18 ⟨h, z1, z2, z3⟩ => ⟨rfl, fin _ h z1 z2 z3⟩
        · have : mid + m - p = b := by omega
          rw [this] at y1
          exact ⟨rfl, fin _ g (PermOn.refl _ _ _) y1 g17⟩
        · have : mid + m - p = mid := by omega
          rw [this] at y2
          exact ⟨rfl, fin _ g (PermOn.refl _ _ _) y2 g17⟩
theorem dvd_step {s a c : Nat} (ha : s ∣ a) (hc : s ∣ c) (h : c < a) : c + s ≤ a := by
  have := Nat.le_of_dvd (by omega) (Nat.dvd_sub ha hc); omega
theorem stable_any {f : Nat → E3} (hv : Fr w0 w (fIt e v n f :: G)) (ho : Ok1 f) (hn : n ≤ 100000000000) :
    Calls P n_slices_stableCmpFunc_api_Entry #[v, .int .i64 n, byV] w (Sorted3 w0 G e v n 0 n f) := by
  refine of_slices_stableCmpFunc_api_Entry ⟨fun a b w' => ∃ (p : Nat) (g : Nat → E3), a = (p : Int) ∧ b = ((p + 20 : Nat) : Int) ∧ p ≤ n ∧ 20 ∣ p ∧ (∀ c, 20 ∣ c → c + 20 ≤ p → Srt lt3 c (c + 20) g) ∧ Ok1 g ∧ PermOn 0 n f g ∧ Fr w0 w' (fIt e v n g :: G), fun a _ _ => (n - a).toNat, ?_, ?_⟩
  · exact ⟨0, f, rfl, rfl, Nat.zero_le _, ⟨0, rfl⟩, fun c _ h => by omega, ho, PermOn.refl _ _ _, hv⟩
  rintro _ a b w1 ⟨p, g, rfl, rfl, hp, hd, hs, hg, hpm, g1⟩
  refine gIf_dec (fun hle => ?_) (fun hgt => ?_)
  · refine gCall_u (insertion_any g1 hg p (p + 20) (by omega) (by omega) (by omega)) fun w2 ⟨h, x1, x2, g2⟩ => ?_
    refine ⟨⟨p + 20, h, rfl, by rw [i64_id (by omega) (by omega)]; omega, by omega, Nat.dvd_add hd ⟨1, rfl⟩, fun c c1 c2 => ?_, hg.perm x1, hpm.trans (x1.mono (Nat.zero_le _) (by omega)), g2⟩, by dsimp only; omega⟩
    by_cases hc : c = p
    · subst hc; exact x2
    · have := dvd_step hd c1 (by omega)
      exact (hs c c1 this).out x1 (.inl this)
  refine gCall_u (insertion_any g1 hg p n hp (Nat.le_refl _) (by omega)) fun w3 ⟨h, x1, x2, g3⟩ => ?_
  have hh : Ok1 h := hg.perm x1
  have hpm2 : PermOn 0 n f h := hpm.trans (x1.mono (Nat.zero_le _) (Nat.le_refl _))
  have hb : ∀ c, 20 ∣ c → Srt lt3 c (min (c + 20) n) h := fun c c1 => by
    by_cases hc : c < p
    · have := dvd_step hd c1 hc
      exact ((hs c c1 this).out x1 (.inl this)).sub (Nat.le_refl _) (by omega)
    · by_cases hc2 : c = p
      · subst hc2; exact x2.sub (Nat.le_refl _) (by omega)
      · have := dvd_step c1 hd (by omega)
        intro i j i1 i2 i3; omega
  clear x1 x2 g1 hs hg
  refine ⟨fun bs w' => ∃ (s : Nat) (g : Nat → E3), bs = (s : Int) ∧ 20 ≤ s ∧ s ≤ 2 * n + 20 ∧ (∀ c, s ∣ c → Srt lt3 c (min (c + s) n) g) ∧ Ok1 g ∧ PermOn 0 n f g ∧ Fr w0 w' (fIt e v n g :: G), fun bs _ => (n - bs).toNat, ⟨20, h, rfl, Nat.le_refl _, by omega, hb, hh, hpm2, g3⟩, ?_⟩
  clear hb hh hpm2 g3
  rintro _ bs w4 ⟨s, g, rfl, hs20, hs2, hb, hg, hpm, g4⟩
  refine gIf_dec (fun hlt => ?_) (fun hge => ?_)
  · rw [i64_id (n := 2 * (s : Int)) (by omega) (by omega), i64_id (n := (s : Int) * 2) (by omega) (by omega)]
    have h2s : s ∣ 2 * s := ⟨2, by omega⟩
    refine ⟨fun a b w' => ∃ (p : Nat) (g : Nat → E3), a = (p : Int) ∧ b = ((p + 2 * s : Nat) : Int) ∧ p ≤ n ∧ 2 * s ∣ p ∧ (∀ c, 2 * s ∣ c → c + 2 * s ≤ p → Srt lt3 c (c + 2 * s) g) ∧ (∀ c, s ∣ c → p ≤ c → Srt lt3 c (min (c + s) n) g) ∧ Ok1 g ∧ PermOn 0 n f g ∧ Fr w0 w' (fIt e v n g :: G), fun a _ _ => (n - a).toNat, ?_, ?_⟩
    · exact ⟨0, g, rfl, by omega, Nat.zero_le _, ⟨0, rfl⟩, fun c _ h => by omega, fun c c1 _ => hb c c1, hg, hpm, g4⟩
    rintro _ a b w5 ⟨p, k, rfl, rfl, hp, hd, hdone, htodo, hk, hpm2, g5⟩
    have hsp : s ∣ p := Nat.dvd_trans h2s hd
    have t1 := htodo p hsp (Nat.le_refl _)
    have t2 := htodo (p + s) (Nat.dvd_add hsp (Nat.dvd_refl _)) (by omega)
    rw [i64_id (n := (p : Int) + s) (by omega) (by omega), show ((p : Int) + s) = ((p + s : Nat) : Int) by omega]
    refine gIf_dec (fun hle => ?_) (fun hgt => ?_)
    · refine gCall_u (symMerge_any _ p (p + s) (p + 2 * s) (Nat.le_refl _) g5 hk (by omega) (by omega) (by omega) (by omega) (t1.sub (Nat.le_refl _) (by omega)) (t2.sub (Nat.le_refl _) (by omega))) fun w6 ⟨h, x1, x2, g6⟩ => ?_
      refine ⟨⟨p + 2 * s, h, rfl, by rw [i64_id (by omega) (by omega)]; omega, by omega, Nat.dvd_add hd (Nat.dvd_refl _), fun c c1 c2 => ?_, fun c c1 c2 => (htodo c c1 (by omega)).out x1 (.inr c2), hk.perm x1, hpm2.trans (x1.mono (Nat.zero_le _) (by omega)), g6⟩, by dsimp only; omega⟩
      by_cases hc : c = p
      · subst hc; exact x2
      · have := dvd_step hd c1 (by omega)
        exact (hdone c c1 this).out x1 (.inl this)
    · have step : ∀ w' h, PermOn p n k h → Srt lt3 p n h → Fr w0 w' (fIt e v n h :: G) → (∃ (s' : Nat) (g : Nat → E3), (s : Int) * 2 = (s' : Int) ∧ 20 ≤ s' ∧ s' ≤ 2 * n + 20 ∧ (∀ c, s' ∣ c → Srt lt3 c (min (c + s') n) g) ∧ Ok1 g ∧ PermOn 0 n f g ∧ Fr w0 w' (fIt e v n g :: G)) ∧ ((n : Int) - (s : Int) * 2).toNat < ((n : Int) - (s : Int)).toNat := fun w' h x1 x2 x3 => by
        refine ⟨⟨2 * s, h, by omega, by omega, by omega, fun c c1 => ?_, hk.perm x1, hpm2.trans (x1.mono (Nat.zero_le _) (Nat.le_refl _)), x3⟩, by omega⟩
        by_cases hc : c < p
        · have := dvd_step hd c1 hc
          exact ((hdone c c1 this).out x1 (.inl this)).sub (Nat.le_refl _) (by omega)
        · by_cases hc2 : c = p
          · subst hc2; exact x2.sub (Nat.le_refl _) (by omega)
          · have := dvd_step c1 hd (by omega)
            intro i j i1 i2 i3; omega
      refine gIf_dec (fun hmn => ?_) (fun hmn => ?_)
      · exact gCall_u (symMerge_any _ p (p + s) n (Nat.le_refl _) g5 hk (by omega) (by omega) (Nat.le_refl _) (by omega) (t1.sub (Nat.le_refl _) (by omega)) (t2.sub (Nat.le_refl _) (by omega))) fun w7 ⟨h, x1, x2, g7⟩ => step _ h x1 x2 g7
      · exact step _ k (PermOn.refl _ _ _) (t1.sub (Nat.le_refl _) (by omega)) g5
  · have := hb 0 ⟨0, rfl⟩
    exact ⟨rfl, g, hpm, this.sub (Nat.le_refl _) (by omega), g4⟩
/-- slices.SortStableFunc: the same entries, by rising names. -/
theorem SortStable_any {us : List E3} (hv : Fr w0 w (rIt e 2 v us.length (cells3 us) :: G)) (ho : ∀ u ∈ us, u.2.1.oneCell' = true) (hn : us.length ≤ 100000000000) :
    Calls P n_slices_SortStableFunc_api_Entry_api_Entry #[v, byV] w (fun e' w' => e' = .returned (.tuple #[]) ∧ ∃ us' : List E3, us'.Perm us ∧ us'.Pairwise (fun x y => nlt y.1 x.1 = false) ∧ Fr w0 w' (rIt e 2 v us'.length (cells3 us') :: G)) := by
  refine of_slices_SortStableFunc_api_Entry_api_Entry (gLen_slv (hv.row 0 rfl) ?_)
  have hl := lst_of us
  obtain ⟨f, hf⟩ : ∃ f : Nat → E3, f = fun i => us.getD i default := ⟨_, rfl⟩
  rw [← hf] at hl
  have hok : Ok1 f := fun k => by
    rw [hf]; dsimp only
    by_cases hk : k < us.length
    · rw [List.getD_eq_getElem?_getD, List.getElem?_eq_getElem hk]; exact ho _ (List.getElem_mem hk)
    · rw [List.getD_eq_getElem?_getD, List.getElem?_eq_none (by omega)]; rfl
  have hv' : Fr w0 w (fIt e v us.length f :: G) := by unfold fIt; rw [← hl]; exact hv
  refine gCall_u (stable_any hv' hok hn) fun w1 ⟨g, x1, x2, g1⟩ => ⟨rfl, lst us.length g, ?_, ?_, ?_⟩
  · have := x1.perm
    exact this.trans (by rw [show (List.range us.length).map f = lst us.length f from rfl, ← hl])
  · unfold lst
    rw [List.pairwise_map]
    refine List.Pairwise.imp_of_mem ?_ (List.pairwise_lt_range (n := us.length))
    intro i j hi hj hij
    exact x2 i j (Nat.zero_le _) hij (List.mem_range.1 hj)
  · rw [lst_len]; exact g1
end
end Go.Proofs.YtdknadlkadoloaaDoorV
