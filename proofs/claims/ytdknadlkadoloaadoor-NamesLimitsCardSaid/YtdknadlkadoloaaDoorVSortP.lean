/- Sorting by exchanges, over functions of the place: what insertion, rotation and merging do. No program in sight. -/
import Derived.Test.YtdknadlkadoloaaDoorVBase
namespace Go.Proofs.YtdknadlkadoloaaDoorV
section
variable {α : Type}
/-- f' is f, its places between a and b in another order. -/
def PermOn (a b : Nat) (f f' : Nat → α) : Prop := ∃ s t : Nat → Nat, (∀ i, f' i = f (s i)) ∧ (∀ i, s (t i) = i) ∧ (∀ i, t (s i) = i) ∧ ∀ i, i < a ∨ b ≤ i → s i = i
theorem PermOn.refl (a b : Nat) (f : Nat → α) : PermOn a b f f := ⟨id, id, fun _ => rfl, fun _ => rfl, fun _ => rfl, fun _ _ => rfl⟩
theorem PermOn.trans {a b : Nat} {f g h : Nat → α} (h1 : PermOn a b f g) (h2 : PermOn a b g h) : PermOn a b f h := by
  obtain ⟨s, t, e1, e2, e3, e4⟩ := h1
  obtain ⟨s', t', d1, d2, d3, d4⟩ := h2
  exact ⟨fun i => s (s' i), fun i => t' (t i), fun i => by rw [d1, e1], fun i => by dsimp only; rw [d2, e2], fun i => by dsimp only; rw [e3, d3], fun i hi => by dsimp only; rw [d4 i hi, e4 i hi]⟩
theorem PermOn.mono {a b a' b' : Nat} {f g : Nat → α} (h : PermOn a b f g) (ha : a' ≤ a) (hb : b ≤ b') : PermOn a' b' f g := by
  obtain ⟨s, t, e1, e2, e3, e4⟩ := h
  exact ⟨s, t, e1, e2, e3, fun i hi => e4 i (by omega)⟩
theorem PermOn.out {a b : Nat} {f g : Nat → α} (h : PermOn a b f g) {i : Nat} (hi : i < a ∨ b ≤ i) : g i = f i := by
  obtain ⟨s, t, e1, e2, e3, e4⟩ := h
  rw [e1, e4 i hi]
theorem PermOn.ins {a b : Nat} {f g : Nat → α} (h : PermOn a b f g) {i : Nat} (h1 : a ≤ i) (h2 : i < b) : ∃ j, a ≤ j ∧ j < b ∧ g i = f j := by
  obtain ⟨s, t, e1, e2, e3, e4⟩ := h
  refine ⟨s i, ?_, ?_, e1 i⟩
  · refine Decidable.byContradiction fun hn => ?_
    have := e4 (s i) (.inl (by omega))
    have := congrArg t this
    rw [e3, e3] at this; omega
  · refine Decidable.byContradiction fun hn => ?_
    have := e4 (s i) (.inr (by omega))
    have := congrArg t this
    rw [e3, e3] at this; omega
theorem PermOn.perm {n : Nat} {f g : Nat → α} (h : PermOn 0 n f g) : ((List.range n).map g).Perm ((List.range n).map f) := by
  have hin : ∀ i, i < n → ∃ j, j < n ∧ g i = f j := fun i hi => let ⟨j, _, h2, h3⟩ := h.ins (Nat.zero_le i) hi; ⟨j, h2, h3⟩
  obtain ⟨s, t, e1, e2, e3, e4⟩ := h
  have hs : ∀ i, i < n → s i < n := fun i hi => by
    refine Decidable.byContradiction fun hn => ?_
    have := e4 (s i) (.inr (by omega))
    have := congrArg t this
    rw [e3, e3] at this; omega
  have ht : ∀ i, i < n → t i < n := fun i hi => by
    refine Decidable.byContradiction fun hn => ?_
    have := e4 (t i) (.inr (by omega))
    rw [e2] at this; omega
  have e : (List.range n).map g = ((List.range n).map s).map f := by rw [List.map_map]; exact List.map_congr_left fun i _ => e1 i
  rw [e]
  refine List.Perm.map f ?_
  refine (List.perm_ext_iff_of_nodup ?_ List.nodup_range).2 fun i => ?_
  · refine List.nodup_iff_pairwise_ne.2 ?_
    rw [List.pairwise_map]
    refine List.Pairwise.imp (fun {x y} hxy hs => hxy ?_) (List.nodup_iff_pairwise_ne.1 List.nodup_range)
    have := congrArg t hs
    rw [e3, e3] at this; exact this
  · simp only [List.mem_map, List.mem_range]
    exact ⟨fun ⟨j, h1, h2⟩ => h2 ▸ hs j h1, fun hi => ⟨t i, ht i hi, e2 i⟩⟩
/-- Two are exchanged. -/
def swp (f : Nat → α) (i j : Nat) : Nat → α := fun k => if k = i then f j else if k = j then f i else f k
theorem swp_perm (f : Nat → α) {a b i j : Nat} (hi : a ≤ i ∧ i < b) (hj : a ≤ j ∧ j < b) : PermOn a b f (swp f i j) := by
  refine ⟨fun k => if k = i then j else if k = j then i else k, fun k => if k = i then j else if k = j then i else k, fun k => ?_, fun k => ?_, fun k => ?_, fun k hk => ?_⟩
  · dsimp only [swp]; repeat' split
    all_goals rfl
  · dsimp only; repeat' split
    all_goals omega
  · dsimp only; repeat' split
    all_goals omega
  · dsimp only; repeat' split
    all_goals omega
/-- Two blocks that lie side by side change their places. -/
def rotS (a m b : Nat) (k : Nat) : Nat := if a ≤ k ∧ k < b then (if k < a + (b - m) then k + (m - a) else k - (b - m)) else k
def rot (a m b : Nat) (f : Nat → α) : Nat → α := fun k => f (rotS a m b k)
theorem rot_perm (f : Nat → α) {a m b : Nat} (h1 : a ≤ m) (h2 : m ≤ b) : PermOn a b f (rot a m b f) := by
  refine ⟨rotS a m b, rotS a (a + (b - m)) b, fun k => rfl, fun k => ?_, fun k => ?_, fun k hk => ?_⟩
  · unfold rotS; repeat' split
    all_goals omega
  · unfold rotS; repeat' split
    all_goals omega
  · unfold rotS; rw [if_neg (by omega)]
/-- Two blocks of one length change their places. -/
def swR (a b n : Nat) (f : Nat → α) : Nat → α := fun k => if a ≤ k ∧ k < a + n then f (k + b - a) else if b ≤ k ∧ k < b + n then f (k + a - b) else f k
theorem swR_zero (a b : Nat) (f : Nat → α) : swR a b 0 f = f := by
  funext k; unfold swR; rw [if_neg (by omega), if_neg (by omega)]
theorem swR_step (a b n : Nat) (f : Nat → α) (h : a + n < b) : swp (swR a b n f) (a + n) (b + n) = swR a b (n + 1) f := by
  funext k
  unfold swp swR
  repeat' split
  all_goals first | omega | (congr 1; omega) | rfl
theorem rot_gt (m i j : Nat) (f : Nat → α) (him : i ≤ m) (h : j < i) : rot (m - (i - j)) m (m + j) (swR (m - i) m j f) = rot (m - i) m (m + j) f := by
  funext k
  unfold rot rotS swR
  repeat' split
  all_goals first | omega | (congr 1; omega) | rfl
theorem rot_le (m i j : Nat) (f : Nat → α) (him : i ≤ m) (h : i < j) : rot (m - i) m (m + (j - i)) (swR (m - i) (m + j - i) i f) = rot (m - i) m (m + j) f := by
  funext k
  unfold rot rotS swR
  repeat' split
  all_goals first | omega | (congr 1; omega) | rfl
theorem rot_eq (m i : Nat) (f : Nat → α) (him : i ≤ m) : swR (m - i) m i f = rot (m - i) m (m + i) f := by
  funext k
  unfold rot rotS swR
  repeat' split
  all_goals first | omega | (congr 1; omega) | rfl
/-- An order that need not tell all apart. -/
structure Wk (lt : α → α → Bool) : Prop where
  tr : ∀ x y z, lt y x = false → lt z y = false → lt z x = false
  asy : ∀ x y, lt x y = true → lt y x = false
variable {lt : α → α → Bool}
def Srt (lt : α → α → Bool) (a b : Nat) (f : Nat → α) : Prop := ∀ i j, a ≤ i → i < j → j < b → lt (f j) (f i) = false
theorem Srt.sub {a b a' b' : Nat} {f : Nat → α} (h : Srt lt a b f) (ha : a ≤ a') (hb : b' ≤ b) : Srt lt a' b' f := fun i j h1 h2 h3 => h i j (by omega) h2 (by omega)
theorem Srt.out {a b c d : Nat} {f g : Nat → α} (h : Srt lt a b f) (hp : PermOn c d f g) (hd : b ≤ c ∨ d ≤ a) : Srt lt a b g := fun i j h1 h2 h3 => by
  rw [hp.out (by omega), hp.out (by omega)]; exact h i j h1 h2 h3
/-- An element is brought down to its place. -/
def down (f : Nat → α) (i j : Nat) : Nat → α := fun k => if k < j then f k else if k = j then f i else if k ≤ i then f (k - 1) else f k
theorem down_start (f : Nat → α) (i : Nat) : down f i i = f := by
  funext k; unfold down
  repeat' split
  all_goals first | omega | (congr 1; omega) | rfl
theorem down_step (f : Nat → α) (i j : Nat) (h0 : 0 < j) (h : j ≤ i) : swp (down f i j) j (j - 1) = down f i (j - 1) := by
  funext k; unfold swp down
  repeat' split
  all_goals first | omega | (congr 1; omega) | rfl
theorem down_perm (f : Nat → α) {a i j : Nat} (ha : a ≤ j) (h : j ≤ i) : PermOn a (i + 1) f (down f i j) := by
  refine ⟨fun k => if k < j then k else if k = j then i else if k ≤ i then k - 1 else k, fun k => if k < j then k else if k < i then k + 1 else if k = i then j else k, fun k => ?_, fun k => ?_, fun k => ?_, fun k hk => ?_⟩
  · dsimp only [down]; repeat' split
    all_goals rfl
  · dsimp only; repeat' split
    all_goals omega
  · dsimp only; repeat' split
    all_goals omega
  · dsimp only; repeat' split
    all_goals omega
theorem down_srt (O : Wk lt) {f : Nat → α} {a i j : Nat} (hs : Srt lt a i f) (haj : a ≤ j) (hji : j ≤ i) (h1 : ∀ k, j ≤ k → k < i → lt (f i) (f k) = true) (h2 : j = a ∨ lt (f i) (f (j - 1)) = false) : Srt lt a (i + 1) (down f i j) := by
  have low : ∀ k, a ≤ k → k < j → lt (f i) (f k) = false := fun k hk1 hk2 => by
    rcases h2 with h2 | h2
    · omega
    · by_cases hk : k = j - 1
      · subst hk; exact h2
      · exact O.tr _ _ _ (hs k (j - 1) hk1 (by omega) (by omega)) h2
  intro p q hp hpq hq
  unfold down
  by_cases q1 : q < j
  · rw [if_pos q1, if_pos (by omega)]; exact hs p q hp hpq (by omega)
  · rw [if_neg q1]
    by_cases q2 : q = j
    · rw [if_pos q2, if_pos (by omega)]; exact low p hp (by omega)
    · rw [if_neg q2, if_pos (by omega)]
      by_cases p1 : p < j
      · rw [if_pos p1]
        by_cases e : p = q - 1
        · omega
        · exact hs p (q - 1) hp (by omega) (by omega)
      · rw [if_neg p1]
        by_cases p2 : p = j
        · rw [if_pos p2]; exact O.asy _ _ (h1 (q - 1) (by omega) (by omega))
        · rw [if_neg p2, if_pos (by omega)]; exact hs (p - 1) (q - 1) (by omega) (by omega) (by omega)
/-- An element is brought up to its place. -/
def up (f : Nat → α) (a j : Nat) : Nat → α := fun k => if k < a then f k else if k < j then f (k + 1) else if k = j then f a else f k
theorem up_start (f : Nat → α) (a : Nat) : up f a a = f := by
  funext k; unfold up
  repeat' split
  all_goals first | omega | (congr 1; omega) | rfl
theorem up_step (f : Nat → α) (a j : Nat) (h : a ≤ j) : swp (up f a j) j (j + 1) = up f a (j + 1) := by
  funext k; unfold swp up
  repeat' split
  all_goals first | omega | (congr 1; omega) | rfl
theorem up_perm (f : Nat → α) {a j b : Nat} (h : a ≤ j) (hb : j < b) : PermOn a b f (up f a j) := by
  refine ⟨fun k => if k < a then k else if k < j then k + 1 else if k = j then a else k, fun k => if k < a then k else if k = a then j else if k ≤ j then k - 1 else k, fun k => ?_, fun k => ?_, fun k => ?_, fun k hk => ?_⟩
  · dsimp only [up]; repeat' split
    all_goals rfl
  · dsimp only; repeat' split
    all_goals omega
  · dsimp only; repeat' split
    all_goals omega
  · dsimp only; repeat' split
    all_goals omega
/-- a alone ahead of what is sorted: i is its place. -/
theorem up_srt (O : Wk lt) {f : Nat → α} {a i b : Nat} (hs : Srt lt (a + 1) b f) (hai : a + 1 ≤ i) (hib : i ≤ b) (h1 : ∀ k, a + 1 ≤ k → k < i → lt (f k) (f a) = true) (h2 : ∀ k, i ≤ k → k < b → lt (f k) (f a) = false) : Srt lt a b (up f a (i - 1)) := by
  intro p q hp hpq hq
  unfold up
  rw [if_neg (show ¬ q < a by omega), if_neg (show ¬ p < a by omega)]
  by_cases q1 : q < i - 1
  · rw [if_pos q1, if_pos (by omega)]; exact hs _ _ (by omega) (by omega) (by omega)
  · rw [if_neg q1]
    by_cases q2 : q = i - 1
    · rw [if_pos q2, if_pos (by omega)]; exact O.asy _ _ (h1 (p + 1) (by omega) (by omega))
    · rw [if_neg q2]
      by_cases p1 : p < i - 1
      · rw [if_pos p1]; exact hs _ _ (by omega) (by omega) (by omega)
      · rw [if_neg p1]
        by_cases p2 : p = i - 1
        · rw [if_pos p2]; exact h2 q (by omega) (by omega)
        · rw [if_neg p2]; exact hs _ _ (by omega) (by omega) (by omega)
/-- m alone behind what is sorted. -/
theorem down_srt' (O : Wk lt) {f : Nat → α} {a i m : Nat} (hs : Srt lt a m f) (hai : a ≤ i) (him : i ≤ m) (h1 : ∀ k, a ≤ k → k < i → lt (f m) (f k) = false) (h2 : ∀ k, i ≤ k → k < m → lt (f m) (f k) = true) : Srt lt a (m + 1) (down f m i) :=
  down_srt O hs hai him h2 (by
    by_cases h : i = a
    · exact .inl h
    · exact .inr (h1 (i - 1) (by omega) (by omega)))
/-- The merge: behind a rotation both halves are to be merged alone. -/
theorem merge_parts (O : Wk lt) {f : Nat → α} {a m b mid s : Nat} (hs1 : Srt lt a m f) (hs2 : Srt lt m b f) (hmid : a ≤ mid) (hmb : mid ≤ b) (has : a ≤ s) (hsm : s ≤ m) (hsd : s ≤ mid) (hend : mid + m - s ≤ b)
    (h1 : ∀ c, a ≤ c → c < s → mid + m - b ≤ c → lt (f (mid + m - 1 - c)) (f c) = false) (h2 : s < m → s < mid → lt (f (mid + m - 1 - s)) (f s) = true) :
    Srt lt a s (rot s m (mid + m - s) f) ∧ Srt lt s mid (rot s m (mid + m - s) f) ∧ Srt lt mid (mid + m - s) (rot s m (mid + m - s) f) ∧ Srt lt (mid + m - s) b (rot s m (mid + m - s) f) ∧
    ∀ p q, a ≤ p → p < mid → mid ≤ q → q < b → lt (rot s m (mid + m - s) f q) (rot s m (mid + m - s) f p) = false := by
  have e : ∀ k, rot s m (mid + m - s) f k = if s ≤ k ∧ k < mid + m - s then (if k < mid then f (k + (m - s)) else f (k - (mid - s))) else f k := fun k => by
    unfold rot rotS
    repeat' split
    all_goals first | omega | (congr 1; omega) | rfl
  have hl : ∀ k, a ≤ k → k < s → rot s m (mid + m - s) f k = f k := fun k _ h => by rw [e, if_neg (by omega)]
  have hm1 : ∀ k, s ≤ k → k < mid → rot s m (mid + m - s) f k = f (k + (m - s)) := fun k h1 h2 => by rw [e, if_pos (by omega), if_pos h2]
  have hm2 : ∀ k, mid ≤ k → k < mid + m - s → rot s m (mid + m - s) f k = f (k - (mid - s)) := fun k h1 h2 => by rw [e, if_pos (by omega), if_neg (by omega)]
  have hr : ∀ k, mid + m - s ≤ k → rot s m (mid + m - s) f k = f k := fun k h => by rw [e, if_neg (by omega)]
  refine ⟨fun i j p1 p2 p3 => ?_, fun i j p1 p2 p3 => ?_, fun i j p1 p2 p3 => ?_, fun i j p1 p2 p3 => ?_, fun p q p1 p2 q1 q2 => ?_⟩
  · rw [hl _ p1 (by omega), hl _ (by omega) p3]; exact hs1 i j p1 p2 (by omega)
  · rw [hm1 _ p1 (by omega), hm1 _ (by omega) p3]; exact hs2 _ _ (by omega) (by omega) (by omega)
  · rw [hm2 _ p1 (by omega), hm2 _ (by omega) p3]; exact hs1 _ _ (by omega) (by omega) (by omega)
  · rw [hr _ p1, hr _ (by omega)]; exact hs2 _ _ (by omega) (by omega) (by omega)
  · -- le within the old halves, reflexive
    have le1 : ∀ x y, a ≤ x → x ≤ y → y < m → lt (f y) (f x) = false := fun x y h1 h2 h3 => by
      by_cases h : x = y
      · subst h
        cases hh : lt (f x) (f x) with
        | false => rfl
        | true => rw [O.asy _ _ hh] at hh; cases hh
      · exact hs1 x y h1 (by omega) h3
    have le2 : ∀ x y, m ≤ x → x ≤ y → y < b → lt (f y) (f x) = false := fun x y h1 h2 h3 => by
      by_cases h : x = y
      · subst h
        cases hh : lt (f x) (f x) with
        | false => rfl
        | true => rw [O.asy _ _ hh] at hh; cases hh
      · exact hs2 x y h1 (by omega) h3
    by_cases ps : p < s
    · rw [hl p p1 ps]
      by_cases qe : q < mid + m - s
      · rw [hm2 q q1 qe]; exact le1 _ _ p1 (by omega) (by omega)
      · rw [hr q (by omega)]
        have hc := h1 (s - 1) (by omega) (by omega) (by omega)
        rw [show mid + m - 1 - (s - 1) = mid + m - s by omega] at hc
        exact O.tr _ _ _ (le1 p (s - 1) p1 (by omega) (by omega)) (O.tr _ _ _ hc (le2 _ q (by omega) (by omega) q2))
    · rw [hm1 p (by omega) p2]
      by_cases qe : q < mid + m - s
      · rw [hm2 q q1 qe]
        have hc := O.asy _ _ (h2 (by omega) (by omega))
        exact O.tr _ _ _ (le2 _ (mid + m - 1 - s) (by omega) (by omega) (by omega)) (O.tr _ _ _ hc (le1 s _ (by omega) (by omega) (by omega)))
      · rw [hr q (by omega)]; exact le2 _ _ (by omega) (by omega) q2
/-- Both halves merged: the whole is sorted. -/
theorem merge_join {f g h : Nat → α} {a mid b : Nat} (hcr : ∀ p q, a ≤ p → p < mid → mid ≤ q → q < b → lt (f q) (f p) = false) (p1 : PermOn a mid f g) (s1 : Srt lt a mid g) (p2 : PermOn mid b g h) (s2 : Srt lt mid b h) : Srt lt a b h := by
  intro i j h1 h2 h3
  by_cases hj : j < mid
  · rw [p2.out (.inl hj), p2.out (.inl (by omega))]; exact s1 i j h1 h2 hj
  · by_cases hi : mid ≤ i
    · exact s2 i j hi h2 h3
    · rw [p2.out (i := i) (.inl (by omega))]
      obtain ⟨j', j1, j2, j3⟩ := p2.ins (i := j) (by omega) h3
      obtain ⟨i', i1, i2, i3⟩ := p1.ins (i := i) h1 (by omega)
      rw [j3, p1.out (.inr j1), i3]
      exact hcr i' j' i1 i2 j1 j2
end
end Go.Proofs.YtdknadlkadoloaaDoorV
