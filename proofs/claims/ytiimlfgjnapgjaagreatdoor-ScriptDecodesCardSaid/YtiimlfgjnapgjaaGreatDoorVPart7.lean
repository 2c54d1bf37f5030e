import Derived.Lib.Bytealg
import Derived.Test.YtiimlfgjnapgjaaGreatDoorVPart6
set_option linter.unusedVariables false
set_option linter.unusedSimpArgs false
/- Writers and readers of numbers, in a frame. -/
namespace Go.Proofs.YtiimlfgjnapgjaaGreatDoorV
open Go Go.RowKit
section
variable {w0 w w' : World} {F : List It}
theorem Fr.oth {it : It} {S : SS} (h : Fr w0 w F) (i : Nat) (hi : F[i]? = some it) (hc : Ch S w w') (hS : ∀ k q, S k q → it.ft k) : Fr w0 w' (F.eraseIdx i) := by
  refine (h.drop i).ch hc (fun k q hs => (h.ft i hi (hS k q hs)).1) fun jt hj k q hk hs => ?_
  obtain ⟨j, hj2⟩ := List.mem_iff_getElem?.1 hj
  rw [List.getElem?_eraseIdx] at hj2
  split at hj2
  · rename_i hlt
    exact h.apart hi hj2 (by omega) k (hS k q hs) hk
  · rename_i hge
    exact h.apart hi hj2 (by omega) k (hS k q hs) hk
theorem Fr.cons {jt : It} {n : Nat} (h : Fr w0 w F) (hn : w0.heap.size ≤ n) (hF : ∀ it ∈ F, ∀ k, it.ft k → k < n) (ok : jt.ok w) (hf : ∀ k, jt.ft k → n ≤ k) : Fr w0 w (jt :: F) :=
  ⟨ok, fun k hk => Nat.le_trans hn (hf k hk), fun it hi k hk hik => by have := hf k hk; have := hF it hi k hik; omega, h⟩
/-! ### Writers -/
theorem fNewW {K : Addr → World → Prop} (f : Fr w0 w F) (hk : ∀ ad v w', Fr w0 w' (wIt eB ad v [] :: F) → K ad w') : gAlloc P t_num_Writer w K :=
  fAlloc (z := .agg #[.slice none 0 0]) f (by kernel_rfl) fun ad w' f' => hk ad (.slice none 0 0) w' (f'.asW (e := eB) 0 rfl)
theorem fNum {ad : Addr} {v : Value} {xs : List Int} {n : Int} {K : World → Prop} (f : Fr w0 w F) (i : Nat) (hi : F[i]? = some (wIt eB ad v xs)) (hn : 0 ≤ n ∧ n < 18446744073709551616) (hl : xs.length + 10 ≤ 10000000000)
    (hk : ∀ v' w', Fr w0 w' (F.set i (wIt eB ad v' (xs ++ numB n.toNat))) → K w') : gCall P n_num_Writer_Num shU #[.pointer (some ad), .int .u64 n] w K :=
  gCall_u (Num_any (f.get i hi) hn hl) fun w' ⟨v', hw⟩ => hk v' w' (f.wr i hi hw)
/-! ### Readers -/
/-- Slices of which each reads so, in a slice. -/
theorem fTextW {ad : Addr} {v b : Value} {xs ys : List Int} {K : World → Prop} (f : Fr w0 w F) (i : Nat) (hi : F[i]? = some (wIt eB ad v xs)) (hb : ∀ w', Fr w0 w' (F.eraseIdx i) → Nm .u8 w' b ys) (hl : xs.length + ys.length + 10 ≤ 10000000000)
    (hk : ∀ v' w', Fr w0 w' (F.set i (wIt eB ad v' (xs ++ numB ys.length ++ ys))) → K w') : gCall P n_num_Writer_Text shU #[.pointer (some ad), b] w K :=
  gCall_u (Text_any (f.get i hi) (fun w' hc => hb w' (f.oth i hi hc fun k q h => h)) hl) fun w' ⟨v', hw⟩ => hk v' w' (f.wr i hi hw)
theorem NL.of {k : IntKind} {p : Value} {us : List Value} {yss : List (List Int)} (hp : Sl w 1 p us.length us) (hl : us.length = yss.length) (h : ∀ (i : Nat) (u : Value) (ys : List Int), us[i]? = some u → yss[i]? = some ys → Nm k w u ys) : NL k w p yss := ⟨us, by rw [← hl]; exact hp, h⟩
end
end Go.Proofs.YtiimlfgjnapgjaaGreatDoorV

/- Sorting by exchanges, over functions of the place: what insertion, rotation and merging do. No program in sight. -/
namespace Go.Proofs.YtiimlfgjnapgjaaGreatDoorV
section
variable {α : Type}
/-- f' is f, its places between a and b in another order. -/
def PermOn (a b : Nat) (f f' : Nat → α) : Prop := ∃ s t : Nat → Nat, (∀ i, f' i = f (s i)) ∧ (∀ i, s (t i) = i) ∧ (∀ i, t (s i) = i) ∧ ∀ i, i < a ∨ b ≤ i → s i = i
theorem PermOn.refl (a b : Nat) (f : Nat → α) : PermOn a b f f := ⟨id, id, fun _ => rfl, fun _ => rfl, fun _ => rfl, fun _ _ => rfl⟩
theorem PermOn.trans {a b : Nat} {f g h : Nat → α} (h1 : PermOn a b f g) (h2 : PermOn a b g h) : PermOn a b f h := by
  obtain ⟨s, t, e1, e2, e3, e4⟩ := h1
  obtain ⟨s', t', d1, d2, d3, d4⟩ := h2
  exact ⟨fun i => s (s' i), fun i => t' (t i), fun i => by rw [d1, e1], fun i => by dsimp only; rw [d2, e2], fun i => by dsimp only; rw [e3, d3], fun i hi => by dsimp only; rw [d4 i hi, e4 i hi]⟩
theorem PermOn.mono {a b a' b' : Nat} {f g : Nat → α} (h : PermOn a b f g) (ha : a' ≤ a) (hb : b ≤ b') : PermOn a' b' f g := by
  obtain ⟨s, t, e1, e2, e3, e4⟩ := h
  exact ⟨s, t, e1, e2, e3, fun i hi => e4 i (by omega)⟩
theorem PermOn.out {a b : Nat} {f g : Nat → α} (h : PermOn a b f g) {i : Nat} (hi : i < a ∨ b ≤ i) : g i = f i := by
  obtain ⟨s, t, e1, e2, e3, e4⟩ := h
  rw [e1, e4 i hi]
theorem PermOn.ins {a b : Nat} {f g : Nat → α} (h : PermOn a b f g) {i : Nat} (h1 : a ≤ i) (h2 : i < b) : ∃ j, a ≤ j ∧ j < b ∧ g i = f j := by
  obtain ⟨s, t, e1, e2, e3, e4⟩ := h
  refine ⟨s i, ?_, ?_, e1 i⟩
  · refine Decidable.byContradiction fun hn => ?_
    have := e4 (s i) (.inl (by omega))
    have := congrArg t this
    rw [e3, e3] at this; omega
  · refine Decidable.byContradiction fun hn => ?_
    have := e4 (s i) (.inr (by omega))
    have := congrArg t this
    rw [e3, e3] at this; omega
theorem PermOn.perm {n : Nat} {f g : Nat → α} (h : PermOn 0 n f g) : ((List.range n).map g).Perm ((List.range n).map f) := by
  have hin : ∀ i, i < n → ∃ j, j < n ∧ g i = f j := fun i hi => let ⟨j, _, h2, h3⟩ := h.ins (Nat.zero_le i) hi; ⟨j, h2, h3⟩
  obtain ⟨s, t, e1, e2, e3, e4⟩ := h
  have hs : ∀ i, i < n → s i < n := fun i hi => by
    refine Decidable.byContradiction fun hn => ?_
    have := e4 (s i) (.inr (by omega))
    have := congrArg t this
    rw [e3, e3] at this; omega
  have ht : ∀ i, i < n → t i < n := fun i hi => by
    refine Decidable.byContradiction fun hn => ?_
    have := e4 (t i) (.inr (by omega))
    rw [e2] at this; omega
  have e : (List.range n).map g = ((List.range n).map s).map f := by rw [List.map_map]; exact List.map_congr_left fun i _ => e1 i
  rw [e]
  refine List.Perm.map f ?_
  refine (List.perm_ext_iff_of_nodup ?_ List.nodup_range).2 fun i => ?_
  · refine List.nodup_iff_pairwise_ne.2 ?_
    rw [List.pairwise_map]
    refine List.Pairwise.imp (fun {x y} hxy hs => hxy ?_) (List.nodup_iff_pairwise_ne.1 List.nodup_range)
    have := congrArg t hs
    rw [e3, e3] at this; exact this
  · simp only [List.mem_map, List.mem_range]
    exact ⟨fun ⟨j, h1, h2⟩ => h2 ▸ hs j h1, fun hi => ⟨t i, ht i hi, e2 i⟩⟩
/-- Two are exchanged. -/
def swp (f : Nat → α) (i j : Nat) : Nat → α := fun k => if k = i then f j else if k = j then f i else f k
/-- Two blocks that lie side by side change their places. -/
def rotS (a m b : Nat) (k : Nat) : Nat := if a ≤ k ∧ k < b then (if k < a + (b - m) then k + (m - a) else k - (b - m)) else k
def rot (a m b : Nat) (f : Nat → α) : Nat → α := fun k => f (rotS a m b k)
theorem rot_perm (f : Nat → α) {a m b : Nat} (h1 : a ≤ m) (h2 : m ≤ b) : PermOn a b f (rot a m b f) := by
  refine ⟨rotS a m b, rotS a (a + (b - m)) b, fun k => rfl, fun k => ?_, fun k => ?_, fun k hk => ?_⟩
  · unfold rotS; repeat' split
    all_goals omega
  · unfold rotS; repeat' split
    all_goals omega
  · unfold rotS; rw [if_neg (by omega)]
/-- Two blocks of one length change their places. -/
def swR (a b n : Nat) (f : Nat → α) : Nat → α := fun k => if a ≤ k ∧ k < a + n then f (k + b - a) else if b ≤ k ∧ k < b + n then f (k + a - b) else f k
theorem swR_zero (a b : Nat) (f : Nat → α) : swR a b 0 f = f := by
  funext k; unfold swR; rw [if_neg (by omega), if_neg (by omega)]
theorem swR_step (a b n : Nat) (f : Nat → α) (h : a + n < b) : swp (swR a b n f) (a + n) (b + n) = swR a b (n + 1) f := by
  funext k
  unfold swp swR
  repeat' split
  all_goals first | omega | (congr 1; omega) | rfl
theorem rot_gt (m i j : Nat) (f : Nat → α) (him : i ≤ m) (h : j < i) : rot (m - (i - j)) m (m + j) (swR (m - i) m j f) = rot (m - i) m (m + j) f := by
  funext k
  unfold rot rotS swR
  repeat' split
  all_goals first | omega | (congr 1; omega) | rfl
theorem rot_le (m i j : Nat) (f : Nat → α) (him : i ≤ m) (h : i < j) : rot (m - i) m (m + (j - i)) (swR (m - i) (m + j - i) i f) = rot (m - i) m (m + j) f := by
  funext k
  unfold rot rotS swR
  repeat' split
  all_goals first | omega | (congr 1; omega) | rfl
theorem rot_eq (m i : Nat) (f : Nat → α) (him : i ≤ m) : swR (m - i) m i f = rot (m - i) m (m + i) f := by
  funext k
  unfold rot rotS swR
  repeat' split
  all_goals first | omega | (congr 1; omega) | rfl
/-- An order that need not tell all apart. -/
structure Wk (lt : α → α → Bool) : Prop where
  tr : ∀ x y z, lt y x = false → lt z y = false → lt z x = false
  asy : ∀ x y, lt x y = true → lt y x = false
variable {lt : α → α → Bool}
def Srt (lt : α → α → Bool) (a b : Nat) (f : Nat → α) : Prop := ∀ i j, a ≤ i → i < j → j < b → lt (f j) (f i) = false
theorem Srt.sub {a b a' b' : Nat} {f : Nat → α} (h : Srt lt a b f) (ha : a ≤ a') (hb : b' ≤ b) : Srt lt a' b' f := fun i j h1 h2 h3 => h i j (by omega) h2 (by omega)
theorem Srt.out {a b c d : Nat} {f g : Nat → α} (h : Srt lt a b f) (hp : PermOn c d f g) (hd : b ≤ c ∨ d ≤ a) : Srt lt a b g := fun i j h1 h2 h3 => by
  rw [hp.out (by omega), hp.out (by omega)]; exact h i j h1 h2 h3
/-- An element is brought down to its place. -/
def down (f : Nat → α) (i j : Nat) : Nat → α := fun k => if k < j then f k else if k = j then f i else if k ≤ i then f (k - 1) else f k
theorem down_start (f : Nat → α) (i : Nat) : down f i i = f := by
  funext k; unfold down
  repeat' split
  all_goals first | omega | (congr 1; omega) | rfl
theorem down_step (f : Nat → α) (i j : Nat) (h0 : 0 < j) (h : j ≤ i) : swp (down f i j) j (j - 1) = down f i (j - 1) := by
  funext k; unfold swp down
  repeat' split
  all_goals first | omega | (congr 1; omega) | rfl
theorem down_perm (f : Nat → α) {a i j : Nat} (ha : a ≤ j) (h : j ≤ i) : PermOn a (i + 1) f (down f i j) := by
  refine ⟨fun k => if k < j then k else if k = j then i else if k ≤ i then k - 1 else k, fun k => if k < j then k else if k < i then k + 1 else if k = i then j else k, fun k => ?_, fun k => ?_, fun k => ?_, fun k hk => ?_⟩
  · dsimp only [down]; repeat' split
    all_goals rfl
  · dsimp only; repeat' split
    all_goals omega
  · dsimp only; repeat' split
    all_goals omega
  · dsimp only; repeat' split
    all_goals omega
theorem down_srt (O : Wk lt) {f : Nat → α} {a i j : Nat} (hs : Srt lt a i f) (haj : a ≤ j) (hji : j ≤ i) (h1 : ∀ k, j ≤ k → k < i → lt (f i) (f k) = true) (h2 : j = a ∨ lt (f i) (f (j - 1)) = false) : Srt lt a (i + 1) (down f i j) := by
  have low : ∀ k, a ≤ k → k < j → lt (f i) (f k) = false := fun k hk1 hk2 => by
    rcases h2 with h2 | h2
    · omega
    · by_cases hk : k = j - 1
      · subst hk; exact h2
      · exact O.tr _ _ _ (hs k (j - 1) hk1 (by omega) (by omega)) h2
  intro p q hp hpq hq
  unfold down
  by_cases q1 : q < j
  · rw [if_pos q1, if_pos (by omega)]; exact hs p q hp hpq (by omega)
  · rw [if_neg q1]
    by_cases q2 : q = j
    · rw [if_pos q2, if_pos (by omega)]; exact low p hp (by omega)
    · rw [if_neg q2, if_pos (by omega)]
      by_cases p1 : p < j
      · rw [if_pos p1]
        by_cases e : p = q - 1
        · omega
        · exact hs p (q - 1) hp (by omega) (by omega)
      · rw [if_neg p1]
        by_cases p2 : p = j
        · rw [if_pos p2]; exact O.asy _ _ (h1 (q - 1) (by omega) (by omega))
        · rw [if_neg p2, if_pos (by omega)]; exact hs (p - 1) (q - 1) (by omega) (by omega) (by omega)
/-- An element is brought up to its place. -/
def up (f : Nat → α) (a j : Nat) : Nat → α := fun k => if k < a then f k else if k < j then f (k + 1) else if k = j then f a else f k
theorem up_start (f : Nat → α) (a : Nat) : up f a a = f := by
  funext k; unfold up
  repeat' split
  all_goals first | omega | (congr 1; omega) | rfl
theorem up_step (f : Nat → α) (a j : Nat) (h : a ≤ j) : swp (up f a j) j (j + 1) = up f a (j + 1) := by
  funext k; unfold swp up
  repeat' split
  all_goals first | omega | (congr 1; omega) | rfl
theorem up_perm (f : Nat → α) {a j b : Nat} (h : a ≤ j) (hb : j < b) : PermOn a b f (up f a j) := by
  refine ⟨fun k => if k < a then k else if k < j then k + 1 else if k = j then a else k, fun k => if k < a then k else if k = a then j else if k ≤ j then k - 1 else k, fun k => ?_, fun k => ?_, fun k => ?_, fun k hk => ?_⟩
  · dsimp only [up]; repeat' split
    all_goals rfl
  · dsimp only; repeat' split
    all_goals omega
  · dsimp only; repeat' split
    all_goals omega
  · dsimp only; repeat' split
    all_goals omega
/-- a alone ahead of what is sorted: i is its place. -/
theorem up_srt (O : Wk lt) {f : Nat → α} {a i b : Nat} (hs : Srt lt (a + 1) b f) (hai : a + 1 ≤ i) (hib : i ≤ b) (h1 : ∀ k, a + 1 ≤ k → k < i → lt (f k) (f a) = true) (h2 : ∀ k, i ≤ k → k < b → lt (f k) (f a) = false) : Srt lt a b (up f a (i - 1)) := by
  intro p q hp hpq hq
  unfold up
  rw [if_neg (show ¬ q < a by omega), if_neg (show ¬ p < a by omega)]
  by_cases q1 : q < i - 1
  · rw [if_pos q1, if_pos (by omega)]; exact hs _ _ (by omega) (by omega) (by omega)
  · rw [if_neg q1]
    by_cases q2 : q = i - 1
    · rw [if_pos q2, if_pos (by omega)]; exact O.asy _ _ (h1 (p + 1) (by omega) (by omega))
    · rw [if_neg q2]
      by_cases p1 : p < i - 1
      · rw [if_pos p1]; exact hs _ _ (by omega) (by omega) (by omega)
      · rw [if_neg p1]
        by_cases p2 : p = i - 1
        · rw [if_pos p2]; exact h2 q (by omega) (by omega)
        · rw [if_neg p2]; exact hs _ _ (by omega) (by omega) (by omega)
/-- m alone behind what is sorted. -/
theorem down_srt' (O : Wk lt) {f : Nat → α} {a i m : Nat} (hs : Srt lt a m f) (hai : a ≤ i) (him : i ≤ m) (h1 : ∀ k, a ≤ k → k < i → lt (f m) (f k) = false) (h2 : ∀ k, i ≤ k → k < m → lt (f m) (f k) = true) : Srt lt a (m + 1) (down f m i) :=
  down_srt O hs hai him h2 (by
    by_cases h : i = a
    · exact .inl h
    · exact .inr (h1 (i - 1) (by omega) (by omega)))
/-- The merge: behind a rotation both halves are to be merged alone. -/
theorem merge_parts (O : Wk lt) {f : Nat → α} {a m b mid s : Nat} (hs1 : Srt lt a m f) (hs2 : Srt lt m b f) (hmid : a ≤ mid) (hmb : mid ≤ b) (has : a ≤ s) (hsm : s ≤ m) (hsd : s ≤ mid) (hend : mid + m - s ≤ b)
    (h1 : ∀ c, a ≤ c → c < s → mid + m - b ≤ c → lt (f (mid + m - 1 - c)) (f c) = false) (h2 : s < m → s < mid → lt (f (mid + m - 1 - s)) (f s) = true) :
    Srt lt a s (rot s m (mid + m - s) f) ∧ Srt lt s mid (rot s m (mid + m - s) f) ∧ Srt lt mid (mid + m - s) (rot s m (mid + m - s) f) ∧ Srt lt (mid + m - s) b (rot s m (mid + m - s) f) ∧
    ∀ p q, a ≤ p → p < mid → mid ≤ q → q < b → lt (rot s m (mid + m - s) f q) (rot s m (mid + m - s) f p) = false := by
  have e : ∀ k, rot s m (mid + m - s) f k = if s ≤ k ∧ k < mid + m - s then (if k < mid then f (k + (m - s)) else f (k - (mid - s))) else f k := fun k => by
    unfold rot rotS
    repeat' split
    all_goals first | omega | (congr 1; omega) | rfl
  have hl : ∀ k, a ≤ k → k < s → rot s m (mid + m - s) f k = f k := fun k _ h => by rw [e, if_neg (by omega)]
  have hm1 : ∀ k, s ≤ k → k < mid → rot s m (mid + m - s) f k = f (k + (m - s)) := fun k h1 h2 => by rw [e, if_pos (by omega), if_pos h2]
  have hm2 : ∀ k, mid ≤ k → k < mid + m - s → rot s m (mid + m - s) f k = f (k - (mid - s)) := fun k h1 h2 => by rw [e, if_pos (by omega), if_neg (by omega)]
  have hr : ∀ k, mid + m - s ≤ k → rot s m (mid + m - s) f k = f k := fun k h => by rw [e, if_neg (by omega)]
  refine ⟨fun i j p1 p2 p3 => ?_, fun i j p1 p2 p3 => ?_, fun i j p1 p2 p3 => ?_, fun i j p1 p2 p3 => ?_, fun p q p1 p2 q1 q2 => ?_⟩
  · rw [hl _ p1 (by omega), hl _ (by omega) p3]; exact hs1 i j p1 p2 (by omega)
  · rw [hm1 _ p1 (by omega), hm1 _ (by omega) p3]; exact hs2 _ _ (by omega) (by omega) (by omega)
  · rw [hm2 _ p1 (by omega), hm2 _ (by omega) p3]; exact hs1 _ _ (by omega) (by omega) (by omega)
  · rw [hr _ p1, hr _ (by omega)]; exact hs2 _ _ (by omega) (by omega) (by omega)
  · -- le within the old halves, reflexive
    have le1 : ∀ x y, a ≤ x → x ≤ y → y < m → lt (f y) (f x) = false := fun x y h1 h2 h3 => by
      by_cases h : x = y
      · subst h
        cases hh : lt (f x) (f x) with
        | false => rfl
        | true => rw [O.asy _ _ hh] at hh; cases hh
      · exact hs1 x y h1 (by omega) h3
    have le2 : ∀ x y, m ≤ x → x ≤ y → y < b → lt (f y) (f x) = false := fun x y h1 h2 h3 => by
      by_cases h : x = y
      · subst h
        cases hh : lt (f x) (f x) with
        | false => rfl
        | true => rw [O.asy _ _ hh] at hh; cases hh
      · exact hs2 x y h1 (by omega) h3
    by_cases ps : p < s
    · rw [hl p p1 ps]
      by_cases qe : q < mid + m - s
      · rw [hm2 q q1 qe]; exact le1 _ _ p1 (by omega) (by omega)
      · rw [hr q (by omega)]
        have hc := h1 (s - 1) (by omega) (by omega) (by omega)
        rw [show mid + m - 1 - (s - 1) = mid + m - s by omega] at hc
        exact O.tr _ _ _ (le1 p (s - 1) p1 (by omega) (by omega)) (O.tr _ _ _ hc (le2 _ q (by omega) (by omega) q2))
    · rw [hm1 p (by omega) p2]
      by_cases qe : q < mid + m - s
      · rw [hm2 q q1 qe]
        have hc := O.asy _ _ (h2 (by omega) (by omega))
        exact O.tr _ _ _ (le2 _ (mid + m - 1 - s) (by omega) (by omega) (by omega)) (O.tr _ _ _ hc (le1 s _ (by omega) (by omega) (by omega)))
      · rw [hr q (by omega)]; exact le2 _ _ (by omega) (by omega) q2
/-- Both halves merged: the whole is sorted. -/
theorem merge_join {f g h : Nat → α} {a mid b : Nat} (hcr : ∀ p q, a ≤ p → p < mid → mid ≤ q → q < b → lt (f q) (f p) = false) (p1 : PermOn a mid f g) (s1 : Srt lt a mid g) (p2 : PermOn mid b g h) (s2 : Srt lt mid b h) : Srt lt a b h := by
  intro i j h1 h2 h3
  by_cases hj : j < mid
  · rw [p2.out (.inl hj), p2.out (.inl (by omega))]; exact s1 i j h1 h2 hj
  · by_cases hi : mid ≤ i
    · exact s2 i j hi h2 h3
    · rw [p2.out (i := i) (.inl (by omega))]
      obtain ⟨j', j1, j2, j3⟩ := p2.ins (i := j) (by omega) h3
      obtain ⟨i', i1, i2, i3⟩ := p1.ins (i := i) h1 (by omega)
      rw [j3, p1.out (.inr j1), i3]
      exact hcr i' j' i1 i2 j1 j2
end
end Go.Proofs.YtiimlfgjnapgjaaGreatDoorV

/- Names: their order, lists of entries by rising names, which names may be. No program in sight. -/
namespace Go.Proofs.YtiimlfgjnapgjaaGreatDoorV
open Go Go.RowKit
/-! ### The order of strings -/
theorem bl_irr : ∀ a : List UInt8, Op.bytesLess a a = false
  | [] => rfl
  | a :: x => by simp [Op.bytesLess, bl_irr x, UInt8.lt_irrefl]
theorem bl_as : ∀ {a b : List UInt8}, Op.bytesLess a b = true → Op.bytesLess b a = false
  | _, [], h => by simp [Op.bytesLess] at h
  | [], b :: y, _ => by simp [Op.bytesLess]
  | a :: x, b :: y, h => by
    simp only [Op.bytesLess, Bool.or_eq_true, decide_eq_true_eq, Bool.and_eq_true, beq_iff_eq] at h
    simp only [Op.bytesLess, Bool.or_eq_false_iff, decide_eq_false_iff_not, Bool.and_eq_false_iff, beq_eq_false_iff_ne]
    rcases h with h | ⟨rfl, h⟩
    · exact ⟨UInt8.lt_asymm h, .inl fun e => by subst e; exact UInt8.lt_irrefl _ h⟩
    · exact ⟨UInt8.lt_irrefl _, .inr (bl_as h)⟩
theorem bl_tri : ∀ {a b : List UInt8}, Op.bytesLess a b = false → Op.bytesLess b a = false → a = b
  | [], [], _, _ => rfl
  | [], b :: y, h, _ => by simp [Op.bytesLess] at h
  | a :: x, [], _, h => by simp [Op.bytesLess] at h
  | a :: x, b :: y, h, h' => by
    simp only [Op.bytesLess, Bool.or_eq_false_iff, decide_eq_false_iff_not, Bool.and_eq_false_iff, beq_eq_false_iff_ne] at h h'
    have e : a = b := UInt8.le_antisymm (UInt8.not_lt.1 h'.1) (UInt8.not_lt.1 h.1)
    subst e
    rcases h.2 with h2 | h2
    · exact absurd rfl h2
    rcases h'.2 with h3 | h3
    · exact absurd rfl h3
    rw [bl_tri h2 h3]
theorem bl_tr : ∀ {a b c : List UInt8}, Op.bytesLess a b = true → Op.bytesLess b c = true → Op.bytesLess a c = true
  | _, _, [], _, h => by simp [Op.bytesLess] at h
  | _, [], c :: z, h, _ => by simp [Op.bytesLess] at h
  | [], b :: y, c :: z, _, _ => by simp [Op.bytesLess]
  | a :: x, b :: y, c :: z, h, h' => by
    simp only [Op.bytesLess, Bool.or_eq_true, decide_eq_true_eq, Bool.and_eq_true, beq_iff_eq] at h h' ⊢
    rcases h with h | ⟨rfl, h⟩
    · rcases h' with h' | ⟨rfl, h'⟩
      · exact .inl (UInt8.lt_trans h h')
      · exact .inl h
    · rcases h' with h' | ⟨rfl, h'⟩
      · exact .inl h'
      · exact .inr ⟨rfl, bl_tr h h'⟩
theorem bl_cmp : ∀ a b : List UInt8, Lib.compareBytes a b = if Op.bytesLess a b then -1 else if Op.bytesLess b a then 1 else 0
  | [], [] => rfl
  | [], b :: y => by simp [Op.bytesLess, Lib.compareBytes]
  | a :: x, [] => by simp [Op.bytesLess, Lib.compareBytes]
  | a :: x, b :: y => by
    rw [Lib.compareBytes, bl_cmp x y]
    by_cases h1 : a < b
    · simp [Op.bytesLess, h1]
    · by_cases h2 : b < a
      · have : a ≠ b := fun e => h1 (e ▸ h2)
        simp [Op.bytesLess, h1, h2, this]
      · have e : a = b := UInt8.le_antisymm (UInt8.not_lt.1 h2) (UInt8.not_lt.1 h1)
        subst e
        simp [Op.bytesLess, UInt8.lt_irrefl]
/-- One name is less than another. -/
def nlt (a b : ByteArray) : Bool := Op.bytesLess a.data.toList b.data.toList
theorem nlt_irr (a : ByteArray) : nlt a a = false := bl_irr _
theorem nlt_as {a b : ByteArray} (h : nlt a b = true) : nlt b a = false := bl_as h
theorem nlt_tr {a b c : ByteArray} (h : nlt a b = true) (h' : nlt b c = true) : nlt a c = true := bl_tr h h'
theorem nlt_tri {a b : ByteArray} (h : nlt a b = false) (h' : nlt b a = false) : a = b := by
  have := bl_tri h h'
  obtain ⟨⟨a⟩⟩ := a; obtain ⟨⟨b⟩⟩ := b
  simpa using this
theorem nle_tr {a b c : ByteArray} (h : nlt b a = false) (h' : nlt c b = false) : nlt c a = false := by
  cases hc : nlt c a with
  | false => rfl
  | true =>
    cases hb : nlt b c with
    | true => rw [nlt_tr hb hc] at h; cases h
    | false =>
      have := nlt_tri h' hb
      subst this; rw [hc] at h; cases h
theorem nlt_le {a b c : ByteArray} (h : nlt a b = true) (h' : nlt c b = false) : nlt a c = true := by
  cases hc : nlt a c with
  | true => rfl
  | false =>
    rw [nle_tr h' hc] at h; cases h
theorem ncmp (a b : ByteArray) : Lib.compareBytes a.data.toList b.data.toList = if nlt a b then -1 else if nlt b a then 1 else 0 := bl_cmp _ _
theorem ncmp_lt (a b : ByteArray) : decide (Lib.compareBytes a.data.toList b.data.toList < 0) = nlt a b := by
  rw [ncmp]
  cases h : nlt a b
  · cases nlt b a <;> rfl
  · rfl
/-! ### Entries -/
abbrev En := ByteArray × List Int
/-- By rising names, none twice. -/
def Up (l : List En) : Prop := l.Pairwise fun x y => nlt x.1 y.1 = true
/-- By rising names. -/
def Upw (l : List En) : Prop := l.Pairwise fun x y => nlt y.1 x.1 = false
/-- Where a name stands, or would stand. -/
def atN : List En → ByteArray → Nat
  | [], _ => 0
  | x :: l, n => if nlt x.1 n then atN l n + 1 else 0
theorem atN_lt : ∀ (l : List En) (n : ByteArray) (x : En), x ∈ l.take (atN l n) → nlt x.1 n = true
  | [], _, _, h => by simp at h
  | y :: l, n, x, h => by
    unfold atN at h
    split at h
    · rename_i hy
      rw [List.take_succ_cons] at h
      rcases List.mem_cons.1 h with rfl | h
      · exact hy
      · exact atN_lt l n x h
    · simp at h
theorem atN_ge : ∀ {l : List En} {n : ByteArray} (_ : Upw l) (x : En), x ∈ l.drop (atN l n) → nlt x.1 n = false
  | [], _, _, _, h => by simp at h
  | y :: l, n, hu, x, h => by
    unfold atN at h
    split at h
    · rw [List.drop_succ_cons] at h
      exact atN_ge (List.pairwise_cons.1 hu).2 x h
    · rename_i hy
      have hy : nlt y.1 n = false := by simpa using hy
      rw [List.drop_zero] at h
      rcases List.mem_cons.1 h with rfl | h
      · exact hy
      · exact nle_tr hy ((List.pairwise_cons.1 hu).1 x h)
/-- An entry is laid ahead of the first that is not less. -/
def insN (l : List En) (x : En) : List En := l.take (atN l x.1) ++ x :: l.drop (atN l x.1)
theorem insN_up {l : List En} {x : En} (h : Upw l) : Upw (insN l x) := by
  unfold insN Upw
  rw [List.pairwise_append]
  refine ⟨h.sublist (List.take_sublist _ _), List.pairwise_cons.2 ⟨fun y hy => atN_ge h y hy, h.sublist (List.drop_sublist _ _)⟩, fun a ha b hb => ?_⟩
  have h1 := atN_lt l _ a ha
  rcases List.mem_cons.1 hb with rfl | hb
  · exact nlt_as h1
  · exact nlt_as (nlt_le h1 (atN_ge h b hb))
theorem insN_perm (l : List En) (x : En) : (insN l x).Perm (x :: l) := by
  unfold insN
  exact List.perm_middle.trans (by rw [List.take_append_drop])
/-- Sorted. -/
def srtN (l : List En) : List En := l.foldl insN []
theorem srt_fold : ∀ (l a : List En), Upw a → Upw (l.foldl insN a) ∧ (l.foldl insN a).Perm (a ++ l)
  | [], a, h => ⟨h, by simp⟩
  | x :: l, a, h => by
    obtain ⟨h1, h2⟩ := srt_fold l (insN a x) (insN_up h)
    exact ⟨h1, h2.trans (((insN_perm a x).append_right l).trans List.perm_middle.symm)⟩
theorem srtN_up (l : List En) : Upw (srtN l) := (srt_fold l [] List.Pairwise.nil).1
theorem srtN_perm (l : List En) : (srtN l).Perm l := by have := (srt_fold l [] List.Pairwise.nil).2; rw [List.nil_append] at this; exact this
theorem Upw.up {l : List En} (h : Upw l) (hn : (l.map (·.1)).Nodup) : Up l := by
  have hn := List.nodup_iff_pairwise_ne.1 hn
  rw [List.pairwise_map] at hn
  exact List.Pairwise.imp₂ (fun {a b} h1 h2 => by
    cases hc : nlt a.1 b.1 with
    | true => rfl
    | false => exact absurd (nlt_tri hc h1) h2) h hn
theorem Up.nodup {l : List En} (h : Up l) : (l.map (·.1)).Nodup := by
  refine List.nodup_iff_pairwise_ne.2 ?_
  rw [List.pairwise_map]
  exact List.Pairwise.imp (fun {a b} h1 e => by rw [e, nlt_irr] at h1; cases h1) h
/-- Rising lists of the same entries are the same. -/
theorem Up.ext : ∀ {a b : List En}, Up a → Up b → (∀ x, x ∈ a ↔ x ∈ b) → a = b
  | [], [], _, _, _ => rfl
  | [], y :: b, _, _, h => by have := (h y).2 (by simp); cases this
  | x :: a, [], _, _, h => by have := (h x).1 (by simp); cases this
  | x :: a, y :: b, ha, hb, h => by
    obtain ⟨ha1, ha2⟩ := List.pairwise_cons.1 ha
    obtain ⟨hb1, hb2⟩ := List.pairwise_cons.1 hb
    have e : x = y := by
      rcases List.mem_cons.1 ((h x).1 (by simp)) with e | hx
      · exact e
      rcases List.mem_cons.1 ((h y).2 (by simp)) with e | hy
      · exact e.symm
      have h1 := hb1 x hx
      have h2 := ha1 y hy
      rw [nlt_as h1] at h2; cases h2
    subst e
    congr 1
    refine Up.ext ha2 hb2 fun z => ⟨fun hz => ?_, fun hz => ?_⟩
    · rcases List.mem_cons.1 ((h z).1 (by simp [hz])) with rfl | hz'
      · have := ha1 z hz; rw [nlt_irr] at this; cases this
      · exact hz'
    · rcases List.mem_cons.1 ((h z).2 (by simp [hz])) with rfl | hz'
      · have := hb1 z hz; rw [nlt_irr] at this; cases this
      · exact hz'
theorem up_eq_srt {a l : List En} (ha : Up a) (hp : a.Perm l) : a = srtN l :=
  Up.ext ha ((srtN_up l).up (((srtN_perm l).trans hp.symm).map (·.1) |>.nodup_iff.2 ha.nodup)) fun x => by rw [hp.mem_iff, (srtN_perm l).mem_iff]
/-! ### How much -/
def sumD (l : List En) : Int := (l.map fun x => (x.2.length : Int)).sum
def sumN (l : List En) : Int := (l.map fun x => (x.1.size : Int)).sum
theorem perm_sum {a b : List Int} (h : a.Perm b) : a.sum = b.sum := by
  induction h with
  | nil => rfl
  | cons x _ ih => simp [ih]
  | swap x y l => simp; omega
  | trans _ _ h1 h2 => exact h1.trans h2
theorem sumD_perm {a b : List En} (h : a.Perm b) : sumD a = sumD b := perm_sum (h.map _)
theorem sumN_perm {a b : List En} (h : a.Perm b) : sumN a = sumN b := perm_sum (h.map _)
theorem sumD_nn (l : List En) : 0 ≤ sumD l := by
  induction l with
  | nil => simp [sumD]
  | cons x l ih => simp only [sumD, List.map_cons, List.sum_cons] at *; omega
theorem sumN_nn (l : List En) : 0 ≤ sumN l := by
  induction l with
  | nil => simp [sumN]
  | cons x l ih => simp only [sumN, List.map_cons, List.sum_cons] at *; omega
theorem sumD_app (a b : List En) : sumD (a ++ b) = sumD a + sumD b := by simp [sumD]
theorem sumN_app (a b : List En) : sumN (a ++ b) = sumN a + sumN b := by simp [sumN]
def much (l : List En) : Bool := decide (4096 < l.length) || decide (1048576 < sumD l) || decide (1048576 < sumN l)
theorem much_perm {a b : List En} (h : a.Perm b) : much a = much b := by unfold much; rw [sumD_perm h, sumN_perm h, h.length_eq]
/-! ### Which names may be -/
def partsU : List UInt8 → List (List UInt8)
  | [] => [[]]
  | c :: r => if c = 47 then [] :: partsU r else match partsU r with
    | p :: ps => (c :: p) :: ps
    | [] => [[c]]
def badU (p : List UInt8) : Bool := p == [] || (p == [46] || p == [46, 46])
/-- But for the length. -/
def okU (l : List UInt8) : Bool := (!l.contains 0) && !(partsU l).any badU
def rightU (l : List UInt8) : Bool := decide (l.length ≤ 4096) && okU l
def rightN (s : ByteArray) : Bool := rightU s.data.toList
/-! ### The calls -/
def sortE (l : List En) : List En × Int :=
  if l.any (fun x => !rightN x.1) then ([], 6) else if ¬ (l.map (·.1)).Nodup then ([], 7) else if much l then ([], 5) else (srtN l, 0)
end Go.Proofs.YtiimlfgjnapgjaaGreatDoorV

/- Entries in memory; byName; sorting them by exchanges. -/
namespace Go.Proofs.YtiimlfgjnapgjaaGreatDoorV
open Go Go.RowKit
/-! ### Cells -/
/-- An entry: its name, the slice of its bytes, and what these are. -/
abbrev E3 := ByteArray × Value × List Int
instance : Inhabited E3 := ⟨(⟨#[]⟩, .slice none 0 0, [])⟩
def c3 (u : E3) : List Value := [.string u.1, u.2.1]
def cells3 (us : List E3) : List Value := us.flatMap c3
def er (u : E3) : En := (u.1, u.2.2)
theorem cells3_cons (u : E3) (us : List E3) : cells3 (u :: us) = .string u.1 :: u.2.1 :: cells3 us := rfl
theorem cells3_len : ∀ us : List E3, (cells3 us).length = us.length * 2
  | [] => rfl
  | u :: us => by rw [cells3_cons]; simp only [List.length_cons, cells3_len us]; omega
theorem cells3_app (a b : List E3) : cells3 (a ++ b) = cells3 a ++ cells3 b := by simp [cells3]
theorem cells3_get : ∀ {us : List E3} {i : Nat} {u : E3}, us[i]? = some u → (cells3 us)[i * 2]? = some (.string u.1) ∧ (cells3 us)[i * 2 + 1]? = some u.2.1
  | [], _, _, h => by simp at h
  | x :: us, 0, u, h => by
    simp at h; subst h; exact ⟨rfl, rfl⟩
  | x :: us, i + 1, u, h => by
    have h2 := cells3_get (us := us) (i := i) (u := u) (by simpa using h)
    rw [cells3_cons, show (i + 1) * 2 = i * 2 + 2 by omega]
    simpa using h2
theorem cells3_take (us : List E3) (i : Nat) : (cells3 us).take (i * 2) = cells3 (us.take i) := by
  induction us generalizing i with
  | nil => simp [cells3]
  | cons u us ih =>
    cases i with
    | zero => simp [cells3]
    | succ i => rw [cells3_cons, show (i + 1) * 2 = i * 2 + 1 + 1 by omega, List.take_succ_cons, List.take_succ_cons, ih, List.take_succ_cons, cells3_cons]
theorem cells3_drop (us : List E3) (i : Nat) : (cells3 us).drop (i * 2) = cells3 (us.drop i) := by
  induction us generalizing i with
  | nil => simp [cells3]
  | cons u us ih =>
    cases i with
    | zero => simp
    | succ i => rw [cells3_cons, show (i + 1) * 2 = i * 2 + 1 + 1 by omega, List.drop_succ_cons, List.drop_succ_cons, ih, List.drop_succ_cons]
theorem cells3_set {us : List E3} {i : Nat} {u : E3} (h : i < us.length) : (cells3 us).take (i * 2) ++ c3 u ++ (cells3 us).drop (i * 2 + 2) = cells3 (us.set i u) := by
  rw [cells3_take, show i * 2 + 2 = (i + 1) * 2 by omega, cells3_drop, List.set_eq_take_append_cons_drop, if_pos h, cells3_app, cells3_cons]
  simp [c3]
theorem one3 {us : List E3} (h : ∀ u ∈ us, u.2.1.oneCell' = true) : ∀ v ∈ cells3 us, v.oneCell' = true := fun v hv => by
  obtain ⟨u, hu, hv⟩ := List.mem_flatMap.1 hv
  simp only [c3, List.mem_cons, List.not_mem_nil, or_false] at hv
  rcases hv with rfl | rfl
  · rfl
  · exact h u hu
/-- A slice of entries reads so. -/
def Es (w : World) (v : Value) (us : List E3) : Prop := Sl w 2 v us.length (cells3 us) ∧ ∀ u ∈ us, Nm .u8 w u.2.1 u.2.2
theorem Es.ev {w w' : World} {v : Value} {us : List E3} (h : Es w v us) (he : Ev w w') : Es w' v us := ⟨h.1.ev he, fun u hu => (h.2 u hu).ev he⟩
theorem Nm.oc {k : IntKind} {w : World} {v : Value} {xs : List Int} (h : Nm k w v xs) : v.oneCell' = true := by obtain ⟨a, c, rfl, _⟩ := h.shape; rfl
theorem Es.cell {w : World} {v : Value} {us : List E3} (h : Es w v us) {i : Nat} {u : E3} (hu : us[i]? = some u) {ad : Addr} (hc : ∀ j x, j < 2 → (cells3 us)[i * 2 + j]? = some x → w.cell? (ad.add j) = some x) : w.cell? (ad.add 0) = some (.string u.1) ∧ w.cell? (ad.add 1) = some u.2.1 :=
  ⟨hc 0 _ (by omega) (cells3_get hu).1, hc 1 _ (by omega) (cells3_get hu).2⟩
/-! ### A row that is told by its places -/
def lst (n : Nat) (f : Nat → E3) : List E3 := (List.range n).map f
theorem lst_len (n : Nat) (f : Nat → E3) : (lst n f).length = n := by simp [lst]
theorem lst_get {n i : Nat} (f : Nat → E3) (h : i < n) : (lst n f)[i]? = some (f i) := by simp [lst, h]
def put1 (f : Nat → E3) (i : Nat) (u : E3) : Nat → E3 := fun k => if k = i then u else f k
theorem lst_set {n i : Nat} (f : Nat → E3) (u : E3) (h : i < n) : (lst n f).set i u = lst n (put1 f i u) := by
  refine List.ext_getElem? fun j => ?_
  rw [List.getElem?_set]
  by_cases hj : j < n
  · rw [lst_get (put1 f i u) hj]
    by_cases e : i = j
    · subst e; rw [if_pos rfl, if_pos (by rw [lst_len]; exact h)]; simp [put1]
    · rw [if_neg e, lst_get f hj]; simp [put1, show ¬ j = i from fun h => e h.symm]
  · rw [List.getElem?_eq_none (l := lst n (put1 f i u)) (by rw [lst_len]; omega), if_neg (by omega), List.getElem?_eq_none (by rw [lst_len]; omega)]
theorem lst_of (us : List E3) : us = lst us.length (fun i => us.getD i default) := by
  refine List.ext_getElem? fun j => ?_
  by_cases hj : j < us.length
  · rw [lst_get _ hj, List.getElem?_eq_getElem hj]; simp [hj]
  · rw [List.getElem?_eq_none (by omega), List.getElem?_eq_none (by rw [lst_len]; omega)]
theorem put1_swp (f : Nat → E3) (i j : Nat) : put1 (put1 f i (f j)) j (f i) = swp f i j := by
  funext k; unfold put1 swp
  by_cases h1 : k = j
  · rw [if_pos h1]
    by_cases h2 : k = i
    · rw [if_pos h2, ← h1, ← h2]
    · rw [if_neg h2, if_pos h1]
  · rw [if_neg h1]
    by_cases h2 : k = i
    · rw [if_pos h2, if_pos h2]
    · rw [if_neg h2, if_neg h2, if_neg h1]
def fIt (e : TypeId) (v : Value) (n : Nat) (f : Nat → E3) : It := rIt e 2 v n (cells3 (lst n f))
def Ok1 (f : Nat → E3) : Prop := ∀ k, (f k).2.1.oneCell' = true
theorem Ok1.perm {f g : Nat → E3} {a b : Nat} (h : Ok1 f) (hp : PermOn a b f g) : Ok1 g := fun k => by obtain ⟨s, t, e, _⟩ := hp; rw [e]; exact h _
section
variable {w0 w w' : World} {G : List It} {e : TypeId} {v : Value} {n : Nat} {f : Nat → E3}
theorem fIdxLdB {i : Int} {ki : IntKind} {B : World → Prop} {K : ByteArray → Value → Prop} (h : Fr w0 w (fIt e v n f :: G)) (j : Nat) (hij : i = (j : Int)) (hj : j < n) (hB : ∀ w', B w' → Ev w w') (hk : K (f j).1 (f j).2.1) :
    gIdx P t_sl_api_Entry v (.int ki i) fun ad => gLoadB P t_api_Entry (.part (.agg [.str, .val])) (.pointer (some ad)) B fun s d => K s d := by
  have ho : w.ownsRow 0 e 2 v n (cells3 (lst n f)) := h.1
  refine gIdx_r ho hij hj fun ad hs => gLoadB_agg [.string (f j).1, (f j).2.1] (fun w' hw q u hq => ?_) hk
  have hg := cells3_get (lst_get f hj)
  have hc0 := SltR.cell ho hs (q := 0) hg.1
  have hc1 := SltR.cell ho hs (q := 1) hg.2
  rcases q with _ | _ | q
  · simp at hq; subst hq; exact Ch.cell (hB w' hw) hc0 fun h => h
  · simp at hq; subst hq; exact Ch.cell (hB w' hw) hc1 fun h => h
  · simp at hq
theorem fIdxSt {i : Int} {ki : IntKind} {K : World → Prop} (h : Fr w0 w (fIt e v n f :: G)) (j : Nat) (u : E3) (hij : i = (j : Int)) (hj : j < n) (hu : u.2.1.oneCell' = true) (hk : ∀ w', Fr w0 w' (fIt e v n (put1 f j u) :: G) → K w') :
    gIdx P t_sl_api_Entry v (.int ki i) fun ad => gStore P t_api_Entry (.pointer (some ad)) (.agg #[.string u.1, u.2.1]) w K := by
  have ho : w.ownsRow 0 e 2 v n (cells3 (lst n f)) := h.1
  refine gIdx_r ho hij hj fun ad hs => fStoreR (j := j) h 0 rfl hs hj rfl (fun x hx => ?_) fun w' hw => hk w' ?_
  · simp at hx; rcases hx with rfl | rfl
    · rfl
    · exact hu
  · have hset := cells3_set (us := lst n f) (i := j) (u := u) (by rw [lst_len]; exact hj)
    rw [show (#[Value.string u.1, u.2.1] : Array Value).toList = c3 u from rfl, hset, lst_set f u hj] at hw
    exact hw
theorem drewEv {w w' : World} (h : w' = w.drew) : Ev w.drew w' := by subst h; exact Ch.refl _ _
/-- What a comparison hands back. -/
def cmpN (a b : ByteArray) : Int := Lib.compareBytes a.data.toList b.data.toList
theorem Compare_any (a b : ByteArray) : Calls P n_strings_Compare #[.string a, .string b] w (fun e w' => e = .returned (.int .i64 (cmpN a b)) ∧ w' = w) :=
  of_strings_Compare (gCall_i0 (n := cmpN a b) (of_internal_bytealg_CompareString (gExt_i (by kernel_rfl) (Lib.run_compareString a b w) ⟨rfl, rfl⟩ (by kernel_rfl))) ⟨rfl, rfl⟩)
theorem byName_any (a b : ByteArray) (da db : Value) (ha : da.oneCell' = true) (hb : db.oneCell' = true) : Calls P n_names_byName #[.agg #[.string a, da], .agg #[.string b, db]] w (fun e w' => e = .returned (.int .i64 (cmpN a b)) ∧ Ev w w') :=
  of_names_byName (fBox (Fr.start w) fun a2 w1 f1 => fBox f1 fun b3 w2 f2 => gLoad_s (f2.cell 1 0 rfl rfl) (gLoad_s (f2.cell 0 0 rfl rfl) (gCall_i0 (Compare_any a b) ⟨rfl, f2.old⟩)))
abbrev byV : Value := .func (.func n_names_byName) #[] #[]
/-- byName, called through a value. -/
theorem gCmp {a b : ByteArray} {da db : Value} {K : Int → World → Prop} (ha : da.oneCell' = true) (hb : db.oneCell' = true) (hk : ∀ w', Ev w w' → K (cmpN a b) w') : gCallV P byV (shI .i64) #[.agg #[.string a, da], .agg #[.string b, db]] w K :=
  ⟨_, _, _, rfl, by kernel_rfl, gCall_i (byName_any a b da db ha hb) hk⟩
theorem cmpN_lt (a b : ByteArray) : decide (cmpN a b < 0) = nlt a b := ncmp_lt a b
/-- Two are exchanged, as it stands in the text: x[i], x[j] = x[j], x[i], where j is read first. -/
theorem gSwap {i j : Int} {K : World → Prop} (h : Fr w0 w (fIt e v n f :: G)) (ho : Ok1 f) (p q : Nat) (hip : i = (p : Int)) (hjq : j = (q : Int)) (hp : p < n) (hq : q < n) (hk : ∀ w', Fr w0 w' (fIt e v n (swp f p q) :: G) → K w') :
    ∃ B C : World → Prop, (B w.drew ∧ C w.drew) ∧ gIdx P t_sl_api_Entry v (.int .i64 j) fun ad1 => gLoadB P t_api_Entry (.part (.agg [.str, .val])) (.pointer (some ad1)) C fun s1 d1 => gIdx P t_sl_api_Entry v (.int .i64 i) fun ad2 => gLoadB P t_api_Entry (.part (.agg [.str, .val])) (.pointer (some ad2)) C fun s2 d2 =>
      gIdx P t_sl_api_Entry v (.int .i64 i) fun ad3 => gStore P t_api_Entry (.pointer (some ad3)) (.agg #[.string s1, d1]) w.drew fun w2 => B w2 ∧ gIdx P t_sl_api_Entry v (.int .i64 j) fun ad4 => gStore P t_api_Entry (.pointer (some ad4)) (.agg #[.string s2, d2]) w2 fun w3 => B w3 ∧ K w3 := by
  have hd := h.drew
  refine ⟨fun _ => True, fun w' => w' = w.drew, ⟨trivial, rfl⟩, fIdxLdB hd q hjq hq (fun _ => drewEv) (fIdxLdB hd p hip hp (fun _ => drewEv) (fIdxSt hd p (f q) hip hp (ho q) fun w2 h2 => ⟨trivial, fIdxSt h2 q (f p) hjq hq (ho p) fun w3 h3 => ⟨trivial, hk w3 ?_⟩⟩))⟩
  rw [put1_swp] at h3; exact h3
theorem Ok1.sw (ho : Ok1 f) (i j : Nat) : Ok1 (swp f i j) := fun k => by unfold Go.Proofs.YtiimlfgjnapgjaaGreatDoorV.swp; split; exact ho _; split; exact ho _; exact ho _
theorem swapRange_any (hv : Fr w0 w (fIt e v n f :: G)) (ho : Ok1 f) (a b m : Nat) (cv : Value) (h1 : a + m ≤ b) (h2 : b + m ≤ n) (hn : n ≤ 1000000000000) :
    Calls P n_slices_swapRangeCmpFunc_api_Entry #[v, .int .i64 a, .int .i64 b, .int .i64 m, cv] w (fun e' w' => e' = .returned (.tuple #[]) ∧ Fr w0 w' (fIt e v n (swR a b m f) :: G)) := by
  refine of_slices_swapRangeCmpFunc_api_Entry ⟨fun i w' => ∃ j : Nat, i = (j : Int) ∧ j ≤ m ∧ Ok1 (swR a b j f) ∧ Fr w0 w' (fIt e v n (swR a b j f) :: G), fun i _ => m - i.toNat, ⟨0, rfl, Nat.zero_le _, by rw [swR_zero]; exact ho, by rw [swR_zero]; exact hv⟩, ?_⟩
  rintro _ i w1 ⟨j, rfl, hj, ho1, g1⟩
  refine gIf_dec (fun hlt => ?_) (fun hge => ?_)
  · have hlt' : j < m := by omega
    refine gSwap g1 ho1 (a + j) (b + j) (by rw [i64_id (by omega) (by omega)]; omega) (by rw [i64_id (by omega) (by omega)]; omega) (by omega) (by omega) fun w2 g2 => ?_
    rw [swR_step a b j f (by omega)] at g2
    refine ⟨⟨j + 1, by rw [i64_id (by omega) (by omega)]; omega, by omega, ?_, g2⟩, by dsimp only; rw [i64_id (by omega) (by omega)]; omega⟩
    rw [← swR_step a b j f (by omega)]; exact ho1.sw _ _
  · obtain rfl : j = m := by omega
    exact ⟨rfl, g1⟩
theorem swR_ok (ho : Ok1 f) (a b m : Nat) : Ok1 (swR a b m f) := fun k => by unfold swR; split; exact ho _; split; exact ho _; exact ho _
theorem rotate_any (hv : Fr w0 w (fIt e v n f :: G)) (ho : Ok1 f) (a m b : Nat) (cv : Value) (h1 : a < m) (h2 : m < b) (h3 : b ≤ n) (hn : n ≤ 1000000000000) :
    Calls P n_slices_rotateCmpFunc_api_Entry #[v, .int .i64 a, .int .i64 m, .int .i64 b, cv] w (fun e' w' => e' = .returned (.tuple #[]) ∧ Fr w0 w' (fIt e v n (rot a m b f) :: G)) := by
  refine of_slices_rotateCmpFunc_api_Entry ⟨fun i j w' => ∃ (p q : Nat) (g : Nat → E3), i = (p : Int) ∧ j = (q : Int) ∧ 0 < p ∧ 0 < q ∧ a + p ≤ m ∧ m + q ≤ b ∧ Ok1 g ∧ rot (m - p) m (m + q) g = rot a m b f ∧ Fr w0 w' (fIt e v n g :: G), fun i j _ => (i + j).toNat, ?_, ?_⟩
  · refine ⟨m - a, b - m, f, by rw [i64_id (by omega) (by omega)]; omega, by rw [i64_id (by omega) (by omega)]; omega, by omega, by omega, by omega, by omega, ho, ?_, hv⟩
    rw [show m - (m - a) = a by omega, show m + (b - m) = b by omega]
  rintro _ i j w1 ⟨p, q, g, rfl, rfl, hp, hq, hp1, hq1, hg, hr, g1⟩
  refine gIf_neq (fun hne => gIf_dec (fun hgt => ?_) (fun hle => ?_)) (fun heq => ?_)
  · rw [i64_id (n := (m : Int) - p) (by omega) (by omega), show ((m : Int) - p) = ((m - p : Nat) : Int) by omega]
    refine gCall_u (swapRange_any g1 hg (m - p) m q cv (by omega) (by omega) hn) fun w2 g2 => ?_
    rw [i64_id (n := (p : Int) - q) (by omega) (by omega)]
    refine ⟨⟨p - q, q, _, by omega, rfl, by omega, hq, by omega, hq1, swR_ok hg _ _ _, ?_, g2⟩, by dsimp only; omega⟩
    rw [rot_gt m p q g (by omega) (by omega)]; exact hr
  · have hlt : p < q := by omega
    rw [i64_id (n := (m : Int) - p) (by omega) (by omega), i64_id (n := (m : Int) + q) (by omega) (by omega), i64_id (n := (m : Int) + q - p) (by omega) (by omega), show ((m : Int) - p) = ((m - p : Nat) : Int) by omega, show ((m : Int) + q - p) = ((m + q - p : Nat) : Int) by omega]
    refine gCall_u (swapRange_any g1 hg (m - p) (m + q - p) p cv (by omega) (by omega) hn) fun w2 g2 => ?_
    rw [i64_id (n := (q : Int) - p) (by omega) (by omega)]
    refine ⟨⟨p, q - p, _, rfl, by omega, hp, by omega, hp1, by omega, swR_ok hg _ _ _, ?_, g2⟩, by dsimp only; omega⟩
    rw [rot_le m p q g (by omega) hlt]; exact hr
  · obtain rfl : p = q := by omega
    rw [i64_id (n := (m : Int) - p) (by omega) (by omega), show ((m : Int) - p) = ((m - p : Nat) : Int) by omega]
    refine gCall_u (swapRange_any g1 hg (m - p) m p cv (by omega) (by omega) hn) fun w2 g2 => ⟨rfl, ?_⟩
    rw [rot_eq m p g (by omega), hr] at g2
    exact g2
end
end Go.Proofs.YtiimlfgjnapgjaaGreatDoorV

/- Things bundled; what a script's bytes tell, plain. -/
set_option linter.unusedVariables false
set_option linter.unusedSimpArgs false
namespace Go.Proofs.YtiimlfgjnapgjaaGreatDoorV
open Go Go.RowKit
/-! ### Bundles -/
def bunIt (F : List It) : It := ⟨fun k => ∃ it ∈ F, it.ft k, fun w => ∀ it ∈ F, it.ok w, fun w k h ⟨it, hi, hk⟩ => it.ce w k (h it hi) hk, fun w w' S h hc hs it hi => it.st w w' S (h it hi) hc fun k i hk => hs k i ⟨it, hi, hk⟩, fun w w' h hz hc it hi => it.gr w w' (h it hi) hz hc⟩
section
variable {w0 w w' : World} {F : List It}
theorem Fr.bundle : ∀ {G : List It}, Fr w0 w (G ++ F) → Fr w0 w (bunIt G :: F)
  | [], h => ⟨fun _ h => (by cases h), fun k ⟨_, h, _⟩ => (by cases h), fun _ _ k ⟨_, h, _⟩ => (by cases h), h⟩
  | g :: G, h => by
    obtain ⟨h1, h2, h3, h4⟩ := Fr.bundle (G := G) h.2.2.2
    refine ⟨fun it hi => ?_, fun k ⟨it, hi, hk⟩ => ?_, fun jt hj k ⟨it, hi, hk⟩ => ?_, h4⟩
    · rcases List.mem_cons.1 hi with rfl | hi
      · exact h.1
      · exact h1 it hi
    · rcases List.mem_cons.1 hi with rfl | hi
      · exact h.2.1 k hk
      · exact h2 k ⟨it, hi, hk⟩
    · rcases List.mem_cons.1 hi with rfl | hi
      · exact h.2.2.1 jt (List.mem_append_right _ hj) k hk
      · exact h3 jt hj k ⟨it, hi, hk⟩
theorem Fr.join {A B : List It} (h : Fr w0 w (bunIt A :: bunIt B :: F)) : Fr w0 w (bunIt (A ++ B) :: F) := by
  obtain ⟨h1, h2, h3, h4, h5, h6, h7⟩ := h
  refine ⟨fun it hi => ?_, fun k ⟨it, hi, hk⟩ => ?_, fun jt hj k ⟨it, hi, hk⟩ => ?_, h7⟩
  · rcases List.mem_append.1 hi with hi | hi
    · exact h1 it hi
    · exact h4 it hi
  · rcases List.mem_append.1 hi with hi | hi
    · exact h2 k ⟨it, hi, hk⟩
    · exact h5 k ⟨it, hi, hk⟩
  · rcases List.mem_append.1 hi with hi | hi
    · exact h3 jt (List.mem_cons_of_mem _ hj) k ⟨it, hi, hk⟩
    · exact h6 jt hj k ⟨it, hi, hk⟩
end
/-! ### What bytes tell -/
def nmS (xs : List Int) (m : Int) (s : Nat × Int) : Int × (Nat × Int) := (if (numR xs s.1 s.2 18446744073709551615).1 > m then 0 else (numR xs s.1 s.2 18446744073709551615).1, (numR xs s.1 s.2 18446744073709551615).2)
def txS (xs : List Int) (m : Int) (s : Nat × Int) : List Int × (Nat × Int) := textR xs s.1 s.2 m
def repS {α : Type} (f : Nat × Int → α × (Nat × Int)) : Nat → Nat × Int → List α × (Nat × Int)
  | 0, s => ([], s)
  | n + 1, s => ((repS f n s).1 ++ [(f (repS f n s).2).1], (f (repS f n s).2).2)
theorem repS_len {α : Type} (f : Nat × Int → α × (Nat × Int)) (s : Nat × Int) : ∀ n, (repS f n s).1.length = n
  | 0 => rfl
  | n + 1 => by rw [repS, List.length_append, repS_len f s n]; rfl
def nameS (xs : List Int) (s : Nat × Int) : ByteArray × (Nat × Int) := (bsOf (txS xs 4096 s).1, (txS xs 4096 s).2)
def entS (xs : List Int) (s : Nat × Int) : En × (Nat × Int) := (((nameS xs s).1, (txS xs 65536 (nameS xs s).2).1), (txS xs 65536 (nameS xs s).2).2)
structure OpV where
  kind : Int
  ents : List En
  names : List ByteArray
  auto : Bool
  chain : List Int
  level : Int
  block : Int
  locked : Bool
  salt : List Int
  nonce : List Int
  rounds : Int
  n : Int
def op0 : OpV := ⟨0, [], [], false, [], 0, 0, false, [], [], 0, 0⟩
section
variable (xs : List Int) (s : Nat × Int)
def oK : Int × (Nat × Int) := nmS xs 9 s
def oN : Int × (Nat × Int) := nmS xs 1048576 (oK xs s).2
def oC1 : Int × (Nat × Int) := nmS xs 8 (oN xs s).2
def oNs : List ByteArray × (Nat × Int) := repS (nameS xs) (oC1 xs s).1.toNat (oC1 xs s).2
def oC2 : Int × (Nat × Int) := nmS xs 8 (oNs xs s).2
def oEs : List En × (Nat × Int) := repS (entS xs) (oC2 xs s).1.toNat (oC2 xs s).2
def oLv : Int × (Nat × Int) := nmS xs 255 (oEs xs s).2
def oBl : Int × (Nat × Int) := nmS xs 1048576 (oLv xs s).2
def oC3 : Int × (Nat × Int) := nmS xs 8 (oBl xs s).2
def oCh : List Int × (Nat × Int) := repS (nmS xs 255) (oC3 xs s).1.toNat (oC3 xs s).2
def oV : Int × (Nat × Int) := nmS xs 3 (oCh xs s).2
def oSa : List Int × (Nat × Int) := txS xs 64 (oV xs s).2
def oNo : List Int × (Nat × Int) := txS xs 64 (oSa xs s).2
def oRo : Int × (Nat × Int) := nmS xs 2000 (oNo xs s).2
def opS : OpV × (Nat × Int) :=
  if (oK xs s).1 = 0 then (op0, (oK xs s).2) else
  (⟨(oK xs s).1, (oEs xs s).1, (oNs xs s).1, decide ((oV xs s).1 % 2 = 1), (oCh xs s).1, (oLv xs s).1, (oBl xs s).1, decide ((oV xs s).1 ≥ 2), (oSa xs s).1, (oNo xs s).1, (oRo xs s).1, (oN xs s).1⟩, (oRo xs s).2)
end
def opsS (xs : List Int) : Nat → Nat × Int → List OpV
  | 0, _ => []
  | f + 1, s => if (opS xs s).1.kind = 0 then [] else (opS xs s).1 :: opsS xs f (opS xs s).2
end Go.Proofs.YtiimlfgjnapgjaaGreatDoorV

/- Package valiseref02: the reader's numbers and texts. -/
set_option linter.unusedVariables false
set_option linter.unusedSimpArgs false
namespace Go.Proofs.YtiimlfgjnapgjaaGreatDoorV
open Go Go.RowKit
def refLk (xs : List Int) (a : Nat) : Int × Int × Int := ((lookI xs a).1, if (lookI xs a).2.2 = 0 then (lookI xs a).2.1 - a else 0, (lookI xs a).2.2)
theorem refLk_er {xs : List Int} {a : Nat} {e : Int} (h : lookI xs a = (0, 0, e)) (he : e ≠ 0) : refLk xs a = (0, 0, e) := by unfold refLk; rw [h]; simp [he]
theorem refLk_ok {xs : List Int} {a n : Nat} {v : Int} (h : lookI xs a = (v, ((a + n : Nat) : Int), 0)) : refLk xs a = (v, (n : Int), 0) := by unfold refLk; rw [h]; simp; omega
section
variable {w : World} {xs : List Int} {ad : Addr} {b : Value} {a : Nat} {er : Int}
theorem rfNumber_any (h : Rd w ad b xs a er) : Calls P n_valiseref02_Reader_number #[.pointer (some ad)] w (Look w (refLk xs a)) := by
  have hal := h.2.2.2.1
  have hxl := h.2.2.2.2
  refine of_valiseref02_Reader_number ⟨fun v i w1 => ∃ n : Nat, i = n ∧ n ≤ 9 ∧ lookL xs a (10 - n) n v = lookI xs a ∧ 0 ≤ v ∧ v < ((2 ^ (7 * n) : Nat) : Int) ∧ Ev w w1, fun _ i _ => 10 - i.toNat, ⟨0, rfl, by omega, rfl, by omega, by decide, Ch.refl _ w⟩, ?_⟩
  rintro _ v i w1 ⟨n, rfl, hn, hL, hv0, hv1, h1⟩
  have hR : Rd w1.drew ad b xs a er := (h.ev h1).drew
  refine gNil_some (gLoadB_i (at1 ((h.ev h1).1.cell (j := 1) rfl)) (gNil_some (gLoadB_v (at1 ((h.ev h1).1.cell (j := 0) rfl)) (gLen_nm h.2.1 (gIf_dec (fun hge => ?_) (fun hin => ?_))))))
  · rw [i64_id (by omega) (by omega)] at hge
    rw [show 10 - n = (9 - n) + 1 by omega, lookL, if_pos (by omega)] at hL
    exact ⟨by rw [refLk_er hL.symm (by decide)], h1.drew⟩
  · rw [i64_id (by omega) (by omega)] at hin
    refine gNil_some (gLoadB_v (at1 (hR.1.cell (j := 0) rfl)) (gNil_some (gLoadB_i (at1 (hR.1.cell (j := 1) rfl)) ?_)))
    rw [show i64 ((a : Int) + n) = ((a + n : Nat) : Int) by rw [i64_id (by omega) (by omega)]; omega]
    refine gIdx_nm hR.2.1 (by omega) (by omega) fun ad2 c2 _ => gLoadB_i (at1 c2) ?_
    have hc := rd_u8 h.2.1.2 ((a + n : Nat) : Int)
    generalize hcr : rd xs ((a + n : Nat) : Int) = c at hc
    have eA : iAnd .u8 c 127 = c % 128 := by
      have := iAnd_mask (k := .u8) (a := c) (m := 7) (n := 127) rfl (by omega) (by rw [show (2 : Int) ^ IntKind.u8.bits = 256 by decide]; omega) rfl (by decide)
      rw [show ((127 : Nat) : Int) = 127 from rfl] at this
      rw [this]; rfl
    have eU : u64 (c % 128) = c % 128 := by rw [u64_def]; omega
    have e7 : i64 (7 * (n : Int)) = ((7 * n : Nat) : Int) := by rw [i64_id (by omega) (by omega)]; omega
    have e8 : u64 ((7 * n : Nat) : Int) = ((7 * n : Nat) : Int) := by rw [u64_def]; omega
    have hstep : lookL xs a (10 - n) n v = if n = 9 ∧ c > 1 then (0, 0, 4) else if c < 128 then (if c = 0 ∧ n > 0 then (0, 0, 4) else (v + c % 128 * ((2 ^ (7 * n) : Nat) : Int), ((a + n + 1 : Nat) : Int), 0)) else lookL xs a (10 - (n + 1)) (n + 1) (v + c % 128 * ((2 ^ (7 * n) : Nat) : Int)) := by
      rw [show 10 - n = (10 - (n + 1)) + 1 by omega, lookL, if_neg (by omega), hcr]
    rw [hstep] at hL
    have hor : ¬ (n = 9 ∧ c > 1) → iOr .u64 v (iShl .u64 (c % 128) ((7 * n : Nat) : Int)) = v + c % 128 * ((2 ^ (7 * n) : Nat) : Int) ∧ v + c % 128 * ((2 ^ (7 * n) : Nat) : Int) < 18446744073709551616 := fun hne => by
      have hb : v + c % 128 * ((2 ^ (7 * n) : Nat) : Int) < 18446744073709551616 := by
        by_cases h9 : n = 9
        · subst h9
          have := hv1
          have e : ((2 ^ (7 * 9) : Nat) : Int) = 9223372036854775808 := by decide
          rw [e] at this ⊢; omega
        · have h1 := hv1
          have hq : ((2 ^ (7 * n) : Nat) : Int) ≤ ((72057594037927936 : Nat) : Int) := Int.ofNat_le.2 (pow7_le (n := n) (by omega))
          generalize ((2 ^ (7 * n) : Nat) : Int) = q at *
          have : c % 128 * q ≤ 127 * q := Int.mul_le_mul_of_nonneg_right (by omega) (by omega)
          omega
      refine ⟨?_, hb⟩
      rw [iShl_u (k := .u64) rfl (by have : IntKind.u64.bits = 64 := rfl; omega) (by omega), bits64, Int.emod_eq_of_lt (Int.mul_nonneg (by omega) (by omega)) (by have : (0 : Int) ≤ v := hv0; show _ < (18446744073709551616 : Int); omega)]
      exact iOr_add rfl hv0 hv1 (by omega) (by rw [bits64]; exact hb)
    refine ⟨fun w' => ¬ (n = 9 ∧ c > 1) ∧ Ev w w', ?_, ?_⟩
    · refine gIf_eq (fun e9 => gIf_dec (fun hg => ⟨?_, h1.drew.drew⟩) (fun hg => ⟨fun hh => hg hh.2, h1.drew.drew⟩)) (fun e9 => ⟨fun hh => e9 (by rw [hh.1]; rfl), h1.drew.drew⟩)
      rw [if_pos ⟨by omega, hg⟩] at hL
      rw [refLk_er hL.symm (by decide)]
    · rintro _ w2 ⟨hne, h2⟩
      obtain ⟨ho, hob⟩ := hor hne
      rw [if_neg hne] at hL
      rw [eA, eU, e7, e8]
      refine gBin_shl (by omega) ?_
      rw [ho]
      have fin : ¬ (c = 0 ∧ n > 0) → c < 128 → Look w (refLk xs a) (.returned (.tuple #[.int .u64 (v + c % 128 * ((2 ^ (7 * n) : Nat) : Int)), .int .i64 (i64 ((n : Int) + 1)), .int .i64 0])) w2 := fun hz hlt => by
        rw [if_pos hlt, if_neg hz] at hL
        have e := refLk_ok (xs := xs) (a := a) (n := n + 1) (v := v + c % 128 * ((2 ^ (7 * n) : Nat) : Int)) (by rw [← hL, Nat.add_assoc])
        refine ⟨?_, h2⟩
        rw [e, i64_id (by omega) (by omega)]; rfl
      refine gIf_dec (fun hlt => gIf_eq (fun ez => gIf_dec (fun hp => ⟨?_, h2⟩) (fun hp => fin (fun hh => hp (by omega)) hlt)) (fun ez => fin (fun hh => ez hh.1) hlt)) (fun hge => ?_)
      · rw [if_pos hlt, if_pos ⟨ez, by omega⟩] at hL
        rw [refLk_er hL.symm (by decide)]
      · rw [if_neg hge] at hL
        rw [i64_id (n := (n : Int) + 1) (by omega) (by omega)]
        have hn9 : n ≠ 9 := fun e => hne ⟨e, by omega⟩
        refine ⟨⟨n + 1, by omega, by omega, hL, Int.add_nonneg hv0 (Int.mul_nonneg (by omega) (by omega)), ?_, h2⟩, by dsimp only; omega⟩
        have h3 := hv1
        rw [show 7 * (n + 1) = 7 * n + 7 by omega, Nat.pow_add]
        have e : ((2 ^ (7 * n) * 2 ^ 7 : Nat) : Int) = ((2 ^ (7 * n) : Nat) : Int) * 128 := by rw [Int.natCast_mul]; rfl
        rw [e]
        have : c % 128 * ((2 ^ (7 * n) : Nat) : Int) ≤ 127 * ((2 ^ (7 * n) : Nat) : Int) := Int.mul_le_mul_of_nonneg_right (by omega) (by omega)
        omega
theorem rrNum_any (h : Rd w ad b xs a er) : Calls P n_valiseref02_Reader_Num #[.pointer (some ad)] w (fun e w' => e = .returned (.int .u64 (numR xs a er 18446744073709551615).1) ∧ RS w w' ad b xs (numR xs a er 18446744073709551615).2.1 (numR xs a er 18446744073709551615).2.2) := by
  have hal := h.2.2.2.1
  have hxl := h.2.2.2.2
  refine of_valiseref02_Reader_Num (gNil_some (gLoad_i (h.1.cell (j := 2) rfl) (gIf_neq (fun hne => ?_) (fun he => gCall_of (rfNumber_any h) ?_))))
  · unfold numR; rw [if_pos hne]; exact ⟨rfl, h.step⟩
  subst he
  rintro _ w1 ⟨rfl, h1⟩
  have R1 := h.ev h1
  refine ⟨_, _, _, rfl, gNil_some (gStore_st R1.1 (j := 2) (by simp) rfl rfl fun w2 h2 _ hS2 => ?_)⟩
  have hRS := R1.set (j := 2) (a2 := a) (er2 := (lookI xs a).2.2) (by decide) h2 hS2 rfl hal
  refine gNil_some (gLoad_i (hRS.1.1.cell (j := 1) rfl) (gNil_some (gStore_st hRS.1.1 (j := 1) (by simp) rfl rfl fun w3 h3 _ hS3 => ?_)))
  have hrg := lookI_rng (xs := xs) (a := a) h.2.1.2
  have hen := lookI_end (xs := xs) (a := a)
  have hz : (lookI xs a).2.2 ≠ 0 → (lookI xs a).1 = 0 := by
    intro hne
    have : ∀ (f n : Nat) (v : Int), (lookL xs a f n v).2.2 ≠ 0 → (lookL xs a f n v).1 = 0 := by
      intro f
      induction f with
      | zero => intro n v _; rfl
      | succ f ih =>
        intro n v hh
        rw [lookL] at hh ⊢
        split
        · rfl
        · rename_i a1
          split
          · rfl
          · rename_i a2
            split
            · rename_i a3
              split
              · rfl
              · rename_i a4
                rw [if_neg a1, if_neg a2, if_pos a3, if_neg a4] at hh
                exact absurd rfl hh
            · rename_i a3
              rw [if_neg a1, if_neg a2, if_neg a3] at hh
              exact ih _ _ hh
    exact this 10 0 0 hne
  unfold numR
  rw [if_neg (by simp)]
  by_cases e0 : (lookI xs a).2.2 = 0
  · have hr := hrg e0
    have hp := hen e0
    rw [if_neg (by omega), if_neg (by omega)]
    refine ⟨rfl, RS.pre h1 (hRS.trans (hRS.1.set (j := 1) (a2 := (lookI xs a).2.1.toNat) (er2 := (lookI xs a).2.2) (by decide) h3 hS3 ?_ (by omega))) |> fun g => by rw [e0] at g; exact g⟩
    unfold refLk
    rw [if_pos e0]
    dsimp only
    rw [i64_id (by omega) (by omega), show (a : Int) + ((lookI xs a).2.1 - a) = (((lookI xs a).2.1.toNat : Nat) : Int) by omega]; rfl
  · rw [if_neg (by omega), if_pos e0]
    refine ⟨by unfold refLk; rw [hz e0], RS.pre h1 (hRS.trans (hRS.1.set (j := 1) (a2 := a) (er2 := (lookI xs a).2.2) (by decide) h3 hS3 ?_ hal))⟩
    unfold refLk
    rw [if_neg e0]
    dsimp only
    rw [i64_id (by omega) (by omega), Int.add_zero]; rfl
theorem rrText_any {most : Int} (h : Rd w ad b xs a er) (hm : 0 ≤ most ∧ most ≤ 1000000000) : Calls P n_valiseref02_Reader_Text #[.pointer (some ad), .int .i64 most] w (RawE w ad b xs (textR xs a er most)) := by
  have hal := h.2.2.2.1
  have hxl := h.2.2.2.2
  have hmm : (if 0 > most then 0 else most) = most := if_neg (by omega)
  refine of_valiseref02_Reader_Text (gNil_some (gLoad_i (h.1.cell (j := 2) rfl) (gIf_neq (fun hne => ?_) (fun he => gCall_of (rfNumber_any h) ?_))))
  · unfold textR; rw [if_pos hne]; exact ⟨_, rfl, h.step, ON.nil _ _ _ _⟩
  subst he
  rintro _ w1 ⟨rfl, h1⟩
  have R1 := h.ev h1
  have hrg := lookI_rng (xs := xs) (a := a) h.2.1.2
  have hen := lookI_end (xs := xs) (a := a)
  have hT : textR xs a 0 most = if (rawR xs (numR xs a 0 most).2.1 (numR xs a 0 most).2.2 (numR xs a 0 most).1).2.2 ≠ 0 then ([], a, (rawR xs (numR xs a 0 most).2.1 (numR xs a 0 most).2.2 (numR xs a 0 most).1).2.2) else rawR xs (numR xs a 0 most).2.1 (numR xs a 0 most).2.2 (numR xs a 0 most).1 := by
    unfold textR
    rw [if_neg (by simp), hmm]
  have raw_er : ∀ {e n : Int}, e ≠ 0 → rawR xs a e n = ([], a, e) := fun {e n} hne => by unfold rawR; rw [if_pos (.inl hne)]
  rw [hmm, show u64 most = most by rw [u64_def]; omega]
  refine ⟨_, _, _, rfl, fun w' => ∃ er', RS w w' ad b xs a er' ∧ ((er' ≠ 0 ∧ textR xs a 0 most = ([], a, er')) ∨ (er' = 0 ∧ (lookI xs a).2.2 = 0 ∧ (lookI xs a).1 ≤ most ∧ (lookI xs a).1 ≤ (xs.length : Int) - (lookI xs a).2.1)), ?_, ?_⟩
  · refine gIf_neq (fun hne => gNil_some (gStore_st R1.1 (j := 2) (by simp) rfl rfl fun w2 h2 _ hS2 => ?_)) (fun he => gIf_dec (fun hg => gNil_some (gStore_st R1.1 (j := 2) (by simp) rfl rfl fun w2 h2 _ hS2 => ?_)) (fun hle => ?_))
    · have hne : (lookI xs a).2.2 ≠ 0 := hne
      refine ⟨(lookI xs a).2.2, RS.pre h1 (R1.set (j := 2) (a2 := a) (er2 := (lookI xs a).2.2) (by decide) h2 hS2 rfl hal), .inl ⟨hne, ?_⟩⟩
      have hn : numR xs a 0 most = (0, a, (lookI xs a).2.2) := by unfold numR; rw [if_neg (by simp), if_neg (fun hh => hne hh.1), if_pos hne]
      rw [hT, hn]
      dsimp only
      rw [raw_er hne, if_pos hne]
    · have he : (lookI xs a).2.2 = 0 := he
      have hg : (lookI xs a).1 > most := hg
      refine ⟨4, RS.pre h1 (R1.set (j := 2) (a2 := a) (er2 := 4) (by decide) h2 hS2 rfl hal), .inl ⟨by decide, ?_⟩⟩
      have hn : numR xs a 0 most = (0, a, 4) := by unfold numR; rw [if_neg (by simp), if_pos ⟨he, hg⟩]
      rw [hT, hn]
      dsimp only
      rw [raw_er (by decide), if_pos (show (4 : Int) ≠ 0 by decide)]
    · have he : (lookI xs a).2.2 = 0 := he
      have hle : ¬ (lookI xs a).1 > most := hle
      have hr := hrg he
      have hp := hen he
      have hn : numR xs a 0 most = ((lookI xs a).1, (lookI xs a).2.1.toNat, 0) := by unfold numR; rw [if_neg (by simp), if_neg (fun hh => hle hh.2), if_neg (fun hh => hh he)]
      refine gNil_some (gLoadB_v (at1 (R1.1.cell (j := 0) rfl)) (gLen_nm R1.2.1 (gNil_some (gLoadB_i (at1 (R1.1.cell (j := 1) rfl)) ?_))))
      have e1 : u64 (i64 (i64 ((xs.length : Int) - a) - (refLk xs a).2.1)) = (xs.length : Int) - (lookI xs a).2.1 := by
        unfold refLk
        rw [if_pos he]
        dsimp only
        rw [i64_id (n := (xs.length : Int) - a) (by omega) (by omega), i64_id (by omega) (by omega), u64_def]; omega
      rw [e1]
      refine gIf_dec (fun hg => gNil_some (gStore_st R1.drew.1 (j := 2) (by simp) rfl rfl fun w2 h2 _ hS2 => ?_)) (fun hng => ?_)
      · have hg : (lookI xs a).1 > (xs.length : Int) - (lookI xs a).2.1 := hg
        refine ⟨3, RS.pre (h1.trans (Ev.drew0 w1)) (R1.drew.set (j := 2) (a2 := a) (er2 := 3) (by decide) h2 hS2 rfl hal), .inl ⟨by decide, ?_⟩⟩
        rw [hT, hn]
        dsimp only
        have hraw : rawR xs (lookI xs a).2.1.toNat 0 (lookI xs a).1 = ([], (lookI xs a).2.1.toNat, 3) := by
          unfold rawR; rw [if_neg (by omega), if_pos (by omega)]
        rw [hraw, if_pos (show (3 : Int) ≠ 0 by decide)]
      · have hng : ¬ (lookI xs a).1 > (xs.length : Int) - (lookI xs a).2.1 := hng
        exact ⟨0, RS.pre (h1.trans (Ev.drew0 w1)) R1.drew.step, .inr ⟨rfl, he, by omega, by omega⟩⟩
  rintro _ w5 ⟨er', g5, hc⟩
  refine gNil_some (gLoad_i (g5.1.1.cell (j := 2) rfl) (gIf_neq (fun hne => ?_) (fun he => ?_)))
  · rcases hc with ⟨_, ht⟩ | ⟨h0, _⟩
    · rw [ht]; exact ⟨_, rfl, g5, ON.nil _ _ _ _⟩
    · exact absurd h0 hne
  · rcases hc with ⟨h0, _⟩ | ⟨_, he0, hle, hlen⟩
    · exact absurd he h0
    subst he
    have hr := hrg he0
    have hp := hen he0
    obtain ⟨v, hv⟩ : ∃ v : Nat, (lookI xs a).1 = v := ⟨(lookI xs a).1.toNat, by omega⟩
    obtain ⟨p, hpp⟩ : ∃ p : Nat, (lookI xs a).2.1 = p := ⟨(lookI xs a).2.1.toNat, by omega⟩
    have hn : numR xs a 0 most = ((v : Int), p, 0) := by unfold numR; rw [if_neg (by simp), if_neg (by omega), if_neg (fun hh => hh he0), hv, hpp]; simp
    have hraw : (rawR xs p 0 (v : Int)).1 = (xs.drop p).take v ∧ (rawR xs p 0 (v : Int)).2 = (p + v, 0) := by
      unfold rawR
      by_cases hv0 : (v : Int) ≤ 0
      · rw [if_pos (.inr hv0)]
        obtain rfl : v = 0 := by omega
        simp
      · rw [if_neg (by omega), if_neg (by omega)]; simp
    have e1 : (refLk xs a).2.1 = (p : Int) - a := by unfold refLk; rw [if_pos he0, hpp]
    have e2 : (refLk xs a).1 = (v : Int) := hv
    rw [hT, hn]
    dsimp only
    rw [hraw.2, if_neg (by simp)]
    rw [e1, e2]
    refine gNil_some (gLoad_i (g5.1.1.cell (j := 1) rfl) (gNil_some (gStore_st g5.1.1 (j := 1) (by simp) rfl rfl fun w6 h6 hs6 hS6 => ?_)))
    have e3 : i64 ((a : Int) + ((p : Int) - a)) = (p : Int) := by rw [i64_id (by omega) (by omega)]; omega
    have hRS : RS w w6 ad b xs (p + v) 0 := g5.trans (g5.1.set (j := 1) (a2 := p + v) (er2 := 0) (by decide) h6 hS6 (by rw [e3, i64_id (n := (v : Int)) (by omega) (by omega), i64_id (by omega) (by omega)]; rfl) (by omega))
    have hR := hRS.1.drew
    refine ⟨fun w' => Rd w' ad b xs (p + v) 0, hR, gNil_some (gLoadB_v (fun w' h => h.1.cell (j := 0) rfl) (gNil_some (gLoadB_i (fun w' h => h.1.cell (j := 1) rfl) ?_)))⟩
    rw [e3]
    refine gSlice_nm hR.2.1 p (p + v) (.inr ⟨_, rfl⟩) (.inr ⟨_, rfl⟩) (by omega) (by omega) fun hs => ?_
    rw [Nat.add_sub_cancel_left] at hs
    refine gApp_on (ON.nil .u8 eB w6.drew w.heap.size) hs (by rw [List.length_take, List.length_drop]; simp; omega) (Nat.le_trans hRS.2.size (Nat.le_refl _)) fun y w7 hy hc7 hm7 => ?_
    have h7 : Ev w6.drew w7 := hc7.mono fun _ _ _ hh => by cases hh
    refine ⟨hR.ev h7, y, rfl, ?_, ?_⟩
    · rw [show (rawR xs p 0 (v : Int)).2.1 = p + v by rw [hraw.2], show (rawR xs p 0 (v : Int)).2.2 = 0 by rw [hraw.2]]
      exact RS.ev hRS ((Ev.drew0 w6).trans h7)
    · rw [hraw.1]
      simpa using hy
end
end Go.Proofs.YtiimlfgjnapgjaaGreatDoorV

/- Sorting entries: insertion, the merge, the whole. -/
namespace Go.Proofs.YtiimlfgjnapgjaaGreatDoorV
open Go Go.RowKit
def lt3 (x y : E3) : Bool := nlt x.1 y.1
theorem wk3 : Wk lt3 := ⟨fun _ _ _ h h' => nle_tr h h', fun _ _ h => nlt_as h⟩
theorem lt3_of {h a k : E3} (h1 : lt3 h a = true) (h2 : lt3 h k = false) : lt3 k a = true := by
  cases hc : lt3 k a with
  | true => rfl
  | false => rw [wk3.tr a k h hc h2] at h1; cases h1
theorem lt3_of' {m h k : E3} (h1 : lt3 m h = true) (h2 : lt3 k h = false) : lt3 m k = true := by
  cases hc : lt3 m k with
  | true => rfl
  | false => rw [wk3.tr h k m h2 hc] at h1; cases h1
theorem down_at {α : Type} (f : Nat → α) (i j : Nat) : down f i j j = f i := by unfold down; rw [if_neg (by omega), if_pos rfl]
theorem down_lt {α : Type} (f : Nat → α) {i j k : Nat} (h : k < j) : down f i j k = f k := by unfold down; rw [if_pos h]
theorem rot_id1 {α : Type} (m b : Nat) (f : Nat → α) : rot m m b f = f := by
  funext k; unfold rot rotS
  repeat' split
  all_goals first | rfl | (congr 1; omega)
theorem rot_id2 {α : Type} (s m : Nat) (f : Nat → α) : rot s m m f = f := by
  funext k; unfold rot rotS
  repeat' split
  all_goals first | rfl | (congr 1; omega)
theorem mid_eq {i j : Int} (p q : Nat) (hi : i = (p : Int)) (hj : j = (q : Int)) (h : p + q ≤ 4611686018427387904) : i64 (iShr .u64 (u64 (i64 (i + j))) 1) = (((p + q) / 2 : Nat) : Int) := by
  subst hi; subst hj
  have h1 : i64 ((p : Int) + q) = ((p + q : Nat) : Int) := by rw [i64_id (by omega) (by omega)]; omega
  rw [h1]
  generalize p + q = s at h ⊢
  have h2 : u64 (s : Int) = (s : Int) := by rw [u64_def]; omega
  rw [h2, show (1 : Int) = ((1 : Nat) : Int) from rfl, iShr_div (by decide) (by omega), show ((2 ^ 1 : Nat) : Int) = 2 from rfl, i64_id (by omega) (by omega)]
  omega
section
variable {w0 w w' : World} {G : List It} {e : TypeId} {v : Value} {n : Nat}
/-- What a sort leaves. -/
def Sorted3 (w0 : World) (G : List It) (e : TypeId) (v : Value) (n a b : Nat) (f : Nat → E3) (e' : Ending) (w' : World) : Prop :=
  e' = .returned (.tuple #[]) ∧ ∃ g, PermOn a b f g ∧ Srt lt3 a b g ∧ Fr w0 w' (fIt e v n g :: G)
theorem insertion_any {f : Nat → E3} (hv : Fr w0 w (fIt e v n f :: G)) (ho : Ok1 f) (a b : Nat) (h1 : a ≤ b) (h2 : b ≤ n) (hn : n ≤ 1000000000000) :
    Calls P n_slices_insertionSortCmpFunc_api_Entry #[v, .int .i64 a, .int .i64 b, byV] w (Sorted3 w0 G e v n a b f) := by
  refine of_slices_insertionSortCmpFunc_api_Entry ⟨fun i w' => ∃ (k : Nat) (g : Nat → E3), i = (k : Int) ∧ a + 1 ≤ k ∧ (k ≤ b ∨ k = a + 1) ∧ Ok1 g ∧ PermOn a b f g ∧ Srt lt3 a k g ∧ Fr w0 w' (fIt e v n g :: G), fun i _ => (b - i).toNat, ?_, ?_⟩
  · exact ⟨a + 1, f, by rw [i64_id (by omega) (by omega)]; omega, by omega, .inr rfl, ho, PermOn.refl _ _ _, fun i j p q r => by omega, hv⟩
  rintro _ i w1 ⟨k, g, rfl, hk1, hk2, hg, hp, hs, g1⟩
  refine gIf_dec (fun hlt => ?_) (fun hge => ?_)
  · have hkb : k < b := by omega
    refine ⟨fun j w' => ∃ q : Nat, j = (q : Int) ∧ a ≤ q ∧ q ≤ k ∧ (∀ r, q ≤ r → r < k → lt3 (g k) (g r) = true) ∧ Fr w0 w' (fIt e v n (down g k q) :: G), fun j _ => j.toNat, ?_, ?_⟩
    · exact ⟨k, rfl, by omega, Nat.le_refl _, fun r _ _ => by omega, by rw [down_start]; exact g1⟩
    rintro _ j w2 ⟨q, rfl, hq1, hq2, hq3, g2⟩
    have hod : Ok1 (down g k q) := hg.perm (down_perm g (a := a) hq1 hq2)
    -- the inner loop's end
    have fin : ∀ w', (q = a ∨ lt3 (g k) (g (q - 1)) = false) → Fr w0 w' (fIt e v n (down g k q) :: G) → ∃ (k' : Nat) (g' : Nat → E3), i64 ((k : Int) + 1) = (k' : Int) ∧ a + 1 ≤ k' ∧ (k' ≤ b ∨ k' = a + 1) ∧ Ok1 g' ∧ PermOn a b f g' ∧ Srt lt3 a k' g' ∧ Fr w0 w' (fIt e v n g' :: G) := fun w' hc g3 =>
      ⟨k + 1, _, by rw [i64_id (by omega) (by omega)]; omega, by omega, .inl (by omega), hod, hp.trans ((down_perm g hq1 hq2).mono (Nat.le_refl _) (by omega)), down_srt wk3 hs hq1 hq2 hq3 hc, g3⟩
    have mfin : ∀ (_ : World), ((b : Int) - i64 ((k : Int) + 1)).toNat < ((b : Int) - (k : Int)).toNat := fun _ => by rw [i64_id (by omega) (by omega)]; omega
    refine ⟨fun w' => a < q ∧ lt3 (g k) (g (q - 1)) = true ∧ Fr w0 w' (fIt e v n (down g k q) :: G), ⟨fun w' => Ev w2.drew w', Ch.refl _ _, ?_⟩, ?_⟩
    · refine gIf_dec (fun hgt => ?_) (fun hle => ?_)
      · have hqa : a < q := by omega
        refine fIdxLdB g2.drew q rfl (by omega) (fun _ h => h) ?_
        rw [i64_id (n := (q : Int) - 1) (by omega) (by omega)]
        refine fIdxLdB g2.drew (q - 1) (by omega) (by omega) (fun _ h => h) ?_
        rw [down_at, down_lt g (show q - 1 < q by omega)]
        refine gCmp (hg _) (hg _) fun w3 h3 => ⟨h3, ?_⟩
        rw [cmpN_lt]
        refine gIf_b (fun hl => ⟨hqa, hl, g2.drew.ev h3⟩) (fun hl => ⟨fin _ (.inr hl) (g2.drew.ev h3), mfin w3⟩)
      · exact ⟨fin _ (.inl (by omega)) g2.drew, mfin w2⟩
    · rintro _ w4 ⟨hqa, hl, g4⟩
      rw [i64_id (n := (q : Int) - 1) (by omega) (by omega)]
      refine gSwap g4 hod q (q - 1) rfl (by omega) (by omega) (by omega) fun w5 g5 => ⟨⟨q - 1, by omega, by omega, by omega, fun r r1 r2 => ?_, ?_⟩, by dsimp only; omega⟩
      · by_cases hr : r = q - 1
        · subst hr; exact hl
        · exact hq3 r (by omega) r2
      · rw [down_step g k q (by omega) hq2] at g5; exact g5
  · exact ⟨rfl, g, hp, hs.sub (Nat.le_refl _) (by omega), g1⟩
theorem symMerge_any : ∀ (N : Nat) {w : World} {f : Nat → E3} (a m b : Nat), b - a ≤ N → Fr w0 w (fIt e v n f :: G) → Ok1 f → a < m → m < b → b ≤ n → n ≤ 1000000000000 → Srt lt3 a m f → Srt lt3 m b f →
    Calls P n_slices_symMergeCmpFunc_api_Entry #[v, .int .i64 a, .int .i64 m, .int .i64 b, byV] w (Sorted3 w0 G e v n a b f)
  | 0, _, _, a, m, b, hN, _, _, h1, h2, _, _, _, _ => by omega
  | N + 1, w, f, a, m, b, hN, hv, ho, h1, h2, h3, hn, s1, s2 => by
    refine of_slices_symMergeCmpFunc_api_Entry ?_
    rw [i64_id (n := (m : Int) - a) (by omega) (by omega), i64_id (n := (b : Int) - m) (by omega) (by omega)]
    refine gIf_eq (fun hone => ?_) (fun hmore => gIf_eq (fun hone => ?_) (fun hmore2 => ?_))
    · have hma : m = a + 1 := by omega
      subst hma
      refine ⟨fun i j w' => ∃ p q : Nat, i = (p : Int) ∧ j = (q : Int) ∧ a + 1 ≤ p ∧ p ≤ q ∧ q ≤ b ∧ (∀ k, a + 1 ≤ k → k < p → lt3 (f k) (f a) = true) ∧ (∀ k, q ≤ k → k < b → lt3 (f k) (f a) = false) ∧ Fr w0 w' (fIt e v n f :: G), fun i j _ => (j - i).toNat, ?_, ?_⟩
      · exact ⟨a + 1, b, rfl, rfl, Nat.le_refl _, by omega, Nat.le_refl _, fun k _ _ => by omega, fun k _ _ => by omega, hv⟩
      rintro _ i j w1 ⟨p, q, rfl, rfl, hp1, hp2, hp3, hl, hr, g1⟩
      refine gIf_dec (fun hlt => ?_) (fun hge => ?_)
      · rw [mid_eq p q rfl rfl (by omega)]
        have hh1 : p ≤ (p + q) / 2 := by omega
        have hh2 : (p + q) / 2 < q := by omega
        generalize (p + q) / 2 = hm at hh1 hh2
        refine ⟨fun w' => Ev w1.drew w', Ch.refl _ _, fIdxLdB g1.drew hm rfl (by omega) (fun _ h => h) (fIdxLdB g1.drew a rfl (by omega) (fun _ h => h) (gCmp (ho _) (ho _) fun w2 h2' => ⟨h2', ?_⟩))⟩
        rw [cmpN_lt, i64_id (n := (hm : Int) + 1) (by omega) (by omega)]
        refine gIf_b (fun hc => ⟨⟨hm + 1, q, by omega, rfl, by omega, by omega, hp3, fun k k1 k2 => ?_, hr, g1.drew.ev h2'⟩, by dsimp only; omega⟩) (fun hc => ⟨⟨p, hm, rfl, rfl, hp1, hh1, by omega, hl, fun k k1 k2 => ?_, g1.drew.ev h2'⟩, by dsimp only; omega⟩)
        · by_cases hk : k = hm
          · subst hk; exact hc
          · exact lt3_of hc (s2 k hm k1 (by omega) (by omega))
        · by_cases hk : k = hm
          · subst hk; exact hc
          · exact wk3.tr _ _ _ hc (s2 hm k (by omega) (by omega) k2)
      · have hpq : p = q := by omega
        subst hpq
        refine ⟨fun k w' => ∃ r : Nat, k = (r : Int) ∧ a ≤ r ∧ r ≤ p - 1 ∧ Fr w0 w' (fIt e v n (up f a r) :: G), fun k _ => (b - k).toNat, ⟨a, rfl, Nat.le_refl _, by omega, by rw [up_start]; exact g1⟩, ?_⟩
        rintro _ k w3 ⟨r, rfl, hr1, hr2, g3⟩
        rw [i64_id (n := (p : Int) - 1) (by omega) (by omega)]
        refine gIf_dec (fun hlt => ?_) (fun hge2 => ?_)
        · have hup : Ok1 (up f a r) := ho.perm (up_perm f (b := b) hr1 (by omega))
          rw [i64_id (n := (r : Int) + 1) (by omega) (by omega)]
          refine gSwap g3 hup r (r + 1) rfl (by omega) (by omega) (by omega) fun w4 g4 => ⟨⟨r + 1, by omega, by omega, by omega, ?_⟩, by dsimp only; omega⟩
          rw [up_step f a r hr1] at g4; exact g4
        · have hrp : r = p - 1 := by omega
          subst hrp
          exact ⟨rfl, _, up_perm f hr1 (by omega), up_srt wk3 s2 hp1 hp3 hl hr, g3⟩
    · have hbm : b = m + 1 := by omega
      subst hbm
      refine ⟨fun i j w' => ∃ p q : Nat, i = (p : Int) ∧ j = (q : Int) ∧ a ≤ p ∧ p ≤ q ∧ q ≤ m ∧ (∀ k, a ≤ k → k < p → lt3 (f m) (f k) = false) ∧ (∀ k, q ≤ k → k < m → lt3 (f m) (f k) = true) ∧ Fr w0 w' (fIt e v n f :: G), fun i j _ => (j - i).toNat, ?_, ?_⟩
      · exact ⟨a, m, rfl, rfl, Nat.le_refl _, by omega, Nat.le_refl _, fun k _ _ => by omega, fun k _ _ => by omega, hv⟩
      rintro _ i j w1 ⟨p, q, rfl, rfl, hp1, hp2, hp3, hl, hr, g1⟩
      refine gIf_dec (fun hlt => ?_) (fun hge => ?_)
      · rw [mid_eq p q rfl rfl (by omega)]
        have hh1 : p ≤ (p + q) / 2 := by omega
        have hh2 : (p + q) / 2 < q := by omega
        generalize (p + q) / 2 = hm at hh1 hh2
        refine ⟨fun w' => Ev w1.drew w', Ch.refl _ _, fIdxLdB g1.drew m rfl (by omega) (fun _ h => h) (fIdxLdB g1.drew hm rfl (by omega) (fun _ h => h) (gCmp (ho _) (ho _) fun w2 h2' => ⟨h2', ?_⟩))⟩
        rw [cmpN_lt, i64_id (n := (hm : Int) + 1) (by omega) (by omega)]
        refine gIf_nb (fun hc => ⟨⟨hm + 1, q, by omega, rfl, by omega, by omega, hp3, fun k k1 k2 => ?_, hr, g1.drew.ev h2'⟩, by dsimp only; omega⟩) (fun hc => ⟨⟨p, hm, rfl, rfl, hp1, hh1, by omega, hl, fun k k1 k2 => ?_, g1.drew.ev h2'⟩, by dsimp only; omega⟩)
        · by_cases hk : k = hm
          · subst hk; exact hc
          · exact wk3.tr _ _ _ (s1 k hm k1 (by omega) (by omega)) hc
        · by_cases hk : k = hm
          · subst hk; exact hc
          · exact lt3_of' hc (s1 hm k (by omega) (by omega) k2)
      · have hpq : p = q := by omega
        subst hpq
        refine ⟨fun k w' => ∃ r : Nat, k = (r : Int) ∧ p ≤ r ∧ r ≤ m ∧ Fr w0 w' (fIt e v n (down f m r) :: G), fun k _ => k.toNat, ⟨m, rfl, hp3, Nat.le_refl _, by rw [down_start]; exact g1⟩, ?_⟩
        rintro _ k w3 ⟨r, rfl, hr1, hr2, g3⟩
        refine gIf_dec (fun hgt => ?_) (fun hle => ?_)
        · have hdn : Ok1 (down f m r) := ho.perm (down_perm f (a := a) (by omega) hr2)
          rw [i64_id (n := (r : Int) - 1) (by omega) (by omega)]
          refine gSwap g3 hdn r (r - 1) rfl (by omega) (by omega) (by omega) fun w4 g4 => ⟨⟨r - 1, by omega, by omega, by omega, ?_⟩, by dsimp only; omega⟩
          rw [down_step f m r (by omega) hr2] at g4; exact g4
        · have hrp : r = p := by omega
          subst hrp
          exact ⟨rfl, _, down_perm f hp1 hp3, down_srt' wk3 s1 hp1 hp3 hl hr, g3⟩
    · rw [mid_eq a b rfl rfl (by omega)]
      have hmid : ∃ mid : Nat, mid = (a + b) / 2 := ⟨_, rfl⟩
      obtain ⟨mid, hmid⟩ := hmid
      have hm1 : a ≤ mid := by omega
      have hm2 : mid ≤ b := by omega
      have hm3 : 2 * mid ≤ a + b := by omega
      have hm4 : a + b ≤ 2 * mid + 1 := by omega
      rw [← hmid]
      clear hmid
      rw [i64_id (n := (mid : Int) + m) (by omega) (by omega), i64_id (n := (mid : Int) + m - 1) (by omega) (by omega)]
      refine ⟨fun s r w' => ∃ s0 r0 : Nat, s = (s0 : Int) ∧ r = (r0 : Int) ∧ a ≤ s0 ∧ s0 ≤ r0 ∧ r0 ≤ m ∧ r0 ≤ mid ∧ mid + m ≤ s0 + b ∧ (s0 = a ∨ s0 + b = mid + m) ∧ (r0 = m ∨ r0 = mid) ∧ Fr w0 w' (fIt e v n f :: G), ?_, ?_⟩
      · refine gIf_dec (fun hgt => ?_) (fun hle => ?_)
        · exact ⟨mid + m - b, mid, by rw [i64_id (by omega) (by omega)]; omega, rfl, by omega, by omega, by omega, Nat.le_refl _, by omega, .inr (by omega), .inr rfl, hv⟩
        · exact ⟨a, m, rfl, rfl, Nat.le_refl _, by omega, Nat.le_refl _, by omega, by omega, .inl rfl, .inl rfl, hv⟩
      rintro _ s r w11 ⟨s0, r0, rfl, rfl, c1, c2, c3, c4, c5, c6, c7, g11⟩
      have up1 : ∀ x y, a ≤ x → x < y → y < m → lt3 (f y) (f x) = false := s1
      refine ⟨fun i j w' => ∃ p q : Nat, i = (p : Int) ∧ j = (q : Int) ∧ s0 ≤ p ∧ p ≤ q ∧ q ≤ r0 ∧ (∀ c, s0 ≤ c → c < p → lt3 (f (mid + m - 1 - c)) (f c) = false) ∧ (∀ c, q ≤ c → c < r0 → lt3 (f (mid + m - 1 - c)) (f c) = true) ∧ Fr w0 w' (fIt e v n f :: G), fun i j _ => (j - i).toNat, ?_, ?_⟩
      · exact ⟨s0, r0, rfl, rfl, Nat.le_refl _, c2, Nat.le_refl _, fun c _ _ => by omega, fun c _ _ => by omega, g11⟩
      rintro _ i j w12 ⟨p, q, rfl, rfl, hp1, hp2, hp3, hl, hr, g12⟩
      refine gIf_dec (fun hlt => ?_) (fun hge => ?_)
      · rw [mid_eq p q rfl rfl (by omega)]
        have hh1 : p ≤ (p + q) / 2 := by omega
        have hh2 : (p + q) / 2 < q := by omega
        generalize (p + q) / 2 = hm at hh1 hh2
        rw [i64_id (n := (mid : Int) + m - 1 - hm) (by omega) (by omega)]
        refine ⟨fun w' => Ev w12.drew w', Ch.refl _ _, fIdxLdB g12.drew (mid + m - 1 - hm) (by omega) (by omega) (fun _ h => h) (fIdxLdB g12.drew hm rfl (by omega) (fun _ h => h) (gCmp (ho _) (ho _) fun w2 h2' => ⟨h2', ?_⟩))⟩
        rw [cmpN_lt, i64_id (n := (hm : Int) + 1) (by omega) (by omega)]
        refine gIf_nb (fun hc => ⟨⟨hm + 1, q, by omega, rfl, by omega, by omega, hp3, fun k k1 k2 => ?_, hr, g12.drew.ev h2'⟩, by dsimp only; omega⟩) (fun hc => ⟨⟨p, hm, rfl, rfl, hp1, hh1, by omega, hl, fun k k1 k2 => ?_, g12.drew.ev h2'⟩, by dsimp only; omega⟩)
        · by_cases hk : k = hm
          · subst hk; exact hc
          · exact wk3.tr _ _ _ (s1 k hm (by omega) (by omega) (by omega)) (wk3.tr _ _ _ hc (s2 _ _ (by omega) (by omega) (by omega)))
        · by_cases hk : k = hm
          · subst hk; exact hc
          · have e1 := s1 hm k (by omega) (by omega) (by omega)
            have e2 := s2 (mid + m - 1 - k) (mid + m - 1 - hm) (by omega) (by omega) (by omega)
            exact lt3_of (lt3_of' hc e1) e2
      · have hpq : p = q := by omega
        subst hpq
        rw [i64_id (n := (mid : Int) + m - p) (by omega) (by omega)]
        have hend : ((mid : Int) + m - p) = ((mid + m - p : Nat) : Int) := by omega
        rw [hend]
        obtain ⟨q1, q2, q3, q4, q5⟩ := merge_parts (mid := mid) (s := p) wk3 s1 s2 hm1 hm2 (by omega) (by omega) (by omega) (by omega) (fun c d1 d2 d3 => hl c (by omega) d2) (fun d1 d2 => hr p (Nat.le_refl _) (by omega))
        have hrp : PermOn a b f (rot p m (mid + m - p) f) := (rot_perm f (by omega) (by omega)).mono (by omega) (by omega)
        have hro : Ok1 (rot p m (mid + m - p) f) := ho.perm hrp
        refine ⟨fun w' => Fr w0 w' (fIt e v n (rot p m (mid + m - p) f) :: G), ?_, ?_⟩
        · refine gIf_dec (fun ha => gIf_dec (fun hb => ?_) (fun hb => ?_)) (fun ha => ?_)
          · exact gCall_u (rotate_any g12 ho p m (mid + m - p) byV (by omega) (by omega) (by omega) hn) fun w14 g14 => g14
          · have : mid + m - p = m := by omega
            rw [this, rot_id2]; exact g12
          · have : p = m := by omega
            subst this; rw [rot_id1]; exact g12
        intro _ w15 g15
        generalize rot p m (mid + m - p) f = F at *
        refine ⟨fun w' => ∃ g, PermOn a mid F g ∧ Srt lt3 a mid g ∧ Ok1 g ∧ Fr w0 w' (fIt e v n g :: G), ?_, ?_⟩
        · refine gIf_dec (fun ha => gIf_dec (fun hb => ?_) (fun hb => ?_)) (fun ha => ?_)
          · exact gCall_u (symMerge_any N a p mid (by omega) g15 hro (by omega) (by omega) (by omega) hn q1 q2) fun w16 ⟨g, x1, x2, x3⟩ => ⟨g, x1, x2, hro.perm x1, x3⟩
          · have : p = mid := by omega
            subst this; exact ⟨F, PermOn.refl _ _ _, q1, hro, g15⟩
          · have : p = a := by omega
            subst this; exact ⟨F, PermOn.refl _ _ _, q2, hro, g15⟩
        rintro _ w17 ⟨g, x1, x2, x3, g17⟩
        have y1 : Srt lt3 mid (mid + m - p) g := q3.out x1 (.inr (Nat.le_refl _))
        have y2 : Srt lt3 (mid + m - p) b g := q4.out x1 (.inr (by omega))
        have hp0 : PermOn a b f g := hrp.trans (x1.mono (Nat.le_refl _) hm2)
        have fin : ∀ w' h, PermOn mid b g h → Srt lt3 mid b h → Fr w0 w' (fIt e v n h :: G) → ∃ h, PermOn a b f h ∧ Srt lt3 a b h ∧ Fr w0 w' (fIt e v n h :: G) := fun w' h z1 z2 z3 => ⟨h, hp0.trans (z1.mono hm1 (Nat.le_refl _)), merge_join q5 x1 x2 z1 z2, z3⟩
        refine gIf_dec (fun ha => gIf_dec (fun hb => ?_) (fun hb => ?_)) (fun ha => ?_)
        · exact gCall_u (symMerge_any N mid (mid + m - p) b (by omega) g17 x3 (by omega) (by omega) h3 hn y1 y2) fun w18 ⟨h, z1, z2, z3⟩ => ⟨rfl, fin _ h z1 z2 z3⟩
        · have : mid + m - p = b := by omega
          rw [this] at y1
          exact ⟨rfl, fin _ g (PermOn.refl _ _ _) y1 g17⟩
        · have : mid + m - p = mid := by omega
          rw [this] at y2
          exact ⟨rfl, fin _ g (PermOn.refl _ _ _) y2 g17⟩
theorem dvd_step {s a c : Nat} (ha : s ∣ a) (hc : s ∣ c) (h : c < a) : c + s ≤ a := by
  have := Nat.le_of_dvd (by omega) (Nat.dvd_sub ha hc); omega
theorem stable_any {f : Nat → E3} (hv : Fr w0 w (fIt e v n f :: G)) (ho : Ok1 f) (hn : n ≤ 100000000000) :
    Calls P n_slices_stableCmpFunc_api_Entry #[v, .int .i64 n, byV] w (Sorted3 w0 G e v n 0 n f) := by
  refine of_slices_stableCmpFunc_api_Entry ⟨fun a b w' => ∃ (p : Nat) (g : Nat → E3), a = (p : Int) ∧ b = ((p + 20 : Nat) : Int) ∧ p ≤ n ∧ 20 ∣ p ∧ (∀ c, 20 ∣ c → c + 20 ≤ p → Srt lt3 c (c + 20) g) ∧ Ok1 g ∧ PermOn 0 n f g ∧ Fr w0 w' (fIt e v n g :: G), fun a _ _ => (n - a).toNat, ?_, ?_⟩
  · exact ⟨0, f, rfl, rfl, Nat.zero_le _, ⟨0, rfl⟩, fun c _ h => by omega, ho, PermOn.refl _ _ _, hv⟩
  rintro _ a b w1 ⟨p, g, rfl, rfl, hp, hd, hs, hg, hpm, g1⟩
  refine gIf_dec (fun hle => ?_) (fun hgt => ?_)
  · refine gCall_u (insertion_any g1 hg p (p + 20) (by omega) (by omega) (by omega)) fun w2 ⟨h, x1, x2, g2⟩ => ?_
    refine ⟨⟨p + 20, h, rfl, by rw [i64_id (by omega) (by omega)]; omega, by omega, Nat.dvd_add hd ⟨1, rfl⟩, fun c c1 c2 => ?_, hg.perm x1, hpm.trans (x1.mono (Nat.zero_le _) (by omega)), g2⟩, by dsimp only; omega⟩
    by_cases hc : c = p
    · subst hc; exact x2
    · have := dvd_step hd c1 (by omega)
      exact (hs c c1 this).out x1 (.inl this)
  refine gCall_u (insertion_any g1 hg p n hp (Nat.le_refl _) (by omega)) fun w3 ⟨h, x1, x2, g3⟩ => ?_
  have hh : Ok1 h := hg.perm x1
  have hpm2 : PermOn 0 n f h := hpm.trans (x1.mono (Nat.zero_le _) (Nat.le_refl _))
  have hb : ∀ c, 20 ∣ c → Srt lt3 c (min (c + 20) n) h := fun c c1 => by
    by_cases hc : c < p
    · have := dvd_step hd c1 hc
      exact ((hs c c1 this).out x1 (.inl this)).sub (Nat.le_refl _) (by omega)
    · by_cases hc2 : c = p
      · subst hc2; exact x2.sub (Nat.le_refl _) (by omega)
      · have := dvd_step c1 hd (by omega)
        intro i j i1 i2 i3; omega
  clear x1 x2 g1 hs hg
  refine ⟨fun bs w' => ∃ (s : Nat) (g : Nat → E3), bs = (s : Int) ∧ 20 ≤ s ∧ s ≤ 2 * n + 20 ∧ (∀ c, s ∣ c → Srt lt3 c (min (c + s) n) g) ∧ Ok1 g ∧ PermOn 0 n f g ∧ Fr w0 w' (fIt e v n g :: G), fun bs _ => (n - bs).toNat, ⟨20, h, rfl, Nat.le_refl _, by omega, hb, hh, hpm2, g3⟩, ?_⟩
  clear hb hh hpm2 g3
  rintro _ bs w4 ⟨s, g, rfl, hs20, hs2, hb, hg, hpm, g4⟩
  refine gIf_dec (fun hlt => ?_) (fun hge => ?_)
  · rw [i64_id (n := 2 * (s : Int)) (by omega) (by omega), i64_id (n := (s : Int) * 2) (by omega) (by omega)]
    have h2s : s ∣ 2 * s := ⟨2, by omega⟩
    refine ⟨fun a b w' => ∃ (p : Nat) (g : Nat → E3), a = (p : Int) ∧ b = ((p + 2 * s : Nat) : Int) ∧ p ≤ n ∧ 2 * s ∣ p ∧ (∀ c, 2 * s ∣ c → c + 2 * s ≤ p → Srt lt3 c (c + 2 * s) g) ∧ (∀ c, s ∣ c → p ≤ c → Srt lt3 c (min (c + s) n) g) ∧ Ok1 g ∧ PermOn 0 n f g ∧ Fr w0 w' (fIt e v n g :: G), fun a _ _ => (n - a).toNat, ?_, ?_⟩
    · exact ⟨0, g, rfl, by omega, Nat.zero_le _, ⟨0, rfl⟩, fun c _ h => by omega, fun c c1 _ => hb c c1, hg, hpm, g4⟩
    rintro _ a b w5 ⟨p, k, rfl, rfl, hp, hd, hdone, htodo, hk, hpm2, g5⟩
    have hsp : s ∣ p := Nat.dvd_trans h2s hd
    have t1 := htodo p hsp (Nat.le_refl _)
    have t2 := htodo (p + s) (Nat.dvd_add hsp (Nat.dvd_refl _)) (by omega)
    rw [i64_id (n := (p : Int) + s) (by omega) (by omega), show ((p : Int) + s) = ((p + s : Nat) : Int) by omega]
    refine gIf_dec (fun hle => ?_) (fun hgt => ?_)
    · refine gCall_u (symMerge_any _ p (p + s) (p + 2 * s) (Nat.le_refl _) g5 hk (by omega) (by omega) (by omega) (by omega) (t1.sub (Nat.le_refl _) (by omega)) (t2.sub (Nat.le_refl _) (by omega))) fun w6 ⟨h, x1, x2, g6⟩ => ?_
      refine ⟨⟨p + 2 * s, h, rfl, by rw [i64_id (by omega) (by omega)]; omega, by omega, Nat.dvd_add hd (Nat.dvd_refl _), fun c c1 c2 => ?_, fun c c1 c2 => (htodo c c1 (by omega)).out x1 (.inr c2), hk.perm x1, hpm2.trans (x1.mono (Nat.zero_le _) (by omega)), g6⟩, by dsimp only; omega⟩
      by_cases hc : c = p
      · subst hc; exact x2
      · have := dvd_step hd c1 (by omega)
        exact (hdone c c1 this).out x1 (.inl this)
    · have step : ∀ w' h, PermOn p n k h → Srt lt3 p n h → Fr w0 w' (fIt e v n h :: G) → (∃ (s' : Nat) (g : Nat → E3), (s : Int) * 2 = (s' : Int) ∧ 20 ≤ s' ∧ s' ≤ 2 * n + 20 ∧ (∀ c, s' ∣ c → Srt lt3 c (min (c + s') n) g) ∧ Ok1 g ∧ PermOn 0 n f g ∧ Fr w0 w' (fIt e v n g :: G)) ∧ ((n : Int) - (s : Int) * 2).toNat < ((n : Int) - (s : Int)).toNat := fun w' h x1 x2 x3 => by
        refine ⟨⟨2 * s, h, by omega, by omega, by omega, fun c c1 => ?_, hk.perm x1, hpm2.trans (x1.mono (Nat.zero_le _) (Nat.le_refl _)), x3⟩, by omega⟩
        by_cases hc : c < p
        · have := dvd_step hd c1 hc
          exact ((hdone c c1 this).out x1 (.inl this)).sub (Nat.le_refl _) (by omega)
        · by_cases hc2 : c = p
          · subst hc2; exact x2.sub (Nat.le_refl _) (by omega)
          · have := dvd_step c1 hd (by omega)
            intro i j i1 i2 i3; omega
      refine gIf_dec (fun hmn => ?_) (fun hmn => ?_)
      · exact gCall_u (symMerge_any _ p (p + s) n (Nat.le_refl _) g5 hk (by omega) (by omega) (Nat.le_refl _) (by omega) (t1.sub (Nat.le_refl _) (by omega)) (t2.sub (Nat.le_refl _) (by omega))) fun w7 ⟨h, x1, x2, g7⟩ => step _ h x1 x2 g7
      · exact step _ k (PermOn.refl _ _ _) (t1.sub (Nat.le_refl _) (by omega)) g5
  · have := hb 0 ⟨0, rfl⟩
    exact ⟨rfl, g, hpm, this.sub (Nat.le_refl _) (by omega), g4⟩
/-- slices.SortStableFunc: the same entries, by rising names. -/
theorem SortStable_any {us : List E3} (hv : Fr w0 w (rIt e 2 v us.length (cells3 us) :: G)) (ho : ∀ u ∈ us, u.2.1.oneCell' = true) (hn : us.length ≤ 100000000000) :
    Calls P n_slices_SortStableFunc_api_Entry_api_Entry #[v, byV] w (fun e' w' => e' = .returned (.tuple #[]) ∧ ∃ us' : List E3, us'.Perm us ∧ us'.Pairwise (fun x y => nlt y.1 x.1 = false) ∧ Fr w0 w' (rIt e 2 v us'.length (cells3 us') :: G)) := by
  refine of_slices_SortStableFunc_api_Entry_api_Entry (gLen_slv (hv.row 0 rfl) ?_)
  have hl := lst_of us
  obtain ⟨f, hf⟩ : ∃ f : Nat → E3, f = fun i => us.getD i default := ⟨_, rfl⟩
  rw [← hf] at hl
  have hok : Ok1 f := fun k => by
    rw [hf]; dsimp only
    by_cases hk : k < us.length
    · rw [List.getD_eq_getElem?_getD, List.getElem?_eq_getElem hk]; exact ho _ (List.getElem_mem hk)
    · rw [List.getD_eq_getElem?_getD, List.getElem?_eq_none (by omega)]; rfl
  have hv' : Fr w0 w (fIt e v us.length f :: G) := by unfold fIt; rw [← hl]; exact hv
  refine gCall_u (stable_any hv' hok hn) fun w1 ⟨g, x1, x2, g1⟩ => ⟨rfl, lst us.length g, ?_, ?_, ?_⟩
  · have := x1.perm
    exact this.trans (by rw [show (List.range us.length).map f = lst us.length f from rfl, ← hl])
  · unfold lst
    rw [List.pairwise_map]
    refine List.Pairwise.imp_of_mem ?_ (List.pairwise_lt_range (n := us.length))
    intro i j hi hj hij
    exact x2 i j (Nat.zero_le _) hij (List.mem_range.1 hj)
  · rw [lst_len]; exact g1
end
end Go.Proofs.YtiimlfgjnapgjaaGreatDoorV
