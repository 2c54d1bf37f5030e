/- Names: their order, lists of entries by rising names, which names may be. No program in sight. -/
import Derived.Test.YtdknadlkadoloaaDoorVSortP
import Derived.Test.YtdknadlkadoloaaDoorVNodes6
import Derived.Lib.Bytealg
namespace Go.Proofs.YtdknadlkadoloaaDoorV
open Go Go.RowKit
/-! ### The order of strings -/
theorem bl_irr : ∀ a : List UInt8, Op.bytesLess a a = false
  | [] => rfl
  | a :: x => by simp [Op.bytesLess, bl_irr x, UInt8.lt_irrefl]
theorem bl_as : ∀ {a b : List UInt8}, Op.bytesLess a b = true → Op.bytesLess b a = false
  | _, [], h => by simp [Op.bytesLess] at h
  | [], b :: y, _ => by simp [Op.bytesLess]
  | a :: x, b :: y, h => by
    simp only [Op.bytesLess, Bool.or_eq_true, decide_eq_true_eq, Bool.and_eq_true, beq_iff_eq] at h
    simp only [Op.bytesLess, Bool.or_eq_false_iff, decide_eq_false_iff_not, Bool.and_eq_false_iff, beq_eq_false_iff_ne]
    rcases h with h | ⟨rfl, h⟩
    · exact ⟨UInt8.lt_asymm h, .inl fun e => by subst e; exact UInt8.lt_irrefl _ h⟩
    · exact ⟨UInt8.lt_irrefl _, .inr (bl_as h)⟩
theorem bl_tri : ∀ {a b : List UInt8}, Op.bytesLess a b = false → Op.bytesLess b a = false → a = b
  | [], [], _, _ => rfl
  | [], b :: y, h, _ => by simp [Op.bytesLess] at h
  | a :: x, [], _, h => by simp [Op.bytesLess] at h
  | a :: x, b :: y, h, h' => by
    simp only [Op.bytesLess, Bool.or_eq_false_iff, decide_eq_false_iff_not, Bool.and_eq_false_iff, beq_eq_false_iff_ne] at h h'
    have e : a = b := UInt8.le_antisymm (UInt8.not_lt.1 h'.1) (UInt8.not_lt.1 h.1)
    subst e
    rcases h.2 with h2 | h2
    · exact absurd rfl h2
    rcases h'.2 with h3 | h3
    · exact absurd rfl h3
    rw [bl_tri h2 h3]
theorem bl_tr : ∀ {a b c : List UInt8}, Op.bytesLess a b = true → Op.bytesLess b c = true → Op.bytesLess a c = true
  | _, _, [], _, h => by simp [Op.bytesLess] at h
  | _, [], c :: z, h, _ => by simp [Op.bytesLess] at h
  | [], b :: y, c :: z, _, _ => by simp [Op.bytesLess]
  | a :: x, b :: y, c :: z, h, h' => by
    simp only [Op.bytesLess, Bool.or_eq_true, decide_eq_true_eq, Bool.and_eq_true, beq_iff_eq] at h h' ⊢
    rcases h with h | ⟨rfl, h⟩
    · rcases h' with h' | ⟨rfl, h'⟩
      · exact .inl (UInt8.lt_trans h h')
      · exact .inl h
    · rcases h' with h' | ⟨rfl, h'⟩
      · exact .inl h'
      · exact .inr ⟨rfl, bl_tr h h'⟩
theorem bl_cmp : ∀ a b : List UInt8, Lib.compareBytes a b = if Op.bytesLess a b then -1 else if Op.bytesLess b a then 1 else 0
  | [], [] => rfl
  | [], b :: y => by simp [Op.bytesLess, Lib.compareBytes]
  | a :: x, [] => by simp [Op.bytesLess, Lib.compareBytes]
  | a :: x, b :: y => by
    rw [Lib.compareBytes, bl_cmp x y]
    by_cases h1 : a < b
    · simp [Op.bytesLess, h1]
    · by_cases h2 : b < a
      · have : a ≠ b := fun e => h1 (e ▸ h2)
        simp [Op.bytesLess, h1, h2, this]
      · have e : a = b := UInt8.le_antisymm (UInt8.not_lt.1 h2) (UInt8.not_lt.1 h1)
        subst e
        simp [Op.bytesLess, UInt8.lt_irrefl]
/-- One name is less than another. -/
def nlt (a b : ByteArray) : Bool := Op.bytesLess a.data.toList b.data.toList
theorem nlt_irr (a : ByteArray) : nlt a a = false := bl_irr _
theorem nlt_as {a b : ByteArray} (h : nlt a b = true) : nlt b a = false := bl_as h
theorem nlt_tr {a b c : ByteArray} (h : nlt a b = true) (h' : nlt b c = true) : nlt a c = true := bl_tr h h'
theorem nlt_tri {a b : ByteArray} (h : nlt a b = false) (h' : nlt b a = false) : a = b := by
  have := bl_tri h h'
  obtain ⟨⟨a⟩⟩ := a; obtain ⟨⟨b⟩⟩ := b
  simpa using this
theorem nle_tr {a b c : ByteArray} (h : nlt b a = false) (h' : nlt c b = false) : nlt c a = false := by
  cases hc : nlt c a with
  | false => rfl
  | true =>
    cases hb : nlt b c with
    | true => rw [nlt_tr hb hc] at h; cases h
    | false =>
      have := nlt_tri h' hb
      subst this; rw [hc] at h; cases h
theorem nlt_le {a b c : ByteArray} (h : nlt a b = true) (h' : nlt c b = false) : nlt a c = true := by
  cases hc : nlt a c with
  | true => rfl
  | false =>
    rw [nle_tr h' hc] at h; cases h
theorem ncmp (a b : ByteArray) : Lib.compareBytes a.data.toList b.data.toList = if nlt a b then -1 else if nlt b a then 1 else 0 := bl_cmp _ _
theorem ncmp_lt (a b : ByteArray) : decide (Lib.compareBytes a.data.toList b.data.toList < 0) = nlt a b := by
  rw [ncmp]
  cases h : nlt a b
  · cases nlt b a <;> rfl
  · rfl
theorem ncmp_eq (a b : ByteArray) : (Lib.compareBytes a.data.toList b.data.toList == 0) = decide (a = b) := by
  rw [ncmp]
  cases h : nlt a b
  · cases h2 : nlt b a
    · rw [nlt_tri h h2]; simp
    · have : a ≠ b := fun e => by subst e; rw [h] at h2; cases h2
      simp [this]
  · have : a ≠ b := fun e => by subst e; rw [nlt_irr] at h; cases h
    simp [this]
/-! ### Entries -/
abbrev En := ByteArray × List Int
/-- By rising names, none twice. -/
def Up (l : List En) : Prop := l.Pairwise fun x y => nlt x.1 y.1 = true
/-- By rising names. -/
def Upw (l : List En) : Prop := l.Pairwise fun x y => nlt y.1 x.1 = false
theorem Up.weak {l : List En} (h : Up l) : Upw l := List.Pairwise.imp (fun h => nlt_as h) h
/-- Where a name stands, or would stand. -/
def atN : List En → ByteArray → Nat
  | [], _ => 0
  | x :: l, n => if nlt x.1 n then atN l n + 1 else 0
theorem atN_le : ∀ (l : List En) (n : ByteArray), atN l n ≤ l.length
  | [], _ => Nat.le_refl _
  | x :: l, n => by have := atN_le l n; unfold atN; split <;> simp <;> omega
theorem atN_lt : ∀ (l : List En) (n : ByteArray) (x : En), x ∈ l.take (atN l n) → nlt x.1 n = true
  | [], _, _, h => by simp at h
  | y :: l, n, x, h => by
    unfold atN at h
    split at h
    · rename_i hy
      rw [List.take_succ_cons] at h
      rcases List.mem_cons.1 h with rfl | h
      · exact hy
      · exact atN_lt l n x h
    · simp at h
theorem atN_ge : ∀ {l : List En} {n : ByteArray} (_ : Upw l) (x : En), x ∈ l.drop (atN l n) → nlt x.1 n = false
  | [], _, _, _, h => by simp at h
  | y :: l, n, hu, x, h => by
    unfold atN at h
    split at h
    · rw [List.drop_succ_cons] at h
      exact atN_ge (List.pairwise_cons.1 hu).2 x h
    · rename_i hy
      have hy : nlt y.1 n = false := by simpa using hy
      rw [List.drop_zero] at h
      rcases List.mem_cons.1 h with rfl | h
      · exact hy
      · exact nle_tr hy ((List.pairwise_cons.1 hu).1 x h)
theorem atN_get {l : List En} {n : ByteArray} {x : En} (h : l[atN l n]? = some x) : nlt x.1 n = false := by
  induction l with
  | nil => simp at h
  | cons y l ih =>
    unfold atN at h
    split at h
    · exact ih (by simpa using h)
    · rename_i hy
      simp at h; subst h; simpa using hy
/-- Behind the first k all are as great, ahead of it less: k is the place. -/
theorem atN_eq {l : List En} {n : ByteArray} : ∀ {k : Nat}, k ≤ l.length → (∀ i x, i < k → l[i]? = some x → nlt x.1 n = true) → (∀ x, l[k]? = some x → nlt x.1 n = false) → atN l n = k := by
  induction l with
  | nil => intro k hk _ _; simp at hk; subst hk; rfl
  | cons y l ih =>
    intro k hk h1 h2
    cases k with
    | zero => unfold atN; rw [if_neg (by rw [h2 y rfl]; decide)]
    | succ k =>
      unfold atN
      rw [if_pos (h1 0 y (by omega) rfl), ih (k := k) (by simpa using hk) (fun i x hi hx => h1 (i + 1) x (by omega) (by simpa using hx)) (fun x hx => h2 x (by simpa using hx))]
/-- The name that stands there. -/
def hasN (l : List En) (n : ByteArray) : Bool := match l[atN l n]? with
  | some x => decide (x.1 = n)
  | none => false
theorem hasN_iff {l : List En} {n : ByteArray} (hu : Upw l) : hasN l n = true ↔ n ∈ l.map (·.1) := by
  unfold hasN
  constructor
  · intro h
    split at h
    · rename_i x hx
      exact List.mem_map.2 ⟨x, List.mem_of_getElem? hx, of_decide_eq_true h⟩
    · cases h
  · intro h
    obtain ⟨x, hx, rfl⟩ := List.mem_map.1 h
    have hd : x ∈ l.drop (atN l x.1) := by
      rw [← List.take_append_drop (atN l x.1) l] at hx
      rcases List.mem_append.1 hx with hx | hx
      · have := atN_lt l _ x hx; rw [nlt_irr] at this; cases this
      · exact hx
    cases hy : l[atN l x.1]? with
    | none =>
      rw [List.drop_of_length_le (List.getElem?_eq_none_iff.1 hy)] at hd; cases hd
    | some y =>
      have h1 := atN_get hy
      have h2 : nlt x.1 y.1 = false := by
        have hlt := (List.getElem?_eq_some_iff.1 hy).1
        rw [List.drop_eq_getElem_cons hlt] at hd
        have he : l[atN l x.1] = y := (List.getElem?_eq_some_iff.1 hy).2
        rw [he] at hd
        rcases List.mem_cons.1 hd with rfl | hd
        · exact nlt_irr _
        · have hp : Upw (l.drop (atN l x.1)) := hu.sublist (List.drop_sublist _ _)
          rw [List.drop_eq_getElem_cons hlt, he] at hp
          exact (List.pairwise_cons.1 hp).1 x hd
      exact decide_eq_true (nlt_tri h1 h2)
/-- An entry is laid ahead of the first that is not less. -/
def insN (l : List En) (x : En) : List En := l.take (atN l x.1) ++ x :: l.drop (atN l x.1)
/-- An entry in the place of the one of its name, or laid in. -/
def putN (l : List En) (x : En) : List En := l.take (atN l x.1) ++ x :: (if hasN l x.1 then l.drop (atN l x.1 + 1) else l.drop (atN l x.1))
def findN (l : List En) (n : ByteArray) : Int := if hasN l n then (atN l n : Int) else -1
theorem insN_up {l : List En} {x : En} (h : Upw l) : Upw (insN l x) := by
  unfold insN Upw
  rw [List.pairwise_append]
  refine ⟨h.sublist (List.take_sublist _ _), List.pairwise_cons.2 ⟨fun y hy => atN_ge h y hy, h.sublist (List.drop_sublist _ _)⟩, fun a ha b hb => ?_⟩
  have h1 := atN_lt l _ a ha
  rcases List.mem_cons.1 hb with rfl | hb
  · exact nlt_as h1
  · exact nlt_as (nlt_le h1 (atN_ge h b hb))
theorem insN_perm (l : List En) (x : En) : (insN l x).Perm (x :: l) := by
  unfold insN
  exact List.perm_middle.trans (by rw [List.take_append_drop])
/-- Sorted. -/
def srtN (l : List En) : List En := l.foldl insN []
theorem srt_fold : ∀ (l a : List En), Upw a → Upw (l.foldl insN a) ∧ (l.foldl insN a).Perm (a ++ l)
  | [], a, h => ⟨h, by simp⟩
  | x :: l, a, h => by
    obtain ⟨h1, h2⟩ := srt_fold l (insN a x) (insN_up h)
    exact ⟨h1, h2.trans (((insN_perm a x).append_right l).trans List.perm_middle.symm)⟩
theorem srtN_up (l : List En) : Upw (srtN l) := (srt_fold l [] List.Pairwise.nil).1
theorem srtN_perm (l : List En) : (srtN l).Perm l := by have := (srt_fold l [] List.Pairwise.nil).2; rw [List.nil_append] at this; exact this
theorem Upw.up {l : List En} (h : Upw l) (hn : (l.map (·.1)).Nodup) : Up l := by
  have hn := List.nodup_iff_pairwise_ne.1 hn
  rw [List.pairwise_map] at hn
  exact List.Pairwise.imp₂ (fun {a b} h1 h2 => by
    cases hc : nlt a.1 b.1 with
    | true => rfl
    | false => exact absurd (nlt_tri hc h1) h2) h hn
theorem Up.nodup {l : List En} (h : Up l) : (l.map (·.1)).Nodup := by
  refine List.nodup_iff_pairwise_ne.2 ?_
  rw [List.pairwise_map]
  exact List.Pairwise.imp (fun {a b} h1 e => by rw [e, nlt_irr] at h1; cases h1) h
/-- Rising lists of the same entries are the same. -/
theorem Up.ext : ∀ {a b : List En}, Up a → Up b → (∀ x, x ∈ a ↔ x ∈ b) → a = b
  | [], [], _, _, _ => rfl
  | [], y :: b, _, _, h => by have := (h y).2 (by simp); cases this
  | x :: a, [], _, _, h => by have := (h x).1 (by simp); cases this
  | x :: a, y :: b, ha, hb, h => by
    obtain ⟨ha1, ha2⟩ := List.pairwise_cons.1 ha
    obtain ⟨hb1, hb2⟩ := List.pairwise_cons.1 hb
    have e : x = y := by
      rcases List.mem_cons.1 ((h x).1 (by simp)) with e | hx
      · exact e
      rcases List.mem_cons.1 ((h y).2 (by simp)) with e | hy
      · exact e.symm
      have h1 := hb1 x hx
      have h2 := ha1 y hy
      rw [nlt_as h1] at h2; cases h2
    subst e
    congr 1
    refine Up.ext ha2 hb2 fun z => ⟨fun hz => ?_, fun hz => ?_⟩
    · rcases List.mem_cons.1 ((h z).1 (by simp [hz])) with rfl | hz'
      · have := ha1 z hz; rw [nlt_irr] at this; cases this
      · exact hz'
    · rcases List.mem_cons.1 ((h z).2 (by simp [hz])) with rfl | hz'
      · have := hb1 z hz; rw [nlt_irr] at this; cases this
      · exact hz'
theorem up_eq_srt {a l : List En} (ha : Up a) (hp : a.Perm l) : a = srtN l :=
  Up.ext ha ((srtN_up l).up (((srtN_perm l).trans hp.symm).map (·.1) |>.nodup_iff.2 ha.nodup)) fun x => by rw [hp.mem_iff, (srtN_perm l).mem_iff]
theorem putN_up {l : List En} {x : En} (h : Up l) : Up (putN l x) := by
  unfold putN Up
  have hd : ∀ y ∈ (if hasN l x.1 then l.drop (atN l x.1 + 1) else l.drop (atN l x.1)), nlt x.1 y.1 = true := fun y hy => by
    have hy' : y ∈ l.drop (atN l x.1) := by
      split at hy
      · rw [Nat.add_comm, ← List.drop_drop] at hy; exact List.mem_of_mem_drop (by rw [List.drop_drop, Nat.add_comm, ← List.drop_drop]; exact hy)
      · exact hy
    have h1 := atN_ge h.weak y hy'
    cases hc : nlt x.1 y.1 with
    | true => rfl
    | false =>
      have e : y.1 = x.1 := nlt_tri h1 hc
      have hh : hasN l x.1 = true := (hasN_iff h.weak).2 (List.mem_map.2 ⟨y, List.mem_of_mem_drop hy', e⟩)
      rw [if_pos hh] at hy
      unfold hasN at hh
      split at hh
      · rename_i z hz
        have e2 := of_decide_eq_true hh
        have hlt := (List.getElem?_eq_some_iff.1 hz).1
        have he : l[atN l x.1] = z := (List.getElem?_eq_some_iff.1 hz).2
        have hp : Up (l.drop (atN l x.1)) := h.sublist (List.drop_sublist _ _)
        rw [List.drop_eq_getElem_cons hlt, he] at hp
        have := (List.pairwise_cons.1 hp).1 y hy
        rw [e, e2, nlt_irr] at this; cases this
      · cases hh
  rw [List.pairwise_append]
  refine ⟨h.sublist (List.take_sublist _ _), List.pairwise_cons.2 ⟨hd, ?_⟩, fun a ha b hb => ?_⟩
  · split
    · exact h.sublist (List.drop_sublist _ _)
    · exact h.sublist (List.drop_sublist _ _)
  · have h1 := atN_lt l _ a ha
    rcases List.mem_cons.1 hb with rfl | hb
    · exact h1
    · exact nlt_tr h1 (hd b hb)
theorem split_at {l : List En} {k : Nat} {z : En} (h : l[k]? = some z) : l = l.take k ++ z :: l.drop (k + 1) := by
  have hlt := (List.getElem?_eq_some_iff.1 h).1
  have he : l[k] = z := (List.getElem?_eq_some_iff.1 h).2
  rw [← he, ← List.drop_eq_getElem_cons hlt, List.take_append_drop]
theorem has_get {l : List En} {n : ByteArray} (h : hasN l n = true) : ∃ z, l[atN l n]? = some z ∧ z.1 = n := by
  unfold hasN at h
  split at h
  · rename_i z hz; exact ⟨z, hz, of_decide_eq_true h⟩
  · cases h
theorem putN_mem {l : List En} {x y : En} (h : Up l) : y ∈ putN l x ↔ y = x ∨ (y ∈ l ∧ y.1 ≠ x.1) := by
  unfold putN
  by_cases hh : hasN l x.1 = true
  · rw [if_pos hh]
    obtain ⟨z, hz, hzn⟩ := has_get hh
    have hl := split_at hz
    have hu : Up (l.take (atN l x.1) ++ z :: l.drop (atN l x.1 + 1)) := hl ▸ h
    obtain ⟨_, u2, u3⟩ := List.pairwise_append.1 hu
    obtain ⟨u4, _⟩ := List.pairwise_cons.1 u2
    constructor
    · intro hy
      rcases List.mem_append.1 hy with hy | hy
      · refine .inr ⟨List.mem_of_mem_take hy, fun e => ?_⟩
        have := u3 y hy z (by simp); rw [e, hzn, nlt_irr] at this; cases this
      · rcases List.mem_cons.1 hy with rfl | hy
        · exact .inl rfl
        · refine .inr ⟨List.mem_of_mem_drop hy, fun e => ?_⟩
          have := u4 y hy; rw [e, hzn, nlt_irr] at this; cases this
    · rintro (rfl | ⟨hy, hn⟩)
      · simp
      · rw [hl] at hy
        rcases List.mem_append.1 hy with hy | hy
        · exact List.mem_append_left _ hy
        · rcases List.mem_cons.1 hy with rfl | hy
          · exact absurd hzn hn
          · exact List.mem_append_right _ (List.mem_cons_of_mem _ hy)
  · rw [if_neg hh]
    have hno : ∀ y ∈ l, y.1 ≠ x.1 := fun y hy e => hh ((hasN_iff h.weak).2 (List.mem_map.2 ⟨y, hy, e⟩))
    constructor
    · intro hy
      rcases List.mem_append.1 hy with hy | hy
      · have := List.mem_of_mem_take hy; exact .inr ⟨this, hno y this⟩
      · rcases List.mem_cons.1 hy with rfl | hy
        · exact .inl rfl
        · have := List.mem_of_mem_drop hy; exact .inr ⟨this, hno y this⟩
    · rintro (rfl | ⟨hy, _⟩)
      · simp
      · rw [← List.take_append_drop (atN l x.1) l] at hy
        rcases List.mem_append.1 hy with hy | hy
        · exact List.mem_append_left _ hy
        · exact List.mem_append_right _ (List.mem_cons_of_mem _ hy)
theorem puts_up : ∀ (xs : List En) {l : List En}, Up l → Up (xs.foldl putN l)
  | [], _, h => h
  | _ :: xs, _, h => puts_up xs (putN_up h)
theorem puts_mem {y : En} : ∀ (xs : List En) {l : List En}, Up l → (xs.map (·.1)).Nodup → (y ∈ xs.foldl putN l ↔ y ∈ xs ∨ (y ∈ l ∧ y.1 ∉ xs.map (·.1)))
  | [], l, _, _ => by simp
  | x :: xs, l, h, hn => by
    rw [List.map_cons, List.nodup_cons] at hn
    rw [List.foldl_cons, puts_mem xs (putN_up h) hn.2, putN_mem h]
    constructor
    · rintro (h1 | ⟨rfl | ⟨h1, h2⟩, h3⟩)
      · exact .inl (by simp [h1])
      · exact .inl (by simp)
      · refine .inr ⟨h1, fun hm => ?_⟩
        rw [List.map_cons] at hm
        rcases List.mem_cons.1 hm with hm | hm
        · exact h2 hm
        · exact h3 hm
    · rintro (h1 | ⟨h1, h2⟩)
      · rcases List.mem_cons.1 h1 with rfl | h1
        · exact .inr ⟨.inl rfl, hn.1⟩
        · exact .inl h1
      · rw [List.map_cons] at h2
        exact .inr ⟨.inr ⟨h1, fun e => h2 (by simp [e])⟩, fun hm => h2 (by simp [hm])⟩
/-- The order in which they are put plays no part. -/
theorem puts_perm {xs ys l : List En} (h : Up l) (hp : xs.Perm ys) (hn : (xs.map (·.1)).Nodup) : xs.foldl putN l = ys.foldl putN l :=
  Up.ext (puts_up xs h) (puts_up ys h) fun y => by
    rw [puts_mem xs h hn, puts_mem ys h ((hp.map (·.1)).nodup_iff.1 hn), hp.mem_iff, (hp.map (·.1)).mem_iff]
/-! ### How much -/
def sumD (l : List En) : Int := (l.map fun x => (x.2.length : Int)).sum
def sumN (l : List En) : Int := (l.map fun x => (x.1.size : Int)).sum
theorem perm_sum {a b : List Int} (h : a.Perm b) : a.sum = b.sum := by
  induction h with
  | nil => rfl
  | cons x _ ih => simp [ih]
  | swap x y l => simp; omega
  | trans _ _ h1 h2 => exact h1.trans h2
theorem sumD_perm {a b : List En} (h : a.Perm b) : sumD a = sumD b := perm_sum (h.map _)
theorem sumN_perm {a b : List En} (h : a.Perm b) : sumN a = sumN b := perm_sum (h.map _)
theorem sumD_nn (l : List En) : 0 ≤ sumD l := by
  induction l with
  | nil => simp [sumD]
  | cons x l ih => simp only [sumD, List.map_cons, List.sum_cons] at *; omega
theorem sumN_nn (l : List En) : 0 ≤ sumN l := by
  induction l with
  | nil => simp [sumN]
  | cons x l ih => simp only [sumN, List.map_cons, List.sum_cons] at *; omega
theorem sumD_app (a b : List En) : sumD (a ++ b) = sumD a + sumD b := by simp [sumD]
theorem sumN_app (a b : List En) : sumN (a ++ b) = sumN a + sumN b := by simp [sumN]
def much (l : List En) : Bool := decide (4096 < l.length) || decide (1048576 < sumD l) || decide (1048576 < sumN l)
theorem much_perm {a b : List En} (h : a.Perm b) : much a = much b := by unfold much; rw [sumD_perm h, sumN_perm h, h.length_eq]
/-! ### Which names may be -/
def partsU : List UInt8 → List (List UInt8)
  | [] => [[]]
  | c :: r => if c = 47 then [] :: partsU r else match partsU r with
    | p :: ps => (c :: p) :: ps
    | [] => [[c]]
def badU (p : List UInt8) : Bool := p == [] || (p == [46] || p == [46, 46])
/-- But for the length. -/
def okU (l : List UInt8) : Bool := (!l.contains 0) && !(partsU l).any badU
def rightU (l : List UInt8) : Bool := decide (l.length ≤ 4096) && okU l
def rightN (s : ByteArray) : Bool := rightU s.data.toList
/-! ### The calls -/
def sortE (l : List En) : List En × Int :=
  if l.any (fun x => !rightN x.1) then ([], 6) else if ¬ (l.map (·.1)).Nodup then ([], 7) else if much l then ([], 5) else (srtN l, 0)
def putE (l more : List En) : List En × Int := if (sortE more).2 ≠ 0 then ([], (sortE more).2) else if much (more.foldl putN l) then ([], 5) else (more.foldl putN l, 0)
def dropE : List En → List ByteArray → List En × Int
  | l, [] => (l, 0)
  | l, n :: ns => if hasN l n then dropE (l.take (atN l n) ++ l.drop (atN l n + 1)) ns else ([], 8)
end Go.Proofs.YtdknadlkadoloaaDoorV
