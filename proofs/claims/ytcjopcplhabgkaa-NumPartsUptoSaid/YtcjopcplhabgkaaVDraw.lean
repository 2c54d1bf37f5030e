/- The engine, fourth part: a region that draws its order. What operands decide, and loads that are the same throughout, are taken first; of the rest whichever may come next. -/
import Derived.Test.YtcjopcplhabgkaaVCode
namespace Go.Proofs.YtcjopcplhabgkaaV
open Go

/-! ### What is kept may hang on what has come up -/
section
variable {P : Program} {ops : Array Oper} {Q : Exit → Act → World → Prop} {md : Region.Mode} {S : Array Bool → World → Prop}
/-- Whatever has come up, what it waits for has. -/
def closedR (ops : Array Oper) (L : Array Bool) : Prop := ∀ (k : Nat) (o : Oper), ops[k]? = some o → L.getD k false = true → ∀ e ∈ o.after, Region.binds .any e = true → L.getD e.on false = true
theorem closedR_set {L : Array Bool} {j : Nat} (h : closedR ops L) (hj : j ∈ Region.ready .any ops L) : closedR ops (L.setIfInBounds j true) := by
  intro k o hk hL e he hb
  refine getD_set_true ?_
  by_cases hkj : k = j
  · subst hkj
    obtain ⟨_, o', ho', hall⟩ := mem_ready.1 hj
    rw [hk] at ho'; injection ho' with ho'; subst ho'
    exact hall e he hb
  · rw [getD_set_ne false (Ne.symm hkj)] at hL
    exact h k o hk hL e he hb
def wpAnyS (P : Program) (ops : Array Oper) (Q : Exit → Act → World → Prop) (S : Array Bool → World → Prop) : Nat → Array Bool → Act → World → Prop
  | 0, L, a, w => Region.ready .any ops L = [] ∧ Q .normal a w
  | fuel + 1, L, a, w => (Region.ready .any ops L = [] → Q .normal a w) ∧ ∀ i ∈ Region.ready .any ops L, wpOp P ops Q i (fun a' w' => S (L.setIfInBounds i true) w' ∧ wpAnyS P ops Q S fuel (L.setIfInBounds i true) a' w') a w
theorem wpAny_of_S : ∀ (fuel : Nat) (L : Array Bool) (a : Act) (w : World), wpAnyS P ops Q S fuel L a w → wpAny P .any ops Q fuel L a w
  | 0, _, _, _, h => h
  | fuel + 1, _, _, _, h => ⟨h.1, fun i hi => wpOp_mono (fun a' w' h' => wpAny_of_S fuel _ a' w' h'.2) (h.2 i hi)⟩
/-- The worlds in which something has not come up yet. -/
def notYet (ops : Array Oper) (S : Array Bool → World → Prop) (i : Nat) (w : World) : Prop := ∃ L, closedR ops L ∧ L.getD i true = false ∧ S L w
theorem wpAnyS_first {i : Nat} {oi : Oper} {v : Value} (hi : ops[i]? = some oi) (hsel : ∀ (j : Nat) (o : Oper) cs b, ops[j]? = some o → o.op ≠ .select cs b)
    (hQ : ∀ c a w, Q (.panic c) (a.put oi.dst v) w → Q (.panic c) a w) (hSi : ∀ L w, S (L.setIfInBounds i true) w ↔ S L w) :
    ∀ (fuel : Nat) (L : Array Bool) (a : Act) (w : World),
      (∀ j oj, ops[j]? = some oj → j ≠ i → L.getD j true = false → (∀ e ∈ oj.after, Region.binds .any e = true → e.on ≠ i) → oi.apart ops oj = true) →
      closedR ops L → i ∈ Region.ready .any ops L → YieldsIf P ops (notYet ops S i) oi v a → S L w →
      wpAnyS P ops Q S fuel (L.setIfInBounds i true) (a.put oi.dst v) w → wpAnyS P ops Q S (fuel + 1) L a w := by
  intro fuel
  induction fuel with
  | zero =>
    intro L a w _ hcl hr hy hS H
    refine ⟨fun h => (by rw [h] at hr; cases hr), fun j hj => ?_⟩
    by_cases hji : j = i
    · subst hji; exact hy.wpOp hi ⟨L, hcl, (mem_ready.1 hr).1, hS⟩ ⟨(hSi _ _).2 hS, H⟩
    · have := ready_mono hj hji
      rw [H.1] at this
      cases this
  | succ fuel ih =>
    intro L a w hfree hcl hr hy hS H
    refine ⟨fun h => (by rw [h] at hr; cases hr), fun j hj => ?_⟩
    by_cases hji : j = i
    · subst hji; exact hy.wpOp hi ⟨L, hcl, (mem_ready.1 hr).1, hS⟩ ⟨(hSi _ _).2 hS, H⟩
    · have h1 := H.2 j (ready_mono hj hji)
      obtain ⟨hjun, oj, hoj, hall⟩ := mem_ready.1 hj
      have hnot : ∀ e ∈ oj.after, Region.binds .any e = true → e.on ≠ i := fun e he hb heq => by
        have h1 := hall e he hb
        have h0 := (mem_ready.1 hr).1
        rw [heq] at h1
        rcases Nat.lt_or_ge i L.size with h' | h'
        · simp [h'] at h0 h1; rw [h0] at h1; cases h1
        · simp [Array.getElem?_eq_none h'] at h1
      have h2 := wpOp_putIf hoj (hfree j oj hoj hji hjun hnot) (fun cs b => hsel i oi cs b hi) (fun cs b => hsel j oj cs b hoj) hQ hy h1
      have hfree' : ∀ k ok, ops[k]? = some ok → k ≠ i → (L.setIfInBounds j true).getD k true = false →
          (∀ e ∈ ok.after, Region.binds .any e = true → e.on ≠ i) → oi.apart ops ok = true := fun k ok hk hki hun hno => by
        refine hfree k ok hk hki ?_ hno
        by_cases hjk : j = k
        · subst hjk; exact hjun
        · rw [getD_set_ne true hjk] at hun; exact hun
      refine wpOp_mono (fun a' w' h3 => ?_) h2
      obtain ⟨h4, h5, h6⟩ := h3
      rw [Array.setIfInBounds_comm _ _ (Ne.symm hji)] at h5
      have h5 := (hSi _ _).1 h5
      refine ⟨h5, ih (L.setIfInBounds j true) a' w' hfree' (closedR_set hcl hj) (ready_mono hr (Ne.symm hji)) h4 h5 ?_⟩
      rw [Array.setIfInBounds_comm _ _ hji]
      exact h6
theorem wpAnyS_take {i : Nat} {oi : Oper} {v : Value} {fuel : Nat} {L : Array Bool} {a : Act} {w : World} (hi : ops[i]? = some oi)
    (hs : Region.noSelect ops = true) (hf : Region.free .any ops L i = true) (hcl : closedR ops L) (hr : (Region.ready .any ops L).contains i = true)
    (hQ : ∀ c a w, Q (.panic c) (a.put oi.dst v) w → Q (.panic c) a w) (hSi : ∀ L w, S (L.setIfInBounds i true) w ↔ S L w) (hy : YieldsIf P ops (notYet ops S i) oi v a) (hS : S L w)
    (h : wpAnyS P ops Q S fuel (L.setIfInBounds i true) (a.put oi.dst v) w) : wpAnyS P ops Q S (fuel + 1) L a w :=
  wpAnyS_first hi (Region.noSelect_spec hs) hQ hSi fuel L a w (Region.free_spec hi hf) hcl (by simpa using hr) hy hS h
theorem wpAnyS_all {rs : List Nat} {fuel : Nat} {L : Array Bool} {a : Act} {w : World} (hr : Region.ready .any ops L = rs) (hne : rs ≠ [])
    (h : ∀ i ∈ rs, wpOp P ops Q i (fun a' w' => S (L.setIfInBounds i true) w' ∧ wpAnyS P ops Q S fuel (L.setIfInBounds i true) a' w') a w) : wpAnyS P ops Q S (fuel + 1) L a w :=
  ⟨fun h0 => absurd (hr ▸ h0) hne, hr ▸ h⟩
theorem wpAnyS_done {L : Array Bool} {a : Act} {w : World} (hr : Region.ready .any ops L = []) (h : Q .normal a w) : ∀ fuel, wpAnyS P ops Q S fuel L a w
  | 0 => ⟨hr, h⟩
  | _ + 1 => ⟨fun _ => h, by rw [hr]; simp⟩
theorem wp_region_S {id : Nat} {a : Act} {w : World} (hm : P.follows .mixedOrders = true)
    (h : wpAnyS P ops Q S ops.size (Array.replicate ops.size false) a { w with drawn := w.drawn + 1 }) : (Code.region id ops true).wp P Q a w :=
  wp_region_any hm (wpAny_of_S _ _ _ _ h)
/-! ### What all stores wait for -/
def isSt (o : Oper) : Bool := match o.op with
  | .store .. => true
  | _ => false
/-- A set of numbers, as bits. -/
def needOf (acc : List Nat) : List Edge → Nat → Nat
  | [], s => s
  | e :: r, s => match Region.binds .any e with
    | true => needOf acc r (s ||| (2 ^ e.on ||| acc.getD e.on 0))
    | false => needOf acc r s
def needAcc : List Oper → List Nat → List Nat
  | [], acc => acc
  | o :: r, acc => needAcc r (acc ++ [needOf acc o.after.toList 0])
/-- The numbers of those that each store waits for. -/
def earlyAll : List Oper → List Nat → Nat → Nat
  | o :: r, n :: l, s => match isSt o with
    | true => earlyAll r l (s &&& n)
    | false => earlyAll r l s
  | _, _, s => s
def anySt : List Oper → List Bool → Bool
  | o :: r, b :: l => (isSt o && b) || anySt r l
  | _, _ => false
/-- Each of them waits for those in its set. -/
def okNeed (ops : Array Oper) (acc : List Nat) : Prop := ∀ (k i : Nat), (acc.getD k 0).testBit i = true → ∀ L, closedR ops L → L.getD k false = true → L.getD i false = true
theorem needOf_ok {acc : List Nat} (ha : okNeed ops acc) {L : Array Bool} (hcl : closedR ops L) : ∀ (es : List Edge) (s : Nat), (∀ e ∈ es, Region.binds .any e = true → L.getD e.on false = true) → (∀ i, s.testBit i = true → L.getD i false = true) → ∀ i, (needOf acc es s).testBit i = true → L.getD i false = true
  | [], _, _, hs, i, h => hs i h
  | e :: r, s, he, hs, i, h => by
    rw [needOf] at h
    split at h
    · rename_i hb
      have hon := he e (by simp) hb
      refine needOf_ok ha hcl r _ (fun e' he' => he e' (by simp [he'])) (fun q hq => ?_) i h
      rw [Nat.testBit_or, Nat.testBit_or, Bool.or_eq_true, Bool.or_eq_true] at hq
      rcases hq with hq | hq | hq
      · exact hs q hq
      · rw [Nat.testBit_two_pow] at hq
        have : e.on = q := by simpa using hq
        rw [← this]; exact hon
      · exact ha e.on q hq L hcl hon
    · exact needOf_ok ha hcl r _ (fun e' he' => he e' (by simp [he'])) hs i h
theorem needAcc_ok : ∀ (l : List Oper) (acc : List Nat), (∀ k o, l[k]? = some o → ops[acc.length + k]? = some o) → okNeed ops acc → okNeed ops (needAcc l acc)
  | [], _, _, h => h
  | o :: r, acc, hl, h => by
    rw [needAcc]
    refine needAcc_ok r _ (fun k o' hk => ?_) ?_
    · rw [List.length_append, List.length_singleton, Nat.add_assoc, Nat.add_comm 1 k]
      exact hl (k + 1) o' hk
    · intro k i hb L hcl hL
      rw [List.getD_eq_getElem?_getD, List.getElem?_append] at hb
      split at hb
      · exact h k i (by rw [List.getD_eq_getElem?_getD]; exact hb) L hcl hL
      · rename_i hk
        have hk2 : k - acc.length = 0 ∨ k - acc.length ≠ 0 := by omega
        rcases hk2 with hk2 | hk2
        · rw [hk2] at hb
          have hkk : k = acc.length := by omega
          have ho := hl 0 o rfl
          rw [Nat.add_zero, ← hkk] at ho
          exact needOf_ok h hcl o.after.toList 0 (fun e he hbi => hcl k o ho hL e (by simpa using he) hbi) (fun q hq => by simp at hq) i (by simpa using hb)
        · rw [List.getElem?_eq_none (by simp; omega)] at hb
          simp at hb
theorem earlyAll_ok : ∀ (l : List Oper) (ns : List Nat) (s i : Nat), (earlyAll l ns s).testBit i = true → s.testBit i = true ∧ ∀ k o, l[k]? = some o → isSt o = true → k < ns.length → (ns.getD k 0).testBit i = true
  | [], ns, s, i, h => ⟨by cases ns <;> exact h, fun k o hk => by cases hk⟩
  | o :: r, [], s, i, h => ⟨h, fun k o' hk _ hlt => by simp at hlt⟩
  | o :: r, n :: ns, s, i, h => by
    rw [earlyAll] at h
    split at h
    · rename_i hs
      obtain ⟨h1, h2⟩ := earlyAll_ok r ns _ i h
      rw [Nat.testBit_and, Bool.and_eq_true] at h1
      refine ⟨h1.1, fun k o' hk ho hlt => ?_⟩
      cases k with
      | zero => exact h1.2
      | succ k => exact h2 k o' hk ho (by simpa using hlt)
    · rename_i hs
      obtain ⟨h1, h2⟩ := earlyAll_ok r ns _ i h
      refine ⟨h1, fun k o' hk ho hlt => ?_⟩
      cases k with
      | zero => simp only [List.getElem?_cons_zero, Option.some.injEq] at hk; subst hk; rw [ho] at hs; cases hs
      | succ k => exact h2 k o' hk ho (by simpa using hlt)
theorem anySt_ok : ∀ (l : List Oper) (bs : List Bool), anySt l bs = true → ∃ (k : Nat) (o : Oper), l[k]? = some o ∧ isSt o = true ∧ bs[k]? = some true
  | [], _, h => by simp [anySt] at h
  | o :: r, [], h => by simp [anySt] at h
  | o :: r, b :: l, h => by
    rw [anySt, Bool.or_eq_true, Bool.and_eq_true] at h
    rcases h with h | h
    · exact ⟨0, o, rfl, h.1, by rw [h.2]; rfl⟩
    · obtain ⟨k, o', h1, h2, h3⟩ := anySt_ok r l h
      exact ⟨k + 1, o', h1, h2, h3⟩
theorem anySt_set : ∀ (l : List Oper) (bs : List Bool) (i : Nat), (∀ o, l[i]? = some o → isSt o = false) → anySt l (bs.set i true) = anySt l bs
  | [], bs, i, _ => by cases bs <;> cases i <;> rfl
  | o :: r, [], i, _ => by cases i <;> rfl
  | o :: r, b :: l, 0, h => by
    have := h o rfl
    rw [List.set_cons_zero, anySt, anySt, this]; rfl
  | o :: r, b :: l, i + 1, h => by
    rw [List.set_cons_succ, anySt, anySt, anySt_set r l i fun o ho => h o ho]
end

def isLd (o : Oper) : Bool := match o.op with
  | .load .. => true
  | _ => false
/-- Is that the place of an element, told in the region? -/
def idxDst (l : List Oper) : Operand → Bool
  | .tmp t => l.any fun o => match o.op, o.dst with
    | .indexAddr .., some d => Nat.beq d t
    | _, _ => false
  | _ => false
def hasIS (l : List Oper) : Bool := l.any fun o => match o.op with
  | .store _ x _ => idxDst l x
  | _ => false
/-- A load that may be taken ahead: but where elements are stored none of elements is. -/
def isLdQ (l : List Oper) (o : Oper) : Bool := match o.op with
  | .load _ x => match idxDst l x with
    | true => !hasIS l
    | false => true
  | _ => false
/-- Those loads that each store waits for: told where there are two of them and more that may not be taken ahead. -/
def loudE (l : List Oper) (E : Nat) : List Oper → Nat → Nat
  | [], _ => 0
  | o :: r, i => match isLd o && !isLdQ l o && E.testBit i with
    | true => loudE l E r (i + 1) + 1
    | false => loudE l E r (i + 1)
def earlyS (ops : Array Oper) : Nat :=
  let E := earlyAll ops.toList (needAcc ops.toList []) (2 ^ ops.size - 1)
  match Nat.ble 2 (loudE ops.toList E ops.toList 0) with
  | true => E
  | false => 0
/-- The first of those that may come next that only reads or reckons. -/
def pickQ (P : Program) (ops : Array Oper) (E : Nat) : List Nat → Option Nat
  | [] => none
  | i :: r => match ops[i]? with
    | some o => match isQ P o || isLdQ ops.toList o || (isLd o && E.testBit i) with
      | true => some i
      | false => pickQ P ops E r
    | none => pickQ P ops E r
def allE : List Nat → (Nat → Prop) → Prop
  | [], _ => True
  | [i], p => p i
  | i :: r, p => p i ∧ allE r p
theorem allE_mem {p : Nat → Prop} : ∀ {l : List Nat}, allE l p → ∀ i ∈ l, p i
  | [i], h, j, hj => by simp at hj; subst hj; exact h
  | i :: j :: r, h, k, hk => by
    rcases List.mem_cons.1 hk with rfl | hk
    · exact h.1
    · exact allE_mem h.2 k hk
def guardG (ops : Array Oper) (σ : Env) (o : Oper) (A : Env → Prop) (B : Env → Prop) : Prop := match o.guard with
  | none => A σ
  | some g => gIf (guardB ops σ g) (A (setG ops σ g true)) (B (setG ops σ g false))
/-- A step that only reads or reckons: k is told its value. -/
def quietG (P : Program) (l : List Oper) (B B1 : World → Prop) (o : Oper) (σ : Env) (k : Value → Prop) : Prop := match isQ P o with
  | true => qvG P o σ k
  | false => match o.op with
    | .load t x => match isLdQ l o with
      | true => gLoadB P t (shOf P t) (evO σ x) B (tlam _ fun vs => k ((shOf P t).mk vs))
      | false => gLoadB P t (shOf P t) (evO σ x) B1 (tlam _ fun vs => k ((shOf P t).mk vs))
    | _ => False
/-- What is kept, as long as nothing was stored, and behind that. -/
def heldG (E : Nat) (ops : Array Oper) (L : Array Bool) (B B1 : World → Prop) (w : World) : Prop := match E with
  | 0 => B w
  | _ => match anySt ops.toList L.toList with
    | true => B w
    | false => B w ∧ B1 w
def drawF (P : Program) (ops : Array Oper) (E : Nat) (B B1 : World → Prop) (K : Env → World → Prop) : Nat → Array Bool → Env → World → Prop
  | 0, L, σ, w => match Region.ready .any ops L with
    | [] => K σ w
    | _ => False
  | n + 1, L, σ, w => match Region.ready .any ops L with
    | [] => K σ w
    | i :: r => match pickQ P ops E (i :: r) with
      | some j => match ops[j]?, Region.free .any ops L j with
        | some o, true => guardG ops σ o (fun σ => quietG P ops.toList B B1 o σ fun v => drawF P ops E B B1 K n (L.setIfInBounds j true) (updO σ o.dst v) w) (fun σ => drawF P ops E B B1 K n (L.setIfInBounds j true) (updO σ o.dst undef) w)
        | _, _ => False
      | none => allE (i :: r) fun j => match ops[j]? with
        | some o => guardG ops σ o (fun σ => opG P o σ w fun v w' => heldG E ops (L.setIfInBounds j true) B B1 w' ∧ drawF P ops E B B1 K n (L.setIfInBounds j true) (updO σ o.dst v) w') (fun σ => drawF P ops E B B1 K n (L.setIfInBounds j true) (updO σ o.dst undef) w)
        | none => False
/-- Does it hold anything but reads and reckoning? -/
def hasE (P : Program) : List Oper → Bool
  | [] => false
  | o :: r => match isQ P o || isLd o with
    | true => hasE P r
    | false => true
def drawG (P : Program) (ops : Array Oper) (σ : Env) (w : World) (K : Env → World → Prop) : Prop := match Region.noSelect ops with
  | true => match hasE P ops.toList with
    | false => drawF P ops 0 (fun w' => w' = w.drew) (fun _ => True) K ops.size (Array.replicate ops.size false) σ w.drew
    | true => match earlyS ops with
      | 0 => ∃ B : World → Prop, B w.drew ∧ drawF P ops 0 B (fun _ => True) K ops.size (Array.replicate ops.size false) σ w.drew
      | E + 1 => ∃ B B1 : World → Prop, (B w.drew ∧ B1 w.drew) ∧ drawF P ops (E + 1) B B1 K ops.size (Array.replicate ops.size false) σ w.drew
  | false => False
section
variable {P : Program} {ops : Array Oper} {B B1 : World → Prop} {K : Env → World → Prop} {Q : Exit → Act → World → Prop} {n : Nat} {σ₀ : Env} {E : Nat}
/-- Of each in the set: whoever stores waits for it. -/
def earlyOk (ops : Array Oper) (E : Nat) : Prop := ∀ i, E.testBit i = true → ∀ k o, ops[k]? = some o → isSt o = true → ∀ L, closedR ops L → L.getD k false = true → L.getD i false = true
theorem needAcc_len : ∀ (l : List Oper) (acc : List Nat), (needAcc l acc).length = acc.length + l.length
  | [], acc => rfl
  | o :: r, acc => by rw [needAcc, needAcc_len r, List.length_append, List.length_singleton, List.length_cons]; omega
theorem earlyS_ok (ops : Array Oper) : earlyOk ops (earlyS ops) := by
  intro i hi k o hk ho L hcl hL
  unfold earlyS at hi
  dsimp only at hi
  split at hi
  · obtain ⟨_, h2⟩ := earlyAll_ok _ _ _ i hi
    have hkl : k < ops.toList.length := by rw [Array.length_toList]; exact (Array.getElem?_eq_some_iff.1 hk).1
    refine needAcc_ok (ops := ops) ops.toList [] (fun q o' hq => by simpa using hq) (fun q p hb => by simp at hb) k i ?_ L hcl hL
    exact h2 k o (by simpa using hk) ho (by rw [needAcc_len]; simpa using hkl)
  · simp at hi
theorem earlyOk_zero (ops : Array Oper) : earlyOk ops 0 := fun i hi => by simp at hi
theorem quietG_run {o : Oper} {σ : Env} {k : Value → Prop} (h : quietG P ops.toList B B1 o σ k) : ∃ v, (∀ w, B w → (isQ P o = true ∨ isLdQ ops.toList o = true ∨ B1 w) → (execOp (evO σ) o).run P w = .ok (.value v) w) ∧ k v := by
  unfold quietG at h
  split at h
  · obtain ⟨v, hr, hk⟩ := qvG_run h; exact ⟨v, fun w _ _ => hr w, hk⟩
  · rename_i hq
    split at h
    · rename_i t x ho
      split at h
      · obtain ⟨vs, hr, hk⟩ := tex_tlam h
        exact ⟨_, fun w hB _ => by unfold execOp; rw [ho]; exact run_v (hr w hB), hk⟩
      · rename_i hl
        obtain ⟨vs, hr, hk⟩ := tex_tlam h
        refine ⟨_, fun w _ hB => ?_, hk⟩
        have hB1 : B1 w := by
          rcases hB with h | h | h
          · rw [hq] at h; cases h
          · rw [hl] at h; cases h
          · exact h
        unfold execOp; rw [ho]; exact run_v (hr w hB1)
    · exact h.elim
theorem isSt_quiet {o : Oper} {l : List Oper} {b : Bool} (h : (isQ P o || isLdQ l o || (isLd o && b)) = true) : isSt o = false := by
  unfold isSt
  split
  · rename_i t x y ho
    unfold isLdQ isLd at h
    rw [ho] at h
    have : isQ P o = false := by unfold isQ; rw [ho]
    rw [this] at h; cases h
  · rfl
theorem heldG_set {L : Array Bool} {i : Nat} {w : World} (h : ∀ o, ops[i]? = some o → isSt o = false) : heldG E ops (L.setIfInBounds i true) B B1 w ↔ heldG E ops L B B1 w := by
  unfold heldG
  cases E with
  | zero => exact Iff.rfl
  | succ E =>
    rw [Array.toList_setIfInBounds, anySt_set _ _ _ fun o ho => h o (by simpa using ho)]
theorem heldG_B {L : Array Bool} {w : World} (h : heldG E ops L B B1 w) : B w := by
  unfold heldG at h
  split at h
  · exact h
  · split at h
    · exact h
    · exact h.1
theorem anySt_mono : ∀ (l : List Oper) (bs : List Bool) (i : Nat), anySt l (bs.set i true) = false → anySt l bs = false
  | [], bs, i, _ => by cases bs <;> rfl
  | o :: r, [], i, _ => rfl
  | o :: r, b :: l, 0, h => by
    rw [List.set_cons_zero, anySt, Bool.or_eq_false_iff, Bool.and_eq_false_iff] at h
    rw [anySt, Bool.or_eq_false_iff, Bool.and_eq_false_iff]
    refine ⟨.inl ?_, h.2⟩
    rcases h.1 with h1 | h1
    · exact h1
    · cases h1
  | o :: r, b :: l, i + 1, h => by
    rw [List.set_cons_succ, anySt, Bool.or_eq_false_iff] at h
    rw [anySt, Bool.or_eq_false_iff]
    exact ⟨h.1, anySt_mono r l i h.2⟩
theorem heldG_mono {L : Array Bool} {i : Nat} {w : World} (h : heldG E ops L B B1 w) : heldG E ops (L.setIfInBounds i true) B B1 w := by
  have hB := heldG_B h
  cases E with
  | zero => exact hB
  | succ E =>
    unfold heldG at h ⊢
    cases h1 : anySt ops.toList (L.setIfInBounds i true).toList with
    | true => exact hB
    | false =>
      rw [Array.toList_setIfInBounds] at h1
      rw [anySt_mono _ _ _ h1] at h
      exact h
/-- What a store waits for is read ahead of all stores. -/
theorem heldG_B1 {L : Array Bool} {i : Nat} {w : World} (hE : earlyOk ops E) (hcl : closedR ops L) (hi : L.getD i true = false) (hb : E.testBit i = true) (h : heldG E ops L B B1 w) : B1 w := by
  unfold heldG at h
  split at h
  · simp at hb
  · split at h
    · rename_i hany
      obtain ⟨k, o, h1, h2, h3⟩ := anySt_ok _ _ hany
      have := hE i hb k o (by simpa using h1) h2 L hcl (by rw [Array.getElem?_toList] at h3; simp [Array.getD_eq_getD_getElem?, h3])
      rw [Array.getD_eq_getD_getElem?] at this hi
      cases hx : L[i]? with
      | none => rw [hx] at this; cases this
      | some b => rw [hx] at this hi; simp at this hi; rw [this] at hi; cases hi
    · exact h.2
theorem pickQ_spec {j : Nat} : ∀ {l : List Nat}, pickQ P ops E l = some j → j ∈ l ∧ ∃ o, ops[j]? = some o ∧ (isQ P o || isLdQ ops.toList o || (isLd o && E.testBit j)) = true
  | [], h => by cases h
  | x :: l, h => by
    simp only [pickQ] at h
    split at h
    · rename_i o ho
      split at h
      · rename_i hq
        injection h with h; subst h
        exact ⟨by simp, o, ho, hq⟩
      · exact ⟨List.mem_cons_of_mem _ (pickQ_spec h).1, (pickQ_spec h).2⟩
    · exact ⟨List.mem_cons_of_mem _ (pickQ_spec h).1, (pickQ_spec h).2⟩
theorem drawF_wp (hE : earlyOk ops E) (hns : Region.noSelect ops = true) (hp : ∀ c a w, ¬ Q (.panic c) a w) (hn : inB n (dsts ops.toList) = true)
    (hQ : ∀ a σ' w, Rep n a σ' → agree (dsts ops.toList) σ₀ σ' → K σ' w → Q .normal a w) :
    ∀ (f : Nat) (L : Array Bool) (a : Act) (σ : Env) (w : World), Rep n a σ → agree (dsts ops.toList) σ₀ σ → closedR ops L → heldG E ops L B B1 w → drawF P ops E B B1 K f L σ w → wpAnyS P ops Q (fun L w => heldG E ops L B B1 w) f L a w := by
  intro f
  induction f with
  | zero =>
    intro L a σ w hr hag hcl hB h
    simp only [drawF] at h
    split at h
    · rename_i he; exact ⟨he, hQ a σ w hr hag h⟩
    · exact h.elim
  | succ f ih =>
    intro L a σ w hr hag hcl hB h
    have hd : ∀ {i : Nat} {o : Oper}, ops[i]? = some o → ∀ t, o.dst = some t → t < n ∧ t ∈ dsts ops.toList := fun hi t ht => by
      have hm : t ∈ dsts ops.toList := mem_dsts (List.mem_of_getElem? (by simpa using hi)) ht
      exact ⟨inB_lt hn hm, hm⟩
    have next : ∀ {i : Nat} {o : Oper} (v : Value) (w' : World), ops[i]? = some o → i ∈ Region.ready .any ops L → heldG E ops (L.setIfInBounds i true) B B1 w' → drawF P ops E B B1 K f (L.setIfInBounds i true) (updO σ o.dst v) w' → wpAnyS P ops Q (fun L w => heldG E ops L B B1 w) f (L.setIfInBounds i true) (a.put o.dst v) w' :=
      fun v w' hi hrd hB' h' => ih _ _ _ _ (hr.put (fun t ht => (hd hi t ht).1) v) (hag.trans (agree_updO (fun t ht => (hd hi t ht).2) v)) (closedR_set hcl hrd) hB' h'
    simp only [drawF] at h
    split at h
    · rename_i he; exact wpAnyS_done he (hQ a σ w hr hag h) _
    · rename_i i r he
      split at h
      · rename_i j hj
        split at h
        · rename_i o hoj hfree
          obtain ⟨hjm, o', ho', hpq⟩ := pickQ_spec hj
          rw [hoj] at ho'; injection ho' with ho'; subst ho'
          have hrd0 : j ∈ Region.ready .any ops L := by rw [he]; exact hjm
          have hrd : (Region.ready .any ops L).contains j = true := by simpa using hrd0
          have hst : ∀ o', ops[j]? = some o' → isSt o' = false := fun o' ho' => by rw [hoj] at ho'; injection ho' with ho'; subst ho'; exact isSt_quiet hpq
          have hSi : ∀ L w, heldG E ops (L.setIfInBounds j true) B B1 w ↔ heldG E ops L B B1 w := fun L w => heldG_set hst
          have hys : ∀ {σ' : Env} {v : Value}, (∀ w, B w → (isQ P o = true ∨ isLdQ ops.toList o = true ∨ B1 w) → (execOp (evO σ') o).run P w = .ok (.value v) w) → ∀ w, notYet ops (fun L w => heldG E ops L B B1 w) j w → (execOp (evO σ') o).run P w = .ok (.value v) w := fun hrun w ⟨L', hcl', hi', hS'⟩ => by
            refine hrun w (heldG_B hS') ?_
            rw [Bool.or_eq_true, Bool.or_eq_true, Bool.and_eq_true] at hpq
            rcases hpq with (h1 | h1) | h1
            · exact .inl h1
            · exact .inr (.inl h1)
            · exact .inr (.inr (heldG_B1 hE hcl' hi' h1.2 hS'))
          unfold guardG at h
          split at h
          · rename_i hg
            obtain ⟨v, hrun, hk⟩ := quietG_run h
            exact wpAnyS_take hoj hns hfree hcl hrd (fun c a w hq => (hp _ _ _ hq).elim) hSi (.inl ⟨by simp [Region.wanted, hg], fun w hBw => by rw [hr.eval]; exact hys hrun w hBw⟩) hB (next v w hoj hrd0 ((hSi _ _).2 hB) hk)
          · rename_i g hg
            have hw := wanted_guard (ops := ops) hr hg
            unfold gIf at h
            split at h
            · rename_i hb
              rw [setG_eq hb] at h
              obtain ⟨v, hrun, hk⟩ := quietG_run h
              exact wpAnyS_take hoj hns hfree hcl hrd (fun c a w hq => (hp _ _ _ hq).elim) hSi (.inl ⟨hw.trans hb, fun w hBw => by rw [hr.eval]; exact hys hrun w hBw⟩) hB (next v w hoj hrd0 ((hSi _ _).2 hB) hk)
            · rename_i hb
              rw [setG_eq hb] at h
              exact wpAnyS_take hoj hns hfree hcl hrd (fun c a w hq => (hp _ _ _ hq).elim) hSi (.inr ⟨hw.trans hb, rfl⟩) hB (next undef w hoj hrd0 ((hSi _ _).2 hB) h)
        · exact h.elim
      · refine wpAnyS_all he (by simp) fun j hj => ?_
        have hj' := allE_mem h j hj
        have hrd0 : j ∈ Region.ready .any ops L := by rw [he]; exact hj
        unfold wpOp
        split at hj'
        · rename_i o hoj
          rw [hoj]
          dsimp only
          unfold guardG at hj'
          split at hj'
          · rename_i hg
            rw [if_pos (by simp [Region.wanted, hg])]
            exact .inl (opG_wp hr.eval hj' fun v w' hk => ⟨hk.1, next v w' hoj hrd0 hk.1 hk.2⟩)
          · rename_i g hg
            have hw := wanted_guard (ops := ops) hr hg
            unfold gIf at hj'
            split at hj'
            · rename_i hb
              rw [setG_eq hb] at hj'
              rw [if_pos (hw.trans hb)]
              exact .inl (opG_wp hr.eval hj' fun v w' hk => ⟨hk.1, next v w' hoj hrd0 hk.1 hk.2⟩)
            · rename_i hb
              rw [setG_eq hb] at hj'
              rw [if_neg (by rw [hw, hb]; simp)]
              have hB2 : heldG E ops (L.setIfInBounds j true) B B1 w := heldG_mono hB
              exact ⟨hB2, next undef w hoj hrd0 hB2 hj'⟩
        · exact hj'.elim
theorem closedR_start (ops : Array Oper) : closedR ops (Array.replicate ops.size false) := fun k o _ hL => by
  rw [Array.getD_eq_getD_getElem?, Array.getElem?_replicate] at hL
  split at hL <;> cases hL
theorem anySt_start : ∀ (l : List Oper) (n : Nat), anySt l (List.replicate n false) = false
  | [], n => by cases n <;> rfl
  | o :: r, 0 => rfl
  | o :: r, n + 1 => by rw [List.replicate_succ, anySt, Bool.and_false, Bool.false_or, anySt_start r n]
end
theorem drawG_ok {P : Program} (hm : P.follows .mixedOrders = true) : DrawOk P (drawG P) := by
  intro id n ops σ a w K Q hn hr hp hQ h
  unfold drawG at h
  split at h
  · rename_i hns
    split at h
    · exact wp_region_S hm (drawF_wp (B := fun w' => w' = w.drew) (B1 := fun _ => True) (earlyOk_zero ops) hns hp hn hQ _ _ _ _ _ hr (agree.refl _ _) (closedR_start ops) rfl h)
    · split at h
      · obtain ⟨B, hB, h⟩ := h
        exact wp_region_S hm (drawF_wp (earlyOk_zero ops) hns hp hn hQ _ _ _ _ _ hr (agree.refl _ _) (closedR_start ops) hB h)
      · rename_i E hE
        obtain ⟨B, B1, hB, h⟩ := h
        refine wp_region_S hm (drawF_wp (E := E + 1) (by have h0 := earlyS_ok ops; rw [hE] at h0; exact h0) hns hp hn hQ _ _ _ _ _ hr (agree.refl _ _) (closedR_start ops) ?_ h)
        unfold heldG
        rw [Array.toList_replicate, anySt_start]
        exact hB
  · exact h.elim
/-- A call, by what is shown of its function's code. -/
theorem calls_of {P : Program} (hm : P.follows .mixedOrders = true) {An : An} {f : FuncId} {fn : Func} {c : Code} {args : Array Value} {w : World} {R : Ending → World → Prop}
    (hf : P.funcs[f]? = some fn) (hb : fn.body = some c) (hs : args.size + (fn.ntmps - args.size) = fn.ntmps) (hn : inB fn.ntmps (asg c) = true)
    (h : den P (drawG P) An c (retG P fn R) (fun _ _ _ => False) (retG P fn R) (fun t => args.getD t undef) w) : Calls P f args w R :=
  calls_of_den (drawG_ok hm) hf hb hs hn h
end Go.Proofs.YtcjopcplhabgkaaV
