import Derived.Below
import Derived.Laws.OwnMore
import Derived.Laws.MakeOwn
import Derived.Laws.CopyOwn
import Derived.RangeFuncOwn
import Derived.Test.YtiimlfgjnapgjaaGreatDoorVPart1
set_option linter.unusedVariables false
set_option linter.unusedSimpArgs false
/- The engine, fourth part: a region that draws its order. What operands decide, and loads that are the same throughout, are taken first; of the rest whichever may come next. -/
namespace Go.Proofs.YtiimlfgjnapgjaaGreatDoorV
open Go

/-! ### What is kept may hang on what has come up -/
section
variable {P : Program} {ops : Array Oper} {Q : Exit → Act → World → Prop} {md : Region.Mode} {S : Array Bool → World → Prop}
/-- Whatever has come up, what it waits for has. -/
def closedR (ops : Array Oper) (L : Array Bool) : Prop := ∀ (k : Nat) (o : Oper), ops[k]? = some o → L.getD k false = true → ∀ e ∈ o.after, Region.binds .any e = true → L.getD e.on false = true
theorem closedR_set {L : Array Bool} {j : Nat} (h : closedR ops L) (hj : j ∈ Region.ready .any ops L) : closedR ops (L.setIfInBounds j true) := by
  intro k o hk hL e he hb
  refine getD_set_true ?_
  by_cases hkj : k = j
  · subst hkj
    obtain ⟨_, o', ho', hall⟩ := mem_ready.1 hj
    rw [hk] at ho'; injection ho' with ho'; subst ho'
    exact hall e he hb
  · rw [getD_set_ne false (Ne.symm hkj)] at hL
    exact h k o hk hL e he hb
def wpAnyS (P : Program) (ops : Array Oper) (Q : Exit → Act → World → Prop) (S : Array Bool → World → Prop) : Nat → Array Bool → Act → World → Prop
  | 0, L, a, w => Region.ready .any ops L = [] ∧ Q .normal a w
  | fuel + 1, L, a, w => (Region.ready .any ops L = [] → Q .normal a w) ∧ ∀ i ∈ Region.ready .any ops L, wpOp P ops Q i (fun a' w' => S (L.setIfInBounds i true) w' ∧ wpAnyS P ops Q S fuel (L.setIfInBounds i true) a' w') a w
theorem wpAny_of_S : ∀ (fuel : Nat) (L : Array Bool) (a : Act) (w : World), wpAnyS P ops Q S fuel L a w → wpAny P .any ops Q fuel L a w
  | 0, _, _, _, h => h
  | fuel + 1, _, _, _, h => ⟨h.1, fun i hi => wpOp_mono (fun a' w' h' => wpAny_of_S fuel _ a' w' h'.2) (h.2 i hi)⟩
/-- The worlds in which something has not come up yet. -/
def notYet (ops : Array Oper) (S : Array Bool → World → Prop) (i : Nat) (w : World) : Prop := ∃ L, closedR ops L ∧ L.getD i true = false ∧ S L w
theorem wpAnyS_first {i : Nat} {oi : Oper} {v : Value} (hi : ops[i]? = some oi) (hsel : ∀ (j : Nat) (o : Oper) cs b, ops[j]? = some o → o.op ≠ .select cs b)
    (hQ : ∀ c a w, Q (.panic c) (a.put oi.dst v) w → Q (.panic c) a w) (hSi : ∀ L w, S (L.setIfInBounds i true) w ↔ S L w) :
    ∀ (fuel : Nat) (L : Array Bool) (a : Act) (w : World),
      (∀ j oj, ops[j]? = some oj → j ≠ i → L.getD j true = false → (∀ e ∈ oj.after, Region.binds .any e = true → e.on ≠ i) → oi.apart ops oj = true) →
      closedR ops L → i ∈ Region.ready .any ops L → YieldsIf P ops (notYet ops S i) oi v a → S L w →
      wpAnyS P ops Q S fuel (L.setIfInBounds i true) (a.put oi.dst v) w → wpAnyS P ops Q S (fuel + 1) L a w := by
  intro fuel
  induction fuel with
  | zero =>
    intro L a w _ hcl hr hy hS H
    refine ⟨fun h => (by rw [h] at hr; cases hr), fun j hj => ?_⟩
    by_cases hji : j = i
    · subst hji; exact hy.wpOp hi ⟨L, hcl, (mem_ready.1 hr).1, hS⟩ ⟨(hSi _ _).2 hS, H⟩
    · have := ready_mono hj hji
      rw [H.1] at this
      cases this
  | succ fuel ih =>
    intro L a w hfree hcl hr hy hS H
    refine ⟨fun h => (by rw [h] at hr; cases hr), fun j hj => ?_⟩
    by_cases hji : j = i
    · subst hji; exact hy.wpOp hi ⟨L, hcl, (mem_ready.1 hr).1, hS⟩ ⟨(hSi _ _).2 hS, H⟩
    · have h1 := H.2 j (ready_mono hj hji)
      obtain ⟨hjun, oj, hoj, hall⟩ := mem_ready.1 hj
      have hnot : ∀ e ∈ oj.after, Region.binds .any e = true → e.on ≠ i := fun e he hb heq => by
        have h1 := hall e he hb
        have h0 := (mem_ready.1 hr).1
        rw [heq] at h1
        rcases Nat.lt_or_ge i L.size with h' | h'
        · simp [h'] at h0 h1; rw [h0] at h1; cases h1
        · simp [Array.getElem?_eq_none h'] at h1
      have h2 := wpOp_putIf hoj (hfree j oj hoj hji hjun hnot) (fun cs b => hsel i oi cs b hi) (fun cs b => hsel j oj cs b hoj) hQ hy h1
      have hfree' : ∀ k ok, ops[k]? = some ok → k ≠ i → (L.setIfInBounds j true).getD k true = false →
          (∀ e ∈ ok.after, Region.binds .any e = true → e.on ≠ i) → oi.apart ops ok = true := fun k ok hk hki hun hno => by
        refine hfree k ok hk hki ?_ hno
        by_cases hjk : j = k
        · subst hjk; exact hjun
        · rw [getD_set_ne true hjk] at hun; exact hun
      refine wpOp_mono (fun a' w' h3 => ?_) h2
      obtain ⟨h4, h5, h6⟩ := h3
      rw [Array.setIfInBounds_comm _ _ (Ne.symm hji)] at h5
      have h5 := (hSi _ _).1 h5
      refine ⟨h5, ih (L.setIfInBounds j true) a' w' hfree' (closedR_set hcl hj) (ready_mono hr (Ne.symm hji)) h4 h5 ?_⟩
      rw [Array.setIfInBounds_comm _ _ hji]
      exact h6
theorem wpAnyS_take {i : Nat} {oi : Oper} {v : Value} {fuel : Nat} {L : Array Bool} {a : Act} {w : World} (hi : ops[i]? = some oi)
    (hs : Region.noSelect ops = true) (hf : Region.free .any ops L i = true) (hcl : closedR ops L) (hr : (Region.ready .any ops L).contains i = true)
    (hQ : ∀ c a w, Q (.panic c) (a.put oi.dst v) w → Q (.panic c) a w) (hSi : ∀ L w, S (L.setIfInBounds i true) w ↔ S L w) (hy : YieldsIf P ops (notYet ops S i) oi v a) (hS : S L w)
    (h : wpAnyS P ops Q S fuel (L.setIfInBounds i true) (a.put oi.dst v) w) : wpAnyS P ops Q S (fuel + 1) L a w :=
  wpAnyS_first hi (Region.noSelect_spec hs) hQ hSi fuel L a w (Region.free_spec hi hf) hcl (by simpa using hr) hy hS h
theorem wpAnyS_all {rs : List Nat} {fuel : Nat} {L : Array Bool} {a : Act} {w : World} (hr : Region.ready .any ops L = rs) (hne : rs ≠ [])
    (h : ∀ i ∈ rs, wpOp P ops Q i (fun a' w' => S (L.setIfInBounds i true) w' ∧ wpAnyS P ops Q S fuel (L.setIfInBounds i true) a' w') a w) : wpAnyS P ops Q S (fuel + 1) L a w :=
  ⟨fun h0 => absurd (hr ▸ h0) hne, hr ▸ h⟩
theorem wpAnyS_done {L : Array Bool} {a : Act} {w : World} (hr : Region.ready .any ops L = []) (h : Q .normal a w) : ∀ fuel, wpAnyS P ops Q S fuel L a w
  | 0 => ⟨hr, h⟩
  | _ + 1 => ⟨fun _ => h, by rw [hr]; simp⟩
theorem wp_region_S {id : Nat} {a : Act} {w : World} (hm : P.follows .mixedOrders = true)
    (h : wpAnyS P ops Q S ops.size (Array.replicate ops.size false) a { w with drawn := w.drawn + 1 }) : (Code.region id ops true).wp P Q a w :=
  wp_region_any hm (wpAny_of_S _ _ _ _ h)
/-! ### What all stores wait for -/
def isSt (o : Oper) : Bool := match o.op with
  | .store .. => true
  | _ => false
/-- A set of numbers, as bits. -/
def needOf (acc : List Nat) : List Edge → Nat → Nat
  | [], s => s
  | e :: r, s => match Region.binds .any e with
    | true => needOf acc r (s ||| (2 ^ e.on ||| acc.getD e.on 0))
    | false => needOf acc r s
def needAcc : List Oper → List Nat → List Nat
  | [], acc => acc
  | o :: r, acc => needAcc r (acc ++ [needOf acc o.after.toList 0])
/-- The numbers of those that each store waits for. -/
def earlyAll : List Oper → List Nat → Nat → Nat
  | o :: r, n :: l, s => match isSt o with
    | true => earlyAll r l (s &&& n)
    | false => earlyAll r l s
  | _, _, s => s
def anySt : List Oper → List Bool → Bool
  | o :: r, b :: l => (isSt o && b) || anySt r l
  | _, _ => false
/-- Each of them waits for those in its set. -/
def okNeed (ops : Array Oper) (acc : List Nat) : Prop := ∀ (k i : Nat), (acc.getD k 0).testBit i = true → ∀ L, closedR ops L → L.getD k false = true → L.getD i false = true
theorem needOf_ok {acc : List Nat} (ha : okNeed ops acc) {L : Array Bool} (hcl : closedR ops L) : ∀ (es : List Edge) (s : Nat), (∀ e ∈ es, Region.binds .any e = true → L.getD e.on false = true) → (∀ i, s.testBit i = true → L.getD i false = true) → ∀ i, (needOf acc es s).testBit i = true → L.getD i false = true
  | [], _, _, hs, i, h => hs i h
  | e :: r, s, he, hs, i, h => by
    rw [needOf] at h
    split at h
    · rename_i hb
      have hon := he e (by simp) hb
      refine needOf_ok ha hcl r _ (fun e' he' => he e' (by simp [he'])) (fun q hq => ?_) i h
      rw [Nat.testBit_or, Nat.testBit_or, Bool.or_eq_true, Bool.or_eq_true] at hq
      rcases hq with hq | hq | hq
      · exact hs q hq
      · rw [Nat.testBit_two_pow] at hq
        have : e.on = q := by simpa using hq
        rw [← this]; exact hon
      · exact ha e.on q hq L hcl hon
    · exact needOf_ok ha hcl r _ (fun e' he' => he e' (by simp [he'])) hs i h
theorem needAcc_ok : ∀ (l : List Oper) (acc : List Nat), (∀ k o, l[k]? = some o → ops[acc.length + k]? = some o) → okNeed ops acc → okNeed ops (needAcc l acc)
  | [], _, _, h => h
  | o :: r, acc, hl, h => by
    rw [needAcc]
    refine needAcc_ok r _ (fun k o' hk => ?_) ?_
    · rw [List.length_append, List.length_singleton, Nat.add_assoc, Nat.add_comm 1 k]
      exact hl (k + 1) o' hk
    · intro k i hb L hcl hL
      rw [List.getD_eq_getElem?_getD, List.getElem?_append] at hb
      split at hb
      · exact h k i (by rw [List.getD_eq_getElem?_getD]; exact hb) L hcl hL
      · rename_i hk
        have hk2 : k - acc.length = 0 ∨ k - acc.length ≠ 0 := by omega
        rcases hk2 with hk2 | hk2
        · rw [hk2] at hb
          have hkk : k = acc.length := by omega
          have ho := hl 0 o rfl
          rw [Nat.add_zero, ← hkk] at ho
          exact needOf_ok h hcl o.after.toList 0 (fun e he hbi => hcl k o ho hL e (by simpa using he) hbi) (fun q hq => by simp at hq) i (by simpa using hb)
        · rw [List.getElem?_eq_none (by simp; omega)] at hb
          simp at hb
theorem earlyAll_ok : ∀ (l : List Oper) (ns : List Nat) (s i : Nat), (earlyAll l ns s).testBit i = true → s.testBit i = true ∧ ∀ k o, l[k]? = some o → isSt o = true → k < ns.length → (ns.getD k 0).testBit i = true
  | [], ns, s, i, h => ⟨by cases ns <;> exact h, fun k o hk => by cases hk⟩
  | o :: r, [], s, i, h => ⟨h, fun k o' hk _ hlt => by simp at hlt⟩
  | o :: r, n :: ns, s, i, h => by
    rw [earlyAll] at h
    split at h
    · rename_i hs
      obtain ⟨h1, h2⟩ := earlyAll_ok r ns _ i h
      rw [Nat.testBit_and, Bool.and_eq_true] at h1
      refine ⟨h1.1, fun k o' hk ho hlt => ?_⟩
      cases k with
      | zero => exact h1.2
      | succ k => exact h2 k o' hk ho (by simpa using hlt)
    · rename_i hs
      obtain ⟨h1, h2⟩ := earlyAll_ok r ns _ i h
      refine ⟨h1, fun k o' hk ho hlt => ?_⟩
      cases k with
      | zero => simp only [List.getElem?_cons_zero, Option.some.injEq] at hk; subst hk; rw [ho] at hs; cases hs
      | succ k => exact h2 k o' hk ho (by simpa using hlt)
theorem anySt_ok : ∀ (l : List Oper) (bs : List Bool), anySt l bs = true → ∃ (k : Nat) (o : Oper), l[k]? = some o ∧ isSt o = true ∧ bs[k]? = some true
  | [], _, h => by simp [anySt] at h
  | o :: r, [], h => by simp [anySt] at h
  | o :: r, b :: l, h => by
    rw [anySt, Bool.or_eq_true, Bool.and_eq_true] at h
    rcases h with h | h
    · exact ⟨0, o, rfl, h.1, by rw [h.2]; rfl⟩
    · obtain ⟨k, o', h1, h2, h3⟩ := anySt_ok r l h
      exact ⟨k + 1, o', h1, h2, h3⟩
theorem anySt_set : ∀ (l : List Oper) (bs : List Bool) (i : Nat), (∀ o, l[i]? = some o → isSt o = false) → anySt l (bs.set i true) = anySt l bs
  | [], bs, i, _ => by cases bs <;> cases i <;> rfl
  | o :: r, [], i, _ => by cases i <;> rfl
  | o :: r, b :: l, 0, h => by
    have := h o rfl
    rw [List.set_cons_zero, anySt, anySt, this]; rfl
  | o :: r, b :: l, i + 1, h => by
    rw [List.set_cons_succ, anySt, anySt, anySt_set r l i fun o ho => h o ho]
end

def isLd (o : Oper) : Bool := match o.op with
  | .load .. => true
  | _ => false
/-- Is that the place of an element, told in the region? -/
def idxDst (l : List Oper) : Operand → Bool
  | .tmp t => l.any fun o => match o.op, o.dst with
    | .indexAddr .., some d => Nat.beq d t
    | _, _ => false
  | _ => false
def hasIS (l : List Oper) : Bool := l.any fun o => match o.op with
  | .store _ x _ => idxDst l x
  | _ => false
/-- Is something of the program called? -/
def hasUC (l : List Oper) : Bool := l.any fun o => match o.op with
  | .call c => (match c.callee with | .value _ => true | _ => false)
  | _ => false
def mvOf (l : List Oper) (t : Nat) : Option Nat := l.findSome? fun o => match o.op, o.dst with
  | .nilCheck (.tmp u), some d => (match Nat.beq d t with | true => some u | false => none)
  | .move (.tmp u), some d => (match Nat.beq d t with | true => some u | false => none)
  | _, _ => none
def fdOf (l : List Oper) (t : Nat) : Option (Nat × Nat × Nat) := l.findSome? fun o => match o.op, o.dst with
  | .fieldAddr T (.tmp b) k, some d => (match Nat.beq d t with | true => some (T, b, k) | false => none)
  | _, _ => none
/-- The way to a field. -/
def pathT (l : List Oper) : Nat → Nat → List Nat
  | 0, t => [t]
  | f + 1, t => match fdOf l t with
    | some (T, b, k) => T :: k :: pathT l f b
    | none => match mvOf l t with
      | some u => pathT l f u
      | none => [t]
def fldKey (l : List Oper) : Operand → List Nat
  | .tmp t => match fdOf l t with
    | some _ => pathT l 8 t
    | none => []
  | _ => []
def eqL : List Nat → List Nat → Bool
  | [], [] => true
  | a :: x, b :: y => Nat.beq a b && eqL x y
  | _, _ => false
/-- Is that field stored too, where something of the program is called? -/
def selfSt (l : List Oper) (x : Operand) : Bool := hasUC l && (match fldKey l x with
  | [] => false
  | a :: r => l.any fun o => match o.op with
    | .store _ p _ => eqL (a :: r) (fldKey l p)
    | _ => false)
/-- A load that may be taken ahead: but where elements are stored none of elements is, and no field that is stored itself. -/
def isLdQ (l : List Oper) (o : Oper) : Bool := match o.op with
  | .load _ x => match idxDst l x with
    | true => !hasIS l
    | false => !selfSt l x
  | _ => false
/-- Those loads that each store waits for: told where there are two of them and more that may not be taken ahead. -/
def loudE (l : List Oper) (E : Nat) : List Oper → Nat → Nat
  | [], _ => 0
  | o :: r, i => match isLd o && !isLdQ l o && E.testBit i with
    | true => loudE l E r (i + 1) + 1
    | false => loudE l E r (i + 1)
def earlyS (ops : Array Oper) : Nat :=
  let E := earlyAll ops.toList (needAcc ops.toList []) (2 ^ ops.size - 1)
  match Nat.ble 2 (loudE ops.toList E ops.toList 0) with
  | true => E
  | false => 0
/-- The first of those that may come next that only reads or reckons. -/
def pickQ (P : Program) (ops : Array Oper) (E : Nat) : List Nat → Option Nat
  | [] => none
  | i :: r => match ops[i]? with
    | some o => match isQ P o || isLdQ ops.toList o || (isLd o && E.testBit i) with
      | true => some i
      | false => pickQ P ops E r
    | none => pickQ P ops E r
def allE : List Nat → (Nat → Prop) → Prop
  | [], _ => True
  | [i], p => p i
  | i :: r, p => p i ∧ allE r p
theorem allE_mem {p : Nat → Prop} : ∀ {l : List Nat}, allE l p → ∀ i ∈ l, p i
  | [i], h, j, hj => by simp at hj; subst hj; exact h
  | i :: j :: r, h, k, hk => by
    rcases List.mem_cons.1 hk with rfl | hk
    · exact h.1
    · exact allE_mem h.2 k hk
def guardG (ops : Array Oper) (σ : Env) (o : Oper) (A : Env → Prop) (B : Env → Prop) : Prop := match o.guard with
  | none => A σ
  | some g => gIf (guardB ops σ g) (A (setG ops σ g true)) (B (setG ops σ g false))
/-- A step that only reads or reckons: k is told its value. -/
def quietG (P : Program) (l : List Oper) (B B1 : World → Prop) (o : Oper) (σ : Env) (k : Value → Prop) : Prop := match isQ P o with
  | true => qvG P o σ k
  | false => match o.op with
    | .load t x => match isLdQ l o with
      | true => gLoadB P t (shOf P t) (evO σ x) B (tlam _ fun vs => k ((shOf P t).mk vs))
      | false => gLoadB P t (shOf P t) (evO σ x) B1 (tlam _ fun vs => k ((shOf P t).mk vs))
    | _ => False
/-- What is kept, as long as nothing was stored, and behind that. -/
def heldG (E : Nat) (ops : Array Oper) (L : Array Bool) (B B1 : World → Prop) (w : World) : Prop := match E with
  | 0 => B w
  | _ => match anySt ops.toList L.toList with
    | true => B w
    | false => B w ∧ B1 w
def drawF (P : Program) (ops : Array Oper) (E : Nat) (B B1 : World → Prop) (K : Env → World → Prop) : Nat → Array Bool → Env → World → Prop
  | 0, L, σ, w => match Region.ready .any ops L with
    | [] => K σ w
    | _ => False
  | n + 1, L, σ, w => match Region.ready .any ops L with
    | [] => K σ w
    | i :: r => match pickQ P ops E (i :: r) with
      | some j => match ops[j]?, Region.free .any ops L j with
        | some o, true => guardG ops σ o (fun σ => quietG P ops.toList B B1 o σ fun v => drawF P ops E B B1 K n (L.setIfInBounds j true) (updO σ o.dst v) w) (fun σ => drawF P ops E B B1 K n (L.setIfInBounds j true) (updO σ o.dst undef) w)
        | _, _ => False
      | none => allE (i :: r) fun j => match ops[j]? with
        | some o => guardG ops σ o (fun σ => opG P o σ w fun v w' => heldG E ops (L.setIfInBounds j true) B B1 w' ∧ drawF P ops E B B1 K n (L.setIfInBounds j true) (updO σ o.dst v) w') (fun σ => drawF P ops E B B1 K n (L.setIfInBounds j true) (updO σ o.dst undef) w)
        | none => False
/-- Does it hold anything but reads and reckoning? -/
def hasE (P : Program) : List Oper → Bool
  | [] => false
  | o :: r => match isQ P o || isLd o with
    | true => hasE P r
    | false => true
def drawG (P : Program) (ops : Array Oper) (σ : Env) (w : World) (K : Env → World → Prop) : Prop := match Region.noSelect ops with
  | true => match hasE P ops.toList with
    | false => drawF P ops 0 (fun w' => w' = w.drew) (fun _ => True) K ops.size (Array.replicate ops.size false) σ w.drew
    | true => match earlyS ops with
      | 0 => ∃ B : World → Prop, B w.drew ∧ drawF P ops 0 B (fun _ => True) K ops.size (Array.replicate ops.size false) σ w.drew
      | E + 1 => ∃ B B1 : World → Prop, (B w.drew ∧ B1 w.drew) ∧ drawF P ops (E + 1) B B1 K ops.size (Array.replicate ops.size false) σ w.drew
  | false => False
section
variable {P : Program} {ops : Array Oper} {B B1 : World → Prop} {K : Env → World → Prop} {Q : Exit → Act → World → Prop} {n : Nat} {σ₀ : Env} {E : Nat}
/-- Of each in the set: whoever stores waits for it. -/
def earlyOk (ops : Array Oper) (E : Nat) : Prop := ∀ i, E.testBit i = true → ∀ k o, ops[k]? = some o → isSt o = true → ∀ L, closedR ops L → L.getD k false = true → L.getD i false = true
theorem needAcc_len : ∀ (l : List Oper) (acc : List Nat), (needAcc l acc).length = acc.length + l.length
  | [], acc => rfl
  | o :: r, acc => by rw [needAcc, needAcc_len r, List.length_append, List.length_singleton, List.length_cons]; omega
theorem earlyS_ok (ops : Array Oper) : earlyOk ops (earlyS ops) := by
  intro i hi k o hk ho L hcl hL
  unfold earlyS at hi
  dsimp only at hi
  split at hi
  · obtain ⟨_, h2⟩ := earlyAll_ok _ _ _ i hi
    have hkl : k < ops.toList.length := by rw [Array.length_toList]; exact (Array.getElem?_eq_some_iff.1 hk).1
    refine needAcc_ok (ops := ops) ops.toList [] (fun q o' hq => by simpa using hq) (fun q p hb => by simp at hb) k i ?_ L hcl hL
    exact h2 k o (by simpa using hk) ho (by rw [needAcc_len]; simpa using hkl)
  · simp at hi
theorem earlyOk_zero (ops : Array Oper) : earlyOk ops 0 := fun i hi => by simp at hi
theorem quietG_run {o : Oper} {σ : Env} {k : Value → Prop} (h : quietG P ops.toList B B1 o σ k) : ∃ v, (∀ w, B w → (isQ P o = true ∨ isLdQ ops.toList o = true ∨ B1 w) → (execOp (evO σ) o).run P w = .ok (.value v) w) ∧ k v := by
  unfold quietG at h
  split at h
  · obtain ⟨v, hr, hk⟩ := qvG_run h; exact ⟨v, fun w _ _ => hr w, hk⟩
  · rename_i hq
    split at h
    · rename_i t x ho
      split at h
      · obtain ⟨vs, hr, hk⟩ := tex_tlam h
        exact ⟨_, fun w hB _ => by unfold execOp; rw [ho]; exact run_v (hr w hB), hk⟩
      · rename_i hl
        obtain ⟨vs, hr, hk⟩ := tex_tlam h
        refine ⟨_, fun w _ hB => ?_, hk⟩
        have hB1 : B1 w := by
          rcases hB with h | h | h
          · rw [hq] at h; cases h
          · rw [hl] at h; cases h
          · exact h
        unfold execOp; rw [ho]; exact run_v (hr w hB1)
    · exact h.elim
theorem isSt_quiet {o : Oper} {l : List Oper} {b : Bool} (h : (isQ P o || isLdQ l o || (isLd o && b)) = true) : isSt o = false := by
  unfold isSt
  split
  · rename_i t x y ho
    unfold isLdQ isLd at h
    rw [ho] at h
    have : isQ P o = false := by unfold isQ; rw [ho]
    rw [this] at h; cases h
  · rfl
theorem heldG_set {L : Array Bool} {i : Nat} {w : World} (h : ∀ o, ops[i]? = some o → isSt o = false) : heldG E ops (L.setIfInBounds i true) B B1 w ↔ heldG E ops L B B1 w := by
  unfold heldG
  cases E with
  | zero => exact Iff.rfl
  | succ E =>
    rw [Array.toList_setIfInBounds, anySt_set _ _ _ fun o ho => h o (by simpa using ho)]
theorem heldG_B {L : Array Bool} {w : World} (h : heldG E ops L B B1 w) : B w := by
  unfold heldG at h
  split at h
  · exact h
  · split at h
    · exact h
    · exact h.1
theorem anySt_mono : ∀ (l : List Oper) (bs : List Bool) (i : Nat), anySt l (bs.set i true) = false → anySt l bs = false
  | [], bs, i, _ => by cases bs <;> rfl
  | o :: r, [], i, _ => rfl
  | o :: r, b :: l, 0, h => by
    rw [List.set_cons_zero, anySt, Bool.or_eq_false_iff, Bool.and_eq_false_iff] at h
    rw [anySt, Bool.or_eq_false_iff, Bool.and_eq_false_iff]
    refine ⟨.inl ?_, h.2⟩
    rcases h.1 with h1 | h1
    · exact h1
    · cases h1
  | o :: r, b :: l, i + 1, h => by
    rw [List.set_cons_succ, anySt, Bool.or_eq_false_iff] at h
    rw [anySt, Bool.or_eq_false_iff]
    exact ⟨h.1, anySt_mono r l i h.2⟩
theorem heldG_mono {L : Array Bool} {i : Nat} {w : World} (h : heldG E ops L B B1 w) : heldG E ops (L.setIfInBounds i true) B B1 w := by
  have hB := heldG_B h
  cases E with
  | zero => exact hB
  | succ E =>
    unfold heldG at h ⊢
    cases h1 : anySt ops.toList (L.setIfInBounds i true).toList with
    | true => exact hB
    | false =>
      rw [Array.toList_setIfInBounds] at h1
      rw [anySt_mono _ _ _ h1] at h
      exact h
/-- What a store waits for is read ahead of all stores. -/
theorem heldG_B1 {L : Array Bool} {i : Nat} {w : World} (hE : earlyOk ops E) (hcl : closedR ops L) (hi : L.getD i true = false) (hb : E.testBit i = true) (h : heldG E ops L B B1 w) : B1 w := by
  unfold heldG at h
  split at h
  · simp at hb
  · split at h
    · rename_i hany
      obtain ⟨k, o, h1, h2, h3⟩ := anySt_ok _ _ hany
      have := hE i hb k o (by simpa using h1) h2 L hcl (by rw [Array.getElem?_toList] at h3; simp [Array.getD_eq_getD_getElem?, h3])
      rw [Array.getD_eq_getD_getElem?] at this hi
      cases hx : L[i]? with
      | none => rw [hx] at this; cases this
      | some b => rw [hx] at this hi; simp at this hi; rw [this] at hi; cases hi
    · exact h.2
theorem pickQ_spec {j : Nat} : ∀ {l : List Nat}, pickQ P ops E l = some j → j ∈ l ∧ ∃ o, ops[j]? = some o ∧ (isQ P o || isLdQ ops.toList o || (isLd o && E.testBit j)) = true
  | [], h => by cases h
  | x :: l, h => by
    simp only [pickQ] at h
    split at h
    · rename_i o ho
      split at h
      · rename_i hq
        injection h with h; subst h
        exact ⟨by simp, o, ho, hq⟩
      · exact ⟨List.mem_cons_of_mem _ (pickQ_spec h).1, (pickQ_spec h).2⟩
    · exact ⟨List.mem_cons_of_mem _ (pickQ_spec h).1, (pickQ_spec h).2⟩
theorem drawF_wp (hE : earlyOk ops E) (hns : Region.noSelect ops = true) (hp : ∀ c a w, ¬ Q (.panic c) a w) (hn : inB n (dsts ops.toList) = true)
    (hQ : ∀ a σ' w, Rep n a σ' → agree (dsts ops.toList) σ₀ σ' → K σ' w → Q .normal a w) :
    ∀ (f : Nat) (L : Array Bool) (a : Act) (σ : Env) (w : World), Rep n a σ → agree (dsts ops.toList) σ₀ σ → closedR ops L → heldG E ops L B B1 w → drawF P ops E B B1 K f L σ w → wpAnyS P ops Q (fun L w => heldG E ops L B B1 w) f L a w := by
  intro f
  induction f with
  | zero =>
    intro L a σ w hr hag hcl hB h
    simp only [drawF] at h
    split at h
    · rename_i he; exact ⟨he, hQ a σ w hr hag h⟩
    · exact h.elim
  | succ f ih =>
    intro L a σ w hr hag hcl hB h
    have hd : ∀ {i : Nat} {o : Oper}, ops[i]? = some o → ∀ t, o.dst = some t → t < n ∧ t ∈ dsts ops.toList := fun hi t ht => by
      have hm : t ∈ dsts ops.toList := mem_dsts (List.mem_of_getElem? (by simpa using hi)) ht
      exact ⟨inB_lt hn hm, hm⟩
    have next : ∀ {i : Nat} {o : Oper} (v : Value) (w' : World), ops[i]? = some o → i ∈ Region.ready .any ops L → heldG E ops (L.setIfInBounds i true) B B1 w' → drawF P ops E B B1 K f (L.setIfInBounds i true) (updO σ o.dst v) w' → wpAnyS P ops Q (fun L w => heldG E ops L B B1 w) f (L.setIfInBounds i true) (a.put o.dst v) w' :=
      fun v w' hi hrd hB' h' => ih _ _ _ _ (hr.put (fun t ht => (hd hi t ht).1) v) (hag.trans (agree_updO (fun t ht => (hd hi t ht).2) v)) (closedR_set hcl hrd) hB' h'
    simp only [drawF] at h
    split at h
    · rename_i he; exact wpAnyS_done he (hQ a σ w hr hag h) _
    · rename_i i r he
      split at h
      · rename_i j hj
        split at h
        · rename_i o hoj hfree
          obtain ⟨hjm, o', ho', hpq⟩ := pickQ_spec hj
          rw [hoj] at ho'; injection ho' with ho'; subst ho'
          have hrd0 : j ∈ Region.ready .any ops L := by rw [he]; exact hjm
          have hrd : (Region.ready .any ops L).contains j = true := by simpa using hrd0
          have hst : ∀ o', ops[j]? = some o' → isSt o' = false := fun o' ho' => by rw [hoj] at ho'; injection ho' with ho'; subst ho'; exact isSt_quiet hpq
          have hSi : ∀ L w, heldG E ops (L.setIfInBounds j true) B B1 w ↔ heldG E ops L B B1 w := fun L w => heldG_set hst
          have hys : ∀ {σ' : Env} {v : Value}, (∀ w, B w → (isQ P o = true ∨ isLdQ ops.toList o = true ∨ B1 w) → (execOp (evO σ') o).run P w = .ok (.value v) w) → ∀ w, notYet ops (fun L w => heldG E ops L B B1 w) j w → (execOp (evO σ') o).run P w = .ok (.value v) w := fun hrun w ⟨L', hcl', hi', hS'⟩ => by
            refine hrun w (heldG_B hS') ?_
            rw [Bool.or_eq_true, Bool.or_eq_true, Bool.and_eq_true] at hpq
            rcases hpq with (h1 | h1) | h1
            · exact .inl h1
            · exact .inr (.inl h1)
            · exact .inr (.inr (heldG_B1 hE hcl' hi' h1.2 hS'))
          unfold guardG at h
          split at h
          · rename_i hg
            obtain ⟨v, hrun, hk⟩ := quietG_run h
            exact wpAnyS_take hoj hns hfree hcl hrd (fun c a w hq => (hp _ _ _ hq).elim) hSi (.inl ⟨by simp [Region.wanted, hg], fun w hBw => by rw [hr.eval]; exact hys hrun w hBw⟩) hB (next v w hoj hrd0 ((hSi _ _).2 hB) hk)
          · rename_i g hg
            have hw := wanted_guard (ops := ops) hr hg
            unfold gIf at h
            split at h
            · rename_i hb
              rw [setG_eq hb] at h
              obtain ⟨v, hrun, hk⟩ := quietG_run h
              exact wpAnyS_take hoj hns hfree hcl hrd (fun c a w hq => (hp _ _ _ hq).elim) hSi (.inl ⟨hw.trans hb, fun w hBw => by rw [hr.eval]; exact hys hrun w hBw⟩) hB (next v w hoj hrd0 ((hSi _ _).2 hB) hk)
            · rename_i hb
              rw [setG_eq hb] at h
              exact wpAnyS_take hoj hns hfree hcl hrd (fun c a w hq => (hp _ _ _ hq).elim) hSi (.inr ⟨hw.trans hb, rfl⟩) hB (next undef w hoj hrd0 ((hSi _ _).2 hB) h)
        · exact h.elim
      · refine wpAnyS_all he (by simp) fun j hj => ?_
        have hj' := allE_mem h j hj
        have hrd0 : j ∈ Region.ready .any ops L := by rw [he]; exact hj
        unfold wpOp
        split at hj'
        · rename_i o hoj
          rw [hoj]
          dsimp only
          unfold guardG at hj'
          split at hj'
          · rename_i hg
            rw [if_pos (by simp [Region.wanted, hg])]
            exact .inl (opG_wp hr.eval hj' fun v w' hk => ⟨hk.1, next v w' hoj hrd0 hk.1 hk.2⟩)
          · rename_i g hg
            have hw := wanted_guard (ops := ops) hr hg
            unfold gIf at hj'
            split at hj'
            · rename_i hb
              rw [setG_eq hb] at hj'
              rw [if_pos (hw.trans hb)]
              exact .inl (opG_wp hr.eval hj' fun v w' hk => ⟨hk.1, next v w' hoj hrd0 hk.1 hk.2⟩)
            · rename_i hb
              rw [setG_eq hb] at hj'
              rw [if_neg (by rw [hw, hb]; simp)]
              have hB2 : heldG E ops (L.setIfInBounds j true) B B1 w := heldG_mono hB
              exact ⟨hB2, next undef w hoj hrd0 hB2 hj'⟩
        · exact hj'.elim
theorem closedR_start (ops : Array Oper) : closedR ops (Array.replicate ops.size false) := fun k o _ hL => by
  rw [Array.getD_eq_getD_getElem?, Array.getElem?_replicate] at hL
  split at hL <;> cases hL
theorem anySt_start : ∀ (l : List Oper) (n : Nat), anySt l (List.replicate n false) = false
  | [], n => by cases n <;> rfl
  | o :: r, 0 => rfl
  | o :: r, n + 1 => by rw [List.replicate_succ, anySt, Bool.and_false, Bool.false_or, anySt_start r n]
end
theorem drawG_ok {P : Program} (hm : P.follows .mixedOrders = true) : DrawOk P (drawG P) := by
  intro id n ops σ a w K Q hn hr hp hQ h
  unfold drawG at h
  split at h
  · rename_i hns
    split at h
    · exact wp_region_S hm (drawF_wp (B := fun w' => w' = w.drew) (B1 := fun _ => True) (earlyOk_zero ops) hns hp hn hQ _ _ _ _ _ hr (agree.refl _ _) (closedR_start ops) rfl h)
    · split at h
      · obtain ⟨B, hB, h⟩ := h
        exact wp_region_S hm (drawF_wp (earlyOk_zero ops) hns hp hn hQ _ _ _ _ _ hr (agree.refl _ _) (closedR_start ops) hB h)
      · rename_i E hE
        obtain ⟨B, B1, hB, h⟩ := h
        refine wp_region_S hm (drawF_wp (E := E + 1) (by have h0 := earlyS_ok ops; rw [hE] at h0; exact h0) hns hp hn hQ _ _ _ _ _ hr (agree.refl _ _) (closedR_start ops) ?_ h)
        unfold heldG
        rw [Array.toList_replicate, anySt_start]
        exact hB
  · exact h.elim
/-- A call, by what is shown of its function's code. -/
theorem calls_of {P : Program} (hm : P.follows .mixedOrders = true) {An : An} {f : FuncId} {fn : Func} {c : Code} {args : Array Value} {w : World} {R : Ending → World → Prop}
    (hf : P.funcs[f]? = some fn) (hb : fn.body = some c) (hs : args.size + (fn.ntmps - args.size) = fn.ntmps) (hn : inB fn.ntmps (asg c) = true)
    (h : den P (drawG P) An c (retG P fn R) (fun _ _ _ => False) (retG P fn R) (fun t => args.getD t undef) w) : Calls P f args w R :=
  calls_of_den (drawG_ok hm) hf hb hs hn h
end Go.Proofs.YtiimlfgjnapgjaaGreatDoorV

/- Memory: how worlds change (Ch), slices that are read (Sl, Nm) and owned (Ow, ON), structs behind pointers (St), and one lemma a node. -/
namespace Go.Proofs.YtiimlfgjnapgjaaGreatDoorV
open Go Go.RowKit

/-! ### Numbers -/
theorem i64_id {n : Int} (h1 : -9223372036854775808 ≤ n) (h2 : n ≤ 9223372036854775807) : i64 n = n := by simp only [i64, IntKind.wrap, IntKind.signed, IntKind.bits]; simp; omega
theorem u8_def (n : Int) : u8 n = n % 256 := by simp [u8, IntKind.wrap, IntKind.signed, IntKind.bits]
theorem u8_id {n : Int} (h1 : 0 ≤ n) (h2 : n < 256) : u8 n = n := by rw [u8_def]; omega
theorem u32_def (n : Int) : u32 n = n % 4294967296 := by simp [u32, IntKind.wrap, IntKind.signed, IntKind.bits]
theorem u64_def (n : Int) : u64 n = n % 18446744073709551616 := by simp [u64, IntKind.wrap, IntKind.signed, IntKind.bits]
/-- The element at a place; none: 0. -/
def rd (xs : List Int) (i : Int) : Int := xs.getD i.toNat 0
theorem rd_get {xs : List Int} {i : Int} (h0 : 0 ≤ i) (h : i < xs.length) : xs[i.toNat]? = some (rd xs i) := by
  have : i.toNat < xs.length := by omega
  simp [rd, this]
theorem rd_nat (xs : List Int) (i : Nat) (h : i < xs.length) : rd xs i = xs[i] := by simp [rd, h]

/-! ### How worlds change -/
abbrev SS := Nat → Nat → Prop
abbrev No : SS := fun _ _ => False
/-- What stood outside S is as it was; blocks keep their shape. -/
structure Ch (S : SS) (w w' : World) : Prop where
  os : w'.os = w.os
  tape : w'.tape = w.tape
  output : w'.output = w.output
  size : w.heap.size ≤ w'.heap.size
  blk : ∀ k, k < w.heap.size → (∀ i, ¬ S k i) → w'.heap[k]? = w.heap[k]?
  cel : ∀ k c e f, w.heap[k]? = some (.cells c e f) → ∃ c', w'.heap[k]? = some (.cells c' e f) ∧ c'.size = c.size ∧ ∀ i, ¬ S k i → c'[i]? = c[i]?
  oth : ∀ (k : Nat) (o : Obj), w.heap[k]? = some o → o.isCells = false → w'.heap[k]? = some o
abbrev Ev (w w' : World) : Prop := Ch No w w'
theorem hlt {w : World} {k : Nat} {o : Obj} (h : w.heap[k]? = some o) : k < w.heap.size := (Array.getElem?_eq_some_iff.1 h).1
theorem Ch.refl (S : SS) (w : World) : Ch S w w := ⟨rfl, rfl, rfl, Nat.le_refl _, fun _ _ _ => rfl, fun _ c _ _ h => ⟨c, h, rfl, fun _ _ => rfl⟩, fun _ _ h _ => h⟩
theorem Ch.mono {S T : SS} {w w' : World} (h : Ch S w w') (hs : ∀ k i, k < w.heap.size → S k i → T k i) : Ch T w w' :=
  ⟨h.os, h.tape, h.output, h.size, fun k hk hn => h.blk k hk fun i hi => hn i (hs k i hk hi), fun k c e f hc =>
    let ⟨c', h1, h2, h3⟩ := h.cel k c e f hc; ⟨c', h1, h2, fun i hi => h3 i fun hh => hi (hs k i (hlt hc) hh)⟩, h.oth⟩
theorem Ch.trans {S T : SS} {a b c : World} (h : Ch S a b) (k : Ch T b c) (hs : ∀ n i, n < a.heap.size → T n i → S n i) : Ch S a c :=
  ⟨k.os.trans h.os, k.tape.trans h.tape, k.output.trans h.output, Nat.le_trans h.size k.size,
    fun n hn hS => (k.blk n (Nat.lt_of_lt_of_le hn h.size) fun i hi => hS i (hs n i hn hi)).trans (h.blk n hn hS),
    fun n x e f hx =>
      let ⟨y, h1, h2, h3⟩ := h.cel n x e f hx
      let ⟨z, k1, k2, k3⟩ := k.cel n y e f h1
      ⟨z, k1, k2.trans h2, fun i hi => (k3 i fun hh => hi (hs n i (hlt hx) hh)).trans (h3 i hi)⟩, fun n o hn ho => k.oth n o (h.oth n o hn ho) ho⟩
theorem ne_cells {w : World} {k g : Nat} {o : Obj} {c : Array Value} {e : TypeId} {f : Nat × Nat} (hg : w.heap[g]? = some (.cells c e f)) (hk : w.heap[k]? = some o) (ho : o.isCells = false) : k ≠ g := by
  rintro rfl; rw [hg] at hk; injection hk with hk; subst hk; cases ho
theorem Ch.others {S : SS} {w w' : World} (h : Ch S w w') : KeepsOthers w w' := ⟨h.size, h.oth⟩
theorem Ev.trans {a b c : World} (h : Ev a b) (k : Ev b c) : Ev a c := Ch.trans h k fun _ _ _ h => h
/-- What changes new blocks alone changes nothing. -/
theorem Ev.new {T : SS} {a b c : World} (h : Ev a b) (k : Ch T b c) (ht : ∀ n i, T n i → a.heap.size ≤ n) : Ev a c :=
  Ch.trans h k fun n i hn hT => absurd (ht n i hT) (by omega)
theorem Ch.drew {S : SS} {a b : World} (h : Ch S a b) : Ch S a b.drew := ⟨h.os, h.tape, h.output, h.size, h.blk, h.cel, h.oth⟩
theorem Ev.drew {a b : World} (h : Ev a b) : Ev a b.drew := Ch.drew h
theorem Ev.drew0 (w : World) : Ev w w.drew := (Ch.refl No w).drew
theorem Ch.below {w w' : World} (h : Ev w w') : Below w.heap.size w w' := ⟨h.os, h.tape, h.output, h.size, fun k hk => h.blk k hk fun _ h => h⟩
theorem Ev.of_below {w w' : World} (h : Below w.heap.size w w') : Ev w w' :=
  ⟨h.os, h.tape, h.output, h.size, fun k hk _ => h.block k hk, fun k c e f hc => ⟨c, by rw [h.block k (hlt hc), hc], rfl, fun _ _ => rfl⟩, fun k o hk _ => by rw [h.block k (hlt hk), hk]⟩
theorem Ev.alloc (w : World) (o : Obj) : Ev w (w.alloc o) := Ev.of_below ((Below.refl _ w).alloc (Nat.le_refl _) o)
abbrev Bk (b : Nat) : SS := fun k _ => k = b
abbrev Rg (a : Addr) (n : Nat) : SS := fun k i => k = a.block ∧ a.off ≤ i ∧ i < a.off + n
/-- The block of a slice. -/
abbrev Ob (v : Value) : SS := fun k _ => v.ownBlock = some k
theorem Ch.cell {S : SS} {w w' : World} (h : Ch S w w') {a : Addr} {u : Value} (hc : w.cell? a = some u) (hs : ¬ S a.block a.off) : w'.cell? a = some u := by
  unfold World.cell? at hc ⊢
  split at hc
  · rename_i c e f hb
    obtain ⟨c', h1, _, h3⟩ := h.cel _ _ _ _ hb
    rw [h1]
    dsimp only
    split at hc
    · cases hc
    · rename_i hsp
      rw [if_neg hsp, h3 _ hs]; exact hc
  · cases hc

/-! ### Slices that are read -/
def Sl (w : World) (sz : Nat) (v : Value) (n : Nat) (cs : List Value) : Prop :=
  ∃ a c, v = .slice a n c ∧ n ≤ c ∧ cs.length = n * sz ∧ (∀ ad, a = some ad → ∀ j u, cs[j]? = some u → w.cell? (ad.add j) = some u) ∧ (a = none → n = 0)
def inR (k : IntKind) (xs : List Int) : Prop := ∀ x ∈ xs, k.min ≤ x ∧ x ≤ k.max
/-- A slice of numbers of a kind reads as a list. -/
def Nm (k : IntKind) (w : World) (v : Value) (xs : List Int) : Prop := Sl w 1 v xs.length (xs.map (.int k)) ∧ inR k xs
theorem inR.u8 {xs : List Int} (h : inR .u8 xs) {x : Int} (hx : x ∈ xs) : 0 ≤ x ∧ x < 256 := by
  have := h x hx; simp [IntKind.min, IntKind.max, IntKind.signed, IntKind.bits] at this; omega
theorem rd_u8 {xs : List Int} (h : inR .u8 xs) (i : Int) : 0 ≤ rd xs i ∧ rd xs i < 256 := by
  by_cases hi : i.toNat < xs.length
  · have : rd xs i ∈ xs := by simp [rd, hi]
    exact h.u8 this
  · simp [rd, List.getD_eq_getElem?_getD, List.getElem?_eq_none (Nat.le_of_not_lt hi)]
theorem Sl.ch {S : SS} {w w' : World} {sz n : Nat} {v : Value} {cs : List Value} (h : Sl w sz v n cs) (hc : Ch S w w') (hs : ∀ g i, v.ownBlock = some g → ¬ S g i) : Sl w' sz v n cs := by
  obtain ⟨a, c, rfl, h1, h2, h3, h4⟩ := h
  refine ⟨a, c, rfl, h1, h2, fun ad ha j u hj => hc.cell (h3 ad ha j u hj) ?_, h4⟩
  subst ha
  have : (ad.add j).block = ad.block := by unfold Addr.add; split <;> rfl
  rw [this]
  exact hs _ _ rfl
theorem Sl.ev {w w' : World} {sz n : Nat} {v : Value} {cs : List Value} (h : Sl w sz v n cs) (hc : Ev w w') : Sl w' sz v n cs := h.ch hc fun _ _ _ h => h
theorem Nm.ch {k : IntKind} {S : SS} {w w' : World} {v : Value} {xs : List Int} (h : Nm k w v xs) (hc : Ch S w w') (hs : ∀ g i, v.ownBlock = some g → ¬ S g i) : Nm k w' v xs := ⟨h.1.ch hc hs, h.2⟩
theorem Nm.ev {k : IntKind} {w w' : World} {v : Value} {xs : List Int} (h : Nm k w v xs) (hc : Ev w w') : Nm k w' v xs := ⟨h.1.ev hc, h.2⟩
theorem Nm.drew {k : IntKind} {w : World} {v : Value} {xs : List Int} (h : Nm k w v xs) : Nm k w.drew v xs := h
theorem Nm.nil (k : IntKind) (w : World) : Nm k w (.slice none 0 0) [] := ⟨⟨none, 0, rfl, Nat.le_refl _, rfl, (fun _ h => by cases h), fun _ => rfl⟩, fun _ h => by cases h⟩
theorem Nm.shape {k : IntKind} {w : World} {v : Value} {xs : List Int} (h : Nm k w v xs) : ∃ a c, v = .slice a xs.length c ∧ xs.length ≤ c := let ⟨a, c, h1, h2, _⟩ := h.1; ⟨a, c, h1, h2⟩
theorem Nm.one {k : IntKind} {w : World} {v : Value} {xs : List Int} (h : Nm k w v xs) : v.cells = #[v] := by obtain ⟨a, c, rfl, _⟩ := h.shape; rfl
/-- Its block is there. -/
theorem Nm.old {k : IntKind} {w : World} {v : Value} {xs : List Int} (h : Nm k w v xs) (hp : xs ≠ []) {g : Nat} (hg : v.ownBlock = some g) : g < w.heap.size := by
  obtain ⟨a, c, rfl, h1, h2, h3, h4⟩ := h.1
  cases a with
  | none => cases hg
  | some ad =>
    simp only [Value.ownBlock, Option.some.injEq] at hg
    subst hg
    obtain ⟨x, r, rfl⟩ := List.exists_cons_of_ne_nil hp
    have := World.block_lt_of_cell? w _ (h3 ad rfl 0 (.int k x) rfl)
    rwa [Addr.add_zero'] at this

/-! ### Slices of one's own -/
/-- A slice of numbers of one's own, in a block from B on. -/
def ON (k : IntKind) (e : TypeId) (w : World) (B : Nat) (v : Value) (xs : List Int) : Prop := w.ownsRow B e 1 v xs.length (xs.map (.int k)) ∧ inR k xs
theorem ON.nil (k : IntKind) (e : TypeId) (w : World) (B : Nat) : ON k e w B (.slice none 0 0) [] := ⟨World.ownsRow_nil w B e 1, fun _ h => by cases h⟩
theorem ON.nm {k : IntKind} {e : TypeId} {w : World} {B : Nat} {v : Value} {xs : List Int} (h : ON k e w B v xs) : Nm k w v xs := by
  refine ⟨?_, h.2⟩
  obtain ⟨h1, h2⟩ := h.1
  rcases h2 with ⟨rfl, h0⟩ | ⟨g, cap, cur, rfl, hb, hg, hn, hm, hs, ht⟩
  · exact ⟨none, 0, by rw [h0], by omega, h1, (fun _ h => by cases h), fun _ => h0⟩
  · refine ⟨some ⟨g, 0, none⟩, cap, rfl, hn, h1, fun ad ha j u hj => ?_, fun h => by cases h⟩
    injection ha with ha; subst ha
    exact World.ownsRow.cells h.1 (g := g) rfl j u hj
theorem ON.ch {k : IntKind} {e : TypeId} {S : SS} {w w' : World} {B : Nat} {v : Value} {xs : List Int} (h : ON k e w B v xs) (hc : Ch S w w') (hs : ∀ g i, v.ownBlock = some g → ¬ S g i) : ON k e w' B v xs := by
  refine ⟨⟨h.1.1, ?_⟩, h.2⟩
  rcases h.1.2 with hn | ⟨g, cap, cur, rfl, hb, hg, r⟩
  · exact .inl hn
  · exact .inr ⟨g, cap, cur, rfl, hb, by rw [hc.blk g (hlt hg) (fun i => hs g i rfl)]; exact hg, r⟩
theorem ON.ev {k : IntKind} {e : TypeId} {w w' : World} {B : Nat} {v : Value} {xs : List Int} (h : ON k e w B v xs) (hc : Ev w w') : ON k e w' B v xs := h.ch hc fun _ _ _ h => h
theorem ON.drew {k : IntKind} {e : TypeId} {w : World} {B : Nat} {v : Value} {xs : List Int} (h : ON k e w B v xs) : ON k e w.drew B v xs := h
theorem ON.base {k : IntKind} {e : TypeId} {w : World} {B : Nat} {v : Value} {xs : List Int} (h : ON k e w B v xs) {g : Nat} (hg : v.ownBlock = some g) : B ≤ g ∧ g < w.heap.size := h.1.lt g hg
theorem ON.low {k : IntKind} {e : TypeId} {w : World} {B B' : Nat} {v : Value} {xs : List Int} (h : ON k e w B v xs) (hb : B' ≤ B) : ON k e w B' v xs := by
  refine ⟨⟨h.1.1, ?_⟩, h.2⟩
  rcases h.1.2 with hn | ⟨g, cap, cur, hv, hb', r⟩
  · exact .inl hn
  · exact .inr ⟨g, cap, cur, hv, Nat.le_trans hb hb', r⟩
theorem ON.one {k : IntKind} {e : TypeId} {w : World} {B : Nat} {v : Value} {xs : List Int} (h : ON k e w B v xs) : v.cells = #[v] := h.nm.one

/-! ### Structs behind pointers -/
/-- At ad stand these cells; they may be written. -/
def St (w : World) (ad : Addr) (cs : List Value) : Prop := ad.spot = none ∧ ∃ c e, w.heap[ad.block]? = some (.cells c e (0, 0)) ∧ ∀ j u, cs[j]? = some u → c[ad.off + j]? = some u
theorem St.ch {S : SS} {w w' : World} {ad : Addr} {cs : List Value} (h : St w ad cs) (hc : Ch S w w') (hs : ∀ j, j < cs.length → ¬ S ad.block (ad.off + j)) : St w' ad cs := by
  obtain ⟨h0, c, e, h1, h2⟩ := h
  obtain ⟨c', k1, _, k3⟩ := hc.cel _ _ _ _ h1
  refine ⟨h0, c', e, k1, fun j u hj => ?_⟩
  rw [k3 _ (hs j (List.getElem?_eq_some_iff.1 hj).1)]; exact h2 j u hj
theorem St.ev {w w' : World} {ad : Addr} {cs : List Value} (h : St w ad cs) (hc : Ev w w') : St w' ad cs := h.ch hc fun _ _ h => h
theorem St.drew {w : World} {ad : Addr} {cs : List Value} (h : St w ad cs) : St w.drew ad cs := h
theorem St.lt {w : World} {ad : Addr} {cs : List Value} (h : St w ad cs) : ad.block < w.heap.size := let ⟨_, _, _, h1, _⟩ := h; hlt h1
theorem Addr.add_none {ad : Addr} (h : ad.spot = none) (n : Nat) : ad.add n = ⟨ad.block, ad.off + n, none⟩ := by obtain ⟨b, o, s⟩ := ad; cases h; exact Addr.add_lit b o n
theorem St.cell {w : World} {ad : Addr} {cs : List Value} (h : St w ad cs) {j : Nat} {u : Value} (hj : cs[j]? = some u) : w.cell? (ad.add j) = some u := by
  obtain ⟨h0, c, e, h1, h2⟩ := h
  rw [Addr.add_none h0]
  simp [World.cell?, h1, h2 j u hj]
theorem St.sub {w : World} {ad : Addr} {cs : List Value} (h : St w ad cs) (k n : Nat) : St w (ad.add k) ((cs.drop k).take n) := by
  obtain ⟨h0, c, e, h1, h2⟩ := h
  rw [Addr.add_none h0]
  refine ⟨rfl, c, e, h1, fun j u hj => ?_⟩
  rw [List.getElem?_take] at hj
  split at hj
  · rw [List.getElem?_drop] at hj
    have := h2 _ u hj
    rwa [← Nat.add_assoc] at this
  · cases hj
/-- A struct of whose cells some at its place k are told anew. -/
theorem St.put {S : SS} {w w' : World} {ad : Addr} {cs ds : List Value} {k : Nat} (h : St w ad cs) (hc : Ch S w w') (hd : St w' (ad.add k) ds) (hs : ∀ j, j < cs.length → (j < k ∨ k + ds.length ≤ j) → ¬ S ad.block (ad.off + j)) (hl : k + ds.length ≤ cs.length) :
    St w' ad (cs.take k ++ ds ++ cs.drop (k + ds.length)) := by
  obtain ⟨h0, c, e, h1, h2⟩ := h
  obtain ⟨c', k1, _, k3⟩ := hc.cel _ _ _ _ h1
  obtain ⟨_, c2, e2, d1, d2⟩ := hd
  rw [Addr.add_none h0] at d1 d2
  dsimp only at d1 d2
  rw [k1] at d1
  injection d1 with d1; injection d1 with d1 _ _; subst d1
  refine ⟨h0, c', e, k1, fun j u hj => ?_⟩
  rw [List.append_assoc, List.getElem?_append] at hj
  simp only [List.length_take] at hj
  split at hj
  · rename_i hlt
    rw [List.getElem?_take] at hj
    split at hj
    · rw [k3 _ (hs j (by omega) (.inl (by omega)))]; exact h2 j u hj
    · cases hj
  · rename_i hge
    rw [List.getElem?_append] at hj
    split at hj
    · have := d2 _ u hj
      rwa [show ad.off + k + (j - min k cs.length) = ad.off + j by omega] at this
    · rw [List.getElem?_drop] at hj
      have hj' : cs[j]? = some u := by rw [← hj]; congr 1; omega
      have hlt := (List.getElem?_eq_some_iff.1 hj').1
      rw [k3 _ (hs j hlt (.inr (by omega)))]; exact h2 j u hj'
end Go.Proofs.YtiimlfgjnapgjaaGreatDoorV

/- One lemma a node: how each piece of a shallow form is shown. -/
namespace Go.Proofs.YtiimlfgjnapgjaaGreatDoorV
open Go Go.RowKit

/-! ### Facts on types, closed by the kernel -/
def slOf (P : Program) (t e : TypeId) : Bool := match P.underlying t with
  | some (.slice e') => Nat.beq e' e
  | _ => false
def flat (P : Program) (t : TypeId) : Bool := match P.underlying t with
  | some (.struct _) | some (.array _ _) => false
  | some _ => true
  | none => false
def flat1 (P : Program) (t : TypeId) : Bool := match P.info? t with
  | some i => Nat.beq i.size 1
  | none => false
/-- A slice of numbers: its element's kind. -/
def slInt (P : Program) (t : TypeId) (k : IntKind) : Bool := match P.underlying t with
  | some (.slice e) => match P.info? e with
    | some i => Nat.beq i.size 1 && Nat.ble i.bytes 8 && Nat.ble 1 i.bytes && (match i.zero with | some (.int k' n) => ikEq k k' && decide (n = 0) | _ => false)
    | none => false
  | _ => false
def elOf (P : Program) (t : TypeId) : TypeId := match P.underlying t with
  | some (.slice e) => e
  | _ => 0
theorem slInt_ok {P : Program} {t : TypeId} {k : IntKind} (h : slInt P t k = true) : P.underlying t = some (.slice (elOf P t)) ∧ ∃ i, P.info? (elOf P t) = some i ∧ i.size = 1 ∧ i.bytes ≤ 8 ∧ 1 ≤ i.bytes ∧ i.zero = some (.int k 0) := by
  unfold slInt at h
  split at h
  · rename_i e he
    have hel : elOf P t = e := by unfold elOf; rw [he]
    rw [hel]
    split at h
    · rename_i i hi
      simp only [Bool.and_eq_true] at h
      obtain ⟨⟨⟨h1, h2⟩, h3⟩, h4⟩ := h
      refine ⟨he, i, hi, Nat.eq_of_beq_eq_true h1, Nat.le_of_ble_eq_true h2, Nat.le_of_ble_eq_true h3, ?_⟩
      split at h4
      · rename_i k' n hz
        simp only [Bool.and_eq_true, decide_eq_true_eq] at h4
        rw [hz, ikEq_eq h4.1, h4.2]
      · cases h4
    · cases h
  · cases h
section
variable {P : Program} {w : World}

/-! ### Tests -/
theorem gIf_of {b : Bool} {A B : Prop} (ha : b = true → A) (hb : b = false → B) : gIf b A B := by cases b; exact hb rfl; exact ha rfl
theorem gIf_dec {p : Prop} [Decidable p] {A B : Prop} (ha : p → A) (hb : ¬ p → B) : gIf (decide p) A B := gIf_of (fun h => ha (of_decide_eq_true h)) (fun h => hb (of_decide_eq_false h))
theorem gIf_ndec {p : Prop} [Decidable p] {A B : Prop} (ha : ¬ p → A) (hb : p → B) : gIf (!decide p) A B := gIf_of (fun h => ha (by simpa using h)) (fun h => hb (by simpa using h))
theorem gIf_eq {a b : Int} {A B : Prop} (ha : a = b → A) (hb : a ≠ b → B) : gIf (a == b) A B := gIf_of (fun h => ha (by simpa using h)) (fun h => hb (by simpa using h))
theorem gIf_neq {a b : Int} {A B : Prop} (ha : a ≠ b → A) (hb : a = b → B) : gIf (a != b) A B := gIf_of (fun h => ha (by simpa using h)) (fun h => hb (by simpa using h))
theorem gIf_nneq {a b : Int} {A B : Prop} (ha : a = b → A) (hb : a ≠ b → B) : gIf (!(a != b)) A B := gIf_of (fun h => ha (by simpa using h)) (fun h => hb (by simpa using h))
theorem gIf_neqq {a b : Int} {A B : Prop} (ha : a ≠ b → A) (hb : a = b → B) : gIf (!(a == b)) A B := gIf_of (fun h => ha (by simpa using h)) (fun h => hb (by simpa using h))
theorem gIf_t {A B : Prop} (h : A) : gIf true A B := h
theorem gIf_f {A B : Prop} (h : B) : gIf false A B := h
theorem gIf_nn {A B : Prop} (h : A) : gIf (!(!true)) A B := h
theorem gIf_nt {A B : Prop} (h : B) : gIf (!true) A B := h
theorem gIf_nf {A B : Prop} (h : A) : gIf (!false) A B := h
/-! ### Calls -/
theorem gCall_of {f : FuncId} {sh : Sh} {args : Array Value} {K : TF sh.cks (World → Prop)} {R : Ending → World → Prop} (h : Calls P f args w R) (hk : ∀ e w', R e w' → retOk sh K e w') : gCall P f sh args w K := h.mono hk
theorem gCallV_of {f : FuncId} {fv : Value} {first cap : Array Value} {sh : Sh} {args : Array Value} {K : TF sh.cks (World → Prop)} {R : Ending → World → Prop} (hv : fv = .func (.func f) first cap) (hok : callOk P f = true) (h : Calls P f (first ++ args ++ cap) w R) (hk : ∀ e w', R e w' → retOk sh K e w') :
    gCallV P fv sh args w K := ⟨f, first, cap, hv, hok, h.mono hk⟩

/-! ### Slices that are read -/
theorem gLen_sl {t : TypeId} {a : Option Addr} {n c : Nat} {K : Nat → Prop} (hk : K n) (ht : slOf P t (elOf P t) = true := by kernel_rfl) : gLen P t (.slice a n c) K := by
  have hu : P.underlying t = some (.slice (elOf P t)) := by unfold slOf at ht; split at ht; rename_i e he; rw [he, Nat.eq_of_beq_eq_true ht]; cases ht
  exact ⟨n, fun w => by simp [Builtin.len_, run_underlying hu, goInt], hk⟩
theorem gLen_nm {t : TypeId} {k : IntKind} {v : Value} {xs : List Int} {K : Nat → Prop} (h : Nm k w v xs) (hk : K xs.length) (ht : slOf P t (elOf P t) = true := by kernel_rfl) : gLen P t v K := by
  obtain ⟨a, c, rfl, _⟩ := h.shape; exact gLen_sl hk ht
theorem gCap_sl {t : TypeId} {a : Option Addr} {n c : Nat} {K : Nat → Prop} (hk : K c) (ht : slOf P t (elOf P t) = true := by kernel_rfl) : gCap P t (.slice a n c) K := by
  have hu : P.underlying t = some (.slice (elOf P t)) := by unfold slOf at ht; split at ht; rename_i e he; rw [he, Nat.eq_of_beq_eq_true ht]; cases ht
  exact ⟨c, fun w => by simp [Builtin.cap_, run_underlying hu, goInt], hk⟩
/-- An element's place, and what stands there. -/
theorem gIdx_nm {t : TypeId} {k ki : IntKind} {v : Value} {xs : List Int} {i : Int} {K : Addr → Prop} (h : Nm k w v xs) (h0 : 0 ≤ i) (h1 : i < xs.length)
    (hk : ∀ ad, w.cell? ad = some (.int k (rd xs i)) → v.ownBlock = some ad.block → K ad) (ht : slInt P t k = true := by kernel_rfl) : gIdx P t v (.int ki i) K := by
  obtain ⟨hu, ii, hi, hsz, _⟩ := slInt_ok ht
  obtain ⟨a, c, rfl, _, _, h3, h4⟩ := h.1
  cases a with
  | none => have := h4 rfl; omega
  | some ad =>
    refine ⟨ad.add i.toNat, fun w => ?_, hk _ ?_ ?_⟩
    · simp only [Instr.indexAt, asIntOf, Sem.run_bind, Sem.run_pure, Result.andThen_ok, run_underlying hu]
      rw [if_pos ⟨h0, h1⟩]
      simp [sizeOf, typeInfo, hi, hsz]
    · exact h3 ad rfl i.toNat _ (by rw [List.getElem?_map, rd_get h0 h1]; rfl)
    · show some ad.block = some (ad.add i.toNat).block
      unfold Addr.add; split <;> rfl
theorem run_loadAt {t : TypeId} {ad : Addr} {u : Value} (hc : w.cell? ad = some u) (ht : flat P t = true) : (Instr.loadAt t (.pointer (some ad))).run P w = .ok u w := by
  have hu : ∃ d, P.underlying t = some d ∧ (match d with | .struct _ | .array _ _ => false | _ => true) = true := by
    unfold flat at ht
    split at ht <;> first | cases ht | skip
    rename_i d h1 h2 h3
    refine ⟨d, h3, ?_⟩
    cases d <;> first | rfl | simp_all
  obtain ⟨d, hu, hd⟩ := hu
  have : (isAgg t).run P w = .ok false w := by
    simp only [isAgg, Sem.run_bind, run_underlying hu, Result.andThen_ok]
    cases d <;> first | rfl | simp_all
  simp only [Instr.loadAt, Instr.sureAddr, loadVar, Sem.run_bind, Sem.run_pure, Result.andThen_ok, this]
  simp [hc]
theorem gLoad_i {t : TypeId} {k : IntKind} {n : Int} {ad : Addr} {K : Int → Prop} (hc : w.cell? ad = some (.int k n)) (hk : K n) (ht : flat P t = true := by kernel_rfl) : gLoad P t (shI k) (.pointer (some ad)) w K := ⟨n, run_loadAt hc ht, hk⟩
theorem gLoad_v {t : TypeId} {v : Value} {ad : Addr} {K : Value → Prop} (hc : w.cell? ad = some v) (hk : K v) (ht : flat P t = true := by kernel_rfl) : gLoad P t shV (.pointer (some ad)) w K := ⟨v, run_loadAt hc ht, hk⟩
theorem gLoad_b {t : TypeId} {v : Bool} {ad : Addr} {K : Bool → Prop} (hc : w.cell? ad = some (.bool v)) (hk : K v) (ht : flat P t = true := by kernel_rfl) : gLoad P t shB (.pointer (some ad)) w K := ⟨v, run_loadAt hc ht, hk⟩
theorem gLoad_s {t : TypeId} {v : ByteArray} {ad : Addr} {K : ByteArray → Prop} (hc : w.cell? ad = some (.string v)) (hk : K v) (ht : flat P t = true := by kernel_rfl) : gLoad P t shS (.pointer (some ad)) w K := ⟨v, run_loadAt hc ht, hk⟩
theorem gLoad_p {t : TypeId} {v : Option Addr} {ad : Addr} {K : Option Addr → Prop} (hc : w.cell? ad = some (.pointer v)) (hk : K v) (ht : flat P t = true := by kernel_rfl) : gLoad P t shP (.pointer (some ad)) w K := ⟨v, run_loadAt hc ht, hk⟩
/-- Loads that hold throughout a region that draws. -/
theorem gLoadB_i {t : TypeId} {k : IntKind} {n : Int} {ad : Addr} {B : World → Prop} {K : Int → Prop} (hc : ∀ w, B w → w.cell? ad = some (.int k n)) (hk : K n) (ht : flat P t = true := by kernel_rfl) : gLoadB P t (shI k) (.pointer (some ad)) B K := ⟨n, fun w hB => run_loadAt (hc w hB) ht, hk⟩
theorem gLoadB_v {t : TypeId} {v : Value} {ad : Addr} {B : World → Prop} {K : Value → Prop} (hc : ∀ w, B w → w.cell? ad = some v) (hk : K v) (ht : flat P t = true := by kernel_rfl) : gLoadB P t shV (.pointer (some ad)) B K := ⟨v, fun w hB => run_loadAt (hc w hB) ht, hk⟩
theorem gLoadB_s {t : TypeId} {v : ByteArray} {ad : Addr} {B : World → Prop} {K : ByteArray → Prop} (hc : ∀ w, B w → w.cell? ad = some (.string v)) (hk : K v) (ht : flat P t = true := by kernel_rfl) : gLoadB P t shS (.pointer (some ad)) B K := ⟨v, fun w hB => run_loadAt (hc w hB) ht, hk⟩
/-- A region that only reads: the one world. -/
theorem at1 {w : World} {ad : Addr} {u : Value} (hc : w.cell? ad = some u) : ∀ w', w' = w.drew → w'.cell? ad = some u := fun w' h => by subst h; exact hc

/-! ### Pointers -/
theorem gNil_some {ad : Addr} {K : Addr → Prop} (hk : K ad) : gNil (some ad) K := ⟨ad, rfl, hk⟩
theorem run_equal_pnil {t e : TypeId} {p : Option Addr} (hu : P.underlying t = some (.pointer e)) : (Op.equal t (.pointer p) (.pointer none)).run P w = .ok p.isNone w := by
  have hm : Op.maxDepth = 9999 + 1 := rfl
  unfold Op.equal
  rw [hm]
  generalize 9999 = d
  unfold Op.equalIn
  simp only [Sem.run_bind, run_underlying hu, Result.andThen_ok]
  cases p <;> rfl
theorem isPtr_ok {t : TypeId} (ht : (match P.underlying t with | some (.pointer _) => true | _ => false) = true) : ∃ e, P.underlying t = some (.pointer e) := by
  split at ht
  · rename_i e he; exact ⟨e, he⟩
  · cases ht
theorem gEq_pnil {t : TypeId} {p : Option Addr} {K : Bool → Prop} (hk : K p.isNone) (ht : (match P.underlying t with | some (.pointer _) => true | _ => false) = true := by kernel_rfl) : gEq P .eql t (.pointer p) (.pointer none) K := by
  obtain ⟨e, hu⟩ := isPtr_ok ht
  refine ⟨p.isNone, fun cx cy w => ⟨by cases p <;> rfl, ?_⟩, hk⟩
  have hb : binOp .eql t (.pointer p) (.pointer none) = (do pure (.bool (← Op.equal t (.pointer p) (.pointer none)))) := by cases p <;> rfl
  rw [hb]; simp only [Sem.run_bind, run_equal_pnil hu, Result.andThen_ok, Sem.run_pure]
theorem gNe_pnil {t : TypeId} {p : Option Addr} {K : Bool → Prop} (hk : K p.isSome) (ht : (match P.underlying t with | some (.pointer _) => true | _ => false) = true := by kernel_rfl) : gEq P .neq t (.pointer p) (.pointer none) K := by
  obtain ⟨e, hu⟩ := isPtr_ok ht
  refine ⟨p.isSome, fun cx cy w => ⟨by cases p <;> rfl, ?_⟩, hk⟩
  have hb : binOp .neq t (.pointer p) (.pointer none) = (do pure (.bool (!(← Op.equal t (.pointer p) (.pointer none))))) := by cases p <;> rfl
  rw [hb]; simp only [Sem.run_bind, run_equal_pnil hu, Result.andThen_ok, Sem.run_pure]
  cases p <;> rfl
/-! ### Making memory -/
theorem St.alloc (w : World) (c : Array Value) (e : TypeId) : St (w.alloc (.cells c e)) ⟨w.heap.size, 0, none⟩ c.toList :=
  ⟨rfl, c, e, heap_alloc_new w _, fun j u hj => by simpa using hj⟩
theorem gBox_of {t : TypeId} {v : Value} {K : Addr → World → Prop} (hk : ∀ ad w', Ev w w' → ad = ⟨w.heap.size, 0, none⟩ → w'.heap.size = w.heap.size + 1 → St w' ad v.cells.toList → K ad w') : gBox P t v w K :=
  ⟨⟨w.heap.size, 0, none⟩, w.alloc (.cells v.cells t), by simp [Instr.box, newVar, newRow], hk _ _ (Ev.alloc w _) rfl (by simp) (St.alloc w _ t)⟩
theorem gAlloc_of {t : TypeId} {z : Value} {K : Addr → World → Prop} (hz : (P.info? t).bind (·.zero) = some z) (hk : ∀ ad w', Ev w w' → ad = ⟨w.heap.size, 0, none⟩ → w'.heap.size = w.heap.size + 1 → St w' ad z.cells.toList → K ad w') : gAlloc P t w K := by
  obtain ⟨i, hi, hz⟩ := Option.bind_eq_some_iff.1 hz
  exact ⟨⟨w.heap.size, 0, none⟩, w.alloc (.cells z.cells t), by simp [Instr.alloc, zeroValue, typeInfo, hi, hz, newVar, newRow], hk _ _ (Ev.alloc w _) rfl (by simp) (St.alloc w _ t)⟩
theorem ownsRow_new (w : World) (e : TypeId) (cs : Array Value) (n c : Nat) (hn : n ≤ c) (hc : c ≤ maxLen) (hs : cs.size = c) {xs : List Value} (hx : cs.toList.take n = xs) (hl : xs.length = n) :
    (w.alloc (.cells cs e)).ownsRow w.heap.size e 1 (.slice (some ⟨w.heap.size, 0, none⟩) n c) n xs :=
  ⟨by omega, .inr ⟨w.heap.size, c, cs, rfl, Nat.le_refl _, heap_alloc_new w _, hn, hc, by omega, by rw [Nat.mul_one]; exact hx⟩⟩
theorem inR_rep (k : IntKind) (n : Nat) : inR k (List.replicate n 0) := fun x hx => by rw [List.eq_of_mem_replicate hx]; cases k <;> decide
/-! ### Stores -/
theorem setCell_ch (w : World) (a : Addr) (u : Value) : Ch (fun k i => k = a.block ∧ i = a.off) w (w.setCell a u) := by
  refine ⟨rfl, rfl, rfl, by simp, fun k hk hn => ?_, fun k c e f hc => ?_, (KeepsOthers.setCell w a u).same⟩
  · exact Below.heap_setCell w a u k fun h => hn a.off ⟨h, rfl⟩
  · by_cases hk : k = a.block
    · subst hk
      refine ⟨if a.spot.isSome then c else c.setIfInBounds a.off u, ?_, ?_, fun i hi => ?_⟩
      · simp only [World.setCell, Array.getElem?_modify, if_true, hc, Option.map_some]
      · split <;> simp
      · have hne : a.off ≠ i := fun e => hi ⟨rfl, e.symm⟩
        split
        · rfl
        · rw [Array.getElem?_setIfInBounds_ne hne]
    · exact ⟨c, by rw [Below.heap_setCell w a u k hk]; exact hc, rfl, fun _ _ => rfl⟩
theorem run_storeAt {t : TypeId} {ad : Addr} {u x : Value} (hc : w.cell? ad = some x) (hf : w.frozen? ad = false) (hu : u.oneCell' = true) (hcl : u.cells = #[u]) (ht : flat1 P t = true) : (Instr.storeAt t (.pointer (some ad)) u).run P w = .ok () (w.setCell ad u) := by
  have hs : ∃ i, P.info? t = some i ∧ i.size = 1 := by
    unfold flat1 at ht; split at ht
    · rename_i i hi; exact ⟨i, hi, Nat.eq_of_beq_eq_true ht⟩
    · cases ht
  obtain ⟨i, hi, hsz⟩ := hs
  simp only [Instr.storeAt, Instr.sureAddr, storeVar, Sem.run_bind, Sem.run_pure, Result.andThen_ok, sizeOf, typeInfo, run_program, hi, hcl, hsz]
  simp [storeCells, Addr.add_zero', run_store P w ad u .plain hu, hc, hf]
/-- A store into a struct's field. -/
theorem gStore_st {t : TypeId} {ad : Addr} {cs : List Value} {j : Nat} {u : Value} {K : World → Prop} (h : St w ad cs) (hj : j < cs.length) (hu : u.oneCell' = true) (hcl : u.cells = #[u])
    (hk : ∀ w', Ch (Rg (ad.add j) 1) w w' → w'.heap.size = w.heap.size → St w' ad (cs.set j u) → K w') (ht : flat1 P t = true := by kernel_rfl) : gStore P t (.pointer (some (ad.add j))) u w K := by
  obtain ⟨h0, c, e, h1, h2⟩ := h
  have hc := St.cell (w := w) ⟨h0, c, e, h1, h2⟩ (j := j) (u := cs[j]) (by simp [hj])
  have hadd := Addr.add_none h0 j
  have hf : w.frozen? (ad.add j) = false := by rw [hadd]; simp [World.frozen?, h1]
  refine ⟨w.setCell (ad.add j) u, run_storeAt hc hf hu hcl ht, hk _ ?_ (by simp) ⟨h0, c.setIfInBounds (ad.off + j) u, e, ?_, fun i x hx => ?_⟩⟩
  · exact (setCell_ch w _ u).mono fun k i _ ⟨h1, h2⟩ => ⟨h1, by omega, by omega⟩
  · rw [hadd]; simp only [World.setCell, Array.getElem?_modify, if_true, h1, Option.map_some]; rfl
  · have hlt : ad.off + j < c.size := (Array.getElem?_eq_some_iff.1 (h2 j cs[j] (by simp [hj]))).1
    rw [List.getElem?_set] at hx
    by_cases e : j = i
    · subst e
      simp only [if_true, hj] at hx
      rw [Array.getElem?_setIfInBounds_self_of_lt hlt]; exact hx
    · rw [if_neg e] at hx
      rw [Array.getElem?_setIfInBounds_ne (by omega)]; exact h2 i x hx
/-- A place of a slice of one's own. -/
def Slt (v : Value) (i : Int) (ad : Addr) : Prop := ∃ g n c, v = .slice (some ⟨g, 0, none⟩) n c ∧ ad = ⟨g, i.toNat, none⟩
theorem gIdx_on {t e : TypeId} {k ki : IntKind} {B : Nat} {v : Value} {xs : List Int} {i : Int} {K : Addr → Prop} (h : ON k e w B v xs) (h0 : 0 ≤ i) (h1 : i < xs.length)
    (hk : ∀ ad, Slt v i ad → w.cell? ad = some (.int k (rd xs i)) → K ad) (ht : slInt P t k = true := by kernel_rfl) : gIdx P t v (.int ki i) K := by
  obtain ⟨hu, ii, hi, hsz, _⟩ := slInt_ok ht
  rcases h.1.2 with ⟨rfl, hn⟩ | ⟨g, cap, cur, rfl, hb, hg, hn, hm, hs, htk⟩
  · omega
  · refine ⟨⟨g, i.toNat, none⟩, fun w => ?_, hk _ ⟨g, _, _, rfl, rfl⟩ ?_⟩
    · simp only [Instr.indexAt, asIntOf, Sem.run_bind, Sem.run_pure, Result.andThen_ok, run_underlying hu]
      rw [if_pos ⟨h0, h1⟩]
      simp [sizeOf, typeInfo, hi, hsz, Addr.add_lit]
    · have := World.ownsRow.cells h.1 (g := g) rfl i.toNat (.int k (rd xs i)) (by rw [List.getElem?_map, rd_get h0 h1]; rfl)
      rwa [Addr.add_lit, Nat.zero_add] at this
/-- A store into a slice of one's own. -/
theorem gStore_on {t e : TypeId} {k : IntKind} {B : Nat} {v : Value} {xs : List Int} {i x : Int} {ad : Addr} {K : World → Prop} (h : ON k e w B v xs) (hs : Slt v i ad) (h0 : 0 ≤ i) (h1 : i < xs.length) (hx : k.min ≤ x ∧ x ≤ k.max)
    (hk : ∀ w', Ch (Ob v) w w' → w'.heap.size = w.heap.size → ON k e w' B v (xs.set i.toNat x) → K w') (ht : flat1 P t = true := by kernel_rfl) : gStore P t (.pointer (some ad)) (.int k x) w K := by
  obtain ⟨g, n, c, hv, rfl⟩ := hs
  have hi : i.toNat < xs.length := by omega
  rcases h.1.2 with ⟨hv', _⟩ | ⟨g', cap, cur, hv', hb, hg, hn, hm, hsz, htk⟩
  · rw [hv'] at hv; cases hv
  · rw [hv'] at hv
    injection hv with hv1 _ _; injection hv1 with hv1; injection hv1 with hv1 _ _; subst hv1
    have hlt : i.toNat < cur.size := by omega
    have hc : w.cell? ⟨g', i.toNat, none⟩ = some cur[i.toNat] := by simp [World.cell?, hg, hlt]
    have hf : w.frozen? ⟨g', i.toNat, none⟩ = false := by simp [World.frozen?, hg]
    refine ⟨w.setCell ⟨g', i.toNat, none⟩ (.int k x), run_storeAt hc hf rfl rfl ht, hk _ ?_ (by simp) ⟨⟨by simp, .inr ⟨g', cap, cur.setIfInBounds i.toNat (.int k x), by rw [hv']; simp, hb, ?_, by simpa using hn, hm, by simpa using hsz, ?_⟩⟩, ?_⟩⟩
    · refine (setCell_ch w _ _).mono fun k i _ ⟨h1, _⟩ => ?_
      rw [hv', h1]; rfl
    · simp only [World.setCell, Array.getElem?_modify, if_true, hg, Option.map_some]; rfl
    · simp only [Array.toList_setIfInBounds, List.length_set, List.map_set, ← htk, List.take_set]
    · intro y hy
      rcases List.mem_or_eq_of_mem_set hy with hy | rfl
      · exact h.2 y hy
      · exact hx
end
end Go.Proofs.YtiimlfgjnapgjaaGreatDoorV

/- Nodes, second part: stores of several cells, loads of structs, appending, literals, parts of slices, texts. -/
namespace Go.Proofs.YtiimlfgjnapgjaaGreatDoorV
open Go Go.RowKit
section
variable {P : Program} {w : World}
def sizeIs (P : Program) (t : TypeId) (n : Nat) : Bool := match P.info? t with
  | some i => Nat.beq i.size n
  | none => false
theorem gStore_agg {t : TypeId} {ad : Addr} {cs : List Value} {j : Nat} {ds : Array Value} {K : World → Prop} (h : St w ad cs) (hj : j + ds.size ≤ cs.length) (h1 : ∀ u ∈ ds.toList, u.oneCell' = true)
    (hk : ∀ w', Ch (Rg (ad.add j) ds.size) w w' → w'.heap.size = w.heap.size → St w' ad (cs.take j ++ ds.toList ++ cs.drop (j + ds.size)) → K w') (ht : sizeIs P t ds.size = true) : gStore P t (.pointer (some (ad.add j))) (.agg ds) w K := by
  have hs : ∃ i, P.info? t = some i ∧ i.size = ds.size := by
    unfold sizeIs at ht; split at ht
    · rename_i i hi; exact ⟨i, hi, Nat.eq_of_beq_eq_true ht⟩
    · cases ht
  obtain ⟨i, hi, hsz⟩ := hs
  obtain ⟨h0, c, e, hc1, hc2⟩ := h
  by_cases hz : ds.size = 0
  · have : ds = #[] := Array.eq_empty_of_size_eq_zero hz
    subst this
    refine ⟨w, ?_, hk w (Ch.refl _ w) rfl ⟨h0, c, e, hc1, ?_⟩⟩
    · simp only [Instr.storeAt, Instr.sureAddr, storeVar, Sem.run_bind, Sem.run_pure, Result.andThen_ok, sizeOf, typeInfo, run_program, hi, Value.cells, hsz]
      simp [storeCells]
    · simpa using hc2
  have hend : ad.off + j + ds.size ≤ c.size := by
    have hlt : j + ds.size - 1 < cs.length := by omega
    have := (Array.getElem?_eq_some_iff.1 (hc2 (j + ds.size - 1) cs[j + ds.size - 1] (by simp [hlt]))).1
    omega
  have hadd := Addr.add_none h0 j
  have hrun := run_storeCells_at P ad.block (ad.off + j) e ds.toList 0 c w hc1 (by simpa using hend) h1
  simp only [Nat.add_zero, Array.length_toList] at hrun
  have hcl : (Value.agg ds).cells = ds := rfl
  obtain ⟨c2, hce⟩ : ∃ c2, c2 = (List.take (ad.off + j) c.toList ++ ds.toList ++ List.drop (ad.off + j + ds.size) c.toList).toArray := ⟨_, rfl⟩
  rw [← hce] at hrun
  refine ⟨w.setRow ad.block c2, ?_, hk _ ?_ (by simp) ⟨h0, c2, e, setRow_heap w ad.block c c2 e _ hc1, fun q u hq => ?_⟩⟩
  · rw [hadd]
    simp only [Instr.storeAt, Instr.sureAddr, storeVar, Sem.run_bind, Sem.run_pure, Result.andThen_ok, sizeOf, typeInfo, run_program, hi, hcl, hsz]
    simpa using hrun
  · refine ⟨rfl, rfl, rfl, by simp, fun k hk hn => setRow_other w ad.block k _ (fun hkk => hn (ad.off + j) ⟨by rw [hadd, hkk], by rw [hadd]; exact Nat.le_refl _, by rw [hadd]; dsimp only; omega⟩), fun k c' e' f hk' => ?_, fun k o hk ho => by rw [setRow_other w ad.block k _ (ne_cells hc1 hk ho)]; exact hk⟩
    by_cases hkb : k = ad.block
    · subst hkb
      rw [hc1] at hk'
      injection hk' with hk'; injection hk' with hk1 hk2 hk3
      subst hk1; subst hk2; subst hk3
      refine ⟨c2, setRow_heap w ad.block c c2 e _ hc1, by rw [hce]; simp; omega, fun q hq => ?_⟩
      subst hce
      rw [hadd] at hq
      replace hq : ¬ (ad.off + j ≤ q ∧ q < ad.off + j + ds.size) := fun h => hq ⟨rfl, h.1, h.2⟩
      simp only [List.getElem?_toArray, List.append_assoc]
      rw [List.getElem?_append]
      simp only [List.length_take, Array.length_toList]
      split
      · rw [List.getElem?_take, if_pos (by omega)]; simp
      · rw [List.getElem?_append, if_neg (by simp; omega), List.getElem?_drop]
        simp
        congr 1; omega
    · exact ⟨c', by rw [setRow_other w ad.block k _ hkb]; exact hk', rfl, fun _ _ => rfl⟩
  · subst hce
    simp only [List.getElem?_toArray]
    rw [List.append_assoc, List.getElem?_append] at hq
    simp only [List.length_take] at hq
    rw [List.append_assoc, List.getElem?_append]
    simp only [List.length_take, Array.length_toList]
    split at hq
    · rename_i hlt
      rw [if_pos (by omega), List.getElem?_take, if_pos (by omega)]
      rw [List.getElem?_take] at hq
      split at hq
      · have := hc2 q u hq; simpa using this
      · cases hq
    · rw [if_neg (by omega)]
      rw [List.getElem?_append] at hq ⊢
      split at hq
      · rename_i h1' h2'
        rw [if_pos (by omega)]
        rw [← hq]; congr 1; omega
      · rename_i h1' h2'
        rw [if_neg (by omega)]
        rw [List.getElem?_drop] at hq ⊢
        have := hc2 _ u hq
        rw [← this]
        simp
        congr 1
        simp at h2'
        omega
theorem tex_of_tapp {cs : List Ck} {K : TF cs Prop} {vs : List Value} (h : tapp False cs K vs) (hl : vs.length = cs.length) {p : List Value → Prop} (hp : p vs) : tex cs K fun vs k => p vs ∧ k := by
  induction cs generalizing vs p with
  | nil => cases vs with
    | nil => exact ⟨hp, h⟩
    | cons => simp at hl
  | cons c r ih => cases vs with
    | nil => simp at hl
    | cons v vs =>
      simp only [tapp] at h
      split at h
      · rename_i x hx
        refine ⟨x, ih h (by simpa using hl) ?_⟩
        rw [← Ck.get_inj hx]; exact hp
      · exact h.elim
def aggB (P : Program) (t : TypeId) (n : Nat) : Bool := match P.underlying t with
  | some (.struct _) | some (.array _ _) => sizeIs P t n
  | _ => false
theorem run_loadAgg {t : TypeId} {ad : Addr} {vs : List Value} (hc : ∀ j u, vs[j]? = some u → w.cell? (ad.add j) = some u) (ht : aggB P t vs.length = true) : (Instr.loadAt t (.pointer (some ad))).run P w = .ok (.agg vs.toArray) w := by
  have hagg : (isAgg t).run P w = .ok true w ∧ sizeIs P t vs.length = true := by
    unfold aggB at ht
    split at ht
    · rename_i fs hu; exact ⟨by simp [isAgg, run_underlying hu], ht⟩
    · rename_i n e hu; exact ⟨by simp [isAgg, run_underlying hu], ht⟩
    · cases ht
  obtain ⟨h1, h2⟩ := hagg
  have hs : ∃ i, P.info? t = some i ∧ i.size = vs.length := by
    unfold sizeIs at h2; split at h2
    · rename_i i hi; exact ⟨i, hi, Nat.eq_of_beq_eq_true h2⟩
    · cases h2
  obtain ⟨i, hi, hsz⟩ := hs
  have hl := run_loadCells_list (P := P) w ad vs hc
  simp only [Instr.loadAt, Instr.sureAddr, loadVar, Sem.run_bind, Sem.run_pure, Result.andThen_ok, h1, sizeOf, typeInfo, run_program, hi, hsz, if_true]
  rw [hl]; rfl
/-- A small struct, loaded whole. -/
theorem gLoad_agg {t : TypeId} {cks : List Ck} {ad : Addr} {K : TF cks Prop} (vs : List Value) (hc : ∀ j u, vs[j]? = some u → w.cell? (ad.add j) = some u) (hk : tapp False cks K vs) (hl : vs.length = cks.length) (ht : aggB P t vs.length = true) : gLoad P t (.part (.agg cks)) (.pointer (some ad)) w K :=
  tex_of_tapp (p := fun vs => (Instr.loadAt t (.pointer (some ad))).run P w = .ok (Part.mk (.agg cks) vs) w) hk hl (run_loadAgg hc ht)

/-! ### Appending -/
theorem inR.append {k : IntKind} {xs ys : List Int} (h : inR k xs) (h' : inR k ys) : inR k (xs ++ ys) := fun x hx => (List.mem_append.1 hx).elim (h x) (h' x)
/-- Where a slice lies after it has grown: where it lay, or in a new block. -/
def Moved (w : World) (v v' : Value) : Prop := v'.ownBlock = v.ownBlock ∨ ∀ g, v'.ownBlock = some g → w.heap.size ≤ g
theorem run_append_own' (t ty : TypeId) {e : TypeId} {i : TypeInfo} {z : Value} (ht : P.underlying t = some (.slice e)) (hi : P.info? e = some i) (hz : i.zero = some z) (hsize : i.size = 1) (hzs : z.cells.size = 1)
    {B : Nat} {v : Value} {n : Nat} {xs : List Value} (hown : w.ownsRow B e 1 v n xs) {y : Value} {m : Nat} {news : List Value} (hy : Sl w 1 y m news) (h1 : ∀ u ∈ news, u.oneCell' = true)
    (hb : (n + m) * i.bytes ≤ 140737488355328) (h63 : n + m ≤ maxLen) (hbase : B ≤ w.heap.size) :
    ∃ v' w', (Builtin.append_ #[t, t] ty #[v, y]).run P w = .ok v' w' ∧ w'.ownsRow B e 1 v' (n + m) (xs ++ news) ∧ Ch (Ob v) w w' ∧ Moved w v v' ∧ (news = [] → v' = v) := by
  obtain ⟨a, c, rfl, hnc, hl, hcells, hnil⟩ := hy
  have hcl : ∀ k, v.ownBlock = some k → ∃ c e f, w.heap[k]? = some (.cells c e f) := fun k hk => by
    rcases hown.2 with ⟨rfl, _⟩ | ⟨g, cap, cur, rfl, _, hg, _⟩
    · cases hk
    · simp [Value.ownBlock] at hk; subst hk; exact ⟨_, _, _, hg⟩
  have ofg : ∀ {w' : World}, w.grownBy w' v.ownBlock → (∀ k c e f, v.ownBlock = some k → w.heap[k]? = some (.cells c e f) → ∃ c', w'.heap[k]? = some (.cells c' e f) ∧ c'.size = c.size) → Ch (Ob v) w w' := fun {w'} hg hsh => by
    refine ⟨hg.os, hg.tape, hg.output, hg.size, fun k hk hn => hg.block k hk fun e => hn 0 e.symm, fun k c e f hc => ?_, fun k o hk ho => by
      rw [hg.block k (hlt hk) (fun e => by obtain ⟨c, e2, f, hc⟩ := hcl k e.symm; exact ne_cells hc hk ho rfl)]; exact hk⟩
    by_cases hk : v.ownBlock = some k
    · obtain ⟨c', h1, h2⟩ := hsh k c e f hk hc
      exact ⟨c', h1, h2, fun i hi => absurd hk hi⟩
    · exact ⟨c, by rw [hg.block k (hlt hc) (fun e => hk e.symm)]; exact hc, rfl, fun _ _ => rfl⟩
  cases a with
  | none =>
    have hm := hnil rfl
    subst hm
    have hn0 : news = [] := List.eq_nil_of_length_eq_zero (by simpa using hl)
    subst hn0
    refine ⟨v, w, ?_, by simpa using hown, Ch.refl _ w, .inl rfl, fun _ => rfl⟩
    rcases hown.2 with ⟨rfl, rfl⟩ | ⟨g, cap, cur, rfl, hbg, hg, hn, hm, hcs, htk⟩
    · simp [Builtin.append_, run_underlying ht, sizeOf, typeInfo, hi, Builtin.lenOf, Builtin.firstCells]
    · simp [Builtin.append_, run_underlying ht, sizeOf, typeInfo, hi, Builtin.lenOf, Builtin.firstCells, hn, storeCells]
  | some ad =>
    obtain ⟨v', w', hr, ho, hg, _⟩ := run_append_own (P := P) w B t ty e i z 1 i.bytes ht hi hz hsize rfl hzs (by decide) v n xs hown ad m c news (by simpa using hl) (hcells ad rfl) h1 h63 hb hbase
    refine ⟨v', w', hr, ho, ?_⟩
    -- which way it went
    rcases hown.2 with ⟨rfl, rfl⟩ | ⟨g, cap, cur, rfl, hbg, hgg, hn, hm', hcs, htk⟩
    · by_cases hm0 : m = 0
      · have hn0 : news = [] := List.eq_nil_of_length_eq_zero (by rw [hl, hm0])
        subst hn0; subst hm0
        have hr2 : (Builtin.append_ #[t, t] ty #[.slice none 0 0, .slice (some ad) 0 c]).run P w = .ok (.slice none 0 0) w := by
          simp [Builtin.append_, run_underlying ht, sizeOf, typeInfo, hi, Builtin.lenOf, Builtin.firstCells, loadCells, loadCellsFrom]
        rw [hr2] at hr; injection hr with e1 e2; subst e1; subst e2
        exact ⟨Ch.refl _ w, .inl rfl, fun _ => rfl⟩
      · have hr2 := run_append_nil (P := P) w t ty e i z ht hi hz ad m c news (by rw [hsize]; simpa using hl) (hcells ad rfl) (by omega) (by unfold maxLen at h63; omega) (by simp only [Nat.zero_add] at hb; omega)
        rw [hr2] at hr; injection hr with e1 e2; subst e1
        refine ⟨ofg hg (fun k c e f hk => by cases hk), .inr fun g hg' => ?_, fun h => ?_⟩
        · simp [Value.ownBlock] at hg'; omega
        · subst h; simp at hl; omega
    · by_cases hroom : n + m ≤ cap
      · have hfit : n * i.size + news.length ≤ cur.size := by rw [hl, hsize, hcs]; omega
        have hr2 := run_append_room (P := P) w t ty e i ht hi g n cap cur hgg ad m c news (by rw [hsize]; simpa using hl) (hcells ad rfl) h1 hroom hfit
        rw [hr2] at hr; injection hr with e1 e2; subst e1; subst e2
        refine ⟨ofg hg (fun k c' e' f hk hc => ?_), .inl rfl, fun h => ?_⟩
        · simp [Value.ownBlock] at hk; subst hk
          rw [hgg] at hc; injection hc with hc; injection hc with hc1 hc2 hc3
          subst hc1; subst hc2; subst hc3
          refine ⟨_, setRow_heap w g cur _ e _ hgg, ?_⟩
          simp; omega
        · subst h; simp at hl; simp [← hl]
      · have holds : ∀ j u, xs[j]? = some u → w.cell? ((⟨g, 0, none⟩ : Addr).add j) = some u := hown.cells (g := g) rfl
        have hr2 := run_append_grow (P := P) w t ty e i z ht hi hz ⟨g, 0, none⟩ n cap xs (by rw [hsize]; exact hown.1) holds ad m c news (by rw [hsize]; simpa using hl) (hcells ad rfl) (by omega) (by unfold maxLen at h63; omega) (growslice_fits (by omega) hb)
        rw [hr2] at hr; injection hr with e1 e2; subst e1
        have he2 := e2
        refine ⟨ofg hg (fun k c' e' f hk hc => ⟨c', ?_, rfl⟩), .inr fun g' hg' => ?_, fun h => ?_⟩
        · rw [← he2]
          show (w.heap.push _)[k]? = _
          rw [Array.getElem?_push, if_neg (by have := hlt hc; omega)]; exact hc
        · simp [Value.ownBlock] at hg'; omega
        · subst h; simp at hl; omega
theorem gApp_on {t ty : TypeId} {k : IntKind} {B : Nat} {v y : Value} {xs ys : List Int} {K : Value → World → Prop} (h : ON k (elOf P t) w B v xs) (hy : Nm k w y ys) (hb : (xs.length + ys.length) * 8 ≤ 140737488355328) (hB : B ≤ w.heap.size)
    (hk : ∀ v' w', ON k (elOf P t) w' B v' (xs ++ ys) → Ch (Ob v) w w' → Moved w v v' → K v' w') (ht : slInt P t k = true := by kernel_rfl) : gApp P #[t, t] ty #[v, y] w K := by
  obtain ⟨hu, i, hi, hsz, hby, hby1, hz⟩ := slInt_ok ht
  have hbb : (xs.length + ys.length) * i.bytes ≤ 140737488355328 := Nat.le_trans (Nat.mul_le_mul_left _ hby) hb
  obtain ⟨v', w', hr, ho, hc, hm, _⟩ := run_append_own' (P := P) t ty hu hi hz hsz rfl h.1 hy.1 (fun u hu => by obtain ⟨x, _, rfl⟩ := List.mem_map.1 hu; rfl) hbb (by unfold maxLen; omega) hB
  refine ⟨v', w', hr, hk v' w' ⟨?_, h.2.append hy.2⟩ hc hm⟩
  rw [List.length_append, List.map_append]; exact ho
end
end Go.Proofs.YtiimlfgjnapgjaaGreatDoorV
