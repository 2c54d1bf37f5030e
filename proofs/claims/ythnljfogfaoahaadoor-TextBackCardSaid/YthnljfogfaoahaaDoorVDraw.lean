/- The engine, fourth part: a region that draws its order. What operands decide, and loads that are the same throughout, are taken first; of the rest whichever may come next. -/
import Derived.Test.YthnljfogfaoahaaDoorVCode
namespace Go.Proofs.YthnljfogfaoahaaDoorV
open Go

def isLd (o : Oper) : Bool := match o.op with
  | .load .. => true
  | _ => false
/-- Is that the place of an element, told in the region? -/
def idxDst (l : List Oper) : Operand → Bool
  | .tmp t => l.any fun o => match o.op, o.dst with
    | .indexAddr .., some d => Nat.beq d t
    | _, _ => false
  | _ => false
def hasIS (l : List Oper) : Bool := l.any fun o => match o.op with
  | .store _ x _ => idxDst l x
  | _ => false
/-- A load that may be taken ahead: but where elements are stored none of elements is. -/
def isLdQ (l : List Oper) (o : Oper) : Bool := match o.op with
  | .load _ x => match idxDst l x with
    | true => !hasIS l
    | false => true
  | _ => false
/-- The first of those that may come next that only reads or reckons. -/
def pickQ (P : Program) (ops : Array Oper) : List Nat → Option Nat
  | [] => none
  | i :: r => match ops[i]? with
    | some o => match isQ P o || isLdQ ops.toList o with
      | true => some i
      | false => pickQ P ops r
    | none => pickQ P ops r
def allE : List Nat → (Nat → Prop) → Prop
  | [], _ => True
  | [i], p => p i
  | i :: r, p => p i ∧ allE r p
theorem allE_mem {p : Nat → Prop} : ∀ {l : List Nat}, allE l p → ∀ i ∈ l, p i
  | [i], h, j, hj => by simp at hj; subst hj; exact h
  | i :: j :: r, h, k, hk => by
    rcases List.mem_cons.1 hk with rfl | hk
    · exact h.1
    · exact allE_mem h.2 k hk
def guardG (ops : Array Oper) (σ : Env) (o : Oper) (A : Env → Prop) (B : Env → Prop) : Prop := match o.guard with
  | none => A σ
  | some g => gIf (guardB ops σ g) (A (setG ops σ g true)) (B (setG ops σ g false))
/-- A step that only reads or reckons: k is told its value. -/
def quietG (P : Program) (B : World → Prop) (o : Oper) (σ : Env) (k : Value → Prop) : Prop := match isQ P o with
  | true => qvG P o σ k
  | false => match o.op with
    | .load t x => gLoadB P t (shOf P t) (evO σ x) B (tlam _ fun vs => k ((shOf P t).mk vs))
    | _ => False
def drawF (P : Program) (ops : Array Oper) (B : World → Prop) (K : Env → World → Prop) : Nat → Array Bool → Env → World → Prop
  | 0, L, σ, w => match Region.ready .any ops L with
    | [] => K σ w
    | _ => False
  | n + 1, L, σ, w => match Region.ready .any ops L with
    | [] => K σ w
    | i :: r => match pickQ P ops (i :: r) with
      | some j => match ops[j]?, Region.free .any ops L j with
        | some o, true => guardG ops σ o (fun σ => quietG P B o σ fun v => drawF P ops B K n (L.setIfInBounds j true) (updO σ o.dst v) w) (fun σ => drawF P ops B K n (L.setIfInBounds j true) (updO σ o.dst undef) w)
        | _, _ => False
      | none => allE (i :: r) fun j => match ops[j]? with
        | some o => guardG ops σ o (fun σ => opG P o σ w fun v w' => B w' ∧ drawF P ops B K n (L.setIfInBounds j true) (updO σ o.dst v) w') (fun σ => drawF P ops B K n (L.setIfInBounds j true) (updO σ o.dst undef) w)
        | none => False
/-- Does it hold anything but reads and reckoning? -/
def hasE (P : Program) : List Oper → Bool
  | [] => false
  | o :: r => match isQ P o || isLd o with
    | true => hasE P r
    | false => true
def drawG (P : Program) (ops : Array Oper) (σ : Env) (w : World) (K : Env → World → Prop) : Prop := match Region.noSelect ops with
  | true => match hasE P ops.toList with
    | false => drawF P ops (fun w' => w' = w.drew) K ops.size (Array.replicate ops.size false) σ w.drew
    | true => ∃ B : World → Prop, B w.drew ∧ drawF P ops B K ops.size (Array.replicate ops.size false) σ w.drew
  | false => False
section
variable {P : Program} {ops : Array Oper} {B : World → Prop} {K : Env → World → Prop} {Q : Exit → Act → World → Prop} {n : Nat} {σ₀ : Env}
theorem quietG_run {o : Oper} {σ : Env} {k : Value → Prop} (h : quietG P B o σ k) : ∃ v, (∀ w, B w → (execOp (evO σ) o).run P w = .ok (.value v) w) ∧ k v := by
  unfold quietG at h
  split at h
  · obtain ⟨v, hr, hk⟩ := qvG_run h; exact ⟨v, fun w _ => hr w, hk⟩
  · split at h
    · rename_i t x ho
      obtain ⟨vs, hr, hk⟩ := tex_tlam h
      exact ⟨_, fun w hB => by unfold execOp; rw [ho]; exact run_v (hr w hB), hk⟩
    · exact h.elim
theorem drawF_wp (hns : Region.noSelect ops = true) (hp : ∀ c a w, ¬ Q (.panic c) a w) (hn : inB n (dsts ops.toList) = true)
    (hQ : ∀ a σ' w, Rep n a σ' → agree (dsts ops.toList) σ₀ σ' → K σ' w → Q .normal a w) :
    ∀ (f : Nat) (L : Array Bool) (a : Act) (σ : Env) (w : World), Rep n a σ → agree (dsts ops.toList) σ₀ σ → B w → drawF P ops B K f L σ w → wpAnyH P .any ops Q B f L a w := by
  intro f
  induction f with
  | zero =>
    intro L a σ w hr hag hB h
    simp only [drawF] at h
    split at h
    · rename_i he; exact ⟨he, hQ a σ w hr hag h⟩
    · exact h.elim
  | succ f ih =>
    intro L a σ w hr hag hB h
    have hd : ∀ {i : Nat} {o : Oper}, ops[i]? = some o → ∀ t, o.dst = some t → t < n ∧ t ∈ dsts ops.toList := fun hi t ht => by
      have hm : t ∈ dsts ops.toList := mem_dsts (List.mem_of_getElem? (by simpa using hi)) ht
      exact ⟨inB_lt hn hm, hm⟩
    have next : ∀ {i : Nat} {o : Oper} (v : Value) (w' : World), ops[i]? = some o → B w' → drawF P ops B K f (L.setIfInBounds i true) (updO σ o.dst v) w' → wpAnyH P .any ops Q B f (L.setIfInBounds i true) (a.put o.dst v) w' :=
      fun v w' hi hB' h' => ih _ _ _ _ (hr.put (fun t ht => (hd hi t ht).1) v) (hag.trans (agree_updO (fun t ht => (hd hi t ht).2) v)) hB' h'
    simp only [drawF] at h
    split at h
    · rename_i he; exact wpAnyH_done he (hQ a σ w hr hag h) _
    · rename_i i r he
      split at h
      · rename_i j hj
        split at h
        · rename_i o hoj hfree
          have hmem : ∀ {l : List Nat} {j}, pickQ P ops l = some j → j ∈ l := by
            intro l
            induction l with
            | nil => intro j h; cases h
            | cons x l ih =>
              intro j h
              simp only [pickQ] at h
              split at h
              · split at h
                · injection h with h; subst h; simp
                · exact List.mem_cons_of_mem _ (ih h)
              · exact List.mem_cons_of_mem _ (ih h)
          have hrd : (Region.ready .any ops L).contains j = true := by rw [he]; simpa using hmem hj
          unfold guardG at h
          split at h
          · rename_i hg
            obtain ⟨v, hrun, hk⟩ := quietG_run h
            exact wpAnyH_take hoj hns hfree hrd (fun c a w hq => (hp _ _ _ hq).elim) (.inl ⟨by simp [Region.wanted, hg], fun w hBw => by rw [hr.eval]; exact hrun w hBw⟩) hB (next v w hoj hB hk)
          · rename_i g hg
            have hw := wanted_guard (ops := ops) hr hg
            unfold gIf at h
            split at h
            · rename_i hb
              rw [setG_eq hb] at h
              obtain ⟨v, hrun, hk⟩ := quietG_run h
              exact wpAnyH_take hoj hns hfree hrd (fun c a w hq => (hp _ _ _ hq).elim) (.inl ⟨hw.trans hb, fun w hBw => by rw [hr.eval]; exact hrun w hBw⟩) hB (next v w hoj hB hk)
            · rename_i hb
              rw [setG_eq hb] at h
              exact wpAnyH_take hoj hns hfree hrd (fun c a w hq => (hp _ _ _ hq).elim) (.inr ⟨hw.trans hb, rfl⟩) hB (next undef w hoj hB h)
        · exact h.elim
      · refine wpAnyH_all he (by simp) fun j hj => ?_
        have hj' := allE_mem h j hj
        unfold wpOp
        split at hj'
        · rename_i o hoj
          rw [hoj]
          dsimp only
          unfold guardG at hj'
          split at hj'
          · rename_i hg
            rw [if_pos (by simp [Region.wanted, hg])]
            exact .inl (opG_wp hr.eval hj' fun v w' hk => ⟨hk.1, next v w' hoj hk.1 hk.2⟩)
          · rename_i g hg
            have hw := wanted_guard (ops := ops) hr hg
            unfold gIf at hj'
            split at hj'
            · rename_i hb
              rw [setG_eq hb] at hj'
              rw [if_pos (hw.trans hb)]
              exact .inl (opG_wp hr.eval hj' fun v w' hk => ⟨hk.1, next v w' hoj hk.1 hk.2⟩)
            · rename_i hb
              rw [setG_eq hb] at hj'
              rw [if_neg (by rw [hw, hb]; simp)]
              exact ⟨hB, next undef w hoj hB hj'⟩
        · exact hj'.elim
end
theorem drawG_ok {P : Program} (hm : P.follows .mixedOrders = true) : DrawOk P (drawG P) := by
  intro id n ops σ a w K Q hn hr hp hQ h
  unfold drawG at h
  split at h
  · rename_i hns
    split at h
    · exact wp_region_held (S := fun w' => w' = w.drew) hm (drawF_wp hns hp hn hQ _ _ _ _ _ hr (agree.refl _ _) rfl h)
    · obtain ⟨B, hB, h⟩ := h
      exact wp_region_held (S := B) hm (drawF_wp hns hp hn hQ _ _ _ _ _ hr (agree.refl _ _) hB h)
  · exact h.elim
/-- A call, by what is shown of its function's code. -/
theorem calls_of {P : Program} (hm : P.follows .mixedOrders = true) {An : An} {f : FuncId} {fn : Func} {c : Code} {args : Array Value} {w : World} {R : Ending → World → Prop}
    (hf : P.funcs[f]? = some fn) (hb : fn.body = some c) (hs : args.size + (fn.ntmps - args.size) = fn.ntmps) (hn : inB fn.ntmps (asg c) = true)
    (h : den P (drawG P) An c (retG P fn R) (fun _ _ _ => False) (retG P fn R) (fun t => args.getD t undef) w) : Calls P f args w R :=
  calls_of_den (drawG_ok hm) hf hb hs hn h
end Go.Proofs.YthnljfogfaoahaaDoorV
