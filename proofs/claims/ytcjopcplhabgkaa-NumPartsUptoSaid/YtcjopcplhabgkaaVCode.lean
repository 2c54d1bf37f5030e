/- The engine, third part: regions without a draw, code, and that what is shown of den holds of a call. (A region that draws: drawG, given ahead.) -/
import Derived.Test.YtcjopcplhabgkaaVDen
import Derived.Scope
namespace Go.Proofs.YtcjopcplhabgkaaV
open Go

def memb (t : Nat) : List Nat → Bool
  | [] => false
  | x :: r => match Nat.beq t x with | true => true | false => memb t r
theorem memb_iff {t : Nat} : ∀ {l : List Nat}, memb t l = true ↔ t ∈ l
  | [] => by simp [memb]
  | x :: r => by
    simp only [memb]
    split
    · rename_i h; simp [Nat.eq_of_beq_eq_true h]
    · rename_i h; simp [Nat.ne_of_beq_eq_false h, memb_iff]
def mask (A : List Nat) (g σ : Env) : Env := fun t => match memb t A with | true => g t | false => σ t
def find (t : Nat) : List Nat → List Value → Option Value
  | d :: D, v :: vs => match Nat.beq t d with | true => some v | false => find t D vs
  | _, _ => none
def over (D : List Nat) (vs : List Value) (σ : Env) : Env := fun t => match find t D vs with | some v => v | none => σ t
def agree (A : List Nat) (σ σ' : Env) : Prop := ∀ t, t ∉ A → σ' t = σ t
theorem agree.refl (A : List Nat) (σ : Env) : agree A σ σ := fun _ _ => rfl
theorem agree.trans {A : List Nat} {a b c : Env} (h : agree A a b) (k : agree A b c) : agree A a c := fun t ht => (k t ht).trans (h t ht)
theorem agree.mono {A B : List Nat} {a b : Env} (h : agree A a b) (hs : ∀ t, t ∈ A → t ∈ B) : agree B a b := fun t ht => h t fun hh => ht (hs t hh)
theorem find_map (σ' : Env) (t : Nat) : ∀ (D : List Nat), find t D (D.map σ') = some (σ' t) ∨ find t D (D.map σ') = none
  | [] => .inr rfl
  | d :: D => by
    simp only [List.map_cons, find]
    split
    · rename_i h; rw [Nat.eq_of_beq_eq_true h]; exact .inl rfl
    · exact find_map σ' t D
theorem over_map {D : List Nat} {τ σ' : Env} (h : τ = σ') : over D (D.map σ') τ = σ' := by
  funext t
  unfold over
  rcases find_map σ' t D with e | e <;> rw [e]
  exact congrFun h t
theorem mask_eq {A : List Nat} {σ σ' : Env} (h : agree A σ σ') : mask A σ' σ = σ' := by
  funext t
  unfold mask
  split
  · rfl
  · rename_i hm; exact (h t fun hh => by rw [memb_iff.2 hh] at hm; cases hm).symm

/-! ### Regions without a draw -/
def guardB (ops : Array Oper) (σ : Env) (g : Nat × Bool) : Bool := match (ops[g.1]?).bind (·.dst) with
  | some t => match σ t with
    | .bool b => match g.2 with | true => b | false => !b
    | _ => false
  | none => false
/-- Behind a guard its value is known. -/
def setG (ops : Array Oper) (σ : Env) (g : Nat × Bool) (b : Bool) : Env := match (ops[g.1]?).bind (·.dst) with
  | some t => match σ t with
    | .bool _ => upd σ t (.bool (match b with | true => g.2 | false => !g.2))
    | _ => σ
  | none => σ
theorem setG_eq {ops : Array Oper} {σ : Env} {g : Nat × Bool} {b : Bool} (h : guardB ops σ g = b) : setG ops σ g b = σ := by
  subst h
  unfold setG guardB
  cases hj : (ops[g.1]?).bind (·.dst) with
  | none => rfl
  | some t =>
    dsimp only
    cases hv : σ t with
    | bool x =>
      dsimp only
      funext u
      rw [upd_eq]
      by_cases e : u = t
      · rw [if_pos e, e, hv]
        cases hg : g.2 <;> cases x <;> rfl
      · rw [if_neg e]
    | _ => rfl
def opsG (P : Program) (ops : Array Oper) : List Oper → Env → World → (Env → World → Prop) → Prop
  | [], σ, w, K => K σ w
  | o :: r, σ, w, K => match o.guard with
    | none => opG P o σ w fun v w' => opsG P ops r (updO σ o.dst v) w' K
    | some g => gIf (guardB ops σ g) (opG P o (setG ops σ g true) w fun v w' => opsG P ops r (updO (setG ops σ g true) o.dst v) w' K) (opsG P ops r (updO (setG ops σ g false) o.dst undef) w K)
def dsts : List Oper → List Nat
  | [] => []
  | o :: r => match o.dst with
    | some d => d :: dsts r
    | none => dsts r
theorem mem_dsts {o : Oper} {d : Nat} : ∀ {l : List Oper}, o ∈ l → o.dst = some d → d ∈ dsts l
  | x :: r, h, hd => by
    rcases List.mem_cons.1 h with rfl | h
    · simp [dsts, hd]
    · have := mem_dsts h hd
      simp only [dsts]; split <;> simp [this]
theorem agree_updO {A : List Nat} {σ : Env} {d : Option Nat} (h : ∀ t, d = some t → t ∈ A) (v : Value) : agree A σ (updO σ d v) := by
  intro t ht
  cases d with
  | none => rfl
  | some d => simp only [updO, upd_eq]; rw [if_neg]; rintro rfl; exact ht (h _ rfl)
theorem wanted_guard {n : Nat} {a : Act} {σ : Env} {ops : Array Oper} {o : Oper} {g : Nat × Bool} (hr : Rep n a σ) (hg : o.guard = some g) : Region.wanted o (yielded ops a.tmps) = guardB ops σ g := by
  obtain ⟨j, want⟩ := g
  unfold Region.wanted guardB yielded
  rw [hg]
  dsimp only
  cases hj : (ops[j]?).bind (·.dst) with
  | none => simp
  | some t =>
    have ht := hr.get t
    simp only [Option.bind_some]
    rw [← ht, Array.getD_eq_getD_getElem?]
    cases ha : a.tmps[t]? with
    | none => simp [undef]
    | some v =>
      cases v <;> simp
      cases want <;> simp
theorem opsG_wp {P : Program} {ops : Array Oper} {n : Nat} {A : List Nat} {σ₀ : Env} {K : Env → World → Prop} {Q : Exit → Act → World → Prop} (hQ : ∀ a σ w, Rep n a σ → agree A σ₀ σ → K σ w → Q .normal a w) :
    ∀ (l : List Oper) (a : Act) (σ : Env) (w : World), (∀ t, t ∈ dsts l → t < n ∧ t ∈ A) → Rep n a σ → agree A σ₀ σ → opsG P ops l σ w K → wpList P ops Q l a w
  | [], a, σ, w, _, hr, hag, h => hQ a σ w hr hag h
  | o :: r, a, σ, w, hd, hr, hag, h => by
    have hd1 : ∀ t, o.dst = some t → t < n ∧ t ∈ A := fun t ht => hd t (mem_dsts (by simp) ht)
    have hd2 : ∀ t, t ∈ dsts r → t < n ∧ t ∈ A := fun t ht => hd t (by simp only [dsts]; split <;> simp [ht])
    have step : ∀ v w', opsG P ops r (updO σ o.dst v) w' K → wpList P ops Q r (a.put o.dst v) w' := fun v w' h' =>
      opsG_wp hQ r _ _ _ hd2 (hr.put (fun t ht => (hd1 t ht).1) v) (hag.trans (agree_updO (fun t ht => (hd1 t ht).2) v)) h'
    simp only [opsG] at h
    split at h
    · rename_i hg
      exact wpList_plain hg fun K' hK => opG_wp hr.eval h fun v w' hk => hK _ _ (step v w' hk)
    · rename_i g hg
      refine wpList_step fun K' hK => ?_
      rw [wanted_guard hr hg]
      unfold gIf at h
      split at h
      · rename_i hb; rw [hb, if_pos rfl]; rw [setG_eq hb] at h; exact opG_wp hr.eval h fun v w' hk => hK _ _ (step v w' hk)
      · rename_i hb; rw [hb, if_neg (by simp)]; rw [setG_eq hb] at h; exact hK _ _ (step undef w h)

/-! ### Code -/
structure An where
  loop : List (Nat × List (Nat × Ck))
  cut : List (Nat × List (Nat × Ck))
def lk {α : Type} (n : Nat) : List (Nat × α) → Option α
  | [] => none
  | (k, x) :: r => match Nat.beq k n with | true => some x | false => lk n r
/-- What tells a piece of code: its first region. -/
def key : Code → Nat
  | .region id _ _ => id
  | .seq a b => match Nat.beq (key a) 1000000 with | true => key b | false => key a
  | .cond _ a b => match Nat.beq (key a) 1000000 with | true => key b | false => key a
  | .block _ c => key c
  | .loop c => key c
  | .scope c => key c
  | _ => 1000000
def An.lp (A : An) (c : Code) : List (Nat × Ck) := match lk (key c) A.loop with | some D => D | none => []
def asg : Code → List Nat
  | .region _ ops _ => dsts ops.toList
  | .seq a b => asg a ++ asg b
  | .block _ c => asg c
  | .loop c => asg c
  | .cond _ a b => asg a ++ asg b
  | _ => []
def ids (D : List (Nat × Ck)) : List Nat := D.map (·.1)
def cks (D : List (Nat × Ck)) : List Ck := D.map (·.2)
abbrev NoI : World → Prop := fun _ => False
abbrev NoM : World → Nat := fun _ => 0
def den (P : Program) (draw : Array Oper → Env → World → (Env → World → Prop) → Prop) (An : An) : Code → (Env → World → Prop) → (Nat → Env → World → Prop) → (Env → World → Prop) → Env → World → Prop
  | .skip, N, _, _, σ, w => N σ w
  | .label _, N, _, _, σ, w => N σ w
  | .region _ ops d, N, _, _, σ, w => match d with
    | false => opsG P ops ops.toList σ w N
    | true => draw ops σ w N
  | .seq a b, N, X, R, σ, w => match lk (key b) An.cut with
    | none => den P draw An a (fun σ' w' => den P draw An b N X R σ' w') X R σ w
    | some D => ∃ J : TF (cks D) (World → Prop), den P draw An a (fun σ' w' => tapp NoI (cks D) J ((ids D).map σ') w') X R σ w ∧
        ∀ g : Env, tall (cks D) fun vs => ∀ w', tapp NoI (cks D) J vs w' → den P draw An b N X R (over (ids D) vs (mask (asg a) g σ)) w'
  | .cond c a b, N, X, R, σ, w => match evO σ c with
    | .bool t => gIf t (den P draw An a N X R σ w) (den P draw An b N X R σ w)
    | _ => False
  | .block id c, N, X, R, σ, w => den P draw An c N (fun i => match Nat.beq i id with | true => N | false => X i) R σ w
  | .loop c, _, X, R, σ, w => ∃ (I : TF (cks (An.lp c)) (World → Prop)) (μ : TF (cks (An.lp c)) (World → Nat)),
      tapp NoI _ I ((ids (An.lp c)).map σ) w ∧
      ∀ g : Env, tall (cks (An.lp c)) fun vs => ∀ w', tapp NoI _ I vs w' →
        den P draw An c (fun σ' w'' => tapp NoI _ I ((ids (An.lp c)).map σ') w'' ∧ tapp NoM _ μ ((ids (An.lp c)).map σ') w'' < tapp NoM _ μ vs w') X R
          (over (ids (An.lp c)) vs (mask (asg c) g σ)) w'
  | .exit id, _, X, _, σ, w => X id σ w
  | .ret, _, _, R, σ, w => R σ w
  | _, _, _, _, _, _ => False
def inB (n : Nat) : List Nat → Bool
  | [] => true
  | t :: r => match Nat.blt t n with | true => inB n r | false => false
theorem inB_lt {n t : Nat} : ∀ {l : List Nat}, inB n l = true → t ∈ l → t < n
  | x :: r, h, ht => by
    simp only [inB] at h
    split at h
    · rename_i hb
      rcases List.mem_cons.1 ht with rfl | ht
      · exact by simpa [Nat.blt_eq] using hb
      · exact inB_lt h ht
    · cases h

def Qof (n : Nat) (A : List Nat) (σ₀ : Env) (N : Env → World → Prop) (X : Nat → Env → World → Prop) (R : Env → World → Prop) : Exit → Act → World → Prop
  | .normal, a, w => ∃ σ, Rep n a σ ∧ agree A σ₀ σ ∧ N σ w
  | .exit id, a, w => ∃ σ, Rep n a σ ∧ agree A σ₀ σ ∧ X id σ w
  | .ret, a, w => ∃ σ, Rep n a σ ∧ R σ w
  | _, _, _ => False

/-- What is asked of the words for a region that draws. -/
def DrawOk (P : Program) (draw : Array Oper → Env → World → (Env → World → Prop) → Prop) : Prop :=
  ∀ (id n : Nat) (ops : Array Oper) (σ : Env) (a : Act) (w : World) (K : Env → World → Prop) (Q : Exit → Act → World → Prop), inB n (dsts ops.toList) = true → Rep n a σ → (∀ c a w, ¬ Q (.panic c) a w) →
    (∀ a σ' w, Rep n a σ' → agree (dsts ops.toList) σ σ' → K σ' w → Q .normal a w) → draw ops σ w K → (Code.region id ops true).wp P Q a w

theorem tapp_all {D : List (Nat × Ck)} {J : TF (cks D) (World → Prop)} {σ : Env} {w : World} (h : tapp NoI (cks D) J ((ids D).map σ) w) {q : List Value → Prop} (hq : tall (cks D) q) : q ((ids D).map σ) := by
  refine tapp_ok (d := NoI) (f := J) (vs := (ids D).map σ) (P := fun f => f w) h (fun h => h) hq ?_
  simp [ids, cks]
section
variable {P : Program} {draw : Array Oper → Env → World → (Env → World → Prop) → Prop} {An : An} {n : Nat}
theorem den_wp (hdr : DrawOk P draw) : ∀ (c : Code) (A : List Nat), (∀ t, t ∈ asg c → t ∈ A) → inB n (asg c) = true → ∀ (N : Env → World → Prop) (X : Nat → Env → World → Prop) (R : Env → World → Prop) (σ₀ σ : Env) (a : Act) (w : World),
    Rep n a σ → agree A σ₀ σ → den P draw An c N X R σ w → c.wp P (Qof n A σ₀ N X R) a w := by
  have inB_l : ∀ {l m : List Nat}, inB n (l ++ m) = true → inB n l = true := by
    intro l; induction l with
    | nil => intros; rfl
    | cons x l ih => intro m h; simp only [List.cons_append, inB] at h ⊢; split <;> simp_all; exact ih h
  have inB_r : ∀ {l m : List Nat}, inB n (l ++ m) = true → inB n m = true := by
    intro l; induction l with
    | nil => intro m h; exact h
    | cons x l ih => intro m h; simp only [List.cons_append, inB] at h; split at h; exact ih h; cases h
  intro c
  induction c with
  | skip => intro A _ _ N X R σ₀ σ a w hr hag h; exact wp_skip ⟨σ, hr, hag, h⟩
  | label l => intro A _ _ N X R σ₀ σ a w hr hag h; exact wp_label ⟨σ, hr, hag, h⟩
  | region id ops d =>
    intro A hA hn N X R σ₀ σ a w hr hag h
    cases d with
    | false =>
      refine wp_region_list (opsG_wp (A := A) (σ₀ := σ₀) (fun a σ w hr hag hk => ⟨σ, hr, hag, hk⟩) _ a σ w (fun t ht => ⟨inB_lt hn ht, hA t ht⟩) hr hag h)
    | true =>
      exact hdr id n ops σ a w N _ hn hr (fun _ _ _ h => h) (fun a σ' w hr' hag' hk => ⟨σ', hr', hag.trans (hag'.mono hA), hk⟩) h
  | seq x y ihx ihy =>
    intro A hA hn N X R σ₀ σ a w hr hag h
    simp only [asg, List.mem_append] at hA
    have hnx := inB_l (l := asg x) (m := asg y) hn
    have hny := inB_r (l := asg x) (m := asg y) hn
    simp only [den] at h
    split at h
    · refine wp_seq (wp_mono (ihx A (fun t ht => hA t (.inl ht)) hnx _ X R σ₀ σ a w hr hag h) ?_)
      intro e a w hq
      cases e <;> try exact hq
      obtain ⟨σ', hr', hag', hk⟩ := hq
      exact ihy A (fun t ht => hA t (.inr ht)) hny N X R σ₀ σ' a w hr' hag' hk
    · rename_i D hD
      obtain ⟨J, h1, h2⟩ := h
      have h1' := ihx (asg x) (fun t ht => ht) hnx _ X R σ σ a w hr (agree.refl _ _) h1
      refine wp_seq (wp_mono h1' ?_)
      intro e a w hq
      cases e with
      | normal =>
        obtain ⟨σ', hr', hag', hk⟩ := hq
        have := tapp_all hk (h2 σ') w hk
        rw [mask_eq hag', over_map rfl] at this
        exact ihy A (fun t ht => hA t (.inr ht)) hny N X R σ₀ σ' a w hr' (hag.trans (hag'.mono fun t ht => hA t (.inl ht))) this
      | exit id => obtain ⟨σ', hr', hag', hk⟩ := hq; exact ⟨σ', hr', hag.trans (hag'.mono fun t ht => hA t (.inl ht)), hk⟩
      | ret => exact hq
      | goto l => exact hq
      | panic ch => exact hq
      | outgrown => exact hq
  | cond c x y ihx ihy =>
    intro A hA hn N X R σ₀ σ a w hr hag h
    simp only [asg, List.mem_append] at hA
    simp only [den] at h
    split at h
    · rename_i t ht
      have hc : a.eval c = .bool t := by rw [hr.eval]; exact ht
      unfold gIf at h
      split at h
      · exact wp_cond_true hc (ihx A (fun t ht => hA t (.inl ht)) (inB_l (l := asg x) (m := asg y) hn) N X R σ₀ σ a w hr hag h)
      · exact wp_cond_false hc (ihy A (fun t ht => hA t (.inr ht)) (inB_r (l := asg x) (m := asg y) hn) N X R σ₀ σ a w hr hag h)
    · exact h.elim
  | block id x ih =>
    intro A hA hn N X R σ₀ σ a w hr hag h
    refine wp_block (wp_mono (ih A hA hn N _ R σ₀ σ a w hr hag h) ?_)
    intro e a w hq
    cases e <;> try exact hq
    rename_i i
    simp only [Exit.inBlock]
    obtain ⟨σ', hr', hag', hk⟩ := hq
    by_cases hi : i = id
    · rw [if_pos hi]
      rw [show Nat.beq i id = true by rw [hi]; exact Nat.beq_refl id] at hk
      exact ⟨σ', hr', hag', hk⟩
    · rw [if_neg hi]
      rw [show Nat.beq i id = false by cases hb : Nat.beq i id with | false => rfl | true => exact absurd (Nat.eq_of_beq_eq_true hb) hi] at hk
      exact ⟨σ', hr', hag', hk⟩
  | loop x ih =>
    intro A hA hn N X R σ₀ σ a w hr hag h
    obtain ⟨I, μ, h0, h1⟩ := h
    refine wp_loop (I := fun a' w' => ∃ σ', Rep n a' σ' ∧ agree (asg x) σ σ' ∧ tapp NoI _ I ((ids (An.lp x)).map σ') w')
      (μ := fun a' w' => tapp NoM _ μ ((ids (An.lp x)).map fun t => a'.tmps.getD t undef) w') ⟨σ, hr, agree.refl _ _, h0⟩ ?_
    intro a' w' ⟨σ', hr', hag', hI⟩
    have := tapp_all hI (h1 σ') w' hI
    rw [mask_eq hag', over_map rfl] at this
    refine wp_mono (ih (asg x) (fun t ht => ht) hn _ X R σ σ' a' w' hr' hag' this) ?_
    intro e a'' w'' hq
    have hget : ∀ {a : Act} {σ : Env}, Rep n a σ → (fun t => a.tmps.getD t undef) = σ := fun hr => funext hr.get
    cases e with
    | normal =>
      obtain ⟨σ'', hr'', hag'', hk1, hk2⟩ := hq
      refine ⟨⟨σ'', hr'', hag'', hk1⟩, ?_⟩
      rw [hget hr'', hget hr']; exact hk2
    | exit id => obtain ⟨σ'', hr'', hag'', hk⟩ := hq; exact ⟨σ'', hr'', hag.trans (hag''.mono hA), hk⟩
    | ret => exact hq
    | goto l => exact hq
    | panic ch => exact hq
    | outgrown => exact hq
  | exit id => intro A _ _ N X R σ₀ σ a w hr hag h; exact wp_exit ⟨σ, hr, hag, h⟩
  | ret => intro A _ _ N X R σ₀ σ a w hr _ h; exact wp_ret ⟨σ, hr, h⟩
  | rangeFunc => intro A _ _ N X R σ₀ σ a w _ _ h; exact h.elim
  | scope => intro A _ _ N X R σ₀ σ a w _ _ h; exact h.elim
  | goto => intro A _ _ N X R σ₀ σ a w _ _ h; exact h.elim
  | refuse => intro A _ _ N X R σ₀ σ a w _ _ h; exact h.elim
end

/-- What a function hands back: temporaries; variables that lie in memory are loaded. -/
def resV : List Value → Value
  | [v] => v
  | vs => .tuple vs.toArray
def retL (P : Program) (σ : Env) (w : World) : List ResultVar → (List Value → Prop) → Prop
  | [], k => k []
  | .tmp t :: r, k => retL P σ w r fun vs => k (σ t :: vs)
  | .cell a t :: r, k => gLoad P t (shOf P t) (σ a) w (tlam _ fun xs => retL P σ w r fun vs => k ((shOf P t).mk xs :: vs))
def retG (P : Program) (fn : Func) (R : Ending → World → Prop) (σ : Env) (w : World) : Prop := retL P σ w fn.results.toList fun vs => R (.returned (resV vs)) w
theorem retL_run {P : Program} {w : World} {tmps : Array Value} {σ : Env} (hs : ∀ t, tmps.getD t undef = σ t) : ∀ {l : List ResultVar} {k : List Value → Prop}, retL P σ w l k →
    ∃ vs, (l.mapM (fun | .tmp t => pure (tmps.getD t undef) | .cell a t => do loadVar t (← asAddr (tmps.getD a undef)) : ResultVar → Sem Value)).run P w = .ok vs w ∧ k vs
  | [], k, h => ⟨[], by simp, h⟩
  | .tmp t :: r, k, h => by
    obtain ⟨vs, hv, hk⟩ := retL_run hs (show retL P σ w r fun vs => k (σ t :: vs) from h)
    refine ⟨σ t :: vs, ?_, hk⟩
    rw [← hs]
    simp only [List.mapM_cons, Sem.run_bind, Sem.run_pure, Result.andThen_ok]
    rw [hv]; rfl
  | .cell a t :: r, k, h => by
    obtain ⟨xs, hx, h⟩ := tex_tlam (show gLoad P t (shOf P t) (σ a) w (tlam _ fun xs => retL P σ w r fun vs => k ((shOf P t).mk xs :: vs)) from h)
    obtain ⟨vs, hv, hk⟩ := retL_run hs h
    refine ⟨(shOf P t).mk xs :: vs, ?_, hk⟩
    simp only [List.mapM_cons, Sem.run_bind, Sem.run_pure, Result.andThen_ok]
    have hl : (asAddr (tmps.getD a undef) >>= fun x => loadVar t x : Sem Value).run P w = .ok ((shOf P t).mk xs) w := by
      rw [hs]
      unfold Instr.loadAt at hx
      cases hp : σ a with
      | pointer p => cases p with
        | none => rw [hp] at hx; simp [Instr.sureAddr, Sem.run, stuck] at hx
        | some ad => rw [hp] at hx; exact hx
      | _ => rw [hp] at hx; simp [Instr.sureAddr, Sem.run, stuck] at hx
    rw [← Sem.run_bind, hl]
    simp only [Result.andThen_ok]
    rw [hv]; rfl
theorem retG_ok {P : Program} {fn : Func} {R : Ending → World → Prop} {σ : Env} {w : World} {tmps : Array Value} (hs : ∀ t, tmps.getD t undef = σ t) (h : retG P fn R σ w) :
    ∃ v, (results fn tmps).run P w = .ok v w ∧ R (.returned v) w := by
  obtain ⟨vs, hv, hk⟩ := retL_run hs h
  refine ⟨_, ?_, hk⟩
  unfold results
  rw [Array.mapM_eq_mapM_toList]
  simp only [Sem.run_bind, ← bind_pure_comp]
  erw [hv]
  simp only [Result.andThen_ok, Sem.run_pure]
  match vs with
  | [] => rfl
  | [t] => rfl
  | _ :: _ :: _ => rfl
theorem calls_of_den {P : Program} {draw : Array Oper → Env → World → (Env → World → Prop) → Prop} {An : An} {f : FuncId} {fn : Func} {c : Code} {args : Array Value} {w : World} {R : Ending → World → Prop}
    (hdr : DrawOk P draw) (hf : P.funcs[f]? = some fn) (hb : fn.body = some c) (hs : args.size + (fn.ntmps - args.size) = fn.ntmps) (hn : inB fn.ntmps (asg c) = true)
    (h : den P draw An c (retG P fn R) (fun _ _ _ => False) (retG P fn R) (fun t => args.getD t undef) w) : Calls P f args w R := by
  refine calls_of_wp hf hb (wp_mono (den_wp (An := An) hdr c (asg c) (fun _ h => h) hn _ _ _ _ _ _ w ⟨by simpa using hs, rfl, fun t => ?_⟩ (agree.refl _ _) h) ?_)
  · simp only [Array.getD_eq_getD_getElem?, Array.getElem?_append, Array.getElem?_replicate]
    split
    · rfl
    · rename_i hlt; rw [Array.getElem?_eq_none (by omega)]; split <;> rfl
  · intro e a w hq
    cases e with
    | normal => obtain ⟨σ, hr, _, hk⟩ := hq; exact ⟨hr.defers, retG_ok hr.get hk⟩
    | ret => obtain ⟨σ, hr, hk⟩ := hq; exact ⟨hr.defers, retG_ok hr.get hk⟩
    | exit id => obtain ⟨_, _, _, hk⟩ := hq; exact hk.elim
    | goto l => exact hq
    | panic ch => exact hq.elim
    | outgrown => exact hq.elim
end Go.Proofs.YtcjopcplhabgkaaV
