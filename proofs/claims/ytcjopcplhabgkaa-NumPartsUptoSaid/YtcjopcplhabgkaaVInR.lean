/- The engine, fifth part: functions that are ranged over (their calls of yield), and functions that range over a function. -/
import Derived.Test.YtcjopcplhabgkaaVDraw
import Derived.RangeFuncNested
import Derived.RangeFuncLeaves
import Derived.RangeFuncCalls
import Derived.OwnWalkIn
import Derived.TacticsIn
namespace Go.Proofs.YtcjopcplhabgkaaV
open Go Go.RowKit

/-- The wide fence, in a round or not. -/
abbrev FW (ro : Option Nat) : Fence := { fn := fun _ => True, depth := none, alive := false, round := ro }
theorem callsIn_FW {ro : Option Nat} {m : Nat} {P : Program} {f : FuncId} {args : Array Value} {w : World} {R : Ending → World → Prop} : CallsIn (FW ro) m P f args w R ↔ Calls P f args w R := callsIn_wide (n := m)
theorem roundIn_FW {F : Fence} {ro : Option Nat} {m k l : Nat} {P : Program} {f : FuncId} {tmps : Array Value} {as bo : Code} {w : World} {R : Ending → World → Prop} (hF : F = Fence.wide) (h : RoundIn F k P l f tmps as bo w R) : RoundIn (FW ro) m P l f tmps as bo w R := by
  subst hF; exact ⟨trivial, fun c cs _ => h.2 c cs (room_wide _)⟩
def gCallY (P : Program) (fv : Value) (sh : Sh) (args : Array Value) (w : World) (K : TF sh.cks (World → Prop)) : Prop :=
  gCallV P fv sh args w K ∨ ∃ l m, fv = .func (.yield l) #[] #[] ∧ YieldAt Fence.wide m P l args w (retOk sh K)
/-- A call of a function that the model runs itself. -/
def gExt (P : Program) (f : FuncId) (sh : Sh) (args : Array Value) (w : World) (K : TF sh.cks (World → Prop)) : Prop := gAny P sh (callFunc f args) w K
def opY (P : Program) (o : Oper) (σ : Env) (w : World) (K : Value → World → Prop) : Prop := match o.op with
  | .call c => match c.callee with
    | .value (.tmp t) => gCallY P (σ t) (shOf P o.type) (c.args.map (evO σ)) w (tlam _ fun vs w' => K ((shOf P o.type).mk vs) w')
    | _ => opG P o σ w K
  | _ => opG P o σ w K
section
variable {P : Program} {o : Oper} {a : Act} {σ : Env} {w : World} {K : Value → World → Prop} {next : Act → World → Prop} {Q : Exit → Act → World → Prop} {ro : Option Nat} {m : Nat}
theorem opIn_of_wp (h : o.wp P a w next Q) (hd : ∀ c, o.op ≠ .defer c) : o.wpIn (FW ro) m P a w next Q := by
  refine ⟨fun _ _ => trivial, ?_⟩
  rw [Oper.semAt_plain (FW ro) _ _ hd]
  unfold Oper.wp at h
  generalize (execOp a.eval o).run P w = r at h ⊢
  unfold Oper.upon at h
  unfold Oper.uponIn
  split at h
  · exact h
  · exact h
  · exact h
  · exact ⟨fun h => (by cases h), callsIn_FW.2 h⟩
  · exact ⟨fun h => (by cases h), fun c cs _ => let ⟨v, w', r, s⟩ := h c cs; ⟨v, w', r, stepsIn_wide.2 s⟩⟩
  · exact h
  · exact h.elim
theorem opG_nd (h : opG P o σ w K) : ∀ c, o.op ≠ .defer c := by
  intro c hc
  unfold opG isQ at h
  rw [hc] at h
  exact h
theorem opY_in (he : a.eval = evO σ) (h : opY P o σ w K) (hn : ∀ v w', K v w' → next (a.put o.dst v) w') : o.wpIn (FW ro) m P a w next Q := by
  have plain : opG P o σ w K → o.wpIn (FW ro) m P a w next Q := fun h => opIn_of_wp (opG_wp he h hn) (opG_nd h)
  unfold opY at h
  split at h
  · rename_i c ho
    split at h
    · rename_i t hc
      rcases h with h | ⟨l, k, hv, fn, tmps, as, bo, hy, hR⟩
      · refine plain ?_
        unfold opG isQ
        rw [ho]; dsimp only; rw [hc]; dsimp only
        unfold callG
        rw [hc]; exact h
      · refine ⟨fun _ _ => trivial, ?_⟩
        rw [Oper.semAt_plain (FW ro) _ _ (by rw [ho]; simp)]
        have hrun : (execOp a.eval o).run P w = .ok (.round l fn tmps as bo) w := by
          rw [he]; unfold execOp; rw [ho]; dsimp only
          unfold resolve; rw [hc]; dsimp only [evO]
          rw [hv]
          simp only [Deferred.ofValue, Sem.run_bind, Sem.run_pure, Result.andThen_ok]
          simp only [Array.empty_append, invoke, Array.append_empty]
          exact hy
        rw [hrun]
        refine ⟨fun h => (by cases h), (roundIn_FW rfl hR).mono ?_⟩
        intro e w' hret
        obtain ⟨vs, hv, hk⟩ := tex_tlam hret
        subst hv
        exact hn _ _ hk
    · exact plain h
  · exact plain h
end
structure RepD (ds : List Deferred) (n : Nat) (a : Act) (σ : Env) : Prop where
  size : a.tmps.size = n
  defers : a.defers = ds
  get : ∀ t, a.tmps.getD t undef = σ t
theorem RepD.eval {ds : List Deferred} {n : Nat} {a : Act} {σ : Env} (h : RepD ds n a σ) : a.eval = evO σ := by
  funext x; cases x <;> simp only [Act.eval, evO, h.get]
theorem RepD.put {ds : List Deferred} {n : Nat} {a : Act} {σ : Env} (h : RepD ds n a σ) {d : Option Nat} (hd : ∀ t, d = some t → t < n) (v : Value) : RepD ds n (a.put d v) (updO σ d v) := by
  have h0 : Rep n { a with defers := [] } σ := ⟨h.size, rfl, h.get⟩
  have h1 := h0.put hd v
  exact ⟨by have := h1.size; cases d <;> simpa [Act.put] using this, by cases d <;> exact h.defers, fun t => by have := h1.get t; cases d <;> exact this⟩
def opsY (P : Program) (ops : Array Oper) : List Oper → Env → World → (Env → World → Prop) → Prop
  | [], σ, w, K => K σ w
  | o :: r, σ, w, K => match o.guard with
    | none => opY P o σ w fun v w' => opsY P ops r (updO σ o.dst v) w' K
    | some g => gIf (guardB ops σ g) (opY P o (setG ops σ g true) w fun v w' => opsY P ops r (updO (setG ops σ g true) o.dst v) w' K) (opsY P ops r (updO (setG ops σ g false) o.dst undef) w K)
section
variable {P : Program} {ops : Array Oper} {n : Nat} {ds : List Deferred} {ro : Option Nat} {m : Nat}
theorem wanted_guardD {a : Act} {σ : Env} {o : Oper} {g : Nat × Bool} (hr : RepD ds n a σ) (hg : o.guard = some g) : Region.wanted o (yielded ops a.tmps) = guardB ops σ g :=
  wanted_guard (a := { a with defers := [] }) (n := n) ⟨hr.size, rfl, hr.get⟩ hg
theorem opsY_in {A : List Nat} {σ₀ : Env} {K : Env → World → Prop} {Q : Exit → Act → World → Prop} (hQ : ∀ a σ w, RepD ds n a σ → agree A σ₀ σ → K σ w → Q .normal a w) :
    ∀ (l : List Oper) (a : Act) (σ : Env) (w : World), (∀ t, t ∈ dsts l → t < n ∧ t ∈ A) → RepD ds n a σ → agree A σ₀ σ → opsY P ops l σ w K → wpListIn (FW ro) m P ops Q l a w
  | [], a, σ, w, _, hr, hag, h => hQ a σ w hr hag h
  | o :: r, a, σ, w, hd, hr, hag, h => by
    have hd1 : ∀ t, o.dst = some t → t < n ∧ t ∈ A := fun t ht => hd t (mem_dsts (by simp) ht)
    have hd2 : ∀ t, t ∈ dsts r → t < n ∧ t ∈ A := fun t ht => hd t (by simp only [dsts]; split <;> simp [ht])
    have step : ∀ v w', opsY P ops r (updO σ o.dst v) w' K → wpListIn (FW ro) m P ops Q r (a.put o.dst v) w' := fun v w' h' =>
      opsY_in hQ r _ _ _ hd2 (hr.put (fun t ht => (hd1 t ht).1) v) (hag.trans (agree_updO (fun t ht => (hd1 t ht).2) v)) h'
    simp only [opsY] at h
    split at h
    · rename_i hg
      exact wpListIn_plain hg fun K' hK => opY_in hr.eval h fun v w' hk => hK _ _ (step v w' hk)
    · rename_i g hg
      refine wpListIn_step fun K' hK => ?_
      rw [wanted_guardD hr hg]
      unfold gIf at h
      split at h
      · rename_i hb; rw [hb, if_pos rfl]; rw [setG_eq hb] at h; exact opY_in hr.eval h fun v w' hk => hK _ _ (step v w' hk)
      · rename_i hb; rw [hb, if_neg (by simp)]; rw [setG_eq hb] at h; exact ⟨fun _ _ => trivial, hK _ _ (step undef w h)⟩
end
def denY (P : Program) (dr : Bool) (An : An) : Code → (Env → World → Prop) → (Nat → Env → World → Prop) → (Env → World → Prop) → Env → World → Prop
  | .skip, N, _, _, σ, w => N σ w
  | .label _, N, _, _, σ, w => N σ w
  | .region _ ops d, N, _, _, σ, w => match d with
    | false => opsY P ops ops.toList σ w N
    | true => match dr with
      | true => drawG P ops σ w N
      | false => False
  | .seq a b, N, X, R, σ, w => match lk (key b) An.cut with
    | none => denY P dr An a (fun σ' w' => denY P dr An b N X R σ' w') X R σ w
    | some D => ∃ J : TF (cks D) (World → Prop), denY P dr An a (fun σ' w' => tapp NoI (cks D) J ((ids D).map σ') w') X R σ w ∧
        ∀ g : Env, tall (cks D) fun vs => ∀ w', tapp NoI (cks D) J vs w' → denY P dr An b N X R (over (ids D) vs (mask (asg a) g σ)) w'
  | .cond c a b, N, X, R, σ, w => match evO σ c with
    | .bool t => gIf t (denY P dr An a N X R σ w) (denY P dr An b N X R σ w)
    | _ => False
  | .block id c, N, X, R, σ, w => denY P dr An c N (fun i => match Nat.beq i id with | true => N | false => X i) R σ w
  | .loop c, _, X, R, σ, w => ∃ (I : TF (cks (An.lp c)) (World → Prop)) (μ : TF (cks (An.lp c)) (World → Nat)),
      tapp NoI _ I ((ids (An.lp c)).map σ) w ∧
      ∀ g : Env, tall (cks (An.lp c)) fun vs => ∀ w', tapp NoI _ I vs w' →
        denY P dr An c (fun σ' w'' => tapp NoI _ I ((ids (An.lp c)).map σ') w'' ∧ tapp NoM _ μ ((ids (An.lp c)).map σ') w'' < tapp NoM _ μ vs w') X R
          (over (ids (An.lp c)) vs (mask (asg c) g σ)) w'
  | .exit id, _, X, _, σ, w => X id σ w
  | .ret, _, _, R, σ, w => R σ w
  | _, _, _, _, _, _ => False
def QofD (ds : List Deferred) (n : Nat) (A : List Nat) (σ₀ : Env) (N : Env → World → Prop) (X : Nat → Env → World → Prop) (R : Env → World → Prop) : Exit → Act → World → Prop
  | .normal, a, w => ∃ σ, RepD ds n a σ ∧ agree A σ₀ σ ∧ N σ w
  | .exit id, a, w => ∃ σ, RepD ds n a σ ∧ agree A σ₀ σ ∧ X id σ w
  | .ret, a, w => ∃ σ, RepD ds n a σ ∧ R σ w
  | _, _, _ => False
section
variable {P : Program} {An : An} {n : Nat} {ds : List Deferred} {ro : Option Nat} {m : Nat}
theorem denY_in {dr : Bool} (hdr : dr = true → ro = none ∧ ds = [] ∧ P.follows .mixedOrders = true) : ∀ (c : Code) (A : List Nat), (∀ t, t ∈ asg c → t ∈ A) → inB n (asg c) = true → ∀ (N : Env → World → Prop) (X : Nat → Env → World → Prop) (R : Env → World → Prop) (σ₀ σ : Env) (a : Act) (w : World),
    RepD ds n a σ → agree A σ₀ σ → denY P dr An c N X R σ w → c.wpIn (FW ro) m P (QofD ds n A σ₀ N X R) a w := by
  have inB_l : ∀ {l m : List Nat}, inB n (l ++ m) = true → inB n l = true := by
    intro l; induction l with
    | nil => intros; rfl
    | cons x l ih => intro m h; simp only [List.cons_append, inB] at h ⊢; split <;> simp_all; exact ih h
  have inB_r : ∀ {l m : List Nat}, inB n (l ++ m) = true → inB n m = true := by
    intro l; induction l with
    | nil => intro m h; exact h
    | cons x l ih => intro m h; simp only [List.cons_append, inB] at h; split at h; exact ih h; cases h
  intro c
  induction c with
  | skip => intro A _ _ N X R σ₀ σ a w hr hag h; exact wpIn_skip ⟨σ, hr, hag, h⟩
  | label l => intro A _ _ N X R σ₀ σ a w hr hag h; exact wpIn_label ⟨σ, hr, hag, h⟩
  | region id ops d =>
    intro A hA hn N X R σ₀ σ a w hr hag h
    cases d with
    | false => exact wpIn_region_list (opsY_in (A := A) (σ₀ := σ₀) (fun a σ w hr hag hk => ⟨σ, hr, hag, hk⟩) _ a σ w (fun t ht => ⟨inB_lt hn ht, hA t ht⟩) hr hag h)
    | true =>
      cases dr with
      | false => exact h.elim
      | true =>
        obtain ⟨rfl, rfl, hm⟩ := hdr rfl
        have h0 : (Code.region id ops true).wp P (QofD [] n A σ₀ N X R) a w := drawG_ok hm id n ops σ a w N _ hn ⟨hr.size, hr.defers, hr.get⟩ (fun _ _ _ h => h) (fun a σ' w hr' hag' hk => ⟨σ', ⟨hr'.size, hr'.defers, hr'.get⟩, hag.trans (hag'.mono hA), hk⟩) h
        exact (wpIn_wide (n := m)).2 h0
  | seq x y ihx ihy =>
    intro A hA hn N X R σ₀ σ a w hr hag h
    simp only [asg, List.mem_append] at hA
    have hnx := inB_l (l := asg x) (m := asg y) hn
    have hny := inB_r (l := asg x) (m := asg y) hn
    simp only [denY] at h
    split at h
    · refine wpIn_seq (wpIn_mono (ihx A (fun t ht => hA t (.inl ht)) hnx _ X R σ₀ σ a w hr hag h) ?_)
      intro e a w hq
      cases e <;> try exact hq
      obtain ⟨σ', hr', hag', hk⟩ := hq
      exact ihy A (fun t ht => hA t (.inr ht)) hny N X R σ₀ σ' a w hr' hag' hk
    · rename_i D hD
      obtain ⟨J, h1, h2⟩ := h
      have h1' := ihx (asg x) (fun t ht => ht) hnx _ X R σ σ a w hr (agree.refl _ _) h1
      refine wpIn_seq (wpIn_mono h1' ?_)
      intro e a w hq
      cases e with
      | normal =>
        obtain ⟨σ', hr', hag', hk⟩ := hq
        have := tapp_all hk (h2 σ') w hk
        rw [mask_eq hag', over_map rfl] at this
        exact ihy A (fun t ht => hA t (.inr ht)) hny N X R σ₀ σ' a w hr' (hag.trans (hag'.mono fun t ht => hA t (.inl ht))) this
      | exit id => obtain ⟨σ', hr', hag', hk⟩ := hq; exact ⟨σ', hr', hag.trans (hag'.mono fun t ht => hA t (.inl ht)), hk⟩
      | ret => exact hq
      | goto l => exact hq
      | panic ch => exact hq
      | outgrown => exact hq
  | cond c x y ihx ihy =>
    intro A hA hn N X R σ₀ σ a w hr hag h
    simp only [asg, List.mem_append] at hA
    simp only [denY] at h
    split at h
    · rename_i t ht
      have hc : a.eval c = .bool t := by rw [hr.eval]; exact ht
      unfold gIf at h
      split at h
      · exact wpIn_cond_true hc (ihx A (fun t ht => hA t (.inl ht)) (inB_l (l := asg x) (m := asg y) hn) N X R σ₀ σ a w hr hag h)
      · exact wpIn_cond_false hc (ihy A (fun t ht => hA t (.inr ht)) (inB_r (l := asg x) (m := asg y) hn) N X R σ₀ σ a w hr hag h)
    · exact h.elim
  | block id x ih =>
    intro A hA hn N X R σ₀ σ a w hr hag h
    refine wpIn_block (wpIn_mono (ih A hA hn N _ R σ₀ σ a w hr hag h) ?_)
    intro e a w hq
    cases e <;> try exact hq
    rename_i i
    simp only [Exit.inBlock]
    obtain ⟨σ', hr', hag', hk⟩ := hq
    by_cases hi : i = id
    · rw [if_pos hi]
      rw [show Nat.beq i id = true by rw [hi]; exact Nat.beq_refl id] at hk
      exact ⟨σ', hr', hag', hk⟩
    · rw [if_neg hi]
      rw [show Nat.beq i id = false by cases hb : Nat.beq i id with | false => rfl | true => exact absurd (Nat.eq_of_beq_eq_true hb) hi] at hk
      exact ⟨σ', hr', hag', hk⟩
  | loop x ih =>
    intro A hA hn N X R σ₀ σ a w hr hag h
    obtain ⟨I, μ, h0, h1⟩ := h
    refine wpIn_loop (I := fun a' w' => ∃ σ', RepD ds n a' σ' ∧ agree (asg x) σ σ' ∧ tapp NoI _ I ((ids (An.lp x)).map σ') w')
      (μ := fun a' w' => tapp NoM _ μ ((ids (An.lp x)).map fun t => a'.tmps.getD t undef) w') ⟨σ, hr, agree.refl _ _, h0⟩ ?_
    intro a' w' ⟨σ', hr', hag', hI⟩
    have := tapp_all hI (h1 σ') w' hI
    rw [mask_eq hag', over_map rfl] at this
    refine wpIn_mono (ih (asg x) (fun t ht => ht) hn _ X R σ σ' a' w' hr' hag' this) ?_
    intro e a'' w'' hq
    have hget : ∀ {a : Act} {σ : Env}, RepD ds n a σ → (fun t => a.tmps.getD t undef) = σ := fun hr => funext hr.get
    cases e with
    | normal =>
      obtain ⟨σ'', hr'', hag'', hk1, hk2⟩ := hq
      refine ⟨⟨σ'', hr'', hag'', hk1⟩, ?_⟩
      rw [hget hr'', hget hr']; exact hk2
    | exit id => obtain ⟨σ'', hr'', hag'', hk⟩ := hq; exact ⟨σ'', hr'', hag.trans (hag''.mono hA), hk⟩
    | ret => exact hq
    | goto l => exact hq
    | panic ch => exact hq
    | outgrown => exact hq
  | exit id => intro A _ _ N X R σ₀ σ a w hr hag h; exact wpIn_exit ⟨σ, hr, hag, h⟩
  | ret => intro A _ _ N X R σ₀ σ a w hr _ h; exact wpIn_ret ⟨σ, hr, h⟩
  | rangeFunc => intro A _ _ N X R σ₀ σ a w _ _ h; exact h.elim
  | scope => intro A _ _ N X R σ₀ σ a w _ _ h; exact h.elim
  | goto => intro A _ _ N X R σ₀ σ a w _ _ h; exact h.elim
  | refuse => intro A _ _ N X R σ₀ σ a w _ _ h; exact h.elim
end
theorem rep0 {args : Array Value} {k : Nat} (hs : args.size + (k - args.size) = k) : RepD [] k { tmps := args ++ Array.replicate (k - args.size) undef, defers := [] } (fun t => args.getD t undef) := by
  refine ⟨by simpa using hs, rfl, fun t => ?_⟩
  simp only [Array.getD_eq_getD_getElem?, Array.getElem?_append, Array.getElem?_replicate]
  split
  · rfl
  · rename_i hlt; rw [Array.getElem?_eq_none (by omega)]; split <;> rfl
/-- A call of a function that may call yield. -/
theorem calls_ofY {P : Program} (hm : P.follows .mixedOrders = true) {An : An} {f : FuncId} {fn : Func} {c : Code} {args : Array Value} {w : World} {R : Ending → World → Prop}
    (hf : P.funcs[f]? = some fn) (hb : fn.body = some c) (hs : args.size + (fn.ntmps - args.size) = fn.ntmps) (hn : inB fn.ntmps (asg c) = true)
    (h : denY P true An c (retG P fn R) (fun _ _ _ => False) (retG P fn R) (fun t => args.getD t undef) w) : Calls P f args w R := by
  refine callsIn_FW (ro := none) (m := 0) |>.1 (callsIn_of_wp hf hb trivial (wpIn_mono (denY_in (An := An) (dr := true) (fun _ => ⟨rfl, rfl, hm⟩) c (asg c) (fun _ h => h) hn _ _ _ _ _ _ w (rep0 hs) (agree.refl _ _) h) ?_))
  intro e a w hq
  cases e with
  | normal => obtain ⟨σ, hr, _, hk⟩ := hq; exact ⟨hr.defers, retG_ok hr.get hk⟩
  | ret => obtain ⟨σ, hr, hk⟩ := hq; exact ⟨hr.defers, retG_ok hr.get hk⟩
  | exit id => obtain ⟨_, _, _, hk⟩ := hq; exact hk.elim
  | goto l => exact hq
  | panic ch => exact hq.elim
  | outgrown => exact hq.elim

/-! ### A range over a function -/
structure RF where
  g : Operand
  p : Nat
  d : Nat
  bo : Code
/-- One loop variable, assigned as it comes. -/
def rfOf (g : Operand) (ps : Array Tmp) (as bo : Code) : Option RF := match ps.toList with
  | [p] => match as with
    | .region _ ops d => match d with
      | true => none
      | false => match ops.toList with
        | [o] => match o.op with
          | .assign x => match x with
            | .tmp q => match o.dst with
              | some d => match o.guard with
                | none => match Nat.beq p q with
                  | true => some ⟨g, p, d, bo⟩
                  | false => none
                | some _ => none
              | none => none
            | _ => none
          | _ => none
        | _ => none
    | _ => none
  | _ => none
/-- The function value fv is ranged over: an iterator's contract; an invariant; the body; what comes behind. -/
def gRange (P : Program) (fv : Value) (w : World) (BODY : Value → World → (World → Prop) → Prop) (POST : Nat → World → Prop) : Prop :=
  ∃ (gf : Nat) (lb : Array Value), fv = .func (.func gf) #[] lb ∧ callOk P gf = true ∧
  ∃ (α : Type) (enc : α → Value) (Kp : World → World → Prop) (S Sp : List α → Prop) (N : Nat) (I : List α → World → Prop),
    SeqStopsK Fence.wide 4 P gf lb (fun x => #[enc x]) Kp S Sp N w ∧ (∀ {A B C : World}, Kp A B → Kp B C → Kp A C) ∧
    (∀ (W : World) (l : Nat) (o o' : Obj), w.heap.size ≤ l → W.heap[l]? = some o → o.isCells = false → o.isWalk = false → Kp W (W.putObj l o')) ∧
    OwnFrom w.heap.size I ∧ I [] w ∧
    (∀ pre x W, I pre W → pre.length < N → BODY (enc x) W fun W' => KeepsOthers W W' ∧ Kp W W' ∧ I (pre ++ [x]) W') ∧
    (∀ D xs W, w.heap.size ≤ D → S xs → I xs W → W.heap[D]? = some (.deferred (some [])) → POST D W)
def hasR : Code → Bool
  | .rangeFunc .. => true
  | .seq a b => match hasR a with | true => true | false => hasR b
  | .block _ c => hasR c
  | _ => false
def asgR : Code → List Nat
  | .seq a b => match hasR a with
    | true => asgR a ++ asg b
    | false => asg a ++ asgR b
  | .block _ c => asgR c
  | .rangeFunc g ps as bo => match rfOf g ps as bo with
    | some r => r.p :: r.d :: asg r.bo
    | none => []
  | _ => []
/-- Code with one range over a function: N and R1 behind it (D: where the block of its deferred calls lies), R0 ahead of it. -/
def denR (P : Program) (An : An) : Code → (Nat → Env → World → Prop) → (Env → World → Prop) → (Nat → Env → World → Prop) → Env → World → Prop
  | .rangeFunc g ps as bo, N, _, _, σ, w => match rfOf g ps as bo with
    | some r => gRange P (evO σ r.g) w (fun x W K => denY P false An r.bo (fun _ w' => K w') (fun _ _ _ => False) (fun _ _ => False) (upd (upd σ r.p x) r.d x) W) (fun D w' => N D σ w')
    | none => False
  | .block _ c, N, R0, R1, σ, w => denR P An c N R0 R1 σ w
  | .seq a b, N, R0, R1, σ, w => match hasR a with
    | true => denR P An a (fun D σ' w' => denY P false An b (N D) (fun _ _ _ => False) (R1 D) σ' w') R0 R1 σ w
    | false => match lk (key b) An.cut with
      | none => den P (drawG P) An a (fun σ' w' => denR P An b N R0 R1 σ' w') (fun _ _ _ => False) R0 σ w
      | some D => ∃ J : TF (cks D) (World → Prop), den P (drawG P) An a (fun σ' w' => tapp NoI (cks D) J ((ids D).map σ') w') (fun _ _ _ => False) R0 σ w ∧
        ∀ g : Env, tall (cks D) fun vs => ∀ w', tapp NoI (cks D) J vs w' → denR P An b N R0 R1 (over (ids D) vs (mask (asg a) g σ)) w'
  | _, _, _, _, _, _ => False
abbrev mkD (D : Nat) : List Deferred := [{ target := .collected D, args := #[] }]
def QR (n : Nat) (N : Nat → Env → World → Prop) (R0 : Env → World → Prop) (R1 : Nat → Env → World → Prop) : Exit → Act → World → Prop
  | .normal, a, w => ∃ D σ, RepD (mkD D) n a σ ∧ N D σ w
  | .ret, a, w => (∃ σ, RepD [] n a σ ∧ R0 σ w) ∨ (∃ D σ, RepD (mkD D) n a σ ∧ R1 D σ w)
  | _, _, _ => False
section
variable {P : Program} {An : An} {n : Nat}
theorem inB_app {l m : List Nat} (h : inB n (l ++ m) = true) : inB n l = true ∧ inB n m = true := by
  induction l with
  | nil => exact ⟨rfl, h⟩
  | cons x l ih =>
    simp only [List.cons_append, inB] at h ⊢
    split at h
    · exact ih h
    · cases h
theorem rfOf_some {g : Operand} {ps : Array Tmp} {as bo : Code} {r : RF} (h : rfOf g ps as bo = some r) :
    r.g = g ∧ r.bo = bo ∧ ps = #[r.p] ∧ ∃ id o, as = .region id #[o] false ∧ o.op = .assign (.tmp r.p) ∧ o.dst = some r.d ∧ o.guard = none := by
  unfold rfOf at h
  split at h
  · rename_i p hp
    split at h
    · rename_i id ops d
      split at h
      · cases h
      · split at h
        · rename_i o ho
          split at h
          · rename_i x h1
            split at h
            · rename_i q
              split at h
              · rename_i d h2
                split at h
                · rename_i h3
                  split at h
                  · rename_i hb
                    injection h with h
                    subst h
                    have := Nat.eq_of_beq_eq_true hb
                    subst this
                    have e1 : ps = #[p] := by cases ps; simp_all
                    have e2 : ops = #[o] := by cases ops; simp_all
                    subst e1; subst e2
                    exact ⟨rfl, rfl, rfl, id, o, rfl, h1, h2, h3⟩
                  · cases h
                · cases h
              · cases h
            · cases h
          · cases h
        · cases h
    · cases h
  · cases h
theorem call_ok_enters {P : Program} {gf : Nat} (hok : callOk P gf = true) : ∀ args w, (callFunc gf args).run P w = .ok (.enter gf args) w := fun args w => call_enter hok
theorem range_in {r : RF} {g : Operand} {ps : Array Tmp} {as bo : Code} (hrf : rfOf g ps as bo = some r) (hn : inB n (r.p :: r.d :: asg r.bo) = true) {σ : Env} {a : Act} {w : World} (hr : RepD [] n a σ) {N : Nat → Env → World → Prop} {R0 : Env → World → Prop} {R1 : Nat → Env → World → Prop}
    (h : gRange P (evO σ r.g) w (fun x W K => denY P false An r.bo (fun _ w' => K w') (fun _ _ _ => False) (fun _ _ => False) (upd (upd σ r.p x) r.d x) W) (fun D w' => N D σ w')) :
    (Code.rangeFunc g ps as bo).wpIn (FW none) 5 P (QR n N R0 R1) a w := by
  obtain ⟨hg, hbo, rfl, id, o, rfl, ho1, ho2, ho3⟩ := rfOf_some hrf
  subst hg; subst hbo
  obtain ⟨gf, lb, hv, hok, α, enc, Kp, S, Sp, Nn, I, hseq, hKt, hKb, hI, h0, hbody, hdone⟩ := h
  have hp : r.p < n ∧ r.d < n ∧ inB n (asg r.bo) = true := by
    simp only [inB] at hn
    split at hn
    · rename_i h1
      split at hn
      · rename_i h2; exact ⟨by simpa [Nat.blt_eq] using h1, by simpa [Nat.blt_eq] using h2, hn⟩
      · cases hn
    · cases hn
  have hset : ∀ {a : Act} {σ : Env} {d : Nat} (v : Value), RepD [] n a σ → d < n → RepD [] n { tmps := a.tmps.setIfInBounds d v, defers := [] } (upd σ d v) := fun {a σ d} v hr hd => by
    have := RepD.put (ds := []) (n := n) (a := a) hr (d := some d) (fun t ht => by injection ht with ht; omega) v
    exact ⟨this.size, rfl, this.get⟩
  refine wpIn_rangeFunc_ownF (F := FW none) (n := 5) rfl (by decide) (gf := gf) (lb := lb) (by rw [hr.eval]; exact hv) trivial (call_ok_enters hok) (encs := fun x => #[enc x]) (Kp := Kp) (S := S) (Sp := Sp) (N := Nn) (w0 := w) ?_ hKt hKb (Below.refl _ w) (fun _ => rfl) I (fun _ _ _ => False) hI
    (fun c s W W' row h _ _ => h.elim) h0 (fun x => { tmps := (a.tmps.setIfInBounds r.p (enc x)).setIfInBounds r.d (enc x), defers := [] }) ?_ ?_ ?_ ?_
  · exact hseq
  · intro l x W K hK
    refine wpIn_region_list ?_
    refine wpListIn_plain ho3 fun K' hK' => ?_
    refine ⟨fun _ _ => trivial, ?_⟩
    rw [Oper.semAt_plain _ _ _ (by rw [ho1]; simp)]
    have hz : (#[r.p].zip #[enc x]).foldl (fun t (p : Tmp × Value) => t.setIfInBounds p.1 p.2) a.tmps = a.tmps.setIfInBounds r.p (enc x) := by simp
    have hrun : ∀ ρ : Operand → Value, (execOp ρ o).run P W = .ok (.value (ρ (.tmp r.p))) W := fun ρ => by unfold execOp; rw [ho1]; rfl
    rw [hrun]
    have hval : (a.tmps.setIfInBounds r.p (enc x)).getD r.p undef = enc x := by
      have := (hset (enc x) hr hp.1).get r.p
      rw [this, upd_eq, if_pos rfl]
    show K' _ W
    refine hK' _ _ ?_
    show wpListIn _ _ _ _ _ [] _ W
    show Exit.then K _ .normal _ W
    have he : ∀ {t : Array Value}, t = a.tmps.setIfInBounds r.p (enc x) → (({ tmps := t, defers := [] } : Act).put o.dst (({ tmps := t, defers := [] } : Act).eval (.tmp r.p))) = { tmps := (a.tmps.setIfInBounds r.p (enc x)).setIfInBounds r.d (enc x), defers := [] } := fun ht => by
      subst ht
      rw [ho2]
      simp only [Act.put, Act.eval, hval]
    rw [he (by simp)]
    exact hK
  · intro l pre x W hi hl
    have hrb : RepD [] n { tmps := (a.tmps.setIfInBounds r.p (enc x)).setIfInBounds r.d (enc x), defers := [] } (upd (upd σ r.p (enc x)) r.d (enc x)) :=
      hset (a := { tmps := a.tmps.setIfInBounds r.p (enc x), defers := [] }) (enc x) (hset (enc x) hr hp.1) hp.2.1
    refine wpIn_mono (denY_in (ro := some l) (An := An) (dr := false) (fun h => by cases h) r.bo (asg r.bo) (fun _ h => h) hp.2.2 _ _ _ _ _ _ W hrb (agree.refl _ _) (hbody pre x W hi hl)) ?_
    intro e a' W' hq
    cases e with
    | normal => obtain ⟨_, _, _, hk⟩ := hq; exact hk
    | exit id => obtain ⟨_, _, _, hk⟩ := hq; exact hk.elim
    | ret => obtain ⟨_, _, hk⟩ := hq; exact hk.elim
    | goto l => exact hq.elim
    | panic ch => exact hq.elim
    | outgrown => exact hq.elim
  · intro D xs W hD hS hi hk
    exact ⟨D, σ, ⟨hr.size, by rw [hr.defers], hr.get⟩, hdone D xs W hD hS hi hk⟩
  · intro D c pre W _ _ h _
    exact h.elim
theorem denR_in : ∀ (c : Code), inB n (asgR c) = true → ∀ (N : Nat → Env → World → Prop) (R0 : Env → World → Prop) (R1 : Nat → Env → World → Prop) (σ : Env) (a : Act) (w : World) (hm : P.follows .mixedOrders = true),
    RepD [] n a σ → denR P An c N R0 R1 σ w → c.wpIn (FW none) 5 P (QR n N R0 R1) a w := by
  intro c
  induction c with
  | rangeFunc g ps as bo =>
    intro hn N R0 R1 σ a w hm hr h
    simp only [denR] at h
    simp only [asgR] at hn
    split at h
    · rename_i r hrf
      rw [hrf] at hn
      exact range_in hrf hn hr h
    · exact h.elim
  | block id c ih =>
    intro hn N R0 R1 σ a w hm hr h
    refine wpIn_block (wpIn_mono (ih hn N R0 R1 σ a w hm hr h) ?_)
    intro e a w hq
    cases e <;> try exact hq
    exact hq.elim
  | seq x y ihx ihy =>
    intro hn N R0 R1 σ a w hm hr h
    simp only [denR] at h
    simp only [asgR] at hn
    split at h
    · rename_i hx
      rw [hx] at hn
      have hn2 := inB_app hn
      refine wpIn_seq (wpIn_mono (ihx hn2.1 _ R0 R1 σ a w hm hr h) ?_)
      intro e a w hq
      cases e with
      | normal =>
        obtain ⟨D, σ', hr', hk⟩ := hq
        refine wpIn_mono (denY_in (ro := none) (An := An) (dr := false) (fun h => by cases h) y (asg y) (fun _ h => h) hn2.2 _ _ _ _ _ _ w hr' (agree.refl _ _) hk) ?_
        intro e a w hq
        cases e with
        | normal => obtain ⟨σ'', hr'', _, hk⟩ := hq; exact ⟨D, σ'', hr'', hk⟩
        | exit id => obtain ⟨_, _, _, hk⟩ := hq; exact hk.elim
        | ret => obtain ⟨σ'', hr'', hk⟩ := hq; exact .inr ⟨D, σ'', hr'', hk⟩
        | goto l => exact hq
        | panic ch => exact hq
        | outgrown => exact hq
      | ret => exact hq
      | exit id => exact hq
      | goto l => exact hq
      | panic ch => exact hq
      | outgrown => exact hq
    · rename_i hx
      rw [hx] at hn
      have hn2 := inB_app hn
      have hr0 : Rep n a σ := ⟨hr.size, hr.defers, hr.get⟩
      have wide : ∀ {Q : Exit → Act → World → Prop} {a : Act} {w : World}, x.wp P Q a w → x.wpIn (FW none) 5 P Q a w := fun h => (wpIn_wide (n := 5)).2 h
      split at h
      · refine wpIn_seq (wpIn_mono (wide (den_wp (An := An) (drawG_ok hm) x (asg x) (fun _ h => h) hn2.1 _ _ _ _ _ _ w hr0 (agree.refl _ _) h)) ?_)
        intro e a w hq
        cases e with
        | normal => obtain ⟨σ', hr', _, hk⟩ := hq; exact ihy hn2.2 N R0 R1 σ' a w hm ⟨hr'.size, hr'.defers, hr'.get⟩ hk
        | exit id => obtain ⟨_, _, _, hk⟩ := hq; exact hk.elim
        | ret => obtain ⟨σ', hr', hk⟩ := hq; exact .inl ⟨σ', ⟨hr'.size, hr'.defers, hr'.get⟩, hk⟩
        | goto l => exact hq
        | panic ch => exact hq
        | outgrown => exact hq
      · rename_i D hD
        obtain ⟨J, h1, h2⟩ := h
        refine wpIn_seq (wpIn_mono (wide (den_wp (An := An) (drawG_ok hm) x (asg x) (fun _ h => h) hn2.1 _ _ _ _ _ _ w hr0 (agree.refl _ _) h1)) ?_)
        intro e a w hq
        cases e with
        | normal =>
          obtain ⟨σ', hr', hag', hk⟩ := hq
          have := tapp_all hk (h2 σ') w hk
          rw [mask_eq hag', over_map rfl] at this
          exact ihy hn2.2 N R0 R1 σ' a w hm ⟨hr'.size, hr'.defers, hr'.get⟩ this
        | exit id => obtain ⟨_, _, _, hk⟩ := hq; exact hk.elim
        | ret => obtain ⟨σ', hr', hk⟩ := hq; exact .inl ⟨σ', ⟨hr'.size, hr'.defers, hr'.get⟩, hk⟩
        | goto l => exact hq
        | panic ch => exact hq
        | outgrown => exact hq
  | skip => intro _ N R0 R1 σ a w _ _ h; exact h.elim
  | label => intro _ N R0 R1 σ a w _ _ h; exact h.elim
  | region => intro _ N R0 R1 σ a w _ _ h; exact h.elim
  | cond => intro _ N R0 R1 σ a w _ _ h; exact h.elim
  | loop => intro _ N R0 R1 σ a w _ _ h; exact h.elim
  | exit => intro _ N R0 R1 σ a w _ _ h; exact h.elim
  | ret => intro _ N R0 R1 σ a w _ _ h; exact h.elim
  | scope => intro _ N R0 R1 σ a w _ _ h; exact h.elim
  | goto => intro _ N R0 R1 σ a w _ _ h; exact h.elim
  | refuse => intro _ N R0 R1 σ a w _ _ h; exact h.elim
end
/-- What a function that ranged over a function hands back: the block of its rounds' deferred calls is shut. -/
def retGR (P : Program) (fn : Func) (R : Ending → World → Prop) (D : Nat) (σ : Env) (w : World) : Prop := w.heap[D]? = some (.deferred (some [])) ∧ retG P fn R σ (w.putObj D (.deferred none))
/-- A call of a function that ranges over a function. -/
theorem calls_ofR {P : Program} (hm : P.follows .mixedOrders = true) {An : An} {f : FuncId} {fn : Func} {c : Code} {args : Array Value} {w : World} {R : Ending → World → Prop}
    (hf : P.funcs[f]? = some fn) (hb : fn.body = some c) (hs : args.size + (fn.ntmps - args.size) = fn.ntmps) (hn : inB fn.ntmps (asgR c) = true)
    (h : denR P An c (retGR P fn R) (retG P fn R) (retGR P fn R) (fun t => args.getD t undef) w) : Calls P f args w R := by
  refine callsIn_FW (ro := none) (m := 5) |>.1 (callsIn_of_wp_marks hf hb trivial (wpIn_mono (denR_in (An := An) c hn _ _ _ _ _ w hm (rep0 hs) h) ?_))
  have fin : ∀ {a : Act} {w : World} {D : Nat} {σ : Env}, RepD (mkD D) fn.ntmps a σ → retGR P fn R D σ w → LeavesInM (FW none) 5 P fn a.tmps R a.defers .returning w := fun {a w D σ} hr hk => by
    rw [hr.defers]
    exact ⟨by simp, .inl ⟨D, _, rfl, run_takeDeferred hk.1, retG_ok hr.get hk.2⟩⟩
  intro e a w hq
  cases e with
  | normal => obtain ⟨D, σ, hr, hk⟩ := hq; exact fin hr hk
  | ret =>
    rcases hq with ⟨σ, hr, hk⟩ | ⟨D, σ, hr, hk⟩
    · show LeavesInM _ _ _ _ _ _ a.defers .returning w
      rw [hr.defers]; exact retG_ok hr.get hk
    · exact fin hr hk
  | exit id => exact hq.elim
  | goto l => exact hq
  | panic ch => exact hq.elim
  | outgrown => exact hq.elim
end Go.Proofs.YtcjopcplhabgkaaV
