/- The engine, second part: operations, regions, code (den), and that den implies the machine's calculus. -/
import Derived.Test.YtcjopcplhabgkaaVCore
import Derived.OrdersHeld
namespace Go.Proofs.YtcjopcplhabgkaaV
open Go

/-- What a computation that asks nothing of the world comes to. -/
def pe {α : Type} (P : Program) : Sem α → Option α
  | .pure a => some a
  | .program k => pe P (k P)
  | _ => none
theorem run_pe {α : Type} {P : Program} : ∀ {s : Sem α} {a : α}, pe P s = some a → ∀ w, s.run P w = .ok a w
  | .pure _, _, h, _ => by simp [pe] at h; subst h; rfl
  | .program k, _, h, w => by simp only [pe] at h; exact run_pe h w
  | .load .., _, h, _ | .store .., _, h, _ | .new .., _, h, _ | .shape .., _, h, _ | .freeze .., _, h, _ | .frozen .., _, h, _ | .getObj .., _, h, _ | .setObj .., _, h, _ | .choose .., _, h, _ | .sys .., _, h, _ | .mark .., _, h, _ | .halt .., _, h, _ => by simp [pe] at h

def peG (P : Program) (s : Sem Value) (K : Value → Prop) : Prop := match pe P s with | some v => K v | none => False
def optG (v : Option Value) (K : Value → Prop) : Prop := match v with | some v => K v | none => False

/-- A builtin that only its operands decide. -/
def bltnQ (P : Program) (b : Builtin) (ts : Array TypeId) (ty : TypeId) (args : Array Value) (K : Value → Prop) : Prop :=
  match b, ts.toList, args.toList with
  | .len, [t], [x] => match P.underlying t with
    | some (.slice _) => gLen P t x fun n => K (.int .i64 n)
    | _ => peG P (Builtin.len_ ts ty args) K
  | .cap, [t], [x] => match P.underlying t with
    | some (.slice _) => gCap P t x fun n => K (.int .i64 n)
    | _ => peG P (Builtin.cap_ ts ty args) K
  | .max, _, x :: r => optG (maxV x r) K
  | .min, _, x :: r => optG (minV x r) K
  | _, _, _ => False
def bltnG (P : Program) (b : Builtin) (ts : Array TypeId) (ty : TypeId) (args : Array Value) (w : World) (K : Value → World → Prop) : Prop :=
  match b with
  | .append => gApp P ts ty args w K
  | .copy => gCopy P ts ty args w fun n w' => K (.int .i64 n) w'
  | .len => gNatW P (Builtin.len_ ts ty args) w fun n w' => K (.int .i64 n) w'
  | .clear | .delete => gValW P (match b with | .clear => Builtin.clear_ ts ty args | _ => Builtin.delete_ ts ty args) w K
  | _ => False
def callG (P : Program) (c : Call) (ty : TypeId) (σ : Env) (w : World) (K : Value → World → Prop) : Prop :=
  match c.callee with
  | .builtin b => bltnG P b c.argTypes ty (c.args.map (evO σ)) w K
  | .value (.func f) => match callOk P f with
    | true => gCall P f (shOf P ty) (c.args.map (evO σ)) w (tlam _ fun vs w' => K ((shOf P ty).mk vs) w')
    | false => gAny P (shOf P ty) (do let d ← resolve (evO σ) c ty; invoke d.target d.args) w (tlam _ fun vs w' => K ((shOf P ty).mk vs) w')
  | .value x => gCallV P (evO σ x) (shOf P ty) (c.args.map (evO σ)) w (tlam _ fun vs w' => K ((shOf P ty).mk vs) w')
  | .invoke .. => False
def isNilC : Operand → Bool
  | .const (.pointer none) | .const (.slice none _ _) | .const .nilFunc | .const (.map none) => true
  | _ => false
def binG (P : Program) (op : BinOp) (t : TypeId) (x y : Operand) (ty : TypeId) (σ : Env) (K : Value → Prop) : Prop :=
  match P.underlying t with
  | some (.int _) => match op, isConst y with
    | .quo, false | .rem, false | .shl, false | .shr, false => gBin P op t (.part (partOf P t)) (evO σ x) (evO σ y) (tlam _ fun vs => K ((partOf P t).mk vs))
    | _, c => optG (binV op c (evO σ x) (evO σ y)) K
  | some .string => match op with
    | .add => gBin P op t (.part (partOf P t)) (evO σ x) (evO σ y) (tlam _ fun vs => K ((partOf P t).mk vs))
    | _ => optG (binV op false (evO σ x) (evO σ y)) K
  | _ => match op with
    | .eql | .neq => gEq P op t (evO σ x) (evO σ y) fun b => K (.bool b)
    | _ => False
def setAll (cells : Array Value) (off : Nat) : List Value → Array Value
  | [] => cells
  | c :: r => setAll (cells.setIfInBounds off c) (off + 1) r
/-- A part's cells laid into a struct's or an array's: place tells where, how many, and whether the value is one whose cells are not seen. -/
def fillG (place : Nat → Option (Nat × Nat × Bool)) (cells : Array Value) : List (Nat × Value) → (Value → Prop) → Prop
  | [], K => K (.agg cells)
  | (i, v) :: r, K => match place i with
    | some (off, sz, true) => match Nat.beq sz 1, Nat.ble (off + 1) cells.size with
      | true, true => gOne v (fillG place (cells.setIfInBounds off v) r K)
      | _, _ => False
    | some (off, sz, false) => match Nat.beq v.cells.size sz, Nat.ble (off + v.cells.size) cells.size with
      | true, true => fillG place (setAll cells off v.cells.toList) r K
      | _, _ => False
    | none => False
def isVal (P : Program) (t : TypeId) : Bool := match partOf P t with
  | .one .val => true
  | _ => false
def placesL (P : Program) : List Field → Option (List (Nat × Nat × Bool))
  | [] => some []
  | f :: r => match P.info? f.type, placesL P r with
    | some i, some l => some ((f.offset, i.size, isVal P f.type) :: l)
    | _, _ => none
def atL {α : Type} : List α → Nat → Option α
  | [], _ => none
  | x :: _, 0 => some x
  | _ :: r, n + 1 => atL r n
def buildG (P : Program) (t : TypeId) (parts : List (Nat × Value)) (K : Value → Prop) : Prop := match P.info? t with
  | some ti => match ti.zero with
    | some z => match P.underlying t with
      | some (.struct fs) => match placesL P fs.toList with
        | some l => fillG (atL l) z.cells parts K
        | none => False
      | some (.array _ e) => match P.info? e with
        | some ei => fillG (fun i => some (i * ei.size, ei.size, isVal P e)) z.cells parts K
        | none => False
      | _ => False
    | none => False
  | none => False
/-- Is it decided by its operands alone? -/
def isQ (P : Program) (o : Oper) : Bool :=
  match o.op with
  | .move _ | .assign _ | .indexAddr .. | .fieldAddr .. | .nilCheck _ | .slice .. | .index .. | .field .. | .build .. | .extract .. | .makeFunc .. | .binOp .. | .unOp .. | .pick .. => true
  | .convert s d _ => match P.underlying s, P.underlying d with
    | some (.int _), some (.int _) => true
    | some .string, some .string => true
    | _, _ => false
  | .call c => match c.callee with
    | .builtin b => match b with
      | .max | .min => true
      | .len | .cap => match P.underlying (c.argTypes.getD 0 0) with
        | some (.map _ _) | some (.chan _ _) => false
        | _ => true
      | _ => false
    | _ => false
  | _ => false
def qvG (P : Program) (o : Oper) (σ : Env) (K : Value → Prop) : Prop :=
  match o.op with
  | .move x | .assign x => K (evO σ x)
  | .indexAddr t x i => gIdx P t (evO σ x) (evO σ i) fun ad => K (.pointer (some ad))
  | .fieldAddr t x f => match evO σ x with
    | .pointer (some _) => peG P (Instr.fieldAt t (evO σ x) f) K
    | _ => gFld P t (evO σ x) f fun ad => K (.pointer (some ad))
  | .nilCheck x => match evO σ x with
    | .pointer p => gNil p fun ad => K (.pointer (some ad))
    | _ => False
  | .slice t x lo hi mx => match P.underlying t with
    | some .string => gSliceS P t (evO σ x) (lo.map (evO σ)) (hi.map (evO σ)) (mx.map (evO σ)) fun s => K (.string s)
    | _ => gSlice P t (evO σ x) (lo.map (evO σ)) (hi.map (evO σ)) (mx.map (evO σ)) K
  | .index t x i => gIndex P t (shOf P o.type) (evO σ x) (evO σ i) (tlam _ fun vs => K ((shOf P o.type).mk vs))
  | .field t x f => match partOf P t with
    | .agg _ => peG P (Instr.field t (evO σ x) f) K
    | .one _ => gField P t (shOf P o.type) (evO σ x) f (tlam _ fun vs => K ((shOf P o.type).mk vs))
  | .build t parts => buildG P t (parts.toList.map fun p => (p.1, evO σ p.2)) K
  | .extract x i => peG P (Instr.extract (evO σ x) i) K
  | .makeFunc fn first cap => K (.func fn (first.map (evO σ)) (cap.map (evO σ)))
  | .binOp op t x y _ => binG P op t x y o.type σ K
  | .unOp op _ x => optG (unV op (evO σ x)) K
  | .convert s d x => match P.underlying s, P.underlying d, evO σ x with
    | some _, some (.int k), .int _ n => K (.int k (k.wrap n))
    | some .string, some .string, .string x => K (.string x)
    | _, _, _ => False
  | .pick c a b => match evO σ c with
    | .bool t => gIf t (K (evO σ a)) (K (evO σ b))
    | _ => False
  | .call c => match c.callee with
    | .builtin b => bltnQ P b c.argTypes o.type (c.args.map (evO σ)) K
    | _ => False
  | _ => False
def opG (P : Program) (o : Oper) (σ : Env) (w : World) (K : Value → World → Prop) : Prop :=
  match isQ P o with
  | true => qvG P o σ fun v => K v w
  | false => match o.op with
    | .load t x => gLoad P t (shOf P t) (evO σ x) w (tlam _ fun vs => K ((shOf P t).mk vs) w)
    | .store t x y => gStore P t (evO σ x) (evO σ y) w fun w' => K undef w'
    | .box t x => gBox P t (evO σ x) w fun ad w' => K (.pointer (some ad)) w'
    | .alloc t => gAlloc P t w fun ad w' => K (.pointer (some ad)) w'
    | .makeSlice t l c => gMake P t (evO σ l) (evO σ c) w K
    | .buildSlice t n parts => gLit P t n (parts.map fun (i, x) => (i, evO σ x)) w K
    | .convert s d x => gConv P s d (shOf P d) (evO σ x) w (tlam _ fun vs w' => K ((shOf P d).mk vs) w')
    | .call c => callG P c o.type σ w K
    | .mapUpdate .. | .insert .. | .entryStore .. => gAnyU P (execOp (evO σ) o) w fun w' => K undef w'
    | .select .. | .go _ | .defer _ | .send .. | .recv .. | .panic _ => False
    | _ => gAny P (shOf P o.type) (execOp (evO σ) o) w (tlam _ fun vs w' => K ((shOf P o.type).mk vs) w')

/-! ### That an operation's node implies its wp -/
structure Rep (n : Nat) (a : Act) (σ : Env) : Prop where
  size : a.tmps.size = n
  defers : a.defers = []
  get : ∀ t, a.tmps.getD t undef = σ t
theorem Rep.eval {n : Nat} {a : Act} {σ : Env} (h : Rep n a σ) : a.eval = evO σ := by
  funext x; cases x <;> simp only [Act.eval, evO, h.get]
theorem upd_eq (σ : Env) (d : Nat) (v : Value) (t : Nat) : upd σ d v t = if t = d then v else σ t := by
  unfold upd
  split
  · rename_i h; rw [if_pos (Nat.eq_of_beq_eq_true h)]
  · rename_i h; rw [if_neg (Nat.ne_of_beq_eq_false h)]
theorem Rep.put {n : Nat} {a : Act} {σ : Env} (h : Rep n a σ) {d : Option Nat} (hd : ∀ t, d = some t → t < n) (v : Value) : Rep n (a.put d v) (updO σ d v) := by
  cases d with
  | none => exact h
  | some d =>
    have hlt := hd d rfl
    refine ⟨by simp [Act.put, h.size], h.defers, fun t => ?_⟩
    simp only [updO, upd_eq, Act.put]
    have := h.get t
    have hs := h.size
    by_cases e : t = d
    · subst e; rw [if_pos rfl]; simp [Array.getD_eq_getD_getElem?, Array.getElem?_setIfInBounds, hs, hlt]
    · rw [if_neg e, ← this]; simp [Array.getD_eq_getD_getElem?, Array.getElem?_setIfInBounds, Ne.symm e]

section
variable {P : Program} {o : Oper} {a : Act} {σ : Env} {w : World} {K : Value → World → Prop} {next : Act → World → Prop} {Q : Exit → Act → World → Prop}
theorem wp_value {v : Value} {w' : World} (he : a.eval = evO σ) (hr : (execOp (evO σ) o).run P w = .ok (.value v) w') (h : next (a.put o.dst v) w') : o.wp P a w next Q := by
  unfold Oper.wp; rw [he, hr]; exact h
theorem wp_skip' {w' : World} (he : a.eval = evO σ) (hr : (execOp (evO σ) o).run P w = .ok .skip w') (h : next (a.put o.dst undef) w') : o.wp P a w next Q := by
  unfold Oper.wp; rw [he, hr]; exact h
theorem run_v {s : Sem Value} {v : Value} {w w' : World} (h : s.run P w = .ok v w') : (do pure (Next.value (← s)) : Sem Next).run P w = .ok (.value v) w' := by
  simp only [Sem.run_bind, h, Result.andThen_ok, Sem.run_pure]
theorem peG_run {s : Sem Value} {k : Value → Prop} (h : peG P s k) : ∃ v, (∀ w, s.run P w = .ok v w) ∧ k v := by
  unfold peG at h
  split at h
  · rename_i v hv; exact ⟨v, run_pe hv, h⟩
  · exact h.elim
theorem optG_some {v : Option Value} {k : Value → Prop} (h : optG v k) : ∃ x, v = some x ∧ k x := by
  unfold optG at h
  split at h
  · exact ⟨_, rfl, h⟩
  · exact h.elim
theorem call_enter {f : FuncId} {args : Array Value} (h : callOk P f = true) : (callFunc f args).run P w = .ok (.enter f args) w := by
  unfold callOk at h
  unfold callFunc
  simp only [Sem.run_bind, run_program, Result.andThen_ok]
  split at h
  · rename_i fn hfn
    simp only [hfn]
    simp only [Bool.and_eq_true, Bool.not_eq_true'] at h
    simp only [h.2, Bool.false_eq_true, if_false]
    obtain ⟨c, hc⟩ := Option.isSome_iff_exists.1 h.1
    simp [hc, Sem.run, pure]
  · cases h
theorem eqGuard_other {op : BinOp} (h : (op = .eql ∨ op = .neq) → False) (t : TypeId) (cx cy : Operand) (x y : Value) : (eqGuard op t cx cy x y).run P w = .ok () w := by
  unfold eqGuard; cases op <;> simp_all [Sem.run, pure, bind, Sem.bind]
theorem gCall_wp {f : FuncId} {sh : Sh} {args : Array Value} {k : List Value → World → Prop} (h : gCall P f sh args w (tlam _ k))
    (hn : ∀ v w', (∃ vs, v = sh.mk vs ∧ k vs w') → next (a.put o.dst v) w') :
    Calls P f args w (fun | .returned v, w'' => next (a.put o.dst v) w'' | .panicked chain, w'' => Q (.panic chain) a w'' | .outgrown, _ => LetsOut Q) :=
  h.mono fun e w' he => by
    obtain ⟨vs, rfl, hk⟩ := tex_tlam he
    exact hn _ _ ⟨vs, rfl, hk⟩
theorem blt_q {b : Builtin} {ts : Array TypeId} {ty : TypeId} {args : Array Value} {K : Value → Prop} (h : bltnQ P b ts ty args K) (cs : Array Bool) : ∃ v, (∀ w, (builtin b ts ty cs args).run P w = .ok (.value v) w) ∧ K v := by
  have fin : ∀ {s : Sem Value} {v}, builtin b ts ty cs args = (do pure (Next.value (← s)) : Sem Next) → (∀ w, s.run P w = .ok v w) → K v → ∃ v, (∀ w, (builtin b ts ty cs args).run P w = .ok (.value v) w) ∧ K v :=
    fun hs hr hk => ⟨_, fun w => by rw [hs]; exact run_v (hr w), hk⟩
  unfold bltnQ at h
  split at h
  · rename_i t x hts hargs
    have hts : ts = #[t] := by cases ts; simp_all
    have hargs : args = #[x] := by cases args; simp_all
    subst hts; subst hargs
    split at h
    · obtain ⟨n, hr, hk⟩ := h; exact fin rfl hr hk
    · obtain ⟨v, hr, hk⟩ := peG_run h; exact fin rfl hr hk
  · rename_i t x hts hargs
    have hts : ts = #[t] := by cases ts; simp_all
    have hargs : args = #[x] := by cases args; simp_all
    subst hts; subst hargs
    split at h
    · obtain ⟨n, hr, hk⟩ := h; exact fin rfl hr hk
    · obtain ⟨v, hr, hk⟩ := peG_run h; exact fin rfl hr hk
  · rename_i x r hargs
    obtain ⟨v, hr, hk⟩ := optG_some h
    exact fin rfl (fun w => by unfold Builtin.max_; rw [hargs]; exact run_maxV hr w) hk
  · rename_i x r hargs
    obtain ⟨v, hr, hk⟩ := optG_some h
    exact fin rfl (fun w => by unfold Builtin.min_; rw [hargs]; exact run_minV hr w) hk
  · exact h.elim
theorem blt_wp {b : Builtin} {ts : Array TypeId} {args : Array Value} (he : a.eval = evO σ) (h : bltnG P b ts o.type args w K) (hn : ∀ v w', K v w' → next (a.put o.dst v) w')
    {cs : Array Bool} (hx : execOp (evO σ) o = (pure (⟨.builtin b ts o.type cs, args⟩ : Deferred) >>= fun d => invoke d.target d.args : Sem Next)) : o.wp P a w next Q := by
  have hx' : (execOp (evO σ) o).run P w = (builtin b ts o.type cs args).run P w := by rw [hx]; rfl
  have fin : ∀ {s : Sem Value} {v w'}, builtin b ts o.type cs args = (do pure (Next.value (← s)) : Sem Next) → s.run P w = .ok v w' → K v w' → o.wp P a w next Q :=
    fun hs hr hk => wp_value he (by rw [hx', hs]; exact run_v hr) (hn _ _ hk)
  unfold bltnG at h
  split at h
  · obtain ⟨v, w', hr, hk⟩ := h; exact fin rfl hr hk
  · obtain ⟨n, w', hr, hk⟩ := h; exact fin rfl hr hk
  · obtain ⟨n, w', hr, hk⟩ := h; exact fin rfl hr hk
  · obtain ⟨v, w', hr, hk⟩ := h; exact fin rfl hr hk
  · obtain ⟨v, w', hr, hk⟩ := h; exact fin rfl hr hk
  · exact h.elim
theorem call_wp {c : Call} (ho : o.op = .call c) (he : a.eval = evO σ) (h : callG P c o.type σ w K) (hn : ∀ v w', K v w' → next (a.put o.dst v) w') : o.wp P a w next Q := by
  have hx : execOp (evO σ) o = (resolve (evO σ) c o.type >>= fun d => invoke d.target d.args : Sem Next) := by unfold execOp; rw [ho]
  unfold callG at h
  split at h
  · rename_i b hb
    exact blt_wp he h hn (cs := c.args.map fun | .const _ => true | _ => false) (by rw [hx]; unfold resolve; rw [hb]; rfl)
  · rename_i f hf
    split at h
    · rename_i hok
      unfold Oper.wp
      rw [he, hx]
      have : (resolve (evO σ) c o.type >>= fun d => invoke d.target d.args : Sem Next).run P w = .ok (.enter f (c.args.map (evO σ))) w := by
        unfold resolve
        simp only [hf, evO, Deferred.ofValue]
        simp only [Sem.run_bind, Sem.run_pure, Result.andThen_ok, invoke, Array.empty_append, Array.append_empty]
        exact call_enter hok
      rw [this]
      exact gCall_wp h fun v w' ⟨vs, hv, hk⟩ => hn _ _ (hv ▸ hk)
    · obtain ⟨vs, w', hr, hk⟩ := tex_tlam h
      exact wp_value he (by rw [hx]; exact hr) (hn _ _ hk)
  · rename_i x hx' hf
    obtain ⟨f, first, cap, hv, hok, h⟩ := h
    unfold Oper.wp
    rw [he, hx]
    have : (resolve (evO σ) c o.type >>= fun d => invoke d.target d.args : Sem Next).run P w = .ok (.enter f (first ++ c.args.map (evO σ) ++ cap)) w := by
      unfold resolve
      simp only [hf, hv, Deferred.ofValue]
      simp only [Sem.run_bind, Sem.run_pure, Result.andThen_ok, invoke]
      exact call_enter hok
    rw [this]
    exact gCall_wp h fun v w' ⟨vs, hv, hk⟩ => hn _ _ (hv ▸ hk)
  · exact h.elim
theorem bin_q {op : BinOp} {t t' : TypeId} {x y : Operand} {K : Value → Prop} (ho : o.op = .binOp op t x y t') (h : binG P op t x y o.type σ K) : ∃ v, (∀ w, (execOp (evO σ) o).run P w = .ok (.value v) w) ∧ K v := by
  have hx : execOp (evO σ) o = (do pure (Next.value (← (do eqGuard op t x y (evO σ x) (evO σ y); binOp op t (evO σ x) (evO σ y)))) : Sem Next) := by unfold execOp; rw [ho]
  have fin : ∀ {v}, (∀ w, (eqGuard op t x y (evO σ x) (evO σ y)).run P w = .ok () w) → (∀ w, (binOp op t (evO σ x) (evO σ y)).run P w = .ok v w) → K v → ∃ v, (∀ w, (execOp (evO σ) o).run P w = .ok (.value v) w) ∧ K v :=
    fun h1 h2 hk => ⟨_, fun w => by rw [hx]; exact run_v (by simp only [Sem.run_bind, h1, Result.andThen_ok, h2]), hk⟩
  unfold binG at h
  split at h
  · split at h
    · obtain ⟨vs, hr, hk⟩ := tex_tlam h; exact fin (fun _ => eqGuard_other (by simp) ..) hr hk
    · obtain ⟨vs, hr, hk⟩ := tex_tlam h; exact fin (fun _ => eqGuard_other (by simp) ..) hr hk
    · obtain ⟨vs, hr, hk⟩ := tex_tlam h; exact fin (fun _ => eqGuard_other (by simp) ..) hr hk
    · obtain ⟨vs, hr, hk⟩ := tex_tlam h; exact fin (fun _ => eqGuard_other (by simp) ..) hr hk
    · obtain ⟨v, hr, hk⟩ := optG_some h; exact fin (run_eqGuard hr t x y) (run_binV hr t) hk
  · split at h
    · obtain ⟨vs, hr, hk⟩ := tex_tlam h; exact fin (fun _ => eqGuard_other (by simp) ..) hr hk
    · obtain ⟨v, hr, hk⟩ := optG_some h; exact fin (run_eqGuard hr t x y) (run_binV hr t) hk
  · split at h
    · obtain ⟨b, hr, hk⟩ := h; exact fin (fun w => (hr x y w).1) (fun w => (hr x y w).2) hk
    · obtain ⟨b, hr, hk⟩ := h; exact fin (fun w => (hr x y w).1) (fun w => (hr x y w).2) hk
    · exact h.elim
theorem setAll_eq (v : List Value) : ∀ (cells : Array Value) (off k : Nat), (v.zipIdx k).foldl (fun cs (x : Value × Nat) => cs.setIfInBounds (off + x.2) x.1) cells = setAll cells (off + k) v := by
  induction v with
  | nil => intros; rfl
  | cons c r ih => intro cells off k; simp only [List.zipIdx_cons, List.foldl_cons, setAll]; rw [ih]; rfl
theorem fill_step {v : Value} {cells : Array Value} {off : Nat} : v.cells.zipIdx.foldl (fun cs (x : Value × Nat) => cs.setIfInBounds (off + x.2) x.1) cells = setAll cells off v.cells.toList := by
  rw [← Array.foldl_toList, Array.toList_zipIdx]; exact setAll_eq _ _ _ 0
theorem fillG_run {place : Nat → Option (Nat × Nat × Bool)} {pl : Nat → Option (Nat × Nat)} (hp : ∀ i, pl i = (place i).map fun p => (p.1, p.2.1)) {K : Value → Prop} : ∀ {parts : List (Nat × Value)} {cells : Array Value}, fillG place cells parts K →
    ∃ cs, Instr.fill pl cells parts = some cs ∧ K (.agg cs)
  | [], cells, h => ⟨cells, rfl, h⟩
  | (i, v) :: r, cells, h => by
    simp only [fillG] at h
    simp only [Instr.fill]
    have hpi := hp i
    split at h
    · rename_i off sz hpl
      split at h
      · rename_i h1 h2
        obtain ⟨hv, h⟩ := h
        rw [hpi, hpl]
        have h1 := Nat.eq_of_beq_eq_true h1
        have h2 := Nat.le_of_ble_eq_true h2
        dsimp only [Option.map_some]
        rw [if_neg (by rw [hv]; simp; omega), fill_step, hv]
        exact fillG_run hp h
      · exact h.elim
    · rename_i off sz hpl
      split at h
      · rename_i h1 h2
        rw [hpi, hpl]
        have h1 := Nat.eq_of_beq_eq_true h1
        have h2 := Nat.le_of_ble_eq_true h2
        dsimp only [Option.map_some]
        rw [if_neg (by simp; omega), fill_step]
        exact fillG_run hp h
      · exact h.elim
    · exact h.elim
theorem places_run : ∀ {fs : List Field} {l : List (Nat × Nat × Bool)}, placesL P fs = some l → ∀ w,
    (fs.mapM (fun f => do pure (f.offset, ← sizeOf f.type)) : Sem (List (Nat × Nat))).run P w = .ok (l.map fun p => (p.1, p.2.1)) w
  | [], l, h, w => by simp [placesL] at h; subst h; simp
  | f :: r, l, h, w => by
    simp only [placesL] at h
    split at h
    · rename_i i l' hi hl
      injection h with h; subst h
      have := places_run hl w
      simp only [List.mapM_cons, Sem.run_bind, sizeOf, typeInfo, run_program, Result.andThen_ok, hi, Sem.run_pure, List.map_cons]
      simp only [sizeOf, typeInfo, Sem.run_bind] at this
      rw [this]; rfl
    · cases h
theorem atL_eq {α : Type} : ∀ (l : List α) (i : Nat), l[i]? = atL l i
  | [], i => by simp [atL]
  | x :: r, 0 => by simp [atL]
  | x :: r, i + 1 => by simp [atL, atL_eq r i]
theorem buildG_run {t : TypeId} {parts : List (Nat × Value)} {K : Value → Prop} (h : buildG P t parts K) : ∃ v, (∀ w, (Instr.build t parts.toArray).run P w = .ok v w) ∧ K v := by
  unfold buildG at h
  split at h
  · rename_i ti hti
    split at h
    · rename_i z hz
      split at h
      · rename_i fs hu
        split at h
        · rename_i l hl
          obtain ⟨cs, hf, hk⟩ := fillG_run (pl := fun i => ((l.map fun p => (p.1, p.2.1)).toArray)[i]?) (fun i => by rw [← atL_eq]; simp) h
          refine ⟨_, fun w => ?_, hk⟩
          have hp := places_run hl w
          unfold Instr.build
          simp only [zeroValue, typeInfo, Sem.run_bind, run_program, Result.andThen_ok, hti, hz, Sem.run_pure, run_underlying hu]
          rw [Array.mapM_eq_mapM_toList]
          simp only [← bind_pure_comp, Sem.run_bind]
          simp only [sizeOf, typeInfo, Sem.run_bind] at hp ⊢
          rw [hp]
          simp only [Result.andThen_ok, Sem.run_pure]
          rw [hf]
          rfl
        · exact h.elim
      · rename_i n e hu
        split at h
        · rename_i ei hei
          obtain ⟨cs, hf, hk⟩ := fillG_run (pl := fun i => some (i * ei.size, ei.size)) (fun i => rfl) h
          refine ⟨_, fun w => ?_, hk⟩
          unfold Instr.build
          simp only [zeroValue, sizeOf, typeInfo, Sem.run_bind, run_program, Result.andThen_ok, hti, hz, Sem.run_pure, run_underlying hu, hei]
          rw [hf]
          rfl
        · exact h.elim
      · exact h.elim
    · exact h.elim
  · exact h.elim
/-- What only operands decide is the same in every world. -/
theorem qvG_run {K : Value → Prop} (h : qvG P o σ K) : ∃ v, (∀ w, (execOp (evO σ) o).run P w = .ok (.value v) w) ∧ K v := by
  have fin : ∀ {s : Sem Value} {v}, execOp (evO σ) o = (do pure (Next.value (← s)) : Sem Next) → (∀ w, s.run P w = .ok v w) → K v → ∃ v, (∀ w, (execOp (evO σ) o).run P w = .ok (.value v) w) ∧ K v :=
    fun hs hr hk => ⟨_, fun w => by rw [hs]; exact run_v (hr w), hk⟩
  unfold qvG at h
  split at h
  · rename_i x ho; exact ⟨_, fun w => by unfold execOp; rw [ho]; rfl, h⟩
  · rename_i x ho; exact ⟨_, fun w => by unfold execOp; rw [ho]; rfl, h⟩
  · rename_i t x i ho; obtain ⟨ad, hr, hk⟩ := h; exact fin (by unfold execOp; rw [ho]) hr hk
  · rename_i t x f ho
    split at h
    · obtain ⟨v, hr, hk⟩ := peG_run h; exact fin (by unfold execOp; rw [ho]) hr hk
    · obtain ⟨ad, hr, hk⟩ := h; exact fin (by unfold execOp; rw [ho]) hr hk
  · rename_i x ho
    split at h
    · rename_i p hp; obtain ⟨ad, rfl, hk⟩ := h
      exact ⟨_, fun w => by unfold execOp; rw [ho]; simp only [hp]; rfl, hk⟩
    · exact h.elim
  · rename_i t x lo hi mx ho
    split at h
    · obtain ⟨s, hr, hk⟩ := h; exact fin (by unfold execOp; rw [ho]) hr hk
    · obtain ⟨v, hr, hk⟩ := h; exact fin (by unfold execOp; rw [ho]) hr hk
  · rename_i t x i ho; obtain ⟨vs, hr, hk⟩ := tex_tlam h; exact fin (by unfold execOp; rw [ho]) hr hk
  · rename_i t x f ho
    split at h
    · obtain ⟨v, hr, hk⟩ := peG_run h; exact fin (by unfold execOp; rw [ho]) hr hk
    · obtain ⟨vs, hr, hk⟩ := tex_tlam h; exact fin (by unfold execOp; rw [ho]) hr hk
  · rename_i t parts ho; obtain ⟨v, hr, hk⟩ := buildG_run h; exact fin (by unfold execOp; rw [ho]) (fun w => by have := hr w; rwa [show (parts.toList.map fun p => (p.1, evO σ p.2)).toArray = parts.map fun (i, x) => (i, evO σ x) by rw [← Array.toList_map]] at this) hk
  · rename_i x i ho; obtain ⟨v, hr, hk⟩ := peG_run h; exact fin (by unfold execOp; rw [ho]) hr hk
  · rename_i fn first cap ho; exact fin (s := Instr.makeFunc fn (first.map (evO σ)) (cap.map (evO σ))) (by unfold execOp; rw [ho]) (fun w => rfl) h
  · rename_i op t x y t' ho; exact bin_q ho h
  · rename_i op t x ho; obtain ⟨v, hr, hk⟩ := optG_some h; exact fin (by unfold execOp; rw [ho]) (run_unV hr) hk
  · rename_i s d x ho
    have hx : execOp (evO σ) o = (do pure (Next.value (← convert s d (evO σ x))) : Sem Next) := by unfold execOp; rw [ho]
    split at h
    · rename_i ds k k' n h1 h2 h3
      exact fin hx (v := .int k (k.wrap n)) (fun w => by rw [h3]; unfold convert; simp only [Sem.run_bind, run_underlying h1, run_underlying h2, Result.andThen_ok, Conv.intToInt, Sem.run_pure]) h
    · rename_i x' h1 h2 h3
      exact fin hx (v := .string x') (fun w => by rw [h3]; unfold convert; simp only [Sem.run_bind, run_underlying h1, run_underlying h2, Result.andThen_ok, Sem.run_pure]) h
    · exact h.elim
  · rename_i c x y ho
    split at h
    · rename_i t ht
      refine ⟨if t then evO σ x else evO σ y, fun w => ?_, ?_⟩
      · unfold execOp; rw [ho]; simp only [ht, asBool, Sem.run_bind, Sem.run_pure, Result.andThen_ok]
      · cases t <;> exact h
    · exact h.elim
  · rename_i c ho
    split at h
    · rename_i b hb
      obtain ⟨v, hr, hk⟩ := blt_q h (c.args.map fun | .const _ => true | _ => false)
      refine ⟨v, fun w => ?_, hk⟩
      unfold execOp; rw [ho]; dsimp only; unfold resolve; rw [hb]; exact hr w
    · exact h.elim
  · exact h.elim
theorem opG_wp (he : a.eval = evO σ) (h : opG P o σ w K) (hn : ∀ v w', K v w' → next (a.put o.dst v) w') : o.wp P a w next Q := by
  have hany : ∀ {sh : Sh}, gAny P sh (execOp (evO σ) o) w (tlam _ fun vs w' => K (sh.mk vs) w') → o.wp P a w next Q := fun h => by
    obtain ⟨vs, w', hr, hk⟩ := tex_tlam h
    exact wp_value he hr (hn _ _ hk)
  have hanyU : gAnyU P (execOp (evO σ) o) w (fun w' => K undef w') → o.wp P a w next Q := fun ⟨w', hr, hk⟩ => wp_skip' he hr (hn _ _ hk)
  have fin : ∀ {s : Sem Value} {v w'}, execOp (evO σ) o = (do pure (Next.value (← s)) : Sem Next) → s.run P w = .ok v w' → K v w' → o.wp P a w next Q :=
    fun hs hr hk => wp_value he (by rw [hs]; exact run_v hr) (hn _ _ hk)
  unfold opG at h
  split at h
  · obtain ⟨v, hr, hk⟩ := qvG_run h; exact wp_value he (hr w) (hn _ _ hk)
  split at h
  · rename_i t x ho; obtain ⟨vs, hr, hk⟩ := tex_tlam h; exact fin (by unfold execOp; rw [ho]) hr hk
  · rename_i t x y ho; obtain ⟨w', hr, hk⟩ := h
    exact wp_skip' he (w' := w') (by unfold execOp; rw [ho]; simp only [Sem.run_bind, hr, Result.andThen_ok, Sem.run_pure]) (hn _ _ hk)
  · rename_i t x ho; obtain ⟨ad, w', hr, hk⟩ := h; exact fin (by unfold execOp; rw [ho]) hr hk
  · rename_i t ho; obtain ⟨ad, w', hr, hk⟩ := h; exact fin (by unfold execOp; rw [ho]) hr hk
  · rename_i t l c ho; obtain ⟨v, w', hr, hk⟩ := h; exact fin (by unfold execOp; rw [ho]) hr hk
  · rename_i t n parts ho; obtain ⟨v, w', hr, hk⟩ := h; exact fin (by unfold execOp; rw [ho]) hr hk
  · rename_i s d x ho; obtain ⟨vs, w', hr, hk⟩ := tex_tlam h; exact fin (by unfold execOp; rw [ho]) hr hk
  · rename_i c ho; exact call_wp ho he h hn
  · exact hanyU h
  · exact hanyU h
  · exact hanyU h
  all_goals first | exact h.elim | exact hany h
end
end Go.Proofs.YtcjopcplhabgkaaV
