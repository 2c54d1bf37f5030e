import Derived.Tactics
import Derived.WalkKit
import Derived.KernelRfl
import Derived.OrdersHeld
import Derived.Scope
set_option linter.unusedVariables false
set_option linter.unusedSimpArgs false
/- The engine: code as a predicate transformer over an environment (den), and that it implies the machine's own calculus (calls_of_den). -/
namespace Go.Proofs.YtiimlfgjnapgjaaGreatDoorV
open Go

abbrev Env := Nat → Value
def upd (σ : Env) (d : Nat) (v : Value) : Env := fun t => match Nat.beq t d with | true => v | false => σ t
def updO (σ : Env) : Option Nat → Value → Env
  | some d, v => upd σ d v
  | none, _ => σ
def evO (σ : Env) : Operand → Value
  | .tmp t => σ t
  | .const v => v
  | .global g => .pointer (some ⟨g, 0, none⟩)
  | .func f => .func (.func f) #[] #[]

/-- Cells by kind. -/
inductive Ck where
  | int (k : IntKind) | bool | str | ptr | agg | val
@[reducible] def Ck.T : Ck → Type
  | .int _ => Int | .bool => Bool | .str => ByteArray | .ptr => Option Addr | .agg => Array Value | .val => Value
def Ck.inj : (c : Ck) → c.T → Value
  | .int k, n => .int k n
  | .bool, b => .bool b
  | .str, s => .string s
  | .ptr, a => .pointer a
  | .agg, cs => .agg cs
  | .val, v => v
def ikEq : IntKind → IntKind → Bool
  | .i8, .i8 | .i16, .i16 | .i32, .i32 | .i64, .i64 | .u8, .u8 | .u16, .u16 | .u32, .u32 | .u64, .u64 => true
  | _, _ => false
theorem ikEq_eq {a b : IntKind} (h : ikEq a b = true) : a = b := by cases a <;> cases b <;> simp_all [ikEq]
def Ck.get : (c : Ck) → Value → Option c.T
  | .int k, .int k' n => match ikEq k k' with | true => some n | false => none
  | .bool, .bool b => some b
  | .str, .string s => some s
  | .ptr, .pointer a => some a
  | .agg, .agg cs => some cs
  | .val, v => some v
  | _, _ => none
theorem Ck.get_inj {c : Ck} {v : Value} {x : c.T} (h : c.get v = some x) : v = c.inj x := by
  cases c <;> cases v <;> simp_all [Ck.get, Ck.inj]
  split at h
  · rename_i hk; exact ⟨(ikEq_eq hk).symm, by simpa using h⟩
  · cases h

@[reducible] def TF : List Ck → Type → Type
  | [], α => α
  | c :: r, α => c.T → TF r α
def tlam {α : Type} : (cs : List Ck) → (List Value → α) → TF cs α
  | [], f => f []
  | c :: r, f => fun x => tlam r fun vs => f (c.inj x :: vs)
def tall : (cs : List Ck) → (List Value → Prop) → Prop
  | [], p => p []
  | c :: r, p => ∀ x : c.T, tall r fun vs => p (c.inj x :: vs)
def tapp {α : Type} (d : α) : (cs : List Ck) → TF cs α → List Value → α
  | [], f, _ => f
  | c :: r, f, v :: vs => match c.get v with | some x => tapp d r (f x) vs | none => d
  | _ :: _, _, [] => d
def tex {α : Type} : (cs : List Ck) → TF cs α → (List Value → α → Prop) → Prop
  | [], k, p => p [] k
  | c :: r, k, p => ∃ x : c.T, tex r (k x) fun vs k => p (c.inj x :: vs) k
theorem tex_tlam {α : Type} {p : List Value → α → Prop} : ∀ {cs : List Ck} {f : List Value → α}, tex cs (tlam cs f) p → ∃ vs, p vs (f vs)
  | [], _, h => ⟨[], h⟩
  | _ :: _, _, ⟨x, h⟩ => let ⟨vs, h⟩ := tex_tlam h; ⟨_ :: vs, h⟩
theorem tapp_ok {α : Type} {d : α} : ∀ {cs : List Ck} {f : TF cs α} {vs : List Value} {P : α → Prop}, (P (tapp d cs f vs)) → ¬ P d → ∀ {q : List Value → Prop}, (tall cs q → vs.length = cs.length → q vs)
  | [], _, [], _, _, _, q, h => fun _ => h
  | [], _, _ :: _, _, _, _, _, _ => fun h => by simp at h
  | _ :: _, _, [], _, _, _, _, _ => fun h => by simp at h
  | c :: r, f, v :: vs, P, h, hd, q, hq => by
    intro hl
    simp only [tapp] at h
    split at h
    · rename_i x hx
      rw [Ck.get_inj hx]
      exact tapp_ok (P := P) h hd (hq x) (by simpa using hl)
    · exact absurd h hd

/-- How a value lies: one cell, cells, or several results. -/
inductive Part where
  | one (c : Ck) | agg (cs : List Ck)
inductive Sh where
  | part (p : Part) | tup (ps : List Part)
def Part.cks : Part → List Ck
  | .one c => [c]
  | .agg cs => cs
def Part.mk : Part → List Value → Value
  | .one _, v :: _ => v
  | .one _, [] => undef
  | .agg _, vs => .agg vs.toArray
def partsCks : List Part → List Ck
  | [] => []
  | p :: ps => p.cks ++ partsCks ps
def partsMk : List Part → List Value → List Value
  | [], _ => []
  | p :: ps, vs => p.mk (vs.take p.cks.length) :: partsMk ps (vs.drop p.cks.length)
def Sh.cks : Sh → List Ck
  | .part p => p.cks
  | .tup ps => partsCks ps
def Sh.mk : Sh → List Value → Value
  | .part p, vs => p.mk vs
  | .tup ps, vs => .tuple (partsMk ps vs).toArray

def cksOf (P : Program) : Nat → TypeId → List Ck
  | 0, _ => [.val]
  | n + 1, t => match P.underlying t with
    | some (.int k) => [.int k]
    | some .bool => [.bool]
    | some .string => [.str]
    | some (.pointer _) => [.ptr]
    | some (.struct fs) => fs.toList.flatMap fun f => cksOf P n f.type
    | some (.array m e) => (List.replicate m (cksOf P n e)).flatten
    | _ => [.val]
def partOf (P : Program) (t : TypeId) : Part := match P.underlying t with
  | some (.int k) => .one (.int k)
  | some .bool => .one .bool
  | some .string => .one .str
  | some (.pointer _) => .one .ptr
  | some (.struct _) | some (.array _ _) => match (P.info? t) with
    | some i => match Nat.ble i.size 16 with
      | true => .agg (cksOf P 8 t)
      | false => .one .agg
    | none => .one .agg
  | _ => .one .val
def shOf (P : Program) (t : TypeId) : Sh := match P.underlying t with
  | some (.tuple ts) => .tup (ts.toList.map (partOf P))
  | _ => .part (partOf P t)

abbrev shI (k : IntKind) : Sh := .part (.one (.int k))
abbrev shB : Sh := .part (.one .bool)
abbrev shS : Sh := .part (.one .str)
abbrev shP : Sh := .part (.one .ptr)
abbrev shA : Sh := .part (.one .agg)
abbrev shV : Sh := .part (.one .val)
abbrev shU : Sh := .tup []
def i8 (n : Int) : Int := IntKind.wrap .i8 n
def i16 (n : Int) : Int := IntKind.wrap .i16 n
def i32 (n : Int) : Int := IntKind.wrap .i32 n
def i64 (n : Int) : Int := IntKind.wrap .i64 n
def u8 (n : Int) : Int := IntKind.wrap .u8 n
def u16 (n : Int) : Int := IntKind.wrap .u16 n
def u32 (n : Int) : Int := IntKind.wrap .u32 n
def u64 (n : Int) : Int := IntKind.wrap .u64 n
/-! ### Nodes -/
def gIf (b : Bool) (A B : Prop) : Prop := match b with | true => A | false => B
def gRun (P : Program) (sh : Sh) (s : Sem Value) (w : World) (K : TF sh.cks (World → Prop)) : Prop :=
  tex sh.cks K fun vs k => ∃ w', s.run P w = .ok (sh.mk vs) w' ∧ k w'
def gPure (P : Program) (sh : Sh) (s : Sem Value) (K : TF sh.cks Prop) : Prop :=
  tex sh.cks K fun vs k => (∀ w, s.run P w = .ok (sh.mk vs) w) ∧ k
def gPtr (P : Program) (s : Sem Value) (K : Addr → Prop) : Prop := ∃ ad, (∀ w, s.run P w = .ok (.pointer (some ad)) w) ∧ K ad
def gPtrW (P : Program) (s : Sem Value) (w : World) (K : Addr → World → Prop) : Prop := ∃ ad w', s.run P w = .ok (.pointer (some ad)) w' ∧ K ad w'
def gVal (P : Program) (s : Sem Value) (K : Value → Prop) : Prop := ∃ v, (∀ w, s.run P w = .ok v w) ∧ K v
def gValW (P : Program) (s : Sem Value) (w : World) (K : Value → World → Prop) : Prop := ∃ v w', s.run P w = .ok v w' ∧ K v w'
def gNat (P : Program) (s : Sem Value) (K : Nat → Prop) : Prop := ∃ n : Nat, (∀ w, s.run P w = .ok (.int .i64 n) w) ∧ K n
def gNatW (P : Program) (s : Sem Value) (w : World) (K : Nat → World → Prop) : Prop := ∃ (n : Nat) (w' : World), s.run P w = .ok (.int .i64 n) w' ∧ K n w'
def gUnit (P : Program) (s : Sem Unit) (w : World) (K : World → Prop) : Prop := ∃ w', s.run P w = .ok () w' ∧ K w'

def gLoad (P : Program) (t : TypeId) (sh : Sh) (p : Value) (w : World) (K : TF sh.cks Prop) : Prop := tex sh.cks K fun vs k => (Instr.loadAt t p).run P w = .ok (sh.mk vs) w ∧ k
/-- A load that comes to the same in every world that meets B. -/
def gLoadB (P : Program) (t : TypeId) (sh : Sh) (p : Value) (B : World → Prop) (K : TF sh.cks Prop) : Prop := tex sh.cks K fun vs k => (∀ w, B w → (Instr.loadAt t p).run P w = .ok (sh.mk vs) w) ∧ k
def gStore (P : Program) (t : TypeId) (p v : Value) (w : World) (K : World → Prop) : Prop := gUnit P (Instr.storeAt t p v) w K
def gIdx (P : Program) (t : TypeId) (x i : Value) (K : Addr → Prop) : Prop := gPtr P (Instr.indexAt t x i) K
def gFld (P : Program) (t : TypeId) (x : Value) (f : Nat) (K : Addr → Prop) : Prop := gPtr P (Instr.fieldAt t x f) K
def gNil (p : Option Addr) (K : Addr → Prop) : Prop := ∃ ad, p = some ad ∧ K ad
def gSlice (P : Program) (t : TypeId) (x : Value) (lo hi mx : Option Value) (K : Value → Prop) : Prop := gVal P (Instr.sliceAt t x lo hi mx) K
def gSliceS (P : Program) (t : TypeId) (x : Value) (lo hi mx : Option Value) (K : ByteArray → Prop) : Prop := gPure P (.part (.one .str)) (Instr.sliceAt t x lo hi mx) K
def gIndex (P : Program) (t : TypeId) (sh : Sh) (x i : Value) (K : TF sh.cks Prop) : Prop := gPure P sh (Instr.index t x i) K
def gField (P : Program) (t : TypeId) (sh : Sh) (x : Value) (f : Nat) (K : TF sh.cks Prop) : Prop := gPure P sh (Instr.field t x f) K
def gBox (P : Program) (t : TypeId) (v : Value) (w : World) (K : Addr → World → Prop) : Prop := gPtrW P (Instr.box t v) w K
def gAlloc (P : Program) (t : TypeId) (w : World) (K : Addr → World → Prop) : Prop := gPtrW P (Instr.alloc t true (.tuple #[])) w K
def gMake (P : Program) (t : TypeId) (l c : Value) (w : World) (K : Value → World → Prop) : Prop := gValW P (Instr.makeSlice t l c) w K
def gLit (P : Program) (t : TypeId) (n : Nat) (parts : Array (Nat × Value)) (w : World) (K : Value → World → Prop) : Prop := gValW P (Instr.buildSlice t n parts) w K
def gLen (P : Program) (t : TypeId) (x : Value) (K : Nat → Prop) : Prop := gNat P (Builtin.len_ #[t] 0 #[x]) K
def gCap (P : Program) (t : TypeId) (x : Value) (K : Nat → Prop) : Prop := gNat P (Builtin.cap_ #[t] 0 #[x]) K
def gApp (P : Program) (ts : Array TypeId) (t : TypeId) (args : Array Value) (w : World) (K : Value → World → Prop) : Prop := gValW P (Builtin.append_ ts t args) w K
def gCopy (P : Program) (ts : Array TypeId) (t : TypeId) (args : Array Value) (w : World) (K : Int → World → Prop) : Prop := gRun P (.part (.one (.int .i64))) (Builtin.copy_ ts t args) w K
def gConv (P : Program) (s d : TypeId) (sh : Sh) (x : Value) (w : World) (K : TF sh.cks (World → Prop)) : Prop := gRun P sh (convert s d x) w K
def gBin (P : Program) (op : BinOp) (t : TypeId) (sh : Sh) (x y : Value) (K : TF sh.cks Prop) : Prop := gPure P sh (binOp op t x y) K
/-- Two values that are no numbers and no strings, held against each other. -/
def gEq (P : Program) (op : BinOp) (t : TypeId) (x y : Value) (K : Bool → Prop) : Prop :=
  ∃ b : Bool, (∀ cx cy w, (eqGuard op t cx cy x y).run P w = .ok () w ∧ (binOp op t x y).run P w = .ok (.bool b) w) ∧ K b
def retOk (sh : Sh) (K : TF sh.cks (World → Prop)) (e : Ending) (w : World) : Prop := tex sh.cks K fun vs k => e = .returned (sh.mk vs) ∧ k w
def gCall (P : Program) (f : FuncId) (sh : Sh) (args : Array Value) (w : World) (K : TF sh.cks (World → Prop)) : Prop := Calls P f args w (retOk sh K)
def callOk (P : Program) (f : FuncId) : Bool := match P.funcs[f]? with
  | some fn => fn.body.isSome && !(fn.name == "runtime.NumGoroutine")
  | none => false
def gCallV (P : Program) (fv : Value) (sh : Sh) (args : Array Value) (w : World) (K : TF sh.cks (World → Prop)) : Prop :=
  ∃ f first cap, fv = .func (.func f) first cap ∧ callOk P f = true ∧ gCall P f sh (first ++ args ++ cap) w K
/-- Any other operation, as the model runs it. -/
def gAny (P : Program) (sh : Sh) (s : Sem Next) (w : World) (K : TF sh.cks (World → Prop)) : Prop :=
  tex sh.cks K fun vs k => ∃ w', (s.run P w = .ok (.value (sh.mk vs)) w') ∧ k w'
def gAnyU (P : Program) (s : Sem Next) (w : World) (K : World → Prop) : Prop := ∃ w', s.run P w = .ok .skip w' ∧ K w'

/-- A value of one cell (a slice, a function, ..). -/
def gOne (v : Value) (K : Prop) : Prop := v.cells = #[v] ∧ K

/-! ### Values that operands alone decide -/
def iAnd (k : IntKind) (a b : Int) : Int := k.wrap (BitVec.ofInt k.bits a &&& BitVec.ofInt k.bits b).toNat
def iOr (k : IntKind) (a b : Int) : Int := k.wrap (BitVec.ofInt k.bits a ||| BitVec.ofInt k.bits b).toNat
def iXor (k : IntKind) (a b : Int) : Int := k.wrap (BitVec.ofInt k.bits a ^^^ BitVec.ofInt k.bits b).toNat
def iAndNot (k : IntKind) (a b : Int) : Int := k.wrap (BitVec.ofInt k.bits a &&& ~~~(BitVec.ofInt k.bits b)).toNat
def iShl (k : IntKind) (a b : Int) : Int := k.wrap (a * 2 ^ (min b.toNat k.bits))
def iShr (k : IntKind) (a b : Int) : Int := a.fdiv (2 ^ (min b.toNat k.bits))
def isConst : Operand → Bool
  | .const _ => true
  | _ => false
def binI (op : BinOp) (k : IntKind) (a b : Int) : Option Value :=
  match op with
  | .add => some (.int k (k.wrap (a + b)))
  | .sub => some (.int k (k.wrap (a - b)))
  | .mul => some (.int k (k.wrap (a * b)))
  | .and => some (.int k (iAnd k a b))
  | .or => some (.int k (iOr k a b))
  | .xor => some (.int k (iXor k a b))
  | .andNot => some (.int k (iAndNot k a b))
  | .eql => some (.bool (a == b))
  | .neq => some (.bool (a != b))
  | .lss => some (.bool (a < b))
  | .leq => some (.bool (a ≤ b))
  | .gtr => some (.bool (a > b))
  | .geq => some (.bool (a ≥ b))
  | _ => none
/-- Division and shifts by a constant. -/
def binC (op : BinOp) (k : IntKind) (a b : Int) : Option Value :=
  match op with
  | .quo => match Int.decEq b 0 with | isTrue _ => none | isFalse _ => some (.int k (k.wrap (a.tdiv b)))
  | .rem => match Int.decEq b 0 with | isTrue _ => none | isFalse _ => some (.int k (a.tmod b))
  | .shl => match Int.decLt b 0 with | isTrue _ => none | isFalse _ => some (.int k (iShl k a b))
  | .shr => match Int.decLt b 0 with | isTrue _ => none | isFalse _ => some (.int k (iShr k a b))
  | _ => none
def binS (op : BinOp) (a b : ByteArray) : Option Value :=
  match op with
  | .eql => some (.bool (a.toList == b.toList))
  | .neq => some (.bool (!(a.toList == b.toList)))
  | .lss => some (.bool (Op.bytesLess a.toList b.toList))
  | .leq => some (.bool (Op.bytesLess a.toList b.toList || a.toList == b.toList))
  | .gtr => some (.bool (!(Op.bytesLess a.toList b.toList || a.toList == b.toList)))
  | .geq => some (.bool (!(Op.bytesLess a.toList b.toList)))
  | _ => none
/-- Is it decided by its operands' constructors (c: the second is a constant)? -/
def binV (op : BinOp) (c : Bool) (x y : Value) : Option Value :=
  match x, y with
  | .int k a, .int k' b => match op with
    | .quo | .rem => match ikEq k k' with | true => (match c with | true => binC op k a b | false => none) | false => none
    | .shl | .shr => match c with | true => binC op k a b | false => none
    | op => match ikEq k k' with | true => binI op k a b | false => none
  | .string a, .string b => binS op a b
  | _, _ => none
def unV (op : UnOp) (x : Value) : Option Value :=
  match op, x with
  | .neg, .int k n => some (.int k (k.wrap (0 - n)))
  | .xor, .int k n => some (.int k (iXor k (if k.signed then -1 else k.max) n))
  | .not, .bool b => some (.bool !b)
  | _, _ => none
def maxV : Value → List Value → Option Value
  | x, [] => some x
  | .int k x, .int _ y :: r => maxV (.int k (if y > x then y else x)) r
  | _, _ => none
def minV : Value → List Value → Option Value
  | x, [] => some x
  | .int k x, .int _ y :: r => minV (.int k (if y < x then y else x)) r
  | _, _ => none

theorem run_binI {P : Program} {op : BinOp} {k : IntKind} {a b : Int} {v : Value} (h : binI op k a b = some v) (t : TypeId) (w : World) : (binOp op t (.int k a) (.int k b)).run P w = .ok v w := by
  cases op <;> simp_all [binI, binOp, Op.intArith, Op.intBits, Op.intCmp, iAnd, iOr, iXor, iAndNot, Sem.run, pure]
theorem run_binC {P : Program} {op : BinOp} {k k' : IntKind} {a b : Int} {v : Value} (hk : (op = .quo ∨ op = .rem) → k = k') (h : binC op k a b = some v) (t : TypeId) (w : World) : (binOp op t (.int k a) (.int k' b)).run P w = .ok v w := by
  cases op <;> simp only [binC] at h <;> try (cases h; done)
  all_goals (split at h; · cases h)
  all_goals rename_i hb _
  all_goals (injection h with h; subst h)
  · obtain rfl := hk (.inl rfl); simp [binOp, Op.intDiv, hb, Sem.run, pure]
  · obtain rfl := hk (.inr rfl); simp [binOp, Op.intDiv, hb, Sem.run, pure]
  · simp [binOp, Op.shift, hb, iShl, Sem.run, pure]
  · simp [binOp, Op.shift, hb, iShr, Sem.run, pure]
theorem run_binS {P : Program} {op : BinOp} {a b : ByteArray} {v : Value} (h : binS op a b = some v) (t : TypeId) (w : World) : (binOp op t (.string a) (.string b)).run P w = .ok v w := by
  cases op <;> simp_all [binS, binOp, Op.stringOp, Sem.run, pure]
theorem run_binV {P : Program} {op : BinOp} {c : Bool} {x y v : Value} (h : binV op c x y = some v) (t : TypeId) (w : World) : (binOp op t x y).run P w = .ok v w := by
  unfold binV at h
  split at h
  · rename_i k a k' b
    split at h
    · split at h
      · rename_i hk; obtain rfl := ikEq_eq hk
        split at h
        · exact run_binC (fun _ => rfl) h t w
        · cases h
      · cases h
    · split at h
      · rename_i hk; obtain rfl := ikEq_eq hk
        split at h
        · exact run_binC (fun _ => rfl) h t w
        · cases h
      · cases h
    · split at h
      · exact run_binC (fun h => by rcases h with h | h <;> cases h) h t w
      · cases h
    · split at h
      · exact run_binC (fun h => by rcases h with h | h <;> cases h) h t w
      · cases h
    · split at h
      · rename_i hk; obtain rfl := ikEq_eq hk
        exact run_binI h t w
      · cases h
  · exact run_binS h t w
  · cases h
theorem run_eqGuard {P : Program} {op : BinOp} {c : Bool} {x y v : Value} (h : binV op c x y = some v) (t : TypeId) (a b : Operand) (w : World) : (eqGuard op t a b x y).run P w = .ok () w := by
  unfold binV at h
  unfold eqGuard
  split at h <;> (try cases h) <;> cases op <;> simp [Sem.run, pure, bind, Sem.bind]
theorem run_unV {P : Program} {op : UnOp} {x v : Value} (h : unV op x = some v) (w : World) : (Op.unary op x).run P w = .ok v w := by
  cases op <;> cases x <;> simp_all [unV, Op.unary, Op.intArith, Op.intBits, iXor, Sem.run, pure]
theorem run_maxV {P : Program} : ∀ {l : List Value} {x v : Value}, maxV x l = some v → ∀ w, (l.foldlM Builtin.max2 x).run P w = .ok v w
  | [], x, v, h, w => by simp [maxV] at h; subst h; simp [Sem.run, pure]
  | y :: r, x, v, h, w => by
    cases x <;> cases y <;> simp only [maxV] at h <;> try (cases h; done)
    simp only [List.foldlM_cons, Sem.run_bind, Builtin.max2]
    exact run_maxV h w
theorem run_minV {P : Program} : ∀ {l : List Value} {x v : Value}, minV x l = some v → ∀ w, (l.foldlM Builtin.min2 x).run P w = .ok v w
  | [], x, v, h, w => by simp [minV] at h; subst h; simp [Sem.run, pure]
  | y :: r, x, v, h, w => by
    cases x <;> cases y <;> simp only [minV] at h <;> try (cases h; done)
    simp only [List.foldlM_cons, Sem.run_bind, Builtin.min2]
    exact run_minV h w
end Go.Proofs.YtiimlfgjnapgjaaGreatDoorV

/- The engine, second part: operations, regions, code (den), and that den implies the machine's calculus. -/
namespace Go.Proofs.YtiimlfgjnapgjaaGreatDoorV
open Go

/-- What a computation that asks nothing of the world comes to. -/
def pe {α : Type} (P : Program) : Sem α → Option α
  | .pure a => some a
  | .program k => pe P (k P)
  | _ => none
theorem run_pe {α : Type} {P : Program} : ∀ {s : Sem α} {a : α}, pe P s = some a → ∀ w, s.run P w = .ok a w
  | .pure _, _, h, _ => by simp [pe] at h; subst h; rfl
  | .program k, _, h, w => by simp only [pe] at h; exact run_pe h w
  | .load .., _, h, _ | .store .., _, h, _ | .new .., _, h, _ | .shape .., _, h, _ | .freeze .., _, h, _ | .frozen .., _, h, _ | .getObj .., _, h, _ | .setObj .., _, h, _ | .choose .., _, h, _ | .sys .., _, h, _ | .mark .., _, h, _ | .halt .., _, h, _ => by simp [pe] at h

def peG (P : Program) (s : Sem Value) (K : Value → Prop) : Prop := match pe P s with | some v => K v | none => False
def optG (v : Option Value) (K : Value → Prop) : Prop := match v with | some v => K v | none => False

/-- A builtin that only its operands decide. -/
def bltnQ (P : Program) (b : Builtin) (ts : Array TypeId) (ty : TypeId) (args : Array Value) (K : Value → Prop) : Prop :=
  match b, ts.toList, args.toList with
  | .len, [t], [x] => match P.underlying t with
    | some (.slice _) => gLen P t x fun n => K (.int .i64 n)
    | _ => peG P (Builtin.len_ ts ty args) K
  | .cap, [t], [x] => match P.underlying t with
    | some (.slice _) => gCap P t x fun n => K (.int .i64 n)
    | _ => peG P (Builtin.cap_ ts ty args) K
  | .max, _, x :: r => optG (maxV x r) K
  | .min, _, x :: r => optG (minV x r) K
  | _, _, _ => False
def bltnG (P : Program) (b : Builtin) (ts : Array TypeId) (ty : TypeId) (args : Array Value) (w : World) (K : Value → World → Prop) : Prop :=
  match b with
  | .append => gApp P ts ty args w K
  | .copy => gCopy P ts ty args w fun n w' => K (.int .i64 n) w'
  | .len => gNatW P (Builtin.len_ ts ty args) w fun n w' => K (.int .i64 n) w'
  | .clear | .delete => gValW P (match b with | .clear => Builtin.clear_ ts ty args | _ => Builtin.delete_ ts ty args) w K
  | _ => False
def callG (P : Program) (c : Call) (ty : TypeId) (σ : Env) (w : World) (K : Value → World → Prop) : Prop :=
  match c.callee with
  | .builtin b => bltnG P b c.argTypes ty (c.args.map (evO σ)) w K
  | .value (.func f) => match callOk P f with
    | true => gCall P f (shOf P ty) (c.args.map (evO σ)) w (tlam _ fun vs w' => K ((shOf P ty).mk vs) w')
    | false => gAny P (shOf P ty) (do let d ← resolve (evO σ) c ty; invoke d.target d.args) w (tlam _ fun vs w' => K ((shOf P ty).mk vs) w')
  | .value x => gCallV P (evO σ x) (shOf P ty) (c.args.map (evO σ)) w (tlam _ fun vs w' => K ((shOf P ty).mk vs) w')
  | .invoke .. => False
def binG (P : Program) (op : BinOp) (t : TypeId) (x y : Operand) (ty : TypeId) (σ : Env) (K : Value → Prop) : Prop :=
  match P.underlying t with
  | some (.int _) => match op, isConst y with
    | .quo, false | .rem, false | .shl, false | .shr, false => gBin P op t (.part (partOf P t)) (evO σ x) (evO σ y) (tlam _ fun vs => K ((partOf P t).mk vs))
    | _, c => optG (binV op c (evO σ x) (evO σ y)) K
  | some .string => match op with
    | .add => gBin P op t (.part (partOf P t)) (evO σ x) (evO σ y) (tlam _ fun vs => K ((partOf P t).mk vs))
    | _ => optG (binV op false (evO σ x) (evO σ y)) K
  | _ => match op with
    | .eql | .neq => gEq P op t (evO σ x) (evO σ y) fun b => K (.bool b)
    | _ => False
def setAll (cells : Array Value) (off : Nat) : List Value → Array Value
  | [] => cells
  | c :: r => setAll (cells.setIfInBounds off c) (off + 1) r
/-- A part's cells laid into a struct's or an array's: place tells where, how many, and whether the value is one whose cells are not seen. -/
def fillG (place : Nat → Option (Nat × Nat × Bool)) (cells : Array Value) : List (Nat × Value) → (Value → Prop) → Prop
  | [], K => K (.agg cells)
  | (i, v) :: r, K => match place i with
    | some (off, sz, true) => match Nat.beq sz 1, Nat.ble (off + 1) cells.size with
      | true, true => gOne v (fillG place (cells.setIfInBounds off v) r K)
      | _, _ => False
    | some (off, sz, false) => match Nat.beq v.cells.size sz, Nat.ble (off + v.cells.size) cells.size with
      | true, true => fillG place (setAll cells off v.cells.toList) r K
      | _, _ => False
    | none => False
def isVal (P : Program) (t : TypeId) : Bool := match partOf P t with
  | .one .val => true
  | _ => false
def placesL (P : Program) : List Field → Option (List (Nat × Nat × Bool))
  | [] => some []
  | f :: r => match P.info? f.type, placesL P r with
    | some i, some l => some ((f.offset, i.size, isVal P f.type) :: l)
    | _, _ => none
def atL {α : Type} : List α → Nat → Option α
  | [], _ => none
  | x :: _, 0 => some x
  | _ :: r, n + 1 => atL r n
def buildG (P : Program) (t : TypeId) (parts : List (Nat × Value)) (K : Value → Prop) : Prop := match P.info? t with
  | some ti => match ti.zero with
    | some z => match P.underlying t with
      | some (.struct fs) => match placesL P fs.toList with
        | some l => fillG (atL l) z.cells parts K
        | none => False
      | some (.array _ e) => match P.info? e with
        | some ei => fillG (fun i => some (i * ei.size, ei.size, isVal P e)) z.cells parts K
        | none => False
      | _ => False
    | none => False
  | none => False
/-- Is it decided by its operands alone? -/
def isQ (P : Program) (o : Oper) : Bool :=
  match o.op with
  | .move _ | .assign _ | .indexAddr .. | .fieldAddr .. | .nilCheck _ | .slice .. | .index .. | .field .. | .build .. | .extract .. | .makeFunc .. | .binOp .. | .unOp .. | .pick .. => true
  | .convert s d _ => match P.underlying s, P.underlying d with
    | some (.int _), some (.int _) => true
    | some .string, some .string => true
    | _, _ => false
  | .call c => match c.callee with
    | .builtin b => match b with
      | .max | .min => true
      | .len | .cap => match P.underlying (c.argTypes.getD 0 0) with
        | some (.map _ _) | some (.chan _ _) => false
        | _ => true
      | _ => false
    | _ => false
  | _ => false
def qvG (P : Program) (o : Oper) (σ : Env) (K : Value → Prop) : Prop :=
  match o.op with
  | .move x | .assign x => K (evO σ x)
  | .indexAddr t x i => gIdx P t (evO σ x) (evO σ i) fun ad => K (.pointer (some ad))
  | .fieldAddr t x f => match evO σ x with
    | .pointer (some _) => peG P (Instr.fieldAt t (evO σ x) f) K
    | _ => gFld P t (evO σ x) f fun ad => K (.pointer (some ad))
  | .nilCheck x => match evO σ x with
    | .pointer p => gNil p fun ad => K (.pointer (some ad))
    | _ => False
  | .slice t x lo hi mx => match P.underlying t with
    | some .string => gSliceS P t (evO σ x) (lo.map (evO σ)) (hi.map (evO σ)) (mx.map (evO σ)) fun s => K (.string s)
    | _ => gSlice P t (evO σ x) (lo.map (evO σ)) (hi.map (evO σ)) (mx.map (evO σ)) K
  | .index t x i => gIndex P t (shOf P o.type) (evO σ x) (evO σ i) (tlam _ fun vs => K ((shOf P o.type).mk vs))
  | .field t x f => match partOf P t with
    | .agg _ => peG P (Instr.field t (evO σ x) f) K
    | .one _ => gField P t (shOf P o.type) (evO σ x) f (tlam _ fun vs => K ((shOf P o.type).mk vs))
  | .build t parts => buildG P t (parts.toList.map fun p => (p.1, evO σ p.2)) K
  | .extract x i => peG P (Instr.extract (evO σ x) i) K
  | .makeFunc fn first cap => K (.func fn (first.map (evO σ)) (cap.map (evO σ)))
  | .binOp op t x y _ => binG P op t x y o.type σ K
  | .unOp op _ x => optG (unV op (evO σ x)) K
  | .convert s d x => match P.underlying s, P.underlying d, evO σ x with
    | some _, some (.int k), .int _ n => K (.int k (k.wrap n))
    | some .string, some .string, .string x => K (.string x)
    | _, _, _ => False
  | .pick c a b => match evO σ c with
    | .bool t => gIf t (K (evO σ a)) (K (evO σ b))
    | _ => False
  | .call c => match c.callee with
    | .builtin b => bltnQ P b c.argTypes o.type (c.args.map (evO σ)) K
    | _ => False
  | _ => False
def opG (P : Program) (o : Oper) (σ : Env) (w : World) (K : Value → World → Prop) : Prop :=
  match isQ P o with
  | true => qvG P o σ fun v => K v w
  | false => match o.op with
    | .load t x => gLoad P t (shOf P t) (evO σ x) w (tlam _ fun vs => K ((shOf P t).mk vs) w)
    | .store t x y => gStore P t (evO σ x) (evO σ y) w fun w' => K undef w'
    | .box t x => gBox P t (evO σ x) w fun ad w' => K (.pointer (some ad)) w'
    | .alloc t => gAlloc P t w fun ad w' => K (.pointer (some ad)) w'
    | .makeSlice t l c => gMake P t (evO σ l) (evO σ c) w K
    | .buildSlice t n parts => gLit P t n (parts.map fun (i, x) => (i, evO σ x)) w K
    | .convert s d x => gConv P s d (shOf P d) (evO σ x) w (tlam _ fun vs w' => K ((shOf P d).mk vs) w')
    | .call c => callG P c o.type σ w K
    | .mapUpdate .. | .insert .. | .entryStore .. => gAnyU P (execOp (evO σ) o) w fun w' => K undef w'
    | .select .. | .go _ | .defer _ | .send .. | .recv .. | .panic _ => False
    | _ => gAny P (shOf P o.type) (execOp (evO σ) o) w (tlam _ fun vs w' => K ((shOf P o.type).mk vs) w')

/-! ### That an operation's node implies its wp -/
structure Rep (n : Nat) (a : Act) (σ : Env) : Prop where
  size : a.tmps.size = n
  defers : a.defers = []
  get : ∀ t, a.tmps.getD t undef = σ t
theorem Rep.eval {n : Nat} {a : Act} {σ : Env} (h : Rep n a σ) : a.eval = evO σ := by
  funext x; cases x <;> simp only [Act.eval, evO, h.get]
theorem upd_eq (σ : Env) (d : Nat) (v : Value) (t : Nat) : upd σ d v t = if t = d then v else σ t := by
  unfold upd
  split
  · rename_i h; rw [if_pos (Nat.eq_of_beq_eq_true h)]
  · rename_i h; rw [if_neg (Nat.ne_of_beq_eq_false h)]
theorem Rep.put {n : Nat} {a : Act} {σ : Env} (h : Rep n a σ) {d : Option Nat} (hd : ∀ t, d = some t → t < n) (v : Value) : Rep n (a.put d v) (updO σ d v) := by
  cases d with
  | none => exact h
  | some d =>
    have hlt := hd d rfl
    refine ⟨by simp [Act.put, h.size], h.defers, fun t => ?_⟩
    simp only [updO, upd_eq, Act.put]
    have := h.get t
    have hs := h.size
    by_cases e : t = d
    · subst e; rw [if_pos rfl]; simp [Array.getD_eq_getD_getElem?, Array.getElem?_setIfInBounds, hs, hlt]
    · rw [if_neg e, ← this]; simp [Array.getD_eq_getD_getElem?, Array.getElem?_setIfInBounds, Ne.symm e]

section
variable {P : Program} {o : Oper} {a : Act} {σ : Env} {w : World} {K : Value → World → Prop} {next : Act → World → Prop} {Q : Exit → Act → World → Prop}
theorem wp_value {v : Value} {w' : World} (he : a.eval = evO σ) (hr : (execOp (evO σ) o).run P w = .ok (.value v) w') (h : next (a.put o.dst v) w') : o.wp P a w next Q := by
  unfold Oper.wp; rw [he, hr]; exact h
theorem wp_skip' {w' : World} (he : a.eval = evO σ) (hr : (execOp (evO σ) o).run P w = .ok .skip w') (h : next (a.put o.dst undef) w') : o.wp P a w next Q := by
  unfold Oper.wp; rw [he, hr]; exact h
theorem run_v {s : Sem Value} {v : Value} {w w' : World} (h : s.run P w = .ok v w') : (do pure (Next.value (← s)) : Sem Next).run P w = .ok (.value v) w' := by
  simp only [Sem.run_bind, h, Result.andThen_ok, Sem.run_pure]
theorem peG_run {s : Sem Value} {k : Value → Prop} (h : peG P s k) : ∃ v, (∀ w, s.run P w = .ok v w) ∧ k v := by
  unfold peG at h
  split at h
  · rename_i v hv; exact ⟨v, run_pe hv, h⟩
  · exact h.elim
theorem optG_some {v : Option Value} {k : Value → Prop} (h : optG v k) : ∃ x, v = some x ∧ k x := by
  unfold optG at h
  split at h
  · exact ⟨_, rfl, h⟩
  · exact h.elim
theorem call_enter {f : FuncId} {args : Array Value} (h : callOk P f = true) : (callFunc f args).run P w = .ok (.enter f args) w := by
  unfold callOk at h
  unfold callFunc
  simp only [Sem.run_bind, run_program, Result.andThen_ok]
  split at h
  · rename_i fn hfn
    simp only [hfn]
    simp only [Bool.and_eq_true, Bool.not_eq_true'] at h
    simp only [h.2, Bool.false_eq_true, if_false]
    obtain ⟨c, hc⟩ := Option.isSome_iff_exists.1 h.1
    simp [hc, Sem.run, pure]
  · cases h
theorem eqGuard_other {op : BinOp} (h : (op = .eql ∨ op = .neq) → False) (t : TypeId) (cx cy : Operand) (x y : Value) : (eqGuard op t cx cy x y).run P w = .ok () w := by
  unfold eqGuard; cases op <;> simp_all [Sem.run, pure, bind, Sem.bind]
theorem gCall_wp {f : FuncId} {sh : Sh} {args : Array Value} {k : List Value → World → Prop} (h : gCall P f sh args w (tlam _ k))
    (hn : ∀ v w', (∃ vs, v = sh.mk vs ∧ k vs w') → next (a.put o.dst v) w') :
    Calls P f args w (fun | .returned v, w'' => next (a.put o.dst v) w'' | .panicked chain, w'' => Q (.panic chain) a w'' | .outgrown, _ => LetsOut Q) :=
  h.mono fun e w' he => by
    obtain ⟨vs, rfl, hk⟩ := tex_tlam he
    exact hn _ _ ⟨vs, rfl, hk⟩
theorem blt_q {b : Builtin} {ts : Array TypeId} {ty : TypeId} {args : Array Value} {K : Value → Prop} (h : bltnQ P b ts ty args K) (cs : Array Bool) : ∃ v, (∀ w, (builtin b ts ty cs args).run P w = .ok (.value v) w) ∧ K v := by
  have fin : ∀ {s : Sem Value} {v}, builtin b ts ty cs args = (do pure (Next.value (← s)) : Sem Next) → (∀ w, s.run P w = .ok v w) → K v → ∃ v, (∀ w, (builtin b ts ty cs args).run P w = .ok (.value v) w) ∧ K v :=
    fun hs hr hk => ⟨_, fun w => by rw [hs]; exact run_v (hr w), hk⟩
  unfold bltnQ at h
  split at h
  · rename_i t x hts hargs
    have hts : ts = #[t] := by cases ts; simp_all
    have hargs : args = #[x] := by cases args; simp_all
    subst hts; subst hargs
    split at h
    · obtain ⟨n, hr, hk⟩ := h; exact fin rfl hr hk
    · obtain ⟨v, hr, hk⟩ := peG_run h; exact fin rfl hr hk
  · rename_i t x hts hargs
    have hts : ts = #[t] := by cases ts; simp_all
    have hargs : args = #[x] := by cases args; simp_all
    subst hts; subst hargs
    split at h
    · obtain ⟨n, hr, hk⟩ := h; exact fin rfl hr hk
    · obtain ⟨v, hr, hk⟩ := peG_run h; exact fin rfl hr hk
  · rename_i x r hargs
    obtain ⟨v, hr, hk⟩ := optG_some h
    exact fin rfl (fun w => by unfold Builtin.max_; rw [hargs]; exact run_maxV hr w) hk
  · rename_i x r hargs
    obtain ⟨v, hr, hk⟩ := optG_some h
    exact fin rfl (fun w => by unfold Builtin.min_; rw [hargs]; exact run_minV hr w) hk
  · exact h.elim
theorem blt_wp {b : Builtin} {ts : Array TypeId} {args : Array Value} (he : a.eval = evO σ) (h : bltnG P b ts o.type args w K) (hn : ∀ v w', K v w' → next (a.put o.dst v) w')
    {cs : Array Bool} (hx : execOp (evO σ) o = (pure (⟨.builtin b ts o.type cs, args⟩ : Deferred) >>= fun d => invoke d.target d.args : Sem Next)) : o.wp P a w next Q := by
  have hx' : (execOp (evO σ) o).run P w = (builtin b ts o.type cs args).run P w := by rw [hx]; rfl
  have fin : ∀ {s : Sem Value} {v w'}, builtin b ts o.type cs args = (do pure (Next.value (← s)) : Sem Next) → s.run P w = .ok v w' → K v w' → o.wp P a w next Q :=
    fun hs hr hk => wp_value he (by rw [hx', hs]; exact run_v hr) (hn _ _ hk)
  unfold bltnG at h
  split at h
  · obtain ⟨v, w', hr, hk⟩ := h; exact fin rfl hr hk
  · obtain ⟨n, w', hr, hk⟩ := h; exact fin rfl hr hk
  · obtain ⟨n, w', hr, hk⟩ := h; exact fin rfl hr hk
  · obtain ⟨v, w', hr, hk⟩ := h; exact fin rfl hr hk
  · obtain ⟨v, w', hr, hk⟩ := h; exact fin rfl hr hk
  · exact h.elim
theorem call_wp {c : Call} (ho : o.op = .call c) (he : a.eval = evO σ) (h : callG P c o.type σ w K) (hn : ∀ v w', K v w' → next (a.put o.dst v) w') : o.wp P a w next Q := by
  have hx : execOp (evO σ) o = (resolve (evO σ) c o.type >>= fun d => invoke d.target d.args : Sem Next) := by unfold execOp; rw [ho]
  unfold callG at h
  split at h
  · rename_i b hb
    exact blt_wp he h hn (cs := c.args.map fun | .const _ => true | _ => false) (by rw [hx]; unfold resolve; rw [hb]; rfl)
  · rename_i f hf
    split at h
    · rename_i hok
      unfold Oper.wp
      rw [he, hx]
      have : (resolve (evO σ) c o.type >>= fun d => invoke d.target d.args : Sem Next).run P w = .ok (.enter f (c.args.map (evO σ))) w := by
        unfold resolve
        simp only [hf, evO, Deferred.ofValue]
        simp only [Sem.run_bind, Sem.run_pure, Result.andThen_ok, invoke, Array.empty_append, Array.append_empty]
        exact call_enter hok
      rw [this]
      exact gCall_wp h fun v w' ⟨vs, hv, hk⟩ => hn _ _ (hv ▸ hk)
    · obtain ⟨vs, w', hr, hk⟩ := tex_tlam h
      exact wp_value he (by rw [hx]; exact hr) (hn _ _ hk)
  · rename_i x hx' hf
    obtain ⟨f, first, cap, hv, hok, h⟩ := h
    unfold Oper.wp
    rw [he, hx]
    have : (resolve (evO σ) c o.type >>= fun d => invoke d.target d.args : Sem Next).run P w = .ok (.enter f (first ++ c.args.map (evO σ) ++ cap)) w := by
      unfold resolve
      simp only [hf, hv, Deferred.ofValue]
      simp only [Sem.run_bind, Sem.run_pure, Result.andThen_ok, invoke]
      exact call_enter hok
    rw [this]
    exact gCall_wp h fun v w' ⟨vs, hv, hk⟩ => hn _ _ (hv ▸ hk)
  · exact h.elim
theorem bin_q {op : BinOp} {t t' : TypeId} {x y : Operand} {K : Value → Prop} (ho : o.op = .binOp op t x y t') (h : binG P op t x y o.type σ K) : ∃ v, (∀ w, (execOp (evO σ) o).run P w = .ok (.value v) w) ∧ K v := by
  have hx : execOp (evO σ) o = (do pure (Next.value (← (do eqGuard op t x y (evO σ x) (evO σ y); binOp op t (evO σ x) (evO σ y)))) : Sem Next) := by unfold execOp; rw [ho]
  have fin : ∀ {v}, (∀ w, (eqGuard op t x y (evO σ x) (evO σ y)).run P w = .ok () w) → (∀ w, (binOp op t (evO σ x) (evO σ y)).run P w = .ok v w) → K v → ∃ v, (∀ w, (execOp (evO σ) o).run P w = .ok (.value v) w) ∧ K v :=
    fun h1 h2 hk => ⟨_, fun w => by rw [hx]; exact run_v (by simp only [Sem.run_bind, h1, Result.andThen_ok, h2]), hk⟩
  unfold binG at h
  split at h
  · split at h
    · obtain ⟨vs, hr, hk⟩ := tex_tlam h; exact fin (fun _ => eqGuard_other (by simp) ..) hr hk
    · obtain ⟨vs, hr, hk⟩ := tex_tlam h; exact fin (fun _ => eqGuard_other (by simp) ..) hr hk
    · obtain ⟨vs, hr, hk⟩ := tex_tlam h; exact fin (fun _ => eqGuard_other (by simp) ..) hr hk
    · obtain ⟨vs, hr, hk⟩ := tex_tlam h; exact fin (fun _ => eqGuard_other (by simp) ..) hr hk
    · obtain ⟨v, hr, hk⟩ := optG_some h; exact fin (run_eqGuard hr t x y) (run_binV hr t) hk
  · split at h
    · obtain ⟨vs, hr, hk⟩ := tex_tlam h; exact fin (fun _ => eqGuard_other (by simp) ..) hr hk
    · obtain ⟨v, hr, hk⟩ := optG_some h; exact fin (run_eqGuard hr t x y) (run_binV hr t) hk
  · split at h
    · obtain ⟨b, hr, hk⟩ := h; exact fin (fun w => (hr x y w).1) (fun w => (hr x y w).2) hk
    · obtain ⟨b, hr, hk⟩ := h; exact fin (fun w => (hr x y w).1) (fun w => (hr x y w).2) hk
    · exact h.elim
theorem setAll_eq (v : List Value) : ∀ (cells : Array Value) (off k : Nat), (v.zipIdx k).foldl (fun cs (x : Value × Nat) => cs.setIfInBounds (off + x.2) x.1) cells = setAll cells (off + k) v := by
  induction v with
  | nil => intros; rfl
  | cons c r ih => intro cells off k; simp only [List.zipIdx_cons, List.foldl_cons, setAll]; rw [ih]; rfl
theorem fill_step {v : Value} {cells : Array Value} {off : Nat} : v.cells.zipIdx.foldl (fun cs (x : Value × Nat) => cs.setIfInBounds (off + x.2) x.1) cells = setAll cells off v.cells.toList := by
  rw [← Array.foldl_toList, Array.toList_zipIdx]; exact setAll_eq _ _ _ 0
theorem fillG_run {place : Nat → Option (Nat × Nat × Bool)} {pl : Nat → Option (Nat × Nat)} (hp : ∀ i, pl i = (place i).map fun p => (p.1, p.2.1)) {K : Value → Prop} : ∀ {parts : List (Nat × Value)} {cells : Array Value}, fillG place cells parts K →
    ∃ cs, Instr.fill pl cells parts = some cs ∧ K (.agg cs)
  | [], cells, h => ⟨cells, rfl, h⟩
  | (i, v) :: r, cells, h => by
    simp only [fillG] at h
    simp only [Instr.fill]
    have hpi := hp i
    split at h
    · rename_i off sz hpl
      split at h
      · rename_i h1 h2
        obtain ⟨hv, h⟩ := h
        rw [hpi, hpl]
        have h1 := Nat.eq_of_beq_eq_true h1
        have h2 := Nat.le_of_ble_eq_true h2
        dsimp only [Option.map_some]
        rw [if_neg (by rw [hv]; simp; omega), fill_step, hv]
        exact fillG_run hp h
      · exact h.elim
    · rename_i off sz hpl
      split at h
      · rename_i h1 h2
        rw [hpi, hpl]
        have h1 := Nat.eq_of_beq_eq_true h1
        have h2 := Nat.le_of_ble_eq_true h2
        dsimp only [Option.map_some]
        rw [if_neg (by simp; omega), fill_step]
        exact fillG_run hp h
      · exact h.elim
    · exact h.elim
theorem places_run : ∀ {fs : List Field} {l : List (Nat × Nat × Bool)}, placesL P fs = some l → ∀ w,
    (fs.mapM (fun f => do pure (f.offset, ← sizeOf f.type)) : Sem (List (Nat × Nat))).run P w = .ok (l.map fun p => (p.1, p.2.1)) w
  | [], l, h, w => by simp [placesL] at h; subst h; simp
  | f :: r, l, h, w => by
    simp only [placesL] at h
    split at h
    · rename_i i l' hi hl
      injection h with h; subst h
      have := places_run hl w
      simp only [List.mapM_cons, Sem.run_bind, sizeOf, typeInfo, run_program, Result.andThen_ok, hi, Sem.run_pure, List.map_cons]
      simp only [sizeOf, typeInfo, Sem.run_bind] at this
      rw [this]; rfl
    · cases h
theorem atL_eq {α : Type} : ∀ (l : List α) (i : Nat), l[i]? = atL l i
  | [], i => by simp [atL]
  | x :: r, 0 => by simp [atL]
  | x :: r, i + 1 => by simp [atL, atL_eq r i]
theorem buildG_run {t : TypeId} {parts : List (Nat × Value)} {K : Value → Prop} (h : buildG P t parts K) : ∃ v, (∀ w, (Instr.build t parts.toArray).run P w = .ok v w) ∧ K v := by
  unfold buildG at h
  split at h
  · rename_i ti hti
    split at h
    · rename_i z hz
      split at h
      · rename_i fs hu
        split at h
        · rename_i l hl
          obtain ⟨cs, hf, hk⟩ := fillG_run (pl := fun i => ((l.map fun p => (p.1, p.2.1)).toArray)[i]?) (fun i => by rw [← atL_eq]; simp) h
          refine ⟨_, fun w => ?_, hk⟩
          have hp := places_run hl w
          unfold Instr.build
          simp only [zeroValue, typeInfo, Sem.run_bind, run_program, Result.andThen_ok, hti, hz, Sem.run_pure, run_underlying hu]
          rw [Array.mapM_eq_mapM_toList]
          simp only [← bind_pure_comp, Sem.run_bind]
          simp only [sizeOf, typeInfo, Sem.run_bind] at hp ⊢
          rw [hp]
          simp only [Result.andThen_ok, Sem.run_pure]
          rw [hf]
          rfl
        · exact h.elim
      · rename_i n e hu
        split at h
        · rename_i ei hei
          obtain ⟨cs, hf, hk⟩ := fillG_run (pl := fun i => some (i * ei.size, ei.size)) (fun i => rfl) h
          refine ⟨_, fun w => ?_, hk⟩
          unfold Instr.build
          simp only [zeroValue, sizeOf, typeInfo, Sem.run_bind, run_program, Result.andThen_ok, hti, hz, Sem.run_pure, run_underlying hu, hei]
          rw [hf]
          rfl
        · exact h.elim
      · exact h.elim
    · exact h.elim
  · exact h.elim
/-- What only operands decide is the same in every world. -/
theorem qvG_run {K : Value → Prop} (h : qvG P o σ K) : ∃ v, (∀ w, (execOp (evO σ) o).run P w = .ok (.value v) w) ∧ K v := by
  have fin : ∀ {s : Sem Value} {v}, execOp (evO σ) o = (do pure (Next.value (← s)) : Sem Next) → (∀ w, s.run P w = .ok v w) → K v → ∃ v, (∀ w, (execOp (evO σ) o).run P w = .ok (.value v) w) ∧ K v :=
    fun hs hr hk => ⟨_, fun w => by rw [hs]; exact run_v (hr w), hk⟩
  unfold qvG at h
  split at h
  · rename_i x ho; exact ⟨_, fun w => by unfold execOp; rw [ho]; rfl, h⟩
  · rename_i x ho; exact ⟨_, fun w => by unfold execOp; rw [ho]; rfl, h⟩
  · rename_i t x i ho; obtain ⟨ad, hr, hk⟩ := h; exact fin (by unfold execOp; rw [ho]) hr hk
  · rename_i t x f ho
    split at h
    · obtain ⟨v, hr, hk⟩ := peG_run h; exact fin (by unfold execOp; rw [ho]) hr hk
    · obtain ⟨ad, hr, hk⟩ := h; exact fin (by unfold execOp; rw [ho]) hr hk
  · rename_i x ho
    split at h
    · rename_i p hp; obtain ⟨ad, rfl, hk⟩ := h
      exact ⟨_, fun w => by unfold execOp; rw [ho]; simp only [hp]; rfl, hk⟩
    · exact h.elim
  · rename_i t x lo hi mx ho
    split at h
    · obtain ⟨s, hr, hk⟩ := h; exact fin (by unfold execOp; rw [ho]) hr hk
    · obtain ⟨v, hr, hk⟩ := h; exact fin (by unfold execOp; rw [ho]) hr hk
  · rename_i t x i ho; obtain ⟨vs, hr, hk⟩ := tex_tlam h; exact fin (by unfold execOp; rw [ho]) hr hk
  · rename_i t x f ho
    split at h
    · obtain ⟨v, hr, hk⟩ := peG_run h; exact fin (by unfold execOp; rw [ho]) hr hk
    · obtain ⟨vs, hr, hk⟩ := tex_tlam h; exact fin (by unfold execOp; rw [ho]) hr hk
  · rename_i t parts ho; obtain ⟨v, hr, hk⟩ := buildG_run h; exact fin (by unfold execOp; rw [ho]) (fun w => by have := hr w; rwa [show (parts.toList.map fun p => (p.1, evO σ p.2)).toArray = parts.map fun (i, x) => (i, evO σ x) by rw [← Array.toList_map]] at this) hk
  · rename_i x i ho; obtain ⟨v, hr, hk⟩ := peG_run h; exact fin (by unfold execOp; rw [ho]) hr hk
  · rename_i fn first cap ho; exact fin (s := Instr.makeFunc fn (first.map (evO σ)) (cap.map (evO σ))) (by unfold execOp; rw [ho]) (fun w => rfl) h
  · rename_i op t x y t' ho; exact bin_q ho h
  · rename_i op t x ho; obtain ⟨v, hr, hk⟩ := optG_some h; exact fin (by unfold execOp; rw [ho]) (run_unV hr) hk
  · rename_i s d x ho
    have hx : execOp (evO σ) o = (do pure (Next.value (← convert s d (evO σ x))) : Sem Next) := by unfold execOp; rw [ho]
    split at h
    · rename_i ds k k' n h1 h2 h3
      exact fin hx (v := .int k (k.wrap n)) (fun w => by rw [h3]; unfold convert; simp only [Sem.run_bind, run_underlying h1, run_underlying h2, Result.andThen_ok, Conv.intToInt, Sem.run_pure]) h
    · rename_i x' h1 h2 h3
      exact fin hx (v := .string x') (fun w => by rw [h3]; unfold convert; simp only [Sem.run_bind, run_underlying h1, run_underlying h2, Result.andThen_ok, Sem.run_pure]) h
    · exact h.elim
  · rename_i c x y ho
    split at h
    · rename_i t ht
      refine ⟨if t then evO σ x else evO σ y, fun w => ?_, ?_⟩
      · unfold execOp; rw [ho]; simp only [ht, asBool, Sem.run_bind, Sem.run_pure, Result.andThen_ok]
      · cases t <;> exact h
    · exact h.elim
  · rename_i c ho
    split at h
    · rename_i b hb
      obtain ⟨v, hr, hk⟩ := blt_q h (c.args.map fun | .const _ => true | _ => false)
      refine ⟨v, fun w => ?_, hk⟩
      unfold execOp; rw [ho]; dsimp only; unfold resolve; rw [hb]; exact hr w
    · exact h.elim
  · exact h.elim
theorem opG_wp (he : a.eval = evO σ) (h : opG P o σ w K) (hn : ∀ v w', K v w' → next (a.put o.dst v) w') : o.wp P a w next Q := by
  have hany : ∀ {sh : Sh}, gAny P sh (execOp (evO σ) o) w (tlam _ fun vs w' => K (sh.mk vs) w') → o.wp P a w next Q := fun h => by
    obtain ⟨vs, w', hr, hk⟩ := tex_tlam h
    exact wp_value he hr (hn _ _ hk)
  have hanyU : gAnyU P (execOp (evO σ) o) w (fun w' => K undef w') → o.wp P a w next Q := fun ⟨w', hr, hk⟩ => wp_skip' he hr (hn _ _ hk)
  have fin : ∀ {s : Sem Value} {v w'}, execOp (evO σ) o = (do pure (Next.value (← s)) : Sem Next) → s.run P w = .ok v w' → K v w' → o.wp P a w next Q :=
    fun hs hr hk => wp_value he (by rw [hs]; exact run_v hr) (hn _ _ hk)
  unfold opG at h
  split at h
  · obtain ⟨v, hr, hk⟩ := qvG_run h; exact wp_value he (hr w) (hn _ _ hk)
  split at h
  · rename_i t x ho; obtain ⟨vs, hr, hk⟩ := tex_tlam h; exact fin (by unfold execOp; rw [ho]) hr hk
  · rename_i t x y ho; obtain ⟨w', hr, hk⟩ := h
    exact wp_skip' he (w' := w') (by unfold execOp; rw [ho]; simp only [Sem.run_bind, hr, Result.andThen_ok, Sem.run_pure]) (hn _ _ hk)
  · rename_i t x ho; obtain ⟨ad, w', hr, hk⟩ := h; exact fin (by unfold execOp; rw [ho]) hr hk
  · rename_i t ho; obtain ⟨ad, w', hr, hk⟩ := h; exact fin (by unfold execOp; rw [ho]) hr hk
  · rename_i t l c ho; obtain ⟨v, w', hr, hk⟩ := h; exact fin (by unfold execOp; rw [ho]) hr hk
  · rename_i t n parts ho; obtain ⟨v, w', hr, hk⟩ := h; exact fin (by unfold execOp; rw [ho]) hr hk
  · rename_i s d x ho; obtain ⟨vs, w', hr, hk⟩ := tex_tlam h; exact fin (by unfold execOp; rw [ho]) hr hk
  · rename_i c ho; exact call_wp ho he h hn
  · exact hanyU h
  · exact hanyU h
  · exact hanyU h
  all_goals first | exact h.elim | exact hany h
end
end Go.Proofs.YtiimlfgjnapgjaaGreatDoorV

/- The engine, third part: regions without a draw, code, and that what is shown of den holds of a call. (A region that draws: drawG, given ahead.) -/
namespace Go.Proofs.YtiimlfgjnapgjaaGreatDoorV
open Go

def memb (t : Nat) : List Nat → Bool
  | [] => false
  | x :: r => match Nat.beq t x with | true => true | false => memb t r
theorem memb_iff {t : Nat} : ∀ {l : List Nat}, memb t l = true ↔ t ∈ l
  | [] => by simp [memb]
  | x :: r => by
    simp only [memb]
    split
    · rename_i h; simp [Nat.eq_of_beq_eq_true h]
    · rename_i h; simp [Nat.ne_of_beq_eq_false h, memb_iff]
def mask (A : List Nat) (g σ : Env) : Env := fun t => match memb t A with | true => g t | false => σ t
def find (t : Nat) : List Nat → List Value → Option Value
  | d :: D, v :: vs => match Nat.beq t d with | true => some v | false => find t D vs
  | _, _ => none
def over (D : List Nat) (vs : List Value) (σ : Env) : Env := fun t => match find t D vs with | some v => v | none => σ t
def agree (A : List Nat) (σ σ' : Env) : Prop := ∀ t, t ∉ A → σ' t = σ t
theorem agree.refl (A : List Nat) (σ : Env) : agree A σ σ := fun _ _ => rfl
theorem agree.trans {A : List Nat} {a b c : Env} (h : agree A a b) (k : agree A b c) : agree A a c := fun t ht => (k t ht).trans (h t ht)
theorem agree.mono {A B : List Nat} {a b : Env} (h : agree A a b) (hs : ∀ t, t ∈ A → t ∈ B) : agree B a b := fun t ht => h t fun hh => ht (hs t hh)
theorem find_map (σ' : Env) (t : Nat) : ∀ (D : List Nat), find t D (D.map σ') = some (σ' t) ∨ find t D (D.map σ') = none
  | [] => .inr rfl
  | d :: D => by
    simp only [List.map_cons, find]
    split
    · rename_i h; rw [Nat.eq_of_beq_eq_true h]; exact .inl rfl
    · exact find_map σ' t D
theorem over_map {D : List Nat} {τ σ' : Env} (h : τ = σ') : over D (D.map σ') τ = σ' := by
  funext t
  unfold over
  rcases find_map σ' t D with e | e <;> rw [e]
  exact congrFun h t
theorem mask_eq {A : List Nat} {σ σ' : Env} (h : agree A σ σ') : mask A σ' σ = σ' := by
  funext t
  unfold mask
  split
  · rfl
  · rename_i hm; exact (h t fun hh => by rw [memb_iff.2 hh] at hm; cases hm).symm

/-! ### Regions without a draw -/
def guardB (ops : Array Oper) (σ : Env) (g : Nat × Bool) : Bool := match (ops[g.1]?).bind (·.dst) with
  | some t => match σ t with
    | .bool b => match g.2 with | true => b | false => !b
    | _ => false
  | none => false
/-- Behind a guard its value is known. -/
def setG (ops : Array Oper) (σ : Env) (g : Nat × Bool) (b : Bool) : Env := match (ops[g.1]?).bind (·.dst) with
  | some t => match σ t with
    | .bool _ => upd σ t (.bool (match b with | true => g.2 | false => !g.2))
    | _ => σ
  | none => σ
theorem setG_eq {ops : Array Oper} {σ : Env} {g : Nat × Bool} {b : Bool} (h : guardB ops σ g = b) : setG ops σ g b = σ := by
  subst h
  unfold setG guardB
  cases hj : (ops[g.1]?).bind (·.dst) with
  | none => rfl
  | some t =>
    dsimp only
    cases hv : σ t with
    | bool x =>
      dsimp only
      funext u
      rw [upd_eq]
      by_cases e : u = t
      · rw [if_pos e, e, hv]
        cases hg : g.2 <;> cases x <;> rfl
      · rw [if_neg e]
    | _ => rfl
def opsG (P : Program) (ops : Array Oper) : List Oper → Env → World → (Env → World → Prop) → Prop
  | [], σ, w, K => K σ w
  | o :: r, σ, w, K => match o.guard with
    | none => opG P o σ w fun v w' => opsG P ops r (updO σ o.dst v) w' K
    | some g => gIf (guardB ops σ g) (opG P o (setG ops σ g true) w fun v w' => opsG P ops r (updO (setG ops σ g true) o.dst v) w' K) (opsG P ops r (updO (setG ops σ g false) o.dst undef) w K)
def dsts : List Oper → List Nat
  | [] => []
  | o :: r => match o.dst with
    | some d => d :: dsts r
    | none => dsts r
theorem mem_dsts {o : Oper} {d : Nat} : ∀ {l : List Oper}, o ∈ l → o.dst = some d → d ∈ dsts l
  | x :: r, h, hd => by
    rcases List.mem_cons.1 h with rfl | h
    · simp [dsts, hd]
    · have := mem_dsts h hd
      simp only [dsts]; split <;> simp [this]
theorem agree_updO {A : List Nat} {σ : Env} {d : Option Nat} (h : ∀ t, d = some t → t ∈ A) (v : Value) : agree A σ (updO σ d v) := by
  intro t ht
  cases d with
  | none => rfl
  | some d => simp only [updO, upd_eq]; rw [if_neg]; rintro rfl; exact ht (h _ rfl)
theorem wanted_guard {n : Nat} {a : Act} {σ : Env} {ops : Array Oper} {o : Oper} {g : Nat × Bool} (hr : Rep n a σ) (hg : o.guard = some g) : Region.wanted o (yielded ops a.tmps) = guardB ops σ g := by
  obtain ⟨j, want⟩ := g
  unfold Region.wanted guardB yielded
  rw [hg]
  dsimp only
  cases hj : (ops[j]?).bind (·.dst) with
  | none => simp
  | some t =>
    have ht := hr.get t
    simp only [Option.bind_some]
    rw [← ht, Array.getD_eq_getD_getElem?]
    cases ha : a.tmps[t]? with
    | none => simp [undef]
    | some v =>
      cases v <;> simp
      cases want <;> simp
theorem opsG_wp {P : Program} {ops : Array Oper} {n : Nat} {A : List Nat} {σ₀ : Env} {K : Env → World → Prop} {Q : Exit → Act → World → Prop} (hQ : ∀ a σ w, Rep n a σ → agree A σ₀ σ → K σ w → Q .normal a w) :
    ∀ (l : List Oper) (a : Act) (σ : Env) (w : World), (∀ t, t ∈ dsts l → t < n ∧ t ∈ A) → Rep n a σ → agree A σ₀ σ → opsG P ops l σ w K → wpList P ops Q l a w
  | [], a, σ, w, _, hr, hag, h => hQ a σ w hr hag h
  | o :: r, a, σ, w, hd, hr, hag, h => by
    have hd1 : ∀ t, o.dst = some t → t < n ∧ t ∈ A := fun t ht => hd t (mem_dsts (by simp) ht)
    have hd2 : ∀ t, t ∈ dsts r → t < n ∧ t ∈ A := fun t ht => hd t (by simp only [dsts]; split <;> simp [ht])
    have step : ∀ v w', opsG P ops r (updO σ o.dst v) w' K → wpList P ops Q r (a.put o.dst v) w' := fun v w' h' =>
      opsG_wp hQ r _ _ _ hd2 (hr.put (fun t ht => (hd1 t ht).1) v) (hag.trans (agree_updO (fun t ht => (hd1 t ht).2) v)) h'
    simp only [opsG] at h
    split at h
    · rename_i hg
      exact wpList_plain hg fun K' hK => opG_wp hr.eval h fun v w' hk => hK _ _ (step v w' hk)
    · rename_i g hg
      refine wpList_step fun K' hK => ?_
      rw [wanted_guard hr hg]
      unfold gIf at h
      split at h
      · rename_i hb; rw [hb, if_pos rfl]; rw [setG_eq hb] at h; exact opG_wp hr.eval h fun v w' hk => hK _ _ (step v w' hk)
      · rename_i hb; rw [hb, if_neg (by simp)]; rw [setG_eq hb] at h; exact hK _ _ (step undef w h)

/-! ### Code -/
structure An where
  loop : List (Nat × List (Nat × Ck))
  cut : List (Nat × List (Nat × Ck))
def lk {α : Type} (n : Nat) : List (Nat × α) → Option α
  | [] => none
  | (k, x) :: r => match Nat.beq k n with | true => some x | false => lk n r
/-- What tells a piece of code: its first region. -/
def key : Code → Nat
  | .region id _ _ => id
  | .seq a b => match Nat.beq (key a) 1000000 with | true => key b | false => key a
  | .cond _ a b => match Nat.beq (key a) 1000000 with | true => key b | false => key a
  | .block _ c => key c
  | .loop c => key c
  | .scope c => key c
  | _ => 1000000
def An.lp (A : An) (c : Code) : List (Nat × Ck) := match lk (key c) A.loop with | some D => D | none => []
def asg : Code → List Nat
  | .region _ ops _ => dsts ops.toList
  | .seq a b => asg a ++ asg b
  | .block _ c => asg c
  | .loop c => asg c
  | .cond _ a b => asg a ++ asg b
  | _ => []
def ids (D : List (Nat × Ck)) : List Nat := D.map (·.1)
def cks (D : List (Nat × Ck)) : List Ck := D.map (·.2)
abbrev NoI : World → Prop := fun _ => False
abbrev NoM : World → Nat := fun _ => 0
def den (P : Program) (draw : Array Oper → Env → World → (Env → World → Prop) → Prop) (An : An) : Code → (Env → World → Prop) → (Nat → Env → World → Prop) → (Env → World → Prop) → Env → World → Prop
  | .skip, N, _, _, σ, w => N σ w
  | .label _, N, _, _, σ, w => N σ w
  | .region _ ops d, N, _, _, σ, w => match d with
    | false => opsG P ops ops.toList σ w N
    | true => draw ops σ w N
  | .seq a b, N, X, R, σ, w => match lk (key b) An.cut with
    | none => den P draw An a (fun σ' w' => den P draw An b N X R σ' w') X R σ w
    | some D => ∃ J : TF (cks D) (World → Prop), den P draw An a (fun σ' w' => tapp NoI (cks D) J ((ids D).map σ') w') X R σ w ∧
        ∀ g : Env, tall (cks D) fun vs => ∀ w', tapp NoI (cks D) J vs w' → den P draw An b N X R (over (ids D) vs (mask (asg a) g σ)) w'
  | .cond c a b, N, X, R, σ, w => match evO σ c with
    | .bool t => gIf t (den P draw An a N X R σ w) (den P draw An b N X R σ w)
    | _ => False
  | .block id c, N, X, R, σ, w => den P draw An c N (fun i => match Nat.beq i id with | true => N | false => X i) R σ w
  | .loop c, _, X, R, σ, w => ∃ (I : TF (cks (An.lp c)) (World → Prop)) (μ : TF (cks (An.lp c)) (World → Nat)),
      tapp NoI _ I ((ids (An.lp c)).map σ) w ∧
      ∀ g : Env, tall (cks (An.lp c)) fun vs => ∀ w', tapp NoI _ I vs w' →
        den P draw An c (fun σ' w'' => tapp NoI _ I ((ids (An.lp c)).map σ') w'' ∧ tapp NoM _ μ ((ids (An.lp c)).map σ') w'' < tapp NoM _ μ vs w') X R
          (over (ids (An.lp c)) vs (mask (asg c) g σ)) w'
  | .exit id, _, X, _, σ, w => X id σ w
  | .ret, _, _, R, σ, w => R σ w
  | _, _, _, _, _, _ => False
def inB (n : Nat) : List Nat → Bool
  | [] => true
  | t :: r => match Nat.blt t n with | true => inB n r | false => false
theorem inB_lt {n t : Nat} : ∀ {l : List Nat}, inB n l = true → t ∈ l → t < n
  | x :: r, h, ht => by
    simp only [inB] at h
    split at h
    · rename_i hb
      rcases List.mem_cons.1 ht with rfl | ht
      · exact by simpa [Nat.blt_eq] using hb
      · exact inB_lt h ht
    · cases h

def Qof (n : Nat) (A : List Nat) (σ₀ : Env) (N : Env → World → Prop) (X : Nat → Env → World → Prop) (R : Env → World → Prop) : Exit → Act → World → Prop
  | .normal, a, w => ∃ σ, Rep n a σ ∧ agree A σ₀ σ ∧ N σ w
  | .exit id, a, w => ∃ σ, Rep n a σ ∧ agree A σ₀ σ ∧ X id σ w
  | .ret, a, w => ∃ σ, Rep n a σ ∧ R σ w
  | _, _, _ => False

/-- What is asked of the words for a region that draws. -/
def DrawOk (P : Program) (draw : Array Oper → Env → World → (Env → World → Prop) → Prop) : Prop :=
  ∀ (id n : Nat) (ops : Array Oper) (σ : Env) (a : Act) (w : World) (K : Env → World → Prop) (Q : Exit → Act → World → Prop), inB n (dsts ops.toList) = true → Rep n a σ → (∀ c a w, ¬ Q (.panic c) a w) →
    (∀ a σ' w, Rep n a σ' → agree (dsts ops.toList) σ σ' → K σ' w → Q .normal a w) → draw ops σ w K → (Code.region id ops true).wp P Q a w

theorem tapp_all {D : List (Nat × Ck)} {J : TF (cks D) (World → Prop)} {σ : Env} {w : World} (h : tapp NoI (cks D) J ((ids D).map σ) w) {q : List Value → Prop} (hq : tall (cks D) q) : q ((ids D).map σ) := by
  refine tapp_ok (d := NoI) (f := J) (vs := (ids D).map σ) (P := fun f => f w) h (fun h => h) hq ?_
  simp [ids, cks]
section
variable {P : Program} {draw : Array Oper → Env → World → (Env → World → Prop) → Prop} {An : An} {n : Nat}
theorem den_wp (hdr : DrawOk P draw) : ∀ (c : Code) (A : List Nat), (∀ t, t ∈ asg c → t ∈ A) → inB n (asg c) = true → ∀ (N : Env → World → Prop) (X : Nat → Env → World → Prop) (R : Env → World → Prop) (σ₀ σ : Env) (a : Act) (w : World),
    Rep n a σ → agree A σ₀ σ → den P draw An c N X R σ w → c.wp P (Qof n A σ₀ N X R) a w := by
  have inB_l : ∀ {l m : List Nat}, inB n (l ++ m) = true → inB n l = true := by
    intro l; induction l with
    | nil => intros; rfl
    | cons x l ih => intro m h; simp only [List.cons_append, inB] at h ⊢; split <;> simp_all; exact ih h
  have inB_r : ∀ {l m : List Nat}, inB n (l ++ m) = true → inB n m = true := by
    intro l; induction l with
    | nil => intro m h; exact h
    | cons x l ih => intro m h; simp only [List.cons_append, inB] at h; split at h; exact ih h; cases h
  intro c
  induction c with
  | skip => intro A _ _ N X R σ₀ σ a w hr hag h; exact wp_skip ⟨σ, hr, hag, h⟩
  | label l => intro A _ _ N X R σ₀ σ a w hr hag h; exact wp_label ⟨σ, hr, hag, h⟩
  | region id ops d =>
    intro A hA hn N X R σ₀ σ a w hr hag h
    cases d with
    | false =>
      refine wp_region_list (opsG_wp (A := A) (σ₀ := σ₀) (fun a σ w hr hag hk => ⟨σ, hr, hag, hk⟩) _ a σ w (fun t ht => ⟨inB_lt hn ht, hA t ht⟩) hr hag h)
    | true =>
      exact hdr id n ops σ a w N _ hn hr (fun _ _ _ h => h) (fun a σ' w hr' hag' hk => ⟨σ', hr', hag.trans (hag'.mono hA), hk⟩) h
  | seq x y ihx ihy =>
    intro A hA hn N X R σ₀ σ a w hr hag h
    simp only [asg, List.mem_append] at hA
    have hnx := inB_l (l := asg x) (m := asg y) hn
    have hny := inB_r (l := asg x) (m := asg y) hn
    simp only [den] at h
    split at h
    · refine wp_seq (wp_mono (ihx A (fun t ht => hA t (.inl ht)) hnx _ X R σ₀ σ a w hr hag h) ?_)
      intro e a w hq
      cases e <;> try exact hq
      obtain ⟨σ', hr', hag', hk⟩ := hq
      exact ihy A (fun t ht => hA t (.inr ht)) hny N X R σ₀ σ' a w hr' hag' hk
    · rename_i D hD
      obtain ⟨J, h1, h2⟩ := h
      have h1' := ihx (asg x) (fun t ht => ht) hnx _ X R σ σ a w hr (agree.refl _ _) h1
      refine wp_seq (wp_mono h1' ?_)
      intro e a w hq
      cases e with
      | normal =>
        obtain ⟨σ', hr', hag', hk⟩ := hq
        have := tapp_all hk (h2 σ') w hk
        rw [mask_eq hag', over_map rfl] at this
        exact ihy A (fun t ht => hA t (.inr ht)) hny N X R σ₀ σ' a w hr' (hag.trans (hag'.mono fun t ht => hA t (.inl ht))) this
      | exit id => obtain ⟨σ', hr', hag', hk⟩ := hq; exact ⟨σ', hr', hag.trans (hag'.mono fun t ht => hA t (.inl ht)), hk⟩
      | ret => exact hq
      | goto l => exact hq
      | panic ch => exact hq
      | outgrown => exact hq
  | cond c x y ihx ihy =>
    intro A hA hn N X R σ₀ σ a w hr hag h
    simp only [asg, List.mem_append] at hA
    simp only [den] at h
    split at h
    · rename_i t ht
      have hc : a.eval c = .bool t := by rw [hr.eval]; exact ht
      unfold gIf at h
      split at h
      · exact wp_cond_true hc (ihx A (fun t ht => hA t (.inl ht)) (inB_l (l := asg x) (m := asg y) hn) N X R σ₀ σ a w hr hag h)
      · exact wp_cond_false hc (ihy A (fun t ht => hA t (.inr ht)) (inB_r (l := asg x) (m := asg y) hn) N X R σ₀ σ a w hr hag h)
    · exact h.elim
  | block id x ih =>
    intro A hA hn N X R σ₀ σ a w hr hag h
    refine wp_block (wp_mono (ih A hA hn N _ R σ₀ σ a w hr hag h) ?_)
    intro e a w hq
    cases e <;> try exact hq
    rename_i i
    simp only [Exit.inBlock]
    obtain ⟨σ', hr', hag', hk⟩ := hq
    by_cases hi : i = id
    · rw [if_pos hi]
      rw [show Nat.beq i id = true by rw [hi]; exact Nat.beq_refl id] at hk
      exact ⟨σ', hr', hag', hk⟩
    · rw [if_neg hi]
      rw [show Nat.beq i id = false by cases hb : Nat.beq i id with | false => rfl | true => exact absurd (Nat.eq_of_beq_eq_true hb) hi] at hk
      exact ⟨σ', hr', hag', hk⟩
  | loop x ih =>
    intro A hA hn N X R σ₀ σ a w hr hag h
    obtain ⟨I, μ, h0, h1⟩ := h
    refine wp_loop (I := fun a' w' => ∃ σ', Rep n a' σ' ∧ agree (asg x) σ σ' ∧ tapp NoI _ I ((ids (An.lp x)).map σ') w')
      (μ := fun a' w' => tapp NoM _ μ ((ids (An.lp x)).map fun t => a'.tmps.getD t undef) w') ⟨σ, hr, agree.refl _ _, h0⟩ ?_
    intro a' w' ⟨σ', hr', hag', hI⟩
    have := tapp_all hI (h1 σ') w' hI
    rw [mask_eq hag', over_map rfl] at this
    refine wp_mono (ih (asg x) (fun t ht => ht) hn _ X R σ σ' a' w' hr' hag' this) ?_
    intro e a'' w'' hq
    have hget : ∀ {a : Act} {σ : Env}, Rep n a σ → (fun t => a.tmps.getD t undef) = σ := fun hr => funext hr.get
    cases e with
    | normal =>
      obtain ⟨σ'', hr'', hag'', hk1, hk2⟩ := hq
      refine ⟨⟨σ'', hr'', hag'', hk1⟩, ?_⟩
      rw [hget hr'', hget hr']; exact hk2
    | exit id => obtain ⟨σ'', hr'', hag'', hk⟩ := hq; exact ⟨σ'', hr'', hag.trans (hag''.mono hA), hk⟩
    | ret => exact hq
    | goto l => exact hq
    | panic ch => exact hq
    | outgrown => exact hq
  | exit id => intro A _ _ N X R σ₀ σ a w hr hag h; exact wp_exit ⟨σ, hr, hag, h⟩
  | ret => intro A _ _ N X R σ₀ σ a w hr _ h; exact wp_ret ⟨σ, hr, h⟩
  | rangeFunc => intro A _ _ N X R σ₀ σ a w _ _ h; exact h.elim
  | scope => intro A _ _ N X R σ₀ σ a w _ _ h; exact h.elim
  | goto => intro A _ _ N X R σ₀ σ a w _ _ h; exact h.elim
  | refuse => intro A _ _ N X R σ₀ σ a w _ _ h; exact h.elim
end

/-- What a function hands back: temporaries; variables that lie in memory are loaded. -/
def resV : List Value → Value
  | [v] => v
  | vs => .tuple vs.toArray
def retL (P : Program) (σ : Env) (w : World) : List ResultVar → (List Value → Prop) → Prop
  | [], k => k []
  | .tmp t :: r, k => retL P σ w r fun vs => k (σ t :: vs)
  | .cell a t :: r, k => gLoad P t (shOf P t) (σ a) w (tlam _ fun xs => retL P σ w r fun vs => k ((shOf P t).mk xs :: vs))
def retG (P : Program) (fn : Func) (R : Ending → World → Prop) (σ : Env) (w : World) : Prop := retL P σ w fn.results.toList fun vs => R (.returned (resV vs)) w
theorem retL_run {P : Program} {w : World} {tmps : Array Value} {σ : Env} (hs : ∀ t, tmps.getD t undef = σ t) : ∀ {l : List ResultVar} {k : List Value → Prop}, retL P σ w l k →
    ∃ vs, (l.mapM (fun | .tmp t => pure (tmps.getD t undef) | .cell a t => do loadVar t (← asAddr (tmps.getD a undef)) : ResultVar → Sem Value)).run P w = .ok vs w ∧ k vs
  | [], k, h => ⟨[], by simp, h⟩
  | .tmp t :: r, k, h => by
    obtain ⟨vs, hv, hk⟩ := retL_run hs (show retL P σ w r fun vs => k (σ t :: vs) from h)
    refine ⟨σ t :: vs, ?_, hk⟩
    rw [← hs]
    simp only [List.mapM_cons, Sem.run_bind, Sem.run_pure, Result.andThen_ok]
    rw [hv]; rfl
  | .cell a t :: r, k, h => by
    obtain ⟨xs, hx, h⟩ := tex_tlam (show gLoad P t (shOf P t) (σ a) w (tlam _ fun xs => retL P σ w r fun vs => k ((shOf P t).mk xs :: vs)) from h)
    obtain ⟨vs, hv, hk⟩ := retL_run hs h
    refine ⟨(shOf P t).mk xs :: vs, ?_, hk⟩
    simp only [List.mapM_cons, Sem.run_bind, Sem.run_pure, Result.andThen_ok]
    have hl : (asAddr (tmps.getD a undef) >>= fun x => loadVar t x : Sem Value).run P w = .ok ((shOf P t).mk xs) w := by
      rw [hs]
      unfold Instr.loadAt at hx
      cases hp : σ a with
      | pointer p => cases p with
        | none => rw [hp] at hx; simp [Instr.sureAddr, Sem.run, stuck] at hx
        | some ad => rw [hp] at hx; exact hx
      | _ => rw [hp] at hx; simp [Instr.sureAddr, Sem.run, stuck] at hx
    rw [← Sem.run_bind, hl]
    simp only [Result.andThen_ok]
    rw [hv]; rfl
theorem retG_ok {P : Program} {fn : Func} {R : Ending → World → Prop} {σ : Env} {w : World} {tmps : Array Value} (hs : ∀ t, tmps.getD t undef = σ t) (h : retG P fn R σ w) :
    ∃ v, (results fn tmps).run P w = .ok v w ∧ R (.returned v) w := by
  obtain ⟨vs, hv, hk⟩ := retL_run hs h
  refine ⟨_, ?_, hk⟩
  unfold results
  rw [Array.mapM_eq_mapM_toList]
  simp only [Sem.run_bind, ← bind_pure_comp]
  erw [hv]
  simp only [Result.andThen_ok, Sem.run_pure]
  match vs with
  | [] => rfl
  | [t] => rfl
  | _ :: _ :: _ => rfl
theorem calls_of_den {P : Program} {draw : Array Oper → Env → World → (Env → World → Prop) → Prop} {An : An} {f : FuncId} {fn : Func} {c : Code} {args : Array Value} {w : World} {R : Ending → World → Prop}
    (hdr : DrawOk P draw) (hf : P.funcs[f]? = some fn) (hb : fn.body = some c) (hs : args.size + (fn.ntmps - args.size) = fn.ntmps) (hn : inB fn.ntmps (asg c) = true)
    (h : den P draw An c (retG P fn R) (fun _ _ _ => False) (retG P fn R) (fun t => args.getD t undef) w) : Calls P f args w R := by
  refine calls_of_wp hf hb (wp_mono (den_wp (An := An) hdr c (asg c) (fun _ h => h) hn _ _ _ _ _ _ w ⟨by simpa using hs, rfl, fun t => ?_⟩ (agree.refl _ _) h) ?_)
  · simp only [Array.getD_eq_getD_getElem?, Array.getElem?_append, Array.getElem?_replicate]
    split
    · rfl
    · rename_i hlt; rw [Array.getElem?_eq_none (by omega)]; split <;> rfl
  · intro e a w hq
    cases e with
    | normal => obtain ⟨σ, hr, _, hk⟩ := hq; exact ⟨hr.defers, retG_ok hr.get hk⟩
    | ret => obtain ⟨σ, hr, hk⟩ := hq; exact ⟨hr.defers, retG_ok hr.get hk⟩
    | exit id => obtain ⟨_, _, _, hk⟩ := hq; exact hk.elim
    | goto l => exact hq
    | panic ch => exact hq.elim
    | outgrown => exact hq.elim
end Go.Proofs.YtiimlfgjnapgjaaGreatDoorV
