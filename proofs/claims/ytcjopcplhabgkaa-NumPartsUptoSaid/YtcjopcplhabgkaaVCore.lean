/- The engine: code as a predicate transformer over an environment (den), and that it implies the machine's own calculus (calls_of_den). -/
import Derived.Tactics
import Derived.WalkKit
import Derived.KernelRfl
namespace Go.Proofs.YtcjopcplhabgkaaV
open Go

abbrev Env := Nat → Value
def upd (σ : Env) (d : Nat) (v : Value) : Env := fun t => match Nat.beq t d with | true => v | false => σ t
def updO (σ : Env) : Option Nat → Value → Env
  | some d, v => upd σ d v
  | none, _ => σ
def evO (σ : Env) : Operand → Value
  | .tmp t => σ t
  | .const v => v
  | .global g => .pointer (some ⟨g, 0, none⟩)
  | .func f => .func (.func f) #[] #[]

/-- Cells by kind. -/
inductive Ck where
  | int (k : IntKind) | bool | str | ptr | agg | val
@[reducible] def Ck.T : Ck → Type
  | .int _ => Int | .bool => Bool | .str => ByteArray | .ptr => Option Addr | .agg => Array Value | .val => Value
def Ck.inj : (c : Ck) → c.T → Value
  | .int k, n => .int k n
  | .bool, b => .bool b
  | .str, s => .string s
  | .ptr, a => .pointer a
  | .agg, cs => .agg cs
  | .val, v => v
def ikEq : IntKind → IntKind → Bool
  | .i8, .i8 | .i16, .i16 | .i32, .i32 | .i64, .i64 | .u8, .u8 | .u16, .u16 | .u32, .u32 | .u64, .u64 => true
  | _, _ => false
theorem ikEq_eq {a b : IntKind} (h : ikEq a b = true) : a = b := by cases a <;> cases b <;> simp_all [ikEq]
def Ck.get : (c : Ck) → Value → Option c.T
  | .int k, .int k' n => match ikEq k k' with | true => some n | false => none
  | .bool, .bool b => some b
  | .str, .string s => some s
  | .ptr, .pointer a => some a
  | .agg, .agg cs => some cs
  | .val, v => some v
  | _, _ => none
theorem Ck.get_inj {c : Ck} {v : Value} {x : c.T} (h : c.get v = some x) : v = c.inj x := by
  cases c <;> cases v <;> simp_all [Ck.get, Ck.inj]
  split at h
  · rename_i hk; exact ⟨(ikEq_eq hk).symm, by simpa using h⟩
  · cases h

@[reducible] def TF : List Ck → Type → Type
  | [], α => α
  | c :: r, α => c.T → TF r α
def tlam {α : Type} : (cs : List Ck) → (List Value → α) → TF cs α
  | [], f => f []
  | c :: r, f => fun x => tlam r fun vs => f (c.inj x :: vs)
def tall : (cs : List Ck) → (List Value → Prop) → Prop
  | [], p => p []
  | c :: r, p => ∀ x : c.T, tall r fun vs => p (c.inj x :: vs)
def tapp {α : Type} (d : α) : (cs : List Ck) → TF cs α → List Value → α
  | [], f, _ => f
  | c :: r, f, v :: vs => match c.get v with | some x => tapp d r (f x) vs | none => d
  | _ :: _, _, [] => d
def tex {α : Type} : (cs : List Ck) → TF cs α → (List Value → α → Prop) → Prop
  | [], k, p => p [] k
  | c :: r, k, p => ∃ x : c.T, tex r (k x) fun vs k => p (c.inj x :: vs) k
theorem tex_tlam {α : Type} {p : List Value → α → Prop} : ∀ {cs : List Ck} {f : List Value → α}, tex cs (tlam cs f) p → ∃ vs, p vs (f vs)
  | [], _, h => ⟨[], h⟩
  | _ :: _, _, ⟨x, h⟩ => let ⟨vs, h⟩ := tex_tlam h; ⟨_ :: vs, h⟩
theorem tapp_ok {α : Type} {d : α} : ∀ {cs : List Ck} {f : TF cs α} {vs : List Value} {P : α → Prop}, (P (tapp d cs f vs)) → ¬ P d → ∀ {q : List Value → Prop}, (tall cs q → vs.length = cs.length → q vs)
  | [], _, [], _, _, _, q, h => fun _ => h
  | [], _, _ :: _, _, _, _, _, _ => fun h => by simp at h
  | _ :: _, _, [], _, _, _, _, _ => fun h => by simp at h
  | c :: r, f, v :: vs, P, h, hd, q, hq => by
    intro hl
    simp only [tapp] at h
    split at h
    · rename_i x hx
      rw [Ck.get_inj hx]
      exact tapp_ok (P := P) h hd (hq x) (by simpa using hl)
    · exact absurd h hd

/-- How a value lies: one cell, cells, or several results. -/
inductive Part where
  | one (c : Ck) | agg (cs : List Ck)
inductive Sh where
  | part (p : Part) | tup (ps : List Part)
def Part.cks : Part → List Ck
  | .one c => [c]
  | .agg cs => cs
def Part.mk : Part → List Value → Value
  | .one _, v :: _ => v
  | .one _, [] => undef
  | .agg _, vs => .agg vs.toArray
def partsCks : List Part → List Ck
  | [] => []
  | p :: ps => p.cks ++ partsCks ps
def partsMk : List Part → List Value → List Value
  | [], _ => []
  | p :: ps, vs => p.mk (vs.take p.cks.length) :: partsMk ps (vs.drop p.cks.length)
def Sh.cks : Sh → List Ck
  | .part p => p.cks
  | .tup ps => partsCks ps
def Sh.mk : Sh → List Value → Value
  | .part p, vs => p.mk vs
  | .tup ps, vs => .tuple (partsMk ps vs).toArray

def cksOf (P : Program) : Nat → TypeId → List Ck
  | 0, _ => [.val]
  | n + 1, t => match P.underlying t with
    | some (.int k) => [.int k]
    | some .bool => [.bool]
    | some .string => [.str]
    | some (.pointer _) => [.ptr]
    | some (.struct fs) => fs.toList.flatMap fun f => cksOf P n f.type
    | some (.array m e) => (List.replicate m (cksOf P n e)).flatten
    | _ => [.val]
def partOf (P : Program) (t : TypeId) : Part := match P.underlying t with
  | some (.int k) => .one (.int k)
  | some .bool => .one .bool
  | some .string => .one .str
  | some (.pointer _) => .one .ptr
  | some (.struct _) | some (.array _ _) => match (P.info? t) with
    | some i => match Nat.ble i.size 16 with
      | true => .agg (cksOf P 8 t)
      | false => .one .agg
    | none => .one .agg
  | _ => .one .val
def shOf (P : Program) (t : TypeId) : Sh := match P.underlying t with
  | some (.tuple ts) => .tup (ts.toList.map (partOf P))
  | _ => .part (partOf P t)

abbrev shI (k : IntKind) : Sh := .part (.one (.int k))
abbrev shB : Sh := .part (.one .bool)
abbrev shS : Sh := .part (.one .str)
abbrev shP : Sh := .part (.one .ptr)
abbrev shA : Sh := .part (.one .agg)
abbrev shV : Sh := .part (.one .val)
abbrev shU : Sh := .tup []
def i8 (n : Int) : Int := IntKind.wrap .i8 n
def i16 (n : Int) : Int := IntKind.wrap .i16 n
def i32 (n : Int) : Int := IntKind.wrap .i32 n
def i64 (n : Int) : Int := IntKind.wrap .i64 n
def u8 (n : Int) : Int := IntKind.wrap .u8 n
def u16 (n : Int) : Int := IntKind.wrap .u16 n
def u32 (n : Int) : Int := IntKind.wrap .u32 n
def u64 (n : Int) : Int := IntKind.wrap .u64 n
/-! ### Nodes -/
def gIf (b : Bool) (A B : Prop) : Prop := match b with | true => A | false => B
def gRun (P : Program) (sh : Sh) (s : Sem Value) (w : World) (K : TF sh.cks (World → Prop)) : Prop :=
  tex sh.cks K fun vs k => ∃ w', s.run P w = .ok (sh.mk vs) w' ∧ k w'
def gPure (P : Program) (sh : Sh) (s : Sem Value) (K : TF sh.cks Prop) : Prop :=
  tex sh.cks K fun vs k => (∀ w, s.run P w = .ok (sh.mk vs) w) ∧ k
def gPtr (P : Program) (s : Sem Value) (K : Addr → Prop) : Prop := ∃ ad, (∀ w, s.run P w = .ok (.pointer (some ad)) w) ∧ K ad
def gPtrW (P : Program) (s : Sem Value) (w : World) (K : Addr → World → Prop) : Prop := ∃ ad w', s.run P w = .ok (.pointer (some ad)) w' ∧ K ad w'
def gVal (P : Program) (s : Sem Value) (K : Value → Prop) : Prop := ∃ v, (∀ w, s.run P w = .ok v w) ∧ K v
def gValW (P : Program) (s : Sem Value) (w : World) (K : Value → World → Prop) : Prop := ∃ v w', s.run P w = .ok v w' ∧ K v w'
def gNat (P : Program) (s : Sem Value) (K : Nat → Prop) : Prop := ∃ n : Nat, (∀ w, s.run P w = .ok (.int .i64 n) w) ∧ K n
def gNatW (P : Program) (s : Sem Value) (w : World) (K : Nat → World → Prop) : Prop := ∃ (n : Nat) (w' : World), s.run P w = .ok (.int .i64 n) w' ∧ K n w'
def gUnit (P : Program) (s : Sem Unit) (w : World) (K : World → Prop) : Prop := ∃ w', s.run P w = .ok () w' ∧ K w'

def gLoad (P : Program) (t : TypeId) (sh : Sh) (p : Value) (w : World) (K : TF sh.cks Prop) : Prop := tex sh.cks K fun vs k => (Instr.loadAt t p).run P w = .ok (sh.mk vs) w ∧ k
/-- A load that comes to the same in every world that meets B. -/
def gLoadB (P : Program) (t : TypeId) (sh : Sh) (p : Value) (B : World → Prop) (K : TF sh.cks Prop) : Prop := tex sh.cks K fun vs k => (∀ w, B w → (Instr.loadAt t p).run P w = .ok (sh.mk vs) w) ∧ k
def gStore (P : Program) (t : TypeId) (p v : Value) (w : World) (K : World → Prop) : Prop := gUnit P (Instr.storeAt t p v) w K
def gIdx (P : Program) (t : TypeId) (x i : Value) (K : Addr → Prop) : Prop := gPtr P (Instr.indexAt t x i) K
def gFld (P : Program) (t : TypeId) (x : Value) (f : Nat) (K : Addr → Prop) : Prop := gPtr P (Instr.fieldAt t x f) K
def gNil (p : Option Addr) (K : Addr → Prop) : Prop := ∃ ad, p = some ad ∧ K ad
def gSlice (P : Program) (t : TypeId) (x : Value) (lo hi mx : Option Value) (K : Value → Prop) : Prop := gVal P (Instr.sliceAt t x lo hi mx) K
def gSliceS (P : Program) (t : TypeId) (x : Value) (lo hi mx : Option Value) (K : ByteArray → Prop) : Prop := gPure P (.part (.one .str)) (Instr.sliceAt t x lo hi mx) K
def gIndex (P : Program) (t : TypeId) (sh : Sh) (x i : Value) (K : TF sh.cks Prop) : Prop := gPure P sh (Instr.index t x i) K
def gField (P : Program) (t : TypeId) (sh : Sh) (x : Value) (f : Nat) (K : TF sh.cks Prop) : Prop := gPure P sh (Instr.field t x f) K
def gBox (P : Program) (t : TypeId) (v : Value) (w : World) (K : Addr → World → Prop) : Prop := gPtrW P (Instr.box t v) w K
def gAlloc (P : Program) (t : TypeId) (w : World) (K : Addr → World → Prop) : Prop := gPtrW P (Instr.alloc t true (.tuple #[])) w K
def gMake (P : Program) (t : TypeId) (l c : Value) (w : World) (K : Value → World → Prop) : Prop := gValW P (Instr.makeSlice t l c) w K
def gLit (P : Program) (t : TypeId) (n : Nat) (parts : Array (Nat × Value)) (w : World) (K : Value → World → Prop) : Prop := gValW P (Instr.buildSlice t n parts) w K
def gLen (P : Program) (t : TypeId) (x : Value) (K : Nat → Prop) : Prop := gNat P (Builtin.len_ #[t] 0 #[x]) K
def gCap (P : Program) (t : TypeId) (x : Value) (K : Nat → Prop) : Prop := gNat P (Builtin.cap_ #[t] 0 #[x]) K
def gApp (P : Program) (ts : Array TypeId) (t : TypeId) (args : Array Value) (w : World) (K : Value → World → Prop) : Prop := gValW P (Builtin.append_ ts t args) w K
def gCopy (P : Program) (ts : Array TypeId) (t : TypeId) (args : Array Value) (w : World) (K : Int → World → Prop) : Prop := gRun P (.part (.one (.int .i64))) (Builtin.copy_ ts t args) w K
def gConv (P : Program) (s d : TypeId) (sh : Sh) (x : Value) (w : World) (K : TF sh.cks (World → Prop)) : Prop := gRun P sh (convert s d x) w K
def gBin (P : Program) (op : BinOp) (t : TypeId) (sh : Sh) (x y : Value) (K : TF sh.cks Prop) : Prop := gPure P sh (binOp op t x y) K
/-- Two values that are no numbers and no strings, held against each other. -/
def gEq (P : Program) (op : BinOp) (t : TypeId) (x y : Value) (K : Bool → Prop) : Prop :=
  ∃ b : Bool, (∀ cx cy w, (eqGuard op t cx cy x y).run P w = .ok () w ∧ (binOp op t x y).run P w = .ok (.bool b) w) ∧ K b
def retOk (sh : Sh) (K : TF sh.cks (World → Prop)) (e : Ending) (w : World) : Prop := tex sh.cks K fun vs k => e = .returned (sh.mk vs) ∧ k w
def gCall (P : Program) (f : FuncId) (sh : Sh) (args : Array Value) (w : World) (K : TF sh.cks (World → Prop)) : Prop := Calls P f args w (retOk sh K)
def callOk (P : Program) (f : FuncId) : Bool := match P.funcs[f]? with
  | some fn => fn.body.isSome && !(fn.name == "runtime.NumGoroutine")
  | none => false
def gCallV (P : Program) (fv : Value) (sh : Sh) (args : Array Value) (w : World) (K : TF sh.cks (World → Prop)) : Prop :=
  ∃ f first cap, fv = .func (.func f) first cap ∧ callOk P f = true ∧ gCall P f sh (first ++ args ++ cap) w K
/-- Any other operation, as the model runs it. -/
def gAny (P : Program) (sh : Sh) (s : Sem Next) (w : World) (K : TF sh.cks (World → Prop)) : Prop :=
  tex sh.cks K fun vs k => ∃ w', (s.run P w = .ok (.value (sh.mk vs)) w') ∧ k w'
def gAnyU (P : Program) (s : Sem Next) (w : World) (K : World → Prop) : Prop := ∃ w', s.run P w = .ok .skip w' ∧ K w'

/-- A value of one cell (a slice, a function, ..). -/
def gOne (v : Value) (K : Prop) : Prop := v.cells = #[v] ∧ K

/-! ### Values that operands alone decide -/
def iAnd (k : IntKind) (a b : Int) : Int := k.wrap (BitVec.ofInt k.bits a &&& BitVec.ofInt k.bits b).toNat
def iOr (k : IntKind) (a b : Int) : Int := k.wrap (BitVec.ofInt k.bits a ||| BitVec.ofInt k.bits b).toNat
def iXor (k : IntKind) (a b : Int) : Int := k.wrap (BitVec.ofInt k.bits a ^^^ BitVec.ofInt k.bits b).toNat
def iAndNot (k : IntKind) (a b : Int) : Int := k.wrap (BitVec.ofInt k.bits a &&& ~~~(BitVec.ofInt k.bits b)).toNat
def iShl (k : IntKind) (a b : Int) : Int := k.wrap (a * 2 ^ (min b.toNat k.bits))
def iShr (k : IntKind) (a b : Int) : Int := a.fdiv (2 ^ (min b.toNat k.bits))
def isConst : Operand → Bool
  | .const _ => true
  | _ => false
def binI (op : BinOp) (k : IntKind) (a b : Int) : Option Value :=
  match op with
  | .add => some (.int k (k.wrap (a + b)))
  | .sub => some (.int k (k.wrap (a - b)))
  | .mul => some (.int k (k.wrap (a * b)))
  | .and => some (.int k (iAnd k a b))
  | .or => some (.int k (iOr k a b))
  | .xor => some (.int k (iXor k a b))
  | .andNot => some (.int k (iAndNot k a b))
  | .eql => some (.bool (a == b))
  | .neq => some (.bool (a != b))
  | .lss => some (.bool (a < b))
  | .leq => some (.bool (a ≤ b))
  | .gtr => some (.bool (a > b))
  | .geq => some (.bool (a ≥ b))
  | _ => none
/-- Division and shifts by a constant. -/
def binC (op : BinOp) (k : IntKind) (a b : Int) : Option Value :=
  match op with
  | .quo => match Int.decEq b 0 with | isTrue _ => none | isFalse _ => some (.int k (k.wrap (a.tdiv b)))
  | .rem => match Int.decEq b 0 with | isTrue _ => none | isFalse _ => some (.int k (a.tmod b))
  | .shl => match Int.decLt b 0 with | isTrue _ => none | isFalse _ => some (.int k (iShl k a b))
  | .shr => match Int.decLt b 0 with | isTrue _ => none | isFalse _ => some (.int k (iShr k a b))
  | _ => none
def binS (op : BinOp) (a b : ByteArray) : Option Value :=
  match op with
  | .eql => some (.bool (a.toList == b.toList))
  | .neq => some (.bool (!(a.toList == b.toList)))
  | .lss => some (.bool (Op.bytesLess a.toList b.toList))
  | .leq => some (.bool (Op.bytesLess a.toList b.toList || a.toList == b.toList))
  | .gtr => some (.bool (!(Op.bytesLess a.toList b.toList || a.toList == b.toList)))
  | .geq => some (.bool (!(Op.bytesLess a.toList b.toList)))
  | _ => none
/-- Is it decided by its operands' constructors (c: the second is a constant)? -/
def binV (op : BinOp) (c : Bool) (x y : Value) : Option Value :=
  match x, y with
  | .int k a, .int k' b => match op with
    | .quo | .rem => match ikEq k k' with | true => (match c with | true => binC op k a b | false => none) | false => none
    | .shl | .shr => match c with | true => binC op k a b | false => none
    | op => match ikEq k k' with | true => binI op k a b | false => none
  | .string a, .string b => binS op a b
  | _, _ => none
def unV (op : UnOp) (x : Value) : Option Value :=
  match op, x with
  | .neg, .int k n => some (.int k (k.wrap (0 - n)))
  | .xor, .int k n => some (.int k (iXor k (if k.signed then -1 else k.max) n))
  | .not, .bool b => some (.bool !b)
  | _, _ => none
def maxV : Value → List Value → Option Value
  | x, [] => some x
  | .int k x, .int _ y :: r => maxV (.int k (if y > x then y else x)) r
  | _, _ => none
def minV : Value → List Value → Option Value
  | x, [] => some x
  | .int k x, .int _ y :: r => minV (.int k (if y < x then y else x)) r
  | _, _ => none

theorem run_binI {P : Program} {op : BinOp} {k : IntKind} {a b : Int} {v : Value} (h : binI op k a b = some v) (t : TypeId) (w : World) : (binOp op t (.int k a) (.int k b)).run P w = .ok v w := by
  cases op <;> simp_all [binI, binOp, Op.intArith, Op.intBits, Op.intCmp, iAnd, iOr, iXor, iAndNot, Sem.run, pure]
theorem run_binC {P : Program} {op : BinOp} {k k' : IntKind} {a b : Int} {v : Value} (hk : (op = .quo ∨ op = .rem) → k = k') (h : binC op k a b = some v) (t : TypeId) (w : World) : (binOp op t (.int k a) (.int k' b)).run P w = .ok v w := by
  cases op <;> simp only [binC] at h <;> try (cases h; done)
  all_goals (split at h; · cases h)
  all_goals rename_i hb _
  all_goals (injection h with h; subst h)
  · obtain rfl := hk (.inl rfl); simp [binOp, Op.intDiv, hb, Sem.run, pure]
  · obtain rfl := hk (.inr rfl); simp [binOp, Op.intDiv, hb, Sem.run, pure]
  · simp [binOp, Op.shift, hb, iShl, Sem.run, pure]
  · simp [binOp, Op.shift, hb, iShr, Sem.run, pure]
theorem run_binS {P : Program} {op : BinOp} {a b : ByteArray} {v : Value} (h : binS op a b = some v) (t : TypeId) (w : World) : (binOp op t (.string a) (.string b)).run P w = .ok v w := by
  cases op <;> simp_all [binS, binOp, Op.stringOp, Sem.run, pure]
theorem run_binV {P : Program} {op : BinOp} {c : Bool} {x y v : Value} (h : binV op c x y = some v) (t : TypeId) (w : World) : (binOp op t x y).run P w = .ok v w := by
  unfold binV at h
  split at h
  · rename_i k a k' b
    split at h
    · split at h
      · rename_i hk; obtain rfl := ikEq_eq hk
        split at h
        · exact run_binC (fun _ => rfl) h t w
        · cases h
      · cases h
    · split at h
      · rename_i hk; obtain rfl := ikEq_eq hk
        split at h
        · exact run_binC (fun _ => rfl) h t w
        · cases h
      · cases h
    · split at h
      · exact run_binC (fun h => by rcases h with h | h <;> cases h) h t w
      · cases h
    · split at h
      · exact run_binC (fun h => by rcases h with h | h <;> cases h) h t w
      · cases h
    · split at h
      · rename_i hk; obtain rfl := ikEq_eq hk
        exact run_binI h t w
      · cases h
  · exact run_binS h t w
  · cases h
theorem run_eqGuard {P : Program} {op : BinOp} {c : Bool} {x y v : Value} (h : binV op c x y = some v) (t : TypeId) (a b : Operand) (w : World) : (eqGuard op t a b x y).run P w = .ok () w := by
  unfold binV at h
  unfold eqGuard
  split at h <;> (try cases h) <;> cases op <;> simp [Sem.run, pure, bind, Sem.bind]
theorem run_unV {P : Program} {op : UnOp} {x v : Value} (h : unV op x = some v) (w : World) : (Op.unary op x).run P w = .ok v w := by
  cases op <;> cases x <;> simp_all [unV, Op.unary, Op.intArith, Op.intBits, iXor, Sem.run, pure]
theorem run_maxV {P : Program} : ∀ {l : List Value} {x v : Value}, maxV x l = some v → ∀ w, (l.foldlM Builtin.max2 x).run P w = .ok v w
  | [], x, v, h, w => by simp [maxV] at h; subst h; simp [Sem.run, pure]
  | y :: r, x, v, h, w => by
    cases x <;> cases y <;> simp only [maxV] at h <;> try (cases h; done)
    simp only [List.foldlM_cons, Sem.run_bind, Builtin.max2]
    exact run_maxV h w
theorem run_minV {P : Program} : ∀ {l : List Value} {x v : Value}, minV x l = some v → ∀ w, (l.foldlM Builtin.min2 x).run P w = .ok v w
  | [], x, v, h, w => by simp [minV] at h; subst h; simp [Sem.run, pure]
  | y :: r, x, v, h, w => by
    cases x <;> cases y <;> simp only [minV] at h <;> try (cases h; done)
    simp only [List.foldlM_cons, Sem.run_bind, Builtin.min2]
    exact run_minV h w
end Go.Proofs.YtcjopcplhabgkaaV
