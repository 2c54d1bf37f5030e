import Derived.Tactics
import Derived.WalkKit
import Derived.KernelRfl
import Derived.OrdersHeld
import Derived.Scope
set_option linter.unusedVariables false
set_option linter.unusedSimpArgs false
namespace Go.Proofs.YtabchipjjghhnaaGreatDoorV
section
open Go
theorem eJ:type_of%@List.length_take:=@List.length_take
theorem LW:type_of%@Array.length_toList:=@Array.length_toList
theorem fE:type_of%@List.length_map:=@List.length_map
theorem cJ:type_of%@Nat.le_refl:=@Nat.le_refl
theorem K6:type_of%@Nat.mul_one:=@Nat.mul_one
theorem qac:type_of%@Nat.zero_mul:=@Nat.zero_mul
theorem Z9:type_of%@Nat.sub_zero:=@Nat.sub_zero
theorem A4:type_of%@Nat.mul_comm:=@Nat.mul_comm
theorem qih:type_of%@Nat.mul_le_mul_left:=@Nat.mul_le_mul_left
theorem rM:type_of%@Int.natCast_mul:=@Int.natCast_mul
theorem dH:type_of%@Int.toNat_natCast:=@Int.toNat_natCast
theorem qfP:type_of%@Array.eq_empty_of_size_eq_zero:=@Array.eq_empty_of_size_eq_zero
theorem sF:type_of%@List.length_replicate:=@List.length_replicate
theorem xI:type_of%@List.eq_nil_of_length_eq_zero:=@List.eq_nil_of_length_eq_zero
theorem gQ:type_of%@List.map_append:=@List.map_append
theorem oL:type_of%@List.drop_zero:=@List.drop_zero
theorem nJ:type_of%@Nat.le_trans:=@Nat.le_trans
theorem LX:type_of%@List.getElem_map:=@List.getElem_map
theorem zM:type_of%@Nat.mod_eq_of_lt:=@Nat.mod_eq_of_lt
theorem GH:type_of%@Nat.xor_lt_two_pow:=@Nat.xor_lt_two_pow
theorem LY:type_of%@Int.eq_ofNat_of_zero_le:=@Int.eq_ofNat_of_zero_le
theorem vU:type_of%@Nat.min_eq_left:=@Nat.min_eq_left
theorem QM:type_of%@Int.natCast_emod:=@Int.natCast_emod
theorem iV:type_of%@List.take_succ_eq_append_getElem:=@List.take_succ_eq_append_getElem
theorem LZ:type_of%@List.flatten_append:=@List.flatten_append
theorem MA:type_of%@List.take_append_drop:=@List.take_append_drop
theorem bD:type_of%@List.length_append:=@List.length_append
theorem bW:type_of%@Nat.zero_le:=@Nat.zero_le
theorem gY:type_of%@List.append_assoc:=@List.append_assoc
theorem qU:type_of%@List.take_length:=@List.take_length
theorem iO:type_of%@List.length_cons:=@List.length_cons
theorem GI:type_of%@Nat.pow_le_pow_right:=@Nat.pow_le_pow_right
theorem ZE:type_of%@Int.emod_eq_of_lt:=@Int.emod_eq_of_lt
theorem DN:type_of%@Int.mul_nonneg:=@Int.mul_nonneg
theorem GJ:type_of%@Int.natCast_nonneg:=@Int.natCast_nonneg
theorem MB:type_of%@Nat.add_sub_cancel_left:=@Nat.add_sub_cancel_left
theorem cQ:type_of%@List.length_drop:=@List.length_drop
theorem ZF:type_of%@List.take_succ_cons:=@List.take_succ_cons
theorem gI:type_of%@List.take_of_length_le:=@List.take_of_length_le
theorem tM:type_of%@List.mem_of_getElem?:=@List.mem_of_getElem?
theorem T7:type_of%@List.getElem?_cons_succ:=@List.getElem?_cons_succ
theorem qbo:type_of%@Nat.le_of_ble_eq_true:=@Nat.le_of_ble_eq_true
theorem zN:type_of%@List.drop_of_length_le:=@List.drop_of_length_le
theorem iW:type_of%@List.append_nil:=@List.append_nil
theorem sG:type_of%@List.nil_append:=@List.nil_append
theorem lH:type_of%@List.getD_eq_getElem?_getD:=@List.getD_eq_getElem?_getD
theorem T8:type_of%@List.getElem?_append_left:=@List.getElem?_append_left
theorem T9:type_of%@List.getElem?_append_right:=@List.getElem?_append_right
theorem kR:type_of%@Nat.mul_le_mul_right:=@Nat.mul_le_mul_right
theorem mJ:type_of%@Nat.succ_mul:=@Nat.succ_mul
theorem QN:type_of%@List.flatten_cons:=@List.flatten_cons
theorem vV:type_of%@Nat.zero_add:=@Nat.zero_add
theorem MC:type_of%@List.take_zero:=@List.take_zero
theorem mK:type_of%@Bool.and_eq_true:=@Bool.and_eq_true
theorem DO:type_of%@Nat.eq_of_beq_eq_true:=@Nat.eq_of_beq_eq_true
theorem GK:type_of%@List.drop_eq_getElem_cons:=@List.drop_eq_getElem_cons
theorem jD:type_of%@List.getElem?_map:=@List.getElem?_map
theorem vW:type_of%@List.getElem?_take:=@List.getElem?_take
theorem M8:type_of%@Array.getElem?_toList:=@Array.getElem?_toList
theorem fR:type_of%@List.getElem?_eq_getElem:=@List.getElem?_eq_getElem
theorem QO:type_of%@List.getElem?_drop:=@List.getElem?_drop
theorem M9:type_of%@Nat.add_mul:=@Nat.add_mul
theorem AI:type_of%@Nat.one_mul:=@Nat.one_mul
theorem qbp:type_of%@List.ext_getElem?:=@List.ext_getElem?
theorem I4:type_of%@List.getElem?_eq_none:=@List.getElem?_eq_none
theorem AJ:type_of%@List.length_set:=@List.length_set
theorem lL:type_of%@List.mem_cons_of_mem:=@List.mem_cons_of_mem
theorem kH:type_of%@List.getElem_mem:=@List.getElem_mem
theorem U0:type_of%@List.map_cons:=@List.map_cons
theorem I5:type_of%@List.mem_cons:=@List.mem_cons
theorem GL:type_of%@List.not_mem_nil:=@List.not_mem_nil
theorem ZG:type_of%@List.getElem?_set:=@List.getElem?_set
theorem AK:type_of%@List.mem_of_mem_take:=@List.mem_of_mem_take
theorem U1:type_of%@Nat.xor_assoc:=@Nat.xor_assoc
theorem DP:type_of%@List.set_append_right:=@List.set_append_right
theorem pH:type_of%@Nat.sub_self:=@Nat.sub_self
theorem DQ:type_of%@List.replicate_succ:=@List.replicate_succ
theorem MD:type_of%@List.set_cons_zero:=@List.set_cons_zero
theorem ZH:type_of%@List.map_replicate:=@List.map_replicate
theorem DR:type_of%@List.map_set:=@List.map_set
theorem AM:type_of%@List.replicate_zero:=@List.replicate_zero
theorem ZI:type_of%@ByteArray.toList_eq:=@ByteArray.toList_eq
theorem ZJ:type_of%@List.reverse_append:=@List.reverse_append
theorem QP:type_of%@Option.map_eq_some_iff:=@Option.map_eq_some_iff
theorem sH:type_of%@Int.tdiv_eq_ediv_of_nonneg:=@Int.tdiv_eq_ediv_of_nonneg
theorem ME:type_of%@List.length_nil:=@List.length_nil
theorem ZK:type_of%@Nat.le_mul_of_pos_right:=@Nat.le_mul_of_pos_right
theorem N0:type_of%@Int.tmod_eq_emod_of_nonneg:=@Int.tmod_eq_emod_of_nonneg
theorem U2:type_of%@List.drop_drop:=@List.drop_drop
theorem qbq:type_of%@List.mem_append_left:=@List.mem_append_left
theorem N1:type_of%@List.length_singleton:=@List.length_singleton
theorem I6:type_of%@Nat.lt_or_ge:=@Nat.lt_or_ge
theorem QQ:type_of%@Nat.div_eq_of_lt:=@Nat.div_eq_of_lt
theorem ZL:type_of%@Nat.div_add_mod:=@Nat.div_add_mod
theorem xJ:type_of%@List.mem_cons_self:=@List.mem_cons_self
theorem U3:type_of%@Nat.mul_le_mul:=@Nat.mul_le_mul
theorem QS:type_of%@Int.ediv_nonneg:=@Int.ediv_nonneg
theorem ZM:type_of%@Int.ediv_le_self:=@Int.ediv_le_self
theorem qfQ:type_of%@Option.bind_eq_some_iff:=@Option.bind_eq_some_iff
theorem qfR:type_of%@List.perm_append_singleton:=@List.perm_append_singleton
theorem DM:type_of%@List.perm_append_comm:=@List.perm_append_comm
abbrev aB(n:Int):Value:=.int .i64 n
abbrev aH(a:Addr):Value:=.pointer (some a)
abbrev bR:Value:=.slice none 0 0
abbrev aW(v:Value):Ending:=.returned v
abbrev bP(a:Array Value):Ending:=.returned (.tuple a)
abbrev bV:=Nat→Value
def upd(σ:bV)(d:Nat)(v:Value):bV:=fun t=>match Nat.beq t d with|true=>v|false=>σ t
def AW(σ:bV):Option Nat→Value→bV
 |some d,v=>upd σ d v
 |none,_=>σ
def jE(σ:bV):Operand→Value
 |.tmp t=>σ t
 |.const v=>v
 |.global g=>.pointer (some ⟨g,0,none⟩)
 |.func f=>.func (.func f) #[] #[]
inductive Ck where
 |int (k:IntKind)|bool|str|ptr|agg|val
@[reducible] def Ck.T:Ck→Type
 |.int _=>Int|.bool=>Bool|.str=>ByteArray|.ptr=>Option Addr|.agg=>Array Value|.val=>Value
def Ck.inj:(c:Ck)→c.T→Value
 |.int k,n=>.int k n
 |.bool,b=>.bool b
 |.str,s=>.string s
 |.ptr,a=>.pointer a
 |.agg,cs=>.agg cs
 |.val,v=>v
def qkE:IntKind→IntKind→Bool
 |.i8,.i8|.i16,.i16|.i32,.i32|.i64,.i64|.u8,.u8|.u16,.u16|.u32,.u32|.u64,.u64=>true
 |_,_=>false
theorem JX{a b:IntKind}(h:qkE a b=true):a=b:=by cases a<;>cases b<;>simp_all [qkE]
def Ck.get:(c:Ck)→Value→Option c.T
 |.int k,.int j n=>match qkE k j with|true=>some n|false=>none
 |.bool,.bool b=>some b
 |.str,.string s=>some s
 |.ptr,.pointer a=>some a
 |.agg,.agg cs=>some cs
 |.val,v=>some v
 |_,_=>none
theorem Ck.get_inj{c:Ck}{v:Value}{x:c.T}(h:c.get v=some x):v=c.inj x:=by
 cases c<;>cases v<;>simp_all [Ck.get,Ck.inj]
 split at h
 ·rename_i hk;exact⟨(JX hk).symm,by simpa using h⟩
 ·cases h
@[reducible] def TF:List Ck→Type→Type
 |[],α=>α
 |c::r,α=>c.T→TF r α
def Z4{α:Type}:(cs:List Ck)→(List Value→α)→TF cs α
 |[],f=>f []
 |c::r,f=>fun x=>Z4 r fun vs=>f (c.inj x::vs)
def qfz:(cs:List Ck)→(List Value→Prop)→Prop
 |[],p=>p []
 |c::r,p=>∀x:c.T,qfz r fun vs=>p (c.inj x::vs)
def vR{α:Type}(d:α):(cs:List Ck)→TF cs α→List Value→α
 |[],f,_=>f
 |c::r,f,v::vs=>match c.get v with|some x=>vR d r (f x) vs|none=>d
 |_::_,_,[]=>d
def tex{α:Type}:(cs:List Ck)→TF cs α→(List Value→α→Prop)→Prop
 |[],k,p=>p [] k
 |c::r,k,p=>∃x:c.T,tex r (k x) fun vs k=>p (c.inj x::vs) k
theorem jS{α:Type}{p:List Value→α→Prop}:∀{cs:List Ck} {f:List Value→α},tex cs (Z4 cs f) p→∃vs,p vs (f vs)
 |[],_,h=>⟨[],h⟩
 |_::_,_,⟨x,h⟩=>let⟨vs,h⟩:=jS h;⟨_::vs,h⟩
theorem qju{α:Type}{d:α}:∀{cs:List Ck} {f:TF cs α} {vs:List Value} {P:α→Prop},(P (vR d cs f vs))→¬P d→∀{q:List Value→Prop},(qfz cs q→vs.length=cs.length→q vs)
 |[],_,[],_,_,_,q,h=>fun _=>h
 |[],_,_::_,_,_,_,_,_=>fun h=>by simp at h
 |_::_,_,[],_,_,_,_,_=>fun h=>by simp at h
 |c::r,f,v::vs,P,h,hd,q,hq=>by
  intro hl
  simp only[vR]at h
  split at h
  ·rename_i x hx
   rw[Ck.get_inj hx]
   exact qju (P:=P) h hd (hq x) (by simpa using hl)
  ·exact absurd h hd
inductive Part where
 |one (c:Ck)|agg (cs:List Ck)
inductive Sh where
 |part (p:Part)|tup (ps:List Part)
def Part.cks:Part→List Ck
 |.one c=>[c]
 |.agg cs=>cs
def Part.mk:Part→List Value→Value
 |.one _,v::_=>v
 |.one _,[]=>undef
 |.agg _,vs=>.agg vs.toArray
def qeW:List Part→List Ck
 |[]=>[]
 |p::ps=>p.cks++qeW ps
def qjd:List Part→List Value→List Value
 |[],_=>[]
 |p::ps,vs=>p.mk (vs.take p.cks.length)::qjd ps (vs.drop p.cks.length)
def Sh.cks:Sh→List Ck
 |.part p=>p.cks
 |.tup ps=>qeW ps
def Sh.mk:Sh→List Value→Value
 |.part p,vs=>p.mk vs
 |.tup ps,vs=>.tuple (qjd ps vs).toArray
def qmi(P:Program):Nat→TypeId→List Ck
 |0,_=>[.val]
 |n+1,t=>match P.underlying t with
  |some (.int k)=>[.int k]
  |some .bool=>[.bool]
  |some .string=>[.str]
  |some (.pointer _)=>[.ptr]
  |some (.struct j)=>j.toList.flatMap fun f=>qmi P n f.type
  |some (.array m e)=>(List.replicate m (qmi P n e)).flatten
  |_=>[.val]
def DA(P:Program)(t:TypeId):Part:=match P.underlying t with
 |some (.int k)=>.one (.int k)
 |some .bool=>.one .bool
 |some .string=>.one .str
 |some (.pointer _)=>.one .ptr
 |some (.struct _)|some (.array _ _)=>match(P.info? t)with
  |some i=>match Nat.ble i.size 16 with
   |true=>.agg (qmi P 8 t)
   |false=>.one .agg
  |none=>.one .agg
 |_=>.one .val
def xA(P:Program)(t:TypeId):Sh:=match P.underlying t with
 |some (.tuple ts)=>.tup (ts.toList.map (DA P))
 |_=>.part (DA P t)
abbrev dQ(k:IntKind):Sh:=.part (.one (.int k))
abbrev bA:Sh:=dQ .i64
abbrev kG:Sh:=.part (.one .bool)
abbrev P9:Sh:=.part (.one .str)
abbrev jN:Sh:=.part (.one .ptr)
abbrev shA:Sh:=.part (.one .agg)
abbrev dM:Sh:=.part (.one .val)
abbrev jO:Sh:=.tup []
def i8(n:Int):Int:=IntKind.wrap .i8 n
def i16(n:Int):Int:=IntKind.wrap .i16 n
def lT(n:Int):Int:=IntKind.wrap .i32 n
def i64(n:Int):Int:=IntKind.wrap .i64 n
def u8(n:Int):Int:=IntKind.wrap .u8 n
def u16(n:Int):Int:=IntKind.wrap .u16 n
def vX(n:Int):Int:=IntKind.wrap .u32 n
def gD(n:Int):Int:=IntKind.wrap .u64 n
def aQ(b:Bool)(A B:Prop):Prop:=match b with|true=>A|false=>B
def qtf(P:Program)(j:Sh)(s:Sem Value)(w:World)(K:TF j.cks (World→Prop)):Prop:=
 tex j.cks K fun vs k=>∃w',s.run P w=.ok (j.mk vs) w'∧k w'
def qiN(P:Program)(j:Sh)(s:Sem Value)(K:TF j.cks Prop):Prop:=
 tex j.cks K fun vs k=>(∀w,s.run P w=.ok (j.mk vs) w)∧k
def qte(P:Program)(s:Sem Value)(K:Addr→Prop):Prop:=∃ad,(∀w,s.run P w=.ok (.pointer (some ad)) w)∧K ad
def qqV(P:Program)(s:Sem Value)(w:World)(K:Addr→World→Prop):Prop:=∃ad w',s.run P w=.ok (.pointer (some ad)) w'∧K ad w'
def qud(P:Program)(s:Sem Value)(K:Value→Prop):Prop:=∃v,(∀w,s.run P w=.ok v w)∧K v
def qiP(P:Program)(s:Sem Value)(w:World)(K:Value→World→Prop):Prop:=∃v w',s.run P w=.ok v w'∧K v w'
def qtc(P:Program)(s:Sem Value)(K:Nat→Prop):Prop:=∃n:Nat,(∀w,s.run P w=.ok (.int .i64 n) w)∧K n
def qtd(P:Program)(s:Sem Value)(w:World)(K:Nat→World→Prop):Prop:=∃(n:Nat) (w':World),s.run P w=.ok (.int .i64 n) w'∧K n w'
def qtg(P:Program)(s:Sem Unit)(w:World)(K:World→Prop):Prop:=∃w',s.run P w=.ok () w'∧K w'
def aF(P:Program)(t:TypeId)(j:Sh)(p:Value)(w:World)(K:TF j.cks Prop):Prop:=tex j.cks K fun vs k=>(Instr.loadAt t p).run P w=.ok (j.mk vs) w∧k
def aI(P:Program)(t:TypeId)(j:Sh)(p:Value)(B:World→Prop)(K:TF j.cks Prop):Prop:=tex j.cks K fun vs k=>(∀w,B w→(Instr.loadAt t p).run P w=.ok (j.mk vs) w)∧k
def aL(P:Program)(t:TypeId)(p v:Value)(w:World)(K:World→Prop):Prop:=qtg P (Instr.storeAt t p v) w K
def aX(P:Program)(t:TypeId)(x i:Value)(K:Addr→Prop):Prop:=qte P (Instr.indexAt t x i) K
def qub(P:Program)(t:TypeId)(x:Value)(f:Nat)(K:Addr→Prop):Prop:=qte P (Instr.fieldAt t x f) K
def aS(p:Option Addr)(K:Addr→Prop):Prop:=∃ad,p=some ad∧K ad
def cH(P:Program)(t:TypeId)(x:Value)(lo hi mx:Option Value)(K:Value→Prop):Prop:=qud P (Instr.sliceAt t x lo hi mx) K
def uG(P:Program)(t:TypeId)(x:Value)(lo hi mx:Option Value)(K:ByteArray→Prop):Prop:=qiN P (.part (.one .str)) (Instr.sliceAt t x lo hi mx) K
def xQ(P:Program)(t:TypeId)(j:Sh)(x i:Value)(K:TF j.cks Prop):Prop:=qiN P j (Instr.index t x i) K
def qrN(P:Program)(t:TypeId)(j:Sh)(x:Value)(f:Nat)(K:TF j.cks Prop):Prop:=qiN P j (Instr.field t x f) K
def kA(P:Program)(t:TypeId)(v:Value)(w:World)(K:Addr→World→Prop):Prop:=qqV P (Instr.box t v) w K
def cD(P:Program)(t:TypeId)(w:World)(K:Addr→World→Prop):Prop:=qqV P (Instr.alloc t true (.tuple #[])) w K
def mT(P:Program)(t:TypeId)(l c:Value)(w:World)(K:Value→World→Prop):Prop:=qiP P (Instr.makeSlice t l c) w K
def eG(P:Program)(t:TypeId)(n:Nat)(j:Array (Nat×Value))(w:World)(K:Value→World→Prop):Prop:=qiP P (Instr.buildSlice t n j) w K
def bC(P:Program)(t:TypeId)(x:Value)(K:Nat→Prop):Prop:=qtc P (Builtin.len_ #[t] 0 #[x]) K
def qrM(P:Program)(t:TypeId)(x:Value)(K:Nat→Prop):Prop:=qtc P (Builtin.cap_ #[t] 0 #[x]) K
def fV(P:Program)(ts:Array TypeId)(t:TypeId)(args:Array Value)(w:World)(K:Value→World→Prop):Prop:=qiP P (Builtin.append_ ts t args) w K
def AB(P:Program)(ts:Array TypeId)(t:TypeId)(args:Array Value)(w:World)(K:Int→World→Prop):Prop:=qtf P (.part (.one (.int .i64))) (Builtin.copy_ ts t args) w K
def tC(P:Program)(s d:TypeId)(j:Sh)(x:Value)(w:World)(K:TF j.cks (World→Prop)):Prop:=qtf P j (convert s d x) w K
def kY(P:Program)(op:BinOp)(t:TypeId)(j:Sh)(x y:Value)(K:TF j.cks Prop):Prop:=qiN P j (binOp op t x y) K
def AX(P:Program)(op:BinOp)(t:TypeId)(x y:Value)(K:Bool→Prop):Prop:=
 ∃b:Bool,(∀j q w,(eqGuard op t j q x y).run P w=.ok () w∧(binOp op t x y).run P w=.ok (.bool b) w)∧K b
def qe7(j:Sh)(K:TF j.cks (World→Prop))(e:Ending)(w:World):Prop:=tex j.cks K fun vs k=>e=.returned (j.mk vs)∧k w
def aE(P:Program)(f:FuncId)(j:Sh)(args:Array Value)(w:World)(K:TF j.cks (World→Prop)):Prop:=Calls P f args w (qe7 j K)
def zP(P:Program)(f:FuncId):Bool:=match P.funcs[f]? with
 |some fn=>fn.body.isSome&& !(fn.name== "runtime.NumGoroutine")
 |none=>false
def iB(P:Program)(q:Value)(j:Sh)(args:Array Value)(w:World)(K:TF j.cks (World→Prop)):Prop:=
 ∃f first cap,q=.func (.func f) first cap∧zP P f=true∧aE P f j (first++args++cap) w K
def QW(P:Program)(j:Sh)(s:Sem Next)(w:World)(K:TF j.cks (World→Prop)):Prop:=
 tex j.cks K fun vs k=>∃w',(s.run P w=.ok (.value (j.mk vs)) w')∧k w'
def qiK(P:Program)(s:Sem Next)(w:World)(K:World→Prop):Prop:=∃w',s.run P w=.ok .skip w'∧K w'
def uF(v:Value)(K:Prop):Prop:=v.cells= #[v]∧K
def xS(k:IntKind)(a b:Int):Int:=k.wrap (BitVec.ofInt k.bits a&&&BitVec.ofInt k.bits b).toNat
def L3(k:IntKind)(a b:Int):Int:=k.wrap (BitVec.ofInt k.bits a|||BitVec.ofInt k.bits b).toNat
def lU(k:IntKind)(a b:Int):Int:=k.wrap (BitVec.ofInt k.bits a^^^BitVec.ofInt k.bits b).toNat
def qiT(k:IntKind)(a b:Int):Int:=k.wrap (BitVec.ofInt k.bits a&&& ~~~(BitVec.ofInt k.bits b)).toNat
def qY(k:IntKind)(a b:Int):Int:=k.wrap (a*2^(min b.toNat k.bits))
def cV(k:IntKind)(a b:Int):Int:=a.fdiv (2^(min b.toNat k.bits))
def qpK:Operand→Bool
 |.const _=>true
 |_=>false
def qrq(op:BinOp)(k:IntKind)(a b:Int):Option Value:=
 match op with
 |.add=>some (.int k (k.wrap (a+b)))
 |.sub=>some (.int k (k.wrap (a-b)))
 |.mul=>some (.int k (k.wrap (a*b)))
 |.and=>some (.int k (xS k a b))
 |.or=>some (.int k (L3 k a b))
 |.xor=>some (.int k (lU k a b))
 |.andNot=>some (.int k (qiT k a b))
 |.eql=>some (.bool (a==b))
 |.neq=>some (.bool (a !=b))
 |.lss=>some (.bool (a<b))
 |.leq=>some (.bool (a≤b))
 |.gtr=>some (.bool (a>b))
 |.geq=>some (.bool (a≥b))
 |_=>none
def qoZ(op:BinOp)(k:IntKind)(a b:Int):Option Value:=
 match op with
 |.quo=>match Int.decEq b 0 with|isTrue _=>none|isFalse _=>some (.int k (k.wrap (a.tdiv b)))
 |.rem=>match Int.decEq b 0 with|isTrue _=>none|isFalse _=>some (.int k (a.tmod b))
 |.shl=>match Int.decLt b 0 with|isTrue _=>none|isFalse _=>some (.int k (qY k a b))
 |.shr=>match Int.decLt b 0 with|isTrue _=>none|isFalse _=>some (.int k (cV k a b))
 |_=>none
def qrr(op:BinOp)(a b:ByteArray):Option Value:=
 match op with
 |.eql=>some (.bool (a.toList==b.toList))
 |.neq=>some (.bool (!(a.toList==b.toList)))
 |.lss=>some (.bool (Op.bytesLess a.toList b.toList))
 |.leq=>some (.bool (Op.bytesLess a.toList b.toList||a.toList==b.toList))
 |.gtr=>some (.bool (!(Op.bytesLess a.toList b.toList||a.toList==b.toList)))
 |.geq=>some (.bool (!(Op.bytesLess a.toList b.toList)))
 |_=>none
def qj4(op:BinOp)(c:Bool)(x y:Value):Option Value:=
 match x,y with
 |.int k a,.int j b=>match op with
  |.quo|.rem=>match qkE k j with|true=>(match c with|true=>qoZ op k a b|false=>none)|false=>none
  |.shl|.shr=>match c with|true=>qoZ op k a b|false=>none
  |op=>match qkE k j with|true=>qrq op k a b|false=>none
 |.string a,.string b=>qrr op a b
 |_,_=>none
def unV(op:UnOp)(x:Value):Option Value:=
 match op,x with
 |.neg,.int k n=>some (.int k (k.wrap (0-n)))
 |.xor,.int k n=>some (.int k (lU k (if k.signed then -1 else k.max) n))
 |.not,.bool b=>some (.bool !b)
 |_,_=>none
def qnb:Value→List Value→Option Value
 |x,[]=>some x
 |.int k x,.int _ y::r=>qnb (.int k (if y>x then y else x)) r
 |_,_=>none
def qnf:Value→List Value→Option Value
 |x,[]=>some x
 |.int k x,.int _ y::r=>qnf (.int k (if y<x then y else x)) r
 |_,_=>none
theorem qn1{P:Program}{op:BinOp}{k:IntKind}{a b:Int}{v:Value}(h:qrq op k a b=some v)(t:TypeId)(w:World):(binOp op t (.int k a) (.int k b)).run P w=.ok v w:=by
 cases op<;>simp_all [qrq,binOp,Op.intArith,Op.intBits,Op.intCmp,xS,L3,lU,qiT,Sem.run,pure]
theorem LI{P:Program}{op:BinOp}{k j:IntKind}{a b:Int}{v:Value}(hk:(op=.quo∨op=.rem)→k=j)(h:qoZ op k a b=some v)(t:TypeId)(w:World):(binOp op t (.int k a) (.int j b)).run P w=.ok v w:=by
 cases op<;>simp only[qoZ]at h<;>try(cases h;done)
 all_goals(split at h; · cases h)
 all_goals rename_i hb _
 all_goals(injection h with h;subst h)
 ·obtain rfl:=hk (.inl rfl);simp [binOp,Op.intDiv,hb,Sem.run,pure]
 ·obtain rfl:=hk (.inr rfl);simp [binOp,Op.intDiv,hb,Sem.run,pure]
 ·simp [binOp,Op.shift,hb,qY,Sem.run,pure]
 ·simp [binOp,Op.shift,hb,cV,Sem.run,pure]
theorem qn2{P:Program}{op:BinOp}{a b:ByteArray}{v:Value}(h:qrr op a b=some v)(t:TypeId)(w:World):(binOp op t (.string a) (.string b)).run P w=.ok v w:=by
 cases op<;>simp_all [qrr,binOp,Op.stringOp,Sem.run,pure]
theorem qfe{P:Program}{op:BinOp}{c:Bool}{x y v:Value}(h:qj4 op c x y=some v)(t:TypeId)(w:World):(binOp op t x y).run P w=.ok v w:=by
 unfold qj4 at h
 split at h
 ·rename_i k a j b
  split at h
  ·split at h
   ·rename_i hk;obtain rfl:=JX hk
    split at h
    ·exact LI (fun _=>rfl) h t w
    ·cases h
   ·cases h
  ·split at h
   ·rename_i hk;obtain rfl:=JX hk
    split at h
    ·exact LI (fun _=>rfl) h t w
    ·cases h
   ·cases h
  ·split at h
   ·exact LI (fun h=>by rcases h with h|h<;>cases h) h t w
   ·cases h
  ·split at h
   ·exact LI (fun h=>by rcases h with h|h<;>cases h) h t w
   ·cases h
  ·split at h
   ·rename_i hk;obtain rfl:=JX hk
    exact qn1 h t w
   ·cases h
 ·exact qn2 h t w
 ·cases h
theorem PW{P:Program}{op:BinOp}{c:Bool}{x y v:Value}(h:qj4 op c x y=some v)(t:TypeId)(a b:Operand)(w:World):(eqGuard op t a b x y).run P w=.ok () w:=by
 unfold qj4 at h
 unfold eqGuard
 split at h<;>(try cases h)<;>cases op<;>simp [Sem.run,pure,bind,Sem.bind]
theorem qqj{P:Program}{op:UnOp}{x v:Value}(h:unV op x=some v)(w:World):(Op.unary op x).run P w=.ok v w:=by
 cases op<;>cases x<;>simp_all [unV,Op.unary,Op.intArith,Op.intBits,lU,Sem.run,pure]
theorem qff{P:Program}:∀{l:List Value} {x v:Value},qnb x l=some v→∀w,(l.foldlM Builtin.max2 x).run P w=.ok v w
 |[],x,v,h,w=>by simp [qnb]at h;subst h;simp [Sem.run,pure]
 |y::r,x,v,h,w=>by
  cases x<;>cases y<;>simp only[qnb]at h<;>try(cases h;done)
  simp only[List.foldlM_cons,Sem.run_bind,Builtin.max2]
  exact qff h w
theorem qfg{P:Program}:∀{l:List Value} {x v:Value},qnf x l=some v→∀w,(l.foldlM Builtin.min2 x).run P w=.ok v w
 |[],x,v,h,w=>by simp [qnf]at h;subst h;simp [Sem.run,pure]
 |y::r,x,v,h,w=>by
  cases x<;>cases y<;>simp only[qnf]at h<;>try(cases h;done)
  simp only[List.foldlM_cons,Sem.run_bind,Builtin.min2]
  exact qfg h w
end
section
open Go
def pe{α:Type}(P:Program):Sem α→Option α
 |.pure a=>some a
 |.program k=>pe P (k P)
 |_=>none
theorem qn3{α:Type}{P:Program}:∀{s:Sem α} {a:α},pe P s=some a→∀w,s.run P w=.ok a w
 |.pure _,_,h,_=>by simp [pe]at h;subst h;rfl
 |.program k,_,h,w=>by simp only[pe]at h;exact qn3 h w
 |.load ..,_,h,_|.store ..,_,h,_|.new ..,_,h,_|.shape ..,_,h,_|.freeze ..,_,h,_|.frozen ..,_,h,_|.getObj ..,_,h,_|.setObj ..,_,h,_|.choose ..,_,h,_|.sys ..,_,h,_|.mark ..,_,h,_|.halt ..,_,h,_=>by simp [pe]at h
def peG(P:Program)(s:Sem Value)(K:Value→Prop):Prop:=match pe P s with|some v=>K v|none=>False
def qhA(v:Option Value)(K:Value→Prop):Prop:=match v with|some v=>K v|none=>False
def ql7(P:Program)(b:Builtin)(ts:Array TypeId)(j:TypeId)(args:Array Value)(K:Value→Prop):Prop:=
 match b,ts.toList,args.toList with
 |.len,[t],[x]=>match P.underlying t with
  |some (.slice _)=>bC P t x fun n=>K (.int .i64 n)
  |_=>peG P (Builtin.len_ ts j args) K
 |.cap,[t],[x]=>match P.underlying t with
  |some (.slice _)=>qrM P t x fun n=>K (.int .i64 n)
  |_=>peG P (Builtin.cap_ ts j args) K
 |.max,_,x::r=>qhA (qnb x r) K
 |.min,_,x::r=>qhA (qnf x r) K
 |_,_,_=>False
def ql6(P:Program)(b:Builtin)(ts:Array TypeId)(j:TypeId)(args:Array Value)(w:World)(K:Value→World→Prop):Prop:=
 match b with
 |.append=>fV P ts j args w K
 |.copy=>AB P ts j args w fun n w'=>K (.int .i64 n) w'
 |.len=>qtd P (Builtin.len_ ts j args) w fun n w'=>K (.int .i64 n) w'
 |.clear|.delete=>qiP P (match b with|.clear=>Builtin.clear_ ts j args|_=>Builtin.delete_ ts j args) w K
 |_=>False
def qit(P:Program)(c:Call)(j:TypeId)(σ:bV)(w:World)(K:Value→World→Prop):Prop:=
 match c.callee with
 |.builtin b=>ql6 P b c.argTypes j (c.args.map (jE σ)) w K
 |.value (.func f)=>match zP P f with
  |true=>aE P f (xA P j) (c.args.map (jE σ)) w (Z4 _ fun vs w'=>K ((xA P j).mk vs) w')
  |false=>QW P (xA P j) (do let d←resolve (jE σ) c j;invoke d.target d.args) w (Z4 _ fun vs w'=>K ((xA P j).mk vs) w')
 |.value x=>iB P (jE σ x) (xA P j) (c.args.map (jE σ)) w (Z4 _ fun vs w'=>K ((xA P j).mk vs) w')
 |.invoke .. =>False
def qrp(P:Program)(op:BinOp)(t:TypeId)(x y:Operand)(j:TypeId)(σ:bV)(K:Value→Prop):Prop:=
 match P.underlying t with
 |some (.int _)=>match op,qpK y with
  |.quo,false|.rem,false|.shl,false|.shr,false=>kY P op t (.part (DA P t)) (jE σ x) (jE σ y) (Z4 _ fun vs=>K ((DA P t).mk vs))
  |_,c=>qhA (qj4 op c (jE σ x) (jE σ y)) K
 |some .string=>match op with
  |.add=>kY P op t (.part (DA P t)) (jE σ x) (jE σ y) (Z4 _ fun vs=>K ((DA P t).mk vs))
  |_=>qhA (qj4 op false (jE σ x) (jE σ y)) K
 |_=>match op with
  |.eql|.neq=>AX P op t (jE σ x) (jE σ y) fun b=>K (.bool b)
  |_=>False
def jR(cells:Array Value)(off:Nat):List Value→Array Value
 |[]=>cells
 |c::r=>jR (cells.setIfInBounds off c) (off+1) r
def qay(j:Nat→Option (Nat×Nat×Bool))(cells:Array Value):List (Nat×Value)→(Value→Prop)→Prop
 |[],K=>K (.agg cells)
 |(i,v)::r,K=>match j i with
  |some (off,sz,true)=>match Nat.beq sz 1,Nat.ble (off+1) cells.size with
   |true,true=>uF v (qay j (cells.setIfInBounds off v) r K)
   |_,_=>False
  |some (off,sz,false)=>match Nat.beq v.cells.size sz,Nat.ble (off+v.cells.size) cells.size with
   |true,true=>qay j (jR cells off v.cells.toList) r K
   |_,_=>False
  |none=>False
def qqY(P:Program)(t:TypeId):Bool:=match DA P t with
 |.one .val=>true
 |_=>false
def LC(P:Program):List Field→Option (List (Nat×Nat×Bool))
 |[]=>some []
 |f::r=>match P.info? f.type,LC P r with
  |some i,some l=>some ((f.offset,i.size,qqY P f.type)::l)
  |_,_=>none
def atL{α:Type}:List α→Nat→Option α
 |[],_=>none
 |x::_,0=>some x
 |_::r,n+1=>atL r n
def qgt(P:Program)(t:TypeId)(j:List (Nat×Value))(K:Value→Prop):Prop:=match P.info? t with
 |some u=>match u.zero with
  |some z=>match P.underlying t with
   |some (.struct r)=>match LC P r.toList with
    |some l=>qay (atL l) z.cells j K
    |none=>False
   |some (.array _ e)=>match P.info? e with
    |some q=>qay (fun i=>some (i*q.size,q.size,qqY P e)) z.cells j K
    |none=>False
   |_=>False
  |none=>False
 |none=>False
def isQ(P:Program)(o:Oper):Bool:=
 match o.op with
 |.move _|.assign _|.indexAddr .. |.fieldAddr .. |.nilCheck _|.slice .. |.index .. |.field .. |.build .. |.extract .. |.makeFunc .. |.binOp .. |.unOp .. |.pick .. =>true
 |.convert s d _=>match P.underlying s,P.underlying d with
  |some (.int _),some (.int _)=>true
  |some .string,some .string=>true
  |_,_=>false
 |.call c=>match c.callee with
  |.builtin b=>match b with
   |.max|.min=>true
   |.len|.cap=>match P.underlying (c.argTypes.getD 0 0)with
    |some (.map _ _)|some (.chan _ _)=>false
    |_=>true
   |_=>false
  |_=>false
 |_=>false
def qvG(P:Program)(o:Oper)(σ:bV)(K:Value→Prop):Prop:=
 match o.op with
 |.move x|.assign x=>K (jE σ x)
 |.indexAddr t x i=>aX P t (jE σ x) (jE σ i) fun ad=>K (.pointer (some ad))
 |.fieldAddr t x f=>match jE σ x with
  |.pointer (some _)=>peG P (Instr.fieldAt t (jE σ x) f) K
  |_=>qub P t (jE σ x) f fun ad=>K (.pointer (some ad))
 |.nilCheck x=>match jE σ x with
  |.pointer p=>aS p fun ad=>K (.pointer (some ad))
  |_=>False
 |.slice t x lo hi mx=>match P.underlying t with
  |some .string=>uG P t (jE σ x) (lo.map (jE σ)) (hi.map (jE σ)) (mx.map (jE σ)) fun s=>K (.string s)
  |_=>cH P t (jE σ x) (lo.map (jE σ)) (hi.map (jE σ)) (mx.map (jE σ)) K
 |.index t x i=>xQ P t (xA P o.type) (jE σ x) (jE σ i) (Z4 _ fun vs=>K ((xA P o.type).mk vs))
 |.field t x f=>match DA P t with
  |.agg _=>peG P (Instr.field t (jE σ x) f) K
  |.one _=>qrN P t (xA P o.type) (jE σ x) f (Z4 _ fun vs=>K ((xA P o.type).mk vs))
 |.build t j=>qgt P t (j.toList.map fun p=>(p.1,jE σ p.2)) K
 |.extract x i=>peG P (Instr.extract (jE σ x) i) K
 |.makeFunc fn first cap=>K (.func fn (first.map (jE σ)) (cap.map (jE σ)))
 |.binOp op t x y _=>qrp P op t x y o.type σ K
 |.unOp op _ x=>qhA (unV op (jE σ x)) K
 |.convert s d x=>match P.underlying s,P.underlying d,jE σ x with
  |some _,some (.int k),.int _ n=>K (.int k (k.wrap n))
  |some .string,some .string,.string x=>K (.string x)
  |_,_,_=>False
 |.pick c a b=>match jE σ c with
  |.bool t=>aQ t (K (jE σ a)) (K (jE σ b))
  |_=>False
 |.call c=>match c.callee with
  |.builtin b=>ql7 P b c.argTypes o.type (c.args.map (jE σ)) K
  |_=>False
 |_=>False
def opG(P:Program)(o:Oper)(σ:bV)(w:World)(K:Value→World→Prop):Prop:=
 match isQ P o with
 |true=>qvG P o σ fun v=>K v w
 |false=>match o.op with
  |.load t x=>aF P t (xA P t) (jE σ x) w (Z4 _ fun vs=>K ((xA P t).mk vs) w)
  |.store t x y=>aL P t (jE σ x) (jE σ y) w fun w'=>K undef w'
  |.box t x=>kA P t (jE σ x) w fun ad w'=>K (.pointer (some ad)) w'
  |.alloc t=>cD P t w fun ad w'=>K (.pointer (some ad)) w'
  |.makeSlice t l c=>mT P t (jE σ l) (jE σ c) w K
  |.buildSlice t n j=>eG P t n (j.map fun(i,x)=>(i,jE σ x)) w K
  |.convert s d x=>tC P s d (xA P d) (jE σ x) w (Z4 _ fun vs w'=>K ((xA P d).mk vs) w')
  |.call c=>qit P c o.type σ w K
  |.mapUpdate .. |.insert .. |.entryStore .. =>qiK P (execOp (jE σ) o) w fun w'=>K undef w'
  |.select .. |.go _|.defer _|.send .. |.recv .. |.panic _=>False
  |_=>QW P (xA P o.type) (execOp (jE σ) o) w (Z4 _ fun vs w'=>K ((xA P o.type).mk vs) w')
structure Rep (n:Nat) (a:Act) (σ:bV):Prop where
 size:a.tmps.size=n
 defers:a.defers=[]
 get:∀t,a.tmps.getD t undef=σ t
theorem Rep.eval{n:Nat}{a:Act}{σ:bV}(h:Rep n a σ):a.eval=jE σ:=by
 funext x;cases x<;>simp only[Act.eval,jE,h.get]
theorem qdb(σ:bV)(d:Nat)(v:Value)(t:Nat):upd σ d v t=if t=d then v else σ t:=by
 unfold upd
 split
 ·rename_i h;rw[if_pos (Nat.eq_of_beq_eq_true h)]
 ·rename_i h;rw[if_neg (Nat.ne_of_beq_eq_false h)]
theorem Rep.put{n:Nat}{a:Act}{σ:bV}(h:Rep n a σ){d:Option Nat}(hd:∀t,d=some t→t<n)(v:Value):Rep n (a.put d v) (AW σ d v):=by
 cases d with
 |none=>exact h
 |some d=>
  have cR:=hd d rfl
  refine⟨by simp [Act.put,h.size],h.defers,fun t=>?_⟩
  simp only[AW,qdb,Act.put]
  have:=h.get t
  have hs:=h.size
  by_cases e:t=d
  ·subst e;rw[if_pos rfl];simp [Array.getD_eq_getD_getElem?,Array.getElem?_setIfInBounds,hs,cR]
  ·rw[if_neg e,←this];simp [Array.getD_eq_getD_getElem?,Array.getElem?_setIfInBounds,Ne.symm e]
section
variable {P:Program} {o:Oper} {a:Act} {σ:bV} {w:World} {K:Value→World→Prop} {next:Act→World→Prop} {Q:Exit→Act→World→Prop}
theorem DL{v:Value}{w':World}(he:a.eval=jE σ)(j:(execOp (jE σ) o).run P w=.ok (.value v) w')(h:next (a.put o.dst v) w'):o.wp P a w next Q:=by
 unfold Oper.wp;rw[he,j];exact h
theorem qfM{w':World}(he:a.eval=jE σ)(j:(execOp (jE σ) o).run P w=.ok .skip w')(h:next (a.put o.dst undef) w'):o.wp P a w next Q:=by
 unfold Oper.wp;rw[he,j];exact h
theorem PY{s:Sem Value}{v:Value}{w w':World}(h:s.run P w=.ok v w'):(do pure (Next.value (←s)):Sem Next).run P w=.ok (.value v) w':=by
 simp only[Sem.run_bind,h,Result.andThen_ok,Sem.run_pure]
theorem LA{s:Sem Value}{k:Value→Prop}(h:peG P s k):∃v,(∀w,s.run P w=.ok v w)∧k v:=by
 unfold peG at h
 split at h
 ·rename_i v hv;exact⟨v,qn3 hv,h⟩
 ·exact h.elim
theorem S9{v:Option Value}{k:Value→Prop}(h:qhA v k):∃x,v=some x∧k x:=by
 unfold qhA at h
 split at h
 ·exact⟨_,rfl,h⟩
 ·exact h.elim
theorem GR{f:FuncId}{args:Array Value}(h:zP P f=true):(callFunc f args).run P w=.ok (.enter f args) w:=by
 unfold zP at h
 unfold callFunc
 simp only[Sem.run_bind,run_program,Result.andThen_ok]
 split at h
 ·rename_i fn hfn
  simp only[hfn]
  simp only[Bool.and_eq_true,Bool.not_eq_true']at h
  simp only[h.2,Bool.false_eq_true,if_false]
  obtain⟨c,hc⟩:=Option.isSome_iff_exists.1 h.1
  simp [hc,Sem.run,pure]
 ·cases h
theorem rQ{op:BinOp}(h:(op=.eql∨op=.neq)→False)(t:TypeId)(j q:Operand)(x y:Value):(eqGuard op t j q x y).run P w=.ok () w:=by
 unfold eqGuard;cases op<;>simp_all [Sem.run,pure,bind,Sem.bind]
theorem qeb{f:FuncId}{q:Sh}{args:Array Value}{k:List Value→World→Prop}(h:aE P f q args w (Z4 _ k))
  (hn:∀v w',(∃vs,v=q.mk vs∧k vs w')→next (a.put o.dst v) w'):
  Calls P f args w (fun|.returned v,j=>next (a.put o.dst v) j|.panicked chain,j=>Q (.panic chain) a j|.outgrown,_=>LetsOut Q):=
 h.mono fun e w' he=>by
  obtain⟨vs,rfl,hk⟩:=jS he
  exact hn _ _ ⟨vs,rfl,hk⟩
theorem qsX{b:Builtin}{ts:Array TypeId}{A:TypeId}{args:Array Value}{K:Value→Prop}(h:ql7 P b ts A args K)(cs:Array Bool):∃v,(∀w,(builtin b ts A cs args).run P w=.ok (.value v) w)∧K v:=by
 have j:∀{s:Sem Value} {v},builtin b ts A cs args=(do pure (Next.value (←s)):Sem Next)→(∀w,s.run P w=.ok v w)→K v→∃v,(∀w,(builtin b ts A cs args).run P w=.ok (.value v) w)∧K v:=
  fun hs q hk=>⟨_,fun w=>by rw[hs];exact PY (q w),hk⟩
 unfold ql7 at h
 split at h
 ·rename_i t x u hargs
  have u:ts= #[t]:=by cases ts;simp_all
  have hargs:args= #[x]:=by cases args;simp_all
  subst u;subst hargs
  split at h
  ·obtain⟨n,q,hk⟩:=h;exact j rfl q hk
  ·obtain⟨v,q,hk⟩:=LA h;exact j rfl q hk
 ·rename_i t x u hargs
  have u:ts= #[t]:=by cases ts;simp_all
  have hargs:args= #[x]:=by cases args;simp_all
  subst u;subst hargs
  split at h
  ·obtain⟨n,q,hk⟩:=h;exact j rfl q hk
  ·obtain⟨v,q,hk⟩:=LA h;exact j rfl q hk
 ·rename_i x r hargs
  obtain⟨v,q,hk⟩:=S9 h
  exact j rfl (fun w=>by unfold Builtin.max_;rw[hargs];exact qff q w) hk
 ·rename_i x r hargs
  obtain⟨v,q,hk⟩:=S9 h
  exact j rfl (fun w=>by unfold Builtin.min_;rw[hargs];exact qfg q w) hk
 ·exact h.elim
theorem qru{b:Builtin}{ts:Array TypeId}{args:Array Value}(he:a.eval=jE σ)(h:ql6 P b ts o.type args w K)(hn:∀v w',K v w'→next (a.put o.dst v) w')
  {cs:Array Bool} (hx:execOp (jE σ) o=(pure (⟨.builtin b ts o.type cs,args⟩:Deferred)>>=fun d=>invoke d.target d.args:Sem Next)):o.wp P a w next Q:=by
 have r:(execOp (jE σ) o).run P w=(builtin b ts o.type cs args).run P w:=by rw[hx];rfl
 have j:∀{s:Sem Value} {v w'},builtin b ts o.type cs args=(do pure (Next.value (←s)):Sem Next)→s.run P w=.ok v w'→K v w'→o.wp P a w next Q:=
  fun hs q hk=>DL he (by rw[r,hs];exact PY q) (hn _ _ hk)
 unfold ql6 at h
 split at h
 ·obtain⟨v,w',q,hk⟩:=h;exact j rfl q hk
 ·obtain⟨n,w',q,hk⟩:=h;exact j rfl q hk
 ·obtain⟨n,w',q,hk⟩:=h;exact j rfl q hk
 ·obtain⟨v,w',q,hk⟩:=h;exact j rfl q hk
 ·obtain⟨v,w',q,hk⟩:=h;exact j rfl q hk
 ·exact h.elim
theorem qo7{c:Call}(j:o.op=.call c)(he:a.eval=jE σ)(h:qit P c o.type σ w K)(hn:∀v w',K v w'→next (a.put o.dst v) w'):o.wp P a w next Q:=by
 have hx:execOp (jE σ) o=(resolve (jE σ) c o.type>>=fun d=>invoke d.target d.args:Sem Next):=by unfold execOp;rw[j]
 unfold qit at h
 split at h
 ·rename_i b hb
  exact qru he h hn (cs:=c.args.map fun|.const _=>true|_=>false) (by rw[hx];unfold resolve;rw[hb];rfl)
 ·rename_i f hf
  split at h
  ·rename_i hok
   unfold Oper.wp
   rw[he,hx]
   have:(resolve (jE σ) c o.type>>=fun d=>invoke d.target d.args:Sem Next).run P w=.ok (.enter f (c.args.map (jE σ))) w:=by
    unfold resolve
    simp only[hf,jE,Deferred.ofValue]
    simp only[Sem.run_bind,Sem.run_pure,Result.andThen_ok,invoke,Array.empty_append,Array.append_empty]
    exact GR hok
   rw[this]
   exact qeb h fun v w' ⟨vs,hv,hk⟩=>hn _ _ (hv▸hk)
  ·obtain⟨vs,w',q,hk⟩:=jS h
   exact DL he (by rw[hx];exact q) (hn _ _ hk)
 ·rename_i x r hf
  obtain⟨f,first,cap,hv,hok,h⟩:=h
  unfold Oper.wp
  rw[he,hx]
  have:(resolve (jE σ) c o.type>>=fun d=>invoke d.target d.args:Sem Next).run P w=.ok (.enter f (first++c.args.map (jE σ)++cap)) w:=by
   unfold resolve
   simp only[hf,hv,Deferred.ofValue]
   simp only[Sem.run_bind,Sem.run_pure,Result.andThen_ok,invoke]
   exact GR hok
  rw[this]
  exact qeb h fun v w' ⟨vs,hv,hk⟩=>hn _ _ (hv▸hk)
 ·exact h.elim
theorem qsV{op:BinOp}{t u:TypeId}{x y:Operand}{K:Value→Prop}(r:o.op=.binOp op t x y u)(h:qrp P op t x y o.type σ K):∃v,(∀w,(execOp (jE σ) o).run P w=.ok (.value v) w)∧K v:=by
 have hx:execOp (jE σ) o=(do pure (Next.value (←(do eqGuard op t x y (jE σ x) (jE σ y);binOp op t (jE σ x) (jE σ y)))):Sem Next):=by unfold execOp;rw[r]
 have q:∀{v},(∀w,(eqGuard op t x y (jE σ x) (jE σ y)).run P w=.ok () w)→(∀w,(binOp op t (jE σ x) (jE σ y)).run P w=.ok v w)→K v→∃v,(∀w,(execOp (jE σ) o).run P w=.ok (.value v) w)∧K v:=
  fun h1 h2 hk=>⟨_,fun w=>by rw[hx];exact PY (by simp only[Sem.run_bind,h1,Result.andThen_ok,h2]),hk⟩
 unfold qrp at h
 split at h
 ·split at h
  ·obtain⟨vs,j,hk⟩:=jS h;exact q (fun _=>rQ (by simp) ..) j hk
  ·obtain⟨vs,j,hk⟩:=jS h;exact q (fun _=>rQ (by simp) ..) j hk
  ·obtain⟨vs,j,hk⟩:=jS h;exact q (fun _=>rQ (by simp) ..) j hk
  ·obtain⟨vs,j,hk⟩:=jS h;exact q (fun _=>rQ (by simp) ..) j hk
  ·obtain⟨v,j,hk⟩:=S9 h;exact q (PW j t x y) (qfe j t) hk
 ·split at h
  ·obtain⟨vs,j,hk⟩:=jS h;exact q (fun _=>rQ (by simp) ..) j hk
  ·obtain⟨v,j,hk⟩:=S9 h;exact q (PW j t x y) (qfe j t) hk
 ·split at h
  ·obtain⟨b,j,hk⟩:=h;exact q (fun w=>(j x y w).1) (fun w=>(j x y w).2) hk
  ·obtain⟨b,j,hk⟩:=h;exact q (fun w=>(j x y w).1) (fun w=>(j x y w).2) hk
  ·exact h.elim
theorem qk7(v:List Value):∀(cells:Array Value) (off k:Nat),(v.zipIdx k).foldl (fun cs (x:Value×Nat)=>cs.setIfInBounds (off+x.2) x.1) cells=jR cells (off+k) v:=by
 induction v with
 |nil=>intros;rfl
 |cons c r j=>intro cells off k;simp only[List.zipIdx_cons,List.foldl_cons,jR];rw[j];rfl
theorem MT{v:Value}{cells:Array Value}{off:Nat}:v.cells.zipIdx.foldl (fun cs (x:Value×Nat)=>cs.setIfInBounds (off+x.2) x.1) cells=jR cells off v.cells.toList:=by
 rw[←Array.foldl_toList,Array.toList_zipIdx];exact qk7 _ _ _ 0
theorem DW{q:Nat→Option (Nat×Nat×Bool)}{pl:Nat→Option (Nat×Nat)}(hp:∀i,pl i=(q i).map fun p=>(p.1,p.2.1)){K:Value→Prop}:∀{j:List (Nat×Value)} {cells:Array Value},qay q cells j K→
  ∃cs,Instr.fill pl cells j=some cs∧K (.agg cs)
 |[],cells,h=>⟨cells,rfl,h⟩
 |(i,v)::r,cells,h=>by
  simp only[qay]at h
  simp only[Instr.fill]
  have A:=hp i
  split at h
  ·rename_i off sz u
   split at h
   ·rename_i h1 h2
    obtain⟨hv,h⟩:=h
    rw[A,u]
    have h1:=Nat.eq_of_beq_eq_true h1
    have h2:=Nat.le_of_ble_eq_true h2
    dsimp only[Option.map_some]
    rw[if_neg (by rw[hv];simp;omega),MT,hv]
    exact DW hp h
   ·exact h.elim
  ·rename_i off sz u
   split at h
   ·rename_i h1 h2
    rw[A,u]
    have h1:=Nat.eq_of_beq_eq_true h1
    have h2:=Nat.le_of_ble_eq_true h2
    dsimp only[Option.map_some]
    rw[if_neg (by simp;omega),MT]
    exact DW hp h
   ·exact h.elim
  ·exact h.elim
theorem XS:∀{j:List Field} {l:List (Nat×Nat×Bool)},LC P j=some l→∀w,
  (j.mapM (fun f=>do pure (f.offset,←sizeOf f.type)):Sem (List (Nat×Nat))).run P w=.ok (l.map fun p=>(p.1,p.2.1)) w
 |[],l,h,w=>by simp [LC]at h;subst h;simp
 |f::r,l,h,w=>by
  simp only[LC]at h
  split at h
  ·rename_i i q hi hl
   injection h with h;subst h
   have:=XS hl w
   simp only[List.mapM_cons,Sem.run_bind,sizeOf,typeInfo,run_program,Result.andThen_ok,hi,Sem.run_pure,List.map_cons]
   simp only[sizeOf,typeInfo,Sem.run_bind]at this
   rw[this];rfl
  ·cases h
theorem qlT{α:Type}:∀(l:List α) (i:Nat),l[i]?=atL l i
 |[],i=>by simp [atL]
 |x::r,0=>by simp [atL]
 |x::r,i+1=>by simp [atL,qlT r i]
theorem qgu{t:TypeId}{j:List (Nat×Value)}{K:Value→Prop}(h:qgt P t j K):∃v,(∀w,(Instr.build t j.toArray).run P w=.ok v w)∧K v:=by
 unfold qgt at h
 split at h
 ·rename_i C q
  split at h
  ·rename_i z hz
   split at h
   ·rename_i A hu
    split at h
    ·rename_i l hl
     obtain⟨cs,hf,hk⟩:=DW (pl:=fun i=>((l.map fun p=>(p.1,p.2.1)).toArray)[i]?) (fun i=>by rw[←qlT];simp) h
     refine⟨_,fun w=>?_,hk⟩
     have hp:=XS hl w
     unfold Instr.build
     simp only[zeroValue,typeInfo,Sem.run_bind,run_program,Result.andThen_ok,q,hz,Sem.run_pure,run_underlying hu]
     rw[Array.mapM_eq_mapM_toList]
     simp only[←bind_pure_comp,Sem.run_bind]
     simp only[sizeOf,typeInfo,Sem.run_bind]at hp⊢
     rw[hp]
     simp only[Result.andThen_ok,Sem.run_pure]
     rw[hf]
     rfl
    ·exact h.elim
   ·rename_i n e hu
    split at h
    ·rename_i u r
     obtain⟨cs,hf,hk⟩:=DW (pl:=fun i=>some (i*u.size,u.size)) (fun i=>rfl) h
     refine⟨_,fun w=>?_,hk⟩
     unfold Instr.build
     simp only[zeroValue,sizeOf,typeInfo,Sem.run_bind,run_program,Result.andThen_ok,q,hz,Sem.run_pure,run_underlying hu,r]
     rw[hf]
     rfl
    ·exact h.elim
   ·exact h.elim
  ·exact h.elim
 ·exact h.elim
theorem qji{K:Value→Prop}(h:qvG P o σ K):∃v,(∀w,(execOp (jE σ) o).run P w=.ok (.value v) w)∧K v:=by
 have q:∀{s:Sem Value} {v},execOp (jE σ) o=(do pure (Next.value (←s)):Sem Next)→(∀w,s.run P w=.ok v w)→K v→∃v,(∀w,(execOp (jE σ) o).run P w=.ok (.value v) w)∧K v:=
  fun hs r hk=>⟨_,fun w=>by rw[hs];exact PY (r w),hk⟩
 unfold qvG at h
 split at h
 ·rename_i x j;exact⟨_,fun w=>by unfold execOp;rw[j];rfl,h⟩
 ·rename_i x j;exact⟨_,fun w=>by unfold execOp;rw[j];rfl,h⟩
 ·rename_i t x i j;obtain⟨ad,r,hk⟩:=h;exact q (by unfold execOp;rw[j]) r hk
 ·rename_i t x f j
  split at h
  ·obtain⟨v,r,hk⟩:=LA h;exact q (by unfold execOp;rw[j]) r hk
  ·obtain⟨ad,r,hk⟩:=h;exact q (by unfold execOp;rw[j]) r hk
 ·rename_i x j
  split at h
  ·rename_i p hp;obtain⟨ad,rfl,hk⟩:=h
   exact⟨_,fun w=>by unfold execOp;rw[j];simp only[hp];rfl,hk⟩
  ·exact h.elim
 ·rename_i t x lo hi mx j
  split at h
  ·obtain⟨s,r,hk⟩:=h;exact q (by unfold execOp;rw[j]) r hk
  ·obtain⟨v,r,hk⟩:=h;exact q (by unfold execOp;rw[j]) r hk
 ·rename_i t x i j;obtain⟨vs,r,hk⟩:=jS h;exact q (by unfold execOp;rw[j]) r hk
 ·rename_i t x f j
  split at h
  ·obtain⟨v,r,hk⟩:=LA h;exact q (by unfold execOp;rw[j]) r hk
  ·obtain⟨vs,r,hk⟩:=jS h;exact q (by unfold execOp;rw[j]) r hk
 ·rename_i t u j;obtain⟨v,r,hk⟩:=qgu h;exact q (by unfold execOp;rw[j]) (fun w=>by have:=r w;rwa [show(u.toList.map fun p=>(p.1,jE σ p.2)).toArray=u.map fun(i,x)=>(i,jE σ x)by rw[←Array.toList_map]]at this) hk
 ·rename_i x i j;obtain⟨v,r,hk⟩:=LA h;exact q (by unfold execOp;rw[j]) r hk
 ·rename_i fn first cap j;exact q (s:=Instr.makeFunc fn (first.map (jE σ)) (cap.map (jE σ))) (by unfold execOp;rw[j]) (fun w=>rfl) h
 ·rename_i op t x y I j;exact qsV j h
 ·rename_i op t x j;obtain⟨v,r,hk⟩:=S9 h;exact q (by unfold execOp;rw[j]) (qqj r) hk
 ·rename_i s d x j
  have hx:execOp (jE σ) o=(do pure (Next.value (←convert s d (jE σ x))):Sem Next):=by unfold execOp;rw[j]
  split at h
  ·rename_i ds k C n h1 h2 h3
   exact q hx (v:=.int k (k.wrap n)) (fun w=>by rw[h3];unfold convert;simp only[Sem.run_bind,run_underlying h1,run_underlying h2,Result.andThen_ok,Conv.intToInt,Sem.run_pure]) h
  ·rename_i A h1 h2 h3
   exact q hx (v:=.string A) (fun w=>by rw[h3];unfold convert;simp only[Sem.run_bind,run_underlying h1,run_underlying h2,Result.andThen_ok,Sem.run_pure]) h
  ·exact h.elim
 ·rename_i c x y j
  split at h
  ·rename_i t ht
   refine⟨if t then jE σ x else jE σ y,fun w=>?_,?_⟩
   ·unfold execOp;rw[j];simp only[ht,asBool,Sem.run_bind,Sem.run_pure,Result.andThen_ok]
   ·cases t<;>exact h
  ·exact h.elim
 ·rename_i c j
  split at h
  ·rename_i b hb
   obtain⟨v,r,hk⟩:=qsX h (c.args.map fun|.const _=>true|_=>false)
   refine⟨v,fun w=>?_,hk⟩
   unfold execOp;rw[j];dsimp only;unfold resolve;rw[hb];exact r w
  ·exact h.elim
 ·exact h.elim
theorem XJ(he:a.eval=jE σ)(h:opG P o σ w K)(hn:∀v w',K v w'→next (a.put o.dst v) w'):o.wp P a w next Q:=by
 have A:∀{I:Sh},QW P I (execOp (jE σ) o) w (Z4 _ fun vs w'=>K (I.mk vs) w')→o.wp P a w next Q:=fun h=>by
  obtain⟨vs,w',j,hk⟩:=jS h
  exact DL he j (hn _ _ hk)
 have q:qiK P (execOp (jE σ) o) w (fun w'=>K undef w')→o.wp P a w next Q:=fun⟨w',j,hk⟩=>qfM he j (hn _ _ hk)
 have u:∀{s:Sem Value} {v w'},execOp (jE σ) o=(do pure (Next.value (←s)):Sem Next)→s.run P w=.ok v w'→K v w'→o.wp P a w next Q:=
  fun hs j hk=>DL he (by rw[hs];exact PY j) (hn _ _ hk)
 unfold opG at h
 split at h
 ·obtain⟨v,j,hk⟩:=qji h;exact DL he (j w) (hn _ _ hk)
 split at h
 ·rename_i t x r;obtain⟨vs,j,hk⟩:=jS h;exact u (by unfold execOp;rw[r]) j hk
 ·rename_i t x y r;obtain⟨w',j,hk⟩:=h
  exact qfM he (w':=w') (by unfold execOp;rw[r];simp only[Sem.run_bind,j,Result.andThen_ok,Sem.run_pure]) (hn _ _ hk)
 ·rename_i t x r;obtain⟨ad,w',j,hk⟩:=h;exact u (by unfold execOp;rw[r]) j hk
 ·rename_i t r;obtain⟨ad,w',j,hk⟩:=h;exact u (by unfold execOp;rw[r]) j hk
 ·rename_i t l c r;obtain⟨v,w',j,hk⟩:=h;exact u (by unfold execOp;rw[r]) j hk
 ·rename_i t n C r;obtain⟨v,w',j,hk⟩:=h;exact u (by unfold execOp;rw[r]) j hk
 ·rename_i s d x r;obtain⟨vs,w',j,hk⟩:=jS h;exact u (by unfold execOp;rw[r]) j hk
 ·rename_i c r;exact qo7 r he h hn
 ·exact q h
 ·exact q h
 ·exact q h
 all_goals first|exact h.elim|exact A h
end
end
section
open Go
def qne(t:Nat):List Nat→Bool
 |[]=>false
 |x::r=>match Nat.beq t x with|true=>true|false=>qne t r
theorem qey{t:Nat}:∀{l:List Nat},qne t l=true↔t∈l
 |[]=>by simp [qne]
 |x::r=>by
  simp only[qne]
  split
  ·rename_i h;simp [Nat.eq_of_beq_eq_true h]
  ·rename_i h;simp [Nat.ne_of_beq_eq_false h,qey]
def qhb(A:List Nat)(g σ:bV):bV:=fun t=>match qne t A with|true=>g t|false=>σ t
def find(t:Nat):List Nat→List Value→Option Value
 |d::D,v::vs=>match Nat.beq t d with|true=>some v|false=>find t D vs
 |_,_=>none
def over(D:List Nat)(vs:List Value)(σ:bV):bV:=fun t=>match find t D vs with|some v=>v|none=>σ t
def agree(A:List Nat)(σ j:bV):Prop:=∀t,t∉A→j t=σ t
theorem agree.refl(A:List Nat)(σ:bV):agree A σ σ:=fun _ _=>rfl
theorem agree.trans{A:List Nat}{a b c:bV}(h:agree A a b)(k:agree A b c):agree A a c:=fun t ht=>(k t ht).trans (h t ht)
theorem agree.mono{A B:List Nat}{a b:bV}(h:agree A a b)(hs:∀t,t∈A→t∈B):agree B a b:=fun t ht=>h t fun hh=>ht (hs t hh)
theorem qd7(j:bV)(t:Nat):∀(D:List Nat),find t D (D.map j)=some (j t)∨find t D (D.map j)=none
 |[]=>.inr rfl
 |d::D=>by
  simp only[List.map_cons,find]
  split
  ·rename_i h;rw[Nat.eq_of_beq_eq_true h];exact .inl rfl
  ·exact qd7 j t D
theorem CY{D:List Nat}{τ j:bV}(h:τ=j):over D (D.map j) τ=j:=by
 funext t
 unfold over
 rcases qd7 j t D with e|e<;>rw[e]
 exact congrFun h t
theorem KB{A:List Nat}{σ j:bV}(h:agree A σ j):qhb A j σ=j:=by
 funext t
 unfold qhb
 split
 ·rfl
 ·rename_i hm;exact(h t fun hh=>by rw[qey.2 hh]at hm;cases hm).symm
def BP(ops:Array Oper)(σ:bV)(g:Nat×Bool):Bool:=match(ops[g.1]?).bind (·.dst)with
 |some t=>match σ t with
  |.bool b=>match g.2 with|true=>b|false=>!b
  |_=>false
 |none=>false
def y4(ops:Array Oper)(σ:bV)(g:Nat×Bool)(b:Bool):bV:=match(ops[g.1]?).bind (·.dst)with
 |some t=>match σ t with
  |.bool _=>upd σ t (.bool (match b with|true=>g.2|false=>!g.2))
  |_=>σ
 |none=>σ
theorem M5{ops:Array Oper}{σ:bV}{g:Nat×Bool}{b:Bool}(h:BP ops σ g=b):y4 ops σ g b=σ:=by
 subst h
 unfold y4 BP
 cases hj:(ops[g.1]?).bind (·.dst)with
 |none=>rfl
 |some t=>
  dsimp only
  cases hv:σ t with
  |bool x=>
   dsimp only
   funext u
   rw[qdb]
   by_cases e:u=t
   ·rw[if_pos e,e,hv]
    cases hg:g.2<;>cases x<;>rfl
   ·rw[if_neg e]
  |_=>rfl
def qhy(P:Program)(ops:Array Oper):List Oper→bV→World→(bV→World→Prop)→Prop
 |[],σ,w,K=>K σ w
 |o::r,σ,w,K=>match o.guard with
  |none=>opG P o σ w fun v w'=>qhy P ops r (AW σ o.dst v) w' K
  |some g=>aQ (BP ops σ g) (opG P o (y4 ops σ g true) w fun v w'=>qhy P ops r (AW (y4 ops σ g true) o.dst v) w' K) (qhy P ops r (AW (y4 ops σ g false) o.dst undef) w K)
def V3:List Oper→List Nat
 |[]=>[]
 |o::r=>match o.dst with
  |some d=>d::V3 r
  |none=>V3 r
theorem KC{o:Oper}{d:Nat}:∀{l:List Oper},o∈l→o.dst=some d→d∈V3 l
 |x::r,h,hd=>by
  rcases List.mem_cons.1 h with rfl|h
  ·simp [V3,hd]
  ·have:=KC h hd
   simp only[V3];split<;>simp [this]
theorem GO{A:List Nat}{σ:bV}{d:Option Nat}(h:∀t,d=some t→t∈A)(v:Value):agree A σ (AW σ d v):=by
 intro t ht
 cases d with
 |none=>rfl
 |some d=>simp only[AW,qdb];rw[if_neg];rintro rfl;exact ht (h _ rfl)
theorem D9{n:Nat}{a:Act}{σ:bV}{ops:Array Oper}{o:Oper}{g:Nat×Bool}(r:Rep n a σ)(hg:o.guard=some g):Region.wanted o (yielded ops a.tmps)=BP ops σ g:=by
 obtain⟨j,q⟩:=g
 unfold Region.wanted BP yielded
 rw[hg]
 dsimp only
 cases hj:(ops[j]?).bind (·.dst)with
 |none=>simp
 |some t=>
  have ht:=r.get t
  simp only[Option.bind_some]
  rw[←ht,Array.getD_eq_getD_getElem?]
  cases ha:a.tmps[t]? with
  |none=>simp [undef]
  |some v=>
   cases v<;>simp
   cases q<;>simp
theorem qja{P:Program}{ops:Array Oper}{n:Nat}{A:List Nat}{σ₀:bV}{K:bV→World→Prop}{Q:Exit→Act→World→Prop}(J:∀a σ w,Rep n a σ→agree A σ₀ σ→K σ w→Q .normal a w):
  ∀(l:List Oper) (a:Act) (σ:bV) (w:World),(∀t,t∈V3 l→t<n∧t∈A)→Rep n a σ→agree A σ₀ σ→qhy P ops l σ w K→wpList P ops Q l a w
 |[],a,σ,w,_,q,j,h=>J a σ w q j h
 |o::r,a,σ,w,hd,q,j,h=>by
  have u:∀t,o.dst=some t→t<n∧t∈A:=fun t ht=>hd t (KC (by simp) ht)
  have I:∀t,t∈V3 r→t<n∧t∈A:=fun t ht=>hd t (by simp only[V3];split<;>simp [ht])
  have step:∀v w',qhy P ops r (AW σ o.dst v) w' K→wpList P ops Q r (a.put o.dst v) w':=fun v w' h'=>
   qja J r _ _ _ I (q.put (fun t ht=>(u t ht).1) v) (j.trans (GO (fun t ht=>(u t ht).2) v)) h'
  simp only[qhy]at h
  split at h
  ·rename_i hg
   exact wpList_plain hg fun M C=>XJ q.eval h fun v w' hk=>C _ _ (step v w' hk)
  ·rename_i g hg
   refine wpList_step fun M C=>?_
   rw[D9 q hg]
   unfold aQ at h
   split at h
   ·rename_i hb;rw[hb,if_pos rfl];rw[M5 hb]at h;exact XJ q.eval h fun v w' hk=>C _ _ (step v w' hk)
   ·rename_i hb;rw[hb,if_neg (by simp)];rw[M5 hb]at h;exact C _ _ (step undef w h)
structure An where
 loop:List (Nat×List (Nat×Ck))
 cut:List (Nat×List (Nat×Ck))
def lk{α:Type}(n:Nat):List (Nat×α)→Option α
 |[]=>none
 |(k,x)::r=>match Nat.beq k n with|true=>some x|false=>lk n r
def key:Code→Nat
 |.region id _ _=>id
 |.seq a b=>match Nat.beq (key a) 1000000 with|true=>key b|false=>key a
 |.cond _ a b=>match Nat.beq (key a) 1000000 with|true=>key b|false=>key a
 |.block _ c=>key c
 |.loop c=>key c
 |.scope c=>key c
 |_=>1000000
def An.lp(A:An)(c:Code):List (Nat×Ck):=match lk (key c) A.loop with|some D=>D|none=>[]
def tN:Code→List Nat
 |.region _ ops _=>V3 ops.toList
 |.seq a b=>tN a++tN b
 |.block _ c=>tN c
 |.loop c=>tN c
 |.cond _ a b=>tN a++tN b
 |_=>[]
def ZO(D:List (Nat×Ck)):List Nat:=D.map (·.1)
def cks(D:List (Nat×Ck)):List Ck:=D.map (·.2)
abbrev NoI:World→Prop:=fun _=>False
abbrev NoM:World→Nat:=fun _=>0
def den(P:Program)(draw:Array Oper→bV→World→(bV→World→Prop)→Prop)(An:An):Code→(bV→World→Prop)→(Nat→bV→World→Prop)→(bV→World→Prop)→bV→World→Prop
 |.skip,N,_,_,σ,w=>N σ w
 |.label _,N,_,_,σ,w=>N σ w
 |.region _ ops d,N,_,_,σ,w=>match d with
  |false=>qhy P ops ops.toList σ w N
  |true=>draw ops σ w N
 |.seq a b,N,X,R,σ,w=>match lk (key b) An.cut with
  |none=>den P draw An a (fun j w'=>den P draw An b N X R j w') X R σ w
  |some D=>∃J:TF (cks D) (World→Prop),den P draw An a (fun j w'=>vR NoI (cks D) J ((ZO D).map j) w') X R σ w∧
    ∀g:bV,qfz (cks D) fun vs=>∀w',vR NoI (cks D) J vs w'→den P draw An b N X R (over (ZO D) vs (qhb (tN a) g σ)) w'
 |.cond c a b,N,X,R,σ,w=>match jE σ c with
  |.bool t=>aQ t (den P draw An a N X R σ w) (den P draw An b N X R σ w)
  |_=>False
 |.block id c,N,X,R,σ,w=>den P draw An c N (fun i=>match Nat.beq i id with|true=>N|false=>X i) R σ w
 |.loop c,_,X,R,σ,w=>∃(I:TF (cks (An.lp c)) (World→Prop)) (μ:TF (cks (An.lp c)) (World→Nat)),
   vR NoI _ I ((ZO (An.lp c)).map σ) w∧
   ∀g:bV,qfz (cks (An.lp c)) fun vs=>∀w',vR NoI _ I vs w'→
    den P draw An c (fun j q=>vR NoI _ I ((ZO (An.lp c)).map j) q∧vR NoM _ μ ((ZO (An.lp c)).map j) q<vR NoM _ μ vs w') X R
     (over (ZO (An.lp c)) vs (qhb (tN c) g σ)) w'
 |.exit id,_,X,_,σ,w=>X id σ w
 |.ret,_,_,R,σ,w=>R σ w
 |_,_,_,_,_,_=>False
def EU(n:Nat):List Nat→Bool
 |[]=>true
 |t::r=>match Nat.blt t n with|true=>EU n r|false=>false
theorem qb8{n t:Nat}:∀{l:List Nat},EU n l=true→t∈l→t<n
 |x::r,h,ht=>by
  simp only[EU]at h
  split at h
  ·rename_i hb
   rcases List.mem_cons.1 ht with rfl|ht
   ·exact by simpa [Nat.blt_eq]using hb
   ·exact qb8 h ht
  ·cases h
def Qof(n:Nat)(A:List Nat)(σ₀:bV)(N:bV→World→Prop)(X:Nat→bV→World→Prop)(R:bV→World→Prop):Exit→Act→World→Prop
 |.normal,a,w=>∃σ,Rep n a σ∧agree A σ₀ σ∧N σ w
 |.exit id,a,w=>∃σ,Rep n a σ∧agree A σ₀ σ∧X id σ w
 |.ret,a,w=>∃σ,Rep n a σ∧R σ w
 |_,_,_=>False
def qf7(P:Program)(draw:Array Oper→bV→World→(bV→World→Prop)→Prop):Prop:=
 ∀(id n:Nat) (ops:Array Oper) (σ:bV) (a:Act) (w:World) (K:bV→World→Prop) (Q:Exit→Act→World→Prop),EU n (V3 ops.toList)=true→Rep n a σ→(∀c a w,¬Q (.panic c) a w)→
  (∀a j w,Rep n a j→agree (V3 ops.toList) σ j→K j w→Q .normal a w)→draw ops σ w K→(Code.region id ops true).wp P Q a w
theorem DH{D:List (Nat×Ck)}{J:TF (cks D) (World→Prop)}{σ:bV}{w:World}(h:vR NoI (cks D) J ((ZO D).map σ) w){q:List Value→Prop}(hq:qfz (cks D) q):q ((ZO D).map σ):=by
 refine qju (d:=NoI) (f:=J) (vs:=(ZO D).map σ) (P:=fun f=>f w) h (fun h=>h) hq ?_
 simp [ZO,cks]
section
variable {P:Program} {draw:Array Oper→bV→World→(bV→World→Prop)→Prop} {An:An} {n:Nat}
theorem qgI(ah:qf7 P draw):∀(c:Code) (A:List Nat),(∀t,t∈tN c→t∈A)→EU n (tN c)=true→∀(N:bV→World→Prop) (X:Nat→bV→World→Prop) (R:bV→World→Prop) (σ₀ σ:bV) (a:Act) (w:World),
  Rep n a σ→agree A σ₀ σ→den P draw An c N X R σ w→c.wp P (Qof n A σ₀ N X R) a w:=by
 have T:∀{l m:List Nat},EU n (l++m)=true→EU n l=true:=by
  intro l;induction l with
  |nil=>intros;rfl
  |cons x l ih=>intro m h;simp only[List.cons_append,EU]at h⊢;split<;>simp_all;exact ih h
 have U:∀{l m:List Nat},EU n (l++m)=true→EU n m=true:=by
  intro l;induction l with
  |nil=>intro m h;exact h
  |cons x l ih=>intro m h;simp only[List.cons_append,EU]at h;split at h;exact ih h;cases h
 intro c
 induction c with
 |skip=>intro A _ _ N X R σ₀ σ a w u q h;exact wp_skip ⟨σ,u,q,h⟩
 |label l=>intro A _ _ N X R σ₀ σ a w u q h;exact wp_label ⟨σ,u,q,h⟩
 |region id ops d=>
  intro A hA hn N X R σ₀ σ a w u q h
  cases d with
  |false=>
   refine wp_region_list (qja (A:=A) (σ₀:=σ₀) (fun a σ w u q hk=>⟨σ,u,q,hk⟩) _ a σ w (fun t ht=>⟨qb8 hn ht,hA t ht⟩) u q h)
  |true=>
   exact ah id n ops σ a w N _ hn u (fun _ _ _ h=>h) (fun a C w r j hk=>⟨C,r,q.trans (j.mono hA),hk⟩) h
 |seq x y V Y=>
  intro A hA hn N X R σ₀ σ a w u q h
  simp only[tN,List.mem_append]at hA
  have ae:=T (l:=tN x) (m:=tN y) hn
  have af:=U (l:=tN x) (m:=tN y) hn
  simp only[den]at h
  split at h
  ·refine wp_seq (wp_mono (V A (fun t ht=>hA t (.inl ht)) ae _ X R σ₀ σ a w u q h) ?_)
   intro e a w hq
   cases e<;>try exact hq
   obtain⟨C,r,j,hk⟩:=hq
   exact Y A (fun t ht=>hA t (.inr ht)) af N X R σ₀ C a w r j hk
  ·rename_i D hD
   obtain⟨J,h1,h2⟩:=h
   have ag:=V (tN x) (fun t ht=>ht) ae _ X R σ σ a w u (agree.refl _ _) h1
   refine wp_seq (wp_mono ag ?_)
   intro e a w hq
   cases e with
   |normal=>
    obtain⟨C,r,j,hk⟩:=hq
    have:=DH hk (h2 C) w hk
    rw[KB j,CY rfl]at this
    exact Y A (fun t ht=>hA t (.inr ht)) af N X R σ₀ C a w r (q.trans (j.mono fun t ht=>hA t (.inl ht))) this
   |exit id=>obtain⟨C,r,j,hk⟩:=hq;exact⟨C,r,q.trans (j.mono fun t ht=>hA t (.inl ht)),hk⟩
   |ret=>exact hq
   |goto l=>exact hq
   |panic ch=>exact hq
   |outgrown=>exact hq
 |cond c x y V Y=>
  intro A hA hn N X R σ₀ σ a w u q h
  simp only[tN,List.mem_append]at hA
  simp only[den]at h
  split at h
  ·rename_i t ht
   have hc:a.eval c=.bool t:=by rw[u.eval];exact ht
   unfold aQ at h
   split at h
   ·exact wp_cond_true hc (V A (fun t ht=>hA t (.inl ht)) (T (l:=tN x) (m:=tN y) hn) N X R σ₀ σ a w u q h)
   ·exact wp_cond_false hc (Y A (fun t ht=>hA t (.inr ht)) (U (l:=tN x) (m:=tN y) hn) N X R σ₀ σ a w u q h)
  ·exact h.elim
 |block id x ih=>
  intro A hA hn N X R σ₀ σ a w u q h
  refine wp_block (wp_mono (ih A hA hn N _ R σ₀ σ a w u q h) ?_)
  intro e a w hq
  cases e<;>try exact hq
  rename_i i
  simp only[Exit.inBlock]
  obtain⟨C,r,j,hk⟩:=hq
  by_cases hi:i=id
  ·rw[if_pos hi]
   rw[show Nat.beq i id=true by rw[hi];exact Nat.beq_refl id]at hk
   exact⟨C,r,j,hk⟩
  ·rw[if_neg hi]
   rw[show Nat.beq i id=false by cases hb:Nat.beq i id with|false=>rfl|true=>exact absurd (Nat.eq_of_beq_eq_true hb) hi]at hk
   exact⟨C,r,j,hk⟩
 |loop x ih=>
  intro A hA hn N X R σ₀ σ a w u q h
  obtain⟨I,μ,h0,h1⟩:=h
  refine wp_loop (I:=fun a' w'=>∃C,Rep n a' C∧agree (tN x) σ C∧vR NoI _ I ((ZO (An.lp x)).map C) w')
   (μ:=fun a' w'=>vR NoM _ μ ((ZO (An.lp x)).map fun t=>a'.tmps.getD t undef) w') ⟨σ,u,agree.refl _ _,h0⟩ ?_
  intro a' w' ⟨C,r,j,hI⟩
  have:=DH hI (h1 C) w' hI
  rw[KB j,CY rfl]at this
  refine wp_mono (ih (tN x) (fun t ht=>ht) hn _ X R σ C a' w' r j this) ?_
  intro e aj ak hq
  have Z:∀{a:Act} {σ:bV},Rep n a σ→(fun t=>a.tmps.getD t undef)=σ:=fun u=>funext u.get
  cases e with
  |normal=>
   obtain⟨ab,O,M,hk1,hk2⟩:=hq
   refine⟨⟨ab,O,M,hk1⟩,?_⟩
   rw[Z O,Z r];exact hk2
  |exit id=>obtain⟨ab,O,M,hk⟩:=hq;exact⟨ab,O,q.trans (M.mono hA),hk⟩
  |ret=>exact hq
  |goto l=>exact hq
  |panic ch=>exact hq
  |outgrown=>exact hq
 |exit id=>intro A _ _ N X R σ₀ σ a w u q h;exact wp_exit ⟨σ,u,q,h⟩
 |ret=>intro A _ _ N X R σ₀ σ a w u _ h;exact wp_ret ⟨σ,u,h⟩
 |rangeFunc=>intro A _ _ N X R σ₀ σ a w _ _ h;exact h.elim
 |scope=>intro A _ _ N X R σ₀ σ a w _ _ h;exact h.elim
 |goto=>intro A _ _ N X R σ₀ σ a w _ _ h;exact h.elim
 |refuse=>intro A _ _ N X R σ₀ σ a w _ _ h;exact h.elim
end
def quq:List Value→Value
 |[v]=>v
 |vs=>.tuple vs.toArray
def qk2(P:Program)(σ:bV)(w:World):List ResultVar→(List Value→Prop)→Prop
 |[],k=>k []
 |.tmp t::r,k=>qk2 P σ w r fun vs=>k (σ t::vs)
 |.cell a t::r,k=>aF P t (xA P t) (σ a) w (Z4 _ fun xs=>qk2 P σ w r fun vs=>k ((xA P t).mk xs::vs))
def OH(P:Program)(fn:Func)(R:Ending→World→Prop)(σ:bV)(w:World):Prop:=qk2 P σ w fn.results.toList fun vs=>R (.returned (quq vs)) w
theorem XX{P:Program}{w:World}{tmps:Array Value}{σ:bV}(hs:∀t,tmps.getD t undef=σ t):∀{l:List ResultVar} {k:List Value→Prop},qk2 P σ w l k→
  ∃vs,(l.mapM (fun|.tmp t=>pure (tmps.getD t undef)|.cell a t=>do loadVar t (←asAddr (tmps.getD a undef)):ResultVar→Sem Value)).run P w=.ok vs w∧k vs
 |[],k,h=>⟨[],by simp,h⟩
 |.tmp t::r,k,h=>by
  obtain⟨vs,hv,hk⟩:=XX hs (show qk2 P σ w r fun vs=>k (σ t::vs)from h)
  refine⟨σ t::vs,?_,hk⟩
  rw[←hs]
  simp only[List.mapM_cons,Sem.run_bind,Sem.run_pure,Result.andThen_ok]
  rw[hv];rfl
 |.cell a t::r,k,h=>by
  obtain⟨xs,hx,h⟩:=jS (show aF P t (xA P t) (σ a) w (Z4 _ fun xs=>qk2 P σ w r fun vs=>k ((xA P t).mk xs::vs))from h)
  obtain⟨vs,hv,hk⟩:=XX hs h
  refine⟨(xA P t).mk xs::vs,?_,hk⟩
  simp only[List.mapM_cons,Sem.run_bind,Sem.run_pure,Result.andThen_ok]
  have hl:(asAddr (tmps.getD a undef)>>=fun x=>loadVar t x:Sem Value).run P w=.ok ((xA P t).mk xs) w:=by
   rw[hs]
   unfold Instr.loadAt at hx
   cases hp:σ a with
   |pointer p=>cases p with
    |none=>rw[hp]at hx;simp [Instr.sureAddr,Sem.run,stuck]at hx
    |some ad=>rw[hp]at hx;exact hx
   |_=>rw[hp]at hx;simp [Instr.sureAddr,Sem.run,stuck]at hx
  rw[←Sem.run_bind,hl]
  simp only[Result.andThen_ok]
  rw[hv];rfl
theorem EL{P:Program}{fn:Func}{R:Ending→World→Prop}{σ:bV}{w:World}{tmps:Array Value}(hs:∀t,tmps.getD t undef=σ t)(h:OH P fn R σ w):
  ∃v,(results fn tmps).run P w=.ok v w∧R (.returned v) w:=by
 obtain⟨vs,hv,hk⟩:=XX hs h
 refine⟨_,?_,hk⟩
 unfold results
 rw[Array.mapM_eq_mapM_toList]
 simp only[Sem.run_bind,←bind_pure_comp]
 erw [hv]
 simp only[Result.andThen_ok,Sem.run_pure]
 match vs with
 |[]=>rfl
 |[t]=>rfl
 |_::_::_=>rfl
theorem qbC{P:Program}{draw:Array Oper→bV→World→(bV→World→Prop)→Prop}{An:An}{f:FuncId}{fn:Func}{c:Code}{args:Array Value}{w:World}{R:Ending→World→Prop}
  (q:qf7 P draw) (hf:P.funcs[f]?=some fn) (hb:fn.body=some c) (hs:args.size+(fn.ntmps-args.size)=fn.ntmps) (hn:EU fn.ntmps (tN c)=true)
  (h:den P draw An c (OH P fn R) (fun _ _ _=>False) (OH P fn R) (fun t=>args.getD t undef) w):Calls P f args w R:=by
 refine calls_of_wp hf hb (wp_mono (qgI (An:=An) q c (tN c) (fun _ h=>h) hn _ _ _ _ _ _ w ⟨by simpa using hs,rfl,fun t=>?_⟩ (agree.refl _ _) h) ?_)
 ·simp only[Array.getD_eq_getD_getElem?,Array.getElem?_append,Array.getElem?_replicate]
  split
  ·rfl
  ·rename_i cR;rw[Array.getElem?_eq_none (by omega)];split<;>rfl
 ·intro e a w hq
  cases e with
  |normal=>obtain⟨σ,j,_,hk⟩:=hq;exact⟨j.defers,EL j.get hk⟩
  |ret=>obtain⟨σ,j,hk⟩:=hq;exact⟨j.defers,EL j.get hk⟩
  |exit id=>obtain⟨_,_,_,hk⟩:=hq;exact hk.elim
  |goto l=>exact hq
  |panic ch=>exact hq.elim
  |outgrown=>exact hq.elim
end
section
open Go
section
variable {P:Program} {ops:Array Oper} {Q:Exit→Act→World→Prop} {md:Region.Mode} {S:Array Bool→World→Prop}
def uA(ops:Array Oper)(L:Array Bool):Prop:=∀(k:Nat) (o:Oper),ops[k]?=some o→L.getD k false=true→∀e∈o.after,Region.binds .any e=true→L.getD e.on false=true
theorem PH{L:Array Bool}{j:Nat}(h:uA ops L)(hj:j∈Region.ready .any ops L):uA ops (L.setIfInBounds j true):=by
 intro k o hk hL e he hb
 refine getD_set_true ?_
 by_cases r:k=j
 ·subst r
  obtain⟨_,o',q,hall⟩:=mem_ready.1 hj
  rw[hk]at q;injection q with q;subst q
  exact hall e he hb
 ·rw[getD_set_ne false (Ne.symm r)]at hL
  exact h k o hk hL e he hb
def A3(P:Program)(ops:Array Oper)(Q:Exit→Act→World→Prop)(S:Array Bool→World→Prop):Nat→Array Bool→Act→World→Prop
 |0,L,a,w=>Region.ready .any ops L=[]∧Q .normal a w
 |fuel+1,L,a,w=>(Region.ready .any ops L=[]→Q .normal a w)∧∀i∈Region.ready .any ops L,wpOp P ops Q i (fun j w'=>S (L.setIfInBounds i true) w'∧A3 P ops Q S fuel (L.setIfInBounds i true) j w') a w
theorem ZD:∀(fuel:Nat) (L:Array Bool) (a:Act) (w:World),A3 P ops Q S fuel L a w→wpAny P .any ops Q fuel L a w
 |0,_,_,_,h=>h
 |fuel+1,_,_,_,h=>⟨h.1,fun i hi=>wpOp_mono (fun j w' h'=>ZD fuel _ j w' h'.2) (h.2 i hi)⟩
def qhh(ops:Array Oper)(S:Array Bool→World→Prop)(i:Nat)(w:World):Prop:=∃L,uA ops L∧L.getD i true=false∧S L w
theorem qdc{i:Nat}{O:Oper}{v:Value}(hi:ops[i]?=some O)(J:∀(j:Nat) (o:Oper) cs b,ops[j]?=some o→o.op≠.select cs b)
  (hQ:∀c a w,Q (.panic c) (a.put O.dst v) w→Q (.panic c) a w) (M:∀L w,S (L.setIfInBounds i true) w↔S L w):
  ∀(fuel:Nat) (L:Array Bool) (a:Act) (w:World),
   (∀j T,ops[j]?=some T→j≠i→L.getD j true=false→(∀e∈T.after,Region.binds .any e=true→e.on≠i)→O.apart ops T=true)→
   uA ops L→i∈Region.ready .any ops L→YieldsIf P ops (qhh ops S i) O v a→S L w→
   A3 P ops Q S fuel (L.setIfInBounds i true) (a.put O.dst v) w→A3 P ops Q S (fuel+1) L a w:=by
 intro fuel
 induction fuel with
 |zero=>
  intro L a w _ u C Y hS H
  refine⟨fun h=>(by rw[h]at C;cases C),fun j hj=>?_⟩
  by_cases q:j=i
  ·subst q;exact Y.wpOp hi ⟨L,u,(mem_ready.1 C).1,hS⟩ ⟨(M _ _).2 hS,H⟩
  ·have:=ready_mono hj q
   rw[H.1]at this
   cases this
 |succ fuel ih=>
  intro L a w r u C Y hS H
  refine⟨fun h=>(by rw[h]at C;cases C),fun j hj=>?_⟩
  by_cases q:j=i
  ·subst q;exact Y.wpOp hi ⟨L,u,(mem_ready.1 C).1,hS⟩ ⟨(M _ _).2 hS,H⟩
  ·have h1:=H.2 j (ready_mono hj q)
   obtain⟨I,T,N,hall⟩:=mem_ready.1 hj
   have V:∀e∈T.after,Region.binds .any e=true→e.on≠i:=fun e he hb Z=>by
    have h1:=hall e he hb
    have h0:=(mem_ready.1 C).1
    rw[Z]at h1
    rcases Nat.lt_or_ge i L.size with h'|h'
    ·simp [h']at h0 h1;rw[h0]at h1;cases h1
    ·simp [Array.getElem?_eq_none h']at h1
   have h2:=wpOp_putIf N (r j T N q I V) (fun cs b=>J i O cs b hi) (fun cs b=>J j T cs b N) hQ Y h1
   have A:∀k ok,ops[k]?=some ok→k≠i→(L.setIfInBounds j true).getD k true=false→
     (∀e∈ok.after,Region.binds .any e=true→e.on≠i)→O.apart ops ok=true:=fun k ok hk aa X ab=>by
    refine r k ok hk aa ?_ ab
    by_cases U:j=k
    ·subst U;exact I
    ·rw[getD_set_ne true U]at X;exact X
   refine wpOp_mono (fun a' w' h3=>?_) h2
   obtain⟨h4,h5,h6⟩:=h3
   rw[Array.setIfInBounds_comm _ _ (Ne.symm q)]at h5
   have h5:=(M _ _).1 h5
   refine⟨h5,ih (L.setIfInBounds j true) a' w' A (PH u hj) (ready_mono C (Ne.symm q)) h4 h5 ?_⟩
   rw[Array.setIfInBounds_comm _ _ q]
   exact h6
theorem DJ{i:Nat}{j:Oper}{v:Value}{fuel:Nat}{L:Array Bool}{a:Act}{w:World}(hi:ops[i]?=some j)
  (hs:Region.noSelect ops=true) (hf:Region.free .any ops L i=true) (r:uA ops L) (A:(Region.ready .any ops L).contains i=true)
  (u:∀c a w,Q (.panic c) (a.put j.dst v) w→Q (.panic c) a w) (q:∀L w,S (L.setIfInBounds i true) w↔S L w) (C:YieldsIf P ops (qhh ops S i) j v a) (hS:S L w)
  (h:A3 P ops Q S fuel (L.setIfInBounds i true) (a.put j.dst v) w):A3 P ops Q S (fuel+1) L a w:=
 qdc hi (Region.noSelect_spec hs) u q fuel L a w (Region.free_spec hi hf) r (by simpa using A) C hS h
theorem qif{rs:List Nat}{fuel:Nat}{L:Array Bool}{a:Act}{w:World}(q:Region.ready .any ops L=rs)(j:rs≠[])
  (h:∀i∈rs,wpOp P ops Q i (fun r w'=>S (L.setIfInBounds i true) w'∧A3 P ops Q S fuel (L.setIfInBounds i true) r w') a w):A3 P ops Q S (fuel+1) L a w:=
 ⟨fun h0=>absurd (q▸h0) j,q▸h⟩
theorem qfL{L:Array Bool}{a:Act}{w:World}(j:Region.ready .any ops L=[])(h:Q .normal a w):∀fuel,A3 P ops Q S fuel L a w
 |0=>⟨j,h⟩
 |_+1=>⟨fun _=>h,by rw[j];simp⟩
theorem DK{id:Nat}{a:Act}{w:World}(hm:P.follows .mixedOrders=true)
  (h:A3 P ops Q S ops.size (Array.replicate ops.size false) a {w with drawn:=w.drawn+1}):(Code.region id ops true).wp P Q a w:=
 wp_region_any hm (ZD _ _ _ _ h)
def d8(o:Oper):Bool:=match o.op with
 |.store .. =>true
 |_=>false
def WC(j:List Nat):List Edge→Nat→Nat
 |[],s=>s
 |e::r,s=>match Region.binds .any e with
  |true=>WC j r (s|||(2^e.on|||j.getD e.on 0))
  |false=>WC j r s
def ED:List Oper→List Nat→List Nat
 |[],j=>j
 |o::r,j=>ED r (j++[WC j o.after.toList 0])
def BG:List Oper→List Nat→Nat→Nat
 |o::r,n::l,s=>match d8 o with
  |true=>BG r l (s&&&n)
  |false=>BG r l s
 |_,_,s=>s
def rO:List Oper→List Bool→Bool
 |o::r,b::l=>(d8 o&&b)||rO r l
 |_,_=>false
def qhu(ops:Array Oper)(j:List Nat):Prop:=∀(k i:Nat),(j.getD k 0).testBit i=true→∀L,uA ops L→L.getD k false=true→L.getD i false=true
theorem NF{A:List Nat}(ha:qhu ops A){L:Array Bool}(j:uA ops L):∀(es:List Edge) (s:Nat),(∀e∈es,Region.binds .any e=true→L.getD e.on false=true)→(∀i,s.testBit i=true→L.getD i false=true)→∀i,(WC A es s).testBit i=true→L.getD i false=true
 |[],_,_,hs,i,h=>hs i h
 |e::r,s,he,hs,i,h=>by
  rw[WC]at h
  split at h
  ·rename_i hb
   have C:=he e (by simp) hb
   refine NF ha j r _ (fun I u=>he I (by simp [u])) (fun q hq=>?_) i h
   rw[Nat.testBit_or,Nat.testBit_or,Bool.or_eq_true,Bool.or_eq_true]at hq
   rcases hq with hq|hq|hq
   ·exact hs q hq
   ·rw[Nat.testBit_two_pow]at hq
    have:e.on=q:=by simpa using hq
    rw[←this];exact C
   ·exact ha e.on q hq L j C
  ·exact NF ha j r _ (fun I u=>he I (by simp [u])) hs i h
theorem WB:∀(l:List Oper) (j:List Nat),(∀k o,l[k]?=some o→ops[j.length+k]?=some o)→qhu ops j→qhu ops (ED l j)
 |[],_,_,h=>h
 |o::r,j,hl,h=>by
  rw[ED]
  refine WB r _ (fun k o' hk=>?_) ?_
  ·rw[List.length_append,List.length_singleton,Nat.add_assoc,Nat.add_comm 1 k]
   exact hl (k+1) o' hk
  ·intro k i hb L u hL
   rw[List.getD_eq_getElem?_getD,List.getElem?_append]at hb
   split at hb
   ·exact h k i (by rw[List.getD_eq_getElem?_getD];exact hb) L u hL
   ·rename_i hk
    have hk2:k-j.length=0∨k-j.length≠0:=by omega
    rcases hk2 with hk2|hk2
    ·rw[hk2]at hb
     have C:k=j.length:=by omega
     have I:=hl 0 o rfl
     rw[Nat.add_zero,←C]at I
     exact NF h u o.after.toList 0 (fun e he A=>u k o I hL e (by simpa using he) A) (fun q hq=>by simp at hq) i (by simpa using hb)
    ·rw[List.getElem?_eq_none (by simp;omega)]at hb
     simp at hb
theorem BH:∀(l:List Oper) (ns:List Nat) (s i:Nat),(BG l ns s).testBit i=true→s.testBit i=true∧∀k o,l[k]?=some o→d8 o=true→k<ns.length→(ns.getD k 0).testBit i=true
 |[],ns,s,i,h=>⟨by cases ns<;>exact h,fun k o hk=>by cases hk⟩
 |o::r,[],s,i,h=>⟨h,fun k o' hk _ cR=>by simp at cR⟩
 |o::r,n::ns,s,i,h=>by
  rw[BG]at h
  split at h
  ·rename_i hs
   obtain⟨h1,h2⟩:=BH r ns _ i h
   rw[Nat.testBit_and,Bool.and_eq_true]at h1
   refine⟨h1.1,fun k o' hk j cR=>?_⟩
   cases k with
   |zero=>exact h1.2
   |succ k=>exact h2 k o' hk j (by simpa using cR)
  ·rename_i hs
   obtain⟨h1,h2⟩:=BH r ns _ i h
   refine⟨h1,fun k o' hk j cR=>?_⟩
   cases k with
   |zero=>simp only[List.getElem?_cons_zero,Option.some.injEq]at hk;subst hk;rw[j]at hs;cases hs
   |succ k=>exact h2 k o' hk j (by simpa using cR)
theorem qdv:∀(l:List Oper) (bs:List Bool),rO l bs=true→∃(k:Nat) (o:Oper),l[k]?=some o∧d8 o=true∧bs[k]?=some true
 |[],_,h=>by simp [rO]at h
 |o::r,[],h=>by simp [rO]at h
 |o::r,b::l,h=>by
  rw[rO,Bool.or_eq_true,Bool.and_eq_true]at h
  rcases h with h|h
  ·exact⟨0,o,rfl,h.1,by rw[h.2];rfl⟩
  ·obtain⟨k,o',h1,h2,h3⟩:=qdv r l h
   exact⟨k+1,o',h1,h2,h3⟩
theorem qaj:∀(l:List Oper) (bs:List Bool) (i:Nat),(∀o,l[i]?=some o→d8 o=false)→rO l (bs.set i true)=rO l bs
 |[],bs,i,_=>by cases bs<;>cases i<;>rfl
 |o::r,[],i,_=>by cases i<;>rfl
 |o::r,b::l,0,h=>by
  have:=h o rfl
  rw[List.set_cons_zero,rO,rO,this];rfl
 |o::r,b::l,i+1,h=>by
  rw[List.set_cons_succ,rO,rO,qaj r l i fun o j=>h o j]
end
def qkG(o:Oper):Bool:=match o.op with
 |.load .. =>true
 |_=>false
def qmT(l:List Oper):Operand→Bool
 |.tmp t=>l.any fun o=>match o.op,o.dst with
  |.indexAddr ..,some d=>Nat.beq d t
  |_,_=>false
 |_=>false
def qti(l:List Oper):Bool:=l.any fun o=>match o.op with
 |.store _ x _=>qmT l x
 |_=>false
def quk(l:List Oper)(t:Nat):Option Nat:=l.findSome? fun o=>match o.op,o.dst with
 |.nilCheck (.tmp u),some d=>(match Nat.beq d t with|true=>some u|false=>none)
 |.move (.tmp u),some d=>(match Nat.beq d t with|true=>some u|false=>none)
 |_,_=>none
def qua(l:List Oper)(t:Nat):Option (Nat×Nat×Nat):=l.findSome? fun o=>match o.op,o.dst with
 |.fieldAddr T (.tmp b) k,some d=>(match Nat.beq d t with|true=>some (T,b,k)|false=>none)
 |_,_=>none
def qnF(l:List Oper):Nat→Nat→List Nat
 |0,t=>[t]
 |f+1,t=>match qua l t with
  |some (T,b,k)=>T::k::qnF l f b
  |none=>match quk l t with
   |some u=>qnF l f u
   |none=>[t]
def qmB(l:List Oper):Operand→List Nat
 |.tmp t=>qnF l 8 t
 |_=>[]
def eqL:List Nat→List Nat→Bool
 |[],[]=>true
 |a::x,b::y=>Nat.beq a b&&eqL x y
 |_,_=>false
def qso(l:List Oper)(x:Operand):Bool:=match qmB l x with
 |[]=>false
 |a::r=>l.any fun o=>match o.op with
  |.store _ p _=>eqL (a::r) (qmB l p)
  |_=>false
def PQ(l:List Oper)(o:Oper):Bool:=match o.op with
 |.load _ x=>match qmT l x with
  |true=>!qti l
  |false=>!qso l x
 |_=>false
def qm3(l:List Oper)(E:Nat):List Oper→Nat→Nat
 |[],_=>0
 |o::r,i=>match qkG o&& !PQ l o&&E.testBit i with
  |true=>qm3 l E r (i+1)+1
  |false=>qm3 l E r (i+1)
def qgJ(ops:Array Oper):Nat:=
 let E:=BG ops.toList (ED ops.toList []) (2^ops.size-1)
 match Nat.ble 2 (qm3 ops.toList E ops.toList 0)with
 |true=>E
 |false=>0
def qeZ(P:Program)(ops:Array Oper)(E:Nat):List Nat→Option Nat
 |[]=>none
 |i::r=>match ops[i]? with
  |some o=>match isQ P o||PQ ops.toList o||(qkG o&&E.testBit i)with
   |true=>some i
   |false=>qeZ P ops E r
  |none=>qeZ P ops E r
def qrn:List Nat→(Nat→Prop)→Prop
 |[],_=>True
 |[i],p=>p i
 |i::r,p=>p i∧qrn r p
theorem qdu{p:Nat→Prop}:∀{l:List Nat},qrn l p→∀i∈l,p i
 |[i],h,j,hj=>by simp at hj;subst hj;exact h
 |i::j::r,h,k,hk=>by
  rcases List.mem_cons.1 hk with rfl|hk
  ·exact h.1
  ·exact qdu h.2 k hk
def qb6(ops:Array Oper)(σ:bV)(o:Oper)(A:bV→Prop)(B:bV→Prop):Prop:=match o.guard with
 |none=>A σ
 |some g=>aQ (BP ops σ g) (A (y4 ops σ g true)) (B (y4 ops σ g false))
def qhK(P:Program)(l:List Oper)(B B1:World→Prop)(o:Oper)(σ:bV)(k:Value→Prop):Prop:=match isQ P o with
 |true=>qvG P o σ k
 |false=>match o.op with
  |.load t x=>match PQ l o with
   |true=>aI P t (xA P t) (jE σ x) B (Z4 _ fun vs=>k ((xA P t).mk vs))
   |false=>aI P t (xA P t) (jE σ x) B1 (Z4 _ fun vs=>k ((xA P t).mk vs))
  |_=>False
def tD(E:Nat)(ops:Array Oper)(L:Array Bool)(B B1:World→Prop)(w:World):Prop:=match E with
 |0=>B w
 |_=>match rO ops.toList L.toList with
  |true=>B w
  |false=>B w∧B1 w
def BE(P:Program)(ops:Array Oper)(E:Nat)(B B1:World→Prop)(K:bV→World→Prop):Nat→Array Bool→bV→World→Prop
 |0,L,σ,w=>match Region.ready .any ops L with
  |[]=>K σ w
  |_=>False
 |n+1,L,σ,w=>match Region.ready .any ops L with
  |[]=>K σ w
  |i::r=>match qeZ P ops E (i::r)with
   |some j=>match ops[j]?,Region.free .any ops L j with
    |some o,true=>qb6 ops σ o (fun σ=>qhK P ops.toList B B1 o σ fun v=>BE P ops E B B1 K n (L.setIfInBounds j true) (AW σ o.dst v) w) (fun σ=>BE P ops E B B1 K n (L.setIfInBounds j true) (AW σ o.dst undef) w)
    |_,_=>False
   |none=>qrn (i::r) fun j=>match ops[j]? with
    |some o=>qb6 ops σ o (fun σ=>opG P o σ w fun v w'=>tD E ops (L.setIfInBounds j true) B B1 w'∧BE P ops E B B1 K n (L.setIfInBounds j true) (AW σ o.dst v) w') (fun σ=>BE P ops E B B1 K n (L.setIfInBounds j true) (AW σ o.dst undef) w)
    |none=>False
def qth(P:Program):List Oper→Bool
 |[]=>false
 |o::r=>match isQ P o||qkG o with
  |true=>qth P r
  |false=>true
def PI(P:Program)(ops:Array Oper)(σ:bV)(w:World)(K:bV→World→Prop):Prop:=match Region.noSelect ops with
 |true=>match qth P ops.toList with
  |false=>BE P ops 0 (fun w'=>w'=w.drew) (fun _=>True) K ops.size (Array.replicate ops.size false) σ w.drew
  |true=>match qgJ ops with
   |0=>∃B:World→Prop,B w.drew∧BE P ops 0 B (fun _=>True) K ops.size (Array.replicate ops.size false) σ w.drew
   |E+1=>∃B B1:World→Prop,(B w.drew∧B1 w.drew)∧BE P ops (E+1) B B1 K ops.size (Array.replicate ops.size false) σ w.drew
 |false=>False
section
variable {P:Program} {ops:Array Oper} {B B1:World→Prop} {K:bV→World→Prop} {Q:Exit→Act→World→Prop} {n:Nat} {σ₀:bV} {E:Nat}
def SW(ops:Array Oper)(E:Nat):Prop:=∀i,E.testBit i=true→∀k o,ops[k]?=some o→d8 o=true→∀L,uA ops L→L.getD k false=true→L.getD i false=true
theorem PT:∀(l:List Oper) (j:List Nat),(ED l j).length=j.length+l.length
 |[],j=>rfl
 |o::r,j=>by rw[ED,PT r,List.length_append,List.length_singleton,List.length_cons];omega
theorem qkj(ops:Array Oper):SW ops (qgJ ops):=by
 intro i hi k o hk u L j hL
 unfold qgJ at hi
 dsimp only at hi
 split at hi
 ·obtain⟨_,h2⟩:=BH _ _ _ i hi
  have r:k<ops.toList.length:=by rw[Array.length_toList];exact(Array.getElem?_eq_some_iff.1 hk).1
  refine WB (ops:=ops) ops.toList [] (fun q o' hq=>by simpa using hq) (fun q p hb=>by simp at hb) k i ?_ L j hL
  exact h2 k o (by simpa using hk) u (by rw[PT];simpa using r)
 ·simp at hi
theorem JL(ops:Array Oper):SW ops 0:=fun i hi=>by simp at hi
theorem XT{o:Oper}{σ:bV}{k:Value→Prop}(h:qhK P ops.toList B B1 o σ k):∃v,(∀w,B w→(isQ P o=true∨PQ ops.toList o=true∨B1 w)→(execOp (jE σ) o).run P w=.ok (.value v) w)∧k v:=by
 unfold qhK at h
 split at h
 ·obtain⟨v,j,hk⟩:=qji h;exact⟨v,fun w _ _=>j w,hk⟩
 ·rename_i hq
  split at h
  ·rename_i t x r
   split at h
   ·obtain⟨vs,j,hk⟩:=jS h
    exact⟨_,fun w hB _=>by unfold execOp;rw[r];exact PY (j w hB),hk⟩
   ·rename_i hl
    obtain⟨vs,j,hk⟩:=jS h
    refine⟨_,fun w _ hB=>?_,hk⟩
    have q:B1 w:=by
     rcases hB with h|h|h
     ·rw[hq]at h;cases h
     ·rw[hl]at h;cases h
     ·exact h
    unfold execOp;rw[r];exact PY (j w q)
  ·exact h.elim
theorem qgZ{o:Oper}{l:List Oper}{b:Bool}(h:(isQ P o||PQ l o||(qkG o&&b))=true):d8 o=false:=by
 unfold d8
 split
 ·rename_i t x y j
  unfold PQ qkG at h
  rw[j]at h
  have:isQ P o=false:=by unfold isQ;rw[j]
  rw[this]at h;cases h
 ·rfl
theorem qkC{L:Array Bool}{i:Nat}{w:World}(h:∀o,ops[i]?=some o→d8 o=false):tD E ops (L.setIfInBounds i true) B B1 w↔tD E ops L B B1 w:=by
 unfold tD
 cases E with
 |zero=>exact Iff.rfl
 |succ E=>
  rw[Array.toList_setIfInBounds,qaj _ _ _ fun o j=>h o (by simpa using j)]
theorem qiR{L:Array Bool}{w:World}(h:tD E ops L B B1 w):B w:=by
 unfold tD at h
 split at h
 ·exact h
 ·split at h
  ·exact h
  ·exact h.1
theorem TZ:∀(l:List Oper) (bs:List Bool) (i:Nat),rO l (bs.set i true)=false→rO l bs=false
 |[],bs,i,_=>by cases bs<;>rfl
 |o::r,[],i,_=>rfl
 |o::r,b::l,0,h=>by
  rw[List.set_cons_zero,rO,Bool.or_eq_false_iff,Bool.and_eq_false_iff]at h
  rw[rO,Bool.or_eq_false_iff,Bool.and_eq_false_iff]
  refine⟨.inl ?_,h.2⟩
  rcases h.1 with h1|h1
  ·exact h1
  ·cases h1
 |o::r,b::l,i+1,h=>by
  rw[List.set_cons_succ,rO,Bool.or_eq_false_iff]at h
  rw[rO,Bool.or_eq_false_iff]
  exact⟨h.1,TZ r l i h.2⟩
theorem qgU{L:Array Bool}{i:Nat}{w:World}(h:tD E ops L B B1 w):tD E ops (L.setIfInBounds i true) B B1 w:=by
 have hB:=qiR h
 cases E with
 |zero=>exact hB
 |succ E=>
  unfold tD at h⊢
  cases h1:rO ops.toList (L.setIfInBounds i true).toList with
  |true=>exact hB
  |false=>
   rw[Array.toList_setIfInBounds]at h1
   rw[TZ _ _ _ h1]at h
   exact h
theorem qmO{L:Array Bool}{i:Nat}{w:World}(r:SW ops E)(q:uA ops L)(hi:L.getD i true=false)(hb:E.testBit i=true)(h:tD E ops L B B1 w):B1 w:=by
 unfold tD at h
 split at h
 ·simp at hb
 ·split at h
  ·rename_i j
   obtain⟨k,o,h1,h2,h3⟩:=qdv _ _ j
   have:=r i hb k o (by simpa using h1) h2 L q (by rw[Array.getElem?_toList]at h3;simp [Array.getD_eq_getD_getElem?,h3])
   rw[Array.getD_eq_getD_getElem?]at this hi
   cases hx:L[i]? with
   |none=>rw[hx]at this;cases this
   |some b=>rw[hx]at this hi;simp at this hi;rw[this]at hi;cases hi
  ·exact h.2
theorem H2{j:Nat}:∀{l:List Nat},qeZ P ops E l=some j→j∈l∧∃o,ops[j]?=some o∧(isQ P o||PQ ops.toList o||(qkG o&&E.testBit j))=true
 |[],h=>by cases h
 |x::l,h=>by
  simp only[qeZ]at h
  split at h
  ·rename_i o q
   split at h
   ·rename_i hq
    injection h with h;subst h
    exact⟨by simp,o,q,hq⟩
   ·exact⟨List.mem_cons_of_mem _ (H2 h).1,(H2 h).2⟩
  ·exact⟨List.mem_cons_of_mem _ (H2 h).1,(H2 h).2⟩
theorem UY(hE:SW ops E)(X:Region.noSelect ops=true)(hp:∀c a w,¬Q (.panic c) a w)(hn:EU n (V3 ops.toList)=true)
  (hQ:∀a Z w,Rep n a Z→agree (V3 ops.toList) σ₀ Z→K Z w→Q .normal a w):
  ∀(f:Nat) (L:Array Bool) (a:Act) (σ:bV) (w:World),Rep n a σ→agree (V3 ops.toList) σ₀ σ→uA ops L→tD E ops L B B1 w→BE P ops E B B1 K f L σ w→A3 P ops Q (fun L w=>tD E ops L B B1 w) f L a w:=by
 intro f
 induction f with
 |zero=>
  intro L a σ w T U N hB h
  simp only[BE]at h
  split at h
  ·rename_i he;exact⟨he,hQ a σ w T U h⟩
  ·exact h.elim
 |succ f ih=>
  intro L a σ w T U N hB h
  have hd:∀{i:Nat} {o:Oper},ops[i]?=some o→∀t,o.dst=some t→t<n∧t∈V3 ops.toList:=fun hi t ht=>by
   have hm:t∈V3 ops.toList:=KC (List.mem_of_getElem? (by simpa using hi)) ht
   exact⟨qb8 hn hm,hm⟩
  have next:∀{i:Nat} {o:Oper} (v:Value) (w':World),ops[i]?=some o→i∈Region.ready .any ops L→tD E ops (L.setIfInBounds i true) B B1 w'→BE P ops E B B1 K f (L.setIfInBounds i true) (AW σ o.dst v) w'→A3 P ops Q (fun L w=>tD E ops L B B1 w) f (L.setIfInBounds i true) (a.put o.dst v) w':=
   fun v w' hi O af h'=>ih _ _ _ _ (T.put (fun t ht=>(hd hi t ht).1) v) (U.trans (GO (fun t ht=>(hd hi t ht).2) v)) (PH N O) af h'
  simp only[BE]at h
  split at h
  ·rename_i he;exact qfL he (hQ a σ w T U h) _
  ·rename_i i r he
   split at h
   ·rename_i j hj
    split at h
    ·rename_i o q J
     obtain⟨ah,o',C,Y⟩:=H2 hj
     rw[q]at C;injection C with C;subst C
     have u:j∈Region.ready .any ops L:=by rw[he];exact ah
     have O:(Region.ready .any ops L).contains j=true:=by simpa using u
     have ai:∀o',ops[j]?=some o'→d8 o'=false:=fun o' C=>by rw[q]at C;injection C with C;subst C;exact qgZ Y
     have M:∀L w,tD E ops (L.setIfInBounds j true) B B1 w↔tD E ops L B B1 w:=fun L w=>qkC ai
     have ae:∀{Z:bV} {v:Value},(∀w,B w→(isQ P o=true∨PQ ops.toList o=true∨B1 w)→(execOp (jE Z) o).run P w=.ok (.value v) w)→∀w,qhh ops (fun L w=>tD E ops L B B1 w) j w→(execOp (jE Z) o).run P w=.ok (.value v) w:=fun I w ⟨L',ac,ag,ab⟩=>by
      refine I w (qiR ab) ?_
      rw[Bool.or_eq_true,Bool.or_eq_true,Bool.and_eq_true]at Y
      rcases Y with(h1|h1)|h1
      ·exact .inl h1
      ·exact .inr (.inl h1)
      ·exact .inr (.inr (qmO hE ac ag h1.2 ab))
     unfold qb6 at h
     split at h
     ·rename_i hg
      obtain⟨v,I,hk⟩:=XT h
      exact DJ q X J N O (fun c a w hq=>(hp _ _ _ hq).elim) M (.inl ⟨by simp [Region.wanted,hg],fun w V=>by rw[T.eval];exact ae I w V⟩) hB (next v w q u ((M _ _).2 hB) hk)
     ·rename_i g hg
      have hw:=D9 (ops:=ops) T hg
      unfold aQ at h
      split at h
      ·rename_i hb
       rw[M5 hb]at h
       obtain⟨v,I,hk⟩:=XT h
       exact DJ q X J N O (fun c a w hq=>(hp _ _ _ hq).elim) M (.inl ⟨hw.trans hb,fun w V=>by rw[T.eval];exact ae I w V⟩) hB (next v w q u ((M _ _).2 hB) hk)
      ·rename_i hb
       rw[M5 hb]at h
       exact DJ q X J N O (fun c a w hq=>(hp _ _ _ hq).elim) M (.inr ⟨hw.trans hb,rfl⟩) hB (next undef w q u ((M _ _).2 hB) h)
    ·exact h.elim
   ·refine qif he (by simp) fun j hj=>?_
    have A:=qdu h j hj
    have u:j∈Region.ready .any ops L:=by rw[he];exact hj
    unfold wpOp
    split at A
    ·rename_i o q
     rw[q]
     dsimp only
     unfold qb6 at A
     split at A
     ·rename_i hg
      rw[if_pos (by simp [Region.wanted,hg])]
      exact .inl (XJ T.eval A fun v w' hk=>⟨hk.1,next v w' q u hk.1 hk.2⟩)
     ·rename_i g hg
      have hw:=D9 (ops:=ops) T hg
      unfold aQ at A
      split at A
      ·rename_i hb
       rw[M5 hb]at A
       rw[if_pos (hw.trans hb)]
       exact .inl (XJ T.eval A fun v w' hk=>⟨hk.1,next v w' q u hk.1 hk.2⟩)
      ·rename_i hb
       rw[M5 hb]at A
       rw[if_neg (by rw[hw,hb];simp)]
       have aa:tD E ops (L.setIfInBounds j true) B B1 w:=qgU hB
       exact⟨aa,next undef w q u aa A⟩
    ·exact A.elim
theorem N5(ops:Array Oper):uA ops (Array.replicate ops.size false):=fun k o _ hL=>by
 rw[Array.getD_eq_getD_getElem?,Array.getElem?_replicate]at hL
 split at hL<;>cases hL
theorem OX:∀(l:List Oper) (n:Nat),rO l (List.replicate n false)=false
 |[],n=>by cases n<;>rfl
 |o::r,0=>rfl
 |o::r,n+1=>by rw[List.replicate_succ,rO,Bool.and_false,Bool.false_or,OX r n]
end
theorem JK{P:Program}(hm:P.follows .mixedOrders=true):qf7 P (PI P):=by
 intro id n ops σ a w K Q hn r hp q h
 unfold PI at h
 split at h
 ·rename_i j
  split at h
  ·exact DK hm (UY (B:=fun w'=>w'=w.drew) (B1:=fun _=>True) (JL ops) j hp hn q _ _ _ _ _ r (agree.refl _ _) (N5 ops) rfl h)
  ·split at h
   ·obtain⟨B,hB,h⟩:=h
    exact DK hm (UY (JL ops) j hp hn q _ _ _ _ _ r (agree.refl _ _) (N5 ops) hB h)
   ·rename_i E u
    obtain⟨B,B1,hB,h⟩:=h
    refine DK hm (UY (E:=E+1) (by have h0:=qkj ops;rw[u]at h0;exact h0) j hp hn q _ _ _ _ _ r (agree.refl _ _) (N5 ops) ?_ h)
    unfold tD
    rw[Array.toList_replicate,OX]
    exact hB
 ·exact h.elim
theorem qdN{P:Program}(hm:P.follows .mixedOrders=true){An:An}{f:FuncId}{fn:Func}{c:Code}{args:Array Value}{w:World}{R:Ending→World→Prop}
  (hf:P.funcs[f]?=some fn) (hb:fn.body=some c) (hs:args.size+(fn.ntmps-args.size)=fn.ntmps) (hn:EU fn.ntmps (tN c)=true)
  (h:den P (PI P) An c (OH P fn R) (fun _ _ _=>False) (OH P fn R) (fun t=>args.getD t undef) w):Calls P f args w R:=
 qbC (JK hm) hf hb hs hn h
end
end Go.Proofs.YtabchipjjghhnaaGreatDoorV
