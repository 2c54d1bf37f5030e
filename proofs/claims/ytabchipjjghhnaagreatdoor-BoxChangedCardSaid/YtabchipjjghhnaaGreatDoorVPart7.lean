import Derived.Lib.AppendStr
import Derived.Lib.SlBytesConst
import Derived.Laws.Concat
import Derived.Laws.IdiomCopy
import Derived.Laws.Externs
import Derived.Laws.IdiomStrings
import Derived.Lib.Bytealg
import Derived.Test.YtabchipjjghhnaaGreatDoorVPart6
set_option linter.unusedVariables false
set_option linter.unusedSimpArgs false
namespace Go.Proofs.YtabchipjjghhnaaGreatDoorV
open Go Go.RowKit
section
theorem VP{α:Type}{l r:List α}{i:Nat}{d:α}(h:i<l.length):(l++r).getD i d=l.getD i d:=by simp [lH,T8 h]
theorem VQ{α:Type}{l r:List α}{i:Nat}{d:α}(h:l.length≤i):(l++r).getD i d=r.getD (i-l.length) d:=by simp [lH,T9 h]
section
variable {P:Program} {w0 w:World} {F:List It}
theorem qfj(vs:List Value):∀(c:Array Value) (a:Nat),(jR c a vs).size=c.size:=by
 induction vs with
 |nil=>intros;rfl
 |cons v r j=>intro c a;simp only[jR];rw[j];simp
theorem qhT(xs ys:List Value):∀(c:Array Value) (a:Nat),jR c a (xs++ys)=jR (jR c a xs) (a+xs.length) ys:=by
 induction xs with
 |nil=>intros;rfl
 |cons v r j=>intro c a;simp only[List.cons_append,jR];rw[j];simp only[iO];rw[Nat.add_right_comm,Nat.add_assoc]
def qiz:Nat→List (List Value)→List (Nat×Value)
 |_,[]=>[]
 |i,v::r=>(i,.agg v.toArray)::qiz (i+1) r
theorem VC(sz:Nat)(q:List (List Value))(h1:∀v∈q,v.length=sz):∀(j:Nat) (cells:Array Value),(j+q.length)*sz≤cells.size→Instr.fill (fun i=>some (i*sz,sz)) cells (qiz j q)=some (jR cells (j*sz) q.flatten):=by
 induction q with
 |nil=>intros;rfl
 |cons v r A=>
  intro j cells h
  have hv:=h1 v (by simp)
  have u:j*sz+sz≤cells.size:=by
   have:(j+1)*sz≤(j+(v::r).length)*sz:=kR _ (by simp)
   rw[mJ]at this;omega
  simp only[qiz,Instr.fill]
  rw[if_neg (by simp [Value.cells];omega),MT,A (fun v hv=>h1 v (by simp [hv])) (j+1) _ (by rw[qfj];simp only[iO]at h;rwa [show j+1+r.length=j+(r.length+1)by omega])]
  rw[QN,qhT,hv,mJ];rfl
theorem sI{t:TypeId}{n:Nat}{q:Array (Nat×Value)}{K:Value→World→Prop}(sz:Nat)(j:List (List Value))(h:Fr w0 w F)(hp:q.toList=qiz 0 j)(hn:j.length=n)(h1:∀v∈j,v.length=sz)
  (hk:∀ad w',Fr w0 w' (aT ad j.flatten::F)→K (.slice (some ad) n n) w') (hm:n*sz≤1000000:=by decide) (ht:YJ P t sz=true:=by kernel_rfl) (hz:(P.info? (dD P t)).bind (·.zero)≠none:=by decide):eG P t n q w K:=by
 obtain⟨hu,i,hi,C⟩:=M6 ht
 have I:∃z,i.zero=some z:=by
  rw[hi]at hz;simp only[Option.bind_some]at hz
  cases hh:i.zero with
  |none=>exact absurd hh hz
  |some z=>exact⟨z,rfl⟩
 obtain⟨z,hz⟩:=I
 have M:j.flatten.length=n*sz:=by
  subst hn;clear hp hk hm
  induction j with
  |nil=>simp
  |cons v r N=>simp only[QN,bD,h1 v (by simp),N (fun v hv=>h1 v (by simp [hv])),iO,mJ];omega
 obtain⟨u,J,A⟩:∃u:Array Value,u.size=n*sz∧(Instr.buildSlice t n q).run P w=.ok (.slice (some ⟨w.heap.size,0,none⟩) n n) (w.alloc (.cells (jR u 0 j.flatten) (dD P t))):=by
  simp only[Instr.buildSlice,Sem.run_bind,run_underlying hu,Result.andThen_ok,sizeOf,typeInfo,run_program,hi,Sem.run_pure,C]
  rw[if_neg (by omega)]
  by_cases h0:n*sz=0
  ·refine⟨#[],by simp [h0],?_⟩
   have he:∀f:Nat→Value,Array.map f (Array.range 0)= #[]:=fun f=>qfP (by simp)
   rw[hp,h0]
   simp only[if_true,Sem.run_bind,Sem.run_pure,Result.andThen_ok,he]
   rw[VC sz j h1 0 #[] (by rw[vV,hn,h0];exact bW _)]
   simp [newRow]
  ·refine⟨(Array.range (n*sz)).map (z.cells[· %z.cells.size]!),by simp,?_⟩
   rw[if_neg h0]
   simp only[Sem.run_bind,zeroValue,typeInfo,run_program,Result.andThen_ok,hi,hz,Sem.run_pure]
   rw[hp,VC sz j h1 0 _ (by simp [hn])]
   simp [newRow]
 have hl:=M4 j.flatten 0 u (by omega)
 simp only[MC,sG]at hl
 refine⟨_,_,A,hk _ _ (h.new (jt:=aT ⟨w.heap.size,0,none⟩ j.flatten) (Ev.alloc w _) ?_ fun k hk=>by have hk:k=w.heap.size:=hk;omega)⟩
 have:=St.alloc w (jR u 0 j.flatten) (dD P t)
 rwa [hl]at this
theorem qmE{t:TypeId}{u:IntKind}{sz n c:Nat}{ad:Addr}{i:Int}{K:Addr→Prop}(j:Nat)(q:i=(j:Int))(h1:j<n)(hk:K (ad.add (j*sz)))(ht:YJ P t sz=true:=by kernel_rfl):aX P t (.slice (some ad) n c) (.int u i) K:=by
 obtain⟨hu,A,hi,r⟩:=M6 ht
 subst q
 refine⟨ad.add (j*sz),fun w=>?_,hk⟩
 simp only[Instr.indexAt,asIntOf,Sem.run_bind,Sem.run_pure,Result.andThen_ok,run_underlying hu]
 rw[if_pos ⟨by omega,by omega⟩]
 simp [sizeOf,typeInfo,hi,r]
def qbz(P:Program)(t:TypeId)(n sz:Nat):Bool:=match P.underlying t with
 |some (.array m e)=>Nat.beq m n&&(match P.info? e with|some i=>Nat.beq i.size sz|none=>false)
 |_=>false
theorem qpu{t:TypeId}{r:IntKind}{sz:Nat}{ad:Addr}{i:Int}{K:Addr→Prop}(n j:Nat)(q:i=(j:Int))(h1:j<n)(hk:K (ad.add (j*sz)))(ht:qbz P t n sz=true:=by kernel_rfl):aX P t (aH ad) (.int r i) K:=by
 unfold qbz at ht
 split at ht
 ·rename_i m e hu
  simp only[mK]at ht
  have hm:=DO ht.1
  subst hm;subst q
  replace ht:=ht.2
  split at ht
  ·rename_i u hi
   refine⟨ad.add (j*sz),fun w=>?_,hk⟩
   simp only[Instr.indexAt,asIntOf,Sem.run_bind,Sem.run_pure,Result.andThen_ok,run_underlying hu,Instr.sureAddr]
   rw[if_pos ⟨by omega,by omega⟩]
   simp [sizeOf,typeInfo,hi,DO ht]
  ·cases ht
 ·cases ht
theorem gT{t:TypeId}{r:IntKind}{ad:Addr}{i:Int}{K:Addr→Prop}(n j:Nat)(q:i=(j:Int))(h1:j<n)(hk:K (ad.add j))(ht:qbz P t n 1=true:=by kernel_rfl):aX P t (aH ad) (.int r i) K:=
 qpu (sz:=1) n j q h1 (by rwa [K6]) ht
def Cn(e:TypeId)(w:World)(v:Value)(xs:List Int):Prop:=∃g,v=.slice (some ⟨g,0,none⟩) xs.length xs.length∧w.heap[g]?=some (.cells (xs.map (Value.int .u8)).toArray e (xs.length,xs.length+1))∧inR .u8 xs
theorem Cn.ch{e:TypeId}{S:SS}{w':World}{v:Value}{xs:List Int}(h:Cn e w v xs)(hc:Ch S w w')(hs:∀k i,v.ownBlock=some k→¬S k i):Cn e w' v xs:=by
 obtain⟨g,rfl,h1,h2⟩:=h
 exact⟨g,rfl,by rw[hc.blk g (cR h1) fun i=>hs g i rfl];exact h1,h2⟩
theorem Cn.lt{e:TypeId}{v:Value}{xs:List Int}(h:Cn e w v xs){k:Nat}(hk:v.ownBlock=some k):k<w.heap.size:=by
 obtain⟨g,rfl,h1,h2⟩:=h
 have:g=k:=by simpa [Value.ownBlock]using hk
 subst this;exact cR h1
theorem Cn.nm{e:TypeId}{v:Value}{xs:List Int}(h:Cn e w v xs):Nm .u8 w v xs:=by
 obtain⟨g,rfl,h1,h2⟩:=h
 refine⟨⟨some ⟨g,0,none⟩,xs.length,rfl,cJ _,by simp,fun ad ha j u hj=>?_,fun h=>by cases h⟩,h2⟩
 injection ha with ha;subst ha
 rw[Addr.add_lit]
 simp [World.cell?,h1,hj]
def cIt(e:TypeId)(v:Value)(xs:List Int):It:=⟨fun b=>v.ownBlock=some b,fun w=>Cn e w v xs,fun _ _ h hk=>by
  obtain⟨g,rfl,h1,_⟩:=h
  simp [Value.ownBlock]at hk;subst hk;exact⟨_,_,_,h1⟩,fun _ _ _ h hc hs=>h.ch hc hs,fun _ _ h _ hc=>by
  obtain⟨g,rfl,h1,h2⟩:=h;exact⟨g,rfl,by rw[hc _ _ _ _ h1];exact h1,h2⟩⟩
def qsq(P:Program)(t:TypeId):Bool:=match P.underlying t with
 |some (.slice e)=>(match P.underlying e with|some (.int .u8)=>true|_=>false)&&(match P.info? e with|some i=>Nat.beq i.size 1&&i.zero.isSome|none=>false)
 |_=>false
theorem qqp{t:TypeId}(h:qsq P t=true):P.underlying t=some (.slice (dD P t))∧P.underlying (dD P t)=some (.int .u8)∧∃i z,P.info? (dD P t)=some i∧i.size=1∧i.zero=some z:=by
 unfold qsq at h
 split at h
 ·rename_i e he
  have j:dD P t=e:=by unfold dD;rw[he]
  rw[j]
  simp only[mK]at h
  obtain⟨h1,h2⟩:=h
  split at h1
  ·rename_i hu
   split at h2
   ·rename_i i hi
    simp only[mK]at h2
    obtain⟨z,hz⟩:=Option.isSome_iff_exists.1 h2.2
    exact⟨he,hu,i,z,hi,DO h2.1,hz⟩
   ·cases h2
  ·cases h1
 ·cases h
theorem qqT{t:TypeId}{n:Nat}{j:Array (Nat×Value)}{K:Value→World→Prop}(xs:List Int)(h:Fr w0 w F)(hp:j.toList=Q7 0 (xs.map (.int .u8)))(hn:xs.length=n)(J:inR .u8 xs)
  (hk:∀v w',Fr w0 w' (cIt (dD P t) v xs::F)→K v w') (hm:n≤1000000:=by decide) (ht:qsq P t=true:=by kernel_rfl):eG P t n j w fun v w1=>tC P t t dM v w1 K:=by
 obtain⟨hu,C,i,z,hi,A,hz⟩:=qqp ht
 obtain⟨u,I,r⟩:∃u:Array Value,u.size=n∧(Instr.buildSlice t n j).run P w=.ok (.slice (some ⟨w.heap.size,0,none⟩) n n) (w.alloc (.cells (jR u 0 (xs.map (.int .u8))) (dD P t))):=by
  simp only[Instr.buildSlice,Sem.run_bind,run_underlying hu,Result.andThen_ok,sizeOf,typeInfo,run_program,hi,Sem.run_pure,A,K6]
  rw[if_neg (by omega)]
  by_cases h0:n=0
  ·subst h0
   have:xs=[]:=xI hn
   subst this
   refine⟨#[],rfl,?_⟩
   have he:∀f:Nat→Value,Array.map f (Array.range 0)= #[]:=fun f=>qfP (by simp)
   rw[hp]
   simp [Q7,Instr.fill,newRow,jR,he]
  ·refine⟨(Array.range n).map (z.cells[· %z.cells.size]!),by simp,?_⟩
   rw[if_neg h0]
   simp only[Sem.run_bind,zeroValue,typeInfo,run_program,Result.andThen_ok,hi,hz,Sem.run_pure]
   rw[hp,show(fun i=>some (i,1))=(fun i=>some (i*1,1))by funext i;rw[K6],MS _ (fun v hv=>by obtain⟨x,_,rfl⟩:=List.mem_map.1 hv;rfl) 0 _ (by simp;omega)]
   simp [newRow]
 have hl:=M4 (xs.map (.int .u8)) 0 u (by simp;omega)
 simp only[MC,sG]at hl
 have hc:jR u 0 (xs.map (.int .u8))=(xs.map (Value.int .u8)).toArray:=by have:=congrArg List.toArray hl;simpa using this
 rw[hc]at r
 have q:=Go.Lib.run_convert_bytes_const (P:=P) w t (dD P t) (xs.map (Value.int .u8)).toArray n n hu C
 have hs:(xs.map (Value.int .u8)).toArray.size=xs.length:=by simp
 rw[hs]at q
 refine⟨_,_,r,_,_,q,hk _ _ (h.new (Ev.alloc w _) ⟨w.heap.size,by rw[hn],heap_alloc_new w _,J⟩ fun k hk=>?_)⟩
 have:w.heap.size=k:=by simpa [cIt,Value.ownBlock]using hk
 omega
def TJ(s:ByteArray):List Int:=s.data.toList.map fun b=>(b.toNat:Int)
theorem vP(s:ByteArray):(TJ s).length=s.size:=by unfold TJ;rw[fE,LW];rfl
theorem qsn(s:ByteArray):inR .u8 (TJ s):=fun x hx=>by
 obtain⟨b,_,rfl⟩:=List.mem_map.1 hx
 have:=b.toNat_lt
 simp [IntKind.min,IntKind.max,IntKind.signed,IntKind.bits];omega
def qqs(P:Program)(t:TypeId):Bool:=match P.underlying t with
 |some .string=>true
 |_=>false
theorem qjs{t:TypeId}(h:qqs P t=true):P.underlying t=some .string:=by
 unfold qqs at h;split at h
 ·rename_i hh;exact hh
 ·cases h
theorem JT{t:TypeId}{k:IntKind}{s:ByteArray}{j:Nat}{i:Int}{K:Int→Prop}(q:i=(j:Int))(hj:j<s.size)(hk:K (rd (TJ s) i))(ht:qqs P t=true:=by kernel_rfl):xQ P t (dQ .u8) (.string s) (.int k i) K:=by
 subst q
 have hu:=qjs ht
 refine⟨rd (TJ s) (j:Int),fun w=>?_,hk⟩
 have hg:s[j]?=some s[j]:=by simp [hj]
 simp only[Instr.index,asIntOf,Sem.run_bind,Sem.run_pure,Result.andThen_ok,run_underlying hu]
 rw[if_pos (by omega),dH,hg]
 show Result.ok (Value.int .u8 (s[j].toNat:Int)) w=.ok (Value.int .u8 (rd (TJ s) (j:Int))) w
 have:rd (TJ s) (j:Int)=(s[j].toNat:Int):=by
  rw[dK _ _ (by rw[vP];exact hj)]
  simp [TJ];rfl
 rw[this]
end
end
section
section
variable {w0 w:World} {F:List It} {xs:List Int} {ad:Addr} {y:Value} {a:Nat} {er:Int}
theorem Fr.rd(h:Fr w0 w F)(i j:Nat)(hi:F[i]?=some (aT ad [y,aB a,aB er]))(hj:F[j]?=some (bI .u8 eB y xs))(hn:i≠j)(ha:a≤xs.length)(hl:xs.length≤10000000000):Rd w ad y xs a er:=
 ⟨h.get i hi,h.nm j hj,fun hg=>h.apart hi hj hn ad.block rfl hg,ha,hl⟩
theorem Fr.rs{w':World}{a2:Nat}{er2:Int}(h:Fr w0 w F)(i:Nat)(hi:F[i]?=some (aT ad [y,aB a,aB er]))(g:RS w w' ad y xs a2 er2):Fr w0 w' (F.set i (aT ad [y,aB a2,aB er2])):=
 h.upd i hi g.2 (fun k _ hh=>.inl hh.1) g.1.1 fun k hk=>.inl hk
def qt3(w:World)(xs:List Int)(e:Ending)(w':World):Prop:=∃ad y,e=aW (aH ad)∧∀{w0 F},Fr w0 w F→Fr w0 w' (aT ad [y,aB 0,aB 0]::bI .u8 eB y xs::F)
theorem qeC{b:Value}{w:World}(hb:Nm .u8 w b xs)(hl:xs.length≤10000000000):Calls P kT #[b] w (qt3 w xs):=by
 refine WV (lS (ON.nil .u8 eB w w.heap.size) hb (by simp;omega) (cJ _) fun y w1 q hc hm=>⟨q.one,V6 fun ad w2 h2 j hs hS=>?_⟩)
 have h1:Ev w w1:=hc.mono fun _ _ _ hh=>by cases hh
 exact⟨ad,y,rfl,fun f=>(f.newO h1 (by simpa using q)).new h2 hS fun k hk=>by have hk:k=ad.block:=hk;subst j;dsimp only at hk;omega⟩
theorem qt8{b:Value}{K:Option Addr→World→Prop}(h:Fr w0 w F)(hb:Nm .u8 w b xs)(hl:xs.length≤10000000000)(hk:∀ad y w',Fr w0 w' (aT ad [y,aB 0,aB 0]::bI .u8 eB y xs::F)→K (some ad) w'):aE P kT jN #[b] w K:=
 aO (qeC hb hl) fun _ w' ⟨ad,y,h1,h2⟩=>⟨some ad,h1,hk ad y w' (h2 h)⟩
end
end
section
section
variable {w0 w:World} {F:List It} {f:FuncId} {args:Array Value}
theorem qmt{K:Value→World→Prop}{xs:List Int}(h:Fr w0 w F)(hc:Calls P f args w (JC w xs))(hk:∀v w',Fr w0 w' (bI .u8 eB v xs::F)→K v w'):aE P f dM args w K:=
 iY hc fun v w' ⟨h1,h2⟩=>hk v w' (h.newO h1 h2)
theorem qqR{C:TypeId}{b:Value}{K:Value→World→Prop}{xs:List Int}{x:Int}{j:Array (Nat×Value)}(hp:j= #[(0,.int .u8 x)])(h:Fr w0 w (bI .u8 eB b xs::F))(hx:0≤x∧x<256)(hb:(xs.length+1)*8≤140737488355328)(hk:∀q w',Fr w0 w' (bI .u8 eB q (xs++[x])::F)→K q w'):
  eG P aA 1 j w fun l w1=>fV P #[aA,aA] C #[b,l] w1 K:=
 jF [x] h (by rw[hp];rfl) rfl (fun y u=>by simp at u;subst u;exact IZ hx) fun _ _ r=>vZ r 1 rfl (r.nm 0 rfl) hb fun q w' A=>hk q w' (A.drop 0)
end
def TV(w:World)(r:List Int×Bool)(e:Ending)(w':World):Prop:=∃v,e=bP #[v,.bool r.2]∧Ev w w'∧ON .u8 eB w' w.heap.size v r.1
section
variable {w0 w:World} {F:List It} {f:FuncId} {args:Array Value}
theorem qbR{r:List Int×Int}{K:Value→Int→World→Prop}(h:Fr w0 w F)(hc:Calls P f args w (yQ w r))(hk:∀v w',Fr w0 w' (bI .u8 eB v r.1::F)→K v r.2 w'):aE P f (.tup [.one .val,.one (.int .i64)]) args w K:=
 aO hc fun _ w' ⟨v,h1,h2,h3⟩=>⟨v,r.2,h1,hk v w' (h.newO h2 h3)⟩
theorem Fr.asW(h:Fr w0 w F)(i:Nat){ad:Addr}{e:TypeId}(hi:F[i]?=some (aT ad [bR])):Fr w0 w (F.set i (rN e ad (bR) [])):=
 h.upd (S:=No) i hi (Ch.refl _ w) (fun _ _ h=>h.elim) ⟨h.get i hi,ON.nil _ _ _ _,fun h=>by cases h⟩ fun k hk=>.inl (by rcases hk with hk|hk;exact hk;cases hk)
theorem Fr.wr{w':World}{ad:Addr}{e:TypeId}{v v':Value}{xs ys:List Int}(h:Fr w0 w F)(i:Nat)(hi:F[i]?=some (rN e ad v xs))(g:WrS e w w' ad v v' ys):Fr w0 w' (F.set i (rN e ad v' ys)):=
 h.upd i hi g.2.1 (fun k _ hh=>.inl hh) g.1 fun k hk=>by
  rcases hk with hk|hk
  ·exact .inl (.inl hk)
  ·rcases g.2.2 with hm|hm
   ·exact .inl (.inr (hm▸hk))
   ·exact .inr (hm k hk)
theorem qtL{M:TypeId}{ad:Addr}{v y:Value}{xs ys:List Int}{K:World→Prop}(h:Wr eB w ad v xs)(J:Nm .u8 w y ys)(hb:(xs.length+ys.length)*8≤140737488355328)(hk:∀v' w',WrS eB w w' ad v v' (xs++ys)→K w'):
  fV P #[aA,aA] M #[v,y] w fun t A=>aS (some ad) fun a=>aL P aA (aH (a.add 0)) t A fun C=>K C:=by
 refine lS h.2.1 J hb (bW _) fun v2 w2 j hc2 q=>aC ?_
 have r:St w2 ad [v]:=h.1.ch hc2 fun _ _ hh=>h.2.2 hh
 rw[Addr.add_zero']
 refine xR r (by simp) (by obtain⟨a,c,rfl,_⟩:=j.nm.shape;rfl) j.one fun w3 h3 I u=>hk v2 w3 ?_
 have hv2:v2.ownBlock≠some ad.block:=by
  rcases q with hh|hh
  ·rw[hh];exact h.2.2
  ·intro hg;have:=hh _ hg;have:=h.1.lt;omega
 exact⟨⟨by simpa using u,j.ch h3 fun g i hg hh=>hv2 (by rw[hg,hh.1]),hv2⟩,Ch.trans (hc2.mono fun _ _ _ h=>.inr h) h3 fun n i _ hh=>.inl hh.1,q⟩
end
theorem qiy{xs:List Int}{a:Nat}(h:a<xs.length):xs.drop a=rd xs a::xs.drop (a+1):=by rw[GK h,dK xs a h]
end
section
section
variable {P:Program} {w0 w:World} {F:List It}
theorem qkw{t T:TypeId}{k:IntKind}{g n l h:Nat}{y:Value}{zs ys:List Int}{K:Int→World→Prop}(Z:FB k (dD P t) w g zs)(ae:l≤h)(ac:h≤zs.length)(Y:Nm k w y ys)
  (hk:∀w' m,m=min (h-l) ys.length→Ch (Bk g) w w'→w'.heap.size=w.heap.size→FB k (dD P t) w' g (zs.take l++ys.take m++zs.drop (l+m))→K (m:Int) w') (ht:zH P t k=true:=by kernel_rfl):
  AB P #[t,t] T #[oV 1 (.slice (some ⟨g,0,none⟩) n zs.length) l h,y] w K:=by
 obtain⟨hu,i,hi,V,aa,X,hz⟩:=vQ ht
 have J:(P.info? (dD P t)).map (·.size)=some 1:=by rw[hi];simp [V]
 obtain⟨r,hg,A,U,hm⟩:=Z
 have hs:r.size=zs.length:=by rw[←LW,A,fE]
 obtain⟨a,c,rfl,af,hl,I,N⟩:=Y.1
 have ab:∀m:Nat,m≤ys.length→goInt m=aB (m:Int):=fun m _=>rfl
 by_cases h0:min (h-l) ys.length=0
 ·have q:(Builtin.copy_ #[t,t] T #[oV 1 (.slice (some ⟨g,0,none⟩) n zs.length) l h,.slice a ys.length c]).run P w=.ok (goInt 0) w:=by
   simp only[oV]
   exact run_copy_none (P:=P) w t t T _ _ _ _ _ _ _ hu J (by show min ys.length (h-l)=0;omega)
  refine⟨((0:Nat):Int),w,q,hk w 0 h0.symm (Ch.refl _ w) rfl ?_⟩
  refine⟨r,hg,?_,?_,?_⟩
  ·simpa using A
  ·simpa using U
  ·simpa using hm
 ·cases a with
  |none=>have:=N rfl;omega
  |some ad=>
   have C:((ys.take (min (h-l) ys.length)).map (Value.int k)).length=min (h-l) ys.length:=by rw[fE,eJ];omega
   have q:=run_copy_row (P:=P) w t t T (dD P t) g l (h-l) (zs.length-l) ad ys.length c r (dD P t) ((ys.take (min (h-l) ys.length)).map (.int k)) hu J hg (by rw[C];show min _ _=min ys.length (h-l);omega)
    (fun j u hj=>I ad rfl j u (by
     rw[jD,vW]at hj
     rw[jD]
     split at hj
     ·exact hj
     ·simp at hj)) (by rw[C,hs];omega) (fun u hu=>by obtain⟨x,_,rfl⟩:=List.mem_map.1 hu;rfl)
   have O:oV 1 (.slice (some ⟨g,0,none⟩) n zs.length) l h=.slice (some ⟨g,l,none⟩) (h-l) (zs.length-l):=by
    simp only[oV]
    rw[if_neg (by omega),Option.map_some,K6,Addr.add_lit,vV]
   rw[←O,C]at q
   refine⟨((min (h-l) ys.length:Nat):Int),_,q,hk _ _ rfl ?_ (by simp) ⟨_,setRow_heap w g r _ _ _ hg,?_,?_,?_⟩⟩
   ·refine⟨rfl,rfl,rfl,by simp,fun j hj hn=>setRow_other w g j _ fun e=>hn 0 e,fun j c' e' f hj=>?_,fun k o hk ho=>by rw[setRow_other w g k _ (qE hg hk ho)];exact hk⟩
    by_cases M:j=g
    ·subst M
     rw[hg]at hj
     injection hj with hj;injection hj with h1 h2 h3
     subst h1;subst h2;subst h3
     exact⟨_,setRow_heap w j r _ _ _ hg,by simp;omega,fun i hi=>absurd rfl hi⟩
    ·exact⟨c',by rw[setRow_other w g j _ M];exact hj,rfl,fun _ _=>rfl⟩
   ·simp only[A,gQ,List.map_take,List.map_drop]
   ·exact((U.take l).append (Y.2.take _)).append (U.drop _)
   ·have:(zs.take l++ys.take (min (h-l) ys.length)++zs.drop (l+min (h-l) ys.length)).length=zs.length:=by simp;omega
    rw[this];exact hm
def qmV(P:Program)(f:FuncId):Bool:=match P.funcs[f]? with
 |some fn=>!(fn.name== "runtime.NumGoroutine")&&fn.body.isNone&&(Extern.findNext fn).isNone
 |none=>false
theorem qqi{f:FuncId}{args:Array Value}{e:Array Value→Sem Value}{v:Value}(h:qmV P f=true)(he:(P.funcs[f]?).bind Extern.find=some e)(j:(e args).run P w=.ok v w):(callFunc f args).run P w=.ok (.value v) w:=by
 unfold qmV at h
 split at h
 ·rename_i fn hf
  rw[hf]at he
  simp only[mK,Bool.not_eq_true']at h
  rw[run_callFunc_extern hf h.1.1 h.1.2 (Option.isNone_iff_eq_none.1 h.2) he,j];rfl
 ·cases h
theorem qbY{f:FuncId}{args:Array Value}{e:Array Value→Sem Value}{k:IntKind}{n:Int}{K:Int→World→Prop}(he:(P.funcs[f]?).bind Extern.find=some e)(j:(e args).run P w=.ok (.int k n) w)(hk:K n w)(h:qmV P f=true:=by kernel_rfl):qbX P f (dQ k) args w K:=
 ⟨n,w,qqi h he j,hk⟩
def qdH(k:IntKind)(e:TypeId)(g:Nat)(zs:List Int):It:=⟨fun b=>b=g,fun w=>FB k e w g zs,fun _ _ ⟨_,h1,_⟩ hk=>by rw[hk];exact⟨_,_,_,h1⟩,fun _ _ _ ⟨j,h1,h2⟩ hc hs=>⟨j,by rw[hc.blk g (cR h1) fun i hi=>hs g i rfl hi];exact h1,h2⟩,fun _ _ ⟨j,h1,h2⟩ _ hc=>⟨j,by rw[hc _ _ _ _ h1];exact h1,h2⟩⟩
theorem qko{t:TypeId}{k:IntKind}{n:Nat}{K:Value→World→Prop}(f:Fr w0 w F)(hn:n*8≤281474976710656)
  (hk:∀g w',Fr w0 w' (qdH k (dD P t) g (List.replicate n 0)::F)→K (.slice (some ⟨g,0,none⟩) n n) w') (ht:zH P t k=true:=by kernel_rfl):mT P t (aB (n:Int)) (aB (n:Int)) w K:=by
 obtain⟨hu,i,hi,A,u,C,hz⟩:=vQ ht
 have I:i.bytes*(n:Int)≤2^48:=by
  have:(i.bytes*n:Nat)≤n*8:=by rw[A4];exact qih n u
  have h2:((i.bytes*n:Nat):Int)≤281474976710656:=by omega
  rw[rM]at h2;simpa using h2
 have hw:IntKind.wrap .i64 (n:Int)=n:=by have:=aD (n:=(n:Int)) (by omega) (by omega);simpa [i64]using this
 have q:(Instr.makeSlice t (aB (n:Int)) (aB (n:Int))).run P w=.ok (.slice (some ⟨w.heap.size,0,none⟩) n n) (w.alloc (.cells (Array.replicate n (.int k 0)) (dD P t))):=by
  simp only[Instr.makeSlice,Sem.run_bind,run_underlying hu,Result.andThen_ok,asInt,asIntOf,Sem.run_pure,typeInfo,run_program,hi,hw]
  have h1:¬((n:Int)<0):=by omega
  have h2:¬((i.bytes:Int)*(n:Int)>2^48):=by omega
  simp only[h1,h2,decide_false,Bool.or_self,Bool.false_or,gt_iff_lt,Int.lt_irrefl,if_false,Bool.false_eq_true]
  have r:(askRoom (Int.toNat (n:Int)*i.bytes)).run P w=.ok () w:=by unfold askRoom;split<;>rfl
  simp only[r,Result.andThen_ok,sizeOf,typeInfo,Sem.run_bind,run_program,hi,Sem.run_pure,A,dH,K6,zeroValue,hz]
  by_cases h0:n=0
  ·subst h0;have he:∀f:Nat→Value,Array.map f (Array.range 0)= #[]:=fun f=>qfP (by simp)
   simp [newRow,he]
  ·simp only[h0,if_false,Sem.run_bind,run_program,Result.andThen_ok,hi,hz,Sem.run_pure,newRow]
   simp [Value.cells]
   congr 2
   apply Array.ext
   ·simp
   ·intro j h1 h2;simp [Nat.mod_one]
 refine⟨_,_,q,hk _ _ (f.new (Ev.alloc w _) (jt:=qdH k (dD P t) w.heap.size (List.replicate n 0)) ⟨_,heap_alloc_new w _,by simp,qb9 k n,?_⟩ fun b hb=>by rw[show b=w.heap.size from hb];exact cJ _)⟩
 unfold maxLen;rw[sF];omega
theorem qmu{t A:TypeId}{k:IntKind}{g n l h c:Nat}{y:Value}{zs ys:List Int}{K:Int→World→Prop}(f:Fr w0 w F)(i:Nat)(hi:F[i]?=some (qdH k (dD P t) g zs))(hc:zs.length=c)(q:l≤h)(j:h≤c)(u:Nm k w y ys)
  (hk:∀w' m,m=min (h-l) ys.length→Fr w0 w' (F.set i (qdH k (dD P t) g (zs.take l++ys.take m++zs.drop (l+m))))→K (m:Int) w') (ht:zH P t k=true:=by kernel_rfl):
  AB P #[t,t] A #[oV 1 (.slice (some ⟨g,0,none⟩) n c) l h,y] w K:=by
 subst hc
 exact qkw (f.get i hi) q j u (fun w' m hm hc _ r=>hk w' m hm (f.upd i hi hc (fun k _ hh=>.inl hh) r fun k hk=>.inl hk)) ht
end
end
section
def slLen:Value→Nat
 |.slice _ n _=>n
 |_=>0
theorem Nm.slLen{k:IntKind}{w:World}{v:Value}{xs:List Int}(h:Nm k w v xs):slLen v=xs.length:=by obtain⟨a,c,rfl,_⟩:=h.shape;rfl
section
variable {P:Program} {w0 w:World} {F:List It}
theorem qkx{t:TypeId}{ad:Addr}{K:Array Value→Prop}(vs:List Value)(hc:∀j u,vs[j]?=some u→w.cell? (ad.add j)=some u)(hk:K vs.toArray)(ht:qds P t vs.length=true):aF P t shA (aH ad) w K:=
 ⟨vs.toArray,M3 hc ht,hk⟩
theorem qd4{t:TypeId}{ad:Addr}{cs:List Value}{K:Array Value→Prop}(h:Fr w0 w F)(i:Nat)(hi:F[i]?=some (aT ad cs))(hk:K cs.toArray)(ht:qds P t cs.length=true):aF P t shA (aH ad) w K:=
 qkx cs (fun j u hj=>h.cell i j hi hj) hk ht
theorem VO{t:TypeId}{ad:Addr}{n sz:Nat}{K:Value→Prop}(hk:K (.slice (some ad) n n))(ht:qbz P t n sz=true):cH P t (aH ad) none none none K:=by
 unfold qbz at ht
 split at ht
 ·rename_i m e hu
  simp only[mK]at ht
  have hm:=DO ht.1
  subst hm
  obtain⟨i,hi⟩:∃i,P.info? e=some i:=by
   have:=ht.2
   split at this
   ·rename_i i hi;exact⟨i,hi⟩
   ·cases this
  refine⟨_,fun w=>?_,hk⟩
  have hb:(Instr.sliceBounds false m m none none none).run P w=.ok (0,m,m) w:=by simp [Instr.sliceBounds,Instr.sliceBound]
  simp only[Instr.sliceAt,Instr.sureAddr,Sem.run_bind,Sem.run_pure,run_underlying hu,Result.andThen_ok,hb,sizeOf,typeInfo,run_program,hi]
  simp [Addr.add_zero']
 ·cases ht
theorem VL{t:TypeId}{k J:IntKind}{cs:Array Value}{xs:List Int}{i:Int}{K:Int→Prop}(n j:Nat)(hcs:cs.toList=xs.map (.int k))(hn:xs.length=n)(A:i=(j:Int))(hj:j<n)(hk:K (rd xs j))(ht:qbz P t n 1=true:=by kernel_rfl)(hf:(match P.underlying t with|some (.array _ e)=>(match P.underlying e with|some (.int _)=>true|_=>false)|_=>false)=true:=by kernel_rfl):xQ P t (dQ k) (.agg cs) (.int J i) K:=by
 subst A
 unfold qbz at ht
 split at ht
 ·rename_i m e hu
  simp only[mK]at ht
  have hm:=DO ht.1
  subst hm
  rw[hu]at hf
  dsimp only at hf
  have r:∃u,P.underlying e=some (.int u):=by
   split at hf
   ·rename_i u C;exact⟨u,C⟩
   ·cases hf
  obtain⟨u,r⟩:=r
  obtain⟨M,hi,I⟩:∃i,P.info? e=some i∧i.size=1:=by
   have:=ht.2
   split at this
   ·rename_i i hi;exact⟨i,hi,DO this⟩
   ·cases this
  have q:cs[j]?=some (.int k (rd xs j)):=by
   rw[←M8,hcs,jD,fR (by omega),dK xs j (by omega)];rfl
  refine⟨rd xs j,fun w=>?_,hk⟩
  simp only[Instr.index,asIntOf,Sem.run_bind,Sem.run_pure,Result.andThen_ok,run_underlying hu]
  rw[if_pos ⟨by omega,by omega⟩]
  simp only[Sem.run_bind,sizeOf,typeInfo,run_program,Result.andThen_ok,hi,Sem.run_pure,I,dH,K6]
  unfold part
  have cR:j<cs.size:=(Array.getElem?_eq_some_iff.1 q).1
  simp [isAgg,run_underlying r,q]
  rfl
 ·cases ht
theorem Nm.of_st{k:IntKind}{ad:Addr}{xs:List Int}{n:Nat}(h:St w ad (xs.map (.int k)))(r:inR k xs)(hn:xs.length=n):Nm k w (.slice (some ad) n n) xs:=by
 subst hn
 exact⟨⟨some ad,xs.length,rfl,cJ _,by simp,fun q ha j u hj=>by injection ha with ha;subst ha;exact h.cell hj,fun h=>by cases h⟩,r⟩
theorem Fr.arr{k:IntKind}{ad:Addr}{xs:List Int}{n:Nat}(h:Fr w0 w F)(i:Nat)(hi:F[i]?=some (aT ad (xs.map (.int k))))(j:inR k xs)(hn:xs.length=n):Nm k w (.slice (some ad) n n) xs:=Nm.of_st (h.get i hi) j hn
theorem qhC{S:SS}{w w':World}{e:TypeId}{B n:Nat}{v:Value}{cs:List Value}(h:w.ownsRow B e 1 v n cs)(hc:Ch S w w')(hs:∀g i,v.ownBlock=some g→¬S g i):w'.ownsRow B e 1 v n cs:=by
 refine⟨h.1,?_⟩
 rcases h.2 with hn|⟨g,cap,j,rfl,hb,hg,r⟩
 ·exact .inl hn
 ·exact .inr ⟨g,cap,j,rfl,hb,by rw[hc.blk g (cR hg) (fun i=>hs g i rfl)];exact hg,r⟩
def lIt(e:TypeId)(v:Value)(us:List Value):It:=⟨fun b=>v.ownBlock=some b,fun w=>w.ownsRow 0 e 1 v us.length us,fun w k h hk=>by
  rcases h.2 with⟨rfl,_⟩|⟨q,cap,j,rfl,hb,hh,r⟩
  ·cases hk
  ·simp [Value.ownBlock]at hk;subst hk;exact⟨_,_,_,hh⟩,fun _ _ _ h hc hs=>qhC h hc hs,fun w w' h _ hc=>by
  refine⟨h.1,?_⟩
  rcases h.2 with hn|⟨g,cap,j,rfl,hb,hg,r⟩
  ·exact .inl hn
  ·exact .inr ⟨g,cap,j,rfl,hb,by rw[hc _ _ _ _ hg];exact hg,r⟩⟩
theorem Fr.sl{e:TypeId}{v:Value}{us:List Value}(h:Fr w0 w F)(i:Nat)(hi:F[i]?=some (lIt e v us)):Sl w 1 v us.length us:=Sl.of_own (h.get i hi)
theorem qiB{t:TypeId}{n:Nat}{j:Array (Nat×Value)}{K:Value→World→Prop}(us:List Value)(h:Fr w0 w F)(hp:j.toList=Q7 0 us)(hn:us.length=n)(h1:∀v∈us,v.cells= #[v])
  (hk:∀v w',Fr w0 w' (lIt (dD P t) v us::F)→K v w') (hm:n≤1000000:=by decide) (ht:sl1 P t=true:=by kernel_rfl):eG P t n j w K:=
 qb1 us hp hn hm h1 (fun v w' he u=>hk v w' (h.new (jt:=lIt (dD P t) v us) he (by
  subst hn
  refine⟨u.1,?_⟩
  rcases u.2 with hh|⟨g,cap,q,e1,hb,r⟩
  ·exact .inl hh
  ·exact .inr ⟨g,cap,q,e1,bW _,r⟩) fun k hk=>(u.lt k hk).1)) ht
theorem Fr.picks(h:Fr w0 w F):∀(is:List Nat),is.Nodup→Fr w0 w (is.filterMap fun i=>F[i]?)
 |[],_=>h.old
 |i::r,hd=>by
  have C:=h.picks r (List.nodup_cons.1 hd).2
  cases hi:F[i]? with
  |none=>rw[List.filterMap_cons_none hi];exact C
  |some it=>
   rw[List.filterMap_cons_some hi]
   have hm:=h.mem (tM hi)
   refine⟨hm.1,hm.2,fun jt hj k hk=>?_,C⟩
   obtain⟨j,q,u⟩:=List.mem_filterMap.1 hj
   have A:i≠j:=fun e=>(List.nodup_cons.1 hd).1 (e▸q)
   exact h.apart hi u A k hk
theorem Fr.dropN:∀{F:List It} (n:Nat),Fr w0 w F→Fr w0 w (F.drop n)
 |_,0,h=>h
 |[],_+1,h=>h
 |_::_,n+1,h=>Fr.dropN n h.2.2.2
theorem Fr.picksN(h:Fr w0 w F)(n:Nat):∀(is:List Nat),is.Nodup→(∀i∈is,i<n)→Fr w0 w ((is.filterMap fun i=>F[i]?)++F.drop n)
 |[],_,_=>h.dropN n
 |i::r,hd,hn=>by
  have I:=h.picksN n r (List.nodup_cons.1 hd).2 fun j hj=>hn j (by simp [hj])
  cases hi:F[i]? with
  |none=>rw[List.filterMap_cons_none hi];exact I
  |some it=>
   rw[List.filterMap_cons_some hi]
   have hm:=h.mem (tM hi)
   refine⟨hm.1,hm.2,fun jt hj k hk=>?_,I⟩
   rcases List.mem_append.1 hj with hj|hj
   ·obtain⟨j,u,A⟩:=List.mem_filterMap.1 hj
    have C:i≠j:=fun e=>(List.nodup_cons.1 hd).1 (e▸u)
    exact h.apart hi A C k hk
   ·obtain⟨q,hq⟩:=List.mem_iff_getElem?.1 hj
    rw[QO]at hq
    have:=hn i (by simp)
    exact h.apart hi hq (by omega) k hk
theorem Fr.glue{w1:World}:∀{G:List It},Fr w0 w1 F→Fr w1 w G→Fr w0 w (G++F)
 |[],h,h2=>h.ev h2
 |it::G,h,h2=>by
  refine⟨h2.1,fun k hk=>nJ h.old.size (h2.2.1 k hk),fun jt hj k hk j=>?_,Fr.glue h h2.2.2.2⟩
  rcases List.mem_append.1 hj with hj|hj
  ·exact h2.2.2.1 jt hj k hk j
  ·have h3:=h2.2.1 k hk
   have h4:=jt.lt w1 k (h.mem hj).1 j
   omega
end
end
section
section
variable {P:Program} {w0 w:World} {F:List It}
theorem Sl.of_ownS{B n sz:Nat}{e:TypeId}{v:Value}{cs:List Value}(h:w.ownsRow B e sz v n cs):Sl w sz v n cs:=by
 obtain⟨h1,h2⟩:=h
 rcases h2 with⟨rfl,h0⟩|⟨g,cap,q,rfl,hb,hg,hn,hm,hs,ht⟩
 ·exact⟨none,0,by rw[h0],by omega,h1,(fun _ h=>by cases h),fun _=>h0⟩
 ·refine⟨some ⟨g,0,none⟩,cap,rfl,hn,h1,fun ad ha j u hj=>?_,fun h=>by cases h⟩
  injection ha with ha;subst ha
  exact World.ownsRow.cells ⟨h1,.inr ⟨g,cap,q,rfl,hb,hg,hn,hm,hs,ht⟩⟩ (g:=g) rfl j u hj
theorem qeS{S:SS}{w w':World}{e:TypeId}{B n sz:Nat}{v:Value}{cs:List Value}(h:w.ownsRow B e sz v n cs)(hc:Ch S w w')(hs:∀g i,v.ownBlock=some g→¬S g i):w'.ownsRow B e sz v n cs:=by
 refine⟨h.1,?_⟩
 rcases h.2 with hn|⟨g,cap,j,rfl,hb,hg,r⟩
 ·exact .inl hn
 ·exact .inr ⟨g,cap,j,rfl,hb,by rw[hc.blk g (cR hg) (fun i=>hs g i rfl)];exact hg,r⟩
def lK(e:TypeId)(sz:Nat)(v:Value)(n:Nat)(cs:List Value):It:=⟨fun b=>v.ownBlock=some b,fun w=>w.ownsRow 0 e sz v n cs,fun w k h hk=>by
  rcases h.2 with⟨rfl,_⟩|⟨q,cap,j,rfl,hb,hh,r⟩
  ·cases hk
  ·simp [Value.ownBlock]at hk;subst hk;exact⟨_,_,_,hh⟩,fun _ _ _ h hc hs=>qeS h hc hs,fun w w' h _ hc=>by
  refine⟨h.1,?_⟩
  rcases h.2 with hn|⟨g,cap,j,rfl,hb,hg,r⟩
  ·exact .inl hn
  ·exact .inr ⟨g,cap,j,rfl,hb,by rw[hc _ _ _ _ hg];exact hg,r⟩⟩
theorem Fr.row{e:TypeId}{sz n:Nat}{v:Value}{cs:List Value}(h:Fr w0 w F)(i:Nat)(hi:F[i]?=some (lK e sz v n cs)):Sl w sz v n cs:=Sl.of_ownS (h.get i hi)
theorem Fr.nilR(h:Fr w0 w F)(e:TypeId)(sz:Nat):Fr w0 w (lK e sz (bR) 0 []::F):=
 h.new (Ch.refl _ w) (World.ownsRow_nil w 0 e sz) fun _ hk=>by cases hk
theorem qjj{e:TypeId}{sz n B:Nat}{v:Value}{cs:List Value}(h:w.ownsRow B e sz v n cs):w.ownsRow 0 e sz v n cs:=by
 refine⟨h.1,?_⟩
 rcases h.2 with hh|⟨g,cap,j,e1,hb,r⟩
 ·exact .inl hh
 ·exact .inr ⟨g,cap,j,e1,bW _,r⟩
def qfp(P:Program)(t:TypeId)(sz j:Nat):Bool:=match P.underlying t with
 |some (.slice e)=>match P.info? e with
  |some i=>Nat.beq i.size sz&&Nat.ble i.bytes j&&(match i.zero with|some z=>Nat.beq z.cells.size sz|none=>false)
  |none=>false
 |_=>false
theorem YI{t:TypeId}{sz b:Nat}(h:qfp P t sz b=true):P.underlying t=some (.slice (dD P t))∧∃i z,P.info? (dD P t)=some i∧i.zero=some z∧i.size=sz∧z.cells.size=sz∧i.bytes≤b:=by
 unfold qfp at h
 split at h
 ·rename_i e hu
  have he:dD P t=e:=by unfold dD;rw[hu]
  rw[he]
  split at h
  ·rename_i i hi
   simp only[mK]at h
   obtain⟨⟨h1,h2⟩,h3⟩:=h
   split at h3
   ·rename_i z hz
    exact⟨hu,i,z,hi,hz,DO h1,DO h3,qbo h2⟩
   ·cases h3
  ·cases h
 ·cases h
theorem AE(t Z:TypeId){e:TypeId}{i:TypeInfo}{z:Value}{sz:Nat}(ht:P.underlying t=some (.slice e))(hi:P.info? e=some i)(hz:i.zero=some z)(r:i.size=sz)(ak:z.cells.size=sz)(ai:0<sz)
  {B:Nat} {v:Value} {n:Nat} {xs:List Value} (C:w.ownsRow B e sz v n xs) {y:Value} {m:Nat} {q:List Value} (hy:Sl w sz y m q) (h1:∀u∈q,u.oneCell'=true)
  (hb:(n+m)*i.bytes≤140737488355328) (O:n+m≤maxLen) (T:B≤w.heap.size):
  ∃v' w',(Builtin.append_ #[t,t] Z #[v,y]).run P w=.ok v' w'∧w'.ownsRow B e sz v' (n+m) (xs++q)∧Ch (Ob v) w w'∧Moved w v v':=by
 obtain⟨a,c,rfl,an,hl,A,ab⟩:=hy
 have ae:∀k,v.ownBlock=some k→∃c e f,w.heap[k]?=some (.cells c e f):=fun k hk=>by
  rcases C.2 with⟨rfl,_⟩|⟨g,cap,J,rfl,_,hg,_⟩
  ·cases hk
  ·simp [Value.ownBlock]at hk;subst hk;exact⟨_,_,_,hg⟩
 have Y:∀{w':World},w.grownBy w' v.ownBlock→(∀k c e f,v.ownBlock=some k→w.heap[k]?=some (.cells c e f)→∃c',w'.heap[k]?=some (.cells c' e f)∧c'.size=c.size)→Ch (Ob v) w w':=fun{w'} hg hsh=>by
  refine⟨hg.os,hg.tape,hg.output,hg.size,fun k hk hn=>hg.block k hk fun e=>hn 0 e.symm,fun k c e f hc=>?_,fun k o hk ho=>by
   rw[hg.block k (cR hk) (fun e=>by obtain⟨c,e2,f,hc⟩:=ae k e.symm;exact qE hc hk ho rfl)];exact hk⟩
  by_cases hk:v.ownBlock=some k
  ·obtain⟨c',h1,h2⟩:=hsh k c e f hk hc
   exact⟨c',h1,h2,fun i hi=>absurd hk hi⟩
  ·exact⟨c,by rw[hg.block k (cR hc) (fun e=>hk e.symm)];exact hc,rfl,fun _ _=>rfl⟩
 have nil0:∀{l:List Value},l.length=0*sz→l=[]:=fun h=>xI (by rw[h,qac])
 cases a with
 |none=>
  have hm:=ab rfl
  subst hm
  have X:q=[]:=nil0 hl
  subst X
  refine⟨v,w,?_,by simpa using C,Ch.refl _ w,.inl rfl⟩
  rcases C.2 with⟨rfl,rfl⟩|⟨g,cap,J,rfl,ac,hg,hn,hm,hcs,aj⟩
  ·simp [Builtin.append_,run_underlying ht,sizeOf,typeInfo,hi,Builtin.lenOf,Builtin.firstCells]
  ·simp [Builtin.append_,run_underlying ht,sizeOf,typeInfo,hi,Builtin.lenOf,Builtin.firstCells,hn,storeCells]
 |some ad=>
  obtain⟨v',w',N,ho,hg,_⟩:=run_append_own (P:=P) w B t Z e i z sz i.bytes ht hi hz r rfl ak ai v n xs C ad m c q hl (A ad rfl) h1 O hb T
  refine⟨v',w',N,ho,?_⟩
  rcases C.2 with⟨rfl,rfl⟩|⟨g,cap,J,rfl,ac,V,hn,am,hcs,aj⟩
  ·by_cases ag:m=0
   ·subst ag
    have X:q=[]:=nil0 hl
    subst X
    have I:(Builtin.append_ #[t,t] Z #[bR,.slice (some ad) 0 c]).run P w=.ok (bR) w:=by
     simp [Builtin.append_,run_underlying ht,sizeOf,typeInfo,hi,Builtin.lenOf,Builtin.firstCells,loadCells,loadCellsFrom]
    rw[I]at N;injection N with e1 e2;subst e1;subst e2
    exact⟨Ch.refl _ w,.inl rfl⟩
   ·have I:=run_append_nil (P:=P) w t Z e i z ht hi hz ad m c q (by rw[r];exact hl) (A ad rfl) (by omega) (by unfold maxLen at O;omega) (by simp only[vV]at hb;omega)
    rw[I]at N;injection N with e1 e2;subst e1
    refine⟨Y hg (fun k c e f hk=>by cases hk),.inr fun g U=>?_⟩
    simp [Value.ownBlock]at U;omega
  ·by_cases M:n+m≤cap
   ·have aa:n*i.size+q.length≤J.size:=by rw[hl,r,hcs,←M9];exact kR _ M
    have I:=run_append_room (P:=P) w t Z e i ht hi g n cap J V ad m c q (by rw[r];exact hl) (A ad rfl) h1 M aa
    rw[I]at N;injection N with e1 e2;subst e1;subst e2
    refine⟨Y hg (fun k c' e' f hk hc=>?_),.inl rfl⟩
    simp [Value.ownBlock]at hk;subst hk
    rw[V]at hc;injection hc with hc;injection hc with hc1 hc2 hc3
    subst hc1;subst hc2;subst hc3
    refine⟨_,setRow_heap w g J _ e _ V,?_⟩
    simp;omega
   ·have holds:∀j u,xs[j]?=some u→w.cell? ((⟨g,0,none⟩:Addr).add j)=some u:=C.cells (g:=g) rfl
    have I:=run_append_grow (P:=P) w t Z e i z ht hi hz ⟨g,0,none⟩ n cap xs (by rw[r];exact C.1) holds ad m c q (by rw[r];exact hl) (A ad rfl) (by omega) (by unfold maxLen at O;omega) (growslice_fits (by omega) hb)
    rw[I]at N;injection N with e1 e2;subst e1
    have af:=e2
    refine⟨Y hg (fun k c' e' f hk hc=>⟨c',?_,rfl⟩),.inr fun g' U=>?_⟩
    ·rw[←af]
     show(w.heap.push _)[k]?=_
     rw[Array.getElem?_push,if_neg (by have:=cR hc;omega)];exact hc
    ·simp [Value.ownBlock]at U;omega
theorem BI{t I:TypeId}{sz n m:Nat}{v y:Value}{cs ds:List Value}{K:Value→World→Prop}(b:Nat)(h:Fr w0 w F)(i:Nat)(hi:F[i]?=some (lK (dD P t) sz v n cs))(N:Sl w sz y m ds)(h1:∀u∈ds,u.oneCell'=true)(hb:(n+m)*b≤140737488355328)(hm:n+m≤maxLen)
  (hk:∀v' w',Fr w0 w' (F.set i (lK (dD P t) sz v' (n+m) (cs++ds)))→K v' w') (ht:qfp P t sz b=true:=by kernel_rfl) (A:0<sz:=by decide):fV P #[t,t] I #[v,y] w K:=by
 obtain⟨hu,O,z,r,hz,hs,C,q⟩:=YI ht
 obtain⟨v',w',M,J,hc,j⟩:=AE (P:=P) t I hu r hz hs C A (h.get i hi) N h1 (nJ (qih _ q) hb) hm (bW _)
 refine⟨v',w',M,hk v' w' (h.upd i hi hc (fun k _ hh=>.inl hh) J fun k hk=>?_)⟩
 rcases j with j|j
 ·have hk:v'.ownBlock=some k:=hk
  rw[j]at hk;exact .inl hk
 ·exact .inr (j k hk)
theorem qbS{t:TypeId}{n sz:Nat}{K:Value→World→Prop}(b:Nat)(z:Value)(h:Fr w0 w F)(hn:b*n≤281474976710656)(hm:n≤maxLen)
  (hk:∀v w',Fr w0 w' (lK (dD P t) sz v n (madeCells z.cells (n*sz)).toList::F)→K v w') (hz:(P.info? (dD P t)).bind (·.zero)=some z) (ht:qfp P t sz b=true:=by kernel_rfl):mT P t (aB (n:Int)) (aB (n:Int)) w K:=by
 obtain⟨hu,I,J,q,j,hs,C,r⟩:=YI ht
 rw[q]at hz
 simp only[Option.bind_some]at hz
 rw[hz]at j;injection j with j;subst j
 obtain⟨w',A,u,hg⟩:=run_make_full (P:=P) w w.heap.size t (dD P t) I z sz hu q hz hs .i64 .i64 n (nJ (kR _ r) hn) hm (cJ _)
 refine⟨_,w',A,hk _ w' (h.new ?_ (qjj u) fun k hk=>(u.lt k hk).1)⟩
 exact⟨hg.os,hg.tape,hg.output,hg.size,fun k hk _=>hg.block k hk (by simp),fun k c e f hc=>⟨c,by rw[hg.block k (cR hc) (by simp)];exact hc,rfl,fun _ _=>rfl⟩,fun k o hk _=>by rw[hg.block k (cR hk) (by simp)];exact hk⟩
def SltR(v:Value)(j sz:Nat)(ad:Addr):Prop:=∃g n c,v=.slice (some ⟨g,0,none⟩) n c∧ad=⟨g,j*sz,none⟩
theorem uE{t e:TypeId}{C:IntKind}{B sz n j:Nat}{v:Value}{cs:List Value}{i:Int}{K:Addr→Prop}(h:w.ownsRow B e sz v n cs)(q:i=(j:Int))(h1:j<n)(hk:∀ad,SltR v j sz ad→K ad)(ht:YJ P t sz=true:=by kernel_rfl):aX P t v (.int C i) K:=by
 obtain⟨hu,I,hi,r⟩:=M6 ht
 subst q
 rcases h.2 with⟨rfl,hn⟩|⟨g,cap,u,rfl,hb,hg,hn,hm,hs,A⟩
 ·omega
 ·refine⟨⟨g,j*sz,none⟩,fun w=>?_,hk _ ⟨g,_,_,rfl,rfl⟩⟩
  simp only[Instr.indexAt,asIntOf,Sem.run_bind,Sem.run_pure,Result.andThen_ok,run_underlying hu]
  rw[if_pos ⟨by omega,by omega⟩]
  simp [sizeOf,typeInfo,hi,r,Addr.add_lit]
theorem SltR.cell{e:TypeId}{B sz n j q:Nat}{v u:Value}{cs:List Value}{ad:Addr}(h:w.ownsRow B e sz v n cs)(hs:SltR v j sz ad)(hu:cs[j*sz+q]?=some u):w.cell? (ad.add q)=some u:=by
 obtain⟨g,r,c,rfl,rfl⟩:=hs
 have:=h.cells (g:=g) rfl (j*sz+q) u hu
 rw[Addr.add_lit,vV]at this
 rw[Addr.add_lit];exact this
theorem qiH{t e:TypeId}{sz n j:Nat}{v:Value}{cs:List Value}{ad:Addr}{ds:Array Value}{K:World→Prop}(h:Fr w0 w F)(i:Nat)(hi:F[i]?=some (lK e sz v n cs))(hs:SltR v j sz ad)(hj:j<n)(hd:ds.size=sz)(h1:∀u∈ds.toList,u.oneCell'=true)
  (hk:∀w',Fr w0 w' (F.set i (lK e sz v n (cs.take (j*sz)++ds.toList++cs.drop (j*sz+sz))))→K w') (ht:Y9 P t sz=true:=by kernel_rfl):aL P t (aH ad) (.agg ds) w K:=by
 have O:w.ownsRow 0 e sz v n cs:=h.get i hi
 obtain⟨g,T,c,rfl,rfl⟩:=hs
 have J:(j+1)*sz≤n*sz:=kR _ hj
 rw[M9,AI]at J
 rcases O.2 with⟨hn,_⟩|⟨X,cap,I,hv,hb,hg,hn,hm,hcs,N⟩
 ·simp at hn
 simp only[Value.slice.injEq,Option.some.injEq,Addr.mk.injEq,and_true]at hv
 obtain⟨rfl,rfl,rfl⟩:=hv
 have r:cs.length=T*sz:=O.1
 have M:St w ⟨g,0,none⟩ cs:=⟨rfl,I,e,hg,fun q u hq=>by
  rw[←N,vW]at hq
  dsimp only;rw[Nat.zero_add]
  split at hq
  ·rw[M8]at hq;exact hq
  ·cases hq⟩
 have C:(⟨g,j*sz,none⟩:Addr)=(⟨g,0,none⟩:Addr).add (j*sz):=by rw[Addr.add_lit,vV]
 rw[C]
 refine W0 M (by rw[hd,r];omega) h1 (fun w' hc _ hS=>hk w' (h.upd i hi hc (fun k _ hh=>.inl ?_) ?_ fun k hk=>.inl hk)) (by rw[hd];exact ht)
 ·have h2:=hh.1
  rw[Addr.add_lit]at h2
  show some g=some k
  rw[h2]
 ·rw[hd]at hS
  obtain⟨c',k1,k2,_⟩:=hc.cel _ _ _ _ hg
  refine⟨?_,.inr ⟨g,c,c',rfl,bW _,k1,hn,hm,by rw[k2];exact hcs,?_⟩⟩
  ·simp only[bD,eJ,cQ,LW,hd,r];omega
  ·obtain⟨_,V,e2,s1,U⟩:=hS
   dsimp only at s1 U
   rw[k1]at s1;injection s1 with s1;injection s1 with s1 _ _;subst s1
   refine qbp fun q=>?_
   rw[vW]
   have A:(cs.take (j*sz)++ds.toList++cs.drop (j*sz+sz)).length=T*sz:=by simp only[bD,eJ,cQ,LW,hd,r];omega
   split
   ·rename_i hq
    have hx:=U q _ (fR (by rw[A];exact hq))
    rw[vV]at hx
    rw[M8,hx,fR (by rw[A];exact hq)]
   ·rename_i hq
    rw[I4 (by rw[A];omega)]
theorem BJ{t e:TypeId}{n j:Nat}{v u:Value}{cs:List Value}{ad:Addr}{K:World→Prop}(h:Fr w0 w F)(i:Nat)(hi:F[i]?=some (lK e 1 v n cs))(hs:SltR v j 1 ad)(hj:j<n)(hu:u.oneCell'=true)(J:u.cells= #[u])
  (hk:∀w',Fr w0 w' (F.set i (lK e 1 v n (cs.set j u)))→K w') (ht:BM P t=true:=by kernel_rfl):aL P t (aH ad) u w K:=by
 have O:w.ownsRow 0 e 1 v n cs:=h.get i hi
 obtain⟨g,T,c,rfl,rfl⟩:=hs
 rcases O.2 with⟨hn,_⟩|⟨X,cap,I,hv,hb,hg,hn,hm,hcs,N⟩
 ·simp at hn
 simp only[Value.slice.injEq,Option.some.injEq,Addr.mk.injEq,and_true]at hv
 obtain⟨rfl,rfl,rfl⟩:=hv
 have r:cs.length=T*1:=O.1
 have M:St w ⟨g,0,none⟩ cs:=⟨rfl,I,e,hg,fun q u hq=>by
  rw[←N,vW]at hq
  dsimp only;rw[Nat.zero_add]
  split at hq
  ·rw[M8]at hq;exact hq
  ·cases hq⟩
 have C:(⟨g,j*1,none⟩:Addr)=(⟨g,0,none⟩:Addr).add j:=by rw[Addr.add_lit,vV,K6]
 rw[C]
 refine iP M (by rw[r];omega) hu J (fun w' hc _ hS=>hk w' (h.upd i hi hc (fun k _ hh=>.inl ?_) ?_ fun k hk=>.inl hk)) ht
 ·have h2:=hh.1
  rw[Addr.add_lit]at h2
  show some g=some k
  rw[h2]
 ·obtain⟨c',k1,k2,_⟩:=hc.cel _ _ _ _ hg
  refine⟨by rw[AJ];exact r,.inr ⟨g,c,c',rfl,bW _,k1,hn,hm,by rw[k2];exact hcs,?_⟩⟩
  obtain⟨_,V,e2,s1,U⟩:=hS
  dsimp only at s1 U
  rw[k1]at s1;injection s1 with s1;injection s1 with s1 _ _;subst s1
  refine qbp fun q=>?_
  rw[vW]
  have A:(cs.set j u).length=T*1:=by rw[AJ];exact r
  split
  ·rename_i hq
   have hx:=U q _ (fR (by rw[A];exact hq))
   rw[vV]at hx
   rw[M8,hx,fR (by rw[A];exact hq)]
  ·rename_i hq
   rw[I4 (by rw[A];omega)]
theorem mB{t:TypeId}{cks:List Ck}{ad:Addr}{B:World→Prop}{K:TF cks Prop}(vs:List Value)(hc:∀w,B w→∀j u,vs[j]?=some u→w.cell? (ad.add j)=some u)(hk:vR False cks K vs)(hl:vs.length=cks.length:=by rfl)(ht:qds P t vs.length=true:=by kernel_rfl):aI P t (.part (.agg cks)) (aH ad) B K:=
 (QE hk hl (p:=fun vs=>∀w,B w→(Instr.loadAt t (aH ad)).run P w=.ok (.agg vs.toArray) w) (fun w hB=>M3 (hc w hB) ht))
theorem qrG{t:TypeId}{sz:Nat}{j:Array (Nat×Value)}{K:Value→World→Prop}(h:Fr w0 w F)(hp:j= #[])(hk:∀v w',Fr w0 w' (lK (dD P t) sz v 0 []::F)→K v w')(ht:YJ P t sz=true:=by kernel_rfl):eG P t 0 j w K:=by
 obtain⟨hu,i,hi,r⟩:=M6 ht
 subst hp
 have q:(Instr.buildSlice t 0 #[]).run P w=.ok (.slice (some ⟨w.heap.size,0,none⟩) 0 0) (w.alloc (.cells #[] (dD P t))):=by
  simp only[Instr.buildSlice,Sem.run_bind,run_underlying hu,Result.andThen_ok,sizeOf,typeInfo,run_program,hi,Sem.run_pure,r]
  have he:∀f:Nat→Value,Array.map f (Array.range 0)= #[]:=fun f=>qfP (by simp)
  simp [newRow,he,Instr.fill]
 have u:=World.ownsRow_lit (base:=w.heap.size) (e:=dD P t) (size:=sz) w #[] 0 (cJ _) (by decide) (by simp)
 exact⟨_,_,q,hk _ _ (h.new (jt:=lK (dD P t) sz (.slice (some ⟨w.heap.size,0,none⟩) 0 0) 0 []) (Ev.alloc w _) (qjj u) fun k hk=>(u.lt k hk).1)⟩
theorem XY{t e:TypeId}{a:Option Addr}{n c:Nat}(hu:P.underlying t=some (.slice e)):(Op.equal t (.slice a n c) (bR)).run P w=.ok a.isNone w:=by
 have hm:Op.maxDepth=9999+1:=rfl
 unfold Op.equal
 rw[hm]
 generalize 9999=d
 unfold Op.equalIn
 simp only[Sem.run_bind,run_underlying hu,Result.andThen_ok]
 cases a<;>rfl
theorem JR{t:TypeId}{a:Option Addr}{n c:Nat}{K:Bool→Prop}(hk:K a.isNone)(ht:(match P.underlying t with|some (.slice _)=>true|_=>false)=true:=by kernel_rfl):AX P .eql t (.slice a n c) (bR) K:=by
 have hu:∃e,P.underlying t=some (.slice e):=by
  split at ht
  ·rename_i e h;exact⟨e,h⟩
  ·cases ht
 obtain⟨e,hu⟩:=hu
 refine⟨a.isNone,fun j q w=>⟨by cases a<;>rfl,?_⟩,hk⟩
 have hb:binOp .eql t (.slice a n c) (bR)=(do pure (.bool (←Op.equal t (.slice a n c) (bR)))):=by cases a<;>rfl
 rw[hb];simp only[Sem.run_bind,XY hu,Result.andThen_ok,Sem.run_pure]
end
end
section
abbrev qnZ(g n c:Nat):Value:=.slice (some ⟨g,0,none⟩) n c
section
variable {P:Program} {w0 w:World} {F:List It} {e:TypeId} {sz g n c:Nat} {cs:List Value}
theorem qk5(h:w.ownsRow 0 e sz (qnZ g n c) n cs):∃j,w.heap[g]?=some (.cells j e (0,0))∧n≤c∧c≤maxLen∧j.size=c*sz∧j.toList.take (n*sz)=cs∧cs.length=n*sz:=by
 rcases h.2 with⟨hn,_⟩|⟨r,cap,j,hv,hb,hg,hn,hm,hcs,q⟩
 ·simp at hn
 ·simp only[Value.slice.injEq,Option.some.injEq,Addr.mk.injEq,and_true,true_and]at hv
  obtain⟨rfl,rfl⟩:=hv
  exact⟨j,hg,hn,hm,hcs,q,h.1⟩
theorem qsj{j:Array Value}(hg:w.heap[g]?=some (.cells j e (0,0)))(hn:n≤c)(hm:c≤maxLen)(hs:j.size=c*sz)(ht:j.toList.take (n*sz)=cs):w.ownsRow 0 e sz (qnZ g n c) n cs:=by
 refine⟨?_,.inr ⟨g,c,j,rfl,bW _,hg,hn,hm,hs,ht⟩⟩
 rw[←ht,eJ,LW,hs]
 exact vU (kR _ hn)
theorem qk6{v:Value}(h:w.ownsRow 0 e sz v n cs):(v=bR∧n=0)∨∃g c,v=qnZ g n c:=by
 rcases h.2 with h|⟨g,cap,_,hv,_⟩
 ·exact .inl h
 ·exact .inr ⟨g,cap,hv⟩
end
end
section
section
variable {P:Program} {w0 w:World} {F:List It}
theorem Q8{t A:TypeId}{k I:IntKind}{v:Value}{xs:List Int}{i x:Int}{j:Nat}{K:World→Prop}(f:Fr w0 w F)(q:Nat)(hq:F[q]?=some (bI k (dD P t) v xs))(r:i=(j:Int))(hj:j<xs.length)(hx:k.min≤x∧x≤k.max)
  (hk:∀w',Fr w0 w' (F.set q (bI k (dD P t) v (xs.set j x)))→K w') (ht:zH P t k=true:=by kernel_rfl) (u:BM P A=true:=by kernel_rfl):
  aX P t v (.int I i) fun ad=>aL P A (aH ad) (.int k x) w K:=by
 subst r
 refine C6 (f.on q hq) (by omega) (by omega) (fun ad hs _=>qK (f.on q hq) hs (by omega) (by omega) hx (fun w' hc _ C=>hk w' ?_) u) ht
 exact f.upd (jt:=bI k (dD P t) v (xs.set j x)) q hq hc (fun k _ hh=>.inl hh) (C.low (bW _)) fun k hk=>.inl hk
theorem xE{t q:TypeId}{k r:IntKind}{v:Value}{xs:List Int}{i:Int}{B:World→Prop}{K:Int→Prop}(h:Nm k w v xs)(h0:0≤i)(h1:i<xs.length)(hB:∀w',B w'→Ev w w')(hk:K (rd xs i))(ht:zH P t k=true:=by kernel_rfl)(j:flat P q=true:=by kernel_rfl):
  aX P t v (.int r i) fun ad=>aI P q (dQ k) (aH ad) B K:=
 dL h h0 h1 (fun ad c _=>aN (fun w' hw=>Ch.cell (hB w' hw) c fun h=>h) hk j) ht
theorem uC{t q:TypeId}{k r:IntKind}{v:Value}{xs:List Int}{i:Int}{K:Int→Prop}(h:Nm k w v xs)(h0:0≤i)(h1:i<xs.length)(hk:K (rd xs i))(ht:zH P t k=true:=by kernel_rfl)(j:flat P q=true:=by kernel_rfl):
  aX P t v (.int r i) fun ad=>aF P q (dQ k) (aH ad) w K:=
 dL h h0 h1 (fun ad c _=>bG c hk j) ht
theorem yE{b:Bool}{A B:Prop}(ha:b=true→A)(hb:b=false→B):aQ (!(!b)) A B:=by cases b;exact hb rfl;exact ha rfl
theorem qW{w w':World}(h:w'=w.drew):Ev w w':=by subst h;exact Ev.drew0 w
end
end
section
section
variable {w0 w w':World} {F:List It}
theorem Fr.oth{it:It}{S:SS}(h:Fr w0 w F)(i:Nat)(hi:F[i]?=some it)(hc:Ch S w w')(hS:∀k q,S k q→it.ft k):Fr w0 w' (F.eraseIdx i):=by
 refine(h.drop i).ch hc (fun k q hs=>(h.ft i hi (hS k q hs)).1) fun jt hj k q hk hs=>?_
 obtain⟨j,r⟩:=List.mem_iff_getElem?.1 hj
 rw[List.getElem?_eraseIdx]at r
 split at r
 ·rename_i cR
  exact h.apart hi r (by omega) k (hS k q hs) hk
 ·rename_i u
  exact h.apart hi r (by omega) k (hS k q hs) hk
theorem Fr.cons{jt:It}{n:Nat}(h:Fr w0 w F)(hn:w0.heap.size≤n)(q:∀it∈F,∀k,it.ft k→k<n)(ok:jt.ok w)(hf:∀k,jt.ft k→n≤k):Fr w0 w (jt::F):=
 ⟨ok,fun k hk=>nJ hn (hf k hk),fun it hi k hk j=>by have:=hf k hk;have:=q it hi k j;omega,h⟩
theorem qiE{K:Addr→World→Prop}(f:Fr w0 w F)(hk:∀ad v w',Fr w0 w' (rN eB ad v []::F)→K ad w'):cD P oB w K:=
 dX (z:=.agg #[bR]) f (by kernel_rfl) fun ad w' j=>hk ad (bR) w' (j.asW (e:=eB) 0 rfl)
theorem c9{ad:Addr}{v:Value}{xs:List Int}{n:Int}{K:World→Prop}(f:Fr w0 w F)(i:Nat)(hi:F[i]?=some (rN eB ad v xs))(hn:0≤n∧n<18446744073709551616)(hl:xs.length+10≤10000000000)
  (hk:∀v' w',Fr w0 w' (F.set i (rN eB ad v' (xs++eD n.toNat)))→K w'):aE P bY jO #[aH ad,.int .u64 n] w K:=
 cZ (JD (f.get i hi) hn hl) fun w' ⟨v',hw⟩=>hk v' w' (f.wr i hi hw)
theorem qmx{ad:Addr}{v p:Value}{xs:List Int}{yss:List (List Int)}{K:World→Prop}(f:Fr w0 w F)(i:Nat)(hi:F[i]?=some (rN eB ad v xs))(hp:∀w',Fr w0 w' (F.eraseIdx i)→NL .u8 w' p yss)(hl:xs.length+yss.flatten.length≤10000000000)(hn:yss.length≤10000000000)
  (hk:∀v' w',Fr w0 w' (F.set i (rN eB ad v' (xs++yss.flatten)))→K w'):aE P cY jO #[aH ad,p] w K:=
 cZ (qii (f.get i hi) (fun w' hc=>hp w' (f.oth i hi hc fun k q h=>h)) hl hn) fun w' ⟨v',hw⟩=>hk v' w' (f.wr i hi hw)
theorem qbQ{ad:Addr}{v:Value}{xs:List Int}{K:Value→World→Prop}(f:Fr w0 w F)(i:Nat)(hi:F[i]?=some (rN eB ad v xs))(hl:xs.length≤10000000000)(hk:∀y w',Fr w0 w' (bI .u8 eB y xs::F)→K y w'):aE P fF dM #[aH ad] w K:=
 iY (Q:=fun y w'=>Ev w w'∧ON .u8 eB w' w.heap.size y xs) (SQ (f.get i hi) hl) fun y w' ⟨h1,h2⟩=>hk y w' (f.newO h1 h2)
theorem qau{b:Value}{xs:List Int}{K:Option Addr→World→Prop}(f:Fr w0 w F)(hb:Nm .u8 w b xs)(hl:xs.length≤10000000000)(hk:∀ad y w',Fr w0 w' (aT ad [y,aB ((0:Nat):Int),aB 0]::bI .u8 eB y xs::F)→K (some ad) w'):aE P kT jN #[b] w K:=
 aO (qeC hb hl) fun _ w' ⟨ad,y,h1,h2⟩=>⟨some ad,h1,hk ad y w' (h2 f)⟩
theorem qiF{ad:Addr}{y:Value}{xs:List Int}{a:Nat}{er:Int}{K:Int→World→Prop}(f:Fr w0 w (aT ad [y,aB a,aB er]::bI .u8 eB y xs::F))(ha:a≤xs.length)(hl:xs.length≤10000000000)
  (hk:∀w',Fr w0 w' (aT ad [y,aB (jK xs a er 18446744073709551615).2.1,aB (jK xs a er 18446744073709551615).2.2]::bI .u8 eB y xs::F)→K (jK xs a er 18446744073709551615).1 w'):aE P fQ (dQ .u64) #[aH ad] w K:=
 bQ (LD (f.rd 0 1 rfl rfl (by decide) ha hl)) fun w' h=>hk w' (f.rs 0 rfl h)
theorem PK{ad:Addr}{y:Value}{xs:List Int}{a:Nat}{er:Int}{K:Int→World→Prop}(f:Fr w0 w (aT ad [y,aB a,aB er]::bI .u8 eB y xs::F))(ha:a≤xs.length)(hl:xs.length≤10000000000)(hk:K er w):aE P cO bA #[aH ad] w K:=
 bX (vO (f.rd 0 1 rfl rfl (by decide) ha hl)) hk
theorem qqS{ad:Addr}{y:Value}{xs:List Int}{a:Nat}{er:Int}{K:Int→World→Prop}(f:Fr w0 w (aT ad [y,aB a,aB er]::bI .u8 eB y xs::F))(ha:a≤xs.length)(hl:xs.length≤10000000000)(hk:∀w',Ev w w'→K (I8 xs.length a er) w'):aE P kU bA #[aH ad] w K:=
 bQ (qe3 (f.rd 0 1 rfl rfl (by decide) ha hl)) hk
theorem PL{ad:Addr}{y:Value}{xs:List Int}{a:Nat}{er n:Int}{K:Value→World→Prop}(f:Fr w0 w (aT ad [y,aB a,aB er]::bI .u8 eB y xs::F))(ha:a≤xs.length)(hl:xs.length≤10000000000)(hn:n≤9223372036854775807)
  (hk:∀z w',Fr w0 w' (aT ad [y,aB (eV xs a er n).2.1,aB (eV xs a er n).2.2]::bI .u8 eB y xs::bI .u8 eB z (eV xs a er n).1::F)→K z w'):aE P cP dM #[aH ad,aB n] w K:=by
 refine aO (T1 (f.rd 0 1 rfl rfl (by decide) ha hl) hn) ?_
 rintro _ w' ⟨z,rfl,h1,h2⟩
 refine⟨z,rfl,hk z w' ?_⟩
 have j:Fr w0 w' (aT ad [y,aB (eV xs a er n).2.1,aB (eV xs a er n).2.2]::bI .u8 eB y xs::F):=f.rs 0 rfl h1
 have hz:∀k,z.ownBlock=some k→w.heap.size≤k:=fun k hk=>(h2.base hk).1
 have cR:∀it∈(aT ad [y,aB (eV xs a er n).2.1,aB (eV xs a er n).2.2]::bI .u8 eB y xs::F),∀k,it.ft k→k<w.heap.size:=fun it hi k hk=>by
  rcases List.mem_cons.1 hi with rfl|hi
  ·exact It.lt (aT ad [y,aB a,aB er]) w k (f.get 0 rfl) hk
  ·exact It.lt it w k (f.mem (lL _ hi)).1 hk
 have q:=j.cons (jt:=bI .u8 eB z (eV xs a er n).1) f.old.size cR (h2.low (bW _)) hz
 exact q.picksN 3 [1,2,0] (by decide) (by decide)
theorem KH{xs:List Int}{a:Nat}{er m:Int}(ha:a≤xs.length):(jK xs a er m).2.1≤xs.length:=(qpW ha).2
theorem M0{xs:List Int}{a:Nat}{er n:Int}(ha:a≤xs.length):(eV xs a er n).2.1≤xs.length:=by
 unfold eV
 split
 ·exact ha
 ·split
  ·exact ha
  ·dsimp only;omega
theorem qgL{ad:Addr}{v b:Value}{xs ys:List Int}{K:World→Prop}(f:Fr w0 w F)(i:Nat)(hi:F[i]?=some (rN eB ad v xs))(hb:∀w',Fr w0 w' (F.eraseIdx i)→Nm .u8 w' b ys)(hl:xs.length+ys.length+10≤10000000000)
  (hk:∀v' w',Fr w0 w' (F.set i (rN eB ad v' (xs++eD ys.length++ys)))→K w'):aE P iG jO #[aH ad,b] w K:=
 cZ (qdq (f.get i hi) (fun w' hc=>hb w' (f.oth i hi hc fun k q h=>h)) hl) fun w' ⟨v',hw⟩=>hk v' w' (f.wr i hi hw)
theorem NL.of{k:IntKind}{p:Value}{us:List Value}{yss:List (List Int)}(hp:Sl w 1 p us.length us)(hl:us.length=yss.length)(h:∀(i:Nat) (u:Value) (ys:List Int),us[i]?=some u→yss[i]?=some ys→Nm k w u ys):NL k w p yss:=⟨us,by rw[←hl];exact hp,h⟩
end
end
section
def okN(ts:List Int):Nat→Bool
 |0=>true
 |k+1=>okN ts k&&(decide (1≤rd ts (k:Int)∧rd ts (k:Int)≤6)&& !decide (rd ts (k:Int)∈ts.take k))
def iL(ts:List Int):Bool:=okN ts ts.length&&decide (ts.length≤4)
theorem qq4{ts:List Int}{k:Nat}(h:okN ts k=false):∀n,k≤n→okN ts n=false
 |0,hk=>by
  obtain rfl:k=0:=by omega
  exact h
 |n+1,hk=>by
  by_cases e:k=n+1
  ·rw[←e];exact h
  ·rw[okN,qq4 h n (by omega)];rfl
theorem qnv{ts:List Int}:∀{k:Nat},okN ts k=true→∀j:Nat,j<k→(1≤rd ts (j:Int)∧rd ts (j:Int)≤6)∧rd ts (j:Int)∉ts.take j
 |0,_,j,h=>by omega
 |k+1,h,j,hj=>by
  rw[okN,mK,mK]at h
  by_cases e:j=k
  ·subst e
   exact⟨of_decide_eq_true h.2.1,by simpa using h.2.2⟩
  ·exact qnv h.1 j (by omega)
theorem qnu{ts:List Int}:∀{k:Nat},(∀j:Nat,j<k→(1≤rd ts (j:Int)∧rd ts (j:Int)≤6)∧rd ts (j:Int)∉ts.take j)→okN ts k=true
 |0,_=>rfl
 |k+1,h=>by
  rw[okN,qnu fun j hj=>h j (by omega),decide_eq_true (h k (by omega)).1,decide_eq_false (h k (by omega)).2];rfl
theorem qhO:iL []=true:=rfl
theorem Y8{ts:List Int}:iL ts=true↔ts.length≤4∧(∀t∈ts,1≤t∧t≤6)∧ts.Nodup:=by
 unfold iL
 rw[mK,decide_eq_true_iff]
 constructor
 ·rintro⟨h1,h2⟩
  have h:=qnv h1
  refine⟨h2,fun t ht=>?_,?_⟩
  ·obtain⟨j,hj,rfl⟩:=List.getElem_of_mem ht
   rw[←dK ts j hj];exact(h j hj).1
  ·refine List.pairwise_iff_getElem.2 fun i j hi hj q e=>(h j hj).2 ?_
   rw[dK ts j hj,←e]
   exact List.mem_take_iff_getElem.2 ⟨i,by omega,rfl⟩
 ·rintro⟨h1,h2,h3⟩
  refine⟨qnu fun j hj=>?_,h1⟩
  rw[dK ts j hj]
  refine⟨h2 _ (kH hj),fun hm=>?_⟩
  obtain⟨i,hi,e⟩:=List.mem_take_iff_getElem.1 hm
  exact List.pairwise_iff_getElem.1 h3 i j (by omega) hj (by omega) e
theorem qhP{ts us:List Int}(h:us.Sublist ts)(j:iL ts=true):iL us=true:=by
 obtain⟨h1,h2,h3⟩:=Y8.1 j
 exact Y8.2 ⟨by have:=h.length_le;omega,fun t ht=>h2 t (h.subset ht),h3.sublist h⟩
theorem qnX{ts:List Int}(h:iL ts=true):okN ts ts.length=true:=by
 unfold iL at h;rw[mK]at h;exact h.1
theorem LH{ts:List Int}(h:iL ts=true){k:Nat}(hk:k<ts.length):1≤rd ts (k:Int)∧rd ts (k:Int)≤6:=(qnv (qnX h) k hk).1
theorem OJ{ts:List Int}(h:iL ts=true):ts.length≤4:=(Y8.1 h).1
noncomputable abbrev eN:TypeId:=dD P bJ
def cpV(t:Int):Value:=if t=1 then .func (.func uI) #[] #[]else if t=2 then .func (.func uT) #[] #[]else if t=3 then .func (.func vE) #[] #[]else if t=4 then .func (.func vL) #[] #[]else if t=5 then .func (.func vF) #[] #[]else if t=6 then .func (.func zA) #[] #[]else .nilFunc
def cuV(t:Int):Value:=if t=1 then .func (.func pO) #[] #[]else if t=2 then .func (.func pV) #[] #[]else if t=3 then .func (.func qA) #[] #[]else if t=4 then .func (.func qD) #[] #[]else if t=5 then .func (.func qB) #[] #[]else if t=6 then .func (.func rX) #[] #[]else .nilFunc
theorem qbK(t:Int):(cpV t).oneCell'=true:=by unfold cpV;(repeat' split)<;>rfl
theorem qbM(t:Int):(cuV t).oneCell'=true:=by unfold cuV;(repeat' split)<;>rfl
theorem qsu{t:Int}(h:1≤t∧t≤6):t=1∨t=2∨t=3∨t=4∨t=5∨t=6:=by omega
noncomputable def qlH(w:World)(r:List Int×List Int)(e:Ending)(w':World):Prop:=∃x d,e=bP #[x,d]∧Ev w w'∧ON .u8 eB w' w.heap.size x r.1∧ON .i64 eN w' w.heap.size d r.2
def qrh(w:World)(r:List Int)(e:Ending)(w':World):Prop:=∃v,e=aW v∧Ev w w'∧Nm .i64 w' v r
section
variable {w0 w:World} {F:List It}
theorem gOf{t:Int}{K:Value→Value→Bool→World→Prop}(hk:∀w',Ev w w'→K (cpV t) (cuV t) (decide (1≤t∧t≤6)) w'):aE P F5 (.tup [.agg [.val,.val],.one .bool]) #[aB t] w K:=by
 refine aO (R:=fun e w'=>e=bP #[.agg #[cpV t,cuV t],.bool (decide (1≤t∧t≤6))]∧Ev w w') ?_ ?_
 ·refine qeL (dX (z:=.agg #[.nilFunc,.nilFunc]) (Fr.start w) (by kernel_rfl) fun ad w1 q=>?_)
  refine cN (fun h=>?_) (fun h1=>cN (fun h=>?_) (fun h2=>cN (fun h=>?_) (fun h3=>cN (fun h=>?_) (fun h4=>cN (fun h=>?_) (fun h5=>cN (fun h=>?_) (fun h6=>?_))))))
  ·subst h;exact⟨rfl,rfl,cS q 0 rfl (fun w2 j=>gE j 0 rfl ⟨rfl,j.old⟩)⟩
  ·subst h;exact⟨rfl,rfl,cS q 0 rfl (fun w2 j=>gE j 0 rfl ⟨rfl,j.old⟩)⟩
  ·subst h;exact⟨rfl,rfl,cS q 0 rfl (fun w2 j=>gE j 0 rfl ⟨rfl,j.old⟩)⟩
  ·subst h;exact⟨rfl,rfl,cS q 0 rfl (fun w2 j=>gE j 0 rfl ⟨rfl,j.old⟩)⟩
  ·subst h;exact⟨rfl,rfl,cS q 0 rfl (fun w2 j=>gE j 0 rfl ⟨rfl,j.old⟩)⟩
  ·subst h;exact⟨rfl,rfl,cS q 0 rfl (fun w2 j=>gE j 0 rfl ⟨rfl,j.old⟩)⟩
  ·refine cS q 0 rfl (fun w2 j=>gE j 0 rfl ⟨?_,j.old⟩)
   unfold cpV cuV
   rw[if_neg h1,if_neg h2,if_neg h3,if_neg h4,if_neg h5,if_neg h6,if_neg h1,if_neg h2,if_neg h3,if_neg h4,if_neg h5,if_neg h6,decide_eq_false (by omega)]
 ·rintro _ w' ⟨rfl,h⟩
  exact⟨_,_,_,rfl,hk w' h⟩
theorem GU{b:Value}{xs:List Int}(hb:Nm .u8 w b xs)(hl:xs.length≤1000000000):Calls P mD #[b] w (JC w xs):=by
 have j:=hb
 obtain⟨⟨a,c,rfl,_,_,_,h0⟩,_⟩:=j
 refine WG (JR (iQ (fun h=>?_) (fun h=>?_)))
 ·have e:xs=[]:=xI (h0 (by simpa using h))
  subst e
  exact⟨_,rfl,Ch.refl _ w,ON.nil _ _ _ _⟩
 ·refine jF [] (Fr.start w) rfl rfl (fun x hx=>by cases hx) fun v w1 q=>vZ q 0 rfl (hb.ev q.old) (by simp;omega) fun v2 w2 r=>⟨v2,rfl,r.old,?_⟩
  have:=r.on 0 rfl
  exact this
theorem UZ{a b:Value}{xs ys:List Int}(ha:Nm .u8 w a xs)(hb:Nm .u8 w b ys):Calls P gU #[a,b] w (fun e w'=>e=aW (.bool (decide (xs=ys)))∧w'=w):=
 G7 (lA ha (lA hb ⟨by rw[yC ha.2 hb.2],rfl⟩))
theorem qnd{ts:List Int}{t:Int}:t∈ts↔∃j:Nat,j<ts.length∧rd ts (j:Int)=t:=by
 constructor
 ·intro h
  obtain⟨j,hj,e⟩:=List.getElem_of_mem h
  exact⟨j,hj,by rw[dK ts j hj,e]⟩
 ·rintro⟨j,hj,rfl⟩
  rw[dK ts j hj];exact kH hj
theorem ZY{v:Value}{ts:List Int}{t:Int}(h:Nm .i64 w v ts)(hl:ts.length≤1000000000):Calls P lM #[v,aB t] w (fun e w'=>e=aW (.bool (decide (t∈ts)))∧w'=w):=by
 refine G8 (aO (R:=fun e w'=>∃r:Int,e=aW (aB r)∧(r≥0↔t∈ts)∧w'=w) ?_ ?_)
 ·refine S3 (aP h ⟨fun i w'=>∃k:Nat,i=(k:Int)∧k≤ts.length∧(∀j:Nat,j<k→rd ts (j:Int)≠t)∧w'=w,fun i _=>(ts.length-i).toNat,⟨0,rfl,bW _,(fun j hj=>by omega),rfl⟩,?_⟩)
  rintro _ i _ ⟨k,rfl,hk,hall,rfl⟩
  refine aG (fun cR=>uC h (by omega) (by omega) (cN (fun he=>?_) (fun q=>?_))) (fun u=>?_)
  ·exact⟨_,rfl,⟨fun _=>qnd.2 ⟨k,by omega,he.symm⟩,fun _=>by omega⟩,rfl⟩
  ·refine⟨⟨k+1,by rw[aD (by omega) (by omega)];omega,by omega,fun j hj=>?_,rfl⟩,by dsimp only;rw[aD (by omega) (by omega)];omega⟩
   by_cases e:j=k
   ·subst e;exact fun e=>q e.symm
   ·exact hall j (by omega)
  ·refine⟨_,rfl,⟨fun h=>by omega,fun hm=>?_⟩,rfl⟩
   obtain⟨j,hj,e⟩:=qnd.1 hm
   exact absurd e (hall j (by omega))
 ·rintro _ _ ⟨r,rfl,A,rfl⟩
  exact⟨_,rfl,by rw[decide_eq_decide.2 A],rfl⟩
theorem qe9{ts:List Int}{k:Nat}(hk:k<ts.length)(h:okN ts (k+1)=false):iL ts=false:=by
 unfold iL;rw[qq4 h ts.length (by omega)];rfl
theorem U8{v:Value}{ts:List Int}(hb:Nm .i64 w v ts)(hl:ts.length≤1000000000):Calls P oM #[v] w (fun e w'=>e=aW (.bool (iL ts))∧Ev w w'):=by
 refine WI (aP hb ⟨fun i w'=>∃k:Nat,i=(k:Int)∧k≤ts.length∧okN ts k=true∧Ev w w',fun i _=>(ts.length-i).toNat,⟨0,rfl,bW _,rfl,Ch.refl _ w⟩,?_⟩)
 rintro _ i w1 ⟨k,rfl,hk,hok,h1⟩
 refine aG (fun cR=>uC (hb.ev h1) (by omega) (by omega) (gOf fun w2 h2=>dX (z:=.agg #[.nilFunc,.nilFunc]) (Fr.start w2) (by kernel_rfl) fun ad w3 f3=>cS f3 0 rfl (fun w4 f4=>?_) rfl (fun x hx=>?_))) (fun j=>?_)
 ·have h4:=(h1.trans h2).trans f4.old
  refine yE (fun ht=>?_) (fun ht=>⟨?_,h4⟩)
  ·refine dJ (hb.ev h4) 0 k (.inl ⟨rfl,rfl⟩) (.inr ⟨_,rfl⟩) (bW _) hk fun hs=>?_
   rw[oL,Z9]at hs
   refine hZ (ZY hs (by rw[eJ];omega)) (iQ (fun hc=>⟨?_,h4⟩) (fun hc=>?_))
   ·rw[qe9 (k:=k) (by omega) (by rw[okN,hc];simp)]
   ·exact⟨⟨k+1,by rw[aD (by omega) (by omega)];omega,by omega,by rw[okN,hok,ht,hc];rfl,h4⟩,by dsimp only;rw[aD (by omega) (by omega)];omega⟩
  ·rw[qe9 (k:=k) (by omega) (by rw[okN,ht];simp)]
 ·simp at hx;rcases hx with rfl|rfl
  ·exact qbK _
  ·exact qbM _
 ·obtain rfl:k=ts.length:=by omega
  refine aP hb ⟨?_,h1⟩
  unfold iL
  rw[hok,Bool.true_and]
  congr 2
  exact decide_eq_decide.2 (by omega)
end
end
section
def Tx(e:TypeId)(w:World)(v:Value)(xs:List Int):Prop:=∃g c j,v=.slice (some ⟨g,0,none⟩) xs.length c∧xs.length≤c∧w.heap[g]?=some (.cells j e (j.size,j.size+1))∧j.size=c∧j.toList.take xs.length=xs.map (Value.int .u8)∧inR .u8 xs
theorem Tx.ch{e:TypeId}{S:SS}{w w':World}{v:Value}{xs:List Int}(h:Tx e w v xs)(hc:Ch S w w')(hs:∀k i,v.ownBlock=some k→¬S k i):Tx e w' v xs:=by
 obtain⟨g,c,j,rfl,h1,h2,h3⟩:=h
 exact⟨g,c,j,rfl,h1,by rw[hc.blk g (cR h2) fun i=>hs g i rfl];exact h2,h3⟩
theorem Tx.nm{e:TypeId}{w:World}{v:Value}{xs:List Int}(h:Tx e w v xs):Nm .u8 w v xs:=by
 obtain⟨g,c,r,rfl,h1,h2,h3,h4,h5⟩:=h
 refine⟨⟨some ⟨g,0,none⟩,c,rfl,h1,by simp,fun ad ha j u hj=>?_,fun h=>by cases h⟩,h5⟩
 injection ha with ha;subst ha
 rw[Addr.add_lit]
 have q:j<xs.length:=by simpa using (List.getElem?_eq_some_iff.1 hj).1
 rw[←h4,vW,if_pos q,M8]at hj
 simp [World.cell?,h2,hj]
def tIt(e:TypeId)(v:Value)(xs:List Int):It:=⟨fun b=>v.ownBlock=some b,fun w=>Tx e w v xs,fun _ _ h hk=>by
  obtain⟨g,c,j,rfl,_,h1,_⟩:=h
  simp [Value.ownBlock]at hk;subst hk;exact⟨_,_,_,h1⟩,fun _ _ _ h hc hs=>h.ch hc hs,fun _ _ h _ hc=>by
  obtain⟨g,c,j,rfl,h1,h2,h3⟩:=h;exact⟨g,c,j,rfl,h1,by rw[hc _ _ _ _ h2];exact h2,h3⟩⟩
def YL(P:Program)(s d:TypeId):Bool:=match P.underlying s,P.underlying d with
 |some .string,some (.slice e)=>(match P.underlying e with|some (.int .u8)=>true|_=>false)
 |_,_=>false
section
variable {w0 w:World} {F:List It}
theorem qd1{s d:TypeId}{x:ByteArray}{K:Value→World→Prop}(f:Fr w0 w F)(hl:x.size≤1000000)(hk:∀v w',KeepsOthers w w'→Fr w0 w' (tIt (dD P d) v (TJ x)::F)→K v w')(ht:YL P s d=true:=by kernel_rfl):tC P s d dM (.string x) w K:=by
 unfold YL at ht
 split at ht
 ·rename_i e hs hd
  split at ht
  ·rename_i he
   have r:dD P d=e:=by unfold dD;rw[hd]
   rw[r]at hk
   have A:=grownCap_ge w x.size 0 e
   have j:=vP x
   have q:x.data.toList.length=x.size:=by rw[LW];rfl
   have u:(bytesRow x (grownCap w x.size 0 e)).size=grownCap w x.size 0 e:=by
    unfold bytesRow
    have:x.data.size=x.size:=rfl
    simp only[Array.size_append,Array.size_map,Array.size_replicate,this]at*
    omega
   refine⟨_,_,run_bytes_of_string w s d e x hs hd he,hk _ _ (Ev.trans (Ev.drew0 w) (Ev.alloc w.drew _)).others (f.new (jt:=tIt e _ (TJ x)) (Ev.trans (Ev.drew0 w) (Ev.alloc w.drew _)) ⟨w.heap.size,_,_,by rw[j],by rw[j];omega,heap_alloc_new w.drew _,u,?_,qsn x⟩ fun k hk=>?_)⟩
   ·unfold bytesRow
    rw[Array.toList_append,List.take_left' (by rw[Array.toList_map,fE,j,q])]
    rw[Array.toList_map]
    unfold TJ
    rw[List.map_map];rfl
   ·have:w.heap.size=k:=by simpa [tIt,Value.ownBlock]using hk
    omega
  ·cases ht
 ·cases ht
end
end
end Go.Proofs.YtabchipjjghhnaaGreatDoorV
namespace Go.Proofs.YtabchipjjghhnaaGreatDoorV
section
section
variable {α:Type}
def PermOn(a b:Nat)(f j:Nat→α):Prop:=∃s t:Nat→Nat,(∀i,j i=f (s i))∧(∀i,s (t i)=i)∧(∀i,t (s i)=i)∧∀i,i<a∨b≤i→s i=i
theorem PermOn.refl(a b:Nat)(f:Nat→α):PermOn a b f f:=⟨id,id,fun _=>rfl,fun _=>rfl,fun _=>rfl,fun _ _=>rfl⟩
theorem PermOn.trans{a b:Nat}{f g h:Nat→α}(h1:PermOn a b f g)(h2:PermOn a b g h):PermOn a b f h:=by
 obtain⟨s,t,e1,e2,e3,j⟩:=h1
 obtain⟨s',q,d1,d2,d3,d4⟩:=h2
 exact⟨fun i=>s (s' i),fun i=>q (t i),fun i=>by rw[d1,e1],fun i=>by dsimp only;rw[d2,e2],fun i=>by dsimp only;rw[e3,d3],fun i hi=>by dsimp only;rw[d4 i hi,j i hi]⟩
theorem PermOn.mono{a b j q:Nat}{f g:Nat→α}(h:PermOn a b f g)(ha:j≤a)(hb:b≤q):PermOn j q f g:=by
 obtain⟨s,t,e1,e2,e3,r⟩:=h
 exact⟨s,t,e1,e2,e3,fun i hi=>r i (by omega)⟩
theorem PermOn.out{a b:Nat}{f g:Nat→α}(h:PermOn a b f g){i:Nat}(hi:i<a∨b≤i):g i=f i:=by
 obtain⟨s,t,e1,e2,e3,j⟩:=h
 rw[e1,j i hi]
theorem PermOn.ins{a b:Nat}{f g:Nat→α}(h:PermOn a b f g){i:Nat}(h1:a≤i)(h2:i<b):∃j,a≤j∧j<b∧g i=f j:=by
 obtain⟨s,t,e1,e2,e3,q⟩:=h
 refine⟨s i,?_,?_,e1 i⟩
 ·refine Decidable.byContradiction fun hn=>?_
  have:=q (s i) (.inl (by omega))
  have:=congrArg t this
  rw[e3,e3]at this;omega
 ·refine Decidable.byContradiction fun hn=>?_
  have:=q (s i) (.inr (by omega))
  have:=congrArg t this
  rw[e3,e3]at this;omega
theorem PermOn.perm{n:Nat}{f g:Nat→α}(h:PermOn 0 n f g):((List.range n).map g).Perm ((List.range n).map f):=by
 have u:∀i,i<n→∃j,j<n∧g i=f j:=fun i hi=>let⟨j,_,h2,h3⟩:=h.ins (bW i) hi;⟨j,h2,h3⟩
 obtain⟨s,t,e1,e2,e3,r⟩:=h
 have hs:∀i,i<n→s i<n:=fun i hi=>by
  refine Decidable.byContradiction fun hn=>?_
  have:=r (s i) (.inr (by omega))
  have:=congrArg t this
  rw[e3,e3]at this;omega
 have ht:∀i,i<n→t i<n:=fun i hi=>by
  refine Decidable.byContradiction fun hn=>?_
  have:=r (t i) (.inr (by omega))
  rw[e2]at this;omega
 have e:(List.range n).map g=((List.range n).map s).map f:=by rw[List.map_map];exact List.map_congr_left fun i _=>e1 i
 rw[e]
 refine List.Perm.map f ?_
 refine(List.perm_ext_iff_of_nodup ?_ List.nodup_range).2 fun i=>?_
 ·refine List.nodup_iff_pairwise_ne.2 ?_
  rw[List.pairwise_map]
  refine List.Pairwise.imp (fun{x y} q hs=>q ?_) (List.nodup_iff_pairwise_ne.1 List.nodup_range)
  have:=congrArg t hs
  rw[e3,e3]at this;exact this
 ·simp only[List.mem_map,List.mem_range]
  exact⟨fun⟨j,h1,h2⟩=>h2▸hs j h1,fun hi=>⟨t i,ht i hi,e2 i⟩⟩
def swp(f:Nat→α)(i j:Nat):Nat→α:=fun k=>if k=i then f j else if k=j then f i else f k
def SF(a m b:Nat)(k:Nat):Nat:=if a≤k∧k<b then(if k<a+(b-m)then k+(m-a)else k-(b-m))else k
def rot(a m b:Nat)(f:Nat→α):Nat→α:=fun k=>f (SF a m b k)
theorem qnY(f:Nat→α){a m b:Nat}(h1:a≤m)(h2:m≤b):PermOn a b f (rot a m b f):=by
 refine⟨SF a m b,SF a (a+(b-m)) b,fun k=>rfl,fun k=>?_,fun k=>?_,fun k hk=>?_⟩
 ·unfold SF;repeat' split
  all_goals omega
 ·unfold SF;repeat' split
  all_goals omega
 ·unfold SF;rw[if_neg (by omega)]
def swR(a b n:Nat)(f:Nat→α):Nat→α:=fun k=>if a≤k∧k<a+n then f (k+b-a)else if b≤k∧k<b+n then f (k+a-b)else f k
theorem qfv(a b:Nat)(f:Nat→α):swR a b 0 f=f:=by
 funext k;unfold swR;rw[if_neg (by omega),if_neg (by omega)]
theorem qfu(a b n:Nat)(f:Nat→α)(h:a+n<b):swp (swR a b n f) (a+n) (b+n)=swR a b (n+1) f:=by
 funext k
 unfold swp swR
 repeat' split
 all_goals first|omega|(congr 1;omega)|rfl
theorem qsh(m i j:Nat)(f:Nat→α)(q:i≤m)(h:j<i):rot (m-(i-j)) m (m+j) (swR (m-i) m j f)=rot (m-i) m (m+j) f:=by
 funext k
 unfold rot SF swR
 repeat' split
 all_goals first|omega|(congr 1;omega)|rfl
theorem qsi(m i j:Nat)(f:Nat→α)(q:i≤m)(h:i<j):rot (m-i) m (m+(j-i)) (swR (m-i) (m+j-i) i f)=rot (m-i) m (m+j) f:=by
 funext k
 unfold rot SF swR
 repeat' split
 all_goals first|omega|(congr 1;omega)|rfl
theorem qsg(m i:Nat)(f:Nat→α)(j:i≤m):swR (m-i) m i f=rot (m-i) m (m+i) f:=by
 funext k
 unfold rot SF swR
 repeat' split
 all_goals first|omega|(congr 1;omega)|rfl
structure Wk (lt:α→α→Bool):Prop where
 tr:∀x y z,lt y x=false→lt z y=false→lt z x=false
 asy:∀x y,lt x y=true→lt y x=false
variable {lt:α→α→Bool}
def Srt(lt:α→α→Bool)(a b:Nat)(f:Nat→α):Prop:=∀i j,a≤i→i<j→j<b→lt (f j) (f i)=false
theorem Srt.sub{a b q r:Nat}{f:Nat→α}(h:Srt lt a b f)(ha:a≤q)(hb:r≤b):Srt lt q r f:=fun i j h1 h2 h3=>h i j (by omega) h2 (by omega)
theorem Srt.out{a b c d:Nat}{f g:Nat→α}(h:Srt lt a b f)(hp:PermOn c d f g)(hd:b≤c∨d≤a):Srt lt a b g:=fun i j h1 h2 h3=>by
 rw[hp.out (by omega),hp.out (by omega)];exact h i j h1 h2 h3
def Q5(f:Nat→α)(i j:Nat):Nat→α:=fun k=>if k<j then f k else if k=j then f i else if k≤i then f (k-1)else f k
theorem UX(f:Nat→α)(i:Nat):Q5 f i i=f:=by
 funext k;unfold Q5
 repeat' split
 all_goals first|omega|(congr 1;omega)|rfl
theorem qaq(f:Nat→α)(i j:Nat)(h0:0<j)(h:j≤i):swp (Q5 f i j) j (j-1)=Q5 f i (j-1):=by
 funext k;unfold swp Q5
 repeat' split
 all_goals first|omega|(congr 1;omega)|rfl
theorem DU(f:Nat→α){a i j:Nat}(ha:a≤j)(h:j≤i):PermOn a (i+1) f (Q5 f i j):=by
 refine⟨fun k=>if k<j then k else if k=j then i else if k≤i then k-1 else k,fun k=>if k<j then k else if k<i then k+1 else if k=i then j else k,fun k=>?_,fun k=>?_,fun k=>?_,fun k hk=>?_⟩
 ·dsimp only[Q5];repeat' split
  all_goals rfl
 ·dsimp only;repeat' split
  all_goals omega
 ·dsimp only;repeat' split
  all_goals omega
 ·dsimp only;repeat' split
  all_goals omega
theorem qd0(O:Wk lt){f:Nat→α}{a i j:Nat}(hs:Srt lt a i f)(u:a≤j)(A:j≤i)(h1:∀k,j≤k→k<i→lt (f i) (f k)=true)(h2:j=a∨lt (f i) (f (j-1))=false):Srt lt a (i+1) (Q5 f i j):=by
 have low:∀k,a≤k→k<j→lt (f i) (f k)=false:=fun k hk1 hk2=>by
  rcases h2 with h2|h2
  ·omega
  ·by_cases hk:k=j-1
   ·subst hk;exact h2
   ·exact O.tr _ _ _ (hs k (j-1) hk1 (by omega) (by omega)) h2
 intro p q hp r hq
 unfold Q5
 by_cases q1:q<j
 ·rw[if_pos q1,if_pos (by omega)];exact hs p q hp r (by omega)
 ·rw[if_neg q1]
  by_cases q2:q=j
  ·rw[if_pos q2,if_pos (by omega)];exact low p hp (by omega)
  ·rw[if_neg q2,if_pos (by omega)]
   by_cases p1:p<j
   ·rw[if_pos p1]
    by_cases e:p=q-1
    ·omega
    ·exact hs p (q-1) hp (by omega) (by omega)
   ·rw[if_neg p1]
    by_cases p2:p=j
    ·rw[if_pos p2];exact O.asy _ _ (h1 (q-1) (by omega) (by omega))
    ·rw[if_neg p2,if_pos (by omega)];exact hs (p-1) (q-1) (by omega) (by omega) (by omega)
def up(f:Nat→α)(a j:Nat):Nat→α:=fun k=>if k<a then f k else if k<j then f (k+1)else if k=j then f a else f k
theorem qox(f:Nat→α)(a:Nat):up f a a=f:=by
 funext k;unfold up
 repeat' split
 all_goals first|omega|(congr 1;omega)|rfl
theorem qqz(f:Nat→α)(a j:Nat)(h:a≤j):swp (up f a j) j (j+1)=up f a (j+1):=by
 funext k;unfold swp up
 repeat' split
 all_goals first|omega|(congr 1;omega)|rfl
theorem qjC(f:Nat→α){a j b:Nat}(h:a≤j)(hb:j<b):PermOn a b f (up f a j):=by
 refine⟨fun k=>if k<a then k else if k<j then k+1 else if k=j then a else k,fun k=>if k<a then k else if k=a then j else if k≤j then k-1 else k,fun k=>?_,fun k=>?_,fun k=>?_,fun k hk=>?_⟩
 ·dsimp only[up];repeat' split
  all_goals rfl
 ·dsimp only;repeat' split
  all_goals omega
 ·dsimp only;repeat' split
  all_goals omega
 ·dsimp only;repeat' split
  all_goals omega
theorem qsw(O:Wk lt){f:Nat→α}{a i b:Nat}(hs:Srt lt (a+1) b f)(j:a+1≤i)(r:i≤b)(h1:∀k,a+1≤k→k<i→lt (f k) (f a)=true)(h2:∀k,i≤k→k<b→lt (f k) (f a)=false):Srt lt a b (up f a (i-1)):=by
 intro p q hp u hq
 unfold up
 rw[if_neg (show ¬q<a by omega),if_neg (show ¬p<a by omega)]
 by_cases q1:q<i-1
 ·rw[if_pos q1,if_pos (by omega)];exact hs _ _ (by omega) (by omega) (by omega)
 ·rw[if_neg q1]
  by_cases q2:q=i-1
  ·rw[if_pos q2,if_pos (by omega)];exact O.asy _ _ (h1 (p+1) (by omega) (by omega))
  ·rw[if_neg q2]
   by_cases p1:p<i-1
   ·rw[if_pos p1];exact hs _ _ (by omega) (by omega) (by omega)
   ·rw[if_neg p1]
    by_cases p2:p=i-1
    ·rw[if_pos p2];exact h2 q (by omega) (by omega)
    ·rw[if_neg p2];exact hs _ _ (by omega) (by omega) (by omega)
theorem qki(O:Wk lt){f:Nat→α}{a i m:Nat}(hs:Srt lt a m f)(j:a≤i)(q:i≤m)(h1:∀k,a≤k→k<i→lt (f m) (f k)=false)(h2:∀k,i≤k→k<m→lt (f m) (f k)=true):Srt lt a (m+1) (Q5 f m i):=
 qd0 O hs j q h2 (by
  by_cases h:i=a
  ·exact .inl h
  ·exact .inr (h1 (i-1) (by omega) (by omega)))
theorem qez(O:Wk lt){f:Nat→α}{a m b mid s:Nat}(A:Srt lt a m f)(C:Srt lt m b f)(U:a≤mid)(V:mid≤b)(has:a≤s)(Y:s≤m)(X:s≤mid)(T:mid+m-s≤b)
  (h1:∀c,a≤c→c<s→mid+m-b≤c→lt (f (mid+m-1-c)) (f c)=false) (h2:s<m→s<mid→lt (f (mid+m-1-s)) (f s)=true):
  Srt lt a s (rot s m (mid+m-s) f)∧Srt lt s mid (rot s m (mid+m-s) f)∧Srt lt mid (mid+m-s) (rot s m (mid+m-s) f)∧Srt lt (mid+m-s) b (rot s m (mid+m-s) f)∧
  ∀p q,a≤p→p<mid→mid≤q→q<b→lt (rot s m (mid+m-s) f q) (rot s m (mid+m-s) f p)=false:=by
 have e:∀k,rot s m (mid+m-s) f k=if s≤k∧k<mid+m-s then(if k<mid then f (k+(m-s))else f (k-(mid-s)))else f k:=fun k=>by
  unfold rot SF
  repeat' split
  all_goals first|omega|(congr 1;omega)|rfl
 have hl:∀k,a≤k→k<s→rot s m (mid+m-s) f k=f k:=fun k _ h=>by rw[e,if_neg (by omega)]
 have u:∀k,s≤k→k<mid→rot s m (mid+m-s) f k=f (k+(m-s)):=fun k h1 h2=>by rw[e,if_pos (by omega),if_pos h2]
 have r:∀k,mid≤k→k<mid+m-s→rot s m (mid+m-s) f k=f (k-(mid-s)):=fun k h1 h2=>by rw[e,if_pos (by omega),if_neg (by omega)]
 have M:∀k,mid+m-s≤k→rot s m (mid+m-s) f k=f k:=fun k h=>by rw[e,if_neg (by omega)]
 refine⟨fun i j p1 p2 p3=>?_,fun i j p1 p2 p3=>?_,fun i j p1 p2 p3=>?_,fun i j p1 p2 p3=>?_,fun p q p1 p2 q1 q2=>?_⟩
 ·rw[hl _ p1 (by omega),hl _ (by omega) p3];exact A i j p1 p2 (by omega)
 ·rw[u _ p1 (by omega),u _ (by omega) p3];exact C _ _ (by omega) (by omega) (by omega)
 ·rw[r _ p1 (by omega),r _ (by omega) p3];exact A _ _ (by omega) (by omega) (by omega)
 ·rw[M _ p1,M _ (by omega)];exact C _ _ (by omega) (by omega) (by omega)
 ·--le within the old halves,reflexive
  have I:∀x y,a≤x→x≤y→y<m→lt (f y) (f x)=false:=fun x y h1 h2 h3=>by
   by_cases h:x=y
   ·subst h
    cases hh:lt (f x) (f x)with
    |false=>rfl
    |true=>rw[O.asy _ _ hh]at hh;cases hh
   ·exact A x y h1 (by omega) h3
  have J:∀x y,m≤x→x≤y→y<b→lt (f y) (f x)=false:=fun x y h1 h2 h3=>by
   by_cases h:x=y
   ·subst h
    cases hh:lt (f x) (f x)with
    |false=>rfl
    |true=>rw[O.asy _ _ hh]at hh;cases hh
   ·exact C x y h1 (by omega) h3
  by_cases ps:p<s
  ·rw[hl p p1 ps]
   by_cases N:q<mid+m-s
   ·rw[r q q1 N];exact I _ _ p1 (by omega) (by omega)
   ·rw[M q (by omega)]
    have hc:=h1 (s-1) (by omega) (by omega) (by omega)
    rw[show mid+m-1-(s-1)=mid+m-s by omega]at hc
    exact O.tr _ _ _ (I p (s-1) p1 (by omega) (by omega)) (O.tr _ _ _ hc (J _ q (by omega) (by omega) q2))
  ·rw[u p (by omega) p2]
   by_cases N:q<mid+m-s
   ·rw[r q q1 N]
    have hc:=O.asy _ _ (h2 (by omega) (by omega))
    exact O.tr _ _ _ (J _ (mid+m-1-s) (by omega) (by omega) (by omega)) (O.tr _ _ _ hc (I s _ (by omega) (by omega) (by omega)))
   ·rw[M q (by omega)];exact J _ _ (by omega) (by omega) q2
theorem qhd{f g h:Nat→α}{a mid b:Nat}(r:∀p q,a≤p→p<mid→mid≤q→q<b→lt (f q) (f p)=false)(p1:PermOn a mid f g)(s1:Srt lt a mid g)(p2:PermOn mid b g h)(J:Srt lt mid b h):Srt lt a b h:=by
 intro i j h1 h2 h3
 by_cases hj:j<mid
 ·rw[p2.out (.inl hj),p2.out (.inl (by omega))];exact s1 i j h1 h2 hj
 ·by_cases hi:mid≤i
  ·exact J i j hi h2 h3
  ·rw[p2.out (i:=i) (.inl (by omega))]
   obtain⟨I,j1,j2,j3⟩:=p2.ins (i:=j) (by omega) h3
   obtain⟨u,A,C,i3⟩:=p1.ins (i:=i) h1 (by omega)
   rw[j3,p1.out (.inr j1),i3]
   exact r u I A C j1 j2
end
end
end Go.Proofs.YtabchipjjghhnaaGreatDoorV
namespace Go.Proofs.YtabchipjjghhnaaGreatDoorV
open Go Go.RowKit
theorem ql4:∀a:List UInt8,Op.bytesLess a a=false
 |[]=>rfl
 |a::x=>by simp [Op.bytesLess,ql4 x,UInt8.lt_irrefl]
theorem qqN:∀{a b:List UInt8},Op.bytesLess a b=true→Op.bytesLess b a=false
 |_,[],h=>by simp [Op.bytesLess]at h
 |[],b::y,_=>by simp [Op.bytesLess]
 |a::x,b::y,h=>by
  simp only[Op.bytesLess,Bool.or_eq_true,decide_eq_true_eq,mK,beq_iff_eq]at h
  simp only[Op.bytesLess,Bool.or_eq_false_iff,decide_eq_false_iff_not,Bool.and_eq_false_iff,beq_eq_false_iff_ne]
  rcases h with h|⟨rfl,h⟩
  ·exact⟨UInt8.lt_asymm h,.inl fun e=>by subst e;exact UInt8.lt_irrefl _ h⟩
  ·exact⟨UInt8.lt_irrefl _,.inr (qqN h)⟩
theorem ql5:∀{a b:List UInt8},Op.bytesLess a b=false→Op.bytesLess b a=false→a=b
 |[],[],_,_=>rfl
 |[],b::y,h,_=>by simp [Op.bytesLess]at h
 |a::x,[],_,h=>by simp [Op.bytesLess]at h
 |a::x,b::y,h,h'=>by
  simp only[Op.bytesLess,Bool.or_eq_false_iff,decide_eq_false_iff_not,Bool.and_eq_false_iff,beq_eq_false_iff_ne]at h h'
  have e:a=b:=UInt8.le_antisymm (UInt8.not_lt.1 h'.1) (UInt8.not_lt.1 h.1)
  subst e
  rcases h.2 with h2|h2
  ·exact absurd rfl h2
  rcases h'.2 with h3|h3
  ·exact absurd rfl h3
  rw[ql5 h2 h3]
theorem qqO:∀{a b c:List UInt8},Op.bytesLess a b=true→Op.bytesLess b c=true→Op.bytesLess a c=true
 |_,_,[],_,h=>by simp [Op.bytesLess]at h
 |_,[],c::z,h,_=>by simp [Op.bytesLess]at h
 |[],b::y,c::z,_,_=>by simp [Op.bytesLess]
 |a::x,b::y,c::z,h,h'=>by
  simp only[Op.bytesLess,Bool.or_eq_true,decide_eq_true_eq,mK,beq_iff_eq]at h h'⊢
  rcases h with h|⟨rfl,h⟩
  ·rcases h' with h'|⟨rfl,h'⟩
   ·exact .inl (UInt8.lt_trans h h')
   ·exact .inl h
  ·rcases h' with h'|⟨rfl,h'⟩
   ·exact .inl h'
   ·exact .inr ⟨rfl,qqO h h'⟩
theorem ql3:∀a b:List UInt8,Lib.compareBytes a b=if Op.bytesLess a b then -1 else if Op.bytesLess b a then 1 else 0
 |[],[]=>rfl
 |[],b::y=>by simp [Op.bytesLess,Lib.compareBytes]
 |a::x,[]=>by simp [Op.bytesLess,Lib.compareBytes]
 |a::x,b::y=>by
  rw[Lib.compareBytes,ql3 x y]
  by_cases h1:a<b
  ·simp [Op.bytesLess,h1]
  ·by_cases h2:b<a
   ·have:a≠b:=fun e=>h1 (e▸h2)
    simp [Op.bytesLess,h1,h2,this]
   ·have e:a=b:=UInt8.le_antisymm (UInt8.not_lt.1 h2) (UInt8.not_lt.1 h1)
    subst e
    simp [Op.bytesLess,UInt8.lt_irrefl]
def G5(a b:ByteArray):Bool:=Op.bytesLess a.data.toList b.data.toList
theorem EE(a:ByteArray):G5 a a=false:=ql4 _
theorem WD{a b:ByteArray}(h:G5 a b=true):G5 b a=false:=qqN h
theorem qno{a b c:ByteArray}(h:G5 a b=true)(h':G5 b c=true):G5 a c=true:=qqO h h'
theorem TD{a b:ByteArray}(h:G5 a b=false)(h':G5 b a=false):a=b:=by
 have:=ql5 h h'
 obtain⟨⟨a⟩⟩:=a;obtain⟨⟨b⟩⟩:=b
 simpa using this
theorem qhf{a b c:ByteArray}(h:G5 b a=false)(h':G5 c b=false):G5 c a=false:=by
 cases hc:G5 c a with
 |false=>rfl
 |true=>
  cases hb:G5 b c with
  |true=>rw[qno hb hc]at h;cases h
  |false=>
   have:=TD h' hb
   subst this;rw[hc]at h;cases h
theorem qnn{a b c:ByteArray}(h:G5 a b=true)(h':G5 c b=false):G5 a c=true:=by
 cases hc:G5 a c with
 |true=>rfl
 |false=>
  rw[qhf h' hc]at h;cases h
theorem qum(a b:ByteArray):Lib.compareBytes a.data.toList b.data.toList=if G5 a b then -1 else if G5 b a then 1 else 0:=ql3 _ _
theorem qpV(a b:ByteArray):decide (Lib.compareBytes a.data.toList b.data.toList<0)=G5 a b:=by
 rw[qum]
 cases h:G5 a b
 ·cases G5 b a<;>rfl
 ·rfl
abbrev En:=ByteArray×List Int
def Up(l:List En):Prop:=l.Pairwise fun x y=>G5 x.1 y.1=true
def Upw(l:List En):Prop:=l.Pairwise fun x y=>G5 y.1 x.1=false
def atN:List En→ByteArray→Nat
 |[],_=>0
 |x::l,n=>if G5 x.1 n then atN l n+1 else 0
theorem qlU:∀(l:List En) (n:ByteArray) (x:En),x∈l.take (atN l n)→G5 x.1 n=true
 |[],_,_,h=>by simp at h
 |y::l,n,x,h=>by
  unfold atN at h
  split at h
  ·rename_i j
   rw[ZF]at h
   rcases List.mem_cons.1 h with rfl|h
   ·exact j
   ·exact qlU l n x h
  ·simp at h
theorem qgj:∀{l:List En} {n:ByteArray} (_:Upw l) (x:En),x∈l.drop (atN l n)→G5 x.1 n=false
 |[],_,_,_,h=>by simp at h
 |y::l,n,hu,x,h=>by
  unfold atN at h
  split at h
  ·rw[List.drop_succ_cons]at h
   exact qgj (List.pairwise_cons.1 hu).2 x h
  ·rename_i j
   have j:G5 y.1 n=false:=by simpa using j
   rw[oL]at h
   rcases List.mem_cons.1 h with rfl|h
   ·exact j
   ·exact qhf j ((List.pairwise_cons.1 hu).1 x h)
def qep(l:List En)(x:En):List En:=l.take (atN l x.1)++x::l.drop (atN l x.1)
theorem qpI{l:List En}{x:En}(h:Upw l):Upw (qep l x):=by
 unfold qep Upw
 rw[List.pairwise_append]
 refine⟨h.sublist (List.take_sublist _ _),List.pairwise_cons.2 ⟨fun y j=>qgj h y j,h.sublist (List.drop_sublist _ _)⟩,fun a ha b hb=>?_⟩
 have h1:=qlU l _ a ha
 rcases List.mem_cons.1 hb with rfl|hb
 ·exact WD h1
 ·exact WD (qnn h1 (qgj h b hb))
theorem qkF(l:List En)(x:En):(qep l x).Perm (x::l):=by
 unfold qep
 exact List.perm_middle.trans (by rw[MA])
def qft(l:List En):List En:=l.foldl qep []
theorem YK:∀(l a:List En),Upw a→Upw (l.foldl qep a)∧(l.foldl qep a).Perm (a++l)
 |[],a,h=>⟨h,by simp⟩
 |x::l,a,h=>by
  obtain⟨h1,h2⟩:=YK l (qep a x) (qpI h)
  exact⟨h1,h2.trans (((qkF a x).append_right l).trans List.perm_middle.symm)⟩
theorem qcT(l:List En):Upw (qft l):=(YK l [] List.Pairwise.nil).1
theorem yA(l:List En):(qft l).Perm l:=by have:=(YK l [] List.Pairwise.nil).2;rw[sG]at this;exact this
theorem Upw.up{l:List En}(h:Upw l)(hn:(l.map (·.1)).Nodup):Up l:=by
 have hn:=List.nodup_iff_pairwise_ne.1 hn
 rw[List.pairwise_map]at hn
 exact List.Pairwise.imp₂ (fun{a b} h1 h2=>by
  cases hc:G5 a.1 b.1 with
  |true=>rfl
  |false=>exact absurd (TD hc h1) h2) h hn
theorem Up.nodup{l:List En}(h:Up l):(l.map (·.1)).Nodup:=by
 refine List.nodup_iff_pairwise_ne.2 ?_
 rw[List.pairwise_map]
 exact List.Pairwise.imp (fun{a b} h1 e=>by rw[e,EE]at h1;cases h1) h
theorem Up.ext:∀{a b:List En},Up a→Up b→(∀x,x∈a↔x∈b)→a=b
 |[],[],_,_,_=>rfl
 |[],y::b,_,_,h=>by have:=(h y).2 (by simp);cases this
 |x::a,[],_,_,h=>by have:=(h x).1 (by simp);cases this
 |x::a,y::b,ha,hb,h=>by
  obtain⟨q,u⟩:=List.pairwise_cons.1 ha
  obtain⟨r,A⟩:=List.pairwise_cons.1 hb
  have e:x=y:=by
   rcases List.mem_cons.1 ((h x).1 (by simp))with e|hx
   ·exact e
   rcases List.mem_cons.1 ((h y).2 (by simp))with e|C
   ·exact e.symm
   have h1:=r x hx
   have h2:=q y C
   rw[WD h1]at h2;cases h2
  subst e
  congr 1
  refine Up.ext u A fun z=>⟨fun hz=>?_,fun hz=>?_⟩
  ·rcases List.mem_cons.1 ((h z).1 (by simp [hz]))with rfl|j
   ·have:=q z hz;rw[EE]at this;cases this
   ·exact j
  ·rcases List.mem_cons.1 ((h z).2 (by simp [hz]))with rfl|j
   ·have:=r z hz;rw[EE]at this;cases this
   ·exact j
theorem qbi{a l:List En}(ha:Up a)(hp:a.Perm l):a=qft l:=
 Up.ext ha ((qcT l).up (((yA l).trans hp.symm).map (·.1)|>.nodup_iff.2 ha.nodup)) fun x=>by rw[hp.mem_iff,(yA l).mem_iff]
def gJ(l:List En):Int:=(l.map fun x=>(x.2.length:Int)).sum
def xB(l:List En):Int:=(l.map fun x=>(x.1.size:Int)).sum
theorem qeY{a b:List Int}(h:a.Perm b):a.sum=b.sum:=by
 induction h with
 |nil=>rfl
 |cons x _ j=>simp [j]
 |swap x y l=>simp;omega
 |trans _ _ h1 h2=>exact h1.trans h2
theorem OO{a b:List En}(h:a.Perm b):gJ a=gJ b:=qeY (h.map _)
theorem qa5{a b:List En}(h:a.Perm b):xB a=xB b:=qeY (h.map _)
theorem D6(l:List En):0≤gJ l:=by
 induction l with
 |nil=>simp [gJ]
 |cons x l j=>simp only[gJ,U0,List.sum_cons]at*;omega
theorem TK(l:List En):0≤xB l:=by
 induction l with
 |nil=>simp [xB]
 |cons x l j=>simp only[xB,U0,List.sum_cons]at*;omega
theorem DE(a b:List En):gJ (a++b)=gJ a+gJ b:=by simp [gJ]
theorem YN(a b:List En):xB (a++b)=xB a+xB b:=by simp [xB]
def VZ(l:List En):Bool:=decide (4096<l.length)||decide (1048576<gJ l)||decide (1048576<xB l)
theorem qaN{a b:List En}(h:a.Perm b):VZ a=VZ b:=by unfold VZ;rw[OO h,qa5 h,h.length_eq]
def jY:List UInt8→List (List UInt8)
 |[]=>[[]]
 |c::r=>if c=47 then []::jY r else match jY r with
  |p::ps=>(c::p)::ps
  |[]=>[[c]]
def ET(p:List UInt8):Bool:=p==[]||(p==[46]||p==[46,46])
def okU(l:List UInt8):Bool:=(!l.contains 0)&& !(jY l).any ET
def OI(l:List UInt8):Bool:=decide (l.length≤4096)&&okU l
def iA(s:ByteArray):Bool:=OI s.data.toList
def jV(l:List En):List En×Int:=
 if l.any (fun x=>!iA x.1)then([],6)else if ¬(l.map (·.1)).Nodup then([],7)else if VZ l then([],5)else(qft l,0)
end Go.Proofs.YtabchipjjghhnaaGreatDoorV
