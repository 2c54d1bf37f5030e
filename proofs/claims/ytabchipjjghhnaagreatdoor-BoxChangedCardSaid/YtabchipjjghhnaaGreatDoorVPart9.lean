import Derived.Laws.MakeOwn
import Derived.Test.YtabchipjjghhnaaGreatDoorVPart8
set_option linter.unusedVariables false
set_option linter.unusedSimpArgs false
namespace Go.Proofs.YtabchipjjghhnaaGreatDoorV
open Go Go.RowKit
section
def QA(sz:Nat)(v:Value)(l h:Nat):Value:=match v with
 |.slice a _ _=>.slice (if h=l then a else a.map (·.add (l*sz))) (h-l) (h-l)
 |v=>v
section
variable {P:Program} {w:World}
theorem qed{t:TypeId}{sz:Nat}{a:Option Addr}{n c:Nat}{k1 k2 k3:IntKind}{l h:Nat}{K:Value→Prop}(hl:l≤h)(hh:h≤c)
  (hk:K (QA sz (.slice a n c) l h)) (ht:YJ P t sz=true):cH P t (.slice a n c) (some (.int k1 l)) (some (.int k2 h)) (some (.int k3 h)) K:=by
 obtain⟨hu,i,j,q⟩:=M6 ht
 refine⟨_,fun w=>?_,hk⟩
 have hb:(Instr.sliceBounds true n c (some (.int k1 l)) (some (.int k2 h)) (some (.int k3 h))).run P w=.ok (l,h,h) w:=by
  simp [Instr.sliceBounds,Instr.sliceBound,asIntOf,hl,hh]
 simp only[Instr.sliceAt,Sem.run_bind,run_underlying hu,Result.andThen_ok,Instr.slice,hb,sizeOf,typeInfo,run_program,j,Sem.run_pure,q,QA]
theorem Nm.sub3{k:IntKind}{v:Value}{xs:List Int}(h:Nm k w v xs)(l m:Nat)(hl:l≤m)(hm:m≤xs.length):Nm k w (QA 1 v l m) ((xs.drop l).take (m-l)):=by
 refine⟨?_,(h.2.drop l).take _⟩
 obtain⟨a,c,rfl,h1,h2,h3,h4⟩:=h.1
 have q:((xs.drop l).take (m-l)).length=m-l:=by rw[eJ,cQ];omega
 rw[q]
 refine⟨_,_,rfl,cJ _,by simp;omega,fun ad ha j u hj=>?_,fun ha=>?_⟩
 ·have r:j<m-l:=by have:=(List.getElem?_eq_some_iff.1 hj).1;simp at this;omega
  rw[if_neg (by omega),QP]at ha
  obtain⟨a0,rfl,rfl⟩:=ha
  rw[Addr.add2',K6]
  refine h3 a0 rfl _ u ?_
  rw[jD,vW,if_pos r,QO]at hj
  rw[jD];exact hj
 ·split at ha
  ·have:=h4 ha;omega
  ·have:=h4 (Option.map_eq_none_iff.1 ha);omega
theorem qa4(sz:Nat)(v:Value)(l m:Nat):(QA sz v l m).ownBlock=v.ownBlock:=by
 cases v<;>try rfl
 rename_i a n c
 simp only[QA]
 split
 ·cases a<;>rfl
 ·cases a with
  |none=>rfl
  |some ad=>simp only[Option.map_some,Value.ownBlock];unfold Addr.add;split<;>rfl
theorem Fr.putObj{w0:World}{F:List It}{D:Nat}{o o':Obj}(h:Fr w0 w F)(r:w0.heap.size≤D)(hk:w.heap[D]?=some o)(q:o.isCells=false):Fr w0 (w.putObj D o') F:=
 h.gr (by simp) rfl rfl rfl (fun k j=>World.putObj_heap_other (by omega)) fun k c e f hc=>World.putObj_heap_other (qE hc hk q).symm
theorem Fr.grown{w0 w':World}{F:List It}{row:Option Nat}(h:Fr w0 w F)(hg:w.grownBy w' row)(j:∀r,row=some r→w0.heap.size≤r∧∃o:Obj,w.heap[r]?=some o∧o.isCells=false):Fr w0 w' F:=
 h.gr hg.size hg.os hg.tape hg.output (fun k hk=>hg.block k (Nat.lt_of_lt_of_le hk h.old.size) fun e=>by have:=(j k e.symm).1;omega)
  fun k c e f hc=>hg.block k (cR hc) fun q=>by obtain⟨_,o,u,hn⟩:=j k q.symm;exact qE hc u hn rfl
end
def chL(n:Nat)(xs:List Int)(j:Nat):List Int:=(xs.drop (j*n)).take n
def chV(n:Nat)(s:Value)(len j:Nat):Value:=if j*n≤len then QA 1 s (j*n) (min (j*n+n) len)else bR
def chN(n len:Nat):Nat:=(len+(n-1))/n
theorem qbE(n:Nat)(xs:List Int)(j:Nat):(chL n xs j).length≤n:=by unfold chL;rw[eJ];omega
theorem qgC{k:IntKind}{w:World}{n:Nat}{s:Value}{xs:List Int}(h:Nm k w s xs)(j:Nat):Nm k w (chV n s xs.length j) (chL n xs j):=by
 unfold chV chL
 split
 ·rename_i hj
  have:=h.sub3 (j*n) (min (j*n+n) xs.length) (by omega) (by omega)
  have e:(xs.drop (j*n)).take (min (j*n+n) xs.length-j*n)=(xs.drop (j*n)).take n:=by
   by_cases hc:j*n+n≤xs.length
   ·rw[vU hc,MB]
   ·rw[Nat.min_eq_right (by omega),gI (by simp),gI (by simp;omega)]
  rwa [e]at this
 ·rw[zN (by omega),List.take_nil];exact Nm.nil k w
theorem V1{n len j:Nat}(hn:1≤n):j<chN n len↔j*n<len:=by
 unfold chN
 rw[Nat.lt_div_iff_mul_lt (by omega)]
 omega
end
section
section
variable {w0 w:World} {F:List It} {s:Value} {xs:List Int} {n:Nat} {a b:Addr}
theorem qf4{K:Value→World→Prop}(h:Fr w0 w F)(hs:s.cells= #[s])(hn:1≤n)(hk:∀a b w',Fr w0 w' (aT b [aB (n:Int)]::aT a [s]::F)→K (.func (.func eR) #[] #[aH a,aH b]) w'):
  aE P mG dM #[s,aB (n:Int)] w K:=by
 refine aO (R:=fun e w'=>∃a b,e=aW (.func (.func eR) #[] #[aH a,aH b])∧Fr w0 w' (aT b [aB (n:Int)]::aT a [s]::F)) (J8 (mL h fun a w1 q=>mL q fun b w2 j=>?_)) ?_
 ·rw[hs]at j
  have hc:=j.cell 0 0 rfl rfl
  rw[Addr.add_zero']at hc
  exact bG hc (aG (fun h=>by omega) fun _=>⟨a,b,rfl,j⟩)
 ·rintro _ w' ⟨a,b,rfl,f⟩
  exact⟨_,rfl,hk a b w' f⟩
def qri(a b:Addr)(s:Value)(n:Nat)(A B:World):Prop:=(A.cell? a=some s→B.cell? a=some s)∧(A.cell? b=some (aB (n:Int))→B.cell? b=some (aB (n:Int)))
theorem qbH(hs:Nm .u8 w s xs)(hl:xs.length≤1000000000)(hn:1≤n)(al:n≤1000000)(ha:w.cell? a=some s)(hb:w.cell? b=some (aB (n:Int))):
  SeqStopsK Fence.wide 4 P eR #[aH a,aH b] (fun j:Nat=> #[chV n s xs.length j]) (qri a b s n) (fun ys=>ys=List.range (chN n xs.length)) (fun _=>True) (chN n xs.length) w:=by
 intro l J Jx W hW hJ ah hY h0
 refine callsIn_wide.2 ?_
 have sl:=hs.shape
 obtain⟨sa,sc,ae,ac⟩:=sl
 have Z:=(hW.cell (p:=a) (World.block_lt_of_cell? w _ ha)).trans ha
 have aa:=(hW.cell (p:=b) (World.block_lt_of_cell? w _ hb)).trans hb
 show Calls P eR #[.func (.yield l) #[] #[],aH a,aH b] W _
 refine D2 ⟨fun i w'=>∃j:Nat,i=((j*n:Nat):Int)∧j≤chN n xs.length∧J (List.range j) w'∧qri a b s n W w',fun i _=>xs.length-i.toNat,⟨0,by simp,by omega,h0,id,id⟩,?_⟩
 rintro _ i w1 ⟨j,rfl,hj,C,M⟩
 have q:=M.1 Z
 have O:=M.2 aa
 have A:=V1 (len:=xs.length) (j:=j) hn
 subst ae
 refine dV q (V9 (aG (fun cR=>?_) (fun ak=>?_)))
 ·have u:j*n<xs.length:=by omega
  refine aN (mM O) (dE (mM q) (iD (sz:=1) (l:=j*n) (h:=xs.length) (.inr ⟨_,rfl⟩) (.inl ⟨rfl,rfl⟩) (by omega) ac ?_ (by kernel_rfl)))
  refine V9 ?_
  have V:(if((xs.length-j*n:Nat):Int)<(n:Int)then((xs.length-j*n:Nat):Int)else(n:Int))=((min (xs.length-j*n) n:Nat):Int):=by split<;>omega
  have U:i64 (((j*n:Nat):Int)+((min (xs.length-j*n) n:Nat):Int))=((min (j*n+n) xs.length:Nat):Int):=by rw[aD (by omega) (by omega)];omega
  rw[V,U]
  refine dV q (qed (sz:=1) (by omega) (by omega) ?_ (by kernel_rfl))
  have ab:QA 1 (.slice sa xs.length sc) (j*n) (min (j*n+n) xs.length)=chV n (.slice sa xs.length sc) xs.length j:=by unfold chV;rw[if_pos (by omega)]
  rw[ab]
  have Y:J (List.range j) w1.drew:=hJ _ w1 w1.drew none C ⟨rfl,rfl,rfl,cJ _,fun _ _ _=>rfl⟩ fun r e=>by cases e
  obtain⟨fn,tmps,tN,bo,hy,hR⟩:=hY (List.range j) j w1.drew Y (by rw[List.length_range];exact A.2 u)
  refine .inr ⟨l,3,rfl,fn,tmps,tN,bo,hy,hR.mono ?_⟩
  rintro e W' (⟨rfl,X,N⟩|⟨rfl,I⟩)
  ·have T:W'.cell? b=some (aB (n:Int)):=N.2 O
   refine⟨true,rfl,V7 (bG T ?_)⟩
   rw[show i64 (((j*n:Nat):Int)+(n:Int))=(((j+1)*n:Nat):Int)by rw[aD (by omega) (by omega),mJ];omega]
   refine⟨⟨j+1,rfl,A.2 u,by rw[List.range_succ];exact X,fun _=>N.1 q,fun _=>T⟩,?_⟩
   dsimp only
   rw[dH,dH,mJ];omega
  ·exact⟨false,rfl,oP ⟨⟨_,rfl⟩,.inr ⟨_,trivial,I⟩⟩⟩
 ·refine⟨⟨_,rfl⟩,.inl ⟨_,rfl,?_⟩⟩
  have:j=chN n xs.length:=by
   have h1:¬j<chN n xs.length:=fun h=>by rw[A]at h;omega
   omega
  rw[←this];exact C
theorem qcH{A:Value→World→(World→Prop)→Prop}{C:Nat→World→Prop}(f:Fr w0 w (aT b [aB (n:Int)]::aT a [s]::F))(hs:Nm .u8 w0 s xs)(hl:xs.length≤1000000000)(hn:1≤n)(X:n≤1000000)
  (Q:List Nat→List It→Prop) (h0:Q [] F)
  (I:∀pre j W G,Q pre G→Fr w0 W (aT b [aB (n:Int)]::aT a [s]::G)→pre.length<chN n xs.length→Nm .u8 W (chV n s xs.length j) (chL n xs j)→(∀g,(chV n s xs.length j).ownBlock=some g→g<w0.heap.size∨chL n xs j=[])→
   ∀K:World→Prop,(∀W' U,KeepsOthers W W'→Q (pre++[j]) U→Fr w0 W' (aT b [aB (n:Int)]::aT a [s]::U)→K W')→A (chV n s xs.length j) W K)
  (J:∀D W G,w.heap.size≤D→Q (List.range (chN n xs.length)) G→Fr w0 W (aT b [aB (n:Int)]::aT a [s]::G)→W.heap[D]?=some (.deferred (some []))→C D W):
  GZ P (.func (.func eR) #[] #[aH a,aH b]) w A C:=by
 have Y:∀{W:World} {G:List It},Fr w0 W (aT b [aB (n:Int)]::aT a [s]::G)→W.cell? a=some s:=fun f=>by have:=f.cell 1 0 rfl rfl;rwa [Addr.add_zero']at this
 have Z:∀{W:World} {G:List It},Fr w0 W (aT b [aB (n:Int)]::aT a [s]::G)→W.cell? b=some (aB (n:Int)):=fun f=>by have:=f.cell 0 0 rfl rfl;rwa [Addr.add_zero']at this
 refine⟨_,_,rfl,by kernel_rfl,Nat,chV n s xs.length,qri a b s n,_,_,_,fun pre W=>∃G,Q pre G∧Fr w0 W (aT b [aB (n:Int)]::aT a [s]::G),qbH (hs.ev f.old) hl hn X (Y f) (Z f),fun h k=>⟨fun x=>k.1 (h.1 x),fun x=>k.2 (h.2 x)⟩,?_,?_,⟨F,h0,f⟩,?_,?_⟩
 ·intro W l o o' _ V ho _
  have keep:∀{c:Addr} {u:Value},W.cell? c=some u→(W.putObj l o').cell? c=some u:=fun{c u} hc=>by
   obtain⟨oc,q,O⟩:=cells_of_cell hc
   have:c.block≠l:=fun e=>by rw[e,V]at q;injection q with q;subst q;rw[ho]at O;cases O
   rw[World.cell?_of_block (World.putObj_heap_other this)];exact hc
  exact⟨keep,keep⟩
 ·rintro pre W W' row ⟨G,N,M⟩ hg hr
  exact⟨G,N,M.grown hg fun r e=>⟨nJ f.old.size (hr r e).1,(hr r e).2⟩⟩
 ·rintro pre j W ⟨G,N,M⟩ T
  have hN:=qgC (n:=n) (hs.ev M.old) j
  refine I pre j W G N M T hN (fun g hg=>?_) _ fun W' U h1 h2 h3=>⟨h1,⟨fun _=>Y h3,fun _=>Z h3⟩,U,h2,h3⟩
  by_cases he:xs=[]
  ·right;unfold chL;rw[he];simp
  ·left
   unfold chV at hg
   split at hg
   ·rw[qa4]at hg;exact hs.old he hg
   ·cases hg
 ·rintro D af W hD rfl ⟨G,N,M⟩ hk
  exact J D W G hD N M hk
end
end
section
theorem Nm.chN{k:IntKind}{S:SS}{w w':World}{v:Value}{xs:List Int}(h:Nm k w v xs)(hc:Ch S w w')(hs:xs≠[]→∀g i,v.ownBlock=some g→¬S g i):Nm k w' v xs:=by
 by_cases he:xs=[]
 ·subst he
  obtain⟨⟨a,c,h1,h2,h3,h4,h5⟩,h6⟩:=h
  exact⟨⟨a,c,h1,h2,h3,fun ad ha j u hj=>by simp at hj,h5⟩,h6⟩
 ·exact h.ch hc (hs he)
noncomputable abbrev eI5:TypeId:=dD P bB
abbrev ChF:=List Int→List Int→List Int×List Int
def jZ(ch:ChF)(j xs:List Int):List Int×List Int:=if(((ch xs j).1.length:Nat):Int)>(xs.length:Int)+(xs.length:Int)/256+8 then(xs,[])else ch xs j
def GC(r:List Int×List Int)(e:En):ItP:=⟨e.1,e.2.length,xM e.2,r.2,r.1.length⟩
def K5(auto:Bool)(ts:List Int)(dF:List Int→List Int)(xs:List Int):List Int:=if auto=true then dF xs else ts
def OS(ch:ChF)(auto:Bool)(ts:List Int)(dF:List Int→List Int)(e:En):List Int×List Int:=jZ ch (K5 auto ts dF e.2) e.2
noncomputable def qsT(w:World)(name:ByteArray)(xs:List Int)(r:List Int×List Int)(e:Ending)(w':World):Prop:=
 ∃y j,e=bP #[y,.agg #[.string name,aB xs.length,.int .u32 (xM xs),j,aB r.1.length]]∧Ev w w'∧Nm .u8 w' y r.1∧ON .i64 eN w' w.heap.size j r.2
section
variable {w0 w:World} {F:List It}
theorem qh1{name:ByteArray}{U cv sv nv:Value}{auto locked:Bool}{level block rounds:Int}{xs ts:List Int}{ch:ChF}{dF:List Int→List Int}(hd:Nm .u8 w U xs)(hc:Nm .i64 w cv ts)(hl:xs.length≤10000000)
  (Z:∀{w':World} {b tv:Value},Ev w w'→Nm .u8 w' b xs→Nm .i64 w' tv (K5 auto ts dF xs)→Calls P pS #[b,tv] w' (qlH w' (ch xs (K5 auto ts dF xs))))
  (aa:auto=true→∀{w':World} {b:Value},Ev w w'→Nm .u8 w' b xs→Calls P pT #[b] w' (qrh w' (dF xs))):
  Calls P W8 #[.agg #[.string name,U],.agg #[.bool auto,cv,aB level,aB block,.bool locked,sv,nv,aB rounds]] w (qsT w name xs (jZ ch (K5 auto ts dF xs) xs)):=by
 refine l9 (mL (Fr.start w) fun M w1 f1=>mL f1 fun o3 w2 f2=>dX (z:=.agg #[.string ⟨#[]⟩,aB 0,.int .u32 0,bR,aB 0]) f2 (by kernel_rfl) fun t5 w3 f3=>dY f3 1 1 rfl rfl ?_)
 obtain⟨I,O⟩:∃I,I=K5 auto ts dF xs:=⟨_,rfl⟩
 rw[←O]at Z⊢
 obtain⟨V,q⟩:∃V:List It,V=[aT t5 [.string ⟨#[]⟩,aB 0,.int .u32 0,bR,aB 0],aT o3 [.bool auto,cv,aB level,aB block,.bool locked,sv,nv,aB rounds],aT M [.string name,U]]:=⟨_,rfl⟩
 have f3:Fr w w3 V:=by rw[q];exact f3
 refine⟨fun v w'=>Fr w w' V∧Nm .i64 w' v I,JN f3 1 0 (by rw[q];rfl) rfl (iQ (fun ha=>dY f3 2 1 (by rw[q];rfl) rfl (aO (aa ha f3.old (hd.ev f3.old)) ?_)) (fun ha=>⟨f3,by rw[O];unfold K5;rw[ha];exact hc.ev f3.old⟩)),?_⟩
 ·rintro _ w4 ⟨v,rfl,h4,aj⟩
  exact⟨v,rfl,f3.ev h4,by rw[O];unfold K5;rw[if_pos ha];exact aj⟩
 rintro _ tv w5 ⟨f5,ah⟩
 refine dY f5 2 1 (by rw[q];rfl) rfl (aO (Z f5.old (hd.ev f5.old) ah) ?_)
 rintro _ w6 ⟨y,af,rfl,h6,ny,nd⟩
 have f6:=f5.ev h6
 have ap:t5.block<w5.heap.size:=(f5.ft 0 (it:=aT t5 [.string ⟨#[]⟩,aB 0,.int .u32 0,bR,aB 0]) (by rw[q];rfl) (k:=t5.block) rfl).2
 have ao:w.heap.size≤t5.block:=(f5.ft 0 (it:=aT t5 [.string ⟨#[]⟩,aB 0,.int .u32 0,bR,aB 0]) (by rw[q];rfl) (k:=t5.block) rfl).1
 refine⟨y,af,rfl,fun y' r w'=>Fr w w' V∧Nm .u8 w' y' (jZ ch I xs).1∧ON .i64 eN w' w5.heap.size r (jZ ch I xs).2∧((jZ ch I xs).1≠[]→∀g,y'.ownBlock=some g→g≠t5.block),?_,?_⟩
 ·refine aP ny.nm (dY f6 2 1 (by rw[q];rfl) rfl (aP (hd.ev f6.old) (bX (KM ⟨rfl,rfl⟩) ?_)))
  have e:i64 (i64 ((xs.length:Int)+i64 (Int.tdiv (xs.length:Int) 256))+8)=(xs.length:Int)+(xs.length:Int)/256+8:=by
   rw[sH (by omega),aD (n:=(xs.length:Int)/256) (by omega) (by omega),aD (n:=(xs.length:Int)+(xs.length:Int)/256) (by omega) (by omega),aD (by omega) (by omega)]
  rw[e]
  refine aG (fun hg=>dY f6 2 1 (by rw[q];rfl) rfl ?_) (fun hg=>?_)
  ·have e2:jZ ch I xs=(xs,[]):=by unfold jZ;rw[if_pos hg]
   rw[e2]
   exact⟨f6,hd.ev f6.old,ON.nil .i64 eN _ _,fun N g A e=>by have:=hd.old N A;omega⟩
  ·have e2:jZ ch I xs=ch xs I:=by unfold jZ;rw[if_neg hg]
   rw[e2]
   exact⟨f6,ny.nm,nd,fun _ g A e=>by have:=(ny.base A).1;omega⟩
 rintro _ y' r w8 ⟨f8,ab,T,ai⟩
 have hB:∀{w':World},Ev w8 w'→∀z u,[Value.string name,U][z]?=some u→w'.cell? (M.add z)=some u:=fun he z u hz=>Ch.cell he (f8.cell 2 z (by rw[q];rfl) hz) fun h=>h
 refine⟨fun w'=>∀z u,[Value.string name,U][z]?=some u→w'.cell? (M.add z)=some u,hB (Ev.drew0 w8),kB (fun w' hw=>hw 0 _ rfl) (dE (fun w' hw=>hw 1 _ rfl) (aP (hd.ev f8.old) (dE (fun w' hw=>hw 1 _ rfl) (aP ab (bQ (JF (hd.ev f8.drew.old) (by omega)) fun w9 h9=>⟨hB ((Ev.drew0 w8).trans h9),T.one,?_⟩)))))⟩
 have J:=(Ev.drew0 w8).trans h9
 have X:=f8.ev J
 rw[q]at X
 have ag:St w9 t5 [.string ⟨#[]⟩,aB 0,.int .u32 0,bR,aB 0]:=X.get 0 rfl
 refine L0 ag (cJ 5) (fun u hu=>?_) (fun ay C _ Y=>⟨?_,?_⟩) (by kernel_rfl)
 ·simp at hu;rcases hu with rfl|rfl|rfl|rfl|rfl
  ·rfl
  ·rfl
  ·rfl
  ·exact T.nm.oc
  ·rfl
 ·intro z u hz
  refine Ch.cell C (hB J z u hz) fun hh=>?_
  have:=X.apart (i:=0) (j:=2) rfl rfl (by decide) t5.block rfl
  have h0:M.spot=none:=(show St w9 M [.string name,U]from X.get 2 rfl).1
  have hb:(M.add z).block=M.block:=by rw[Addr.add_none h0]
  exact this (by show t5.block=M.block;rw[←hb];exact hh.1.symm)
 ·have f10:=X.upd (jt:=aT t5 [.string name,aB xs.length,.int .u32 (xM xs),r,aB (jZ ch I xs).1.length]) 0 rfl C (fun k _ hh=>.inl hh.1) Y fun k hk=>.inl hk
  refine gE f10 0 rfl ⟨y',r,rfl,f10.old,?_,?_⟩
  ·exact(ab.ev J).chN C fun N g i A hh=>ai N g A hh.1
  ·have n9:ON .i64 eN w9 w5.heap.size r (jZ ch I xs).2:=T.ev J
   exact(n9.ch C fun g i A hh=>by have:=(n9.base A).1;have:=hh.1;omega).low (f5.old.size)
noncomputable def C7(v:Value)(us:List ItV):List It:=lK eI5 5 v us.length (pJ us)::us.reverse.map fun u=>bI .i64 eN u.cv u.p.chain
theorem qca{v:Value}{us:List ItV}(f:Fr w0 w (C7 v us)):Is w v us:=⟨f.row 0 rfl,fun u hu=>by
 have hm:bI .i64 eN u.cv u.p.chain∈C7 v us:=lL _ (List.mem_map.2 ⟨u,List.mem_reverse.2 hu,rfl⟩)
 have:ON .i64 eN w 0 u.cv u.p.chain:=(f.mem hm).1
 exact this.nm⟩
theorem qet(v:Value)(us:List ItV)(u:ItV):C7 v (us++[u])=lK eI5 5 v (us.length+1) (pJ us++c5 u)::bI .i64 eN u.cv u.p.chain::us.reverse.map fun u=>bI .i64 eN u.cv u.p.chain:=by
 unfold C7;rw[qgA,bD,ZJ]
 have:pJ [u]=c5 u:=by simp [pJ]
 rw[this];rfl
theorem Sl.of_st5{ad:Addr}{u:ItV}(h:St w ad (c5 u)):Sl w 5 (.slice (some ad) 1 1) 1 (c5 u):=
 ⟨some ad,1,rfl,cJ _,rfl,fun q ha j x hj=>by injection ha with ha;subst ha;exact St.cell h hj,fun h=>by cases h⟩
def kX(rs:List (List Int×List Int)):List Int:=(rs.map (·.1)).flatten
theorem qj1(rs:List (List Int×List Int))(r:List Int×List Int):kX (rs++[r])=kX rs++r.1:=by simp [kX]
def xD(blk:List Int→List Int)(n:Nat)(xs:List Int)(q:List Nat):List Int:=(q.map fun j=>blk (chL n xs j)).flatten
theorem UI(blk:List Int→List Int)(n:Nat)(xs:List Int)(q:List Nat)(j:Nat):xD blk n xs (q++[j])=xD blk n xs q++blk (chL n xs j):=by simp [xD]
def qaI(auto:Bool)(ts:List Int)(level block:Int):List Int:=eD (gD level).toNat++eD (gD block).toNat++eD (if auto=true then 1 else 0)++AH ts
def PC(tr:En→List Int×List Int)(blk:List Int→List Int)(auto:Bool)(ts:List Int)(level block:Int)(es:List En):List Int:=
 qaI auto ts level block++W6 (es.map fun e=>GC (tr e) e)++xD blk block.toNat (kX (es.map tr)) (List.range (chN block.toNat (kX (es.map tr)).length))
def qdG(body:List Int):List Int:=[118,98,120,1]++sJ (xM body) 4++body
def R4(tr:En→List Int×List Int)(blk:List Int→List Int)(auto:Bool)(ts:List Int)(level block:Int)(locked:Bool)(ns j rounds:Int)(l:List En):List Int×Int:=
 if K3 auto ts level block locked ns j rounds=false then([],1)else if(jV l).2≠0 then([],(jV l).2)else(qdG (PC tr blk auto ts level block (jV l).1),0)
theorem qmd{xs:List Int}(hx:inR .u8 xs):gD (xM xs)=xM xs:=by have:=UM hx;rw[dW];omega
end
end
section
theorem qa2{l:List En}(h:(jV l).2=0):(jV l).1.length≤4096∧gJ (jV l).1≤1048576∧(∀e∈(jV l).1,e.1.size≤4096)∧(jV l).1.Perm l:=by
 unfold jV at h⊢
 split at h
 ·cases h
 rename_i h1
 rw[if_neg h1]
 split at h
 ·cases h
 rename_i h2
 rw[if_neg h2]
 split at h
 ·cases h
 rename_i h3
 rw[if_neg h3]
 have hp:=yA l
 have hm:VZ l=false:=by simpa using h3
 unfold VZ at hm
 simp only[Bool.or_eq_false_iff,decide_eq_false_iff_not]at hm
 refine⟨by show(qft l).length≤_;rw[hp.length_eq];omega,by show gJ (qft l)≤_;rw[OO hp];omega,fun e he=>?_,hp⟩
 have hl:e∈l:=hp.mem_iff.1 he
 have j:iA e.1=true:=by
  cases hc:iA e.1 with
  |true=>rfl
  |false=>exact absurd (List.any_eq_true.2 ⟨e,hl,by rw[hc];rfl⟩) h1
 unfold iA OI at j
 rw[mK,decide_eq_true_iff,LW]at j
 exact j.1
theorem IV(ch:ChF)(j xs:List Int):((jZ ch j xs).1.length:Int)≤(xs.length:Int)+(xs.length:Int)/256+8:=by
 unfold jZ
 split
 ·dsimp only;omega
 ·omega
theorem qdt{tr:En→List Int×List Int}(h:∀e,((tr e).1.length:Int)≤(e.2.length:Int)+(e.2.length:Int)/256+8):∀es:List En,((kX (es.map tr)).length:Int)≤2*gJ es+8*es.length
 |[]=>by simp [kX,gJ]
 |e::es=>by
  have j:=qdt h es
  have h1:=h e
  have e1:kX ((e::es).map tr)=(tr e).1++kX (es.map tr):=by simp [kX]
  have e2:gJ (e::es)=(e.2.length:Int)+gJ es:=by simp [gJ]
  rw[e1,e2,bD,iO];omega
theorem UH{blk:List Int→List Int}{n:Nat}{xs:List Int}(hb:∀ys,(blk ys).length≤2*ys.length+40):∀q:List Nat,(xD blk n xs q).length≤(2*n+40)*q.length
 |[]=>by simp [xD]
 |j::q=>by
  have r:=UH (blk:=blk) (n:=n) (xs:=xs) hb q
  have h1:=hb (chL n xs j)
  have h2:=qbE n xs j
  have e:xD blk n xs (j::q)=blk (chL n xs j)++xD blk n xs q:=by simp [xD]
  rw[e,bD,iO,Nat.mul_add,K6];omega
section
variable {w0 w:World} {F:List It}
set_option maxHeartbeats 800000 in
theorem qlK{lv cv sv nv:Value}{us:List E3}{auto locked:Bool}{level block rounds:Int}{ts ss ns:List Int}{ch:ChF}{dF blk:List Int→List Int}(hE:Es w lv us)(hs:Small us)(hc:Nm .i64 w cv ts)(dv:Nm .u8 w sv ss)(dq:Nm .u8 w nv ns)(fi:ts.length≤1000000)
  (cf:∀tg xs,(ch xs tg).2.length≤10)
  (dj:∀e∈us.map er,∀{w':World} {b tv:Value},Ev w w'→e.2.length≤1048576→Nm .u8 w' b e.2→Nm .i64 w' tv (K5 auto ts dF e.2)→Calls P pS #[b,tv] w' (qlH w' (ch e.2 (K5 auto ts dF e.2))))
  (cg:auto=true→∀e∈us.map er,∀{w':World} {b:Value},Ev w w'→e.2.length≤1048576→Nm .u8 w' b e.2→Calls P pT #[b] w' (qrh w' (dF e.2)))
  (hbl:∀ys,(blk ys).length≤2*ys.length+40)
  (U:kX ((jV (us.map er)).1.map (OS ch auto ts dF))≠[]→∀{w':World} {ad:Addr} {v b:Value} {X ys:List Int},Ev w w'→ys.length≤65536→W1 w' ad v X→Stab (Ft ad v) w' (fun am=>Nm .u8 am b ys)→X.length≤1000000000→
   Calls P nK #[aH ad,b,aB level] w' (fun e am=>e=bP #[]∧∃v',WS w' am ad v v' (X++blk ys))):
  Calls P sR #[lv,.agg #[.bool auto,cv,aB level,aB block,.bool locked,sv,nv,aB rounds]] w (yQ w (R4 (OS ch auto ts dF) blk auto ts level block locked ss.length ns.length rounds (us.map er))):=by
 refine qeJ (mL (Fr.start w) fun o3 w1 f1=>gE f1 0 rfl (gC (TN (hc.ev f1.old) (dv.ev f1.old) (dq.ev f1.old) (by omega)) fun w2 h2=>?_))
 have f2:=f1.ev h2
 refine oO (fun hr=>?_) (fun hr=>?_)
 ·have e:R4 (OS ch auto ts dF) blk auto ts level block locked ss.length ns.length rounds (us.map er)=([],1):=by unfold R4;rw[if_pos hr]
  rw[e]
  exact⟨_,rfl,f2.old,ON.nil _ _ _ _⟩
 refine aO (qlN (hE.ev f2.old) hs) ?_
 rintro _ w3 ⟨tv,r,rfl,N,fs⟩
 refine⟨_,_,rfl,cA (fun ai=>?_) (fun he=>?_)⟩
 ·have e:R4 (OS ch auto ts dF) blk auto ts level block locked ss.length ns.length rounds (us.map er)=([],(jV (us.map er)).2):=by unfold R4;rw[if_neg (by rw[hr];decide),if_pos ai]
  rw[e]
  exact⟨_,rfl,f2.old.trans fs.old,ON.nil _ _ _ _⟩
 have eM:R4 (OS ch auto ts dF) blk auto ts level block locked ss.length ns.length rounds (us.map er)=(qdG (PC (OS ch auto ts dF) blk auto ts level block (jV (us.map er)).1),0):=by unfold R4;rw[if_neg (by rw[hr];decide),if_neg (by omega)]
 rw[eM]
 obtain⟨cj,du,dp,bc⟩:=qa2 he
 have aw:Es w3 tv r:=Es.own fs
 have cq:Ev w w3:=f2.old.trans fs.old
 have aq:∀u∈r,er u∈us.map er∧u.1.size≤4096∧u.2.2.length≤1048576:=fun u hu=>by
  have h1:er u∈(jV (us.map er)).1:=by rw[←N];exact List.mem_map.2 ⟨u,hu,rfl⟩
  refine⟨bc.mem_iff.1 h1,dp _ h1,?_⟩
  have h2:∀(l:List En) (x:En),x∈l→(x.2.length:Int)≤gJ l:=fun l x hx=>by
   induction l with
   |nil=>cases hx
   |cons y l ih=>
    have e2:gJ (y::l)=(y.2.length:Int)+gJ l:=by simp [gJ]
    have:=D6 l
    rcases List.mem_cons.1 hx with rfl|hx
    ·omega
    ·have:=ih hx;omega
  have:=h2 _ _ h1
  have h3:(er u).2=u.2.2:=rfl
  rw[h3]at this;omega
 obtain⟨es,dl⟩:∃es,es=(jV (us.map er)).1:=⟨_,rfl⟩
 rw[←dl]at N cj du U⊢
 have dn:r.length=es.length:=qas N
 obtain⟨tr,aj⟩:∃tr,tr=OS ch auto ts dF:=⟨_,rfl⟩
 rw[←aj]at U⊢
 have au:∀e,((tr e).1.length:Int)≤(e.2.length:Int)+(e.2.length:Int)/256+8:=fun e=>by rw[aj];exact IV _ _ _
 have co:∀e,(tr e).2.length≤10:=fun e=>by
  rw[aj];unfold OS jZ
  split
  ·exact bW _
  ·exact cf _ _
 have hall:(kX (es.map tr)).length≤2200000:=by have:=qdt au es;omega
 have ax:∀k,(kX ((es.take k).map tr)).length≤2200000:=fun k=>by
  have e:es.take k++es.drop k=es:=MA k es
  have h0:∀a b:List En,kX ((a++b).map tr)=kX (a.map tr)++kX (b.map tr):=fun a b=>by simp [kX]
  have h1:=congrArg List.length (h0 (es.take k) (es.drop k))
  rw[e,bD]at h1;omega
 have hO:∀{w':World},Ev w3 w'→∀z x,[Value.bool auto,cv,aB level,aB block,.bool locked,sv,nv,aB rounds][z]?=some x→w'.cell? (o3.add z)=some x:=fun hw z x hz=>Ch.cell (fs.old.trans hw) (f2.cell 0 z rfl hz) fun h=>h
 obtain⟨ei,ej⟩:16≤block∧block≤65536:=by
  unfold K3 at hr
  rw[mK,Bool.not_eq_true',decide_eq_false_iff_not]at hr
  omega
 refine cK aw.1 ⟨fun al its t w'=>∃(j:Nat) (vs:List ItV),t=(j:Int)∧j≤r.length∧vs.map ItV.p=(es.take j).map (fun e=>GC (tr e) e)∧Fr w3 w' (bI .u8 eB al (kX ((es.take j).map tr))::C7 its vs),fun _ _ t _=>(r.length-t).toNat,⟨0,[],rfl,bW _,rfl,((Fr.start w3).nilR eI5 5).nil0 .u8 eB⟩,?_⟩
 rintro _ al its t w4 ⟨j,vs,rfl,hj,Z,f4⟩
 have fj:vs.length=j:=by
  have:=congrArg List.length Z
  rw[fE,fE,eJ]at this;omega
 refine aG (fun cR=>?_) (fun fd=>?_)
 ·--one more entry
  have af:j<r.length:=by omega
  have hu:r[j]?=some r[j]:=fR af
  have bb:r[j]∈r:=kH af
  have be:es.take (j+1)=es.take j++[er r[j]]:=by
   rw[←N,←List.map_take,←List.map_take,iV af,gQ];rfl
  generalize r[j]=u at hu bb be
  obtain⟨ck,ff,cl⟩:=aq u bb
  have cm:=aw.2 u bb
  refine xP (aw.ev f4.old) rfl hu fun ad h0 h1=>JU h0 h1 (dX (z:=.agg #[.string ⟨#[]⟩,bR]) f4 (by kernel_rfl) fun gk w5 f5=>cS f5 0 rfl (fun w6 f6=>?_) rfl (fun x hx=>by simp at hx;rcases hx with rfl|rfl;rfl;exact cm.oc))
  have bf:Ev w w6:=cq.trans f6.old
  refine gE f6 0 rfl (lR [.bool auto,cv,aB level,aB block,.bool locked,sv,nv,aB rounds] (fun z x hz=>hO f6.old z x hz) ?_ rfl (by kernel_rfl))
  refine aO (qh1 (ch:=ch) (dF:=dF) (cm.ev f6.old) (hc.ev bf) (by omega) (fun{w' b tv} he hb dw=>dj (er u) ck (bf.trans he) cl hb dw) (fun ha {w' b} he hb=>cg ha (er u) ck (bf.trans he) cl hb)) ?_
  rintro _ w7 ⟨y,C,rfl,h7,ny,nd⟩
  have f7:=((f6.drop 0).ev h7)
  have f7:Fr w3 w7 (bI .u8 eB al (kX ((es.take j).map tr))::C7 its vs):=f7
  have bg:ON .i64 eN w7 w6.heap.size C (jZ ch (K5 auto ts dF u.2.2) u.2.2).2:=nd
  have f7:Fr w3 w7 (bI .i64 eN C (jZ ch (K5 auto ts dF u.2.2) u.2.2).2::bI .u8 eB al (kX ((es.take j).map tr))::C7 its vs):=by
   have g6:Fr w3 w6 (bI .u8 eB al (kX ((es.take j).map tr))::C7 its vs):=f6.drop 0
   exact g6.newO h7 bg
  have cn:jZ ch (K5 auto ts dF u.2.2) u.2.2=tr (er u):=by rw[aj];rfl
  rw[cn]at f7 ny bg
  have dt:=au (er u)
  have dk:(er u).2=u.2.2:=rfl
  rw[dk]at dt
  have az:C.oneCell'=true:=bg.nm.oc
  obtain⟨q,hq⟩:∃q:ItV,q=⟨GC (tr (er u)) (er u),C⟩:=⟨_,rfl⟩
  have I:c5 q=[.string u.1,aB u.2.2.length,.int .u32 (xM u.2.2),C,aB (tr (er u)).1.length]:=by rw[hq];rfl
  have bd:∀x∈c5 q,x.oneCell'=true:=fun x hx=>by
   rw[I]at hx
   simp at hx;rcases hx with rfl|rfl|rfl|rfl|rfl
   ·rfl
   ·rfl
   ·rfl
   ·exact az
   ·rfl
  rw[cn]
  refine⟨_,_,_,_,_,_,rfl,dX (z:=.agg #[.string ⟨#[]⟩,aB 0,.int .u32 0,bR,aB 0]) (Fr.start w7) (by kernel_rfl) fun O w8 g8=>cS g8 0 rfl (fun w9 g9=>?_) rfl (fun x hx=>bd x (by rw[I];exact hx))⟩
  have g9:Fr w7 w9 [aT O (c5 q)]:=by rw[I];exact g9
  have g9:=g9.drew
  have fl:(tr (er u)).1.length≤1100000:=by omega
  have fa:=ax j
  have ea:kX ((es.take (j+1)).map tr)=kX ((es.take j).map tr)++(tr (er u)).1:=by rw[be,gQ];exact qj1 _ _
  have ev:(vs++[q]).map ItV.p=(es.take (j+1)).map (fun e=>GC (tr e) e):=by rw[be,gQ,gQ,Z,hq];rfl
  have ek:(Value.agg #[.string u.1,aB u.2.2.length,.int .u32 (xM u.2.2),C,aB (tr (er u)).1.length]).cells.toList=c5 q:=by rw[I];rfl
  have br:∀{w':World} {ab ag:Value} {H:List It},Fr w3 w' (H++bI .i64 eN C (tr (er u)).2::bI .u8 eB ab (kX ((es.take j).map tr)++(tr (er u)).1)::lK eI5 5 ag (vs.length+1) (pJ vs++c5 q)::vs.reverse.map fun u=>bI .i64 eN u.cv u.p.chain)→
    (∃(j':Nat) (cw:List ItV),i64 ((j:Int)+1)=(j':Int)∧j'≤r.length∧cw.map ItV.p=(es.take j').map (fun e=>GC (tr e) e)∧Fr w3 w' (bI .u8 eB ab (kX ((es.take j').map tr))::C7 ag cw))∧((r.length:Int)-i64 ((j:Int)+1)).toNat<((r.length:Int)-(j:Int)).toNat:=fun{w' ab ag H} hf=>by
   have ci:=hf.dropN H.length
   rw[List.drop_left]at ci
   refine⟨⟨j+1,vs++[q],by rw[aD (by omega) (by omega)];omega,by omega,ev,?_⟩,by rw[aD (by omega) (by omega)];omega⟩
   rw[ea,qet]
   have dr:bI .i64 eN q.cv q.p.chain=bI .i64 eN C (tr (er u)).2:=by rw[hq];rfl
   rw[dr]
   exact ci.picksN 3 [1,2,0] (by decide) (by decide)
  refine⟨fun w'=>∀z x,(c5 q)[z]?=some x→w'.cell? (O.add z)=some x,fun z x hz=>g9.cell 0 z rfl hz,mB [.string u.1,aB u.2.2.length,.int .u32 (xM u.2.2),C,aB (tr (er u)).1.length] (fun w' hw z x hz=>hw z x (by rw[I];exact hz)) ?_ rfl (by kernel_rfl)⟩
  refine⟨?_,?_⟩
  ·--the bytes first
   have f9:Fr w3 w9.drew (aT O (c5 q)::bI .i64 eN C (tr (er u)).2::bI .u8 eB al (kX ((es.take j).map tr))::C7 its vs):=Fr.glue f7 g9
   refine vZ f9 2 rfl (ny.ev g9.old) (by omega) fun ab gb f10=>⟨fun z x hz=>f10.cell 0 z rfl hz,?_⟩
   refine sI 5 [c5 q] f10 (by rw[I];rfl) rfl (fun v hv=>by rw[List.mem_singleton.1 hv,I];rfl) (fun t46 an M=>⟨fun z x hz=>M.cell 1 z rfl hz,?_⟩) (by decide) (by kernel_rfl) (by decide +kernel)
   have M:Fr w3 an (aT t46 (c5 q)::aT O (c5 q)::bI .i64 eN C (tr (er u)).2::bI .u8 eB ab (kX ((es.take j).map tr)++(tr (er u)).1)::C7 its vs):=by
    rw[I]at M⊢;exact M
   refine BI 100 (m:=1) M 4 rfl (Sl.of_st5 (M.get 0 rfl)) bd (by omega) (by unfold maxLen;omega) (fun ag eb f12=>⟨fun z x hz=>f12.cell 1 z rfl hz,?_⟩) (by kernel_rfl)
   exact br (H:=[aT t46 (c5 q),aT O (c5 q)]) f12
  ·--the item first
   refine sI 5 [c5 q] g9 (by rw[I];rfl) rfl (fun v hv=>by rw[List.mem_singleton.1 hv,I];rfl) (fun t46 an V=>⟨fun z x hz=>V.cell 1 z rfl hz,?_⟩) (by decide) (by kernel_rfl) (by decide +kernel)
   have V:Fr w7 an [aT t46 (c5 q),aT O (c5 q)]:=by rw[I]at V⊢;exact V
   have M:Fr w3 an (aT t46 (c5 q)::aT O (c5 q)::bI .i64 eN C (tr (er u)).2::bI .u8 eB al (kX ((es.take j).map tr))::C7 its vs):=Fr.glue f7 V
   refine vZ M 3 rfl (ny.ev V.old) (by omega) fun ab eb f12=>⟨fun z x hz=>f12.cell 1 z rfl hz,?_⟩
   refine BI 100 (m:=1) f12 4 rfl (Sl.of_st5 (f12.get 0 rfl)) bd (by omega) (by unfold maxLen;omega) (fun ag A f13=>⟨fun z x hz=>f13.cell 1 z rfl hz,?_⟩) (by kernel_rfl)
   exact br (H:=[aT t46 (c5 q),aT O (c5 q)]) f13
 ·--all of them
  obtain rfl:j=r.length:=by omega
  have dx:es.take r.length=es:=by rw[dn,qU]
  rw[dx]at Z f4
  have ak:Ev w w4:=cq.trans f4.old
  have T:Nm .u8 w4 al (kX (es.map tr)):=f4.nm 0 rfl
  have df:Is w4 its vs:=qca (f4.drop 0)
  have Y:∀{w':World},Ev w4 w'→∀z x,[Value.bool auto,cv,aB level,aB block,.bool locked,sv,nv,aB rounds][z]?=some x→w'.cell? (o3.add z)=some x:=fun hw=>hO (f4.old.trans hw)
  have ar:∀p∈vs.map ItV.p,okP p:=fun p hp=>by
   rw[Z]at hp
   obtain⟨e,he,rfl⟩:=List.mem_map.1 hp
   rw[←N]at he
   obtain⟨u,hu,rfl⟩:=List.mem_map.1 he
   exact⟨(aq u hu).2.1,co _⟩
  have dm:inR .u8 (kX (es.map tr)):=T.2
  refine dX (z:=.agg #[bR]) (Fr.start w4) (by kernel_rfl) fun A bi ac=>?_
  have ac:Fr w4 bi [rN eB A (bR) []]:=ac.asW (e:=eB) 0 rfl
  refine⟨fun a w'=>w'=bi∧a=(if auto=true then 1 else 0),qiM (Y ac.old 0 _ rfl) (iQ (fun h=>⟨rfl,by rw[if_pos h]⟩) (fun h=>⟨rfl,by rw[h];rfl⟩)),?_⟩
  rintro _ a ec ⟨cp,rfl⟩
  obtain rfl:bi=ec:=cp.symm
  have bw:A.add 0=A:=Addr.add_zero' A
  have l1:=EG level
  have l2:=EG block
  have l3:(eD (if auto=true then(1:Int)else 0).toNat).length≤10:=fH (by cases auto<;>decide)
  have fn:(eD (if auto=true then 1 else 0)).length≤10:=fH (by cases auto<;>decide)
  have l4:=OQ ts (by omega)
  refine bG (Y ac.old 2 _ rfl) ?_
  rw[bw]
  refine qd5 ac 0 rfl (by simp) fun fu gc bp=>bG (Y bp.old 3 _ rfl) (qd5 bp 0 rfl (by simp;omega) fun fv gd f19=>?_)
  refine c9 f19 0 rfl (by cases auto<;>decide) (by simp;omega) fun fw ge f20=>dV (Y f20.old 1 _ rfl) ?_
  refine cZ (qbn (ts:=ts) f20 0 rfl (fun w' hf=>hc.ev (ak.trans hf.old)) (by simp only[bD,ME];omega)) fun gf ⟨fx,f21⟩=>?_
  refine cZ (qid (us:=vs) f21 0 rfl (fun w' hf=>df.ev hf.old) ar (by omega) (by simp only[bD,ME];omega)) fun cx ⟨v22,f22⟩=>?_
  have eX:[]++eD (gD level).toNat++eD (gD block).toNat++eD (if auto=true then(1:Int)else 0).toNat++AH ts++W6 (vs.map ItV.p)=qaI auto ts level block++W6 (es.map fun e=>GC (tr e) e):=by
   rw[Z];unfold qaI
   cases auto<;>rfl
  obtain⟨X,hX⟩:∃X,X=qaI auto ts level block++W6 (es.map fun e=>GC (tr e) e):=⟨_,rfl⟩
  have ez:X.length≤100000000:=by
   have h1:=HD (ps:=es.map fun e=>GC (tr e) e) (by rw[←Z];exact ar)
   have h2:=fH (n:=es.length) (by omega)
   rw[fE]at h1
   rw[hX];unfold qaI W6
   simp only[bD,fE];omega
  have bt:Fr w4 cx [rN eB A v22 X]:=by
   have:Fr w4 cx [rN eB A v22 ([]++eD (gD level).toNat++eD (gD block).toNat++eD (if auto=true then(1:Int)else 0).toNat++AH ts++W6 (vs.map ItV.p))]:=f22
   rw[eX,←hX]at this;exact this
  obtain⟨n,rfl⟩:∃n:Nat,block=n:=⟨block.toNat,by omega⟩
  have fg:16≤n:=by omega
  refine bG (Y bt.old 3 _ rfl) (qf4 bt T.one (n:=n) (by omega) fun ca cb gg f23=>?_)
  obtain⟨J,bu⟩:∃J,J=kX (es.map tr):=⟨_,rfl⟩
  rw[←bu]at T U hall dm
  have bx:∀js:List Nat,js.length≤chN n J.length→(xD blk n J js).length≤100000000:=fun js hk=>by
   have h1:=UH (blk:=blk) (n:=n) (xs:=J) hbl js
   rcases Nat.eq_zero_or_pos js.length with h0|h0
   ·rw[h0]at h1;omega
   ·have h2:=(V1 (n:=n) (len:=J.length) (j:=js.length-1) (by omega)).1 (by omega)
    have h4:js.length-1≤(js.length-1)*n:=ZK _ (by omega)
    have h5:(2*n+40)*js.length=2*((js.length-1)*n)+2*n+40*js.length:=by
     obtain⟨m,hm⟩:∃m,js.length=m+1:=⟨js.length-1,by omega⟩
     rw[hm,Nat.add_sub_cancel,M9,Nat.mul_add,K6,Nat.mul_assoc,A4 n m]
    omega
  refine qcH f23 T (by omega) (by omega) (by omega) (fun pre G=>∃v,G=[rN eB A v (X++xD blk n J pre)]) ⟨v22,by show [rN eB A v22 X]=[rN eB A v22 (X++[])];rw[iW]⟩ ?_ ?_
  ·rintro pre jj W _ ⟨v,rfl⟩ f ba hN dg K hK
   have cR:=(V1 (len:=J.length) (j:=pre.length) (n:=n) (by omega)).1 ba
   have bv:J≠[]:=by intro h;rw[h]at cR;simp at cR
   have dh:W1 W A v (X++xD blk n J pre):=f.get 2 rfl
   have cf:=qbE n J jj
   have fh:=bx pre (by omega)
   refine bG (Y f.old 2 _ rfl) (cZ (U bv (ys:=chL n J jj) (ak.trans f.old) (by omega) dh (fun am cd=>?_) (by rw[bD];omega)) fun dc ⟨v',cr⟩=>?_)
   ·exact hN.chN cd fun ai g i hg hh=>by
     have fe:=hN.old ai hg
     have fc:g<w4.heap.size:=by rcases dg g hg with h|h;exact h;exact absurd h ai
     have:=(f.mem (it:=rN eB A v (X++xD blk n J pre)) (by simp)).2 g hh
     omega
   ·have f':=f.wr 2 rfl cr
    refine hK dc [rN eB A v' (X++xD blk n J (pre++[jj]))] cr.2.1.others ⟨v',rfl⟩ ?_
    rw[UI,←gY];exact f'
  ·rintro D W _ hD ⟨v,rfl⟩ f de
   have eu:=bx (List.range (chN n J.length)) (by rw[List.length_range];exact cJ _)
   have ae:X++xD blk n J (List.range (chN n J.length))=PC tr blk auto ts level n es:=by
    unfold PC;rw[hX,bu,dH]
   have bz:(PC tr blk auto ts level n es).length≤300000000:=by rw[←ae,bD];omega
   rw[ae]at f
   generalize PC tr blk auto ts level n es=BD at f bz
   have hW:W1 W A v BD:=f.get 2 rfl
   refine iY (SQ hW (by omega)) fun y wa ⟨h1,oy⟩=>?_
   have g1:Fr W wa [bI .u8 eB y BD]:=(Fr.start W).newO h1 oy
   have cc:=oy.2
   refine qiE g1 fun out vo wb g2=>qqT [118,98,120,1] g2 rfl rfl (fun x hx=>by simp at hx;rcases hx with rfl|rfl|rfl|rfl<;>decide) fun bh wc g3=>?_
   refine T2 (g3.get 1 rfl) (fun w' ay=>Cn.nm ((g3.oth 1 rfl ay fun k q h=>h).get 0 rfl)) (by simp) fun vd wd hd=>?_
   have g4:Fr W wd [cIt eB bh [118,98,120,1],rN eB out vd [118,98,120,1],bI .u8 eB y BD]:=g3.wr 1 rfl hd
   refine bQ (JF (g4.nm 2 rfl) (by omega)) fun we h5=>?_
   rw[qmd cc]
   have fb:=UM cc
   refine qd3 (n:=4) (g4.ev h5) 1 rfl (by omega) (by simp) fun vf wf g6=>?_
   have g6:Fr W wf [cIt eB bh [118,98,120,1],rN eB out vf ([118,98,120,1]++sJ (xM BD) 4),bI .u8 eB y BD]:=g6
   refine T2 (ys:=BD) (g6.get 1 rfl) (fun w' ay=>(g6.oth 1 rfl ay fun k q h=>h).nm 1 rfl) (by simp [lV];omega) fun vg wg hg=>?_
   have g7:Fr W wg [cIt eB bh [118,98,120,1],rN eB out vg (qdG BD),bI .u8 eB y BD]:=g6.wr 1 rfl hg
   have fk:(qdG BD).length≤400000000:=by unfold qdG;simp only[bD,lV];simp;omega
   refine iY (SQ (g7.get 1 rfl) (by omega)) fun z wh ⟨h8,oz⟩=>?_
   have hk1:wh.heap[D]?=some (.deferred (some [])):=(g7.old.trans h8).oth D _ de rfl
   have f9:=(((f.ev g7.old).newO h8 oz).putObj (D:=D) (o':=.deferred none) (nJ f23.old.size hD) hk1 rfl)
   exact⟨hk1,z,rfl,ak.trans f9.old,(f9.on 0 rfl).low ak.size⟩
end
end
section
def GA(lo hi d:Int):Int:=if(if hi<d then hi else d)>lo then(if hi<d then hi else d)else lo
theorem qgD{lo hi d:Int}(h:lo≤hi):lo≤GA lo hi d∧GA lo hi d≤hi:=by
 unfold GA
 by_cases h1:hi<d
 ·rw[if_pos h1]
  by_cases h2:hi>lo
  ·rw[if_pos h2];omega
  ·rw[if_neg h2];omega
 ·rw[if_neg h1]
  by_cases h2:d>lo
  ·rw[if_pos h2];omega
  ·rw[if_neg h2];omega
def plI(n:Int)(len:Int):Int:=Int.tmod (i64 (Int.tmod n len+len)) len
theorem OF{n len:Int}(h:1≤len∧len≤1000000):0≤plI n len∧plI n len<len:=by
 have h1: -len<Int.tmod n len∧Int.tmod n len<len:=by
  have ha:=Int.tmod_lt_of_pos n (show 0<len by omega)
  have hb: -len<Int.tmod n len:=by
   have hc:=Int.tmod_lt_of_pos (-n) (show 0<len by omega)
   rw[Int.neg_tmod]at hc;omega
  exact⟨hb,ha⟩
 unfold plI
 rw[aD (by omega) (by omega),N0 (by omega)]
 exact⟨Int.emod_nonneg _ (by omega),Int.emod_lt_of_pos _ (by omega)⟩
def chG(p:Int):Int:=if i64 (cV .u16 p 4)>1 then i64 (cV .u16 p 4)else 1
def atG(xs:List Int)(n:Int):Int:=chG (lU .u16 (rd xs (plI n xs.length)) 32768)
def nxG(p bit rate:Int):Int:=if bit≠0 then u16 (p+cV .u16 (u16 (65535-p)) (GA 1 15 rate))else u16 (p-cV .u16 p (GA 1 15 rate))
def lrG(xs:List Int)(n bit rate:Int):List Int:=xs.set (plI n xs.length).toNat (lU .u16 (nxG (lU .u16 (rd xs (plI n xs.length)) 32768) bit rate) 32768)
theorem qcc(xs:List Int)(n bit rate:Int):(lrG xs n bit rate).length=xs.length:=by unfold lrG;rw[AJ]
theorem qmS(a b:Int):IntKind.u16.min≤lU .u16 a b∧lU .u16 a b≤IntKind.u16.max:=by
 have h1:IntKind.u16.min=0:=by decide
 have h2:IntKind.u16.max=65535:=by decide
 rw[h1,h2]
 unfold lU
 show 0≤u16 _∧u16 _≤_
 rw[qc8];omega
noncomputable abbrev eU:TypeId:=dD P kQ
section
variable {w0 w:World} {F:List It} {ta:Addr} {v:Value} {xs:List Int}
theorem VM{n:Nat}(hn:1≤n∧n≤65536):Calls P tG #[aB n] w (fun e w'=>∃ta v,e=aW (aH ta)∧∀{w0 F},Fr w0 w F→Fr w0 w' (aT ta [v]::bI .u16 eU v (List.replicate n 0)::F)):=by
 refine qcq ?_
 have e:(if(if 65536<(n:Int)then 65536 else(n:Int))>1 then(if 65536<(n:Int)then 65536 else(n:Int))else 1)=(n:Int):=by
  rw[if_neg (show ¬65536<(n:Int)by omega)];split<;>omega
 rw[e]
 refine SY (k:=.u16) (by omega) (by omega) fun v w1 h1 (r:ON .u16 eU w1 w.heap.size v (List.replicate n 0))=>⟨r.one,V6 fun ad w2 h2 q hs hS=>⟨ad,v,rfl,fun f=>?_⟩⟩
 have u:=f.newO h1 r
 have j:St w2 ad [v]:=hS
 exact u.new (jt:=aT ad [v]) h2 j fun k hk=>by have hk:k=ad.block:=hk;subst q;dsimp only at hk;omega
theorem qec(f:Fr w0 w F)(i j:Nat)(hi:F[i]?=some (aT ta [v]))(hj:F[j]?=some (bI .u16 eU v xs)):Calls P pC #[aH ta] w (fun e w'=>e=aW (aB xs.length)∧w'=w):=by
 refine HT (fO (iR (aC ?_)))
 rw[Addr.add_zero']
 exact dY f i 0 hi rfl (aP (f.nm j hj) ⟨rfl,rfl⟩)
theorem VN{n:Int}(f:Fr w0 w F)(i j:Nat)(hi:F[i]?=some (aT ta [v]))(hj:F[j]?=some (bI .u16 eU v xs))(hl:1≤xs.length):Calls P mO #[aH ta,aB n] w (fun e w'=>e=aW (aB (plI n xs.length))∧w'=w):=
 CL (aC (dY f i 0 hi rfl (aP (f.nm j hj) (kZ (by omega) (kZ (by omega) ⟨rfl,rfl⟩)))))
theorem JP{n:Int}(f:Fr w0 w F)(i j:Nat)(hi:F[i]?=some (aT ta [v]))(hj:F[j]?=some (bI .u16 eU v xs))(hl:1≤xs.length∧xs.length≤65536):Calls P fP #[aH ta,aB n] w (fun e w'=>e=aW (aB (atG xs n))∧Ev w w'):=by
 have hp:=OF (n:=n) (len:=xs.length) (by omega)
 refine KQ (bX (qec f i j hi hj) (cN (fun h=>absurd h (by omega)) (fun _=>⟨fun w'=>w'=w.drew,rfl,aC ?_⟩)))
 rw[Addr.add_zero']
 refine dE (mM (f.drew.cell i 0 hi rfl)) (aC ?_)
 rw[Addr.add_zero']
 refine bX (VN f.drew i j hi hj hl.1) ⟨rfl,dL (f.drew.nm j hj) hp.1 hp.2 fun ad c _=>aN (mM c) (bX (RM ⟨rfl,rfl⟩) ⟨rfl,rfl,Ev.drew0 w⟩)⟩
theorem qkz{p bit rate:Int}:Calls P X1 #[.int .u16 p,aB bit,aB rate] w (fun e w'=>e=aW (.int .u16 (nxG p bit rate))∧w'=w):=by
 have j:=qgD (lo:=1) (hi:=15) (d:=rate) (by decide)
 have h0:0≤GA 1 15 rate:=by omega
 refine p9 (cA (fun h=>pL h0 ⟨?_,rfl⟩) (fun h=>pL h0 ⟨?_,rfl⟩))
 ·show Ending.returned (.int .u16 (u16 (p+cV .u16 (u16 (65535-p)) (GA 1 15 rate))))=_
  unfold nxG;rw[if_pos h]
 ·show Ending.returned (.int .u16 (u16 (p-cV .u16 p (GA 1 15 rate))))=_
  unfold nxG;rw[if_neg (show ¬bit≠0 by omega)]
theorem GY{n bit rate:Int}(f:Fr w0 w F)(i j:Nat)(hi:F[i]?=some (aT ta [v]))(hj:F[j]?=some (bI .u16 eU v xs))(hl:1≤xs.length∧xs.length≤65536):Calls P kC #[aH ta,aB n,aB bit,aB rate] w (fun e w'=>e=bP #[]∧Fr w0 w' (F.set j (bI .u16 eU v (lrG xs n bit rate)))):=by
 have hp:=OF (n:=n) (len:=xs.length) (by omega)
 refine CK (bX (qec f i j hi hj) (aG (fun _=>⟨fun w'=>w'=w.drew,rfl,aC ?_⟩) (fun h=>absurd h (by omega))))
 rw[Addr.add_zero']
 refine dE (mM (f.drew.cell i 0 hi rfl)) (aC ?_)
 rw[Addr.add_zero']
 refine bX (VN f.drew i j hi hj hl.1) ⟨rfl,C6 (f.drew.on j hj) hp.1 hp.2 fun ad hs c=>aC (bG c (bX qkz (aC (qK (f.drew.on j hj) hs hp.1 hp.2 (qmS _ _) fun w' hc _ q=>⟨rfl,?_⟩))))⟩
 exact f.drew.upd (jt:=bI .u16 eU v (lrG xs n bit rate)) j hj hc (fun k _ hh=>.inl hh) (q.low (bW _)) fun k hk=>.inl hk
end
def sqI(d:Int):Int:=i64 (2048+i64 (Int.tdiv (i64 (2560*GA (-2047) 2047 d)) (i64 (512+(if i64 (0-GA (-2047) 2047 d)>GA (-2047) 2047 d then i64 (0-GA (-2047) 2047 d)else GA (-2047) 2047 d)))))
theorem qtF(d:Int):i64 (512+(if i64 (0-GA (-2047) 2047 d)>GA (-2047) 2047 d then i64 (0-GA (-2047) 2047 d)else GA (-2047) 2047 d))≠0:=by
 have h:=qgD (lo:= -2047) (hi:=2047) (d:=d) (by decide)
 generalize GA (-2047) 2047 d=c at h
 rw[aD (n:=0-c) (by omega) (by omega)]
 split
 ·rw[aD (by omega) (by omega)];omega
 ·rw[aD (by omega) (by omega)];omega
theorem GN{w:World}{d:Int}:Calls P uW #[aB d] w (fun e w'=>e=aW (aB (sqI d))∧w'=w):=
 q8 (F4 (qtF d) ⟨rfl,rfl⟩)
def stL(p:Int):Nat→Int→Int→Int
 |0,low,_=>i64 (low-2047)
 |f+1,low,high=>if low<high then(if sqI (i64 (i64 (Int.tdiv (i64 (low+high)) 2)-2047))≥p then stL p f low (i64 (Int.tdiv (i64 (low+high)) 2))else stL p f (i64 (i64 (Int.tdiv (i64 (low+high)) 2)+1)) high)else i64 (low-2047)
def stI(p:Int):Int:=stL (GA 1 4095 p) 4094 0 4094
theorem qq3{low high:Int}(h:0≤low∧low<high∧high≤4094):i64 (Int.tdiv (i64 (low+high)) 2)=(low+high)/2:=by
 rw[aD (n:=low+high) (by omega) (by omega),sH (by omega),aD (by omega) (by omega)]
theorem qhV(p:Int):∀(f:Nat) (low high:Int),0≤low→low≤high→high≤4094→ -2047≤stL p f low high∧stL p f low high≤2047
 |0,low,high,h0,h1,h2=>by rw[stL,aD (by omega) (by omega)];omega
 |f+1,low,high,h0,h1,h2=>by
  rw[stL]
  split
  ·rename_i cR
   rw[qq3 ⟨h0,cR,h2⟩]
   split
   ·exact qhV p f _ _ h0 (by omega) (by omega)
   ·rw[aD (n:=(low+high)/2+1) (by omega) (by omega)]
    exact qhV p f _ _ (by omega) (by omega) h2
  ·rw[aD (by omega) (by omega)];omega
theorem qcU(p:Int): -2047≤stI p∧stI p≤2047:=qhV _ _ _ _ (by decide) (by decide) (by decide)
theorem nI{w:World}{p:Int}:Calls P fS #[aB p] w (fun e w'=>e=aW (aB (stI p))∧w'=w):=by
 refine WT ⟨fun low high w'=>∃f:Nat,0≤low∧low≤high∧high≤4094∧high-low≤f∧stL (GA 1 4095 p) f low high=stI p∧w'=w,fun low high _=>(high-low).toNat,⟨4094,by decide,by decide,by decide,by decide,rfl,rfl⟩,?_⟩
 rintro _ low high _ ⟨f,h0,h1,h2,hf,j,rfl⟩
 refine aG (fun cR=>bX GN ?_) (fun r=>?_)
 ·obtain⟨f,rfl⟩:∃g,f=g+1:=⟨f-1,by omega⟩
  rw[stL,if_pos cR]at j
  have hm:=qq3 ⟨h0,cR,h2⟩
  rw[hm]at j⊢
  refine aG (fun hg=>?_) (fun q=>?_)
  ·have hg:sqI (i64 ((low+high)/2-2047))≥GA 1 4095 p:=hg
   rw[if_pos hg]at j
   exact⟨⟨f,h0,by omega,by omega,by omega,j,rfl⟩,by dsimp only;omega⟩
  ·have q:¬sqI (i64 ((low+high)/2-2047))≥GA 1 4095 p:=q
   rw[if_neg q]at j
   rw[aD (n:=(low+high)/2+1) (by omega) (by omega)]at j⊢
   exact⟨⟨f,by omega,by omega,h2,by omega,j,rfl⟩,by dsimp only;omega⟩
 ·refine⟨?_,rfl⟩
  have hz:∀f,stL (GA 1 4095 p) f low high=i64 (low-2047):=fun f=>by
   cases f with
   |zero=>rfl
   |succ f=>rw[stL,if_neg r]
  rw[←j,hz]
end
section
theorem PJ{α:Type}:∀(l:List α) (i:Nat) (a:α),(l.set i a).eraseIdx i=l.eraseIdx i
 |[],_,_=>rfl
 |_::_,0,_=>rfl
 |x::l,i+1,a=>by show x::(l.set i a).eraseIdx i=x::l.eraseIdx i;rw[PJ l i a]
section
variable {P:Program} {w0 w:World} {F:List It}
theorem VA{t e:TypeId}{sz n j q:Nat}{v u:Value}{cs:List Value}{ad:Addr}{K:World→Prop}(h:Fr w0 w F)(i:Nat)(hi:F[i]?=some (lK e sz v n cs))(hs:SltR v j sz ad)(hj:j<n)(hq:q<sz)(hu:u.oneCell'=true)(J:u.cells= #[u])
  (hk:∀w',Fr w0 w' (F.set i (lK e sz v n (cs.set (j*sz+q) u)))→K w') (ht:BM P t=true:=by kernel_rfl):aL P t (aH (ad.add q)) u w K:=by
 have T:w.ownsRow 0 e sz v n cs:=h.get i hi
 obtain⟨g,U,c,rfl,rfl⟩:=hs
 have M:(j+1)*sz≤n*sz:=kR _ hj
 rw[M9,AI]at M
 rcases T.2 with⟨hn,_⟩|⟨Y,cap,I,hv,hb,hg,hn,hm,hcs,O⟩
 ·simp at hn
 simp only[Value.slice.injEq,Option.some.injEq,Addr.mk.injEq,and_true]at hv
 obtain⟨rfl,rfl,rfl⟩:=hv
 have r:cs.length=U*sz:=T.1
 have N:St w ⟨g,0,none⟩ cs:=⟨rfl,I,e,hg,fun q u hq=>by
  rw[←O,vW]at hq
  dsimp only;rw[Nat.zero_add]
  split at hq
  ·rw[M8]at hq;exact hq
  ·cases hq⟩
 have C:(⟨g,j*sz,none⟩:Addr).add q=(⟨g,0,none⟩:Addr).add (j*sz+q):=by rw[Addr.add_lit,Addr.add_lit,vV]
 rw[C]
 refine iP N (by rw[r];omega) hu J (fun w' hc _ hS=>hk w' (h.upd i hi hc (fun k _ hh=>.inl ?_) ?_ fun k hk=>.inl hk)) ht
 ·have h2:=hh.1
  rw[Addr.add_lit]at h2
  show some g=some k
  rw[h2]
 ·obtain⟨c',k1,k2,_⟩:=hc.cel _ _ _ _ hg
  refine⟨by rw[AJ];exact r,.inr ⟨g,c,c',rfl,bW _,k1,hn,hm,by rw[k2];exact hcs,?_⟩⟩
  obtain⟨_,X,e2,s1,V⟩:=hS
  dsimp only at s1 V
  rw[k1]at s1;injection s1 with s1;injection s1 with s1 _ _;subst s1
  refine qbp fun z=>?_
  rw[vW]
  have A:(cs.set (j*sz+q) u).length=U*sz:=by rw[AJ];exact r
  split
  ·rename_i hz
   have hx:=V z _ (fR (by rw[A];exact hz))
   rw[vV]at hx
   rw[M8,hx,fR (by rw[A];exact hz)]
  ·rename_i hz
   rw[I4 (by rw[A];omega)]
end
structure MxS where
 is:Bool
 set:Int
 ins:List Int
 told:Int
 ws:List Int
def HF(is:Bool)(set:Int)(ins:List Int)(told:Int)(v:Value):List Value:=.bool is::aB set::(ins.map (Value.int .i64)++[aB told,v])
theorem qcg{is:Bool}{set told:Int}{ins:List Int}{v:Value}{k:Nat}(h:k<ins.length):(HF is set ins told v)[2+k]?=some (aB (rd ins k)):=by
 unfold HF
 rw[show 2+k=k+1+1 by omega,T7,T7,T8 (by rw[fE];exact h),jD,fR h,dK ins k h];rfl
theorem qpT{is:Bool}{set told:Int}{ins:List Int}{v:Value}{k:Nat}{x:Int}(h:k<ins.length):(HF is set ins told v).set (2+k) (aB x)=HF is set (ins.set k x) told v:=by
 unfold HF
 rw[show 2+k=k+1+1 by omega,List.set_cons_succ,List.set_cons_succ,List.set_append_left _ _ (by rw[fE];exact h),DR]
theorem qch(is:Bool)(set told:Int)(ins:List Int)(v:Value)(h:ins.length=4):(HF is set ins told v).length=8:=by unfold HF;simp [h]
theorem qaO{is:Bool}{set told:Int}{ins:List Int}{v:Value}(h:ins.length=4):(HF is set ins told v)[6]?=some (aB told)∧(HF is set ins told v)[7]?=some v:=by
 match ins,h with
 |[a,b,c,d],_=>exact⟨rfl,rfl⟩
theorem qr6{is:Bool}{set told t:Int}{ins:List Int}{v:Value}(h:ins.length=4):(HF is set ins told v).set 6 (aB t)=HF is set ins t v:=by
 match ins,h with
 |[a,b,c,d],_=>rfl
def clX(x:Int):Int:=GA (-2047) 2047 x
def inK(ps:List Int)(k:Nat):List Int:=(ps.take k).map clX++List.replicate (4-k) 0
def smK(ps ws:List Int)(j:Nat):Nat→Int
 |0=>0
 |k+1=>i64 (smK ps ws j k+i64 (clX (rd ps k)*rd ws ((j*4+k:Nat):Int)))
def BU(m:MxS)(n:Int)(ps:List Int):Int:=sqI (GA (-2047) 2047 (cV .i64 (smK ps m.ws (plI n 256).toNat 4) 16))
def MZ(m:MxS)(n:Int)(ps:List Int):MxS:=⟨true,plI n 256,ps.map clX,BU m n ps,m.ws⟩
def lrW(ins:List Int)(e:Int)(j:Nat)(ws:List Int):Nat→List Int
 |0=>ws
 |k+1=>(lrW ins e j ws k).set (j*4+k) (GA (-16777216) 16777216 (i64 (rd (lrW ins e j ws k) ((j*4+k:Nat):Int)+cV .i64 (i64 (i64 (rd ins k*e)+32768)) 16)))
def lrM(m:MxS)(bit:Int):MxS:=if m.is=true then{m with ws:=lrW m.ins (i64 (7*i64 ((if bit≠0 then 4095 else 0)-m.told))) m.set.toNat m.ws 4}else m
theorem qcd(ins:List Int)(e:Int)(j:Nat)(ws:List Int):∀k,(lrW ins e j ws k).length=ws.length
 |0=>rfl
 |k+1=>by rw[lrW,AJ,qcd ins e j ws k]
def qci(m:MxS):Prop:=m.ins.length=4∧m.ws.length=1024∧(m.is=true→0≤m.set∧m.set<256)
theorem qnh{m:MxS}{n:Int}{ps:List Int}(h:qci m)(hp:ps.length=4):qci (MZ m n ps):=⟨by simp [MZ,hp],h.2.1,fun _=>OF (by decide)⟩
theorem qpU{m:MxS}{bit:Int}(h:qci m):qci (lrM m bit):=by
 unfold lrM
 split
 ·exact⟨h.1,by rw[qcd];exact h.2.1,h.2.2⟩
 ·exact h
def mx0:MxS:=⟨false,0,[0,0,0,0],0,List.replicate 1024 16384⟩
theorem qtr:qci mx0:=⟨rfl,by unfold mx0;rw[sF],fun h=>by cases h⟩
noncomputable abbrev ZZ:TypeId:=dD P gH
section
variable {w0 w:World} {F:List It} {ma:Addr} {v:Value} {m:MxS}
theorem qjq{ws:List Int}{j k:Nat}(h:j*4+k<ws.length):(ws.map (Value.int .i64))[j*4+k]?=some (aB (rd ws ((j*4+k:Nat):Int))):=by
 rw[jD,fR h,dK ws _ h];rfl
theorem qg9{n:Int}(f:Fr w0 w F)(i j:Nat)(hi:F[i]?=some (aT ma (HF m.is m.set m.ins m.told v)))(hj:F[j]?=some (lK ZZ 4 v 256 (m.ws.map (Value.int .i64))))(ok:qci m):Calls P uV #[aH ma,aB n] w (fun e w'=>e=aW (aB (plI n 256))∧w'=w):=
 HV (aC (dY f i 7 hi (qaO ok.1).2 (cK (f.row j hj) (kZ (by decide) (kZ (by decide) ⟨rfl,rfl⟩)))))
theorem qiV(ps:List Int)(k:Nat)(hp:ps.length=4)(hk:k≤4):(inK ps k).length=4:=by unfold inK;simp [hp];omega
theorem qpF{ps:List Int}{k:Nat}(hp:ps.length=4)(hk:k<4):(inK ps k).set k (clX (rd ps k))=inK ps (k+1):=by
 match ps,hp with
 |[a,b,c,d],_=>
  obtain h|h|h|h:k=0∨k=1∨k=2∨k=3:=by omega
  all_goals subst h;rfl
theorem qrS{ps:List Int}{k:Nat}(hp:ps.length=4)(hk:k<4):rd (inK ps (k+1)) (k:Int)=clX (rd ps k):=by
 match ps,hp with
 |[a,b,c,d],_=>
  obtain h|h|h|h:k=0∨k=1∨k=2∨k=3:=by omega
  all_goals subst h;rfl
theorem qtk{ps:List Int}(hp:ps.length=4):inK ps 4=ps.map clX:=by
 match ps,hp with
 |[a,b,c,d],_=>rfl
theorem qoQ{n:Int}{iv:Value}{ps:List Int}(f:Fr w0 w F)(i j:Nat)(V:i≠j)(hi:F[i]?=some (aT ma (HF m.is m.set m.ins m.told v)))(hj:F[j]?=some (lK ZZ 4 v 256 (m.ws.map (Value.int .i64))))(ok:qci m)(hp:ps.length=4)(hN:∀w',Fr w0 w' (F.eraseIdx i)→Nm .i64 w' iv ps):
  Calls P jW #[aH ma,aB n,iv] w (fun e w'=>e=aW (aB (BU m n ps))∧Fr w0 w' (F.set i (aT ma (HF (MZ m n ps).is (MZ m n ps).set (MZ m n ps).ins (MZ m n ps).told v)))):=by
 have ag:=OF (n:=n) (len:=256) (by decide)
 obtain⟨r,J⟩:∃r:Nat,plI n 256=r:=⟨(plI n 256).toNat,by omega⟩
 have X:∀cs,(F.set i (aT ma cs))[j]?=some (lK ZZ 4 v 256 (m.ws.map (Value.int .i64))):=fun cs=>by rw[List.getElem?_set_ne V];exact hj
 refine NP ⟨fun w'=>w'=w,fO (oP (aC (dY f i 7 hi (qaO ok.1).2 (cK (f.row j hj) (cN (fun h=>by cases h) (fun _=>rfl)))))),?_⟩
 rintro _ w1 ab
 obtain rfl:w=w1:=ab.symm
 refine bX (qg9 f i j hi hj ok) (aC ?_)
 rw[Addr.add_zero',J]
 have Y:=qch m.is m.set m.told m.ins v ok.1
 have hS:St w ma (HF m.is m.set m.ins m.told v):=f.get i hi
 refine L0 hS (by rw[Y];exact(by decide:7≤8)) (fun u hu=>by simp at hu;rcases hu with rfl|rfl|rfl|rfl|rfl|rfl|rfl<;>rfl) (fun w2 hc2 _ T=>?_) (by kernel_rfl)
 have f2:Fr w0 w2 (F.set i (aT ma (HF true r [0,0,0,0] 0 v))):=by
  refine f.upd i hi hc2 (fun k _ hh=>.inl hh.1) ?_ fun k hk=>.inl hk
  have e:(HF m.is m.set m.ins m.told v).drop 7=[v]:=by
   match m.ins,ok.1 with
   |[a,b,c,d],_=>rfl
  have e2: #[Value.bool true,aB (r:Int),aB 0,aB 0,aB 0,aB 0,aB 0].toList++(HF m.is m.set m.ins m.told v).drop 7=HF true r [0,0,0,0] 0 v:=by rw[e];rfl
  show St w2 ma _
  rw[←e2];exact T
 have N:∀{w':World} {cs:List Value},Fr w0 w' (F.set i (aT ma cs))→Nm .i64 w' iv ps:=fun{w' cs} hf=>hN w' (by have:=hf.drop i;rwa [PJ]at this)
 refine aP (N f2) ?_
 rw[hp]
 refine⟨fun sum k w'=>∃q:Nat,k=(q:Int)∧q≤4∧sum=smK ps m.ws r q∧Fr w0 w' (F.set i (aT ma (HF true r (inK ps q) 0 v))),fun _ k _=>(4-k).toNat,⟨0,rfl,by decide,rfl,f2⟩,?_⟩
 rintro _ sum k w3 ⟨q,rfl,hq,rfl,f3⟩
 have C:∀cs,(F.set i (aT ma cs))[i]?=some (aT ma cs):=fun cs=>by
  have:=(List.getElem?_eq_some_iff.1 hi).1
  rw[ZG];simp [this]
 refine aG (fun cR=>?_) (fun U=>?_)
 ·have A:q<4:=by
   have:(q:Int)<if(4:Int)<((4:Nat):Int)then 4 else((4:Nat):Int):=cR
   rw[if_neg (by decide)]at this;omega
  have I:=qiV ps q hp hq
  have M:=f3.drew
  refine⟨fun _=>True,trivial,dL (N M) (by omega) (by rw[hp];omega) fun ad c _=>aC (bG c ⟨trivial,?_⟩)⟩
  rw[Addr.add_zero']
  refine gT 4 q rfl A ?_
  rw[Addr.add2']
  refine dT M i (2+q) (C _) (fun w4 f4=>⟨trivial,aC ?_⟩) (by rw[qch _ _ _ _ _ I];omega)
  rw[List.set_set,show(if(if 2047<rd ps (q:Int)then 2047 else rd ps (q:Int))>(-2047)then(if 2047<rd ps (q:Int)then 2047 else rd ps (q:Int))else(-2047))=clX (rd ps q)from rfl,qpT (by omega),qpF hp A]at f4
  have O:=qiV ps (q+1) hp (by omega)
  have Z:=qaO (is:=true) (set:=(r:Int)) (told:=0) (v:=v) O
  rw[Addr.add_zero']
  refine gT 4 q rfl A ?_
  rw[Addr.add2']
  refine aN (mM (f4.drew.cell i (2+q) (C _) (qcg (by omega)))) (aC (dE (mM (f4.drew.cell i 7 (C _) Z.2)) (aC ?_)))
  rw[Addr.add_zero']
  refine aN (mM (f4.drew.cell i 1 (C _) rfl)) ?_
  have ho:w4.drew.ownsRow 0 ZZ 4 v 256 (m.ws.map (Value.int .i64)):=f4.drew.get j (X _)
  refine uE ho rfl (show r<256 by omega) fun rad hs=>gT 4 q rfl A (aN (mM (SltR.cell ho hs (qjq (by rw[ok.2.1];omega)))) ?_)
  rw[qrS hp A]
  refine⟨⟨q+1,by rw[aD (by omega) (by omega)];omega,by omega,rfl,f4.drew⟩,by dsimp only;rw[aD (by omega) (by omega)];omega⟩
 ·have aa:q=4:=by
   have:¬(q:Int)<if(4:Int)<((4:Nat):Int)then 4 else((4:Nat):Int):=U
   rw[if_neg (by decide)]at this;omega
  subst aa
  rw[qtk hp]at f3
  have I:(ps.map clX).length=4:=by rw[fE,hp]
  refine bX GN (aC ?_)
  rw[Addr.add_zero']
  refine dT f3 i 6 (C _) (fun w4 f4=>aC ?_) (by rw[qch _ _ _ _ _ I];decide)
  rw[List.set_set,qr6 I]at f4
  rw[Addr.add_zero']
  have ht:sqI (if(if 2047<cV .i64 (smK ps m.ws r 4) 16 then 2047 else cV .i64 (smK ps m.ws r 4) 16)>(-2047)then(if 2047<cV .i64 (smK ps m.ws r 4) 16 then 2047 else cV .i64 (smK ps m.ws r 4) 16)else(-2047))=BU m n ps:=by unfold BU;rw[J];rfl
  rw[ht]at f4
  refine cI f4 i 6 (C _) (qaO I).1 ⟨rfl,?_⟩
  unfold MZ
  rw[J];exact f4
theorem qgb{bit:Int}(f:Fr w0 w F)(i j:Nat)(T:i≠j)(hi:F[i]?=some (aT ma (HF m.is m.set m.ins m.told v)))(hj:F[j]?=some (lK ZZ 4 v 256 (m.ws.map (Value.int .i64))))(ok:qci m):
  Calls P uU #[aH ma,aB bit] w (fun e w'=>e=bP #[]∧Fr w0 w' (F.set j (lK ZZ 4 v 256 ((lrM m bit).ws.map (Value.int .i64))))):=by
 have M:F.set j (lK ZZ 4 v 256 (m.ws.map (Value.int .i64)))=F:=by
  have:=(List.getElem?_eq_some_iff.1 hj)
  obtain⟨h1,h2⟩:=this
  rw[←h2];exact List.set_getElem_self h1
 refine HU ⟨fun w'=>w'=w∧m.is=true,fO (oP (aC ?_)),?_⟩
 ·rw[Addr.add_zero']
  refine JN f i 0 hi rfl (oO (fun h=>⟨rfl,?_⟩) (fun h=>⟨rfl,h⟩))
  unfold lrM;rw[if_neg (by rw[h];decide),M];exact f
 rintro _ w1 ⟨J,U⟩
 obtain rfl:w=w1:=J.symm
 have ab:=ok.2.2 U
 obtain⟨u,N⟩:∃u:Nat,m.set=u:=⟨m.set.toNat,by omega⟩
 refine⟨fun r w'=>w'=w∧r=if bit≠0 then 4095 else 0,cA (fun h=>⟨rfl,(if_pos h).symm⟩) (fun h=>⟨rfl,(if_neg (by omega)).symm⟩),?_⟩
 rintro _ r w1 ⟨J,hr⟩
 obtain rfl:w=w1:=J.symm
 refine aC ?_
 rw[Addr.add_zero']
 refine cI f i 6 hi (qaO ok.1).1 ?_
 obtain⟨e,he⟩:∃e,e=i64 (7*i64 (r-m.told)):=⟨_,rfl⟩
 have O:∀cs,(F.set j (lK ZZ 4 v 256 cs))[j]?=some (lK ZZ 4 v 256 cs):=fun cs=>by
  have:=(List.getElem?_eq_some_iff.1 hj).1
  rw[ZG];simp [this]
 have I:∀cs,(F.set j (lK ZZ 4 v 256 cs))[i]?=some (aT ma (HF m.is m.set m.ins m.told v)):=fun cs=>by rw[List.getElem?_set_ne (Ne.symm T)];exact hi
 refine⟨fun k w'=>∃q:Nat,k=(q:Int)∧q≤4∧Fr w0 w' (F.set j (lK ZZ 4 v 256 ((lrW m.ins e u m.ws q).map (Value.int .i64)))),fun k _=>(4-k).toNat,⟨0,rfl,by decide,by rw[lrW,M];exact f⟩,?_⟩
 rintro _ k w2 ⟨q,rfl,hq,Z⟩
 refine aG (fun cR=>?_) (fun ac=>?_)
 ·have C:q<4:=by omega
  have Y:=qcd m.ins e u m.ws q
  have A:=Z.drew
  refine aC (dE (mM (A.cell i 7 (I _) (qaO ok.1).2)) (aC ?_))
  rw[Addr.add_zero']
  refine aN (mM (A.cell i 1 (I _) rfl)) ?_
  rw[N]
  have ho:w2.drew.drew.ownsRow 0 ZZ 4 v 256 ((lrW m.ins e u m.ws q).map (Value.int .i64)):=A.drew.get j (O _)
  have V:=qjq (ws:=lrW m.ins e u m.ws q) (j:=u) (k:=q) (by rw[Y,ok.2.1];omega)
  refine uE ho rfl (show u<256 by omega) fun rad hs=>gT 4 q rfl C ⟨fun w'=>w'.cell? (ma.add (2+q))=some (aB (rd m.ins q)),A.drew.cell i (2+q) (I _) (qcg (by rw[ok.1];omega)),aC (aC ?_)⟩
  rw[Addr.add_zero']
  refine gT 4 q rfl C ?_
  rw[Addr.add2']
  refine aN (fun w' hw=>hw) (bG (SltR.cell ho hs V) ⟨A.drew.cell i (2+q) (I _) (qcg (by rw[ok.1];omega)),aC (VA A.drew j (O _) hs (by omega) C rfl rfl (fun w3 f3=>?_))⟩)
  rw[List.set_set]at f3
  refine⟨f3.cell i (2+q) (by rw[List.getElem?_set_ne (Ne.symm T)];exact hi) (qcg (by rw[ok.1];omega)),⟨q+1,by rw[aD (by omega) (by omega)];omega,by omega,?_⟩,by dsimp only;rw[aD (by omega) (by omega)];omega⟩
  rw[←DR,←he]at f3
  rw[lrW];exact f3
 ·have X:q=4:=by omega
  subst X
  refine⟨rfl,?_⟩
  have e2:(lrM m bit).ws=lrW m.ins e u m.ws 4:=by
   unfold lrM;rw[if_pos U,he,hr,N];rfl
  rw[e2];exact Z
end
end
section
structure SgS where
 is:Bool
 ctx:Int
 step:Int
 ls:List Int
def qfl(s:SgS):Prop:=s.ls.length=8448∧(s.is=true→(0≤s.ctx∧s.ctx<256)∧0≤s.step∧s.step<33)
def rfA(ch:Int):Int:=i64 (stI ch+2048)
def rfK(ch:Int):Int:=i64 (Int.tdiv (rfA ch) 128)
def rfW(ch:Int):Int:=Int.tmod (rfA ch) 128
theorem qnV(ch:Int):0≤rfK ch∧rfK ch≤31:=by
 have h:=qcU ch
 unfold rfK rfA
 rw[aD (n:=stI ch+2048) (by omega) (by omega),sH (by omega),aD (by omega) (by omega)]
 omega
def rfS(s:SgS)(ch n:Int):SgS:=⟨true,plI n 256,if rfW ch≥64 then i64 (rfK ch+1)else rfK ch,s.ls⟩
def rfV(s:SgS)(ch n:Int):Int:=GA 1 4095 (cV .i64 (i64 (i64 (rd s.ls (((plI n 256).toNat*33+(rfK ch).toNat:Nat):Int)*i64 (128-rfW ch))+i64 (rd s.ls (((plI n 256).toNat*33+((rfK ch).toNat+1):Nat):Int)*rfW ch))) 11)
def lrS(s:SgS)(bit rate:Int):SgS:=if s.is=true then{s with ls:=s.ls.set (s.ctx.toNat*33+s.step.toNat) (i64 (rd s.ls ((s.ctx.toNat*33+s.step.toNat:Nat):Int)+cV .i64 (i64 ((if bit≠0 then 65535 else 0)-rd s.ls ((s.ctx.toNat*33+s.step.toNat:Nat):Int))) (GA 1 15 rate)))}else s
theorem qql{s:SgS}{ch n:Int}(h:qfl s):qfl (rfS s ch n):=by
 have hk:=qnV ch
 refine⟨h.1,fun _=>⟨OF (by decide),?_⟩⟩
 have e:(rfS s ch n).step=if rfW ch≥64 then i64 (rfK ch+1)else rfK ch:=rfl
 rw[e]
 rw[aD (n:=rfK ch+1) (by omega) (by omega)]
 split<;>omega
theorem qqk{s:SgS}{bit rate:Int}(h:qfl s):qfl (lrS s bit rate):=by
 unfold lrS
 split
 ·exact⟨by show(s.ls.set _ _).length=_;rw[AJ];exact h.1,h.2⟩
 ·exact h
def sgC(s:SgS)(v:Value):List Value:=[v,.bool s.is,aB s.ctx,aB s.step]
noncomputable abbrev BF:TypeId:=dD P fU
section
variable {w0 w:World} {F:List It} {sa:Addr} {v:Value} {s:SgS}
theorem OL{ls:List Int}{j k:Nat}(h:j*33+k<ls.length):(ls.map (Value.int .i64))[j*33+k]?=some (aB (rd ls ((j*33+k:Nat):Int))):=by
 rw[jD,fR h,dK ls _ h];rfl
theorem qjS{n:Int}:Calls P O9 #[aB n,aB 256] w (fun e w'=>e=aW (aB (plI n 256))∧w'=w):=
 WZ (kZ (by decide) (kZ (by decide) ⟨rfl,rfl⟩))
theorem qgc{ch n:Int}(f:Fr w0 w F)(i j:Nat)(I:i≠j)(hi:F[i]?=some (aT sa (sgC s v)))(hj:F[j]?=some (lK BF 33 v 256 (s.ls.map (Value.int .i64))))(ok:qfl s):
  Calls P gM #[aH sa,aB ch,aB n] w (fun e w'=>e=aW (aB (rfV s ch n))∧Fr w0 w' (F.set i (aT sa (sgC (rfS s ch n) v)))):=by
 have X:=OF (n:=n) (len:=256) (by decide)
 obtain⟨q,u⟩:∃q:Nat,plI n 256=q:=⟨(plI n 256).toNat,by omega⟩
 have hk:=qnV ch
 obtain⟨k,A⟩:∃k:Nat,rfK ch=k:=⟨(rfK ch).toNat,by omega⟩
 have hk1:i64 (rfK ch+1)=((k+1:Nat):Int):=by rw[aD (by omega) (by omega)];omega
 have r:∀cs,(F.set i (aT sa cs))[i]?=some (aT sa cs):=fun cs=>by
  have:=(List.getElem?_eq_some_iff.1 hi).1
  rw[ZG];simp [this]
 have C:∀cs,(F.set i (aT sa cs))[j]?=some (lK BF 33 v 256 (s.ls.map (Value.int .i64))):=fun cs=>by rw[List.getElem?_set_ne I];exact hj
 refine AV ⟨fun w'=>w'=w,fO (oP (aC (dY f i 0 hi rfl (cK (f.row j hj) (cN (fun h=>by cases h) (fun _=>rfl)))))),?_⟩
 rintro _ w1 M
 obtain rfl:w=w1:=M.symm
 refine bX nI (aC (dY f i 0 hi rfl (cK (f.row j hj) (bX qjS (aC ?_)))))
 refine dT f i 1 hi (fun w2 V=>aC (dT V i 2 (r _) (fun w3 f3=>aC ?_)))
 rw[List.set_set]at f3
 refine dT f3 i 3 (r _) (fun w4 f4=>aC ?_)
 rw[List.set_set]at f4
 have T:i64 (Int.tdiv (i64 (stI ch+2048)) 128)=rfK ch:=rfl
 have eW:Int.tmod (i64 (stI ch+2048)) 128=rfW ch:=rfl
 rw[T]at f4⊢
 rw[eW]
 have f4:Fr w0 w4 (F.set i (aT sa [v,.bool true,aB (plI n 256),aB (rfK ch)])):=f4
 refine dE (mM (f4.drew.cell i 0 (r _) rfl)) (aC (aN (mM (f4.drew.cell i 2 (r _) rfl)) ?_))
 rw[u]at f4⊢
 have J:∀{w':World} {cs:List Value},Fr w0 w' (F.set i (aT sa cs))→w'.ownsRow 0 BF 33 v 256 (s.ls.map (Value.int .i64)):=fun hf=>hf.get j (C _)
 refine uE (J f4.drew) rfl (show q<256 by omega) fun rad hs=>⟨fun w'=>Fr w0 w' (F.set i (aT sa (sgC (rfS s ch n) v))),aG (fun hg=>aC ?_) (fun hg=>?_),?_⟩
 ·refine dT f4.drew i 3 (r _) (fun w5 f5=>?_)
  rw[List.set_set]at f5
  unfold sgC rfS
  rw[if_pos hg,u];exact f5
 ·unfold sgC rfS
  rw[if_neg hg,u];exact f4.drew
 rintro _ w5 f5
 have hl:=ok.1
 have N:w5.drew.cell? (rad.add k)=some (aB (rd s.ls ((q*33+k:Nat):Int))):=SltR.cell (J f5.drew) hs (OL (by omega))
 have O:w5.drew.cell? (rad.add (k+1))=some (aB (rd s.ls ((q*33+(k+1):Nat):Int))):=SltR.cell (J f5.drew) hs (OL (by omega))
 rw[A]
 refine aC (gT 33 k rfl (by omega) (aN (mM N) (aC ?_)))
 rw[←A,hk1]
 refine gT 33 (k+1) rfl (by omega) (aN (mM O) ⟨?_,f5.drew⟩)
 have U:(rfK ch).toNat=k:=by omega
 unfold rfV
 rw[u,dH,U];rfl
theorem qge{bit rate:Int}(f:Fr w0 w F)(i j:Nat)(N:i≠j)(hi:F[i]?=some (aT sa (sgC s v)))(hj:F[j]?=some (lK BF 33 v 256 (s.ls.map (Value.int .i64))))(ok:qfl s):
  Calls P rE #[aH sa,aB bit,aB rate] w (fun e w'=>e=bP #[]∧Fr w0 w' (F.set j (lK BF 33 v 256 ((lrS s bit rate).ls.map (Value.int .i64))))):=by
 have I:F.set j (lK BF 33 v 256 (s.ls.map (Value.int .i64)))=F:=by
  obtain⟨h1,h2⟩:=(List.getElem?_eq_some_iff.1 hj)
  rw[←h2];exact List.set_getElem_self h1
 refine CS ⟨fun w'=>w'=w∧s.is=true,fO (oP (aC (JN f i 1 hi rfl (oO (fun h=>⟨rfl,?_⟩) (fun h=>⟨rfl,h⟩))))),?_⟩
 ·unfold lrS;rw[if_neg (by rw[h];decide),I];exact f
 rintro _ w1 ⟨u,C⟩
 obtain rfl:w=w1:=u.symm
 obtain⟨hc,U,V⟩:=ok.2 C
 obtain⟨q,A⟩:∃q:Nat,s.ctx=q:=⟨s.ctx.toNat,by omega⟩
 obtain⟨k,hk⟩:∃k:Nat,s.step=k:=⟨s.step.toNat,by omega⟩
 have hl:=ok.1
 refine⟨fun r w'=>w'=w∧r=if bit≠0 then 65535 else 0,cA (fun h=>⟨rfl,(if_pos h).symm⟩) (fun h=>⟨rfl,(if_neg (by omega)).symm⟩),?_⟩
 rintro _ r w1 ⟨u,O⟩
 obtain rfl:w=w1:=u.symm
 refine aC (dE (mM (f.drew.cell i 0 hi rfl)) (aC (aN (mM (f.drew.cell i 2 hi rfl)) (aC (aN (mM (f.drew.cell i 3 hi rfl)) ?_)))))
 rw[A,hk]
 have J:w.drew.drew.ownsRow 0 BF 33 v 256 (s.ls.map (Value.int .i64)):=f.drew.drew.get j hj
 have T:=qgD (lo:=1) (hi:=15) (d:=rate) (by decide)
 refine uE J rfl (show q<256 by omega) fun rad hs=>gT 33 k rfl (by omega) ?_
 have M:w.drew.drew.cell? (rad.add k)=some (aB (rd s.ls ((q*33+k:Nat):Int))):=SltR.cell J hs (OL (by omega))
 refine⟨fun _=>True,fun w'=>w'.cell? (rad.add k)=some (aB (rd s.ls ((q*33+k:Nat):Int))),⟨trivial,M⟩,aC (aN (fun w' hw=>hw) (aC (aN (fun w' hw=>hw) (pL (by show 0≤GA 1 15 rate;omega) (aC ?_)))))⟩
 refine VA f.drew.drew j hj hs (by omega) (by omega) rfl rfl (fun w3 f3=>⟨trivial,rfl,?_⟩)
 have e2:(lrS s bit rate).ls=s.ls.set (q*33+k) (i64 (rd s.ls ((q*33+k:Nat):Int)+cV .i64 (i64 (r-rd s.ls ((q*33+k:Nat):Int))) (GA 1 15 rate))):=by
  unfold lrS;rw[if_pos C,A,hk,O,dH,dH]
 rw[e2,DR];exact f3
end
end
section
theorem qqZ(m n:Nat)(x:Value)(hm:0<m):(madeCells (Array.replicate m x) n).toList=List.replicate n x:=by
 refine List.eq_replicate_iff.2 ⟨by simp [madeCells],fun b hb=>?_⟩
 unfold madeCells at hb
 rw[Array.toList_map]at hb
 obtain⟨i,_,rfl⟩:=List.mem_map.1 hb
 have cR:i%(Array.replicate m x).size<(Array.replicate m x).size:=by rw[Array.size_replicate];exact Nat.mod_lt _ hm
 rw[getElem!_pos (Array.replicate m x) (i%(Array.replicate m x).size) cR,Array.getElem_replicate]
theorem qsa{N n:Nat}{a:Int}(h:n<N):(List.replicate n a++List.replicate (N-n) (0:Int)).set n a=List.replicate (n+1) a++List.replicate (N-(n+1)) 0:=by
 rw[DP _ _ (by rw[sF];exact cJ _),sF,pH,show N-n=(N-(n+1))+1 by omega,DQ,MD,List.replicate_succ',gY];rfl
theorem qfo{w:World}{sz n:Nat}{v:Value}{cs:List Value}(h:Sl w sz v n cs):v.cells= #[v]∧v.oneCell'=true:=by obtain⟨a,c,rfl,_⟩:=h;exact⟨rfl,rfl⟩
theorem qgR{P:Program}{t:TypeId}{ad:Addr}{B:World→Prop}{K:Array Value→Prop}(vs:List Value)(hc:∀w,B w→∀j u,vs[j]?=some u→w.cell? (ad.add j)=some u)(hk:K vs.toArray)(ht:qds P t vs.length=true):aI P t shA (aH ad) B K:=
 ⟨vs.toArray,fun w hB=>M3 (hc w hB) ht,hk⟩
section
variable {w0 w:World} {F:List It}
set_option maxRecDepth 20000 in
theorem qm9:Calls P ND #[aB 256] w (fun e w'=>∃ma v,e=aW (aH ma)∧∀{w0 F},Fr w0 w F→Fr w0 w' (aT ma (HF false 0 [0,0,0,0] 0 v)::lK ZZ 4 v 256 ((List.replicate 1024 (16384:Int)).map (Value.int .i64))::F)):=by
 refine Calls.mono (R:=fun e w'=>∃ma v,e=aW (aH ma)∧Fr w w' [aT ma (HF false 0 [0,0,0,0] 0 v),lK ZZ 4 v 256 ((List.replicate 1024 (16384:Int)).map (Value.int .i64))]) ?_ fun e w' ⟨ma,v,h1,h2⟩=>⟨ma,v,h1,fun f=>Fr.glue f h2⟩
 refine qhs ?_
 refine qbS (n:=256) 32 (.agg (Array.replicate 4 (aB 0))) (sz:=4) (Fr.start w) (by decide) (by unfold maxLen;decide) (fun v w1 A=>?_) (by kernel_rfl)
 have M:(madeCells (Value.agg (Array.replicate 4 (aB 0))).cells (256*4)).toList=((List.replicate 0 (16384:Int)++List.replicate (1024-0) 0).map (Value.int .i64)):=by
  rw[show(Value.agg (Array.replicate 4 (aB 0))).cells=Array.replicate 4 (aB 0)from rfl,qqZ 4 _ _ (by decide),AM,sG,ZH]
 rw[M]at A
 have C:=qfo (A.row 0 rfl)
 refine⟨C.1,mL A fun ma w2 u=>aC ?_⟩
 have u:Fr w w2 [aT ma (HF false 0 [0,0,0,0] 0 v),lK ZZ 4 v 256 ((List.replicate 0 (16384:Int)++List.replicate (1024-0) 0).map (Value.int .i64))]:=u
 refine dY u 0 7 rfl rfl (cK (u.row 1 rfl) ⟨fun t w'=>∃q:Nat,t=(q:Int)∧q≤256∧Fr w w' [aT ma (HF false 0 [0,0,0,0] 0 v),lK ZZ 4 v 256 ((List.replicate (q*4) (16384:Int)++List.replicate (1024-q*4) 0).map (Value.int .i64))],fun t _=>(256-t).toNat,⟨0,rfl,by decide,u⟩,?_⟩)
 rintro _ t w3 ⟨q,rfl,hq,f3⟩
 refine aG (fun cR=>?_) (fun O=>?_)
 ·have r:q<256:=by omega
  refine⟨fun t w'=>∃p:Nat,t=(p:Int)∧p≤4∧Fr w w' [aT ma (HF false 0 [0,0,0,0] 0 v),lK ZZ 4 v 256 ((List.replicate (q*4+p) (16384:Int)++List.replicate (1024-(q*4+p)) 0).map (Value.int .i64))],fun t _=>(4-t).toNat,⟨0,rfl,by decide,f3⟩,?_⟩
  rintro _ t w4 ⟨p,rfl,hp,f4⟩
  refine aG (fun J=>?_) (fun I=>?_)
  ·have j:p<4:=by omega
   refine aC (dY f4 0 7 rfl rfl (uE (f4.get 1 rfl) rfl r fun rad hs=>gT 4 p rfl j (VA f4 1 rfl hs r j rfl rfl (fun w5 f5=>?_))))
   refine⟨⟨p+1,by rw[aD (by omega) (by omega)];omega,by omega,?_⟩,by dsimp only;rw[aD (by omega) (by omega)];omega⟩
   have e:=qsa (N:=1024) (n:=q*4+p) (a:=16384) (by omega)
   have f5:Fr w w5 [aT ma (HF false 0 [0,0,0,0] 0 v),lK ZZ 4 v 256 (((List.replicate (q*4+p) (16384:Int)++List.replicate (1024-(q*4+p)) 0).map (Value.int .i64)).set (q*4+p) (aB 16384))]:=f5
   rw[←DR,e]at f5
   exact f5
  ·have:p=4:=by omega
   subst this
   refine⟨⟨q+1,by rw[aD (by omega) (by omega)];omega,by omega,?_⟩,by dsimp only;rw[aD (by omega) (by omega)];omega⟩
   rw[mJ];exact f4
 ·have:q=256:=by omega
  subst this
  refine⟨ma,v,rfl,?_⟩
  have e:List.replicate (256*4) (16384:Int)++List.replicate (1024-256*4) 0=List.replicate 1024 16384:=by rw[show 1024-256*4=0 from rfl,AM,iW]
  rw[e]at f3;exact f3
def fs33:List Int:=(List.range 33).map fun(k:Nat)=>i64 (16*sqI (i64 (128*i64 ((k:Int)-16))))
theorem F3:fs33.length=33:=by unfold fs33;rw[fE,List.length_range]
theorem qku{k:Nat}(h:k<33):(fs33.take k++List.replicate (33-k) (0:Int)).set k (i64 (16*sqI (i64 (128*i64 ((k:Int)-16)))))=fs33.take (k+1)++List.replicate (33-(k+1)) 0:=by
 have hl:(fs33.take k).length=k:=by rw[eJ,F3];omega
 have hk:k<fs33.length:=by rw[F3];exact h
 have j:fs33[k]?=some (i64 (16*sqI (i64 (128*i64 ((k:Int)-16))))):=by
  have:fs33=(List.range 33).map fun(k:Nat)=>i64 (16*sqI (i64 (128*i64 ((k:Int)-16)))):=rfl
  rw[this,jD,List.getElem?_range h];rfl
 have hg:fs33[k]=i64 (16*sqI (i64 (128*i64 ((k:Int)-16)))):=(List.getElem?_eq_some_iff.1 j).2
 rw[iV hk,hg,DP _ _ (by rw[hl];exact cJ _),hl,pH,show 33-k=(33-(k+1))+1 by omega,DQ,MD,gY];rfl
def sg0:SgS:=⟨false,0,0,(List.replicate 256 fs33).flatten⟩
theorem LF(j:Nat):((List.replicate j fs33).flatten).length=j*33:=by
 induction j with
 |zero=>rfl
 |succ j q=>rw[DQ,QN,bD,q,F3,mJ];omega
theorem qtE:qfl sg0:=⟨by unfold sg0;rw[LF],fun h=>by cases h⟩
set_option maxRecDepth 20000 in
theorem qk8:Calls P CC #[aB 256] w (fun e w'=>∃sa v,e=aW (aH sa)∧∀{w0 F},Fr w0 w F→Fr w0 w' (aT sa (sgC sg0 v)::lK BF 33 v 256 (sg0.ls.map (Value.int .i64))::F)):=by
 refine Calls.mono (R:=fun e w'=>∃sa v,e=aW (aH sa)∧Fr w w' [aT sa (sgC sg0 v),lK BF 33 v 256 (sg0.ls.map (Value.int .i64))]) ?_ fun e w' ⟨ma,v,h1,h2⟩=>⟨ma,v,h1,fun f=>Fr.glue f h2⟩
 refine qcw ?_
 refine qbS (n:=256) 264 (.agg (Array.replicate 33 (aB 0))) (sz:=33) (Fr.start w) (by decide) (by unfold maxLen;decide) (fun v w1 M=>?_) (by kernel_rfl)
 have T:(madeCells (Value.agg (Array.replicate 33 (aB 0))).cells (256*33)).toList=(((List.replicate 0 fs33).flatten++List.replicate ((256-0)*33) 0).map (Value.int .i64)):=by
  rw[show(Value.agg (Array.replicate 33 (aB 0))).cells=Array.replicate 33 (aB 0)from rfl,qqZ 33 _ _ (by decide),AM,List.flatten_nil,sG,ZH]
 rw[T]at M
 have O:=qfo (M.row 0 rfl)
 refine⟨O.1,mL M fun sa w2 U=>dX (z:=.agg (Array.replicate 33 (aB 0))) U (by kernel_rfl) fun A w3 f3=>?_⟩
 have e1:(Value.agg (Array.replicate 33 (aB 0))).cells.toList=((fs33.take 0++List.replicate (33-0) (0:Int)).map (Value.int .i64)):=by
  rw[MC,sG,ZH];exact Array.toList_replicate
 rw[e1]at f3
 have f3:Fr w w3 [aT A ((fs33.take 0++List.replicate (33-0) (0:Int)).map (Value.int .i64)),aT sa (sgC sg0 v),lK BF 33 v 256 (((List.replicate 0 fs33).flatten++List.replicate ((256-0)*33) 0).map (Value.int .i64))]:=f3
 refine⟨fun t w'=>∃k:Nat,t=(k:Int)∧k≤33∧Fr w w' [aT A ((fs33.take k++List.replicate (33-k) (0:Int)).map (Value.int .i64)),aT sa (sgC sg0 v),lK BF 33 v 256 (((List.replicate 0 fs33).flatten++List.replicate ((256-0)*33) 0).map (Value.int .i64))],fun t _=>(33-t).toNat,⟨0,rfl,by decide,f3⟩,?_⟩
 rintro _ t w4 ⟨k,rfl,hk,f4⟩
 refine aG (fun cR=>?_) (fun N=>?_)
 ·have q:k<33:=by omega
  refine bX GN (gT 33 k rfl q (dT f4 0 k rfl (fun w5 f5=>?_) (by simp [F3];omega)))
  refine⟨⟨k+1,by rw[aD (by omega) (by omega)];omega,by omega,?_⟩,by dsimp only;rw[aD (by omega) (by omega)];omega⟩
  rw[←qku q,DR];exact f5
 ·have:k=33:=by omega
  subst this
  rw[gI (by rw[F3];exact cJ _),pH,AM,iW]at f4
  refine aC (dY f4 1 0 rfl rfl (cK (f4.row 2 rfl) ⟨fun t w'=>∃j:Nat,t=(j:Int)∧j≤256∧Fr w w' [aT A (fs33.map (Value.int .i64)),aT sa (sgC sg0 v),lK BF 33 v 256 (((List.replicate j fs33).flatten++List.replicate ((256-j)*33) 0).map (Value.int .i64))],fun t _=>(256-t).toNat,⟨0,rfl,by decide,f4⟩,?_⟩))
  rintro _ t w6 ⟨j,rfl,hj,f6⟩
  refine aG (fun cR=>?_) (fun N=>?_)
  ·have q:j<256:=by omega
   have I:(fs33.map (Value.int .i64)).length=33:=by rw[fE,F3]
   have r:=f6.drew
   have hB:∀{w':World} {cs:List Value},Fr w w' [aT A (fs33.map (Value.int .i64)),aT sa (sgC sg0 v),lK BF 33 v 256 cs]→(w'.cell? (sa.add 0)=some v∧∀z u,(fs33.map (Value.int .i64))[z]?=some u→w'.cell? (A.add z)=some u):=fun hf=>⟨hf.cell 1 0 rfl rfl,fun z u hz=>hf.cell 0 z rfl hz⟩
   refine⟨fun w'=>w'.cell? (sa.add 0)=some v∧∀z u,(fs33.map (Value.int .i64))[z]?=some u→w'.cell? (A.add z)=some u,hB r,aC (dE (fun w' hw=>hw.1) (qgR (fs33.map (Value.int .i64)) (fun w' hw=>hw.2) ?_ (by rw[I];kernel_rfl)))⟩
   refine uE (r.get 2 rfl) rfl q fun rad hs=>qiH r 2 rfl hs q (by simp [F3]) (fun u hu=>by obtain⟨x,_,rfl⟩:=List.mem_map.1 hu;rfl) (fun V C=>⟨hB C,⟨j+1,by rw[aD (by omega) (by omega)];omega,by omega,?_⟩,by dsimp only;rw[aD (by omega) (by omega)];omega⟩)
   have J:=LF j
   have e:(((List.replicate j fs33).flatten++List.replicate ((256-j)*33) 0).map (Value.int .i64)).take (j*33)++(fs33.map (Value.int .i64))++(((List.replicate j fs33).flatten++List.replicate ((256-j)*33) 0).map (Value.int .i64)).drop (j*33+33)=((List.replicate (j+1) fs33).flatten++List.replicate ((256-(j+1))*33) 0).map (Value.int .i64):=by
    rw[←List.map_take,←List.map_drop,←gQ,←gQ]
    congr 1
    rw[List.take_left' J,←U2,List.drop_left' J,List.drop_replicate,List.replicate_succ',LZ,show(256-j)*33-33=(256-(j+1))*33 by omega]
    simp
   have C:Fr w V [aT A (fs33.map (Value.int .i64)),aT sa (sgC sg0 v),lK BF 33 v 256 ((((List.replicate j fs33).flatten++List.replicate ((256-j)*33) 0).map (Value.int .i64)).take (j*33)++(fs33.map (Value.int .i64))++(((List.replicate j fs33).flatten++List.replicate ((256-j)*33) 0).map (Value.int .i64)).drop (j*33+33))]:=C
   rw[e]at C;exact C
  ·have:j=256:=by omega
   subst this
   refine⟨sa,v,rfl,?_⟩
   have e:(List.replicate 256 fs33).flatten++List.replicate ((256-256)*33) 0=sg0.ls:=by rw[pH,qac,AM,iW];rfl
   rw[e]at f6
   exact f6.picks [1,2] (by decide)
end
end
section
structure MdS where
 level:Int
 part:Int
 last:Int
 older:Int
 g1:List Int
 g2:List Int
 g3:List Int
 mx:MxS
 sg:SgS
structure MdA where
 ma:Addr
 t1:Addr
 v1:Value
 t2:Addr
 v2:Value
 xa:Addr
 xv:Value
 sa:Addr
 sv:Value
 t3:Addr
 v3:Value
def cxB(m:MdS):Int:=i64 (qY .i64 m.last 8+m.part)
def cxC(m:MdS):Int:=xS .i64 (i64 (i64 (i64 (qY .i64 m.older 8+m.last)*40503)+i64 (m.part*7919))) 65535
def MG(a:MdA)(m:MdS):List Value:=[.pointer (some a.t1),.pointer (if 0<m.level then some a.t2 else none),.pointer (if 1<m.level then some a.t3 else none),.pointer (if 0<m.level then some a.xa else none),.pointer (if 0<m.level then some a.sa else none),aB m.level,aB m.part,aB m.last,aB m.older]
theorem qnc{a:MdA}{m:MdS}(h:0<m.level):(MG a m)[1]?=some (.pointer (some a.t2)):=by show some (Value.pointer (if 0<m.level then some a.t2 else none))=_;rw[if_pos h]
theorem qq0{a:MdA}{m:MdS}(h:1<m.level):(MG a m)[2]?=some (.pointer (some a.t3)):=by show some (Value.pointer (if 1<m.level then some a.t3 else none))=_;rw[if_pos h]
theorem qq1{a:MdA}{m:MdS}(h:0<m.level):(MG a m)[3]?=some (.pointer (some a.xa)):=by show some (Value.pointer (if 0<m.level then some a.xa else none))=_;rw[if_pos h]
theorem qq2{a:MdA}{m:MdS}(h:0<m.level):(MG a m)[4]?=some (.pointer (some a.sa)):=by show some (Value.pointer (if 0<m.level then some a.sa else none))=_;rw[if_pos h]
noncomputable def quh(a:MdA)(m:MdS):List It:=[aT a.t2 [a.v2],bI .u16 eU a.v2 m.g2,aT a.xa (HF m.mx.is m.mx.set m.mx.ins m.mx.told a.xv),lK ZZ 4 a.xv 256 (m.mx.ws.map (Value.int .i64)),aT a.sa (sgC m.sg a.sv),lK BF 33 a.sv 256 (m.sg.ls.map (Value.int .i64))]
noncomputable def qhc(a:MdA)(m:MdS):List It:=if 1<m.level then [aT a.t3 [a.v3],bI .u16 eU a.v3 m.g3]else []
noncomputable def oX(a:MdA)(m:MdS)(F:List It):List It:=aT a.ma (MG a m)::aT a.t1 [a.v1]::bI .u16 eU a.v1 m.g1::(if 0<m.level then quh a m++(qhc a m++F)else F)
theorem qtq{a:MdA}{m:MdS}{F:List It}(h:m.level=0):oX a m F=aT a.ma (MG a m)::aT a.t1 [a.v1]::bI .u16 eU a.v1 m.g1::F:=by unfold oX;rw[if_neg (by omega)]
theorem R5{a:MdA}{m:MdS}{F:List It}(h:0<m.level):oX a m F=aT a.ma (MG a m)::aT a.t1 [a.v1]::bI .u16 eU a.v1 m.g1::aT a.t2 [a.v2]::bI .u16 eU a.v2 m.g2::aT a.xa (HF m.mx.is m.mx.set m.mx.ins m.mx.told a.xv)::lK ZZ 4 a.xv 256 (m.mx.ws.map (Value.int .i64))::aT a.sa (sgC m.sg a.sv)::lK BF 33 a.sv 256 (m.sg.ls.map (Value.int .i64))::(qhc a m++F):=by unfold oX;rw[if_pos h];rfl
theorem VW{a:MdA}{m:MdS}(h:1<m.level):qhc a m=[aT a.t3 [a.v3],bI .u16 eU a.v3 m.g3]:=if_pos h
def okD(m:MdS):Prop:=(0≤m.level∧m.level≤2)∧m.g1.length=256∧(0<m.level→m.g2.length=65536∧qci m.mx∧qfl m.sg)∧(1<m.level→m.g3.length=65536)
def chX(m:MdS):List Int:=[stI (atG m.g1 m.part),stI (atG m.g2 (cxB m)),if 1<m.level then stI (atG m.g3 (cxC m))else 0,256]
def chT(m:MdS):Int:=BU m.mx m.part (chX m)
def rU(m:MdS):Int:=if m.level=0 then atG m.g1 m.part else i64 (Int.tdiv (i64 (chT m+i64 (3*rfV m.sg (chT m) m.part))) 4)
def ZN(m:MdS):MdS:=if m.level=0 then m else{m with mx:=MZ m.mx m.part (chX m),sg:=rfS m.sg (chT m) m.part}
theorem qka(m:MdS):(ZN m).level=m.level:=by unfold ZN;split<;>rfl
theorem OA{m:MdS}(h:okD m):okD (ZN m):=by
 unfold ZN
 split
 ·exact h
 ·exact⟨h.1,h.2.1,fun hl=>⟨(h.2.2.1 hl).1,qnh (h.2.2.1 hl).2.1 rfl,qql (h.2.2.1 hl).2.2⟩,h.2.2.2⟩
section
variable {w0 w:World} {F:List It} {a:MdA} {m:MdS}
theorem BR(f:Fr w0 w (oX a m F)):∀(z:Nat) (u:Value),(MG a m)[z]?=some u→w.cell? (a.ma.add z)=some u:=fun z u hz=>f.cell 0 z (by unfold oX;rfl) hz
theorem JB(f:Fr w0 w (oX a m F)):Calls P kK #[.pointer (some a.ma)] w (fun e w'=>e=bP #[aB m.part,aB (cxB m),aB (cxC m)]∧Ev w w'):=by
 have j:=BR f.drew 6 _ rfl
 have q:=BR f.drew 7 _ rfl
 have r:=BR f.drew 8 _ rfl
 exact S0 (aC (aN (mM j) (aC (aN (mM q) (aC (aN (mM j) (aC (aN (mM r) (aC (aN (mM q) (aC (aN (mM j) ⟨rfl,Ev.drew0 w⟩))))))))))))
theorem qo9{p1 p2:Int}{A:Addr}{R:Ending→World→Prop}(hl:0<m.level)(ok:okD m)(I:p1=stI (atG m.g1 m.part))(J:p2=stI (atG m.g2 (cxB m)))(f:Fr w0 w (aT A [aB p1,aB p2,aB 0,aB 256]::oX a m F))
  (hk:∀w',Fr w0 w' (oX a (ZN m) F)→R (aW (aB (rU m))) w'):
  ∃V:World→Prop,(aS (some a.ma) fun(aa:Addr)=>aF P aK bA (aH (aa.add 5)) w fun(t51:Int)=>aQ (decide (t51>1)) (aS (some a.ma) fun(ab:Addr)=>aF P cW jN (.pointer (some (Addr.add (ab.add 2) 0))) w fun(ac:Option Addr)=>aE P fP bA #[.pointer ac,aB (cxC m)] w fun(ae:Int) ap=>aE P fS bA #[aB ae] ap fun(af:Int) N=>aX P fC (aH A) (aB 2) fun(ag:Addr)=>aL P aK (aH ag) (aB af) N fun O=>V O) (V w))∧∀(_:bV) (j:World),V j→∃B1:World→Prop,B1 j.drew∧aS (some a.ma) fun(ah:Addr)=>aI P iN jN (aH (ah.add 3)) B1 fun(ai:Option Addr)=>aS (some a.ma) fun(aj:Addr)=>aI P aK bA (aH (aj.add 6)) B1 fun(ak:Int)=>cH P fC (aH A) none none none fun(t70:Value)=>aE P jW bA #[.pointer ai,aB ak,t70] j.drew fun(M:Int) q=>B1 q∧∃T:World→Prop,T q.drew∧aS (some a.ma) fun(al:Addr)=>aI P gP jN (aH (al.add 4)) T fun(t76:Option Addr)=>aS (some a.ma) fun(am:Addr)=>aI P aK bA (aH (am.add 6)) T fun(an:Int)=>aE P gM bA #[.pointer t76,aB M,aB an] q.drew fun(ao:Int) r=>T r∧R (aW (aB (i64 (Int.tdiv (i64 (M+(i64 (3*ao)))) 4)))) r:=by
 obtain⟨h2,hM,hS⟩:=ok.2.2.1 hl
 rw[R5 hl]at f
 refine⟨fun w'=>Fr w0 w' (aT A ((chX m).map (Value.int .i64))::oX a m F),?_,?_⟩
 ·refine aC (cI f 1 5 rfl rfl (aG (fun hg=>aC ?_) (fun hg=>?_)))
  ·have hg:1<m.level:=hg
   rw[Addr.add_zero']
   refine lI (v:=some a.t3) f 1 2 rfl (qq0 hg) ?_
   rw[VW hg]at f
   refine bQ (JP f 10 11 rfl rfl (by rw[ok.2.2.2 hg];decide)) fun w1 h1=>bX nI (gT 4 2 rfl (by decide) ?_)
   refine dT (f.ev h1) 0 2 rfl (fun w2 f2=>?_)
   rw[R5 hl,VW hg]
   have e:(chX m).map (Value.int .i64)=[aB p1,aB p2,aB (stI (atG m.g3 (cxC m))),aB 256]:=by unfold chX;rw[if_pos hg,I,J];rfl
   rw[e];exact f2
  ·have hg:¬1<m.level:=hg
   have e:(chX m).map (Value.int .i64)=[aB p1,aB p2,aB 0,aB 256]:=by unfold chX;rw[if_neg hg,I,J];rfl
   rw[e,R5 hl];exact f
 rintro _ w3 f3
 rw[R5 hl]at f3
 have X:inR .i64 (chX m):=fun x hx=>by
  have r1:=qcU (atG m.g1 m.part)
  have r2:=qcU (atG m.g2 (cxB m))
  have r3:=qcU (atG m.g3 (cxC m))
  have h1:IntKind.i64.min= -9223372036854775808:=by decide
  have h2:IntKind.i64.max=9223372036854775807:=by decide
  unfold chX at hx
  simp at hx
  rw[h1,h2]
  rcases hx with rfl|rfl|rfl|rfl
  ·omega
  ·omega
  ·split<;>omega
  ·omega
 have U:∀{w':World} {G:List It} {xs:List Value},Fr w0 w' (aT A xs::aT a.ma (MG a m)::G)→∀(z:Nat) (u:Value),(MG a m)[z]?=some u→w'.cell? (a.ma.add z)=some u:=fun hf z u hz=>hf.cell 1 z rfl hz
 refine⟨fun w'=>∀(z:Nat) (u:Value),(MG a m)[z]?=some u→w'.cell? (a.ma.add z)=some u,U f3.drew,aC (mS (v:=some a.xa) (fun w' hw=>hw 3 _ (qq1 hl)) (aC (aN (fun w' hw=>hw 6 _ rfl) (VO (n:=4) (sz:=1) ?_ (by kernel_rfl)))))⟩
 have Z:=qoQ (n:=m.part) (iv:=.slice (some A) 4 4) (ps:=chX m) f3.drew 6 7 (by decide) rfl rfl hM rfl (fun w' hf=>hf.arr 0 rfl X rfl)
 refine bQ (Q:=_) Z fun w4 f4=>⟨U f4,?_⟩
 have f4:Fr w0 w4 (aT A ((chX m).map (Value.int .i64))::aT a.ma (MG a m)::aT a.t1 [a.v1]::bI .u16 eU a.v1 m.g1::aT a.t2 [a.v2]::bI .u16 eU a.v2 m.g2::aT a.xa (HF (MZ m.mx m.part (chX m)).is (MZ m.mx m.part (chX m)).set (MZ m.mx m.part (chX m)).ins (MZ m.mx m.part (chX m)).told a.xv)::lK ZZ 4 a.xv 256 (m.mx.ws.map (Value.int .i64))::aT a.sa (sgC m.sg a.sv)::lK BF 33 a.sv 256 (m.sg.ls.map (Value.int .i64))::(qhc a m++F)):=f4
 refine⟨fun w'=>∀(z:Nat) (u:Value),(MG a m)[z]?=some u→w'.cell? (a.ma.add z)=some u,U f4.drew,aC (mS (v:=some a.sa) (fun w' hw=>hw 4 _ (qq2 hl)) (aC (aN (fun w' hw=>hw 6 _ rfl) ?_)))⟩
 refine bQ (qgc (ch:=BU m.mx m.part (chX m)) (n:=m.part) f4.drew 8 9 (by decide) rfl rfl hS) fun w5 f5=>⟨U f5,?_⟩
 have C:m.level≠0:=by omega
 have e1:rU m=i64 (Int.tdiv (i64 (BU m.mx m.part (chX m)+i64 (3*rfV m.sg (BU m.mx m.part (chX m)) m.part))) 4):=by unfold rU;rw[if_neg C];rfl
 have e2:ZN m={m with mx:=MZ m.mx m.part (chX m),sg:=rfS m.sg (chT m) m.part}:=by unfold ZN;rw[if_neg C]
 rw[←e1]
 refine hk w5 ?_
 have Y:0<(ZN m).level:=by rw[qka];exact hl
 rw[R5 Y,e2]
 exact f5.drop 0
set_option maxHeartbeats 1000000 in
theorem GM(f:Fr w0 w (oX a m F))(ok:okD m):Calls P jQ #[.pointer (some a.ma)] w (fun e w'=>e=aW (aB (rU m))∧Fr w0 w' (oX a (ZN m) F)):=by
 have T:=ok.2.1
 refine AT ⟨fun w'=>w'=w,fO (oP (aC ?_)),?_⟩
 ·rw[Addr.add_zero']
  exact fJ (v:=some a.t1) (BR f 0 _ rfl) (fO (iR rfl))
 rintro _ w1 V
 obtain rfl:w=w1:=V.symm
 refine aO (JB f) ?_
 rintro _ w2 ⟨rfl,h2⟩
 have M:=f.ev h2
 refine⟨_,_,_,rfl,aC ?_⟩
 rw[Addr.add_zero']
 refine fJ (v:=some a.t1) (BR M 0 _ rfl) (bQ (JP M 1 2 (by unfold oX;rfl) (by unfold oX;rfl) (by rw[T];decide)) fun w3 h3=>aC ?_)
 have f3:=M.ev h3
 refine bG (BR f3 5 _ rfl) (cN (fun h0=>?_) (fun U=>?_))
 ·have h0:m.level=0:=h0
  have e1:rU m=atG m.g1 m.part:=by unfold rU;rw[if_pos h0]
  have e2:ZN m=m:=by unfold ZN;rw[if_pos h0]
  rw[e1,e2];exact⟨rfl,f3⟩
 have hl:0<m.level:=by have:=ok.1;have:m.level≠0:=U;omega
 obtain⟨u,hM,hS⟩:=ok.2.2.1 hl
 have q:=f3.drew
 rw[R5 hl]at q
 have N:∀w',Fr w0 w' (oX a (ZN m) F)→(Ending.returned (aB (rU m))=aW (aB (rU m))∧Fr w0 w' (oX a (ZN m) F)):=fun w' hf=>⟨rfl,hf⟩
 have J:∀{w':World} {G:List It},Fr w0 w' (aT a.ma (MG a m)::G)→w'.cell? (a.ma.add 1)=some (.pointer (some a.t2)):=fun hf=>hf.cell 0 1 rfl (qnc hl)
 have j:∀{w':World} {G:List It} {xs:List Value} {x:Addr},Fr w0 w' (aT x xs::aT a.ma (MG a m)::G)→w'.cell? (a.ma.add 1)=some (.pointer (some a.t2)):=fun hf=>hf.cell 1 1 rfl (qnc hl)
 have C:=fun{w':World} {I:Addr} (hf:Fr w0 w' (aT I [aB (stI (atG m.g1 m.part)),aB (stI (atG m.g2 (cxB m))),aB 0,aB 256]::oX a m F))=>qo9 (R:=fun e w'=>e=aW (aB (rU m))∧Fr w0 w' (oX a (ZN m) F)) hl ok rfl rfl hf N
 rw[R5 hl]at C
 have z4:(P.info? fC).bind (·.zero)=some (.agg #[aB 0,aB 0,aB 0,aB 0]):=by kernel_rfl
 refine⟨fun w'=>w'.cell? (a.ma.add 1)=some (.pointer (some a.t2)),J q,aC ?_⟩
 rw[Addr.add_zero']
 refine mS (v:=some a.t2) (fun w' hw=>hw) ⟨bX nI ⟨J q,?_,?_⟩,?_⟩
 ·refine bQ (JP q 3 4 rfl rfl (by rw[u];decide)) fun w5 h5=>?_
  have f5:=q.ev h5
  refine⟨J f5,bX nI ⟨J f5,dX f5 z4 fun I X r=>⟨j r,cS r 0 rfl (fun Y f8=>⟨j f8,C f8⟩)⟩⟩,dX f5 z4 fun I X r=>⟨j r,bX nI ⟨j r,cS r 0 rfl (fun Y f8=>⟨j f8,C f8⟩)⟩⟩⟩
 ·refine dX q z4 fun I X r=>⟨j r,bQ (JP r 4 5 rfl rfl (by rw[u];decide)) fun Y O=>?_⟩
  have f8:=r.ev O
  exact⟨j f8,bX nI ⟨j f8,cS f8 0 rfl (fun Z A=>⟨j A,C A⟩)⟩⟩
 ·refine dX q z4 fun I X r=>⟨j r,bX nI ⟨j r,bQ (JP r 4 5 rfl rfl (by rw[u];decide)) fun Y O=>?_⟩⟩
  have f8:=r.ev O
  exact⟨j f8,bX nI ⟨j f8,cS f8 0 rfl (fun Z A=>⟨j A,C A⟩)⟩⟩
end
end
end Go.Proofs.YtabchipjjghhnaaGreatDoorV
