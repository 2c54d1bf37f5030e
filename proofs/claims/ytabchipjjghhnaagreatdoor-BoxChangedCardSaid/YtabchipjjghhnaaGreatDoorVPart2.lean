import Derived.Below
import Derived.Laws.OwnMore
import Derived.Laws.MakeOwn
import Derived.Laws.CopyOwn
import Derived.RangeFuncOwn
import Derived.Laws.BytesString
import Derived.Laws.Strings
import Derived.ProofKit
import Derived.OpenShut
import Derived.ShutString
import Derived.ChangeArms
import Derived.SizedLaws
import Derived.Test.YtabchipjjghhnaaGreatDoorVPart1
set_option linter.unusedVariables false
set_option linter.unusedSimpArgs false
namespace Go.Proofs.YtabchipjjghhnaaGreatDoorV
open Go Go.RowKit
theorem aD{n:Int}(h1: -9223372036854775808≤n)(h2:n≤9223372036854775807):i64 n=n:=by simp only[i64,IntKind.wrap,IntKind.signed,IntKind.bits];simp;omega
theorem nF(n:Int):u8 n=n%256:=by simp [u8,IntKind.wrap,IntKind.signed,IntKind.bits]
theorem LQ{n:Int}(h1:0≤n)(h2:n<256):u8 n=n:=by rw[nF];omega
theorem qc8(n:Int):u16 n=n%65536:=by simp [u16,IntKind.wrap,IntKind.signed,IntKind.bits]
theorem yP(n:Int):vX n=n%4294967296:=by simp [vX,IntKind.wrap,IntKind.signed,IntKind.bits]
theorem dW(n:Int):gD n=n%18446744073709551616:=by simp [gD,IntKind.wrap,IntKind.signed,IntKind.bits]
theorem qpB(n:Int):i64 n=(n+9223372036854775808)%18446744073709551616-9223372036854775808:=by simp only[i64,IntKind.wrap,IntKind.signed,IntKind.bits];simp;omega
theorem L2(n:Int):lT n=(n+2147483648)%4294967296-2147483648:=by simp only[lT,IntKind.wrap,IntKind.signed,IntKind.bits];simp;omega
theorem qiS(n:Int):i16 n=(n+32768)%65536-32768:=by simp only[i16,IntKind.wrap,IntKind.signed,IntKind.bits];simp;omega
def rd(xs:List Int)(i:Int):Int:=xs.getD i.toNat 0
theorem qcI{xs:List Int}{i:Int}(h0:0≤i)(h:i<xs.length):xs[i.toNat]?=some (rd xs i):=by
 have:i.toNat<xs.length:=by omega
 simp [rd,this]
theorem OG{xs:List Int}{i:Int}(h0:0≤i)(h:i<xs.length):rd xs i∈xs:=List.mem_of_getElem? (qcI h0 h)
theorem dK(xs:List Int)(i:Nat)(h:i<xs.length):rd xs i=xs[i]:=by simp [rd,h]
abbrev SS:=Nat→Nat→Prop
abbrev No:SS:=fun _ _=>False
structure Ch (S:SS) (w w':World):Prop where
 os:w'.os=w.os
 tape:w'.tape=w.tape
 output:w'.output=w.output
 size:w.heap.size≤w'.heap.size
 blk:∀k,k<w.heap.size→(∀i,¬S k i)→w'.heap[k]?=w.heap[k]?
 cel:∀k c e f,w.heap[k]?=some (.cells c e f)→∃c',w'.heap[k]?=some (.cells c' e f)∧c'.size=c.size∧∀i,¬S k i→c'[i]?=c[i]?
 oth:∀(k:Nat) (o:Obj),w.heap[k]?=some o→o.isCells=false→w'.heap[k]?=some o
abbrev Ev(w w':World):Prop:=Ch No w w'
theorem cR{w:World}{k:Nat}{o:Obj}(h:w.heap[k]?=some o):k<w.heap.size:=(Array.getElem?_eq_some_iff.1 h).1
theorem Ch.refl(S:SS)(w:World):Ch S w w:=⟨rfl,rfl,rfl,Nat.le_refl _,fun _ _ _=>rfl,fun _ c _ _ h=>⟨c,h,rfl,fun _ _=>rfl⟩,fun _ _ h _=>h⟩
theorem Ch.mono{S T:SS}{w w':World}(h:Ch S w w')(hs:∀k i,k<w.heap.size→S k i→T k i):Ch T w w':=
 ⟨h.os,h.tape,h.output,h.size,fun k hk hn=>h.blk k hk fun i hi=>hn i (hs k i hk hi),fun k c e f hc=>
  let⟨c',h1,h2,h3⟩:=h.cel k c e f hc;⟨c',h1,h2,fun i hi=>h3 i fun hh=>hi (hs k i (cR hc) hh)⟩,h.oth⟩
theorem Ch.trans{S T:SS}{a b c:World}(h:Ch S a b)(k:Ch T b c)(hs:∀n i,n<a.heap.size→T n i→S n i):Ch S a c:=
 ⟨k.os.trans h.os,k.tape.trans h.tape,k.output.trans h.output,Nat.le_trans h.size k.size,
  fun n hn hS=>(k.blk n (Nat.lt_of_lt_of_le hn h.size) fun i hi=>hS i (hs n i hn hi)).trans (h.blk n hn hS),
  fun n x e f hx=>
   let⟨y,h1,h2,h3⟩:=h.cel n x e f hx
   let⟨z,k1,k2,k3⟩:=k.cel n y e f h1
   ⟨z,k1,k2.trans h2,fun i hi=>(k3 i fun hh=>hi (hs n i (cR hx) hh)).trans (h3 i hi)⟩,fun n o hn j=>k.oth n o (h.oth n o hn j) j⟩
theorem qE{w:World}{k g:Nat}{o:Obj}{c:Array Value}{e:TypeId}{f:Nat×Nat}(hg:w.heap[g]?=some (.cells c e f))(hk:w.heap[k]?=some o)(j:o.isCells=false):k≠g:=by
 rintro rfl;rw[hg]at hk;injection hk with hk;subst hk;cases j
theorem Ch.others{S:SS}{w w':World}(h:Ch S w w'):KeepsOthers w w':=⟨h.size,h.oth⟩
theorem Ev.trans{a b c:World}(h:Ev a b)(k:Ev b c):Ev a c:=Ch.trans h k fun _ _ _ h=>h
theorem Ev.new{T:SS}{a b c:World}(h:Ev a b)(k:Ch T b c)(ht:∀n i,T n i→a.heap.size≤n):Ev a c:=
 Ch.trans h k fun n i hn j=>absurd (ht n i j) (by omega)
theorem Ch.drew{S:SS}{a b:World}(h:Ch S a b):Ch S a b.drew:=⟨h.os,h.tape,h.output,h.size,h.blk,h.cel,h.oth⟩
theorem Ev.drew{a b:World}(h:Ev a b):Ev a b.drew:=Ch.drew h
theorem Ev.drew0(w:World):Ev w w.drew:=(Ch.refl No w).drew
theorem Ch.below{w w':World}(h:Ev w w'):Below w.heap.size w w':=⟨h.os,h.tape,h.output,h.size,fun k hk=>h.blk k hk fun _ h=>h⟩
theorem Ev.of_below{w w':World}(h:Below w.heap.size w w'):Ev w w':=
 ⟨h.os,h.tape,h.output,h.size,fun k hk _=>h.block k hk,fun k c e f hc=>⟨c,by rw[h.block k (cR hc),hc],rfl,fun _ _=>rfl⟩,fun k o hk _=>by rw[h.block k (cR hk),hk]⟩
theorem Ev.alloc(w:World)(o:Obj):Ev w (w.alloc o):=Ev.of_below ((Below.refl _ w).alloc (Nat.le_refl _) o)
abbrev Bk(b:Nat):SS:=fun k _=>k=b
abbrev Rg(a:Addr)(n:Nat):SS:=fun k i=>k=a.block∧a.off≤i∧i<a.off+n
abbrev Ob(v:Value):SS:=fun k _=>v.ownBlock=some k
theorem Ch.cell{S:SS}{w w':World}(h:Ch S w w'){a:Addr}{u:Value}(hc:w.cell? a=some u)(hs:¬S a.block a.off):w'.cell? a=some u:=by
 unfold World.cell? at hc⊢
 split at hc
 ·rename_i c e f hb
  obtain⟨c',h1,_,h3⟩:=h.cel _ _ _ _ hb
  rw[h1]
  dsimp only
  split at hc
  ·cases hc
  ·rename_i j
   rw[if_neg j,h3 _ hs];exact hc
 ·cases hc
def Sl(w:World)(sz:Nat)(v:Value)(n:Nat)(cs:List Value):Prop:=
 ∃a c,v=.slice a n c∧n≤c∧cs.length=n*sz∧(∀ad,a=some ad→∀j u,cs[j]?=some u→w.cell? (ad.add j)=some u)∧(a=none→n=0)
def inR(k:IntKind)(xs:List Int):Prop:=∀x∈xs,k.min≤x∧x≤k.max
def Nm(k:IntKind)(w:World)(v:Value)(xs:List Int):Prop:=Sl w 1 v xs.length (xs.map (.int k))∧inR k xs
theorem inR.u8{xs:List Int}(h:inR .u8 xs){x:Int}(hx:x∈xs):0≤x∧x<256:=by
 have:=h x hx;simp [IntKind.min,IntKind.max,IntKind.signed,IntKind.bits]at this;omega
theorem jB{xs:List Int}(h:inR .u8 xs)(i:Int):0≤rd xs i∧rd xs i<256:=by
 by_cases hi:i.toNat<xs.length
 ·have:rd xs i∈xs:=by simp [rd,hi]
  exact h.u8 this
 ·simp [rd,List.getD_eq_getElem?_getD,List.getElem?_eq_none (Nat.le_of_not_lt hi)]
theorem Sl.ch{S:SS}{w w':World}{sz n:Nat}{v:Value}{cs:List Value}(h:Sl w sz v n cs)(hc:Ch S w w')(hs:∀g i,v.ownBlock=some g→¬S g i):Sl w' sz v n cs:=by
 obtain⟨a,c,rfl,h1,h2,h3,h4⟩:=h
 refine⟨a,c,rfl,h1,h2,fun ad ha j u hj=>hc.cell (h3 ad ha j u hj) ?_,h4⟩
 subst ha
 have:(ad.add j).block=ad.block:=by unfold Addr.add;split<;>rfl
 rw[this]
 exact hs _ _ rfl
theorem Sl.ev{w w':World}{sz n:Nat}{v:Value}{cs:List Value}(h:Sl w sz v n cs)(hc:Ev w w'):Sl w' sz v n cs:=h.ch hc fun _ _ _ h=>h
theorem Nm.ch{k:IntKind}{S:SS}{w w':World}{v:Value}{xs:List Int}(h:Nm k w v xs)(hc:Ch S w w')(hs:∀g i,v.ownBlock=some g→¬S g i):Nm k w' v xs:=⟨h.1.ch hc hs,h.2⟩
theorem Nm.ev{k:IntKind}{w w':World}{v:Value}{xs:List Int}(h:Nm k w v xs)(hc:Ev w w'):Nm k w' v xs:=⟨h.1.ev hc,h.2⟩
theorem Nm.drew{k:IntKind}{w:World}{v:Value}{xs:List Int}(h:Nm k w v xs):Nm k w.drew v xs:=h
theorem Nm.nil(k:IntKind)(w:World):Nm k w (.slice none 0 0) []:=⟨⟨none,0,rfl,Nat.le_refl _,rfl,(fun _ h=>by cases h),fun _=>rfl⟩,fun _ h=>by cases h⟩
theorem Nm.shape{k:IntKind}{w:World}{v:Value}{xs:List Int}(h:Nm k w v xs):∃a c,v=.slice a xs.length c∧xs.length≤c:=let⟨a,c,h1,h2,_⟩:=h.1;⟨a,c,h1,h2⟩
theorem Nm.one{k:IntKind}{w:World}{v:Value}{xs:List Int}(h:Nm k w v xs):v.cells= #[v]:=by obtain⟨a,c,rfl,_⟩:=h.shape;rfl
theorem Nm.old{k:IntKind}{w:World}{v:Value}{xs:List Int}(h:Nm k w v xs)(hp:xs≠[]){g:Nat}(hg:v.ownBlock=some g):g<w.heap.size:=by
 obtain⟨a,c,rfl,h1,h2,h3,h4⟩:=h.1
 cases a with
 |none=>cases hg
 |some ad=>
  simp only[Value.ownBlock,Option.some.injEq]at hg
  subst hg
  obtain⟨x,r,rfl⟩:=List.exists_cons_of_ne_nil hp
  have:=World.block_lt_of_cell? w _ (h3 ad rfl 0 (.int k x) rfl)
  rwa [Addr.add_zero']at this
def ON(k:IntKind)(e:TypeId)(w:World)(B:Nat)(v:Value)(xs:List Int):Prop:=w.ownsRow B e 1 v xs.length (xs.map (.int k))∧inR k xs
theorem ON.nil(k:IntKind)(e:TypeId)(w:World)(B:Nat):ON k e w B (.slice none 0 0) []:=⟨World.ownsRow_nil w B e 1,fun _ h=>by cases h⟩
theorem ON.nm{k:IntKind}{e:TypeId}{w:World}{B:Nat}{v:Value}{xs:List Int}(h:ON k e w B v xs):Nm k w v xs:=by
 refine⟨?_,h.2⟩
 obtain⟨h1,h2⟩:=h.1
 rcases h2 with⟨rfl,h0⟩|⟨g,cap,q,rfl,hb,hg,hn,hm,hs,ht⟩
 ·exact⟨none,0,by rw[h0],by omega,h1,(fun _ h=>by cases h),fun _=>h0⟩
 ·refine⟨some ⟨g,0,none⟩,cap,rfl,hn,h1,fun ad ha j u hj=>?_,fun h=>by cases h⟩
  injection ha with ha;subst ha
  exact World.ownsRow.cells h.1 (g:=g) rfl j u hj
theorem ON.ch{k:IntKind}{e:TypeId}{S:SS}{w w':World}{B:Nat}{v:Value}{xs:List Int}(h:ON k e w B v xs)(hc:Ch S w w')(hs:∀g i,v.ownBlock=some g→¬S g i):ON k e w' B v xs:=by
 refine⟨⟨h.1.1,?_⟩,h.2⟩
 rcases h.1.2 with hn|⟨g,cap,j,rfl,hb,hg,r⟩
 ·exact .inl hn
 ·exact .inr ⟨g,cap,j,rfl,hb,by rw[hc.blk g (cR hg) (fun i=>hs g i rfl)];exact hg,r⟩
theorem ON.ev{k:IntKind}{e:TypeId}{w w':World}{B:Nat}{v:Value}{xs:List Int}(h:ON k e w B v xs)(hc:Ev w w'):ON k e w' B v xs:=h.ch hc fun _ _ _ h=>h
theorem ON.drew{k:IntKind}{e:TypeId}{w:World}{B:Nat}{v:Value}{xs:List Int}(h:ON k e w B v xs):ON k e w.drew B v xs:=h
theorem ON.base{k:IntKind}{e:TypeId}{w:World}{B:Nat}{v:Value}{xs:List Int}(h:ON k e w B v xs){g:Nat}(hg:v.ownBlock=some g):B≤g∧g<w.heap.size:=h.1.lt g hg
theorem ON.low{k:IntKind}{e:TypeId}{w:World}{B u:Nat}{v:Value}{xs:List Int}(h:ON k e w B v xs)(hb:u≤B):ON k e w u v xs:=by
 refine⟨⟨h.1.1,?_⟩,h.2⟩
 rcases h.1.2 with hn|⟨g,cap,j,hv,q,r⟩
 ·exact .inl hn
 ·exact .inr ⟨g,cap,j,hv,Nat.le_trans hb q,r⟩
theorem ON.one{k:IntKind}{e:TypeId}{w:World}{B:Nat}{v:Value}{xs:List Int}(h:ON k e w B v xs):v.cells= #[v]:=h.nm.one
def St(w:World)(ad:Addr)(cs:List Value):Prop:=ad.spot=none∧∃c e,w.heap[ad.block]?=some (.cells c e (0,0))∧∀j u,cs[j]?=some u→c[ad.off+j]?=some u
theorem St.ch{S:SS}{w w':World}{ad:Addr}{cs:List Value}(h:St w ad cs)(hc:Ch S w w')(hs:∀j,j<cs.length→¬S ad.block (ad.off+j)):St w' ad cs:=by
 obtain⟨h0,c,e,h1,h2⟩:=h
 obtain⟨c',k1,_,k3⟩:=hc.cel _ _ _ _ h1
 refine⟨h0,c',e,k1,fun j u hj=>?_⟩
 rw[k3 _ (hs j (List.getElem?_eq_some_iff.1 hj).1)];exact h2 j u hj
theorem St.ev{w w':World}{ad:Addr}{cs:List Value}(h:St w ad cs)(hc:Ev w w'):St w' ad cs:=h.ch hc fun _ _ h=>h
theorem St.drew{w:World}{ad:Addr}{cs:List Value}(h:St w ad cs):St w.drew ad cs:=h
theorem St.lt{w:World}{ad:Addr}{cs:List Value}(h:St w ad cs):ad.block<w.heap.size:=let⟨_,_,_,h1,_⟩:=h;cR h1
theorem Addr.add_none{ad:Addr}(h:ad.spot=none)(n:Nat):ad.add n=⟨ad.block,ad.off+n,none⟩:=by obtain⟨b,o,s⟩:=ad;cases h;exact Addr.add_lit b o n
theorem St.cell{w:World}{ad:Addr}{cs:List Value}(h:St w ad cs){j:Nat}{u:Value}(hj:cs[j]?=some u):w.cell? (ad.add j)=some u:=by
 obtain⟨h0,c,e,h1,h2⟩:=h
 rw[Addr.add_none h0]
 simp [World.cell?,h1,h2 j u hj]
theorem St.sub{w:World}{ad:Addr}{cs:List Value}(h:St w ad cs)(k n:Nat):St w (ad.add k) ((cs.drop k).take n):=by
 obtain⟨h0,c,e,h1,h2⟩:=h
 rw[Addr.add_none h0]
 refine⟨rfl,c,e,h1,fun j u hj=>?_⟩
 rw[List.getElem?_take]at hj
 split at hj
 ·rw[List.getElem?_drop]at hj
  have:=h2 _ u hj
  rwa [←Nat.add_assoc]at this
 ·cases hj
theorem St.put{S:SS}{w w':World}{ad:Addr}{cs ds:List Value}{k:Nat}(h:St w ad cs)(hc:Ch S w w')(hd:St w' (ad.add k) ds)(hs:∀j,j<cs.length→(j<k∨k+ds.length≤j)→¬S ad.block (ad.off+j))(hl:k+ds.length≤cs.length):
  St w' ad (cs.take k++ds++cs.drop (k+ds.length)):=by
 obtain⟨h0,c,e,h1,h2⟩:=h
 obtain⟨c',k1,_,k3⟩:=hc.cel _ _ _ _ h1
 obtain⟨_,A,e2,d1,d2⟩:=hd
 rw[Addr.add_none h0]at d1 d2
 dsimp only at d1 d2
 rw[k1]at d1
 injection d1 with d1;injection d1 with d1 _ _;subst d1
 refine⟨h0,c',e,k1,fun j u hj=>?_⟩
 rw[List.append_assoc,List.getElem?_append]at hj
 simp only[List.length_take]at hj
 split at hj
 ·rename_i cR
  rw[List.getElem?_take]at hj
  split at hj
  ·rw[k3 _ (hs j (by omega) (.inl (by omega)))];exact h2 j u hj
  ·cases hj
 ·rename_i r
  rw[List.getElem?_append]at hj
  split at hj
  ·have:=d2 _ u hj
   rwa [show ad.off+k+(j-min k cs.length)=ad.off+j by omega]at this
  ·rw[List.getElem?_drop]at hj
   have q:cs[j]?=some u:=by rw[←hj];congr 1;omega
   have cR:=(List.getElem?_eq_some_iff.1 q).1
   rw[k3 _ (hs j cR (.inr (by omega)))];exact h2 j u q
section
def qlb(P:Program)(t e:TypeId):Bool:=match P.underlying t with
 |some (.slice j)=>Nat.beq j e
 |_=>false
def flat(P:Program)(t:TypeId):Bool:=match P.underlying t with
 |some (.struct _)|some (.array _ _)=>false
 |some _=>true
 |none=>false
def BM(P:Program)(t:TypeId):Bool:=match P.info? t with
 |some i=>Nat.beq i.size 1
 |none=>false
def zH(P:Program)(t:TypeId)(k:IntKind):Bool:=match P.underlying t with
 |some (.slice e)=>match P.info? e with
  |some i=>Nat.beq i.size 1&&Nat.ble i.bytes 8&&Nat.ble 1 i.bytes&&(match i.zero with|some (.int j n)=>qkE k j&&decide (n=0)|_=>false)
  |none=>false
 |_=>false
def dD(P:Program)(t:TypeId):TypeId:=match P.underlying t with
 |some (.slice e)=>e
 |_=>0
theorem vQ{P:Program}{t:TypeId}{k:IntKind}(h:zH P t k=true):P.underlying t=some (.slice (dD P t))∧∃i,P.info? (dD P t)=some i∧i.size=1∧i.bytes≤8∧1≤i.bytes∧i.zero=some (.int k 0):=by
 unfold zH at h
 split at h
 ·rename_i e he
  have j:dD P t=e:=by unfold dD;rw[he]
  rw[j]
  split at h
  ·rename_i i hi
   simp only[Bool.and_eq_true]at h
   obtain⟨⟨⟨h1,h2⟩,h3⟩,h4⟩:=h
   refine⟨he,i,hi,Nat.eq_of_beq_eq_true h1,Nat.le_of_ble_eq_true h2,Nat.le_of_ble_eq_true h3,?_⟩
   split at h4
   ·rename_i q n hz
    simp only[Bool.and_eq_true,decide_eq_true_eq]at h4
    rw[hz,JX h4.1,h4.2]
   ·cases h4
  ·cases h
 ·cases h
section
variable {P:Program} {w:World}
theorem V8{b:Bool}{A B:Prop}(ha:b=true→A)(hb:b=false→B):aQ b A B:=by cases b;exact hb rfl;exact ha rfl
theorem aG{p:Prop}[Decidable p]{A B:Prop}(ha:p→A)(hb:¬p→B):aQ (decide p) A B:=V8 (fun h=>ha (of_decide_eq_true h)) (fun h=>hb (of_decide_eq_false h))
theorem cC{p:Prop}[Decidable p]{A B:Prop}(ha:¬p→A)(hb:p→B):aQ (!decide p) A B:=V8 (fun h=>ha (by simpa using h)) (fun h=>hb (by simpa using h))
theorem cN{a b:Int}{A B:Prop}(ha:a=b→A)(hb:a≠b→B):aQ (a==b) A B:=V8 (fun h=>ha (by simpa using h)) (fun h=>hb (by simpa using h))
theorem cA{a b:Int}{A B:Prop}(ha:a≠b→A)(hb:a=b→B):aQ (a !=b) A B:=V8 (fun h=>ha (by simpa using h)) (fun h=>hb (by simpa using h))
theorem iC{a b:Int}{A B:Prop}(ha:a=b→A)(hb:a≠b→B):aQ (!(a !=b)) A B:=V8 (fun h=>ha (by simpa using h)) (fun h=>hb (by simpa using h))
theorem jP{a b:Int}{A B:Prop}(ha:a≠b→A)(hb:a=b→B):aQ (!(a==b)) A B:=V8 (fun h=>ha (by simpa using h)) (fun h=>hb (by simpa using h))
theorem qS{A B:Prop}(h:A):aQ true A B:=h
theorem iR{A B:Prop}(h:B):aQ false A B:=h
theorem VK{A B:Prop}(h:A):aQ (!(!true)) A B:=h
theorem qiL{A B:Prop}(h:B):aQ (!(!false)) A B:=h
theorem V7{A B:Prop}(h:B):aQ (!true) A B:=h
theorem oP{A B:Prop}(h:A):aQ (!false) A B:=h
theorem aO{f:FuncId}{j:Sh}{args:Array Value}{K:TF j.cks (World→Prop)}{R:Ending→World→Prop}(h:Calls P f args w R)(hk:∀e w',R e w'→qe7 j K e w'):aE P f j args w K:=h.mono hk
theorem lQ{f:FuncId}{q:Value}{first cap:Array Value}{j:Sh}{args:Array Value}{K:TF j.cks (World→Prop)}{R:Ending→World→Prop}(hv:q=.func (.func f) first cap)(hok:zP P f=true)(h:Calls P f (first++args++cap) w R)(hk:∀e w',R e w'→qe7 j K e w'):
  iB P q j args w K:=⟨f,first,cap,hv,hok,h.mono hk⟩
theorem V9{t:TypeId}{a:Option Addr}{n c:Nat}{K:Nat→Prop}(hk:K n)(ht:qlb P t (dD P t)=true:=by kernel_rfl):bC P t (.slice a n c) K:=by
 have hu:P.underlying t=some (.slice (dD P t)):=by unfold qlb at ht;split at ht;rename_i e he;rw[he,Nat.eq_of_beq_eq_true ht];cases ht
 exact⟨n,fun w=>by simp [Builtin.len_,run_underlying hu,goInt],hk⟩
theorem aP{t:TypeId}{k:IntKind}{v:Value}{xs:List Int}{K:Nat→Prop}(h:Nm k w v xs)(hk:K xs.length)(ht:qlb P t (dD P t)=true:=by kernel_rfl):bC P t v K:=by
 obtain⟨a,c,rfl,_⟩:=h.shape;exact V9 hk ht
theorem qps{t:TypeId}{a:Option Addr}{n c:Nat}{K:Nat→Prop}(hk:K c)(ht:qlb P t (dD P t)=true:=by kernel_rfl):qrM P t (.slice a n c) K:=by
 have hu:P.underlying t=some (.slice (dD P t)):=by unfold qlb at ht;split at ht;rename_i e he;rw[he,Nat.eq_of_beq_eq_true ht];cases ht
 exact⟨c,fun w=>by simp [Builtin.cap_,run_underlying hu,goInt],hk⟩
theorem dL{t:TypeId}{k q:IntKind}{v:Value}{xs:List Int}{i:Int}{K:Addr→Prop}(h:Nm k w v xs)(h0:0≤i)(h1:i<xs.length)
  (hk:∀ad,w.cell? ad=some (.int k (rd xs i))→v.ownBlock=some ad.block→K ad) (ht:zH P t k=true:=by kernel_rfl):aX P t v (.int q i) K:=by
 obtain⟨hu,r,hi,j,_⟩:=vQ ht
 obtain⟨a,c,rfl,_,_,h3,h4⟩:=h.1
 cases a with
 |none=>have:=h4 rfl;omega
 |some ad=>
  refine⟨ad.add i.toNat,fun w=>?_,hk _ ?_ ?_⟩
  ·simp only[Instr.indexAt,asIntOf,Sem.run_bind,Sem.run_pure,Result.andThen_ok,run_underlying hu]
   rw[if_pos ⟨h0,h1⟩]
   simp [sizeOf,typeInfo,hi,j]
  ·exact h3 ad rfl i.toNat _ (by rw[List.getElem?_map,qcI h0 h1];rfl)
  ·show some ad.block=some (ad.add i.toNat).block
   unfold Addr.add;split<;>rfl
theorem oA{t:TypeId}{ad:Addr}{u:Value}(hc:w.cell? ad=some u)(ht:flat P t=true):(Instr.loadAt t (.pointer (some ad))).run P w=.ok u w:=by
 have hu:∃d,P.underlying t=some d∧(match d with|.struct _|.array _ _=>false|_=>true)=true:=by
  unfold flat at ht
  split at ht<;>first|cases ht|skip
  rename_i d h1 h2 h3
  refine⟨d,h3,?_⟩
  cases d<;>first|rfl|simp_all
 obtain⟨d,hu,hd⟩:=hu
 have:(isAgg t).run P w=.ok false w:=by
  simp only[isAgg,Sem.run_bind,run_underlying hu,Result.andThen_ok]
  cases d<;>first|rfl|simp_all
 simp only[Instr.loadAt,Instr.sureAddr,loadVar,Sem.run_bind,Sem.run_pure,Result.andThen_ok,this]
 simp [hc]
theorem bG{t:TypeId}{k:IntKind}{n:Int}{ad:Addr}{K:Int→Prop}(hc:w.cell? ad=some (.int k n))(hk:K n)(ht:flat P t=true:=by kernel_rfl):aF P t (dQ k) (.pointer (some ad)) w K:=⟨n,oA hc ht,hk⟩
theorem dV{t:TypeId}{v:Value}{ad:Addr}{K:Value→Prop}(hc:w.cell? ad=some v)(hk:K v)(ht:flat P t=true:=by kernel_rfl):aF P t dM (.pointer (some ad)) w K:=⟨v,oA hc ht,hk⟩
theorem qiM{t:TypeId}{v:Bool}{ad:Addr}{K:Bool→Prop}(hc:w.cell? ad=some (.bool v))(hk:K v)(ht:flat P t=true:=by kernel_rfl):aF P t kG (.pointer (some ad)) w K:=⟨v,oA hc ht,hk⟩
theorem yF{t:TypeId}{v:ByteArray}{ad:Addr}{K:ByteArray→Prop}(hc:w.cell? ad=some (.string v))(hk:K v)(ht:flat P t=true:=by kernel_rfl):aF P t P9 (.pointer (some ad)) w K:=⟨v,oA hc ht,hk⟩
theorem fJ{t:TypeId}{v:Option Addr}{ad:Addr}{K:Option Addr→Prop}(hc:w.cell? ad=some (.pointer v))(hk:K v)(ht:flat P t=true:=by kernel_rfl):aF P t jN (.pointer (some ad)) w K:=⟨v,oA hc ht,hk⟩
theorem aN{t:TypeId}{k:IntKind}{n:Int}{ad:Addr}{B:World→Prop}{K:Int→Prop}(hc:∀w,B w→w.cell? ad=some (.int k n))(hk:K n)(ht:flat P t=true:=by kernel_rfl):aI P t (dQ k) (.pointer (some ad)) B K:=⟨n,fun w hB=>oA (hc w hB) ht,hk⟩
theorem dE{t:TypeId}{v:Value}{ad:Addr}{B:World→Prop}{K:Value→Prop}(hc:∀w,B w→w.cell? ad=some v)(hk:K v)(ht:flat P t=true:=by kernel_rfl):aI P t dM (.pointer (some ad)) B K:=⟨v,fun w hB=>oA (hc w hB) ht,hk⟩
theorem kB{t:TypeId}{v:ByteArray}{ad:Addr}{B:World→Prop}{K:ByteArray→Prop}(hc:∀w,B w→w.cell? ad=some (.string v))(hk:K v)(ht:flat P t=true:=by kernel_rfl):aI P t P9 (.pointer (some ad)) B K:=⟨v,fun w hB=>oA (hc w hB) ht,hk⟩
theorem mS{t:TypeId}{v:Option Addr}{ad:Addr}{B:World→Prop}{K:Option Addr→Prop}(hc:∀w,B w→w.cell? ad=some (.pointer v))(hk:K v)(ht:flat P t=true:=by kernel_rfl):aI P t jN (.pointer (some ad)) B K:=⟨v,fun w hB=>oA (hc w hB) ht,hk⟩
theorem mM{w:World}{ad:Addr}{u:Value}(hc:w.cell? ad=some u):∀w',w'=w.drew→w'.cell? ad=some u:=fun w' h=>by subst h;exact hc
theorem aC{ad:Addr}{K:Addr→Prop}(hk:K ad):aS (some ad) K:=⟨ad,rfl,hk⟩
theorem DC{t e:TypeId}{p:Option Addr}(hu:P.underlying t=some (.pointer e)):(Op.equal t (.pointer p) (.pointer none)).run P w=.ok p.isNone w:=by
 have hm:Op.maxDepth=9999+1:=rfl
 unfold Op.equal
 rw[hm]
 generalize 9999=d
 unfold Op.equalIn
 simp only[Sem.run_bind,run_underlying hu,Result.andThen_ok]
 cases p<;>rfl
theorem qer{t:TypeId}(ht:(match P.underlying t with|some (.pointer _)=>true|_=>false)=true):∃e,P.underlying t=some (.pointer e):=by
 split at ht
 ·rename_i e he;exact⟨e,he⟩
 ·cases ht
theorem fO{t:TypeId}{p:Option Addr}{K:Bool→Prop}(hk:K p.isNone)(ht:(match P.underlying t with|some (.pointer _)=>true|_=>false)=true:=by kernel_rfl):AX P .eql t (.pointer p) (.pointer none) K:=by
 obtain⟨e,hu⟩:=qer ht
 refine⟨p.isNone,fun j q w=>⟨by cases p<;>rfl,?_⟩,hk⟩
 have hb:binOp .eql t (.pointer p) (.pointer none)=(do pure (.bool (←Op.equal t (.pointer p) (.pointer none)))):=by cases p<;>rfl
 rw[hb];simp only[Sem.run_bind,DC hu,Result.andThen_ok,Sem.run_pure]
theorem qmG{t:TypeId}{p:Option Addr}{K:Bool→Prop}(hk:K p.isSome)(ht:(match P.underlying t with|some (.pointer _)=>true|_=>false)=true:=by kernel_rfl):AX P .neq t (.pointer p) (.pointer none) K:=by
 obtain⟨e,hu⟩:=qer ht
 refine⟨p.isSome,fun j q w=>⟨by cases p<;>rfl,?_⟩,hk⟩
 have hb:binOp .neq t (.pointer p) (.pointer none)=(do pure (.bool (!(←Op.equal t (.pointer p) (.pointer none))))):=by cases p<;>rfl
 rw[hb];simp only[Sem.run_bind,DC hu,Result.andThen_ok,Sem.run_pure]
 cases p<;>rfl
theorem St.alloc(w:World)(c:Array Value)(e:TypeId):St (w.alloc (.cells c e)) ⟨w.heap.size,0,none⟩ c.toList:=
 ⟨rfl,c,e,heap_alloc_new w _,fun j u hj=>by simpa using hj⟩
theorem V6{t:TypeId}{v:Value}{K:Addr→World→Prop}(hk:∀ad w',Ev w w'→ad=⟨w.heap.size,0,none⟩→w'.heap.size=w.heap.size+1→St w' ad v.cells.toList→K ad w'):kA P t v w K:=
 ⟨⟨w.heap.size,0,none⟩,w.alloc (.cells v.cells t),by simp [Instr.box,newVar,newRow],hk _ _ (Ev.alloc w _) rfl (by simp) (St.alloc w _ t)⟩
theorem DY{t:TypeId}{z:Value}{K:Addr→World→Prop}(hz:(P.info? t).bind (·.zero)=some z)(hk:∀ad w',Ev w w'→ad=⟨w.heap.size,0,none⟩→w'.heap.size=w.heap.size+1→St w' ad z.cells.toList→K ad w'):cD P t w K:=by
 obtain⟨i,hi,hz⟩:=Option.bind_eq_some_iff.1 hz
 exact⟨⟨w.heap.size,0,none⟩,w.alloc (.cells z.cells t),by simp [Instr.alloc,zeroValue,typeInfo,hi,hz,newVar,newRow],hk _ _ (Ev.alloc w _) rfl (by simp) (St.alloc w _ t)⟩
theorem CZ(w:World)(e:TypeId)(cs:Array Value)(n c:Nat)(hn:n≤c)(hc:c≤maxLen)(hs:cs.size=c){xs:List Value}(hx:cs.toList.take n=xs)(hl:xs.length=n):
  (w.alloc (.cells cs e)).ownsRow w.heap.size e 1 (.slice (some ⟨w.heap.size,0,none⟩) n c) n xs:=
 ⟨by omega,.inr ⟨w.heap.size,c,cs,rfl,Nat.le_refl _,heap_alloc_new w _,hn,hc,by omega,by rw[Nat.mul_one];exact hx⟩⟩
theorem qb9(k:IntKind)(n:Nat):inR k (List.replicate n 0):=fun x hx=>by rw[List.eq_of_mem_replicate hx];cases k<;>decide
theorem SY{t:TypeId}{k:IntKind}{n:Nat}{K:Value→World→Prop}(hn:n≤140737488355328)(hb:n*8≤281474976710656)
  (hk:∀v w',Ev w w'→ON k (dD P t) w' w.heap.size v (List.replicate n 0)→K v w') (ht:zH P t k=true:=by kernel_rfl):mT P t (.int .i64 (n:Int)) (.int .i64 (n:Int)) w K:=by
 obtain⟨hu,i,hi,A,u,C,hz⟩:=vQ ht
 have I:i.bytes*(n:Int)≤2^48:=by
  have:(i.bytes*n:Nat)≤n*8:=by rw[Nat.mul_comm];exact Nat.mul_le_mul_left n u
  have h2:((i.bytes*n:Nat):Int)≤281474976710656:=by omega
  rw[Int.natCast_mul]at h2;simpa using h2
 have hw:IntKind.wrap .i64 (n:Int)=n:=by have:=aD (n:=(n:Int)) (by omega) (by omega);simpa [i64]using this
 have q:(Instr.makeSlice t (.int .i64 (n:Int)) (.int .i64 (n:Int))).run P w=.ok (.slice (some ⟨w.heap.size,0,none⟩) n n) (w.alloc (.cells (Array.replicate n (.int k 0)) (dD P t))):=by
  simp only[Instr.makeSlice,Sem.run_bind,run_underlying hu,Result.andThen_ok,asInt,asIntOf,Sem.run_pure,typeInfo,run_program,hi,hw]
  have h1:¬((n:Int)<0):=by omega
  have h2:¬((i.bytes:Int)*(n:Int)>2^48):=by omega
  simp only[h1,h2,decide_false,Bool.or_self,Bool.false_or,gt_iff_lt,Int.lt_irrefl,if_false,Bool.false_eq_true]
  have r:(askRoom (Int.toNat (n:Int)*i.bytes)).run P w=.ok () w:=by unfold askRoom;split<;>rfl
  simp only[r,Result.andThen_ok,sizeOf,typeInfo,Sem.run_bind,run_program,hi,Sem.run_pure,A,Int.toNat_natCast,Nat.mul_one,zeroValue,hz]
  by_cases h0:n=0
  ·subst h0;have he:∀f:Nat→Value,Array.map f (Array.range 0)= #[]:=fun f=>Array.eq_empty_of_size_eq_zero (by simp)
   simp [newRow,he]
  ·simp only[h0,if_false,Sem.run_bind,run_program,Result.andThen_ok,hi,hz,Sem.run_pure,newRow]
   simp [Value.cells]
   congr 2
   apply Array.ext
   ·simp
   ·intro j h1 h2;simp [Nat.mod_one]
 refine⟨_,_,q,hk _ _ (Ev.alloc w _) ⟨?_,qb9 k n⟩⟩
 have:=CZ w (dD P t) (Array.replicate n (.int k 0)) n n (Nat.le_refl _) (by unfold maxLen;omega) (by simp) (xs:=List.replicate n (.int k 0)) (by simp) (by simp)
 simpa using this
theorem YG(w:World)(a:Addr)(u:Value):Ch (fun k i=>k=a.block∧i=a.off) w (w.setCell a u):=by
 refine⟨rfl,rfl,rfl,by simp,fun k hk hn=>?_,fun k c e f hc=>?_,(KeepsOthers.setCell w a u).same⟩
 ·exact Below.heap_setCell w a u k fun h=>hn a.off ⟨h,rfl⟩
 ·by_cases hk:k=a.block
  ·subst hk
   refine⟨if a.spot.isSome then c else c.setIfInBounds a.off u,?_,?_,fun i hi=>?_⟩
   ·simp only[World.setCell,Array.getElem?_modify,if_true,hc,Option.map_some]
   ·split<;>simp
   ·have j:a.off≠i:=fun e=>hi ⟨rfl,e.symm⟩
    split
    ·rfl
    ·rw[Array.getElem?_setIfInBounds_ne j]
  ·exact⟨c,by rw[Below.heap_setCell w a u k hk];exact hc,rfl,fun _ _=>rfl⟩
theorem PX{t:TypeId}{ad:Addr}{u x:Value}(hc:w.cell? ad=some x)(hf:w.frozen? ad=false)(hu:u.oneCell'=true)(j:u.cells= #[u])(ht:BM P t=true):(Instr.storeAt t (.pointer (some ad)) u).run P w=.ok () (w.setCell ad u):=by
 have hs:∃i,P.info? t=some i∧i.size=1:=by
  unfold BM at ht;split at ht
  ·rename_i i hi;exact⟨i,hi,Nat.eq_of_beq_eq_true ht⟩
  ·cases ht
 obtain⟨i,hi,q⟩:=hs
 simp only[Instr.storeAt,Instr.sureAddr,storeVar,Sem.run_bind,Sem.run_pure,Result.andThen_ok,sizeOf,typeInfo,run_program,hi,j,q]
 simp [storeCells,Addr.add_zero',run_store P w ad u .plain hu,hc,hf]
theorem iP{t:TypeId}{ad:Addr}{cs:List Value}{j:Nat}{u:Value}{K:World→Prop}(h:St w ad cs)(hj:j<cs.length)(hu:u.oneCell'=true)(r:u.cells= #[u])
  (hk:∀w',Ch (Rg (ad.add j) 1) w w'→w'.heap.size=w.heap.size→St w' ad (cs.set j u)→K w') (ht:BM P t=true:=by kernel_rfl):aL P t (.pointer (some (ad.add j))) u w K:=by
 obtain⟨h0,c,e,h1,h2⟩:=h
 have hc:=St.cell (w:=w) ⟨h0,c,e,h1,h2⟩ (j:=j) (u:=cs[j]) (by simp [hj])
 have q:=Addr.add_none h0 j
 have hf:w.frozen? (ad.add j)=false:=by rw[q];simp [World.frozen?,h1]
 refine⟨w.setCell (ad.add j) u,PX hc hf hu r ht,hk _ ?_ (by simp) ⟨h0,c.setIfInBounds (ad.off+j) u,e,?_,fun i x hx=>?_⟩⟩
 ·exact(YG w _ u).mono fun k i _ ⟨h1,h2⟩=>⟨h1,by omega,by omega⟩
 ·rw[q];simp only[World.setCell,Array.getElem?_modify,if_true,h1,Option.map_some];rfl
 ·have cR:ad.off+j<c.size:=(Array.getElem?_eq_some_iff.1 (h2 j cs[j] (by simp [hj]))).1
  rw[List.getElem?_set]at hx
  by_cases e:j=i
  ·subst e
   simp only[if_true,hj]at hx
   rw[Array.getElem?_setIfInBounds_self_of_lt cR];exact hx
  ·rw[if_neg e]at hx
   rw[Array.getElem?_setIfInBounds_ne (by omega)];exact h2 i x hx
def Slt(v:Value)(i:Int)(ad:Addr):Prop:=∃g n c,v=.slice (some ⟨g,0,none⟩) n c∧ad=⟨g,i.toNat,none⟩
theorem C6{t e:TypeId}{k u:IntKind}{B:Nat}{v:Value}{xs:List Int}{i:Int}{K:Addr→Prop}(h:ON k e w B v xs)(h0:0≤i)(h1:i<xs.length)
  (hk:∀ad,Slt v i ad→w.cell? ad=some (.int k (rd xs i))→K ad) (ht:zH P t k=true:=by kernel_rfl):aX P t v (.int u i) K:=by
 obtain⟨hu,A,hi,j,_⟩:=vQ ht
 rcases h.1.2 with⟨rfl,hn⟩|⟨g,cap,q,rfl,hb,hg,hn,hm,hs,r⟩
 ·omega
 ·refine⟨⟨g,i.toNat,none⟩,fun w=>?_,hk _ ⟨g,_,_,rfl,rfl⟩ ?_⟩
  ·simp only[Instr.indexAt,asIntOf,Sem.run_bind,Sem.run_pure,Result.andThen_ok,run_underlying hu]
   rw[if_pos ⟨h0,h1⟩]
   simp [sizeOf,typeInfo,hi,j,Addr.add_lit]
  ·have:=World.ownsRow.cells h.1 (g:=g) rfl i.toNat (.int k (rd xs i)) (by rw[List.getElem?_map,qcI h0 h1];rfl)
   rwa [Addr.add_lit,Nat.zero_add]at this
theorem qK{t e:TypeId}{k:IntKind}{B:Nat}{v:Value}{xs:List Int}{i x:Int}{ad:Addr}{K:World→Prop}(h:ON k e w B v xs)(hs:Slt v i ad)(h0:0≤i)(h1:i<xs.length)(hx:k.min≤x∧x≤k.max)
  (hk:∀w',Ch (Ob v) w w'→w'.heap.size=w.heap.size→ON k e w' B v (xs.set i.toNat x)→K w') (ht:BM P t=true:=by kernel_rfl):aL P t (.pointer (some ad)) (.int k x) w K:=by
 obtain⟨g,n,c,hv,rfl⟩:=hs
 have hi:i.toNat<xs.length:=by omega
 rcases h.1.2 with⟨j,_⟩|⟨r,cap,q,j,hb,hg,hn,hm,u,A⟩
 ·rw[j]at hv;cases hv
 ·rw[j]at hv
  injection hv with hv1 _ _;injection hv1 with hv1;injection hv1 with hv1 _ _;subst hv1
  have cR:i.toNat<q.size:=by omega
  have hc:w.cell? ⟨r,i.toNat,none⟩=some q[i.toNat]:=by simp [World.cell?,hg,cR]
  have hf:w.frozen? ⟨r,i.toNat,none⟩=false:=by simp [World.frozen?,hg]
  refine⟨w.setCell ⟨r,i.toNat,none⟩ (.int k x),PX hc hf rfl rfl ht,hk _ ?_ (by simp) ⟨⟨by simp,.inr ⟨r,cap,q.setIfInBounds i.toNat (.int k x),by rw[j];simp,hb,?_,by simpa using hn,hm,by simpa using u,?_⟩⟩,?_⟩⟩
  ·refine(YG w _ _).mono fun k i _ ⟨h1,_⟩=>?_
   rw[j,h1];rfl
  ·simp only[World.setCell,Array.getElem?_modify,if_true,hg,Option.map_some];rfl
  ·simp only[Array.toList_setIfInBounds,List.length_set,List.map_set,←A,List.take_set]
  ·intro y C
   rcases List.mem_or_eq_of_mem_set C with C|rfl
   ·exact h.2 y C
   ·exact hx
end
end
section
section
variable {P:Program} {w:World}
def Y9(P:Program)(t:TypeId)(n:Nat):Bool:=match P.info? t with
 |some i=>Nat.beq i.size n
 |none=>false
theorem W0{t:TypeId}{ad:Addr}{cs:List Value}{j:Nat}{ds:Array Value}{K:World→Prop}(h:St w ad cs)(hj:j+ds.size≤cs.length)(h1:∀u∈ds.toList,u.oneCell'=true)
  (hk:∀w',Ch (Rg (ad.add j) ds.size) w w'→w'.heap.size=w.heap.size→St w' ad (cs.take j++ds.toList++cs.drop (j+ds.size))→K w') (ht:Y9 P t ds.size=true):aL P t (.pointer (some (ad.add j))) (.agg ds) w K:=by
 have hs:∃i,P.info? t=some i∧i.size=ds.size:=by
  unfold Y9 at ht;split at ht
  ·rename_i i hi;exact⟨i,hi,Nat.eq_of_beq_eq_true ht⟩
  ·cases ht
 obtain⟨i,hi,T⟩:=hs
 obtain⟨h0,c,e,hc1,hc2⟩:=h
 by_cases hz:ds.size=0
 ·have:ds= #[]:=Array.eq_empty_of_size_eq_zero hz
  subst this
  refine⟨w,?_,hk w (Ch.refl _ w) rfl ⟨h0,c,e,hc1,?_⟩⟩
  ·simp only[Instr.storeAt,Instr.sureAddr,storeVar,Sem.run_bind,Sem.run_pure,Result.andThen_ok,sizeOf,typeInfo,run_program,hi,Value.cells,T]
   simp [storeCells]
  ·simpa using hc2
 have N:ad.off+j+ds.size≤c.size:=by
  have cR:j+ds.size-1<cs.length:=by omega
  have:=(Array.getElem?_eq_some_iff.1 (hc2 (j+ds.size-1) cs[j+ds.size-1] (by simp [cR]))).1
  omega
 have r:=Addr.add_none h0 j
 have C:=run_storeCells_at P ad.block (ad.off+j) e ds.toList 0 c w hc1 (by simpa using N) h1
 simp only[Nat.add_zero,Array.length_toList]at C
 have V:(Value.agg ds).cells=ds:=rfl
 obtain⟨J,I⟩:∃J,J=(List.take (ad.off+j) c.toList++ds.toList++List.drop (ad.off+j+ds.size) c.toList).toArray:=⟨_,rfl⟩
 rw[←I]at C
 refine⟨w.setRow ad.block J,?_,hk _ ?_ (by simp) ⟨h0,J,e,setRow_heap w ad.block c J e _ hc1,fun q u hq=>?_⟩⟩
 ·rw[r]
  simp only[Instr.storeAt,Instr.sureAddr,storeVar,Sem.run_bind,Sem.run_pure,Result.andThen_ok,sizeOf,typeInfo,run_program,hi,V,T]
  simpa using C
 ·refine⟨rfl,rfl,rfl,by simp,fun k hk hn=>setRow_other w ad.block k _ (fun X=>hn (ad.off+j) ⟨by rw[r,X],by rw[r];exact Nat.le_refl _,by rw[r];dsimp only;omega⟩),fun k c' Z f A=>?_,fun k o hk Y=>by rw[setRow_other w ad.block k _ (qE hc1 hk Y)];exact hk⟩
  by_cases O:k=ad.block
  ·subst O
   rw[hc1]at A
   injection A with A;injection A with hk1 hk2 hk3
   subst hk1;subst hk2;subst hk3
   refine⟨J,setRow_heap w ad.block c J e _ hc1,by rw[I];simp;omega,fun q hq=>?_⟩
   subst I
   rw[r]at hq
   replace hq:¬(ad.off+j≤q∧q<ad.off+j+ds.size):=fun h=>hq ⟨rfl,h.1,h.2⟩
   simp only[List.getElem?_toArray,List.append_assoc]
   rw[List.getElem?_append]
   simp only[List.length_take,Array.length_toList]
   split
   ·rw[List.getElem?_take,if_pos (by omega)];simp
   ·rw[List.getElem?_append,if_neg (by simp;omega),List.getElem?_drop]
    simp
    congr 1;omega
  ·exact⟨c',by rw[setRow_other w ad.block k _ O];exact A,rfl,fun _ _=>rfl⟩
 ·subst I
  simp only[List.getElem?_toArray]
  rw[List.append_assoc,List.getElem?_append]at hq
  simp only[List.length_take]at hq
  rw[List.append_assoc,List.getElem?_append]
  simp only[List.length_take,Array.length_toList]
  split at hq
  ·rename_i cR
   rw[if_pos (by omega),List.getElem?_take,if_pos (by omega)]
   rw[List.getElem?_take]at hq
   split at hq
   ·have:=hc2 q u hq;simpa using this
   ·cases hq
  ·rw[if_neg (by omega)]
   rw[List.getElem?_append]at hq⊢
   split at hq
   ·rename_i U M
    rw[if_pos (by omega)]
    rw[←hq];congr 1;omega
   ·rename_i U M
    rw[if_neg (by omega)]
    rw[List.getElem?_drop]at hq⊢
    have:=hc2 _ u hq
    rw[←this]
    simp
    congr 1
    simp at M
    omega
theorem QE{cs:List Ck}{K:TF cs Prop}{vs:List Value}(h:vR False cs K vs)(hl:vs.length=cs.length){p:List Value→Prop}(hp:p vs):tex cs K fun vs k=>p vs∧k:=by
 induction cs generalizing vs p with
 |nil=>cases vs with
  |nil=>exact⟨hp,h⟩
  |cons=>simp at hl
 |cons c r j=>cases vs with
  |nil=>simp at hl
  |cons v vs=>
   simp only[vR]at h
   split at h
   ·rename_i x hx
    refine⟨x,j h (by simpa using hl) ?_⟩
    rw[←Ck.get_inj hx];exact hp
   ·exact h.elim
def qds(P:Program)(t:TypeId)(n:Nat):Bool:=match P.underlying t with
 |some (.struct _)|some (.array _ _)=>Y9 P t n
 |_=>false
theorem M3{t:TypeId}{ad:Addr}{vs:List Value}(hc:∀j u,vs[j]?=some u→w.cell? (ad.add j)=some u)(ht:qds P t vs.length=true):(Instr.loadAt t (.pointer (some ad))).run P w=.ok (.agg vs.toArray) w:=by
 have q:(isAgg t).run P w=.ok true w∧Y9 P t vs.length=true:=by
  unfold qds at ht
  split at ht
  ·rename_i A hu;exact⟨by simp [isAgg,run_underlying hu],ht⟩
  ·rename_i n e hu;exact⟨by simp [isAgg,run_underlying hu],ht⟩
  ·cases ht
 obtain⟨h1,h2⟩:=q
 have hs:∃i,P.info? t=some i∧i.size=vs.length:=by
  unfold Y9 at h2;split at h2
  ·rename_i i hi;exact⟨i,hi,Nat.eq_of_beq_eq_true h2⟩
  ·cases h2
 obtain⟨i,hi,r⟩:=hs
 have hl:=run_loadCells_list (P:=P) w ad vs hc
 simp only[Instr.loadAt,Instr.sureAddr,loadVar,Sem.run_bind,Sem.run_pure,Result.andThen_ok,h1,sizeOf,typeInfo,run_program,hi,r,if_true]
 rw[hl];rfl
theorem lR{t:TypeId}{cks:List Ck}{ad:Addr}{K:TF cks Prop}(vs:List Value)(hc:∀j u,vs[j]?=some u→w.cell? (ad.add j)=some u)(hk:vR False cks K vs)(hl:vs.length=cks.length)(ht:qds P t vs.length=true):aF P t (.part (.agg cks)) (.pointer (some ad)) w K:=
 QE (p:=fun vs=>(Instr.loadAt t (.pointer (some ad))).run P w=.ok (Part.mk (.agg cks) vs) w) hk hl (M3 hc ht)
theorem inR.append{k:IntKind}{xs ys:List Int}(h:inR k xs)(h':inR k ys):inR k (xs++ys):=fun x hx=>(List.mem_append.1 hx).elim (h x) (h' x)
def Moved(w:World)(v v':Value):Prop:=v'.ownBlock=v.ownBlock∨∀g,v'.ownBlock=some g→w.heap.size≤g
theorem SH(t Z:TypeId){e:TypeId}{i:TypeInfo}{z:Value}(ht:P.underlying t=some (.slice e))(hi:P.info? e=some i)(hz:i.zero=some z)(r:i.size=1)(aj:z.cells.size=1)
  {B:Nat} {v:Value} {n:Nat} {xs:List Value} (C:w.ownsRow B e 1 v n xs) {y:Value} {m:Nat} {q:List Value} (hy:Sl w 1 y m q) (h1:∀u∈q,u.oneCell'=true)
  (hb:(n+m)*i.bytes≤140737488355328) (N:n+m≤maxLen) (O:B≤w.heap.size):
  ∃v' w',(Builtin.append_ #[t,t] Z #[v,y]).run P w=.ok v' w'∧w'.ownsRow B e 1 v' (n+m) (xs++q)∧Ch (Ob v) w w'∧Moved w v v'∧(q=[]→v'=v):=by
 obtain⟨a,c,rfl,am,hl,A,ac⟩:=hy
 have af:∀k,v.ownBlock=some k→∃c e f,w.heap[k]?=some (.cells c e f):=fun k hk=>by
  rcases C.2 with⟨rfl,_⟩|⟨g,cap,J,rfl,_,hg,_⟩
  ·cases hk
  ·simp [Value.ownBlock]at hk;subst hk;exact⟨_,_,_,hg⟩
 have Y:∀{w':World},w.grownBy w' v.ownBlock→(∀k c e f,v.ownBlock=some k→w.heap[k]?=some (.cells c e f)→∃c',w'.heap[k]?=some (.cells c' e f)∧c'.size=c.size)→Ch (Ob v) w w':=fun{w'} hg hsh=>by
  refine⟨hg.os,hg.tape,hg.output,hg.size,fun k hk hn=>hg.block k hk fun e=>hn 0 e.symm,fun k c e f hc=>?_,fun k o hk ho=>by
   rw[hg.block k (cR hk) (fun e=>by obtain⟨c,e2,f,hc⟩:=af k e.symm;exact qE hc hk ho rfl)];exact hk⟩
  by_cases hk:v.ownBlock=some k
  ·obtain⟨c',h1,h2⟩:=hsh k c e f hk hc
   exact⟨c',h1,h2,fun i hi=>absurd hk hi⟩
  ·exact⟨c,by rw[hg.block k (cR hc) (fun e=>hk e.symm)];exact hc,rfl,fun _ _=>rfl⟩
 cases a with
 |none=>
  have hm:=ac rfl
  subst hm
  have V:q=[]:=List.eq_nil_of_length_eq_zero (by simpa using hl)
  subst V
  refine⟨v,w,?_,by simpa using C,Ch.refl _ w,.inl rfl,fun _=>rfl⟩
  rcases C.2 with⟨rfl,rfl⟩|⟨g,cap,J,rfl,ae,hg,hn,hm,hcs,ai⟩
  ·simp [Builtin.append_,run_underlying ht,sizeOf,typeInfo,hi,Builtin.lenOf,Builtin.firstCells]
  ·simp [Builtin.append_,run_underlying ht,sizeOf,typeInfo,hi,Builtin.lenOf,Builtin.firstCells,hn,storeCells]
 |some ad=>
  obtain⟨v',w',M,ho,hg,_⟩:=run_append_own (P:=P) w B t Z e i z 1 i.bytes ht hi hz r rfl aj (by decide) v n xs C ad m c q (by simpa using hl) (A ad rfl) h1 N hb O
  refine⟨v',w',M,ho,?_⟩
  rcases C.2 with⟨rfl,rfl⟩|⟨g,cap,J,rfl,ae,U,hn,al,hcs,ai⟩
  ·by_cases ab:m=0
   ·have V:q=[]:=List.eq_nil_of_length_eq_zero (by rw[hl,ab])
    subst V;subst ab
    have I:(Builtin.append_ #[t,t] Z #[.slice none 0 0,.slice (some ad) 0 c]).run P w=.ok (.slice none 0 0) w:=by
     simp [Builtin.append_,run_underlying ht,sizeOf,typeInfo,hi,Builtin.lenOf,Builtin.firstCells,loadCells,loadCellsFrom]
    rw[I]at M;injection M with e1 e2;subst e1;subst e2
    exact⟨Ch.refl _ w,.inl rfl,fun _=>rfl⟩
   ·have I:=run_append_nil (P:=P) w t Z e i z ht hi hz ad m c q (by rw[r];simpa using hl) (A ad rfl) (by omega) (by unfold maxLen at N;omega) (by simp only[Nat.zero_add]at hb;omega)
    rw[I]at M;injection M with e1 e2;subst e1
    refine⟨Y hg (fun k c e f hk=>by cases hk),.inr fun g T=>?_,fun h=>?_⟩
    ·simp [Value.ownBlock]at T;omega
    ·subst h;simp at hl;omega
  ·by_cases X:n+m≤cap
   ·have aa:n*i.size+q.length≤J.size:=by rw[hl,r,hcs];omega
    have I:=run_append_room (P:=P) w t Z e i ht hi g n cap J U ad m c q (by rw[r];simpa using hl) (A ad rfl) h1 X aa
    rw[I]at M;injection M with e1 e2;subst e1;subst e2
    refine⟨Y hg (fun k c' e' f hk hc=>?_),.inl rfl,fun h=>?_⟩
    ·simp [Value.ownBlock]at hk;subst hk
     rw[U]at hc;injection hc with hc;injection hc with hc1 hc2 hc3
     subst hc1;subst hc2;subst hc3
     refine⟨_,setRow_heap w g J _ e _ U,?_⟩
     simp;omega
    ·subst h;simp at hl;simp [←hl]
   ·have holds:∀j u,xs[j]?=some u→w.cell? ((⟨g,0,none⟩:Addr).add j)=some u:=C.cells (g:=g) rfl
    have I:=run_append_grow (P:=P) w t Z e i z ht hi hz ⟨g,0,none⟩ n cap xs (by rw[r];exact C.1) holds ad m c q (by rw[r];simpa using hl) (A ad rfl) (by omega) (by unfold maxLen at N;omega) (growslice_fits (by omega) hb)
    rw[I]at M;injection M with e1 e2;subst e1
    have ag:=e2
    refine⟨Y hg (fun k c' e' f hk hc=>⟨c',?_,rfl⟩),.inr fun g' T=>?_,fun h=>?_⟩
    ·rw[←ag]
     show(w.heap.push _)[k]?=_
     rw[Array.getElem?_push,if_neg (by have:=cR hc;omega)];exact hc
    ·simp [Value.ownBlock]at T;omega
    ·subst h;simp at hl;omega
theorem lS{t I:TypeId}{k:IntKind}{B:Nat}{v y:Value}{xs ys:List Int}{K:Value→World→Prop}(h:ON k (dD P t) w B v xs)(C:Nm k w y ys)(hb:(xs.length+ys.length)*8≤140737488355328)(hB:B≤w.heap.size)
  (hk:∀v' w',ON k (dD P t) w' B v' (xs++ys)→Ch (Ob v) w w'→Moved w v v'→K v' w') (ht:zH P t k=true:=by kernel_rfl):fV P #[t,t] I #[v,y] w K:=by
 obtain⟨hu,i,hi,r,q,A,hz⟩:=vQ ht
 have j:(xs.length+ys.length)*i.bytes≤140737488355328:=Nat.le_trans (Nat.mul_le_mul_left _ q) hb
 obtain⟨v',w',M,J,hc,hm,_⟩:=SH (P:=P) t I hu hi hz r rfl h.1 C.1 (fun u hu=>by obtain⟨x,_,rfl⟩:=List.mem_map.1 hu;rfl) j (by unfold maxLen;omega) hB
 refine⟨v',w',M,hk v' w' ⟨?_,h.2.append C.2⟩ hc hm⟩
 rw[List.length_append,List.map_append];exact J
end
end
section
section
variable {P:Program} {w:World}
theorem L0{t:TypeId}{ad:Addr}{cs:List Value}{ds:Array Value}{K:World→Prop}(h:St w ad cs)(hj:ds.size≤cs.length)(h1:∀u∈ds.toList,u.oneCell'=true)
  (hk:∀w',Ch (Rg ad ds.size) w w'→w'.heap.size=w.heap.size→St w' ad (ds.toList++cs.drop ds.size)→K w') (ht:Y9 P t ds.size=true):aL P t (.pointer (some ad)) (.agg ds) w K:=by
 have:=W0 (P:=P) (t:=t) (K:=K) h (j:=0) (by omega) h1 (fun w' h1 h2 h3=>hk w' (by rwa [Addr.add_zero']at h1) h2 (by simpa using h3)) ht
 rwa [Addr.add_zero']at this
theorem xR{t:TypeId}{ad:Addr}{cs:List Value}{u:Value}{K:World→Prop}(h:St w ad cs)(hj:0<cs.length)(hu:u.oneCell'=true)(q:u.cells= #[u])
  (hk:∀w',Ch (Rg ad 1) w w'→w'.heap.size=w.heap.size→St w' ad (cs.set 0 u)→K w') (ht:BM P t=true:=by kernel_rfl):aL P t (.pointer (some ad)) u w K:=by
 have:=iP (P:=P) (t:=t) (K:=K) h (j:=0) hj hu q (fun w' h1 h2 h3=>hk w' (by rwa [Addr.add_zero']at h1) h2 h3) ht
 rwa [Addr.add_zero']at this
def Q7:Nat→List Value→List (Nat×Value)
 |_,[]=>[]
 |i,v::r=>(i,v)::Q7 (i+1) r
theorem MS(vs:List Value)(h1:∀v∈vs,v.cells= #[v]):∀(j:Nat) (cells:Array Value),j+vs.length≤cells.size→Instr.fill (fun i=>some (i*1,1)) cells (Q7 j vs)=some (jR cells j vs):=by
 induction vs with
 |nil=>intros;rfl
 |cons v r q=>
  intro j cells h
  have hv:=h1 v (by simp)
  simp only[List.length_cons]at h
  simp only[Q7,Instr.fill,hv]
  rw[if_neg (by simp;omega)]
  have:(#[v]:Array Value).zipIdx.foldl (fun cs (x:Value×Nat)=>cs.setIfInBounds (j*1+x.2) x.1) cells=cells.setIfInBounds j v:=by simp
  rw[this,q (fun v hv=>h1 v (by simp [hv])) (j+1) _ (by simp;omega)]
  rfl
theorem M4(vs:List Value):∀(j:Nat) (cells:Array Value),j+vs.length=cells.size→(jR cells j vs).toList=cells.toList.take j++vs:=by
 induction vs with
 |nil=>intro j cells h;simp only[jR,List.append_nil];rw[List.take_of_length_le (by simp at h⊢;omega)]
 |cons v r q=>
  intro j cells h
  simp only[List.length_cons]at h
  simp only[jR]
  rw[q (j+1) _ (by simp;omega),Array.toList_setIfInBounds,List.take_set,List.take_succ_eq_append_getElem (by simp;omega)]
  rw[List.set_append_right _ _ (by simp;omega)]
  simp
  rw[Nat.min_eq_left (by omega),Nat.sub_self];rfl
def sl1(P:Program)(t:TypeId):Bool:=match P.underlying t with
 |some (.slice e)=>match P.info? e with
  |some i=>Nat.beq i.size 1&&i.zero.isSome
  |none=>false
 |_=>false
theorem qn6{t:TypeId}(h:sl1 P t=true):P.underlying t=some (.slice (dD P t))∧∃i z,P.info? (dD P t)=some i∧i.size=1∧i.zero=some z:=by
 unfold sl1 at h
 split at h
 ·rename_i e he
  have j:dD P t=e:=by unfold dD;rw[he]
  rw[j]
  split at h
  ·rename_i i hi
   simp only[Bool.and_eq_true]at h
   obtain⟨z,hz⟩:=Option.isSome_iff_exists.1 h.2
   exact⟨he,i,z,hi,Nat.eq_of_beq_eq_true h.1,hz⟩
  ·cases h
 ·cases h
theorem qb1{t:TypeId}{n:Nat}{j:Array (Nat×Value)}{K:Value→World→Prop}(vs:List Value)(hp:j.toList=Q7 0 vs)(hn:vs.length=n)(hm:n≤1000000)(h1:∀v∈vs,v.cells= #[v])
  (hk:∀v w',Ev w w'→w'.ownsRow w.heap.size (dD P t) 1 v n vs→K v w') (ht:sl1 P t=true:=by kernel_rfl):eG P t n j w K:=by
 obtain⟨hu,i,z,hi,u,hz⟩:=qn6 ht
 obtain⟨q,A,r⟩:∃q:Array Value,q.size=n∧(Instr.buildSlice t n j).run P w=.ok (.slice (some ⟨w.heap.size,0,none⟩) n n) (w.alloc (.cells (jR q 0 vs) (dD P t))):=by
  simp only[Instr.buildSlice,Sem.run_bind,run_underlying hu,Result.andThen_ok,sizeOf,typeInfo,run_program,hi,Sem.run_pure,u,Nat.mul_one]
  rw[if_neg (by omega)]
  by_cases h0:n=0
  ·subst h0
   have:vs=[]:=List.eq_nil_of_length_eq_zero hn
   subst this
   refine⟨#[],rfl,?_⟩
   have he:∀f:Nat→Value,Array.map f (Array.range 0)= #[]:=fun f=>Array.eq_empty_of_size_eq_zero (by simp)
   rw[hp]
   simp [Q7,Instr.fill,newRow,jR,he]
  ·refine⟨(Array.range n).map (z.cells[· %z.cells.size]!),by simp,?_⟩
   rw[if_neg h0]
   simp only[Sem.run_bind,zeroValue,typeInfo,run_program,Result.andThen_ok,hi,hz,Sem.run_pure]
   rw[hp,show(fun i=>some (i,1))=(fun i=>some (i*1,1))by funext i;rw[Nat.mul_one],MS vs h1 0 _ (by simp;omega)]
   simp [newRow]
 have hl:=M4 vs 0 q (by omega)
 simp only[List.take_zero,List.nil_append]at hl
 refine⟨_,_,r,hk _ _ (Ev.alloc w _) ?_⟩
 have hs:(jR q 0 vs).size=n:=by rw[←Array.length_toList,hl,hn]
 exact CZ w (dD P t) _ n n (Nat.le_refl _) (by unfold maxLen;omega) hs (by rw[hl,List.take_of_length_le (by omega)]) hn
theorem qb2{t:TypeId}{n:Nat}{k:IntKind}{j:Array (Nat×Value)}{K:Value→World→Prop}(xs:List Int)(hp:j.toList=Q7 0 (xs.map (.int k)))(hn:xs.length=n)(hm:n≤1000000)(r:inR k xs)
  (hk:∀v w',Ev w w'→ON k (dD P t) w' w.heap.size v xs→K v w') (ht:sl1 P t=true:=by kernel_rfl):eG P t n j w K:=
 qb1 (xs.map (.int k)) hp (by simpa using hn) hm (fun v hv=>by obtain⟨x,_,rfl⟩:=List.mem_map.1 hv;rfl) (fun v w' he q=>hk v w' he ⟨by rw[hn];exact q,r⟩) ht
theorem inR.take{k:IntKind}{xs:List Int}(h:inR k xs)(n:Nat):inR k (xs.take n):=fun x hx=>h x (List.mem_of_mem_take hx)
theorem inR.drop{k:IntKind}{xs:List Int}(h:inR k xs)(n:Nat):inR k (xs.drop n):=fun x hx=>h x (List.mem_of_mem_drop hx)
def YJ(P:Program)(t:TypeId)(sz:Nat):Bool:=match P.underlying t with
 |some (.slice e)=>match P.info? e with
  |some i=>Nat.beq i.size sz
  |none=>false
 |_=>false
theorem M6{t:TypeId}{sz:Nat}(h:YJ P t sz=true):P.underlying t=some (.slice (dD P t))∧∃i,P.info? (dD P t)=some i∧i.size=sz:=by
 unfold YJ at h
 split at h
 ·rename_i e he
  have j:dD P t=e:=by unfold dD;rw[he]
  rw[j]
  split at h
  ·rename_i i hi;exact⟨he,i,hi,Nat.eq_of_beq_eq_true h⟩
  ·cases h
 ·cases h
def oV(sz:Nat)(v:Value)(l h:Nat):Value:=match v with
 |.slice a _ c=>.slice (if c=l then a else a.map (·.add (l*sz))) (h-l) (c-l)
 |v=>v
theorem iD{t:TypeId}{sz:Nat}{a:Option Addr}{n c:Nat}{lo hi:Option Value}{l h:Nat}{K:Value→Prop}(r:(lo=none∧l=0)∨(∃k,lo=some (.int k l)))(j:(hi=none∧h=n)∨(∃k,hi=some (.int k h)))(hl:l≤h)(hh:h≤c)
  (hk:K (oV sz (.slice a n c) l h)) (ht:YJ P t sz=true):cH P t (.slice a n c) lo hi none K:=by
 obtain⟨hu,i,q,u⟩:=M6 ht
 refine⟨_,fun w=>?_,hk⟩
 have hb:(Instr.sliceBounds true n c lo hi none).run P w=.ok (l,h,c) w:=by
  simp only[Instr.sliceBounds,Sem.run_bind,Sem.run_pure,Result.andThen_ok]
  rcases j with⟨rfl,rfl⟩|⟨k,rfl⟩<;>rcases r with⟨rfl,rfl⟩|⟨A,rfl⟩<;>
   simp [Instr.sliceBound,asIntOf,hl,hh]
 simp only[Instr.sliceAt,Sem.run_bind,run_underlying hu,Result.andThen_ok,Instr.slice,hb,sizeOf,typeInfo,run_program,q,Sem.run_pure,u,oV]
theorem Sl.sub{sz n:Nat}{v:Value}{cs:List Value}(h:Sl w sz v n cs)(l m:Nat)(hl:l≤m)(hm:m≤n):Sl w sz (oV sz v l m) (m-l) ((cs.drop (l*sz)).take ((m-l)*sz)):=by
 obtain⟨a,c,rfl,h1,h2,h3,h4⟩:=h
 refine⟨_,_,rfl,by omega,?_,fun ad ha j u hj=>?_,fun ha=>?_⟩
 ·rw[List.length_take,List.length_drop,h2,←Nat.sub_mul,Nat.min_eq_left (Nat.mul_le_mul_right _ (by omega))]
 ·rw[List.getElem?_take]at hj
  split at hj
  ·rename_i C
   rw[List.getElem?_drop]at hj
   split at ha
   ·rename_i I
    have:(m-l)*sz=0:=by rw[show m-l=0 by omega,Nat.zero_mul]
    omega
   ·obtain⟨q,rfl,r⟩:=Option.map_eq_some_iff.1 ha
    have:=h3 q rfl _ u hj
    rw[←r]
    by_cases hz:l*sz=0
    ·rw[hz,Addr.add_zero'];rwa [hz,Nat.zero_add]at this
    ·have e1:q.add (l*sz)=⟨q.block,q.off+l*sz,none⟩:=by simp [Addr.add,hz]
     rw[e1,Addr.add_lit]
     by_cases A:l*sz+j=0
     ·omega
     ·have e2:q.add (l*sz+j)=⟨q.block,q.off+(l*sz+j),none⟩:=by unfold Addr.add;rw[if_neg A]
      rw[e2]at this;rwa [←Nat.add_assoc]at this
  ·cases hj
 ·split at ha
  ·have:=h4 ha;omega
  ·have:=h4 (Option.map_eq_none_iff.1 ha);omega
theorem Nm.sub{k:IntKind}{v:Value}{xs:List Int}(h:Nm k w v xs)(l m:Nat)(hl:l≤m)(hm:m≤xs.length):Nm k w (oV 1 v l m) ((xs.drop l).take (m-l)):=by
 refine⟨?_,(h.2.drop l).take _⟩
 have:=h.1.sub l m hl hm
 rw[Nat.mul_one,Nat.mul_one,←List.map_drop,←List.map_take]at this
 rwa [List.length_take,List.length_drop,Nat.min_eq_left (by omega)]
theorem dJ{t:TypeId}{k:IntKind}{v:Value}{xs:List Int}{lo hi:Option Value}{K:Value→Prop}(h:Nm k w v xs)(l m:Nat)(q:(lo=none∧l=0)∨(∃k,lo=some (.int k l)))(j:(hi=none∧m=xs.length)∨(∃k,hi=some (.int k m)))(hl:l≤m)(hm:m≤xs.length)
  (hk:Nm k w (oV 1 v l m) ((xs.drop l).take (m-l))→K (oV 1 v l m)) (ht:YJ P t 1=true:=by kernel_rfl):cH P t v lo hi none K:=by
 obtain⟨a,c,rfl,hc⟩:=h.shape
 exact iD q j hl (by omega) (hk (h.sub l m hl hm)) ht
def qjr:Value→Nat
 |.slice _ n _=>n
 |_=>0
theorem Nm.slen{k:IntKind}{v:Value}{xs:List Int}(h:Nm k w v xs):qjr v=xs.length:=by obtain⟨a,c,rfl,_⟩:=h.shape;rfl
def tO(xs:List Int):ByteArray:=⟨(xs.map fun x=>UInt8.ofNat x.toNat).toArray⟩
theorem qgs(xs:List Int):∀(s:ByteArray),(xs.foldl (fun r n=>r.push (UInt8.ofNat n.toNat)) s)=⟨s.data++(xs.map fun x=>UInt8.ofNat x.toNat).toArray⟩:=by
 induction xs with
 |nil=>intro s;simp
 |cons x r j=>intro s;rw[List.foldl_cons,j];simp [ByteArray.push]
theorem PD(xs:List Int):(tO xs).toList=xs.map fun x=>UInt8.ofNat x.toNat:=by rw[ByteArray.toList_eq];simp [tO]
theorem ql8{xs ys:List Int}(hx:inR .u8 xs)(j:inR .u8 ys)(h:(tO xs).toList=(tO ys).toList):xs=ys:=by
 rw[PD,PD]at h
 induction xs generalizing ys with
 |nil=>cases ys with
  |nil=>rfl
  |cons=>simp at h
 |cons x r q=>cases ys with
  |nil=>simp at h
  |cons y s=>
   simp only[List.map_cons,List.cons.injEq]at h
   have h1:=hx.u8 (x:=x) (by simp)
   have h2:=j.u8 (x:=y) (by simp)
   have h3:=congrArg UInt8.toNat h.1
   simp only[UInt8.toNat_ofNat']at h3
   rw[show x=y by omega,q (fun z hz=>hx z (by simp [hz])) (fun z hz=>j z (by simp [hz])) h.2]
theorem yC{xs ys:List Int}(hx:inR .u8 xs)(j:inR .u8 ys):((tO xs).toList==(tO ys).toList)=decide (xs=ys):=by
 by_cases h:xs=ys
 ·subst h;simp
 ·rw[decide_eq_false h]
  have:(tO xs).toList≠(tO ys).toList:=fun e=>h (ql8 hx j e)
  simp [this]
def qdK(P:Program)(s d:TypeId):Bool:=match P.underlying s,P.underlying d with
 |some (.slice e),some .string=>(match P.underlying e with|some (.int .u8)=>true|_=>false)
 |_,_=>false
theorem lA{s d:TypeId}{v:Value}{xs:List Int}{K:ByteArray→World→Prop}(h:Nm .u8 w v xs)(hk:K (tO xs) w)(ht:qdK P s d=true:=by kernel_rfl):tC P s d P9 v w K:=by
 unfold qdK at ht
 split at ht
 ·rename_i e hs hd
  split at ht
  ·rename_i he
   obtain⟨a,c,rfl,h1,h2,h3,h4⟩:=h.1
   refine⟨tO xs,w,?_,hk⟩
   rw[run_convert_bytes_string w s d e a _ c hs he hd]
   cases a with
   |none=>
    have:xs=[]:=List.eq_nil_of_length_eq_zero (h4 rfl)
    subst this;rfl
   |some ad=>
    rw[run_bytesToString w ad xs.length c xs ?_,qgs]
    ·simp [tO];rfl
    ·have:=run_loadCells_list (P:=P) w ad (xs.map (.int .u8)) (h3 ad rfl)
     rwa [List.length_map]at this
  ·cases ht
 ·cases ht
theorem F4{t:TypeId}{k:IntKind}{a b:Int}{K:Int→Prop}(hb:b≠0)(hk:K (k.wrap (a.tdiv b))):kY P .quo t (dQ k) (.int k a) (.int k b) K:=⟨_,fun w=>by simp [binOp,Op.intDiv,hb];rfl,hk⟩
theorem kZ{t:TypeId}{k:IntKind}{a b:Int}{K:Int→Prop}(hb:b≠0)(hk:K (a.tmod b)):kY P .rem t (dQ k) (.int k a) (.int k b) K:=⟨_,fun w=>by simp [binOp,Op.intDiv,hb];rfl,hk⟩
theorem JQ{t:TypeId}{k j:IntKind}{a b:Int}{K:Int→Prop}(hb:0≤b)(hk:K (qY k a b)):kY P .shl t (dQ k) (.int k a) (.int j b) K:=⟨_,fun w=>by simp [binOp,Op.shift,show ¬b<0 by omega];rfl,hk⟩
theorem pL{t:TypeId}{k j:IntKind}{a b:Int}{K:Int→Prop}(hb:0≤b)(hk:K (cV k a b)):kY P .shr t (dQ k) (.int k a) (.int j b) K:=⟨_,fun w=>by simp [binOp,Op.shift,show ¬b<0 by omega];rfl,hk⟩
end
end
section
section
variable {P:Program} {w:World}
def FB(k:IntKind)(e:TypeId)(w:World)(g:Nat)(zs:List Int):Prop:=∃j,w.heap[g]?=some (.cells j e (0,0))∧j.toList=zs.map (.int k)∧inR k zs∧zs.length≤maxLen
theorem FB.on{k:IntKind}{e:TypeId}{g:Nat}{zs:List Int}(h:FB k e w g zs)(n:Nat)(hn:n≤zs.length):ON k e w g (.slice (some ⟨g,0,none⟩) n zs.length) (zs.take n):=by
 obtain⟨j,h1,h2,h3,h4⟩:=h
 have hl:(zs.take n).length=n:=by rw[eJ];omega
 have hs:j.size=zs.length:=by rw[←LW,h2,fE]
 refine⟨⟨by simp,.inr ⟨g,zs.length,j,by rw[hl],cJ _,h1,by rw[hl];exact hn,h4,by omega,?_⟩⟩,h3.take n⟩
 rw[hl,K6,h2,←List.map_take]
theorem ON.pre{k:IntKind}{e:TypeId}{B g n c:Nat}{xs:List Int}(h:ON k e w B (.slice (some ⟨g,0,none⟩) n c) xs)(m:Nat)(hm:m≤n):ON k e w B (.slice (some ⟨g,0,none⟩) m c) (xs.take m):=by
 obtain⟨⟨h1,h2⟩,h3⟩:=h
 rcases h2 with⟨hv,_⟩|⟨r,cap,j,hv,hb,hg,hn,q,hs,ht⟩
 ·cases hv
 ·injection hv with hv1 hv2 hv3;injection hv1 with hv1;injection hv1 with hv1 _ _
  subst hv1;subst hv3
  have hl:(xs.take m).length=m:=by rw[eJ];omega
  refine⟨⟨by simp,.inr ⟨g,c,j,by rw[hl],hb,hg,by omega,q,hs,?_⟩⟩,h3.take m⟩
  rw[hl,List.map_take,←ht,List.take_take];congr 1;omega
theorem FB.ev{k:IntKind}{e:TypeId}{w':World}{g:Nat}{zs:List Int}(h:FB k e w g zs)(hc:Ev w w'):FB k e w' g zs:=by
 obtain⟨j,h1,h2⟩:=h
 exact⟨j,by rw[hc.blk g (cR h1) fun _ h=>h];exact h1,h2⟩
theorem qcW{sz n c m:Nat}{a:Option Addr}(h:0<c):oV sz (.slice a n c) 0 m=.slice a m c:=by
 simp only[oV,qac,Z9]
 rw[if_neg (by omega)]
 cases a<;>simp [Addr.add_zero']
theorem qky{t:TypeId}{k:IntKind}{n:Nat}{K:Value→World→Prop}(hn:n*8≤281474976710656)
  (hk:∀w',Ev w w'→w'.heap.size=w.heap.size+1→FB k (dD P t) w' w.heap.size (List.replicate n 0)→K (.slice (some ⟨w.heap.size,0,none⟩) 0 n) w') (ht:zH P t k=true:=by kernel_rfl):mT P t (aB 0) (aB (n:Int)) w K:=by
 obtain⟨hu,i,hi,A,u,I,hz⟩:=vQ ht
 have J:i.bytes*(n:Int)≤2^48:=by
  have:(i.bytes*n:Nat)≤n*8:=by rw[A4];exact qih n u
  have h2:((i.bytes*n:Nat):Int)≤281474976710656:=by omega
  rw[rM]at h2;simpa using h2
 have hw:IntKind.wrap .i64 (n:Int)=n:=by have:=aD (n:=(n:Int)) (by omega) (by omega);simpa [i64]using this
 have C:IntKind.wrap .i64 (0:Int)=0:=by decide
 have q:(Instr.makeSlice t (aB 0) (aB (n:Int))).run P w=.ok (.slice (some ⟨w.heap.size,0,none⟩) 0 n) (w.alloc (.cells (Array.replicate n (.int k 0)) (dD P t))):=by
  simp only[Instr.makeSlice,Sem.run_bind,run_underlying hu,Result.andThen_ok,asInt,asIntOf,Sem.run_pure,typeInfo,run_program,hi,hw,C]
  have h1:¬((n:Int)<0):=by omega
  have h2:¬((i.bytes:Int)*(n:Int)>2^48):=by omega
  have h3:¬((i.bytes:Int)*0>2^48):=by omega
  simp only[h1,h2,h3,decide_false,Bool.or_self,Bool.false_or,gt_iff_lt,Int.lt_irrefl,if_false,Bool.false_eq_true]
  have r:(askRoom (Int.toNat (n:Int)*i.bytes)).run P w=.ok () w:=by unfold askRoom;split<;>rfl
  simp only[r,Result.andThen_ok,sizeOf,typeInfo,Sem.run_bind,run_program,hi,Sem.run_pure,A,dH,K6,zeroValue,hz]
  by_cases h0:n=0
  ·subst h0;have he:∀f:Nat→Value,Array.map f (Array.range 0)= #[]:=fun f=>qfP (by simp)
   simp [newRow,he]
  ·simp only[h0,if_false,Sem.run_bind,run_program,Result.andThen_ok,hi,hz,Sem.run_pure,newRow]
   simp [Value.cells]
   congr 2
   apply Array.ext
   ·simp
   ·intro j h1 h2;simp [Nat.mod_one]
 refine⟨_,_,q,hk _ (Ev.alloc w _) (by simp) ⟨_,heap_alloc_new w _,by simp,qb9 k n,?_⟩⟩
 unfold maxLen;rw[sF];omega
theorem qkv{t Y:TypeId}{k:IntKind}{g n c:Nat}{y:Value}{zs ys:List Int}{K:Value→World→Prop}(h:FB k (dD P t) w g zs)(I:zs.length=c)(X:Nm k w y ys)(V:n+ys.length≤c)
  (hk:∀w',Ch (Bk g) w w'→w'.heap.size=w.heap.size→FB k (dD P t) w' g (zs.take n++ys++zs.drop (n+ys.length))→K (.slice (some ⟨g,0,none⟩) (n+ys.length) c) w') (ht:zH P t k=true:=by kernel_rfl):
  fV P #[t,t] Y #[.slice (some ⟨g,0,none⟩) n c,y] w K:=by
 subst I
 obtain⟨hu,i,hi,C,Z,U,hz⟩:=vQ ht
 obtain⟨q,hg,r,O,hm⟩:=h
 have hs:q.size=zs.length:=by rw[←LW,r,fE]
 obtain⟨a,c,rfl,aa,hl,A,M⟩:=X.1
 cases a with
 |none=>
  have h0:=M rfl
  have T:ys=[]:=xI h0
  subst T
  refine⟨_,w,?_,hk w (Ch.refl _ w) rfl ?_⟩
  ·have hn:n≤zs.length:=by simpa using V
   simp [Builtin.append_,run_underlying hu,sizeOf,typeInfo,hi,Builtin.lenOf,Builtin.firstCells,hn,storeCells]
  ·exact⟨q,hg,by simpa using r,by simpa using O,by simpa using hm⟩
 |some ad=>
  have N:=run_append_room (P:=P) w t Y _ i hu hi g n zs.length q hg ad ys.length c (ys.map (.int k)) (by rw[C];simp) (A ad rfl) (fun u hu=>by obtain⟨x,_,rfl⟩:=List.mem_map.1 hu;rfl) V (by rw[C,fE];omega)
  refine⟨_,_,N,hk _ ?_ (by simp) ⟨_,setRow_heap w g q _ _ _ hg,?_,?_,?_⟩⟩
  ·refine⟨rfl,rfl,rfl,by simp,fun j hj hn=>setRow_other w g j _ fun e=>hn 0 e,fun j c' e' f hj=>?_,fun k o hk ho=>by rw[setRow_other w g k _ (qE hg hk ho)];exact hk⟩
   by_cases J:j=g
   ·subst J
    rw[hg]at hj
    injection hj with hj;injection hj with h1 h2 h3
    subst h1;subst h2;subst h3
    exact⟨_,setRow_heap w j q _ _ _ hg,by simp [C];omega,fun i hi=>absurd rfl hi⟩
   ·exact⟨c',by rw[setRow_other w g j _ J];exact hj,rfl,fun _ _=>rfl⟩
  ·simp only[C,K6,fE,r,gQ,List.map_take,List.map_drop]
  ·exact((O.take n).append X.2).append (O.drop _)
  ·have:(zs.take n++ys++zs.drop (n+ys.length)).length=zs.length:=by simp;omega
   rw[this];exact hm
theorem bQ{f:FuncId}{args:Array Value}{k:IntKind}{n:Int}{Q:World→Prop}{K:Int→World→Prop}(h:Calls P f args w fun e w'=>e=aW (.int k n)∧Q w')(hk:∀w',Q w'→K n w'):aE P f (dQ k) args w K:=
 aO h fun _ w' ⟨h1,h2⟩=>⟨n,h1,hk w' h2⟩
theorem bX{f:FuncId}{args:Array Value}{k:IntKind}{n:Int}{K:Int→World→Prop}(h:Calls P f args w fun e w'=>e=aW (.int k n)∧w'=w)(hk:K n w):aE P f (dQ k) args w K:=
 aO h fun _ w' ⟨h1,h2⟩=>⟨n,h1,by subst h2;exact hk⟩
theorem gC{f:FuncId}{args:Array Value}{b:Bool}{Q:World→Prop}{K:Bool→World→Prop}(h:Calls P f args w fun e w'=>e=aW (.bool b)∧Q w')(hk:∀w',Q w'→K b w'):aE P f kG args w K:=
 aO h fun _ w' ⟨h1,h2⟩=>⟨b,h1,hk w' h2⟩
theorem hZ{f:FuncId}{args:Array Value}{b:Bool}{K:Bool→World→Prop}(h:Calls P f args w fun e w'=>e=aW (.bool b)∧w'=w)(hk:K b w):aE P f kG args w K:=
 aO h fun _ w' ⟨h1,h2⟩=>⟨b,h1,by subst h2;exact hk⟩
theorem iY{f:FuncId}{args:Array Value}{Q:Value→World→Prop}{K:Value→World→Prop}(h:Calls P f args w fun e w'=>∃v,e=aW v∧Q v w')(hk:∀v w',Q v w'→K v w'):aE P f dM args w K:=
 aO h fun _ w' ⟨v,h1,h2⟩=>⟨v,h1,hk v w' h2⟩
theorem cZ{f:FuncId}{args:Array Value}{Q:World→Prop}{K:World→Prop}(h:Calls P f args w fun e w'=>e=bP #[]∧Q w')(hk:∀w',Q w'→K w'):aE P f jO args w K:=
 aO h fun _ w' ⟨h1,h2⟩=>⟨h1,hk w' h2⟩
end
def Owd(k:IntKind)(w:World)(v:Value)(xs:List Int)(f:Int):Prop:=∃a c,v=.slice a xs.length c∧xs.length+3≤c∧Nm k w (.slice a (xs.length+3) c) (xs++[f,f,f])
theorem Owd.nm{k:IntKind}{w:World}{v:Value}{xs:List Int}{f:Int}(h:Owd k w v xs f):Nm k w v xs:=by
 obtain⟨a,c,rfl,hc,hn⟩:=h
 have:=hn.sub 0 xs.length (by omega) (by simp)
 simp only[oL,Z9,List.take_left]at this
 rwa [qcW (by omega)]at this
theorem Owd.ev{k:IntKind}{w w':World}{v:Value}{xs:List Int}{f:Int}(h:Owd k w v xs f)(he:Ev w w'):Owd k w' v xs f:=by
 obtain⟨a,c,h1,h2,h3⟩:=h;exact⟨a,c,h1,h2,h3.ev he⟩
end
section
section
variable {P:Program} {w:World}
theorem Sl.of_own{B n:Nat}{e:TypeId}{v:Value}{cs:List Value}(h:w.ownsRow B e 1 v n cs):Sl w 1 v n cs:=by
 obtain⟨h1,h2⟩:=h
 rcases h2 with⟨rfl,h0⟩|⟨g,cap,q,rfl,hb,hg,hn,hm,hs,ht⟩
 ·exact⟨none,0,by rw[h0],by omega,h1,(fun _ h=>by cases h),fun _=>h0⟩
 ·refine⟨some ⟨g,0,none⟩,cap,rfl,hn,h1,fun ad ha j u hj=>?_,fun h=>by cases h⟩
  injection ha with ha;subst ha
  exact World.ownsRow.cells ⟨h1,.inr ⟨g,cap,q,rfl,hb,hg,hn,hm,hs,ht⟩⟩ (g:=g) rfl j u hj
theorem Sl.shape{sz n:Nat}{v:Value}{cs:List Value}(h:Sl w sz v n cs):∃a c,v=.slice a n c∧n≤c:=let⟨a,c,h1,h2,_⟩:=h;⟨a,c,h1,h2⟩
theorem cK{t:TypeId}{sz n:Nat}{v:Value}{cs:List Value}{K:Nat→Prop}(h:Sl w sz v n cs)(hk:K n)(ht:qlb P t (dD P t)=true:=by kernel_rfl):bC P t v K:=by
 obtain⟨a,c,rfl,_⟩:=h.shape;exact V9 hk ht
theorem N7{t:TypeId}{q:IntKind}{v:Value}{n:Nat}{cs:List Value}{i:Int}{K:Addr→Prop}(h:Sl w 1 v n cs)(h0:0≤i)(h1:i<n)
  (hk:∀ad u,cs[i.toNat]?=some u→w.cell? ad=some u→v.ownBlock=some ad.block→K ad) (ht:YJ P t 1=true:=by kernel_rfl):aX P t v (.int q i) K:=by
 obtain⟨hu,r,hi,j⟩:=M6 ht
 obtain⟨a,c,rfl,_,hl,h3,h4⟩:=h
 cases a with
 |none=>have:=h4 rfl;omega
 |some ad=>
  have cR:i.toNat<cs.length:=by omega
  refine⟨ad.add i.toNat,fun w=>?_,hk _ cs[i.toNat] (by simp [cR]) (h3 ad rfl i.toNat _ (by simp [cR])) ?_⟩
  ·simp only[Instr.indexAt,asIntOf,Sem.run_bind,Sem.run_pure,Result.andThen_ok,run_underlying hu]
   rw[if_pos ⟨h0,h1⟩]
   simp [sizeOf,typeInfo,hi,j]
  ·show some ad.block=some (ad.add i.toNat).block
   unfold Addr.add;split<;>rfl
def NL(k:IntKind)(w:World)(v:Value)(xss:List (List Int)):Prop:=∃us:List Value,Sl w 1 v xss.length us∧∀(i:Nat) (u:Value) (xs:List Int),us[i]?=some u→xss[i]?=some xs→Nm k w u xs
theorem NL.ev{k:IntKind}{w':World}{v:Value}{xss:List (List Int)}(h:NL k w v xss)(he:Ev w w'):NL k w' v xss:=by
 obtain⟨us,h1,h2⟩:=h;exact⟨us,h1.ev he,fun i u xs a b=>(h2 i u xs a b).ev he⟩
def Stab(S:SS)(w:World)(Q:World→Prop):Prop:=∀w',Ch S w w'→Q w'
theorem Stab.now{S:SS}{Q:World→Prop}(h:Stab S w Q):Q w:=h w (Ch.refl S w)
theorem Nm.stab{k:IntKind}{S:SS}{v:Value}{xs:List Int}(h:Nm k w v xs)(hs:∀g i,v.ownBlock=some g→g<w.heap.size→¬S g i):Stab S w fun w'=>Nm k w' v xs:=fun w' hc=>by
 refine⟨?_,h.2⟩
 obtain⟨a,c,rfl,h1,h2,h3,h4⟩:=h.1
 refine⟨a,c,rfl,h1,h2,fun ad ha j u hj=>?_,h4⟩
 subst ha
 have hcell:=h3 ad rfl j u hj
 have hb:(ad.add j).block=ad.block:=by unfold Addr.add;split<;>rfl
 refine hc.cell hcell ?_
 have cR:=World.block_lt_of_cell? w _ hcell
 rw[hb]at cR⊢
 exact hs _ _ rfl cR
def Wr(e:TypeId)(w:World)(ad:Addr)(v:Value)(xs:List Int):Prop:=St w ad [v]∧ON .u8 e w 0 v xs∧v.ownBlock≠some ad.block
abbrev Ft(ad:Addr)(v:Value):SS:=fun k _=>k=ad.block∨v.ownBlock=some k
theorem Wr.ch{e:TypeId}{S:SS}{w':World}{ad:Addr}{v:Value}{xs:List Int}(h:Wr e w ad v xs)(hc:Ch S w w')(hs:∀k i,Ft ad v k i→¬S k i):Wr e w' ad v xs:=
 ⟨h.1.ch hc fun _ _=>hs _ _ (.inl rfl),h.2.1.ch hc fun g i hg=>hs g i (.inr hg),h.2.2⟩
theorem Wr.ev{e:TypeId}{w':World}{ad:Addr}{v:Value}{xs:List Int}(h:Wr e w ad v xs)(hc:Ev w w'):Wr e w' ad v xs:=h.ch hc fun _ _ _ h=>h
theorem Wr.lt{e:TypeId}{ad:Addr}{v:Value}{xs:List Int}(h:Wr e w ad v xs){k i:Nat}(hk:Ft ad v k i):k<w.heap.size:=by
 rcases hk with rfl|hk
 ·exact h.1.lt
 ·exact(h.2.1.base hk).2
def WrS(e:TypeId)(w w':World)(ad:Addr)(v v':Value)(xs:List Int):Prop:=Wr e w' ad v' xs∧Ch (Ft ad v) w w'∧Moved w v v'
theorem Wr.step{e:TypeId}{ad:Addr}{v:Value}{xs:List Int}(h:Wr e w ad v xs):WrS e w w ad v v xs:=⟨h,Ch.refl _ w,.inl rfl⟩
theorem Moved.trans{w w1:World}{v v1 v2:Value}(h:Moved w v v1)(h2:Moved w1 v1 v2)(hs:w.heap.size≤w1.heap.size):Moved w v v2:=by
 rcases h2 with h2|h2
 ·rcases h with h|h
  ·exact .inl (h2.trans h)
  ·exact .inr fun g hg=>h g (by rw[←h2];exact hg)
 ·exact .inr fun g hg=>nJ hs (h2 g hg)
theorem WrS.trans{e:TypeId}{w w1 w2:World}{ad:Addr}{v v1 v2:Value}{xs ys:List Int}(h:WrS e w w1 ad v v1 xs)(h2:WrS e w1 w2 ad v1 v2 ys):WrS e w w2 ad v v2 ys:=by
 refine⟨h2.1,Ch.trans h.2.1 h2.2.1 fun n i hn hf=>?_,h.2.2.trans h2.2.2 h.2.1.size⟩
 rcases hf with hf|hf
 ·exact .inl hf
 ·rcases h.2.2 with hm|hm
  ·exact .inr (hm▸hf)
  ·have:=hm n hf;omega
theorem WrS.ev{e:TypeId}{w w1 w2:World}{ad:Addr}{v v1:Value}{xs:List Int}(h:WrS e w w1 ad v v1 xs)(he:Ev w1 w2):WrS e w w2 ad v v1 xs:=
 h.trans ⟨h.1.ev he,he.mono fun _ _ _ h=>h.elim,.inl rfl⟩
theorem WrS.pre{e:TypeId}{w w1 w2:World}{ad:Addr}{v v1:Value}{xs:List Int}(he:Ev w w1)(h:WrS e w1 w2 ad v v1 xs):WrS e w w2 ad v v1 xs:=
 ⟨h.1,Ch.trans (he.mono fun _ _ _ h=>h.elim) h.2.1 fun _ _ _ h=>h,by rcases h.2.2 with h|h;exact .inl h;exact .inr fun g hg=>nJ he.size (h g hg)⟩
theorem WrS.evn{e:TypeId}{w0 w w':World}{ad:Addr}{v v':Value}{xs:List Int}(h0:Ev w0 w)(h:WrS e w w' ad v v' xs)(hb:w0.heap.size≤ad.block)(hv:∀g,v.ownBlock=some g→w0.heap.size≤g):Ev w0 w'∧∀g,v'.ownBlock=some g→w0.heap.size≤g:=by
 refine⟨h0.new h.2.1 fun n i hf=>?_,fun g hg=>?_⟩
 ·rcases hf with rfl|hf
  ·exact hb
  ·exact hv n hf
 ·rcases h.2.2 with hm|hm
  ·exact hv g (hm▸hg)
  ·exact nJ h0.size (hm g hg)
end
end
def rJ(n:Nat)(f:Nat→Int):List Int:=(List.range n).map f
theorem dS(n:Nat)(f:Nat→Int):(rJ n f).length=n:=by simp [rJ]
theorem Y7{n:Nat}{f:Nat→Int}{i:Nat}(h:i<n):rd (rJ n f) (i:Int)=f i:=by simp [rd,rJ,h]
theorem mA{n:Nat}{f g:Nat→Int}(h:∀i,i<n→f i=g i):rJ n f=rJ n g:=by
 unfold rJ;exact List.map_congr_left fun i hi=>h i (by simpa using hi)
theorem YP(xs:List Int):rJ xs.length (fun i=>rd xs (i:Int))=xs:=by
 refine List.ext_getElem (dS _ _) fun i h1 h2=>?_
 rw[←dK _ i h1,Y7 (by rw[dS]at h1;exact h1),dK xs i h2]
theorem EO{n i:Nat}{f:Nat→Int}{x:Int}(h:i<n):(rJ n f).set i x=rJ n (fun q=>if q=i then x else f q):=by
 refine List.ext_getElem (by simp [dS]) fun j h1 h2=>?_
 rw[List.getElem_set]
 have hj:j<n:=by rw[dS]at h2;exact h2
 simp only[rJ,LX,List.getElem_range]
 by_cases e:j=i
 ·subst e;simp
 ·rw[if_neg (fun r=>e r.symm),if_neg e]
theorem ql0:(2:Nat)^IntKind.u8.bits=256:=rfl
theorem GQ:(2:Nat)^IntKind.u64.bits=18446744073709551616:=rfl
theorem qlZ:(2:Nat)^IntKind.u32.bits=4294967296:=rfl
theorem qdd{k:IntKind}(hk:k.signed=false)(n:Nat):k.wrap (n:Int)=((n%2^k.bits:Nat):Int):=by
 simp only[IntKind.wrap,hk];simp
theorem tI(b n:Nat):BitVec.ofInt b (n:Int)=BitVec.ofNat b n:=BitVec.ofInt_natCast b n
theorem qmR{k:IntKind}(hk:k.signed=false){a b:Nat}(ha:a<2^k.bits)(hb:b<2^k.bits):xS k a b=((a&&&b:Nat):Int):=by
 unfold xS;rw[tI,tI,BitVec.toNat_and,BitVec.toNat_ofNat,BitVec.toNat_ofNat,zM ha,zM hb,qdd hk,zM (Nat.lt_of_le_of_lt Nat.and_le_left ha)]
theorem qb7{k:IntKind}(hk:k.signed=false){a b:Nat}(ha:a<2^k.bits)(hb:b<2^k.bits):L3 k a b=((a|||b:Nat):Int):=by
 unfold L3;rw[tI,tI,BitVec.toNat_or,BitVec.toNat_ofNat,BitVec.toNat_ofNat,zM ha,zM hb,qdd hk,zM (Nat.or_lt_two_pow ha hb)]
theorem qen{k:IntKind}(hk:k.signed=false){a b:Nat}(ha:a<2^k.bits)(hb:b<2^k.bits):lU k a b=((a^^^b:Nat):Int):=by
 unfold lU;rw[tI,tI,BitVec.toNat_xor,BitVec.toNat_ofNat,BitVec.toNat_ofNat,zM ha,zM hb,qdd hk,zM (GH ha hb)]
theorem E2{k:IntKind}(hk:k.signed=false){a:Int}{m n:Nat}(h0:0≤a)(ha:a<2^k.bits)(hm:2^m-1=n)(hn:n<2^k.bits):xS k a n=a%((2^m:Nat):Int):=by
 obtain⟨a,rfl⟩:=LY h0
 have j:a<2^k.bits:=by exact_mod_cast ha
 rw[qmR hk j hn,←hm,Nat.and_two_pow_sub_one_eq_mod];rfl
theorem Nat.lor_add{a b m:Nat}(ha:a<2^m):a|||b*2^m=a+b*2^m:=by
 rw[Nat.or_comm,A4,←Nat.two_pow_add_eq_or_of_lt ha,Nat.add_comm]
theorem SZ{k:IntKind}(hk:k.signed=false){a b:Int}{m:Nat}(ha0:0≤a)(ha:a<((2^m:Nat):Int))(j:0≤b)(hs:a+b*((2^m:Nat):Int)<((2^k.bits:Nat):Int)):L3 k a (b*((2^m:Nat):Int))=a+b*((2^m:Nat):Int):=by
 obtain⟨a,rfl⟩:=LY ha0
 obtain⟨b,rfl⟩:=LY j
 have e:((b:Int)*((2^m:Nat):Int))=((b*2^m:Nat):Int):=(rM _ _).symm
 rw[e]at hs⊢
 have q:a+b*2^m<2^k.bits:=by exact_mod_cast hs
 rw[qb7 hk (by omega) (by omega),Nat.lor_add (by exact_mod_cast ha)];rfl
theorem qem{k:IntKind}(hk:k.signed=false){a b:Int}{m:Nat}(ha0:0≤a)(ha:a<((2^m:Nat):Int))(j:0≤b)(hs:a+b*((2^m:Nat):Int)<((2^k.bits:Nat):Int)):L3 k (b*((2^m:Nat):Int)) a=a+b*((2^m:Nat):Int):=by
 rw[←SZ hk ha0 ha j hs];unfold L3;rw[BitVec.or_comm]
theorem HC{k:IntKind}(hk:k.signed=false){a:Int}{n:Nat}(hn:n≤k.bits)(h0:0≤a):qY k a n=(a*((2^n:Nat):Int))%((2^k.bits:Nat):Int):=by
 obtain⟨a,rfl⟩:=LY h0
 unfold qY
 rw[dH,vU hn]
 have e:((a:Int)*2^n)=((a*2^n:Nat):Int):=by rw[rM];congr 1
 rw[e,qdd hk,QM,rM]
theorem uH{k:IntKind}{a:Int}{n:Nat}(hn:n≤k.bits)(h0:0≤a):cV k a n=a/((2^n:Nat):Int):=by
 unfold cV
 rw[dH,vU hn,Int.fdiv_eq_ediv_of_nonneg _ (Int.le_of_lt (Int.pow_pos (by decide)))]
 congr 1
def IsRow(k:IntKind)(w:World)(a:Option Addr)(len cap:Nat)(zs:List Int):Prop:=
 (a=none∧len=0∧cap=0∧zs=[])∨
 ∃x,a=some x∧len≤cap∧cap≤maxLen∧zs.length=cap∧(∀i,i<zs.length→w.cell? (x.add i)=some (.int k (zs.getD i 0)))∧∀n∈zs,(Lit.int k n).wf=true
theorem wf_rng{k:IntKind}{n:Int}(h:(Lit.int k n).wf=true):k.min≤n∧n≤k.max:=by simpa [Lit.wf]using h
theorem Nm.of_row{k:IntKind}{w:World}{a:Option Addr}{len cap:Nat}{zs:List Int}(h:IsRow k w a len cap zs):Nm k w (.slice a len cap) (zs.take len)∧len≤maxLen:=by
 rcases h with⟨rfl,rfl,rfl,rfl⟩|⟨x,rfl,hl,hm,hz,hc,hw⟩
 ·exact⟨Nm.nil k w,Nat.zero_le _⟩
 ·have r:(zs.take len).length=len:=by rw[List.length_take];omega
  refine⟨⟨⟨some x,cap,by rw[r],by omega,by simp,fun ad ha j u hj=>?_,fun h=>by cases h⟩,fun y C=>wf_rng (hw y (List.mem_of_mem_take C))⟩,by omega⟩
  injection ha with ha;subst ha
  rw[List.getElem?_map,List.getElem?_take]at hj
  split at hj
  ·rename_i A
   have q:j<zs.length:=by omega
   rw[hc j q]
   simp [q]at hj
   simp [q,hj]
  ·cases hj
def Holds(w:World)(e:Ending)(w':World):Prop:=e=.returned (.bool true)∧Ev w w'
section
def I7(P:Program)(w:World)(t:TypeId)(cs:List Value):Prop:=∃(H:Type) (enc:TypeId×Value→H) (n:Nat) (y:DataW H×List MemPlace),DataW.trod enc P w 0 (fun _=>true) true n t cs=some y∧∀m∈y.1.weights P t,m≤reachBytes
theorem QJ{H:Type}{P:Program}{e:TypeId}:∀{ds:List (DataW H)} {d:DataW H},d∈ds→∀n∈d.weights P e,n∈DataW.weightsAll P e ds
 |d0::ds,d,hd,n,hn=>by
  simp only[DataW.weightsAll,List.mem_append]
  rcases List.mem_cons.1 hd with rfl|hd
  ·exact .inl hn
  ·exact .inr (QJ hd n hn)
section
variable {P:Program} {w:World} {t e:TypeId} {cs:List Value}
theorem JV{k:IntKind}(ht:P.underlying t=some (.int k))(h:I7 P w t cs):∃n,cs=[.int k n]∧k.min≤n∧n≤k.max:=by
 obtain⟨H,enc,n,y,h,_⟩:=h
 obtain⟨m,rfl,_,hw⟩:=DataW.trod_int ht h
 exact⟨m,rfl,wf_rng hw⟩
theorem qb5(ht:P.underlying t=some .string)(h:I7 P w t cs):∃s,cs=[.string s]∧s.size≤reachBytes:=by
 obtain⟨H,enc,n,y,h,hz⟩:=h
 obtain⟨m,rfl,rfl,hw⟩:=DataW.trod_string ht h
 refine⟨m,rfl,?_⟩
 have:=hz m.data.toList.length (by simp [DataW.weights])
 obtain⟨⟨l⟩⟩:=m;exact this
theorem qaG(ht:P.underlying t=some .bool)(h:I7 P w t cs):∃b,cs=[.bool b]:=by
 obtain⟨H,enc,n,y,h,_⟩:=h
 cases n with
 |zero=>simp [DataW.trod]at h
 |succ n=>
  unfold DataW.trod at h
  rw[ht]at h
  split at h<;>simp_all
theorem PN{r:Array Field}(ht:P.underlying t=some (.struct r))(h:I7 P w t cs):cs.length=P.cellsOf t∧∀(i:Nat) (f:Field),r[i]?=some f→I7 P w f.type ((cs.drop f.offset).take (P.cellsOf f.type)):=by
 obtain⟨H,enc,n,y,h,hz⟩:=h
 obtain⟨xs,m,_,u,hl,hx,hf⟩:=DataW.trod_struct ht h
 refine⟨hl,fun i f hi=>?_⟩
 have cR:i<xs.length:=by rw[hx];exact(Array.getElem?_eq_some_iff.1 hi).1
 refine⟨H,enc,m,xs[i],by rw[hf i f hi];simp [cR],fun q hq=>hz q ?_⟩
 rw[u]
 simp only[DataW.weights,ht]
 exact DataW.weights_mem_each (j:=i) (t:=f.type) (d:=xs[i].1) (by rw[List.getElem?_map,Array.getElem?_toList,hi];rfl) (by simp [cR]) q hq
theorem qgT(ht:P.underlying t=some (.slice e))(h:I7 P w t cs):∃a len cap,cs=[.slice a len cap]∧len≤cap∧cap≤maxLen∧(a=none→len=0∧cap=0)∧
  len*P.bytesOf e≤reachBytes∧∀ad,a=some ad→∀i,i<len→∃c:List Value,c.length=P.cellsOf e∧(∀j,j<P.cellsOf e→w.cell? ((ad.add (i*P.cellsOf e)).add j)=c[j]?)∧I7 P w e c:=by
 obtain⟨H,enc,n,y,h,hz⟩:=h
 rcases DataW.trod_slice ht h with⟨rfl,_⟩|⟨a,len,cap,r,C,m,_,rfl,N,hb,hl,hm,A,M,U,T⟩
 ·exact⟨none,0,0,rfl,Nat.le_refl _,Nat.zero_le _,(fun _=>⟨rfl,rfl⟩),by rw[Nat.zero_mul];exact Nat.zero_le _,(fun ad h=>by cases h)⟩
 ·rw[N]at hz
  refine⟨some a,len,cap,rfl,hl,hm,(fun h=>by cases h),?_,fun ad u i hi=>?_⟩
  ·have:=hz (((r.map (·.1)).length+(C.map (·.1)).length)*P.bytesOf e) (by simp only[DataW.weights,ht];exact List.mem_cons_self)
   refine Nat.le_trans (Nat.mul_le_mul_right _ ?_) this
   rw[List.length_map,A];exact Nat.le_add_right _ _
  injection u with u;subst u
  have O:=M i hi
  have cR:i<r.length:=by omega
  rw[show r[i]?=some r[i]by simp [cR],Option.bind_eq_some_iff]at O
  obtain⟨c,hc,V⟩:=O
  obtain⟨_,J,I⟩:=World.cells?_some hc
  refine⟨c,J,I,H,enc,m,r[i],V,fun q hq=>hz q ?_⟩
  simp only[DataW.weights,ht]
  refine List.mem_cons_of_mem _ (List.mem_append_left _ (QJ (d:=r[i].1) ?_ q hq))
  exact List.mem_map.2 ⟨r[i],List.getElem_mem cR,rfl⟩
theorem Addr.add2(ad:Addr)(i j:Nat)(h:ad.spot=none∨i=0∨j=0):(ad.add i).add j=ad.add (i+j):=by
 by_cases hi:i=0
 ·subst hi;rw[Addr.add_zero',Nat.zero_add]
 ·by_cases hj:j=0
  ·subst hj;rw[Addr.add_zero'];rfl
  ·have h1:ad.add i=⟨ad.block,ad.off+i,none⟩:=by unfold Addr.add;rw[if_neg hi]
   have h2:ad.add (i+j)=⟨ad.block,ad.off+(i+j),none⟩:=by unfold Addr.add;rw[if_neg (by omega)]
   rw[h1,h2,Addr.add_lit];congr 1;omega
theorem Addr.add2'(ad:Addr)(i j:Nat):(ad.add i).add j=ad.add (i+j):=by
 by_cases hi:i=0
 ·exact Addr.add2 ad i j (.inr (.inl hi))
 ·by_cases hj:j=0
  ·exact Addr.add2 ad i j (.inr (.inr hj))
  ·have h1:ad.add i=⟨ad.block,ad.off+i,none⟩:=by unfold Addr.add;rw[if_neg hi]
   have h2:ad.add (i+j)=⟨ad.block,ad.off+(i+j),none⟩:=by unfold Addr.add;rw[if_neg (by omega)]
   rw[h1,h2,Addr.add_lit];congr 1;omega
theorem qek{v:Value}{sz:Nat}(ht:P.underlying t=some (.slice e))(hz:P.cellsOf e=sz)(h:I7 P w t [v]):∃n cs,Sl w sz v n cs∧n≤maxLen∧n*P.bytesOf e≤reachBytes∧∀i,i<n→I7 P w e ((cs.drop (i*sz)).take sz):=by
 obtain⟨a,len,cap,hv,hl,hm,hn,r,A⟩:=qgT ht h
 simp only[List.cons.injEq,and_true]at hv
 subst hv;subst hz
 cases a with
 |none=>
  obtain⟨rfl,rfl⟩:=hn rfl
  exact⟨0,[],⟨none,0,rfl,Nat.le_refl _,by simp,(fun ad h=>by cases h),fun _=>rfl⟩,Nat.zero_le _,r,fun i hi=>by omega⟩
 |some ad=>
  have:∀m,m≤len→∃cs:List Value,cs.length=m*P.cellsOf e∧(∀j u,cs[j]?=some u→w.cell? (ad.add j)=some u)∧∀i,i<m→I7 P w e ((cs.drop (i*P.cellsOf e)).take (P.cellsOf e)):=by
   intro m
   induction m with
   |zero=>intro _;exact⟨[],by simp,(fun j u h=>by simp at h),fun i h=>by omega⟩
   |succ m T=>
    intro O
    obtain⟨cs,h1,h2,h3⟩:=T (by omega)
    obtain⟨c,C,J,c3⟩:=A ad rfl m (by omega)
    refine⟨cs++c,by rw[List.length_append,h1,C,Nat.succ_mul],fun j u hj=>?_,fun i hi=>?_⟩
    ·rw[List.getElem?_append]at hj
     split at hj
     ·exact h2 j u hj
     ·rename_i M
      have cR:=(List.getElem?_eq_some_iff.1 hj).1
      have:=J (j-cs.length) (by omega)
      rw[Addr.add2',h1,show m*P.cellsOf e+(j-m*P.cellsOf e)=j by omega]at this
      rw[this,←h1];exact hj
    ·by_cases e1:i=m
     ·subst e1
      rw[←h1,List.drop_left,←C,List.take_length];exact c3
     ·have N:i*P.cellsOf e+P.cellsOf e≤m*P.cellsOf e:=by
       have:=Nat.mul_le_mul_right (P.cellsOf e) (show i+1≤m by omega)
       rwa [Nat.succ_mul]at this
      rw[List.drop_append_of_le_length (by omega),List.take_append_of_le_length (by rw[List.length_drop];omega)]
      exact h3 i (by omega)
  obtain⟨cs,h1,h2,h3⟩:=this len (Nat.le_refl _)
  exact⟨len,cs,⟨some ad,cap,rfl,hl,h1,(fun I q j u hj=>by injection q with q;subst q;exact h2 j u hj),fun h=>by cases h⟩,by omega,r,h3⟩
theorem qej{k:IntKind}{v:Value}(ht:P.underlying t=some (.slice e))(he:P.underlying e=some (.int k))(hz:P.cellsOf e=1)(h:I7 P w t [v]):∃xs,Nm k w v xs∧xs.length≤maxLen∧xs.length*P.bytesOf e≤reachBytes:=by
 obtain⟨n,cs,hS,hn,r,hg⟩:=qek ht hz h
 have u:cs.length=n:=by obtain⟨_,_,_,_,h,_⟩:=hS;omega
 have:∀m,m≤n→∃xs:List Int,cs.take m=xs.map (.int k)∧inR k xs:=by
  intro m
  induction m with
  |zero=>intro _;exact⟨[],by simp,fun x hx=>by cases hx⟩
  |succ m C=>
   intro hm
   obtain⟨xs,h1,h2⟩:=C (by omega)
   obtain⟨x,hx,A⟩:=JV he (hg m (by omega))
   refine⟨xs++[x],?_,fun y j=>?_⟩
   ·rw[List.take_succ_eq_append_getElem (by omega),h1,List.map_append]
    rw[Nat.mul_one,List.drop_eq_getElem_cons (by omega),List.take_succ_cons,List.take_zero]at hx
    simp only[List.cons.injEq,and_true]at hx
    rw[hx];rfl
   ·rcases List.mem_append.1 j with j|j
    ·exact h2 y j
    ·simp at j;subst j;exact A
 obtain⟨xs,h1,h2⟩:=this n (Nat.le_refl _)
 rw[List.take_of_length_le (by omega)]at h1
 have q:xs.length=n:=by rw[←u,h1,List.length_map]
 exact⟨xs,⟨by rw[q,←h1];exact hS,h2⟩,by omega,by rw[q];exact r⟩
theorem qb4{k:IntKind}{v:Value}(ht:P.underlying t=some (.slice e))(he:P.underlying e=some (.int k))(hz:P.cellsOf e=1)(h:I7 P w t [v]):∃xs,Nm k w v xs∧xs.length≤maxLen:=
 let⟨xs,h1,h2,_⟩:=qej ht he hz h
 ⟨xs,h1,h2⟩
def qqU(P:Program)(t:TypeId)(i off:Nat)(ft:TypeId):Bool:=match P.underlying t with
 |some (.struct j)=>match j[i]? with
  |some f=>Nat.beq f.offset off&&Nat.beq f.type ft&&Nat.beq (P.cellsOf ft) 1&&Nat.blt off (P.cellsOf t)
  |none=>false
 |_=>false
theorem rR{i off:Nat}{ft:TypeId}(hf:qqU P t i off ft=true)(h:I7 P w t cs):∃v,cs[off]?=some v∧I7 P w ft [v]:=by
 unfold qqU at hf
 split at hf
 ·rename_i j hu
  split at hf
  ·rename_i f hi
   simp only[Bool.and_eq_true]at hf
   obtain⟨⟨⟨h1,h2⟩,h3⟩,h4⟩:=hf
   have hs:=PN hu h
   have hg:=hs.2 i f hi
   rw[Nat.eq_of_beq_eq_true h1,Nat.eq_of_beq_eq_true h2,Nat.eq_of_beq_eq_true h3]at hg
   have cR:off<cs.length:=by rw[hs.1];exact Nat.le_of_ble_eq_true h4
   rw[List.drop_eq_getElem_cons cR,List.take_succ_cons,List.take_zero]at hg
   exact⟨cs[off],by simp [cR],hg⟩
  ·cases hf
 ·cases hf
theorem good_of{H:Type}{enc:TypeId×Value→H}{y:DataW H×List MemPlace}(h:∃m,DataW.trod enc P w 0 (fun _=>true) true m t cs=some y)(hz:∀m∈y.1.weights P t,m≤reachBytes):I7 P w t cs:=let⟨m,h⟩:=h;⟨H,enc,m,y,h,hz⟩
theorem okWide_agg{P:Program}{t:TypeId}{j:Array Field}{w:World}{r:Reach}{b:Nat}{v:Value}(ht:P.underlying t=some (.struct j))(h:Value.okWide P w r b t v):∃cs,v=.agg cs∧cs.size=P.cellsOf t:=by
 unfold Value.okWide at h
 rw[ht]at h
 obtain⟨cs,h1,h2,_⟩:=h
 exact⟨cs,h1,h2⟩
theorem wts_of{H:Type}{P:Program}{ts:List TypeId}{ds:List (DataW H)}(h:(DataW.weightsEach P ts ds).all (· ≤reachBytes)=true){j:Nat}{t:TypeId}{d:DataW H}(ht:ts[j]?=some t)(hd:ds[j]?=some d):∀m∈d.weights P t,m≤reachBytes:=fun m hm=>by
 have:=List.all_eq_true.1 h m (DataW.weights_mem_each ht hd m hm);simpa using this
theorem JS{t:TypeId}{r:IntKind}{sz:Nat}{v:Value}{n:Nat}{cs:List Value}{i:Nat}{K:Addr→Prop}(h:Sl w sz v n cs)(h1:i<n)
  (hk:∀ad,(∀j u,j<sz→cs[i*sz+j]?=some u→w.cell? (ad.add j)=some u)→v.ownBlock=some ad.block→K ad) (ht:YJ P t sz=true:=by kernel_rfl):aX P t v (.int r i) K:=by
 obtain⟨hu,A,hi,q⟩:=M6 ht
 obtain⟨a,c,rfl,_,hl,h3,h4⟩:=h
 cases a with
 |none=>have:=h4 rfl;omega
 |some ad=>
  refine⟨ad.add (i*sz),fun w=>?_,hk _ (fun j u hj hu=>by rw[Addr.add2'];exact h3 ad rfl _ u hu) ?_⟩
  ·simp only[Instr.indexAt,asIntOf,Sem.run_bind,Sem.run_pure,Result.andThen_ok,run_underlying hu]
   rw[if_pos ⟨by omega,by omega⟩]
   simp [sizeOf,typeInfo,hi,q]
  ·show some ad.block=some (ad.add (i*sz)).block
   unfold Addr.add;split<;>rfl
end
end
end Go.Proofs.YtabchipjjghhnaaGreatDoorV
