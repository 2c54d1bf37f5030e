import Derived.Lib.Bytealg
import Derived.Test.YtabchipjjghhnaaGreatDoorVPart7
set_option linter.unusedVariables false
set_option linter.unusedSimpArgs false
namespace Go.Proofs.YtabchipjjghhnaaGreatDoorV
open Go Go.RowKit
section
abbrev E3:=ByteArray×Value×List Int
instance:Inhabited E3:=⟨(⟨#[]⟩,bR,[])⟩
def c3(u:E3):List Value:=[.string u.1,u.2.1]
def gA(us:List E3):List Value:=us.flatMap c3
def er(u:E3):En:=(u.1,u.2.2)
theorem tA(u:E3)(us:List E3):gA (u::us)=.string u.1::u.2.1::gA us:=rfl
theorem UP:∀us:List E3,(gA us).length=us.length*2
 |[]=>rfl
 |u::us=>by rw[tA];simp only[iO,UP us];omega
theorem E9(a b:List E3):gA (a++b)=gA a++gA b:=by simp [gA]
theorem V0:∀{us:List E3} {i:Nat} {u:E3},us[i]?=some u→(gA us)[i*2]?=some (.string u.1)∧(gA us)[i*2+1]?=some u.2.1
 |[],_,_,h=>by simp at h
 |x::us,0,u,h=>by
  simp at h;subst h;exact⟨rfl,rfl⟩
 |x::us,i+1,u,h=>by
  have h2:=V0 (us:=us) (i:=i) (u:=u) (by simpa using h)
  rw[tA,show(i+1)*2=i*2+2 by omega]
  simpa using h2
theorem PF(us:List E3)(i:Nat):(gA us).take (i*2)=gA (us.take i):=by
 induction us generalizing i with
 |nil=>simp [gA]
 |cons u us j=>
  cases i with
  |zero=>simp [gA]
  |succ i=>rw[tA,show(i+1)*2=i*2+1+1 by omega,ZF,ZF,j,ZF,tA]
theorem PE(us:List E3)(i:Nat):(gA us).drop (i*2)=gA (us.drop i):=by
 induction us generalizing i with
 |nil=>simp [gA]
 |cons u us j=>
  cases i with
  |zero=>simp
  |succ i=>rw[tA,show(i+1)*2=i*2+1+1 by omega,List.drop_succ_cons,List.drop_succ_cons,j,List.drop_succ_cons]
theorem qgy{us:List E3}{i:Nat}{u:E3}(h:i<us.length):(gA us).take (i*2)++c3 u++(gA us).drop (i*2+2)=gA (us.set i u):=by
 rw[PF,show i*2+2=(i+1)*2 by omega,PE,List.set_eq_take_append_cons_drop,if_pos h,E9,tA]
 simp [c3]
theorem qup{us:List E3}(h:∀u∈us,u.2.1.oneCell'=true):∀v∈gA us,v.oneCell'=true:=fun v hv=>by
 obtain⟨u,hu,hv⟩:=List.mem_flatMap.1 hv
 simp only[c3,I5,GL,or_false]at hv
 rcases hv with rfl|rfl
 ·rfl
 ·exact h u hu
def Es(w:World)(v:Value)(us:List E3):Prop:=Sl w 2 v us.length (gA us)∧∀u∈us,Nm .u8 w u.2.1 u.2.2
theorem Es.ev{w w':World}{v:Value}{us:List E3}(h:Es w v us)(he:Ev w w'):Es w' v us:=⟨h.1.ev he,fun u hu=>(h.2 u hu).ev he⟩
theorem Nm.oc{k:IntKind}{w:World}{v:Value}{xs:List Int}(h:Nm k w v xs):v.oneCell'=true:=by obtain⟨a,c,rfl,_⟩:=h.shape;rfl
theorem Es.cell{w:World}{v:Value}{us:List E3}(h:Es w v us){i:Nat}{u:E3}(hu:us[i]?=some u){ad:Addr}(hc:∀j x,j<2→(gA us)[i*2+j]?=some x→w.cell? (ad.add j)=some x):w.cell? (ad.add 0)=some (.string u.1)∧w.cell? (ad.add 1)=some u.2.1:=
 ⟨hc 0 _ (by omega) (V0 hu).1,hc 1 _ (by omega) (V0 hu).2⟩
def lst(n:Nat)(f:Nat→E3):List E3:=(List.range n).map f
theorem EA(n:Nat)(f:Nat→E3):(lst n f).length=n:=by simp [lst]
theorem TA{n i:Nat}(f:Nat→E3)(h:i<n):(lst n f)[i]?=some (f i):=by simp [lst,h]
def qcG(f:Nat→E3)(i:Nat)(u:E3):Nat→E3:=fun k=>if k=i then u else f k
theorem qpP{n i:Nat}(f:Nat→E3)(u:E3)(h:i<n):(lst n f).set i u=lst n (qcG f i u):=by
 refine qbp fun j=>?_
 rw[ZG]
 by_cases hj:j<n
 ·rw[TA (qcG f i u) hj]
  by_cases e:i=j
  ·subst e;rw[if_pos rfl,if_pos (by rw[EA];exact h)];simp [qcG]
  ·rw[if_neg e,TA f hj];simp [qcG,show ¬j=i from fun h=>e h.symm]
 ·rw[I4 (l:=lst n (qcG f i u)) (by rw[EA];omega),if_neg (by omega),I4 (by rw[EA];omega)]
theorem qr3(us:List E3):us=lst us.length (fun i=>us.getD i default):=by
 refine qbp fun j=>?_
 by_cases hj:j<us.length
 ·rw[TA _ hj,fR hj];simp [hj]
 ·rw[I4 (by omega),I4 (by rw[EA];omega)]
theorem qnK(f:Nat→E3)(i j:Nat):qcG (qcG f i (f j)) j (f i)=swp f i j:=by
 funext k;unfold qcG swp
 by_cases h1:k=j
 ·rw[if_pos h1]
  by_cases h2:k=i
  ·rw[if_pos h2,←h1,←h2]
  ·rw[if_neg h2,if_pos h1]
 ·rw[if_neg h1]
  by_cases h2:k=i
  ·rw[if_pos h2,if_pos h2]
  ·rw[if_neg h2,if_neg h2,if_neg h1]
def AO(e:TypeId)(v:Value)(n:Nat)(f:Nat→E3):It:=lK e 2 v n (gA (lst n f))
def Ok1(f:Nat→E3):Prop:=∀k,(f k).2.1.oneCell'=true
theorem Ok1.perm{f g:Nat→E3}{a b:Nat}(h:Ok1 f)(hp:PermOn a b f g):Ok1 g:=fun k=>by obtain⟨s,t,e,_⟩:=hp;rw[e];exact h _
section
variable {w0 w w':World} {G:List It} {e:TypeId} {v:Value} {n:Nat} {f:Nat→E3}
theorem yD{i:Int}{I:IntKind}{B:World→Prop}{K:ByteArray→Value→Prop}(h:Fr w0 w (AO e v n f::G))(j:Nat)(A:i=(j:Int))(hj:j<n)(hB:∀w',B w'→Ev w w')(hk:K (f j).1 (f j).2.1):
  aX P aJ v (.int I i) fun ad=>aI P aR (.part (.agg [.str,.val])) (aH ad) B fun s d=>K s d:=by
 have C:w.ownsRow 0 e 2 v n (gA (lst n f)):=h.1
 refine uE C A hj fun ad hs=>mB [.string (f j).1,(f j).2.1] (fun w' hw q u hq=>?_) hk
 have hg:=V0 (TA f hj)
 have r:=SltR.cell C hs (q:=0) hg.1
 have hc1:=SltR.cell C hs (q:=1) hg.2
 rcases q with _|_|q
 ·simp at hq;subst hq;exact Ch.cell (hB w' hw) r fun h=>h
 ·simp at hq;subst hq;exact Ch.cell (hB w' hw) hc1 fun h=>h
 ·simp at hq
theorem qmv{i:Int}{C:IntKind}{K:World→Prop}(h:Fr w0 w (AO e v n f::G))(j:Nat)(u:E3)(r:i=(j:Int))(hj:j<n)(hu:u.2.1.oneCell'=true)(hk:∀w',Fr w0 w' (AO e v n (qcG f j u)::G)→K w'):
  aX P aJ v (.int C i) fun ad=>aL P aR (aH ad) (.agg #[.string u.1,u.2.1]) w K:=by
 have A:w.ownsRow 0 e 2 v n (gA (lst n f)):=h.1
 refine uE A r hj fun ad hs=>qiH (j:=j) h 0 rfl hs hj rfl (fun x hx=>?_) fun w' hw=>hk w' ?_
 ·simp at hx;rcases hx with rfl|rfl
  ·rfl
  ·exact hu
 ·have q:=qgy (us:=lst n f) (i:=j) (u:=u) (by rw[EA];exact hj)
  rw[show(#[Value.string u.1,u.2.1]:Array Value).toList=c3 u from rfl,q,qpP f u hj]at hw
  exact hw
theorem MQ{w w':World}(h:w'=w.drew):Ev w.drew w':=by subst h;exact Ch.refl _ _
def qmj(a b:ByteArray):Int:=Lib.compareBytes a.data.toList b.data.toList
theorem qdj(a b:ByteArray):Calls P vD #[.string a,.string b] w (fun e w'=>e=aW (aB (qmj a b))∧w'=w):=
 IB (bX (n:=qmj a b) (tP (qbY (by kernel_rfl) (Lib.run_compareString a b w) ⟨rfl,rfl⟩ (by kernel_rfl))) ⟨rfl,rfl⟩)
theorem qgv(a b:ByteArray)(da q:Value)(ha:da.oneCell'=true)(hb:q.oneCell'=true):Calls P uX #[.agg #[.string a,da],.agg #[.string b,q]] w (fun e w'=>e=aW (aB (qmj a b))∧Ev w w'):=
 RQ (mL (Fr.start w) fun a2 w1 r=>mL r fun u w2 j=>yF (j.cell 1 0 rfl rfl) (yF (j.cell 0 0 rfl rfl) (bX (qdj a b) ⟨rfl,j.old⟩)))
abbrev byV:Value:=.func (.func uX) #[] #[]
theorem qpt{a b:ByteArray}{da j:Value}{K:Int→World→Prop}(ha:da.oneCell'=true)(hb:j.oneCell'=true)(hk:∀w',Ev w w'→K (qmj a b) w'):iB P byV bA #[.agg #[.string a,da],.agg #[.string b,j]] w K:=
 ⟨_,_,_,rfl,by kernel_rfl,bQ (qgv a b da j ha hb) hk⟩
theorem SV(a b:ByteArray):decide (qmj a b<0)=G5 a b:=qpV a b
theorem qiO{i j:Int}{K:World→Prop}(h:Fr w0 w (AO e v n f::G))(N:Ok1 f)(p q:Nat)(r:i=(p:Int))(u:j=(q:Int))(hp:p<n)(hq:q<n)(hk:∀w',Fr w0 w' (AO e v n (swp f p q)::G)→K w'):
  ∃B C:World→Prop,(B w.drew∧C w.drew)∧aX P aJ v (aB j) fun A=>aI P aR (.part (.agg [.str,.val])) (aH A) C fun s1 d1=>aX P aJ v (aB i) fun I=>aI P aR (.part (.agg [.str,.val])) (aH I) C fun O d2=>
   aX P aJ v (aB i) fun J=>aL P aR (aH J) (.agg #[.string s1,d1]) w.drew fun w2=>B w2∧aX P aJ v (aB j) fun M=>aL P aR (aH M) (.agg #[.string O,d2]) w2 fun w3=>B w3∧K w3:=by
 have hd:=h.drew
 refine⟨fun _=>True,fun w'=>w'=w.drew,⟨trivial,rfl⟩,yD hd q u hq (fun _=>MQ) (yD hd p r hp (fun _=>MQ) (qmv hd p (f q) r hp (N q) fun w2 h2=>⟨trivial,qmv h2 q (f p) u hq (N p) fun w3 h3=>⟨trivial,hk w3 ?_⟩⟩))⟩
 rw[qnK]at h3;exact h3
theorem Ok1.sw(q:Ok1 f)(i j:Nat):Ok1 (swp f i j):=fun k=>by unfold Go.Proofs.YtabchipjjghhnaaGreatDoorV.swp;split;exact q _;split;exact q _;exact q _
theorem Q0(hv:Fr w0 w (AO e v n f::G))(C:Ok1 f)(a b m:Nat)(cv:Value)(h1:a+m≤b)(h2:b+m≤n)(hn:n≤1000000000000):
  Calls P eH #[v,aB a,aB b,aB m,cv] w (fun u w'=>u=bP #[]∧Fr w0 w' (AO e v n (swR a b m f)::G)):=by
 refine rI ⟨fun i w'=>∃j:Nat,i=(j:Int)∧j≤m∧Ok1 (swR a b j f)∧Fr w0 w' (AO e v n (swR a b j f)::G),fun i _=>m-i.toNat,⟨0,rfl,bW _,by rw[qfv];exact C,by rw[qfv];exact hv⟩,?_⟩
 rintro _ i w1 ⟨j,rfl,hj,q,g1⟩
 refine aG (fun cR=>?_) (fun A=>?_)
 ·have r:j<m:=by omega
  refine qiO g1 q (a+j) (b+j) (by rw[aD (by omega) (by omega)];omega) (by rw[aD (by omega) (by omega)];omega) (by omega) (by omega) fun w2 g2=>?_
  rw[qfu a b j f (by omega)]at g2
  refine⟨⟨j+1,by rw[aD (by omega) (by omega)];omega,by omega,?_,g2⟩,by dsimp only;rw[aD (by omega) (by omega)];omega⟩
  rw[←qfu a b j f (by omega)];exact q.sw _ _
 ·obtain rfl:j=m:=by omega
  exact⟨rfl,g1⟩
theorem qoc(j:Ok1 f)(a b m:Nat):Ok1 (swR a b m f):=fun k=>by unfold swR;split;exact j _;split;exact j _;exact j _
theorem qhQ(hv:Fr w0 w (AO e v n f::G))(O:Ok1 f)(a m b:Nat)(cv:Value)(h1:a<m)(h2:m<b)(h3:b≤n)(hn:n≤1000000000000):
  Calls P iJ #[v,aB a,aB m,aB b,cv] w (fun C w'=>C=bP #[]∧Fr w0 w' (AO e v n (rot a m b f)::G)):=by
 refine tT ⟨fun i j w'=>∃(p q:Nat) (g:Nat→E3),i=(p:Int)∧j=(q:Int)∧0<p∧0<q∧a+p≤m∧m+q≤b∧Ok1 g∧rot (m-p) m (m+q) g=rot a m b f∧Fr w0 w' (AO e v n g::G),fun i j _=>(i+j).toNat,?_,?_⟩
 ·refine⟨m-a,b-m,f,by rw[aD (by omega) (by omega)];omega,by rw[aD (by omega) (by omega)];omega,by omega,by omega,by omega,by omega,O,?_,hv⟩
  rw[show m-(m-a)=a by omega,show m+(b-m)=b by omega]
 rintro _ i j w1 ⟨p,q,g,rfl,rfl,hp,hq,r,u,hg,A,g1⟩
 refine cA (fun N=>aG (fun J=>?_) (fun M=>?_)) (fun I=>?_)
 ·rw[aD (n:=(m:Int)-p) (by omega) (by omega),show((m:Int)-p)=((m-p:Nat):Int)by omega]
  refine cZ (Q0 g1 hg (m-p) m q cv (by omega) (by omega) hn) fun w2 g2=>?_
  rw[aD (n:=(p:Int)-q) (by omega) (by omega)]
  refine⟨⟨p-q,q,_,by omega,rfl,by omega,hq,by omega,u,qoc hg _ _ _,?_,g2⟩,by dsimp only;omega⟩
  rw[qsh m p q g (by omega) (by omega)];exact A
 ·have cR:p<q:=by omega
  rw[aD (n:=(m:Int)-p) (by omega) (by omega),aD (n:=(m:Int)+q) (by omega) (by omega),aD (n:=(m:Int)+q-p) (by omega) (by omega),show((m:Int)-p)=((m-p:Nat):Int)by omega,show((m:Int)+q-p)=((m+q-p:Nat):Int)by omega]
  refine cZ (Q0 g1 hg (m-p) (m+q-p) p cv (by omega) (by omega) hn) fun w2 g2=>?_
  rw[aD (n:=(q:Int)-p) (by omega) (by omega)]
  refine⟨⟨p,q-p,_,rfl,by omega,hp,by omega,r,by omega,qoc hg _ _ _,?_,g2⟩,by dsimp only;omega⟩
  rw[qsi m p q g (by omega) cR];exact A
 ·obtain rfl:p=q:=by omega
  rw[aD (n:=(m:Int)-p) (by omega) (by omega),show((m:Int)-p)=((m-p:Nat):Int)by omega]
  refine cZ (Q0 g1 hg (m-p) m p cv (by omega) (by omega) hn) fun w2 g2=>⟨rfl,?_⟩
  rw[qsg m p g (by omega),A]at g2
  exact g2
end
end
section
def K3(auto:Bool)(ts:List Int)(level block:Int)(locked:Bool)(ns j rounds:Int):Bool:=
 !decide (level<0∨level≥3∨block<16∨block>65536)&&(!(!iL ts||(auto&&decide (ts.length>0)))&&(if locked=true then decide (ns=16∧j=12∧1≤rounds∧rounds≤1000)else decide (ns=0∧j=0∧rounds=0)))
def xH(ts:List Int):List Int:=(ts.map fun t=>eD (gD t).toNat).flatten
def AH(ts:List Int):List Int:=eD ts.length++xH ts
theorem qle(a b:List Int):xH (a++b)=xH a++xH b:=by simp [xH]
theorem EG(t:Int):(eD (gD t).toNat).length≤10:=fH (by rw[dW];omega)
theorem OR:∀ts:List Int,(xH ts).length≤10*ts.length
 |[]=>by simp [xH]
 |t::ts=>by
  have:=OR ts
  have h:=EG t
  have e:xH (t::ts)=eD (gD t).toNat++xH ts:=by simp [xH]
  rw[e,bD,iO];omega
theorem OQ(ts:List Int)(h:ts.length≤1000000000):(AH ts).length≤10*ts.length+10:=by
 have:=OR ts
 have h2:=fH (n:=ts.length) (by omega)
 unfold AH;rw[bD];omega
structure ItP where
 name:ByteArray
 size:Int
 sum:Int
 chain:List Int
 packed:Int
structure ItV where
 p:ItP
 cv:Value
def c5(u:ItV):List Value:=[.string u.p.name,aB u.p.size,.int .u32 u.p.sum,u.cv,aB u.p.packed]
def pJ(us:List ItV):List Value:=us.flatMap c5
theorem PG(u:ItV)(us:List ItV):pJ (u::us)=c5 u++pJ us:=rfl
theorem qgA(a b:List ItV):pJ (a++b)=pJ a++pJ b:=by simp [pJ]
theorem UR:∀{us:List ItV} {i:Nat} {u:ItV},us[i]?=some u→∀(j:Nat) (x:Value),j<5→(c5 u)[j]?=some x→(pJ us)[i*5+j]?=some x
 |[],_,_,h,_,_,_,_=>by simp at h
 |y::us,0,u,h,j,x,hj,hx=>by
  simp at h;subst h
  rw[PG,qac,vV,T8 (by exact hj)];exact hx
 |y::us,i+1,u,h,j,x,hj,hx=>by
  have h2:=UR (us:=us) (i:=i) (u:=u) (by simpa using h) j x hj hx
  rw[PG,show(i+1)*5+j=5+(i*5+j)by omega,T9 (by show 5≤_;omega)]
  rw[show 5+(i*5+j)-(c5 y).length=i*5+j by show 5+(i*5+j)-5=_;omega];exact h2
def Is(w:World)(v:Value)(us:List ItV):Prop:=Sl w 5 v us.length (pJ us)∧∀u∈us,Nm .i64 w u.cv u.p.chain
theorem Is.ev{w w':World}{v:Value}{us:List ItV}(h:Is w v us)(he:Ev w w'):Is w' v us:=⟨h.1.ev he,fun u hu=>(h.2 u hu).ev he⟩
def itB(p:ItP):List Int:=eD p.name.size++TJ p.name++eD (gD p.size).toNat++sJ (gD p.sum) 4++AH p.chain++eD (gD p.packed).toNat
def mC(ps:List ItP):List Int:=(ps.map itB).flatten
def W6(ps:List ItP):List Int:=eD ps.length++mC ps
theorem qg1(a b:List ItP):mC (a++b)=mC a++mC b:=by simp [mC]
def okP(p:ItP):Prop:=p.name.size≤4096∧p.chain.length≤10
theorem qpN{p:ItP}(h:okP p):(itB p).length≤5000:=by
 have h1:=fH (n:=p.name.size) (by have:=h.1;omega)
 have h2:=OQ p.chain (by have:=h.2;omega)
 have h3:=EG p.size
 have h4:=EG p.packed
 have:=h.1
 have:=h.2
 unfold itB
 simp only[bD,vP,lV]
 omega
theorem HD:∀{ps:List ItP},(∀p∈ps,okP p)→(mC ps).length≤5000*ps.length
 |[],_=>by simp [mC]
 |p::ps,h=>by
  have:=HD (ps:=ps) fun q hq=>h q (by simp [hq])
  have h2:=qpN (h p (by simp))
  have e:mC (p::ps)=itB p++mC ps:=by simp [mC]
  rw[e,bD,iO];omega
theorem qfk{α:Type}(l:List α)(i:Nat)(a b:α):(l.set i a).set i b=l.set i b:=List.set_set ..
theorem qeh{α:Type}{l:List α}{i:Nat}{x:α}(h:l[i]?=some x)(a:α):(l.set i a)[i]?=some a:=by
 have:=(List.getElem?_eq_some_iff.1 h).1
 rw[ZG];simp [this]
theorem xO{α:Type}:∀(l:List α) (i:Nat) (a:α),(l.set i a).eraseIdx i=l.eraseIdx i
 |[],_,_=>rfl
 |_::_,0,_=>rfl
 |x::l,i+1,a=>by show x::(l.set i a).eraseIdx i=x::l.eraseIdx i;rw[xO l i a]
section
variable {w0 w:World} {F:List It}
theorem qbZ{i:Int}{r:IntKind}{v:Value}{us:List ItV}{j:Nat}{u:ItV}{K:Addr→Prop}(h:Is w v us)(q:i=(j:Int))(hu:us[j]?=some u)(hk:∀ad,(∀z x,(c5 u)[z]?=some x→w.cell? (ad.add z)=some x)→K ad):aX P bB v (.int r i) K:=by
 subst q
 refine JS h.1 (List.getElem?_eq_some_iff.1 hu).1 (fun ad hc _=>hk ad fun z x hx=>hc z x ?_ (UR hu z x ?_ hx))
 ·exact(List.getElem?_eq_some_iff.1 hx).1
 ·exact(List.getElem?_eq_some_iff.1 hx).1
theorem TN{auto locked:Bool}{cv sv r:Value}{level block rounds:Int}{ts ss ns:List Int}(hc:Nm .i64 w cv ts)(hs:Nm .u8 w sv ss)(hn:Nm .u8 w r ns)(hl:ts.length≤1000000000):
  Calls P L5 #[.agg #[.bool auto,cv,aB level,aB block,.bool locked,sv,r,aB rounds]] w (fun e w'=>e=aW (.bool (K3 auto ts level block locked ss.length ns.length rounds))∧Ev w w'):=by
 have I:(level<0∨level≥3∨block<16∨block>65536)→K3 auto ts level block locked ss.length ns.length rounds=false:=fun h=>by unfold K3;rw[decide_eq_true h];rfl
 refine qcm (mL (Fr.start w) fun ad w1 j=>⟨fun w'=>Fr w w' [aT ad [.bool auto,cv,aB level,aB block,.bool locked,sv,r,aB rounds]]∧K3 auto ts level block locked ss.length ns.length rounds=decide (ss.length=0∧ns.length=0∧rounds=0),⟨fun b w'=>w'=w1∧b=decide (level<0∨level≥3∨block<16∨block>65536),?_,?_⟩,?_⟩)
 ·refine cI j 0 2 rfl rfl (cC (fun h1=>cI j 0 2 rfl rfl (cC (fun h2=>cI j 0 3 rfl rfl (cC (fun h3=>cI j 0 3 rfl rfl ⟨rfl,?_⟩) (fun h3=>⟨rfl,?_⟩))) (fun h2=>⟨rfl,?_⟩))) (fun h1=>⟨rfl,?_⟩))
  ·exact decide_eq_decide.2 (by omega)
  ·rw[decide_eq_true (by omega)]
  ·rw[decide_eq_true (by omega)]
  ·rw[decide_eq_true (by omega)]
 ·rintro _ b w2 ⟨C,rfl⟩
  obtain rfl:w1=w2:=C.symm
  refine aG (fun hb=>⟨by rw[I hb],j.old⟩) (fun hb=>?_)
  have e1:K3 auto ts level block locked ss.length ns.length rounds=(!(!iL ts||(auto&&decide (ts.length>0)))&&(if locked=true then decide ((ss.length:Int)=16∧(ns.length:Int)=12∧1≤rounds∧rounds≤1000)else decide ((ss.length:Int)=0∧(ns.length:Int)=0∧rounds=0))):=by
   unfold K3;rw[decide_eq_false hb];rfl
  refine⟨fun b w'=>Fr w w' [aT ad [.bool auto,cv,aB level,aB block,.bool locked,sv,r,aB rounds]]∧b=(!iL ts||(auto&&decide (ts.length>0))),?_,?_⟩
  ·refine dY j 0 1 rfl rfl (gC (U8 (hc.ev j.old) hl) fun w3 h3=>?_)
   have f3:=j.ev h3
   refine yE (fun q=>JN f3 0 0 rfl rfl ?_) (fun q=>⟨f3,by rw[q];rfl⟩)
   refine iQ (fun ha=>dY f3 0 1 rfl rfl (aP (hc.ev f3.old) ⟨f3,?_⟩)) (fun ha=>⟨f3,by rw[q,ha];rfl⟩)
   rw[q,ha]
   exact decide_eq_decide.2 (by omega)
  ·rintro _ b w3 ⟨f3,A⟩
   rw[←A]at e1
   cases b with
   |true=>exact qS ⟨by rw[e1];rfl,f3.old⟩
   |false=>
    refine iR (JN f3 0 4 rfl rfl ?_)
    cases locked with
    |false=>exact iR ⟨f3,by rw[e1];simp only[Bool.not_false,Bool.true_and];rw[if_neg (by decide)];exact decide_eq_decide.2 (by omega)⟩
    |true=>
     rw[show(!false)=true from rfl,Bool.true_and,if_pos rfl]at e1
     refine qS (dY f3 0 5 rfl rfl (aP (hs.ev f3.old) (cN (fun h1=>dY f3 0 6 rfl rfl (aP (hn.ev f3.old) (cN (fun h2=>cI f3 0 7 rfl rfl (aG (fun h3=>cI f3 0 7 rfl rfl ⟨?_,f3.old⟩) (fun h3=>⟨?_,f3.old⟩))) (fun h2=>⟨?_,f3.old⟩)))) (fun h1=>⟨?_,f3.old⟩))))
     ·rw[e1];congr 2;exact decide_eq_decide.2 (by omega)
     ·rw[e1,decide_eq_false (by omega)]
     ·rw[e1,decide_eq_false (by omega)]
     ·rw[e1,decide_eq_false (by omega)]
 ·rintro _ w5 ⟨f5,u⟩
  refine dY f5 0 5 rfl rfl (aP (hs.ev f5.old) (cN (fun h1=>dY f5 0 6 rfl rfl (aP (hn.ev f5.old) (cN (fun h2=>cI f5 0 7 rfl rfl ⟨?_,f5.old⟩) (fun h2=>⟨?_,f5.old⟩)))) (fun h1=>⟨?_,f5.old⟩)))
  ·rw[u];congr 2;show decide (rounds=0)=_;exact decide_eq_decide.2 (by omega)
  ·rw[u,decide_eq_false (by omega)]
  ·rw[u,decide_eq_false (by omega)]
theorem qd5{ad:Addr}{v:Value}{xs:List Int}{n:Int}{K:World→Prop}(f:Fr w0 w F)(i:Nat)(hi:F[i]?=some (rN eB ad v xs))(hl:xs.length+10≤10000000000)
  (hk:∀v' w',Fr w0 w' (F.set i (rN eB ad v' (xs++eD (gD n).toNat)))→K w'):aE P bY jO #[aH ad,.int .u64 (gD n)] w K:=
 c9 f i hi (by rw[dW];omega) hl hk
theorem qbn{ad:Addr}{v lv:Value}{xs ts:List Int}(f:Fr w0 w F)(i:Nat)(hi:F[i]?=some (rN eB ad v xs))(hn:∀w',Fr w0 w' (F.eraseIdx i)→Nm .i64 w' lv ts)(hl:xs.length+10*ts.length+20≤10000000000):
  Calls P pA #[aH ad,lv] w (fun e w'=>e=bP #[]∧∃v',Fr w0 w' (F.set i (rN eB ad v' (xs++AH ts)))):=by
 refine HP (aC (aP (hn w (f.drop i)) ?_))
 rw[Addr.add_zero',show gD (ts.length:Int)=(ts.length:Int)by rw[dW];omega]
 have M:=fH (n:=ts.length) (by omega)
 refine c9 f i hi (by omega) (by omega) fun v1 w1 u=>aP (hn w1 (by have:=u.drop i;rwa [xO]at this)) ?_
 rw[dH]at u
 refine⟨fun t w'=>∃(j:Nat) (v':Value),t=j∧j≤ts.length∧Fr w0 w' (F.set i (rN eB ad v' (xs++eD ts.length++xH (ts.take j)))),fun t _=>(ts.length-t).toNat,⟨0,v1,rfl,by omega,by rw[MC];show Fr w0 w1 (F.set i (rN eB ad v1 (xs++eD ts.length++[])));rw[iW];exact u⟩,?_⟩
 rintro _ t w2 ⟨j,v2,rfl,hj,r⟩
 have I:Nm .i64 w2 lv ts:=hn w2 (by have:=r.drop i;rwa [xO]at this)
 refine aG (fun cR=>uC I (by omega) (by omega) (aC ?_)) (fun J=>?_)
 ·have q:j<ts.length:=by omega
  have C:ts.take (j+1)=ts.take j++[rd ts (j:Int)]:=by rw[iV q,←dK ts j q]
  have A:=OR (ts.take j)
  rw[eJ]at A
  rw[Addr.add_zero']
  refine qd5 r i (qeh hi _) (by simp only[List.length_append];omega) fun v3 w3 f3=>⟨⟨j+1,v3,by rw[aD (by omega) (by omega)];omega,by omega,?_⟩,by dsimp only;rw[aD (by omega) (by omega)];omega⟩
  rw[qfk]at f3
  rw[C,qle]
  have e:xH [rd ts (j:Int)]=eD (gD (rd ts (j:Int))).toNat:=by simp [xH]
  rw[e,←gY];exact f3
 ·obtain rfl:j=ts.length:=by omega
  rw[qU]at r
  refine⟨rfl,v2,?_⟩
  unfold AH;rw[←gY];exact r
theorem qd3{ad:Addr}{v:Value}{xs:List Int}{z n:Int}{K:World→Prop}(f:Fr w0 w F)(i:Nat)(hi:F[i]?=some (rN eB ad v xs))(hz:0≤z∧z<18446744073709551616)(hl:xs.length+10≤10000000000)
  (hk:∀v' w',Fr w0 w' (F.set i (rN eB ad v' (xs++sJ z (clN n))))→K w'):aE P kD jO #[aH ad,.int .u64 z,aB n] w K:=
 cZ (qga (f.get i hi) hz hl) fun w' ⟨v',hw⟩=>hk v' w' (f.wr i hi hw)
theorem qid{ad:Addr}{v lv:Value}{xs:List Int}{us:List ItV}(f:Fr w0 w F)(i:Nat)(hi:F[i]?=some (rN eB ad v xs))(hn:∀w',Fr w0 w' (F.eraseIdx i)→Is w' lv us)(hp:∀p∈us.map ItV.p,okP p)(an:us.length≤100000)(hl:xs.length≤1000000000):
  Calls P sS #[aH ad,lv] w (fun e w'=>e=bP #[]∧∃v',Fr w0 w' (F.set i (rN eB ad v' (xs++W6 (us.map ItV.p))))):=by
 refine EZ (aC (cK (hn w (f.drop i)).1 ?_))
 rw[Addr.add_zero',show gD (us.length:Int)=(us.length:Int)by rw[dW];omega]
 have ao:=fH (n:=us.length) (by omega)
 refine c9 f i hi (by omega) (by omega) fun v1 w1 V=>cK (hn w1 (by have:=V.drop i;rwa [xO]at this)).1 ?_
 rw[dH]at V
 refine⟨fun t w'=>∃(j:Nat) (v':Value),t=j∧j≤us.length∧Fr w0 w' (F.set i (rN eB ad v' (xs++eD us.length++mC ((us.take j).map ItV.p)))),fun t _=>(us.length-t).toNat,⟨0,v1,rfl,by omega,by rw[MC];show Fr w0 w1 (F.set i (rN eB ad v1 (xs++eD us.length++[])));rw[iW];exact V⟩,?_⟩
 rintro _ t w2 ⟨j,v2,rfl,hj,N⟩
 have hI:Is w2 lv us:=hn w2 (by have:=N.drop i;rwa [xO]at this)
 refine aG (fun cR=>?_) (fun ak=>?_)
 ·have A:j<us.length:=by omega
  have hu:=fR A
  have J:us[j]∈us:=kH A
  have tu:us.take (j+1)=us.take j++[us[j]]:=iV A
  generalize us[j]=u at hu J tu
  have hok:okP u.p:=hp u.p (List.mem_map.2 ⟨u,J,rfl⟩)
  have O:=HD (ps:=(us.take j).map ItV.p) fun p ac=>hp p (by obtain⟨q,hq,rfl⟩:=List.mem_map.1 ac;exact List.mem_map.2 ⟨q,AK hq,rfl⟩)
  rw[fE,eJ]at O
  obtain⟨Y,hY⟩:∃Y,Y=xs++eD us.length++mC ((us.take j).map ItV.p):=⟨_,rfl⟩
  have ai:Y.length≤2000000000:=by rw[hY];simp only[bD];omega
  rw[←hY]at N
  have am:=hok.1
  have aj:=hok.2
  have ab:=(hI.2 u J).oc
  refine qbZ hI rfl hu fun ia hcell=>lR (c5 u) hcell ?_ rfl (by kernel_rfl)
  refine dX (z:=.agg #[.string ⟨#[]⟩,aB 0,.int .u32 0,bR,aB 0]) N (by kernel_rfl) fun I w3 f3=>cS f3 0 rfl (fun w4 f4=>?_) rfl (fun x hx=>?_)
  ·have f4:Fr w0 w4 (aT I (c5 u)::F.set i (rN eB ad v2 Y)):=f4
   have hB:∀{w':World} {v':Value} {Z:List Int},Fr w0 w' (aT I (c5 u)::F.set i (rN eB ad v' Z))→∀z y,(c5 u)[z]?=some y→w'.cell? (I.add z)=some y:=fun hf z y hy=>hf.cell 0 z rfl hy
   have r:∀(v':Value) (Z:List Int),(aT I (c5 u)::F.set i (rN eB ad v' Z))[i+1]?=some (rN eB ad v' Z):=fun v' Z=>by rw[T7];exact qeh hi _
   have C:∀(v' M:Value) (Z U:List Int),(aT I (c5 u)::F.set i (rN eB ad v' Z)).set (i+1) (rN eB ad M U)=aT I (c5 u)::F.set i (rN eB ad M U):=fun v' M Z U=>by rw[List.set_cons_succ,qfk]
   refine⟨fun w'=>∀z y,(c5 u)[z]?=some y→w'.cell? (I.add z)=some y,hB f4.drew,aC (kB (fun w' hw=>hw 0 _ rfl) ?_)⟩
   rw[Addr.add_zero']
   refine qd1 f4.drew (by omega) fun ap w5 al f5=>⟨fun z y hy=>f5.cell 1 z rfl hy,?_⟩
   refine qgL (xs:=Y) (ys:=TJ u.p.name) f5 (i+2) (by rw[T7];exact r _ _) (fun w' hf=>Tx.nm (hf.get 0 rfl)) (by rw[vP];omega) fun v6 w6 f6=>?_
   rw[List.set_cons_succ,C,vP]at f6
   have f6:Fr w0 w6 (aT I (c5 u)::F.set i (rN eB ad v6 (Y++eD u.p.name.size++TJ u.p.name))):=f6.drop 0
   refine⟨hB f6,fun w'=>∀z y,(c5 u)[z]?=some y→w'.cell? (I.add z)=some y,hB f6.drew,aC (aN (fun w' hw=>hw 1 _ rfl) ?_)⟩
   have ln:=fH (n:=u.p.name.size) (by omega)
   have l2:=EG u.p.size
   have l3:=OQ u.p.chain (by omega)
   rw[Addr.add_zero']
   refine qd5 f6.drew (i+1) (r _ _) (by simp only[bD,vP];omega) fun v7 w7 T=>?_
   rw[C]at T
   refine⟨hB T,fun w'=>∀z y,(c5 u)[z]?=some y→w'.cell? (I.add z)=some y,hB T.drew,aC (aN (fun w' hw=>hw 2 _ rfl) ?_)⟩
   rw[Addr.add_zero']
   refine qd3 (n:=4) T.drew (i+1) (r _ _) (by rw[dW];omega) (by simp only[bD,vP];omega) fun v8 w8 f8=>?_
   rw[C,show clN 4=4 from rfl]at f8
   refine⟨hB f8,dY f8 0 3 rfl rfl (cZ (qbn (ts:=u.p.chain) f8 (i+1) (r _ _) (fun w' hf=>?_) (by simp only[bD,vP,lV];omega)) fun w9 ⟨v9,X⟩=>?_)⟩
   ·rw[List.eraseIdx_cons_succ,xO]at hf
    exact(hn w' (hf.drop 0)).2 u J
   rw[C]at X
   refine⟨fun w'=>∀z y,(c5 u)[z]?=some y→w'.cell? (I.add z)=some y,hB X.drew,aC (aN (fun w' hw=>hw 4 _ rfl) ?_)⟩
   rw[Addr.add_zero']
   refine qd5 X.drew (i+1) (r _ _) (by simp only[bD,vP,lV];omega) fun af aq f10=>?_
   rw[C]at f10
   refine⟨hB f10,⟨j+1,af,by rw[aD (by omega) (by omega)];omega,by omega,?_⟩,by dsimp only;rw[aD (by omega) (by omega)];omega⟩
   have e:xs++eD us.length++mC ((us.take (j+1)).map ItV.p)=Y++eD u.p.name.size++TJ u.p.name++eD (gD u.p.size).toNat++sJ (gD u.p.sum) 4++AH u.p.chain++eD (gD u.p.packed).toNat:=by
    rw[tu,gQ,qg1,hY]
    have e1:mC ([u].map ItV.p)=itB u.p:=by simp [mC]
    rw[e1];unfold itB;simp only[gY]
   rw[e];exact f10.drop 0
  ·simp at hx;rcases hx with rfl|rfl|rfl|rfl|rfl
   ·rfl
   ·rfl
   ·rfl
   ·exact ab
   ·rfl
 ·obtain rfl:j=us.length:=by omega
  rw[qU]at N
  refine⟨rfl,v2,?_⟩
  unfold W6;rw[fE,←gY];exact N
end
end
section
def tY(s:Nat):Nat:=if s%2=1 then s/2^^^3988292384 else s/2
def uB:Nat→Nat→Nat
 |0,s=>s
 |k+1,s=>tY (uB k s)
theorem qj8(a b:Nat):tY (a^^^b)=tY a^^^tY b:=by
 unfold tY
 have hm:(a^^^b)%2=1↔¬(a%2=1↔b%2=1):=Nat.xor_mod_two_eq_one
 rw[Nat.xor_div_two]
 by_cases h1:a%2=1<;>by_cases h2:b%2=1
 ·rw[if_neg (by rw[hm];simp [h1,h2]),if_pos h1,if_pos h2,show a/2^^^3988292384^^^(b/2^^^3988292384)=(a/2^^^b/2)^^^(3988292384^^^3988292384)by rw[U1,U1,←U1 3988292384,Nat.xor_comm 3988292384 (b/2),U1],Nat.xor_self,Nat.xor_zero]
 ·rw[if_pos (by rw[hm];simp [h1,h2]),if_pos h1,if_neg h2,U1,U1,Nat.xor_comm (b/2)]
 ·rw[if_pos (by rw[hm];simp [h1,h2]),if_neg h1,if_pos h2,U1]
 ·rw[if_neg (by rw[hm];simp [h1,h2]),if_neg h1,if_neg h2]
theorem qdV(a b:Nat):∀k,uB k (a^^^b)=uB k a^^^uB k b
 |0=>rfl
 |k+1=>by rw[uB,qdV a b k,qj8];rfl
theorem qgx{s:Nat}(h:s%2=0):tY s=s/2:=by unfold tY;rw[if_neg (by omega)]
theorem qap(y:Nat):∀k d:Nat,uB k (y*2^(k+d))=y*2^d
 |0,d=>by rw[vV];rfl
 |k+1,d=>by
  rw[uB,show k+1+d=k+(d+1)by omega,qap y k (d+1),Nat.pow_succ,←Nat.mul_assoc,qgx (by omega)]
  omega
theorem qlq(x:Nat):x=x/256*256^^^x%256:=by
 apply Nat.eq_of_testBit_eq
 intro i
 rw[Nat.testBit_xor,show(256:Nat)=2^8 from rfl,Nat.testBit_mod_two_pow,Nat.testBit_mul_two_pow,Nat.testBit_div_two_pow]
 by_cases h:i<8
 ·rw[decide_eq_false (show ¬8≤i by omega),decide_eq_true h];simp
 ·rw[decide_eq_true (show 8≤i by omega),decide_eq_false h,show i-8+8=i by omega];simp
theorem qs3(x:Nat):uB 8 x=x/256^^^uB 8 (x%256):=by
 conv=>lhs;rw[qlq x,qdV]
 rw[show(256:Nat)=2^(8+0)from rfl,qap,Nat.pow_zero,K6]
theorem qmc{s:Nat}(h:s<4294967296):tY s<4294967296:=by
 unfold tY
 split
 ·exact GH (n:=32) (by omega) (by decide)
 ·omega
theorem JJ{s:Nat}(h:s<4294967296):∀k,uB k s<4294967296
 |0=>h
 |k+1=>qmc (JJ h k)
def qdL(v x:Nat):Nat:=uB 8 (v^^^x)
def U9(v:Nat)(xs:List Int):Nat:=xs.foldl (fun v x=>qdL v x.toNat) v
theorem ML(v:Nat)(x:Int)(xs:List Int):U9 v (x::xs)=U9 (qdL v x.toNat) xs:=by simp only[U9,List.foldl_cons]
def qma(sum:Nat)(xs:List Int):Nat:=U9 (sum^^^4294967295) xs^^^4294967295
def xM(xs:List Int):Int:=((qma 0 xs:Nat):Int)
theorem qdM(v:Nat)(xs ys:List Int):U9 v (xs++ys)=U9 (U9 v xs) ys:=by unfold U9;rw[List.foldl_append]
theorem SU:∀(xs:List Int) (v:Nat),inR .u8 xs→v<4294967296→U9 v xs<4294967296
 |[],v,_,h=>h
 |x::xs,v,hx,h=>by
  rw[ML]
  refine SU xs _ (fun y j=>hx y (lL _ j)) (JJ ?_ 8)
  have:=hx.u8 (x:=x) (by simp)
  exact GH (n:=32) (by omega) (by omega)
theorem qo5{s:Nat}{xs:List Int}(hx:inR .u8 xs)(h:s<4294967296):qma s xs<4294967296:=by
 unfold qma
 exact GH (n:=32) (SU xs _ hx (GH (n:=32) (by omega) (by decide))) (by decide)
theorem UM{xs:List Int}(hx:inR .u8 xs):0≤xM xs∧xM xs<4294967296:=by
 have:=qo5 (s:=0) hx (by decide)
 unfold xM;omega
def crcT:List Int:=(List.range 256).map fun i=>((uB 8 i:Nat):Int)
theorem F1:crcT.length=256:=by unfold crcT;rw[fE,List.length_range]
theorem qix{j:Nat}(h:j<256):rd crcT (j:Int)=((uB 8 j:Nat):Int):=by
 rw[dK crcT j (by rw[F1];exact h)]
 unfold crcT
 rw[LX,List.getElem_range]
theorem qkg{j:Nat}(h:j<256):(crcT.take j++List.replicate (256-j) 0).set j ((uB 8 j:Nat):Int)=crcT.take (j+1)++List.replicate (256-(j+1)) 0:=by
 have hl:(crcT.take j).length=j:=by rw[eJ,F1];omega
 have hj:j<crcT.length:=by rw[F1];exact h
 rw[iV hj,←dK crcT j hj,qix h,DP _ _ (by rw[hl];exact cJ _),hl,pH,show 256-j=(256-(j+1))+1 by omega,DQ,MD,gY]
 rfl
theorem Z8{a b:Nat}(ha:a<4294967296)(hb:b<4294967296):lU .u32 (a:Int) (b:Int)=((a^^^b:Nat):Int):=qen rfl ha hb
theorem qgH(a:Nat):cV .u32 (a:Int) 1=((a/2:Nat):Int):=by
 have:=uH (k:=.u32) (a:=(a:Int)) (n:=1) (by decide) (by omega)
 exact this
theorem qry(a:Nat):cV .u32 (a:Int) 8=((a/256:Nat):Int):=by
 have:=uH (k:=.u32) (a:=(a:Int)) (n:=8) (by decide) (by omega)
 exact this
theorem qfS:(Value.agg (Array.replicate 256 (.int .u32 0))).cells.toList=List.replicate 256 (.int .u32 0):=Array.toList_replicate
theorem qo6{v:Nat}(hv:v<4294967296):((xS .u32 (v:Int) 1)=0→cV .u32 (v:Int) 1=((tY v:Nat):Int))∧((xS .u32 (v:Int) 1)≠0→lU .u32 (cV .u32 (v:Int) 1) 3988292384=((tY v:Nat):Int)):=by
 have h1:xS .u32 (v:Int) 1=((v%2:Nat):Int):=by
  have:=E2 (k:=.u32) (a:=(v:Int)) (m:=1) (n:=1) rfl (by omega) (by show(v:Int)<4294967296;omega) (by decide) (by decide)
  exact this
 have h2:cV .u32 (v:Int) 1=((v/2:Nat):Int):=qgH v
 refine⟨fun h=>?_,fun h=>?_⟩
 ·rw[h2];unfold tY;rw[if_neg (by omega)]
 ·rw[h2];unfold tY;rw[if_pos (by omega)]
  exact Z8 (b:=3988292384) (by omega) (by decide)
section
variable {w0 w:World} {F:List It} {xs:List Int}
set_option maxRecDepth 20000 in
theorem qjW:Calls P BY #[] w (fun e w'=>e=aW (.agg (crcT.map (.int .u32)).toArray)∧Ev w w'):=by
 have r:=F1
 refine qco (dX (z:=.agg (Array.replicate 256 (.int .u32 0))) (Fr.start w) (by kernel_rfl) fun t0 w1 O=>dX (z:=.agg (Array.replicate 256 (.int .u32 0))) O (by kernel_rfl) fun t1 w2 M=>?_)
 rw[qfS]at M
 have N:List.replicate 256 (Value.int .u32 0)=(((crcT.take 0)++List.replicate (256-0) 0).map (.int .u32)):=by rw[MC,sG,ZH]
 refine⟨fun i w'=>∃j:Nat,i=j∧j≤256∧Fr w w' [aT t1 (((crcT.take j)++List.replicate (256-j) 0).map (.int .u32)),aT t0 (List.replicate 256 (.int .u32 0))],fun i _=>256-i.toNat,?_,?_⟩
 ·refine⟨0,rfl,by omega,?_⟩
  rw[←N];exact M
 rintro _ i w3 ⟨j,rfl,hj,f3⟩
 refine aG (fun cR=>?_) (fun T=>?_)
 ·have A:j<256:=by omega
  refine⟨fun v k w'=>∃q:Nat,k=q∧q≤8∧v=((uB q j:Nat):Int)∧w'=w3,fun _ k _=>8-k.toNat,⟨0,rfl,by omega,by rw[yP];unfold uB;omega,rfl⟩,?_⟩
  rintro _ v k _ ⟨q,rfl,hq,rfl,rfl⟩
  have hs:=qo6 (JJ (s:=j) (by omega) q)
  refine aG (fun I=>cA (fun h0=>?_) (fun h0=>?_)) (fun I=>?_)
  ·rw[hs.2 h0]
   exact⟨⟨q+1,by rw[aD (by omega) (by omega)];omega,by omega,rfl,rfl⟩,by dsimp only;rw[aD (by omega) (by omega)];omega⟩
  ·rw[hs.1 h0]
   exact⟨⟨q+1,by rw[aD (by omega) (by omega)];omega,by omega,rfl,rfl⟩,by dsimp only;rw[aD (by omega) (by omega)];omega⟩
  ·have J:q=8:=by omega
   subst J
   rw[aD (n:=(j:Int)+1) (by omega) (by omega)]
   refine gT 256 j rfl A (dT f3 0 j rfl (fun w5 f5=>⟨⟨j+1,by omega,by omega,?_⟩,by dsimp only;omega⟩) (by simp [r];omega))
   have e2:((crcT.take (j+1))++List.replicate (256-(j+1)) 0).map (Value.int .u32)=(((crcT.take j)++List.replicate (256-j) 0).map (Value.int .u32)).set j (.int .u32 ((uB 8 j:Nat):Int)):=by
    rw[←DR,qkg A]
   rw[e2];exact f5
 ·have:j=256:=by omega
  subst this
  rw[gI (by rw[r];exact cJ _),pH,AM,iW]at f3
  have C:(crcT.map (Value.int .u32)).length=256:=by rw[fE,r]
  refine qd4 f3 0 rfl ?_ (by rw[C];kernel_rfl)
  refine cS f3 1 rfl (fun w5 f5=>?_) (by simp [r]) (fun u hu=>by obtain⟨x,_,rfl⟩:=List.mem_map.1 hu;rfl) (by rw[List.size_toArray,C];kernel_rfl)
  refine qd4 f5 1 rfl ⟨?_,f5.old⟩ (by simp only[fE,r];kernel_rfl)
  simp
set_option maxRecDepth 20000 in
theorem qmb{s:Nat}{b:Value}(hs:s<4294967296)(hb:Nm .u8 w b xs)(hl:xs.length≤1000000000):Calls P NC #[.int .u32 (s:Int),b] w (fun e w'=>e=aW (.int .u32 ((qma s xs:Nat):Int))∧Ev w w'):=by
 have J:(crcT.map (Value.int .u32)).length=256:=by rw[fE,F1]
 refine qhp (aO qjW ?_)
 rintro _ w1 ⟨rfl,h1⟩
 refine⟨_,rfl,dX (z:=.agg (Array.replicate 256 (.int .u32 0))) ((Fr.start w).ev h1) (by kernel_rfl) fun t5 w2 O=>?_⟩
 rw[qfS]at O
 refine cS O 0 rfl (fun w3 f3=>?_) (by simp [F1]) (fun u hu=>by obtain⟨x,_,rfl⟩:=List.mem_map.1 hu;rfl) (by rw[List.size_toArray,J];kernel_rfl)
 have q:Fr w w3 [aT t5 (crcT.map (Value.int .u32))]:=f3
 refine aP (hb.ev q.old) ⟨fun v i w'=>∃j:Nat,i=j∧j≤xs.length∧v=((U9 (s^^^4294967295) (xs.take j):Nat):Int)∧w'=w3,fun _ i _=>xs.length-i.toNat,⟨0,rfl,by omega,?_,rfl⟩,?_⟩
 ·exact Z8 (b:=4294967295) hs (by decide)
 rintro _ v i _ ⟨j,rfl,hj,rfl,rfl⟩
 have T:=hb.ev q.old
 have hv:U9 (s^^^4294967295) (xs.take j)<4294967296:=SU _ _ (fun x hx=>hb.2 x (AK hx)) (GH (n:=32) (by omega) (by decide))
 refine aG (fun cR=>?_) (fun U=>?_)
 ·have r:j<xs.length:=by omega
  have A:xs.take (j+1)=xs.take j++[rd xs (j:Int)]:=by rw[iV r,←dK xs j r]
  have hx:=jB hb.2 (j:Int)
  generalize M:U9 (s^^^4294967295) (xs.take j)=v at hv
  refine dL T (by omega) cR fun ad c _=>bG c ?_
  obtain⟨x,N⟩:∃x:Nat,rd xs (j:Int)=x:=⟨(rd xs (j:Int)).toNat,by omega⟩
  rw[N]at A hx⊢
  have I:lU .u8 (u8 (v:Int)) (x:Int)=((v%256^^^x:Nat):Int):=by
   rw[show u8 (v:Int)=((v%256:Nat):Int)by rw[nF];omega]
   exact qen (k:=.u8) rfl (show v%256<256 by omega) (show x<256 by omega)
  have C:v%256^^^x<256:=GH (n:=8) (by omega) (by omega)
  rw[I]
  refine gT 256 (v%256^^^x) rfl C (cI (n:=((uB 8 (v%256^^^x):Nat):Int)) q 0 (v%256^^^x) rfl ?_ ?_)
  ·have hq:=qcI (xs:=crcT) (i:=((v%256^^^x:Nat):Int)) (by omega) (by rw[F1];omega)
   rw[dH,qix C]at hq
   rw[jD,hq];rfl
  ·rw[qry,Z8 (by omega) (JJ (by omega) 8)]
   refine⟨⟨j+1,by rw[aD (by omega) (by omega)];omega,by omega,?_,rfl⟩,by dsimp only;rw[aD (by omega) (by omega)];omega⟩
   rw[A,qdM,M]
   rw[ML,dH]
   show((v/256^^^uB 8 (v%256^^^x):Nat):Int)=((qdL v x:Nat):Int)
   unfold qdL
   rw[qs3 (v^^^x)]
   have d1:(v^^^x)/256=v/256:=by
    have:=Nat.xor_div_two_pow (a:=v) (b:=x) (n:=8)
    rw[show(2:Nat)^8=256 from rfl]at this
    rw[this,show x/256=0 by omega,Nat.xor_zero]
   have d2:(v^^^x)%256=v%256^^^x:=by
    have:=Nat.xor_mod_two_pow (a:=v) (b:=x) (n:=8)
    rw[show(2:Nat)^8=256 from rfl]at this
    rw[this,show x%256=x by omega]
   rw[d1,d2]
 ·obtain rfl:j=xs.length:=by omega
  rw[qU]at hv⊢
  refine⟨?_,q.old⟩
  have e:lU .u32 ((U9 (s^^^4294967295) xs:Nat):Int) 4294967295=((U9 (s^^^4294967295) xs^^^4294967295:Nat):Int):=Z8 (b:=4294967295) hv (by decide)
  rw[e];unfold qma;rfl
theorem JF{b:Value}(hb:Nm .u8 w b xs)(hl:xs.length≤1000000000):Calls P E4 #[b] w (fun e w'=>e=aW (.int .u32 (xM xs))∧Ev w w'):=
 qhq (bQ (qmb (s:=0) (by decide) hb hl) fun w' h=>⟨rfl,h⟩)
end
end
section
def lt3(x y:E3):Bool:=G5 x.1 y.1
theorem wk3:Wk lt3:=⟨fun _ _ _ h h'=>qhf h h',fun _ _ h=>WD h⟩
theorem qm8{h a k:E3}(h1:lt3 h a=true)(h2:lt3 h k=false):lt3 k a=true:=by
 cases hc:lt3 k a with
 |true=>rfl
 |false=>rw[wk3.tr a k h hc h2]at h1;cases h1
theorem qi0{m h k:E3}(h1:lt3 m h=true)(h2:lt3 k h=false):lt3 m k=true:=by
 cases hc:lt3 m k with
 |true=>rfl
 |false=>rw[wk3.tr h k m h2 hc]at h1;cases h1
theorem qpl{α:Type}(f:Nat→α)(i j:Nat):Q5 f i j j=f i:=by unfold Q5;rw[if_neg (by omega),if_pos rfl]
theorem qpm{α:Type}(f:Nat→α){i j k:Nat}(h:k<j):Q5 f i j k=f k:=by unfold Q5;rw[if_pos h]
theorem qqf{α:Type}(m b:Nat)(f:Nat→α):rot m m b f=f:=by
 funext k;unfold rot SF
 repeat' split
 all_goals first|rfl|(congr 1;omega)
theorem qqg{α:Type}(s m:Nat)(f:Nat→α):rot s m m f=f:=by
 funext k;unfold rot SF
 repeat' split
 all_goals first|rfl|(congr 1;omega)
theorem qce{i j:Int}(p q:Nat)(hi:i=(p:Int))(hj:j=(q:Int))(h:p+q≤4611686018427387904):i64 (cV .u64 (gD (i64 (i+j))) 1)=(((p+q)/2:Nat):Int):=by
 subst hi;subst hj
 have h1:i64 ((p:Int)+q)=((p+q:Nat):Int):=by rw[aD (by omega) (by omega)];omega
 rw[h1]
 generalize p+q=s at h⊢
 have h2:gD (s:Int)=(s:Int):=by rw[dW];omega
 rw[h2,show(1:Int)=((1:Nat):Int)from rfl,uH (by decide) (by omega),show((2^1:Nat):Int)=2 from rfl,aD (by omega) (by omega)]
 omega
section
variable {w0 w w':World} {G:List It} {e:TypeId} {v:Value} {n:Nat}
def qbw(w0:World)(G:List It)(e:TypeId)(v:Value)(n a b:Nat)(f:Nat→E3)(j:Ending)(w':World):Prop:=
 j=bP #[]∧∃g,PermOn a b f g∧Srt lt3 a b g∧Fr w0 w' (AO e v n g::G)
theorem GB{f:Nat→E3}(hv:Fr w0 w (AO e v n f::G))(ho:Ok1 f)(a b:Nat)(h1:a≤b)(h2:b≤n)(hn:n≤1000000000000):
  Calls P fB #[v,aB a,aB b,byV] w (qbw w0 G e v n a b f):=by
 refine oU ⟨fun i w'=>∃(k:Nat) (g:Nat→E3),i=(k:Int)∧a+1≤k∧(k≤b∨k=a+1)∧Ok1 g∧PermOn a b f g∧Srt lt3 a k g∧Fr w0 w' (AO e v n g::G),fun i _=>(b-i).toNat,?_,?_⟩
 ·exact⟨a+1,f,by rw[aD (by omega) (by omega)];omega,by omega,.inr rfl,ho,PermOn.refl _ _ _,fun i j p q r=>by omega,hv⟩
 rintro _ i w1 ⟨k,g,rfl,hk1,hk2,hg,hp,hs,g1⟩
 refine aG (fun cR=>?_) (fun X=>?_)
 ·have Z:k<b:=by omega
  refine⟨fun j w'=>∃q:Nat,j=(q:Int)∧a≤q∧q≤k∧(∀r,q≤r→r<k→lt3 (g k) (g r)=true)∧Fr w0 w' (AO e v n (Q5 g k q)::G),fun j _=>j.toNat,?_,?_⟩
  ·exact⟨k,rfl,by omega,cJ _,fun r _ _=>by omega,by rw[UX];exact g1⟩
  rintro _ j w2 ⟨q,rfl,C,u,M,g2⟩
  have J:Ok1 (Q5 g k q):=hg.perm (DU g (a:=a) C u)
  have I:∀w',(q=a∨lt3 (g k) (g (q-1))=false)→Fr w0 w' (AO e v n (Q5 g k q)::G)→∃(O:Nat) (T:Nat→E3),i64 ((k:Int)+1)=(O:Int)∧a+1≤O∧(O≤b∨O=a+1)∧Ok1 T∧PermOn a b f T∧Srt lt3 a O T∧Fr w0 w' (AO e v n T::G):=fun w' hc g3=>
   ⟨k+1,_,by rw[aD (by omega) (by omega)];omega,by omega,.inl (by omega),J,hp.trans ((DU g C u).mono (cJ _) (by omega)),qd0 wk3 hs C u M hc,g3⟩
  have A:∀(_:World),((b:Int)-i64 ((k:Int)+1)).toNat<((b:Int)-(k:Int)).toNat:=fun _=>by rw[aD (by omega) (by omega)];omega
  refine⟨fun w'=>a<q∧lt3 (g k) (g (q-1))=true∧Fr w0 w' (AO e v n (Q5 g k q)::G),⟨fun w'=>Ev w2.drew w',Ch.refl _ _,?_⟩,?_⟩
  ·refine aG (fun Y=>?_) (fun aa=>?_)
   ·have N:a<q:=by omega
    refine yD g2.drew q rfl (by omega) (fun _ h=>h) ?_
    rw[aD (n:=(q:Int)-1) (by omega) (by omega)]
    refine yD g2.drew (q-1) (by omega) (by omega) (fun _ h=>h) ?_
    rw[qpl,qpm g (show q-1<q by omega)]
    refine qpt (hg _) (hg _) fun w3 h3=>⟨h3,?_⟩
    rw[SV]
    refine iQ (fun hl=>⟨N,hl,g2.drew.ev h3⟩) (fun hl=>⟨I _ (.inr hl) (g2.drew.ev h3),A w3⟩)
   ·exact⟨I _ (.inl (by omega)) g2.drew,A w2⟩
  ·rintro _ w4 ⟨N,hl,V⟩
   rw[aD (n:=(q:Int)-1) (by omega) (by omega)]
   refine qiO V J q (q-1) rfl (by omega) (by omega) (by omega) fun w5 U=>⟨⟨q-1,by omega,by omega,by omega,fun r r1 r2=>?_,?_⟩,by dsimp only;omega⟩
   ·by_cases hr:r=q-1
    ·subst hr;exact hl
    ·exact M r (by omega) r2
   ·rw[qaq g k q (by omega) u]at U;exact U
 ·exact⟨rfl,g,hp,hs.sub (cJ _) (by omega),g1⟩
theorem D7:∀(N:Nat) {w:World} {f:Nat→E3} (a m b:Nat),b-a≤N→Fr w0 w (AO e v n f::G)→Ok1 f→a<m→m<b→b≤n→n≤1000000000000→Srt lt3 a m f→Srt lt3 m b f→
  Calls P dP #[v,aB a,aB m,aB b,byV] w (qbw w0 G e v n a b f)
 |0,_,_,a,m,b,hN,_,_,h1,h2,_,_,_,_=>by omega
 |N+1,w,f,a,m,b,hN,hv,V,h1,h2,h3,hn,s1,s2=>by
  refine sC ?_
  rw[aD (n:=(m:Int)-a) (by omega) (by omega),aD (n:=(b:Int)-m) (by omega) (by omega)]
  refine cN (fun an=>?_) (fun az=>cN (fun an=>?_) (fun ap=>?_))
  ·have ay:m=a+1:=by omega
   subst ay
   refine⟨fun i j w'=>∃p q:Nat,i=(p:Int)∧j=(q:Int)∧a+1≤p∧p≤q∧q≤b∧(∀k,a+1≤k→k<p→lt3 (f k) (f a)=true)∧(∀k,q≤k→k<b→lt3 (f k) (f a)=false)∧Fr w0 w' (AO e v n f::G),fun i j _=>(j-i).toNat,?_,?_⟩
   ·exact⟨a+1,b,rfl,rfl,cJ _,by omega,cJ _,fun k _ _=>by omega,fun k _ _=>by omega,hv⟩
   rintro _ i j w1 ⟨p,q,rfl,rfl,I,ao,A,hl,hr,g1⟩
   refine aG (fun cR=>?_) (fun ak=>?_)
   ·rw[qce p q rfl rfl (by omega)]
    have C:p≤(p+q)/2:=by omega
    have T:(p+q)/2<q:=by omega
    generalize(p+q)/2=hm at C T
    refine⟨fun w'=>Ev w1.drew w',Ch.refl _ _,yD g1.drew hm rfl (by omega) (fun _ h=>h) (yD g1.drew a rfl (by omega) (fun _ h=>h) (qpt (V _) (V _) fun w2 u=>⟨u,?_⟩))⟩
    rw[SV,aD (n:=(hm:Int)+1) (by omega) (by omega)]
    refine iQ (fun hc=>⟨⟨hm+1,q,by omega,rfl,by omega,by omega,A,fun k k1 k2=>?_,hr,g1.drew.ev u⟩,by dsimp only;omega⟩) (fun hc=>⟨⟨p,hm,rfl,rfl,I,C,by omega,hl,fun k k1 k2=>?_,g1.drew.ev u⟩,by dsimp only;omega⟩)
    ·by_cases hk:k=hm
     ·subst hk;exact hc
     ·exact qm8 hc (s2 k hm k1 (by omega) (by omega))
    ·by_cases hk:k=hm
     ·subst hk;exact hc
     ·exact wk3.tr _ _ _ hc (s2 hm k (by omega) (by omega) k2)
   ·have U:p=q:=by omega
    subst U
    refine⟨fun k w'=>∃r:Nat,k=(r:Int)∧a≤r∧r≤p-1∧Fr w0 w' (AO e v n (up f a r)::G),fun k _=>(b-k).toNat,⟨a,rfl,cJ _,by omega,by rw[qox];exact g1⟩,?_⟩
    rintro _ k w3 ⟨r,rfl,Y,af,g3⟩
    rw[aD (n:=(p:Int)-1) (by omega) (by omega)]
    refine aG (fun cR=>?_) (fun bh=>?_)
    ·have bb:Ok1 (up f a r):=V.perm (qjC f (b:=b) Y (by omega))
     rw[aD (n:=(r:Int)+1) (by omega) (by omega)]
     refine qiO g3 bb r (r+1) rfl (by omega) (by omega) (by omega) fun w4 g4=>⟨⟨r+1,by omega,by omega,by omega,?_⟩,by dsimp only;omega⟩
     rw[qqz f a r Y]at g4;exact g4
    ·have O:r=p-1:=by omega
     subst O
     exact⟨rfl,_,qjC f Y (by omega),qsw wk3 s2 I A hl hr,g3⟩
  ·have au:b=m+1:=by omega
   subst au
   refine⟨fun i j w'=>∃p q:Nat,i=(p:Int)∧j=(q:Int)∧a≤p∧p≤q∧q≤m∧(∀k,a≤k→k<p→lt3 (f m) (f k)=false)∧(∀k,q≤k→k<m→lt3 (f m) (f k)=true)∧Fr w0 w' (AO e v n f::G),fun i j _=>(j-i).toNat,?_,?_⟩
   ·exact⟨a,m,rfl,rfl,cJ _,by omega,cJ _,fun k _ _=>by omega,fun k _ _=>by omega,hv⟩
   rintro _ i j w1 ⟨p,q,rfl,rfl,I,ao,A,hl,hr,g1⟩
   refine aG (fun cR=>?_) (fun ak=>?_)
   ·rw[qce p q rfl rfl (by omega)]
    have C:p≤(p+q)/2:=by omega
    have T:(p+q)/2<q:=by omega
    generalize(p+q)/2=hm at C T
    refine⟨fun w'=>Ev w1.drew w',Ch.refl _ _,yD g1.drew m rfl (by omega) (fun _ h=>h) (yD g1.drew hm rfl (by omega) (fun _ h=>h) (qpt (V _) (V _) fun w2 u=>⟨u,?_⟩))⟩
    rw[SV,aD (n:=(hm:Int)+1) (by omega) (by omega)]
    refine oO (fun hc=>⟨⟨hm+1,q,by omega,rfl,by omega,by omega,A,fun k k1 k2=>?_,hr,g1.drew.ev u⟩,by dsimp only;omega⟩) (fun hc=>⟨⟨p,hm,rfl,rfl,I,C,by omega,hl,fun k k1 k2=>?_,g1.drew.ev u⟩,by dsimp only;omega⟩)
    ·by_cases hk:k=hm
     ·subst hk;exact hc
     ·exact wk3.tr _ _ _ (s1 k hm k1 (by omega) (by omega)) hc
    ·by_cases hk:k=hm
     ·subst hk;exact hc
     ·exact qi0 hc (s1 hm k (by omega) (by omega) k2)
   ·have U:p=q:=by omega
    subst U
    refine⟨fun k w'=>∃r:Nat,k=(r:Int)∧p≤r∧r≤m∧Fr w0 w' (AO e v n (Q5 f m r)::G),fun k _=>k.toNat,⟨m,rfl,A,cJ _,by rw[UX];exact g1⟩,?_⟩
    rintro _ k w3 ⟨r,rfl,Y,af,g3⟩
    refine aG (fun aw=>?_) (fun ax=>?_)
    ·have av:Ok1 (Q5 f m r):=V.perm (DU f (a:=a) (by omega) af)
     rw[aD (n:=(r:Int)-1) (by omega) (by omega)]
     refine qiO g3 av r (r-1) rfl (by omega) (by omega) (by omega) fun w4 g4=>⟨⟨r-1,by omega,by omega,by omega,?_⟩,by dsimp only;omega⟩
     rw[qaq f m r (by omega) af]at g4;exact g4
    ·have O:r=p:=by omega
     subst O
     exact⟨rfl,_,DU f I A,qki wk3 s1 I A hl hr,g3⟩
  ·rw[qce a b rfl rfl (by omega)]
   have M:∃mid:Nat,mid=(a+b)/2:=⟨_,rfl⟩
   obtain⟨mid,M⟩:=M
   have al:a≤mid:=by omega
   have am:mid≤b:=by omega
   have bl:2*mid≤a+b:=by omega
   have bm:a+b≤2*mid+1:=by omega
   rw[←M]
   clear M
   rw[aD (n:=(mid:Int)+m) (by omega) (by omega),aD (n:=(mid:Int)+m-1) (by omega) (by omega)]
   refine⟨fun s r w'=>∃X r0:Nat,s=(X:Int)∧r=(r0:Int)∧a≤X∧X≤r0∧r0≤m∧r0≤mid∧mid+m≤X+b∧(X=a∨X+b=mid+m)∧(r0=m∨r0=mid)∧Fr w0 w' (AO e v n f::G),?_,?_⟩
   ·refine aG (fun aw=>?_) (fun ax=>?_)
    ·exact⟨mid+m-b,mid,by rw[aD (by omega) (by omega)];omega,rfl,by omega,by omega,by omega,cJ _,by omega,.inr (by omega),.inr rfl,hv⟩
    ·exact⟨a,m,rfl,rfl,cJ _,by omega,cJ _,by omega,by omega,.inl rfl,.inl rfl,hv⟩
   rintro _ s r bp ⟨X,r0,rfl,rfl,c1,c2,c3,c4,c5,c6,c7,aq⟩
   have bn:∀x y,a≤x→x<y→y<m→lt3 (f y) (f x)=false:=s1
   refine⟨fun i j w'=>∃p q:Nat,i=(p:Int)∧j=(q:Int)∧X≤p∧p≤q∧q≤r0∧(∀c,X≤c→c<p→lt3 (f (mid+m-1-c)) (f c)=false)∧(∀c,q≤c→c<r0→lt3 (f (mid+m-1-c)) (f c)=true)∧Fr w0 w' (AO e v n f::G),fun i j _=>(j-i).toNat,?_,?_⟩
   ·exact⟨X,r0,rfl,rfl,cJ _,c2,cJ _,fun c _ _=>by omega,fun c _ _=>by omega,aq⟩
   rintro _ i j bc ⟨p,q,rfl,rfl,I,ao,A,hl,hr,J⟩
   refine aG (fun cR=>?_) (fun ak=>?_)
   ·rw[qce p q rfl rfl (by omega)]
    have C:p≤(p+q)/2:=by omega
    have T:(p+q)/2<q:=by omega
    generalize(p+q)/2=hm at C T
    rw[aD (n:=(mid:Int)+m-1-hm) (by omega) (by omega)]
    refine⟨fun w'=>Ev bc.drew w',Ch.refl _ _,yD J.drew (mid+m-1-hm) (by omega) (by omega) (fun _ h=>h) (yD J.drew hm rfl (by omega) (fun _ h=>h) (qpt (V _) (V _) fun w2 u=>⟨u,?_⟩))⟩
    rw[SV,aD (n:=(hm:Int)+1) (by omega) (by omega)]
    refine oO (fun hc=>⟨⟨hm+1,q,by omega,rfl,by omega,by omega,A,fun k k1 k2=>?_,hr,J.drew.ev u⟩,by dsimp only;omega⟩) (fun hc=>⟨⟨p,hm,rfl,rfl,I,C,by omega,hl,fun k k1 k2=>?_,J.drew.ev u⟩,by dsimp only;omega⟩)
    ·by_cases hk:k=hm
     ·subst hk;exact hc
     ·exact wk3.tr _ _ _ (s1 k hm (by omega) (by omega) (by omega)) (wk3.tr _ _ _ hc (s2 _ _ (by omega) (by omega) (by omega)))
    ·by_cases hk:k=hm
     ·subst hk;exact hc
     ·have e1:=s1 hm k (by omega) (by omega) (by omega)
      have e2:=s2 (mid+m-1-k) (mid+m-1-hm) (by omega) (by omega) (by omega)
      exact qm8 (qi0 hc e1) e2
   ·have U:p=q:=by omega
    subst U
    rw[aD (n:=(mid:Int)+m-p) (by omega) (by omega)]
    have aj:((mid:Int)+m-p)=((mid+m-p:Nat):Int):=by omega
    rw[aj]
    obtain⟨q1,q2,q3,q4,q5⟩:=qez (mid:=mid) (s:=p) wk3 s1 s2 al am (by omega) (by omega) (by omega) (by omega) (fun c d1 d2 d3=>hl c (by omega) d2) (fun d1 d2=>hr p (cJ _) (by omega))
    have O:PermOn a b f (rot p m (mid+m-p) f):=(qnY f (by omega) (by omega)).mono (by omega) (by omega)
    have Z:Ok1 (rot p m (mid+m-p) f):=V.perm O
    refine⟨fun w'=>Fr w0 w' (AO e v n (rot p m (mid+m-p) f)::G),?_,?_⟩
    ·refine aG (fun ha=>aG (fun hb=>?_) (fun hb=>?_)) (fun ha=>?_)
     ·exact cZ (qhQ J V p m (mid+m-p) byV (by omega) (by omega) (by omega) hn) fun bq ar=>ar
     ·have:mid+m-p=m:=by omega
      rw[this,qqg];exact J
     ·have:p=m:=by omega
      subst this;rw[qqf];exact J
    intro _ br ac
    generalize rot p m (mid+m-p) f=F at*
    refine⟨fun w'=>∃g,PermOn a mid F g∧Srt lt3 a mid g∧Ok1 g∧Fr w0 w' (AO e v n g::G),?_,?_⟩
    ·refine aG (fun ha=>aG (fun hb=>?_) (fun hb=>?_)) (fun ha=>?_)
     ·exact cZ (D7 N a p mid (by omega) ac Z (by omega) (by omega) (by omega) hn q1 q2) fun bt ⟨g,x1,x2,x3⟩=>⟨g,x1,x2,Z.perm x1,x3⟩
     ·have:p=mid:=by omega
      subst this;exact⟨F,PermOn.refl _ _ _,q1,Z,ac⟩
     ·have:p=a:=by omega
      subst this;exact⟨F,PermOn.refl _ _ _,q2,Z,ac⟩
    rintro _ bu ⟨g,x1,x2,x3,ae⟩
    have y1:Srt lt3 mid (mid+m-p) g:=q3.out x1 (.inr (cJ _))
    have y2:Srt lt3 (mid+m-p) b g:=q4.out x1 (.inr (by omega))
    have ba:PermOn a b f g:=O.trans (x1.mono (cJ _) am)
    have ab:∀w' h,PermOn mid b g h→Srt lt3 mid b h→Fr w0 w' (AO e v n h::G)→∃h,PermOn a b f h∧Srt lt3 a b h∧Fr w0 w' (AO e v n h::G):=fun w' h z1 z2 z3=>⟨h,ba.trans (z1.mono al (cJ _)),qhd q5 x1 x2 z1 z2,z3⟩
    refine aG (fun ha=>aG (fun hb=>?_) (fun hb=>?_)) (fun ha=>?_)
    ·exact cZ (D7 N mid (mid+m-p) b (by omega) ae x3 (by omega) (by omega) h3 hn y1 y2) fun bv ⟨h,z1,z2,z3⟩=>⟨rfl,ab _ h z1 z2 z3⟩
    ·have:mid+m-p=b:=by omega
     rw[this]at y1
     exact⟨rfl,ab _ g (PermOn.refl _ _ _) y1 ae⟩
    ·have:mid+m-p=mid:=by omega
     rw[this]at y2
     exact⟨rfl,ab _ g (PermOn.refl _ _ _) y2 ae⟩
theorem Q6{s a c:Nat}(ha:s∣a)(hc:s∣c)(h:c<a):c+s≤a:=by
 have:=Nat.le_of_dvd (by omega) (Nat.dvd_sub ha hc);omega
theorem qhW{f:Nat→E3}(hv:Fr w0 w (AO e v n f::G))(ho:Ok1 f)(hn:n≤100000000000):
  Calls P iK #[v,aB n,byV] w (qbw w0 G e v n 0 n f):=by
 refine tU ⟨fun a b w'=>∃(p:Nat) (g:Nat→E3),a=(p:Int)∧b=((p+20:Nat):Int)∧p≤n∧20∣p∧(∀c,20∣c→c+20≤p→Srt lt3 c (c+20) g)∧Ok1 g∧PermOn 0 n f g∧Fr w0 w' (AO e v n g::G),fun a _ _=>(n-a).toNat,?_,?_⟩
 ·exact⟨0,f,rfl,rfl,bW _,⟨0,rfl⟩,fun c _ h=>by omega,ho,PermOn.refl _ _ _,hv⟩
 rintro _ a b w1 ⟨p,g,rfl,rfl,hp,hd,hs,hg,I,g1⟩
 refine aG (fun V=>?_) (fun U=>?_)
 ·refine cZ (GB g1 hg p (p+20) (by omega) (by omega) (by omega)) fun w2 ⟨h,q,J,g2⟩=>?_
  refine⟨⟨p+20,h,rfl,by rw[aD (by omega) (by omega)];omega,by omega,Nat.dvd_add hd ⟨1,rfl⟩,fun c r N=>?_,hg.perm q,I.trans (q.mono (Nat.zero_le _) (by omega)),g2⟩,by dsimp only;omega⟩
  by_cases hc:c=p
  ·subst hc;exact J
  ·have:=Q6 hd r (by omega)
   exact(hs c r this).out q (.inl this)
 refine cZ (GB g1 hg p n hp (cJ _) (by omega)) fun w3 ⟨h,q,J,g3⟩=>?_
 have hh:Ok1 h:=hg.perm q
 have u:PermOn 0 n f h:=I.trans (q.mono (bW _) (cJ _))
 have hb:∀c,20∣c→Srt lt3 c (min (c+20) n) h:=fun c r=>by
  by_cases hc:c<p
  ·have:=Q6 hd r hc
   exact((hs c r this).out q (.inl this)).sub (cJ _) (by omega)
  ·by_cases hc2:c=p
   ·subst hc2;exact J.sub (cJ _) (by omega)
   ·have:=Q6 r hd (by omega)
    intro i j i1 i2 i3;omega
 clear q J g1 hs hg
 refine⟨fun bs w'=>∃(s:Nat) (g:Nat→E3),bs=(s:Int)∧20≤s∧s≤2*n+20∧(∀c,s∣c→Srt lt3 c (min (c+s) n) g)∧Ok1 g∧PermOn 0 n f g∧Fr w0 w' (AO e v n g::G),fun bs _=>(n-bs).toNat,⟨20,h,rfl,cJ _,by omega,hb,hh,u,g3⟩,?_⟩
 clear hb hh u g3
 rintro _ bs w4 ⟨s,g,rfl,Z,af,hb,hg,I,Y⟩
 refine aG (fun cR=>?_) (fun ac=>?_)
 ·rw[aD (n:=2*(s:Int)) (by omega) (by omega),aD (n:=(s:Int)*2) (by omega) (by omega)]
  have T:s∣2*s:=⟨2,by omega⟩
  refine⟨fun a b w'=>∃(p:Nat) (g:Nat→E3),a=(p:Int)∧b=((p+2*s:Nat):Int)∧p≤n∧2*s∣p∧(∀c,2*s∣c→c+2*s≤p→Srt lt3 c (c+2*s) g)∧(∀c,s∣c→p≤c→Srt lt3 c (min (c+s) n) g)∧Ok1 g∧PermOn 0 n f g∧Fr w0 w' (AO e v n g::G),fun a _ _=>(n-a).toNat,?_,?_⟩
  ·exact⟨0,g,rfl,by omega,bW _,⟨0,rfl⟩,fun c _ h=>by omega,fun c r _=>hb c r,hg,I,Y⟩
  rintro _ a b w5 ⟨p,k,rfl,rfl,hp,hd,C,A,hk,u,O⟩
  have M:s∣p:=Nat.dvd_trans T hd
  have t1:=A p M (cJ _)
  have t2:=A (p+s) (Nat.dvd_add M (Nat.dvd_refl _)) (by omega)
  rw[aD (n:=(p:Int)+s) (by omega) (by omega),show((p:Int)+s)=((p+s:Nat):Int)by omega]
  refine aG (fun V=>?_) (fun U=>?_)
  ·refine cZ (D7 _ p (p+s) (p+2*s) (cJ _) O hk (by omega) (by omega) (by omega) (by omega) (t1.sub (cJ _) (by omega)) (t2.sub (cJ _) (by omega))) fun w6 ⟨h,q,J,g6⟩=>?_
   refine⟨⟨p+2*s,h,rfl,by rw[aD (by omega) (by omega)];omega,by omega,Nat.dvd_add hd (Nat.dvd_refl _),fun c r N=>?_,fun c r N=>(A c r (by omega)).out q (.inr N),hk.perm q,u.trans (q.mono (Nat.zero_le _) (by omega)),g6⟩,by dsimp only;omega⟩
   by_cases hc:c=p
   ·subst hc;exact J
   ·have:=Q6 hd r (by omega)
    exact(C c r this).out q (.inl this)
  ·have step:∀w' h,PermOn p n k h→Srt lt3 p n h→Fr w0 w' (AO e v n h::G)→(∃(s':Nat) (g:Nat→E3),(s:Int)*2=(s':Int)∧20≤s'∧s'≤2*n+20∧(∀c,s'∣c→Srt lt3 c (min (c+s') n) g)∧Ok1 g∧PermOn 0 n f g∧Fr w0 w' (AO e v n g::G))∧((n:Int)-(s:Int)*2).toNat<((n:Int)-(s:Int)).toNat:=fun w' h q J x3=>by
    refine⟨⟨2*s,h,by omega,by omega,by omega,fun c r=>?_,hk.perm q,u.trans (q.mono (bW _) (cJ _)),x3⟩,by omega⟩
    by_cases hc:c<p
    ·have:=Q6 hd r hc
     exact((C c r this).out q (.inl this)).sub (cJ _) (by omega)
    ·by_cases hc2:c=p
     ·subst hc2;exact J.sub (cJ _) (by omega)
     ·have:=Q6 r hd (by omega)
      intro i j i1 i2 i3;omega
   refine aG (fun X=>?_) (fun X=>?_)
   ·exact cZ (D7 _ p (p+s) n (cJ _) O hk (by omega) (by omega) (cJ _) (by omega) (t1.sub (cJ _) (by omega)) (t2.sub (cJ _) (by omega))) fun w7 ⟨h,q,J,g7⟩=>step _ h q J g7
   ·exact step _ k (PermOn.refl _ _ _) (t1.sub (cJ _) (by omega)) O
 ·have:=hb 0 ⟨0,rfl⟩
  exact⟨rfl,g,I,this.sub (cJ _) (by omega),Y⟩
theorem TU{us:List E3}(hv:Fr w0 w (lK e 2 v us.length (gA us)::G))(I:∀u∈us,u.2.1.oneCell'=true)(hn:us.length≤100000000000):
  Calls P fX #[v,byV] w (fun C w'=>C=bP #[]∧∃q:List E3,q.Perm us∧q.Pairwise (fun x y=>G5 y.1 x.1=false)∧Fr w0 w' (lK e 2 v q.length (gA q)::G)):=by
 refine mZ (cK (hv.row 0 rfl) ?_)
 have hl:=qr3 us
 obtain⟨f,hf⟩:∃f:Nat→E3,f=fun i=>us.getD i default:=⟨_,rfl⟩
 rw[←hf]at hl
 have hok:Ok1 f:=fun k=>by
  rw[hf];dsimp only
  by_cases hk:k<us.length
  ·rw[lH,fR hk];exact I _ (kH hk)
  ·rw[lH,I4 (by omega)];rfl
 have A:Fr w0 w (AO e v us.length f::G):=by unfold AO;rw[←hl];exact hv
 refine cZ (qhW A hok hn) fun w1 ⟨g,J,M,g1⟩=>⟨rfl,lst us.length g,?_,?_,?_⟩
 ·have:=J.perm
  exact this.trans (by rw[show(List.range us.length).map f=lst us.length f from rfl,←hl])
 ·unfold lst
  rw[List.pairwise_map]
  refine List.Pairwise.imp_of_mem ?_ (List.pairwise_lt_range (n:=us.length))
  intro i j hi hj r
  exact M i j (bW _) r (List.mem_range.1 hj)
 ·rw[EA];exact g1
end
end
section
def kI(l:List UInt8):ByteArray:=⟨l.toArray⟩
theorem rV(l:List UInt8):(kI l).data.toList=l:=by simp [kI]
theorem VY(s:ByteArray):kI s.data.toList=s:=by obtain⟨⟨l⟩⟩:=s;rfl
theorem pN(l:List UInt8):(kI l).size=l.length:=by show l.toArray.size=_;simp
theorem qk9(s:ByteArray):s.data.toList.length=s.size:=by obtain⟨⟨l⟩⟩:=s;rfl
theorem YQ(l:List UInt8):(kI l).toList=l:=by rw[ZI];simp [kI]
theorem qsm{s:ByteArray}{i:Nat}(h:i<s.data.toList.length):rd (TJ s) (i:Int)=((s.data.toList[i].toNat:Nat):Int):=by
 rw[dK _ i (by rw[vP,←qk9];exact h)]
 simp [TJ]
theorem qpS(l:List UInt8)(a b:Nat):(kI l).extract a b=kI ((l.drop a).take (b-a)):=by
 have h:((kI l).extract a b).data.toList=(l.drop a).take (b-a):=by
  rw[ByteArray.data_extract,Array.toList_extract]
  simp [kI,List.extract_eq_take_drop]
 rw[←h,VY]
section
variable {P:Program} {w:World}
theorem HA{t:TypeId}{l:List UInt8}{lo hi:Option Value}{a b:Nat}{K:ByteArray→Prop}(q:(lo=none∧a=0)∨(∃k,lo=some (.int k a)))(j:(hi=none∧b=l.length)∨(∃k,hi=some (.int k b)))(hl:a≤b)(hh:b≤l.length)
  (hk:K (kI ((l.drop a).take (b-a)))) (ht:qqs P t=true:=by kernel_rfl):uG P t (.string (kI l)) lo hi none K:=by
 have hu:=qjs ht
 refine⟨kI ((l.drop a).take (b-a)),fun w=>?_,hk⟩
 have hb:(Instr.sliceBounds false (kI l).size (kI l).size lo hi none).run P w=.ok (a,b,(kI l).size) w:=by
  rw[pN]
  simp only[Instr.sliceBounds,Sem.run_bind,Sem.run_pure,Result.andThen_ok]
  rcases j with⟨rfl,rfl⟩|⟨k,rfl⟩<;>rcases q with⟨rfl,rfl⟩|⟨r,rfl⟩<;>
   simp [Instr.sliceBound,asIntOf,hl,hh]
 simp only[Instr.sliceAt,Sem.run_bind,run_underlying hu,Result.andThen_ok,Instr.slice,hb,Sem.run_pure,Option.isSome_none,Bool.false_eq_true,if_false]
 rw[qpS];rfl
end
def Ss(w:World)(v:Value)(ss:List ByteArray):Prop:=Sl w 1 v ss.length (ss.map .string)
theorem Ss.ev{w w':World}{v:Value}{ss:List ByteArray}(h:Ss w v ss)(he:Ev w w'):Ss w' v ss:=Sl.ev h he
section
variable {w:World}
theorem qkm{l:List UInt8}{c:UInt8}(h:(kI [c]).toList==(kI l).toList):l=[c]:=by
 rw[YQ,YQ]at h;exact(beq_iff_eq.1 h).symm
theorem TQ(l:List UInt8)(c:UInt8):Calls P oH #[.string (kI l),.string (kI [c])] w (fun e w'=>e=aW (aB (Lib.indexByte l c))∧w'=w):=by
 have hc:(kI [c]).data.toList=[c]:=rV _
 have hcs:(kI [c]).size=1:=rfl
 have r:rd (TJ (kI [c])) 0=(c.toNat:Int):=by simp [rd,TJ,kI]
 have q:(c.toNat:Int).toNat.toUInt8=c:=by simp
 refine NW (bX (n:=Lib.indexByte l c) (zC ?_) ⟨rfl,rfl⟩)
 refine⟨fun _=>False,⟨fun b w'=>w'=w∧b=((kI [c]).toList==(kI l).toList),jP (fun _=>⟨rfl,rfl⟩) (fun h=>by rw[hcs]at h;simp at h),?_⟩,?_⟩
 ·rintro _ b w1 ⟨rfl,rfl⟩
  refine iQ (fun hb=>?_) (fun _=>?_)
  ·have:=qkm hb
   subst this
   exact⟨by simp [Lib.indexByte],rfl⟩
  ·rw[hcs]
   refine cN (fun _=>JT (j:=0) rfl (by rw[hcs];decide) ?_) (fun h=>(h rfl).elim)
   rw[r]
   refine bX (n:=Lib.indexByte l c) (tQ (qbY (by kernel_rfl) (Lib.run_indexByteString _ _ w1) ?_ (by kernel_rfl))) ⟨rfl,rfl⟩
   rw[q,rV];exact⟨rfl,rfl⟩
 ·intro _ w1 h
  exact h.elim
end
end
section
theorem OD{l:List UInt8}(h:Lib.indexByte l 47= -1):jY l=[l]∧Lib.countByte l 47=0:=by
 induction l with
 |nil=>exact⟨rfl,rfl⟩
 |cons c r u=>
  unfold Lib.indexByte at h
  split at h
  ·simp at h
  ·rename_i hc
   have j:c≠47:=by simpa using hc
   split at h
   ·rename_i q
    obtain⟨h1,h2⟩:=u (by simpa using q)
    refine⟨?_,?_⟩
    ·unfold jY;rw[if_neg j,h1]
    ·unfold Lib.countByte at*;rw[List.count_cons,h2];simp [j]
   ·have:=Lib.indexByte_ge r 47;omega
theorem EH:∀{l:List UInt8} {i:Nat},Lib.indexByte l 47=(i:Int)→i<l.length∧jY l=l.take i::jY (l.drop (i+1))∧Lib.countByte l 47=Lib.countByte (l.drop (i+1)) 47+1
 |[],i,h=>by simp [Lib.indexByte]at h
 |c::r,i,h=>by
  unfold Lib.indexByte at h
  split at h
  ·rename_i hc
   have q:c=47:=by simpa using hc
   obtain rfl:i=0:=by omega
   subst q
   exact⟨by simp,by simp [jY],by simp [Lib.countByte]⟩
  ·rename_i hc
   have q:c≠47:=by simpa using hc
   split at h
   ·omega
   ·have u:=Lib.indexByte_ge r 47
    rename_i hn
    have A:Lib.indexByte r 47≠ -1:=by simpa using hn
    obtain⟨j,hj⟩:∃j:Nat,Lib.indexByte r 47=(j:Int):=⟨(Lib.indexByte r 47).toNat,by omega⟩
    obtain rfl:i=j+1:=by omega
    obtain⟨h1,h2,h3⟩:=EH hj
    refine⟨by simp;omega,?_,?_⟩
    ·rw[jY,if_neg q,h2];simp
    ·unfold Lib.countByte at*
     rw[List.drop_succ_cons,List.count_cons,h3];simp [q]
theorem IM:∀(n:Nat) {l:List UInt8},l.length≤n→(jY l).length=Lib.countByte l 47+1
 |n,l,hn=>by
  by_cases h:Lib.indexByte l 47= -1
  ·obtain⟨h1,h2⟩:=OD h
   rw[h1,h2];rfl
  ·have j:=Lib.indexByte_ge l 47
   obtain⟨i,hi⟩:∃i:Nat,Lib.indexByte l 47=(i:Int):=⟨(Lib.indexByte l 47).toNat,by omega⟩
   obtain⟨h1,h2,h3⟩:=EH hi
   cases n with
   |zero=>omega
   |succ n=>
    rw[h2,h3,iO,IM n (by rw[cQ];omega)]
theorem qdU(l:List UInt8):Lib.countByte l 47≤l.length:=by unfold Lib.countByte;exact List.count_le_length
theorem qbJ{l:List UInt8}{c:UInt8}:decide (Lib.indexByte l c≥0)=l.contains c:=by
 induction l with
 |nil=>rfl
 |cons b r q=>
  unfold Lib.indexByte
  rw[List.contains_cons]
  by_cases h:b=c
  ·subst h;simp
  ·have h2:¬c=b:=fun e=>h e.symm
   have h3:=Lib.indexByte_ge r c
   have h4:(b==c)=false:=by simpa using h
   have h5:(c==b)=false:=by simpa using h2
   rw[if_neg (by rw[h4];decide),h5,Bool.false_or,←q]
   by_cases h6:Lib.indexByte r c= -1
   ·rw[h6];simp
   ·rw[if_neg (by simpa using h6)]
    by_cases j:Lib.indexByte r c≥0
    ·rw[decide_eq_true j,decide_eq_true (by omega)]
    ·omega
section
variable {w0 w w':World} {F:List It}
theorem ZQ(l:List UInt8)(c:UInt8):Calls P sW #[.string (kI l),.string (kI [c])] w (fun e w'=>e=aW (.bool (l.contains c))∧w'=w):=
 FM (bX (TQ l c) ⟨by rw[qbJ],rfl⟩)
theorem qf5(l:List UInt8)(c:UInt8):Calls P zW #[.string (kI l),.string (kI [c])] w (fun e w'=>e=aW (aB (Lib.countByte l c))∧w'=w):=by
 have hcs:(kI [c]).size=1:=rfl
 have r:rd (TJ (kI [c])) 0=(c.toNat:Int):=by simp [rd,TJ,kI]
 have q:(c.toNat:Int).toNat.toUInt8=c:=by simp
 refine NV ?_
 rw[hcs]
 refine cN (fun h=>by simp at h) (fun _=>cN (fun _=>JT (j:=0) rfl (by rw[hcs];decide) ?_) (fun h=>(h rfl).elim))
 rw[r]
 refine qbY (by kernel_rfl) (Lib.run_countString _ _ w) ?_ (by kernel_rfl)
 rw[q,rV];exact⟨rfl,rfl⟩
def YM(l:List UInt8):List ByteArray:=(jY l).map kI
theorem qtp(z:Value)(n:Nat)(h:z.cells= #[z]):(madeCells z.cells (n*1)).toList=List.replicate n z:=by rw[h,K6,toList_madeCells_one]
theorem qhe{l:List UInt8}(hl:l.length≤1000000):Calls P zX #[.string (kI l),.string (kI [47])] w (fun e w'=>∃v,e=aW v∧Ev w w'∧Ss w' v (YM l)):=by
 have hcs:(kI [47]).size=1:=rfl
 have ac:=qdU l
 have O:=IM _ (cJ l.length)
 obtain⟨n,hn⟩:∃n,n=Lib.countByte l 47+1:=⟨_,rfl⟩
 refine NX (iY (Q:=fun v w'=>Ev w w'∧Ss w' v (YM l)) (FN ?_) fun v w' hq=>⟨v,rfl,hq⟩)
 refine cN (fun h=>by simp at h) (fun _=>iQ (fun h=>by rw[YQ]at h;simp at h) (fun _=>?_))
 refine⟨fun k w'=>k=(n:Int)∧w'=w,qS (bX (qf5 l 47) ⟨by rw[aD (by omega) (by omega)];omega,rfl⟩),?_⟩
 rintro _ k w1 ⟨rfl,rfl⟩
 have r:(if(i64 (((kI l).size:Int)+1))<(n:Int)then(i64 (((kI l).size:Int)+1))else(n:Int))=(n:Int):=by
  rw[pN,aD (by omega) (by omega),if_neg (by omega)]
 rw[r,hcs,aD (n:=(n:Int)-1) (by omega) (by omega)]
 refine qbS 16 (.string ⟨#[]⟩) (sz:=1) (Fr.start w1) (by omega) (by unfold maxLen;omega) (fun v w2 V=>?_) (by kernel_rfl)
 rw[qtp _ _ rfl]at V
 have C:∀{j:List UInt8} {done:List (List UInt8)} {w':World},jY l=done++[j]→Fr w1 w' [lK (dD P dU) 1 v n (done.map (fun p=>Value.string (kI p))++List.replicate (n-done.length) (Value.string ⟨#[]⟩))]→done.length+1=n→
   aX P dU v (aB (done.length:Int)) fun T=>aL P bE (aH T) (.string (kI j)) w' fun w7=>cH P dU v none (some (aB (i64 ((done.length:Int)+1)))) none fun U=>qe7 dM (fun v w'=>(Ev w1 w'∧Ss w' v (YM l))) (aW U) w7:=fun{j done w'} hp g hd=>by
  refine uE g.1 rfl (by omega) fun ad hs=>BJ g 0 rfl hs (by omega) rfl rfl fun w7 J=>?_
  have q:(done.map (fun p=>Value.string (kI p))++List.replicate (n-done.length) (Value.string ⟨#[]⟩)).set done.length (.string (kI j))=(YM l).map .string:=by
   rw[show n-done.length=0+1 by omega,DQ,DP _ _ (by simp),fE,pH,MD]
   unfold YM;rw[hp];simp
  rw[q]at J
  have A:=J.row 0 rfl
  obtain⟨a,c,rfl,M⟩:=A.shape
  rw[aD (n:=(done.length:Int)+1) (by omega) (by omega)]
  refine iD (l:=0) (h:=n) (sz:=1) (.inl ⟨rfl,rfl⟩) (.inr ⟨.i64,by rw[show((done.length:Int)+1)=((n:Nat):Int)by omega]⟩) (bW _) M ?_ (by kernel_rfl)
  refine⟨_,rfl,J.old,?_⟩
  have:=A.sub 0 n (bW _) (cJ _)
  have u:(YM l).length=n:=by unfold YM;rw[fE,O,hn]
  unfold Ss
  rw[u]
  rw[Z9,qac,oL,gI (by rw[fE,u];omega)]at this
  exact this
 refine⟨fun s i w'=>∃(j:List UInt8) (done:List (List UInt8)),s=kI j∧i=(done.length:Int)∧jY l=done++jY j∧done.length+Lib.countByte j 47+1=n∧j.length≤l.length∧
  Fr w1 w' [lK (dD P dU) 1 v n (done.map (fun p=>Value.string (kI p))++List.replicate (n-done.length) (Value.string ⟨#[]⟩))],fun _ i _=>(n-i).toNat,?_,?_⟩
 ·exact⟨l,[],rfl,rfl,rfl,by simp;omega,cJ _,V⟩
 rintro _ s i w5 ⟨j,done,rfl,rfl,hp,hd,ag,I⟩
 refine aG (fun cR=>bX (TQ j 47) (aG (fun Y=>?_) (fun Z=>?_))) (fun ae=>?_)
 ·have:=Lib.indexByte_ge j 47
  obtain⟨h1,h2⟩:=OD (l:=j) (by omega)
  omega
 ·obtain⟨m,hm⟩:∃m:Nat,Lib.indexByte j 47=(m:Int):=⟨(Lib.indexByte j 47).toNat,by omega⟩
  obtain⟨h1,h2,h3⟩:=EH hm
  rw[hm,aD (n:=(m:Int)+0) (by omega) (by omega)]
  refine HA (a:=0) (b:=m) (.inl ⟨rfl,rfl⟩) (.inr ⟨.i64,by rw[Int.add_zero]⟩) (bW _) (by omega) ?_
  rw[oL,Z9]
  refine uE I.1 rfl (by omega) fun ad hs=>BJ I 0 rfl hs (by omega) rfl rfl fun w8 X=>?_
  rw[aD (n:=(m:Int)+((1:Nat):Int)) (by omega) (by omega),aD (n:=(done.length:Int)+1) (by omega) (by omega)]
  refine HA (a:=m+1) (b:=j.length) (.inr ⟨.i64,rfl⟩) (.inl ⟨rfl,rfl⟩) (by omega) (cJ _) ?_
  rw[gI (by rw[cQ];omega)]
  refine⟨⟨j.drop (m+1),done++[j.take m],rfl,by simp,by rw[hp,h2];simp,by simp;omega,by rw[List.length_drop];omega,?_⟩,by dsimp only;omega⟩
  have q:(done.map (fun p=>Value.string (kI p))++List.replicate (n-done.length) (Value.string ⟨#[]⟩)).set done.length (.string (kI (j.take m)))=(done++[j.take m]).map (fun p=>Value.string (kI p))++List.replicate (n-(done++[j.take m]).length) (Value.string ⟨#[]⟩):=by
   rw[show n-done.length=(n-done.length-1)+1 by omega,DQ,DP _ _ (by simp),fE,pH,MD]
   simp [Nat.sub_sub]
  rw[q]at X
  exact X
 ·have ab:Lib.countByte j 47=0:=by omega
  have N:Lib.indexByte j 47= -1:=by
   refine Decidable.byContradiction fun af=>?_
   have:=Lib.indexByte_ge j 47
   obtain⟨m,hm⟩:∃m:Nat,Lib.indexByte j 47=(m:Int):=⟨(Lib.indexByte j 47).toNat,by omega⟩
   have:=(EH hm).2.2;omega
  obtain⟨h1,_⟩:=OD N
  rw[h1]at hp
  exact C hp I (by omega)
theorem qar{a b:List UInt8}:((kI a).toList==(kI b).toList)=(a==b):=by rw[YQ,YQ]
theorem qgd(p:List UInt8):Calls P oG #[.string (kI p)] w (fun e w'=>e=aW (.bool (ET p))∧w'=w):=by
 refine NQ ?_
 have j:((kI p).toList==(ByteArray.mk #[]).toList)=(p==[]):=qar (b:=[])
 have e1:((kI p).toList==(ByteArray.mk #[46]).toList)=(p==[46]):=qar (b:=[46])
 have e2:((kI p).toList==(ByteArray.mk #[46,46]).toList)=(p==[46,46]):=qar (b:=[46,46])
 rw[j,e1,e2]
 refine oO (fun h0=>oO (fun h1=>⟨by unfold ET;rw[h0,h1];rfl,rfl⟩) (fun h1=>⟨by unfold ET;rw[h0,h1];rfl,rfl⟩)) (fun h0=>⟨by unfold ET;rw[h0];rfl,rfl⟩)
theorem qbt{v:Value}{ps:List (List UInt8)}(hv:Ss w v (ps.map kI))(hl:ps.length≤1000000000):Calls P gW #[v,.func (.func oG) #[] #[]] w (fun e w'=>e=aW (.bool (ps.any ET))∧w'=w):=by
 have C:Sl w 1 v ps.length (ps.map (fun p=>Value.string (kI p))):=by
  have:=hv;unfold Ss at this;rw[fE,List.map_map]at this;exact this
 refine rH ?_
 have I:Calls P iI #[v,.func (.func oG) #[] #[]] w (fun e w'=>∃r:Int,e=aW (aB r)∧decide (r≥0)=ps.any ET∧w'=w):=by
  refine tS (cK C ⟨fun i w'=>∃j:Nat,i=(j:Int)∧j≤ps.length∧ps.any ET=(ps.drop j).any ET∧w'=w,fun i _=>(ps.length-i).toNat,⟨0,rfl,bW _,rfl,rfl⟩,?_⟩)
  rintro _ i w1 ⟨j,rfl,hj,q,rfl⟩
  refine aG (fun cR=>?_) (fun J=>?_)
  ·have u:j<ps.length:=by omega
   rw[GK u,List.any_cons]at q
   refine JS C u fun ad hc _=>?_
   have A:=hc 0 (.string (kI ps[j])) (by omega) (by simp [u])
   rw[Addr.add_zero']at A
   refine yF A (lQ rfl (by kernel_rfl) (qgd ps[j]) ?_)
   rintro _ _ ⟨rfl,rfl⟩
   refine⟨_,rfl,iQ (fun h=>⟨(j:Int),rfl,?_,rfl⟩) (fun h=>⟨⟨j+1,by rw[aD (by omega) (by omega)];omega,by omega,?_,rfl⟩,by dsimp only;rw[aD (by omega) (by omega)];omega⟩)⟩
   ·rw[q,h,decide_eq_true (by omega)];rfl
   ·rw[q,h];rfl
  ·refine⟨-1,rfl,?_,rfl⟩
   rw[q,zN (by omega)];rfl
 refine aO I ?_
 rintro _ _ ⟨r,rfl,M,rfl⟩
 exact⟨r,rfl,by rw[M],rfl⟩
theorem qaf(s:ByteArray):Calls P yK #[.string s] w (fun e w'=>e=aW (.bool (iA s))∧Ev w w'):=by
 obtain⟨l,rfl⟩:∃l,s=kI l:=⟨s.data.toList,(VY s).symm⟩
 unfold iA OI
 rw[rV]
 refine WU ?_
 rw[pN]
 refine cC (fun q=>hZ (ZQ l 0) (iQ (fun hc=>?_) (fun hc=>?_))) (fun j=>?_)
 ·refine⟨?_,Ch.refl _ w⟩
  unfold okU;rw[hc];simp
 ·refine aO (qhe (by omega)) ?_
  rintro _ w2 ⟨v,rfl,h2,hv⟩
  refine⟨v,rfl,hZ (qbt (ps:=jY l) hv ?_) ⟨?_,h2⟩⟩
  ·rw[IM _ (cJ l.length)];have:=qdU l;omega
  ·unfold okU;rw[hc,decide_eq_true (by omega)];rfl
 ·exact⟨by rw[decide_eq_false (by omega)];rfl,Ch.refl _ w⟩
theorem XO:∀(q j:List UInt8),(47:UInt8)∉q→jY (q++47::j)=q::jY j
 |[],j,_=>by simp [jY]
 |c::q,j,h=>by
  rw[I5,not_or]at h
  rw[List.cons_append,jY,if_neg (fun e=>h.1 e.symm),XO q j h.2]
theorem XP:∀(j:List UInt8),(47:UInt8)∉j→jY j=[j]
 |[],_=>rfl
 |c::j,h=>by
  rw[I5,not_or]at h
  rw[jY,if_neg (fun e=>h.1 e.symm),XP j h.2]
def okR(q j:List UInt8):Bool:=(!j.contains 0)&& !(jY (q++j)).any ET
theorem qcK(s:ByteArray)(an:s.size≤4611686018427387904):Calls P rG #[.string s] w (fun e w'=>e=aW (.bool (iA s))∧w'=w):=by
 obtain⟨l,rfl⟩:∃l,s=kI l:=⟨s.data.toList,(VY s).symm⟩
 unfold iA OI
 rw[rV]
 rw[pN]at an
 refine CW ?_
 rw[pN]
 have ae:okU l=okR [] l:=rfl
 have ac:∀{j:Nat} (h:j<l.length),rd (TJ (kI l)) (j:Int)=((l[j].toNat:Nat):Int):=fun{j} h=>by
  have:=qsm (s:=kI l) (i:=j) (by rw[rV];exact h)
  simpa [rV]using this
 refine⟨fun T i w'=>w'=w∧((∃q u pre:List UInt8,l=pre++q++u∧T=(pre.length:Int)∧i=((pre.length+q.length:Nat):Int)∧(47:UInt8)∉q∧okU l=okR q u)∨(i=((l.length+1:Nat):Int)∧okU l=true)),fun _ i _=>(l.length+1-i).toNat,⟨rfl,.inl ⟨[],l,[],rfl,rfl,rfl,by simp,ae⟩⟩,?_⟩
 rintro _ T i w1 ⟨rfl,af⟩
 refine aG (fun au=>?_) (fun ar=>?_)
 ·rcases af with⟨q,u,pre,hl,rfl,rfl,Y,hok⟩|⟨rfl,_⟩
  ·have J:l.length=pre.length+q.length+u.length:=by rw[hl,bD,bD]
   refine⟨fun M w'=>w'=w1∧((∃A I C:List UInt8,l=C++A++I∧M=(C.length:Int)∧((pre.length+q.length+1:Nat):Int)=((C.length+A.length:Nat):Int)∧(47:UInt8)∉A∧okU l=okR A I)∨(((pre.length+q.length+1:Nat):Int)=((l.length+1:Nat):Int)∧okU l=true)),⟨fun w'=>w'=w1∧∀c r,u=c::r→c≠0,?_,?_⟩,?_⟩
   ·refine aG (fun cR=>?_) (fun aq=>?_)
    ·have N:pre.length+q.length<l.length:=by omega
     refine JT (j:=pre.length+q.length) rfl (by rw[pN];exact N) ?_
     rw[ac N]
     obtain⟨c,r,rfl⟩:∃c r,u=c::r:=by cases u with|nil=>simp at J;omega|cons c r=>exact⟨c,r,rfl⟩
     have hc:l[pre.length+q.length]=c:=by
      have:l[pre.length+q.length]?=some c:=by rw[hl,T9 (by simp)];simp
      exact(List.getElem?_eq_some_iff.1 this).2
     rw[hc]
     refine cN (fun h0=>⟨?_,rfl⟩) (fun h0=>⟨rfl,fun c' r' e=>?_⟩)
     ·have:c=0:=UInt8.toNat_inj.1 (by simpa using h0)
      subst this
      rw[hok];unfold okR;simp
     ·injection e with e1 e2;subst e1
      intro h;subst h;exact h0 rfl
    ·refine⟨rfl,fun c r e=>?_⟩
     subst e;simp at J;omega
   ·rintro _ w2 ⟨rfl,ai⟩
    refine⟨fun b w'=>w'=w2∧b=(match u with|[]=>true|c::_=>c==47),?_,?_⟩
    ·refine jP (fun av=>?_) (fun ap=>?_)
     ·have N:pre.length+q.length<l.length:=by omega
      obtain⟨c,r,rfl⟩:∃c r,u=c::r:=by cases u with|nil=>simp at J;omega|cons c r=>exact⟨c,r,rfl⟩
      have hc:l[pre.length+q.length]=c:=by
       have:l[pre.length+q.length]?=some c:=by rw[hl,T9 (by simp)];simp
       exact(List.getElem?_eq_some_iff.1 this).2
      refine JT (j:=pre.length+q.length) rfl (by rw[pN];exact N) ?_
      rw[ac N,hc]
      refine⟨rfl,?_⟩
      dsimp only
      by_cases h:c=47
      ·subst h;rfl
      ·have h2:¬((c.toNat:Int)=47):=fun e=>h (UInt8.toNat_inj.1 (show c.toNat=47 by omega))
       rw[show(c==47)=false by simpa using h];simpa using h2
     ·cases u with
      |nil=>exact⟨rfl,rfl⟩
      |cons c r=>simp at J;omega
    ·rintro _ b w3 ⟨rfl,rfl⟩
     have am:((l.drop pre.length).take (pre.length+q.length-pre.length))=q:=by
      rw[hl,gY,List.drop_left,MB,List.take_left]
     have part:∀(O:(match u with|[]=>true|c::_=>c==47)=true),uG P bE (.string (kI l)) (some (aB (pre.length:Int))) (some (aB ((pre.length+q.length:Nat):Int))) none fun ab=>aQ (!(ab.toList==(ByteArray.mk #[]).toList)) (aQ (!(ab.toList==(ByteArray.mk #[46]).toList)) (aQ (ab.toList==(ByteArray.mk #[46,46]).toList) ((Ending.returned (.bool false)=Ending.returned (.bool (decide (l.length≤4096)&&okU l))∧w3=w3)) ((fun M w'=>w'=w3∧((∃A I C:List UInt8,l=C++A++I∧M=(C.length:Int)∧((pre.length+q.length+1:Nat):Int)=((C.length+A.length:Nat):Int)∧(47:UInt8)∉A∧okU l=okR A I)∨(((pre.length+q.length+1:Nat):Int)=((l.length+1:Nat):Int)∧okU l=true))) (i64 (((pre.length+q.length:Nat):Int)+1)) w3)) ((Ending.returned (.bool false)=Ending.returned (.bool (decide (l.length≤4096)&&okU l))∧w3=w3))) ((Ending.returned (.bool false)=Ending.returned (.bool (decide (l.length≤4096)&&okU l))∧w3=w3)):=fun O=>by
      refine HA (.inr ⟨.i64,rfl⟩) (.inr ⟨.i64,rfl⟩) (by omega) (by omega) ?_
      rw[am]
      have e0:((kI q).toList==(ByteArray.mk #[]).toList)=(q==[]):=qar (b:=[])
      have e1:((kI q).toList==(ByteArray.mk #[46]).toList)=(q==[46]):=qar (b:=[46])
      have e2:((kI q).toList==(ByteArray.mk #[46,46]).toList)=(q==[46,46]):=qar (b:=[46,46])
      rw[e0,e1,e2]
      have al:∃ps,jY (q++u)=q::ps∧(∀c r,u=c::r→ps=jY r)∧(u=[]→ps=[]):=by
       cases u with
       |nil=>exact⟨[],by rw[iW,XP q Y],(fun _ _ h=>by cases h),fun _=>rfl⟩
       |cons c r=>
        have:c=47:=by simpa using O
        subst this
        exact⟨jY r,XO q r Y,(fun _ _ h=>by injection h with h1 h2;rw[h2]),fun h=>by cases h⟩
      obtain⟨ps,aa,aj,ak⟩:=al
      have Z:ET q=true→okU l=false:=fun hb=>by rw[hok];unfold okR;rw[aa,List.any_cons,hb];simp
      refine oO (fun h0=>oO (fun h1=>iQ (fun h2=>?_) (fun h2=>?_)) (fun h1=>?_)) (fun h0=>?_)
      ·rw[Z (by unfold ET;rw[h0,h1,h2];rfl),Bool.and_false];exact⟨rfl,rfl⟩
      ·have V:ET q=false:=by unfold ET;rw[h0,h1,h2];rfl
       rw[aD (by omega) (by omega)]
       refine⟨rfl,?_⟩
       cases u with
       |nil=>
        refine .inr ⟨by simp at J;omega,?_⟩
        rw[hok];unfold okR;rw[aa,ak rfl,List.any_cons,V];rfl
       |cons c r=>
        have U:c=47:=by simpa using O
        subst U
        refine .inl ⟨[],r,pre++q++[47],by rw[hl];simp,by simp;omega,by simp;omega,by simp,?_⟩
        rw[hok];unfold okR;rw[aa,aj _ _ rfl,List.any_cons,V,List.contains_cons];simp
      ·rw[Z (by unfold ET;rw[h0,h1];rfl),Bool.and_false];exact⟨rfl,rfl⟩
      ·rw[Z (by unfold ET;rw[h0];rfl),Bool.and_false];exact⟨rfl,rfl⟩
     refine iQ (fun O=>part O) (fun X=>?_)
     cases u with
     |nil=>cases X
     |cons c r=>
      have U:c≠47:=by simpa using X
      have ah:c≠0:=ai c r rfl
      refine⟨rfl,.inl ⟨q++[c],r,pre,by rw[hl];simp,rfl,by simp;omega,?_,?_⟩⟩
      ·rw[List.mem_append,not_or];exact⟨Y,by simpa using fun e=>U e.symm⟩
      ·rw[hok];unfold okR
       rw[List.contains_cons,show((0:UInt8)==c)=false by simpa using fun e=>ah e.symm];simp
   ·rintro _ M w4 ⟨rfl,ag⟩
    rw[aD (n:=((pre.length+q.length:Nat):Int)+1) (by omega) (by omega)]
    exact⟨⟨rfl,ag⟩,by dsimp only;omega⟩
  ·omega
 ·rcases af with⟨q,u,pre,hl,rfl,rfl,Y,hok⟩|⟨rfl,hok⟩
  ·have J:l.length=pre.length+q.length+u.length:=by rw[hl,bD,bD]
   omega
  ·refine⟨?_,rfl⟩
   rw[hok,Bool.and_true]
   by_cases h:l.length≤4096
   ·rw[decide_eq_true h,decide_eq_true (by omega)]
   ·rw[decide_eq_false h,decide_eq_false (by omega)]
end
end
section
noncomputable abbrev eE:TypeId:=dD P aJ
noncomputable def zF(v:Value)(us:List E3):List It:=lK eE 2 v us.length (gA us)::us.reverse.map fun u=>bI .u8 eB u.2.1 u.2.2
theorem qas{us:List E3}{l:List En}(h:us.map er=l):us.length=l.length:=by rw[←h,fE]
section
variable {w0 w w':World} {F:List It}
theorem Es.own{v:Value}{us:List E3}(f:Fr w0 w (zF v us)):Es w v us:=
 ⟨f.row 0 rfl,fun u hu=>by
  have hm:bI .u8 eB u.2.1 u.2.2∈zF v us:=lL _ (List.mem_map.2 ⟨u,List.mem_reverse.2 hu,rfl⟩)
  have:ON .u8 eB w 0 u.2.1 u.2.2:=(f.mem hm).1
  exact this.nm⟩
theorem Es.shape{v:Value}{us:List E3}(h:Es w v us):∃a c,v=.slice a us.length c∧us.length≤c:=h.1.shape
theorem Es.nil(w:World):Es w (bR) []:=⟨Sl.of_ownS (World.ownsRow_nil w 0 eE 2),fun _ h=>by cases h⟩
theorem Sl.of_st2{ad:Addr}{s:ByteArray}{d:Value}(h:St w ad [.string s,d]):Sl w 2 (.slice (some ad) 1 1) 1 [.string s,d]:=
 ⟨some ad,1,rfl,cJ _,rfl,fun q ha j u hj=>by injection ha with ha;subst ha;exact St.cell h hj,fun h=>by cases h⟩
theorem xP{i:Int}{r:IntKind}{v:Value}{us:List E3}{j:Nat}{u:E3}{K:Addr→Prop}(h:Es w v us)(q:i=(j:Int))(hu:us[j]?=some u)(hk:∀ad,w.cell? (ad.add 0)=some (.string u.1)→w.cell? (ad.add 1)=some u.2.1→K ad):aX P aJ v (.int r i) K:=by
 subst q
 exact JS h.1 (List.getElem?_eq_some_iff.1 hu).1 (fun ad hc _=>let⟨h1,h2⟩:=h.cell hu hc;hk ad h1 h2)
theorem JU{ad:Addr}{s:ByteArray}{d:Value}{K:ByteArray→Value→Prop}(h0:w.cell? (ad.add 0)=some (.string s))(h1:w.cell? (ad.add 1)=some d)(hk:K s d):aF P aR (.part (.agg [.str,.val])) (aH ad) w K:=
 lR [.string s,d] (fun j u hj=>by
  rcases j with _|_|j
  ·simp at hj;subst hj;exact h0
  ·simp at hj;subst hj;exact h1
  ·simp at hj) hk rfl (by kernel_rfl)
theorem ZR{b:Value}{xs:List Int}(hb:Nm .u8 w b xs)(hl:xs.length≤10000000000000):Calls P nV #[b] w (JC w xs):=
 S5 (qat (Fr.start w) hb (by omega) fun v w' f=>⟨v,rfl,f.old,f.on 0 rfl⟩)
def Small(us:List E3):Prop:=us.length≤100000000∧∀u∈us,u.2.2.length≤1000000000000∧u.1.size≤1000000000000
theorem Es.oc{v:Value}{us:List E3}(h:Es w v us):∀u∈us,u.2.1.oneCell'=true:=fun u hu=>(h.2 u hu).oc
theorem qp0{v:Value}{us:List E3}(hv:Es w v us)(hs:Small us):Calls P CA #[v] w (fun e w'=>∃v' J,e=aW v'∧J.map er=us.map er∧Fr w w' (zF v' J)):=by
 have X:=hs.1
 refine qcs (cK hv.1 ⟨fun out i w'=>∃(k:Nat) (os:List E3),i=(k:Int)∧k≤us.length∧os.map er=(us.take k).map er∧Fr w w' (zF out os),fun _ i _=>(us.length-i).toNat,⟨0,[],rfl,bW _,rfl,(Fr.start w).nilR eE 2⟩,?_⟩)
 rintro _ out i w1 ⟨k,os,rfl,hk,A,M⟩
 refine aG (fun cR=>?_) (fun V=>?_)
 ·have j:k<us.length:=by omega
  have hu:us[k]?=some us[k]:=fR j
  have q:us[k]∈us:=kH j
  have I:us.take (k+1)=us.take k++[us[k]]:=iV j
  generalize us[k]=u at hu q I
  have N:os.length=k:=by have:=congrArg List.length A;simp at this;omega
  have C:=hv.2 u q
  refine xP (hv.ev M.old) rfl hu fun ad h0 h1=>JU h0 h1 (dX (z:=.agg #[.string ⟨#[]⟩,bR]) M (by kernel_rfl) fun O w2 T=>?_)
  refine cS T 0 rfl (fun w3 f3=>?_) rfl (fun x hx=>by simp at hx;rcases hx with rfl|rfl;rfl;exact C.oc)
  refine⟨fun w'=>Ev w w'∧w'.cell? (O.add 0)=some (.string u.1)∧w'.cell? (O.add 1)=some u.2.1,⟨f3.drew.old,f3.drew.cell 0 0 rfl rfl,f3.drew.cell 0 1 rfl rfl⟩,kB (fun w' hw=>hw.2.1) (dE (fun w' hw=>hw.2.2) ?_)⟩
  refine qat f3.drew (C.ev f3.drew.old) (by have:=(hs.2 u q).1;omega) fun r w4 f4=>⟨⟨f4.old,f4.cell 1 0 rfl rfl,f4.cell 1 1 rfl rfl⟩,?_⟩
  have hn:=f4.nm 0 rfl
  refine⟨hn.one,sI 2 [[.string u.1,r]] f4 rfl rfl (fun v hv=>by simp at hv;subst hv;rfl) (fun ad w5 f5=>⟨⟨f5.old,f5.cell 2 0 rfl rfl,f5.cell 2 1 rfl rfl⟩,?_⟩) (by decide) (by kernel_rfl) (by decide +kernel)⟩
  refine BI 40 (m:=1) f5 3 rfl (Sl.of_st2 (f5.get 0 rfl)) (fun x hx=>?_) (by omega) (by unfold maxLen;omega) (fun v' w6 f6=>⟨⟨f6.old,f6.cell 2 0 rfl rfl,f6.cell 2 1 rfl rfl⟩,?_⟩) (by kernel_rfl)
  ·simp at hx;rcases hx with rfl|rfl
   ·rfl
   ·exact hn.oc
  ·have U:=f6.picksN 4 [3,1] (by decide) (by decide)
   have e1:zF v' (os++[(u.1,r,u.2.2)])=lK eE 2 v' (os.length+1) (gA os++[.string u.1,r])::bI .u8 eB r u.2.2::os.reverse.map fun u=>bI .u8 eB u.2.1 u.2.2:=by
    unfold zF;rw[E9,bD,ZJ];rfl
   refine⟨⟨k+1,os++[(u.1,r,u.2.2)],by rw[aD (by omega) (by omega)];omega,by omega,?_,by rw[e1];exact U⟩,by dsimp only;rw[aD (by omega) (by omega)];omega⟩
   rw[I,gQ,gQ,A];rfl
 ·exact⟨out,os,rfl,by rw[A,gI (by omega)],M⟩
theorem qng{v:Value}{us:List E3}(hv:Es w v us)(hs:Small us):Calls P X3 #[v] w (fun e w'=>e=aW (.bool (VZ (us.map er)))∧Ev w w'):=by
 have X:=hs.1
 refine r7 (cK hv.1 ⟨fun d c i w'=>∃k:Nat,i=(k:Int)∧k≤us.length∧d=gJ ((us.take k).map er)∧c=xB ((us.take k).map er)∧d≤1048576∧c≤1048576∧Ev w w',fun _ _ i _=>(us.length-i).toNat,⟨0,rfl,bW _,rfl,rfl,by decide,by decide,Ch.refl _ w⟩,?_⟩)
 rintro _ d c i w1 ⟨k,rfl,hk,hd,hc,U,hc1,he⟩
 refine aG (fun cR=>?_) (fun V=>?_)
 ·have j:k<us.length:=by omega
  have hu:us[k]?=some us[k]:=fR j
  have q:us[k]∈us:=kH j
  have r:us.take (k+1)=us.take k++[us[k]]:=iV j
  have hall:us=us.take (k+1)++us.drop (k+1):=(MA _ _).symm
  generalize us[k]=u at hu q r
  have C:gJ ((us.take (k+1)).map er)=d+(u.2.2.length:Int):=by rw[r,gQ,DE,hd];simp [gJ,er]
  have I:xB ((us.take (k+1)).map er)=c+(u.1.size:Int):=by rw[r,gQ,YN,hc];simp [xB,er]
  have T:0≤d:=by rw[hd];exact D6 _
  have O:0≤c:=by rw[hc];exact TK _
  have M:=hs.2 u q
  have A:=hv.2 u q
  have over:(d+(u.2.2.length:Int)>1048576∨c+(u.1.size:Int)>1048576)→VZ (us.map er)=true:=fun J=>by
   have h1:gJ (us.map er)=d+(u.2.2.length:Int)+gJ ((us.drop (k+1)).map er):=by
    rw[←C,←DE,←gQ,MA]
   have h2:xB (us.map er)=c+(u.1.size:Int)+xB ((us.drop (k+1)).map er):=by
    rw[←I,←YN,←gQ,MA]
   have h3:=D6 ((us.drop (k+1)).map er)
   have h4:=TK ((us.drop (k+1)).map er)
   unfold VZ
   rcases J with J|J
   ·rw[decide_eq_true (show 1048576<gJ (us.map er)by omega)];simp
   ·rw[decide_eq_true (show 1048576<xB (us.map er)by omega)];simp
  refine xP (hv.ev he) rfl hu fun ad h0 h1=>JU h0 h1 (dX (z:=.agg #[.string ⟨#[]⟩,bR]) (Fr.start w1) (by kernel_rfl) fun Y w2 N=>?_)
  refine cS N 0 rfl (fun w3 f3=>?_) rfl (fun x hx=>by simp at hx;rcases hx with rfl|rfl;rfl;exact A.oc)
  refine dV (f3.cell 0 1 rfl rfl) (aP (A.ev (he.trans f3.old)) (yF (f3.cell 0 0 rfl rfl) ?_))
  rw[aD (n:=d+(u.2.2.length:Int)) (by omega) (by omega),aD (n:=c+(u.1.size:Int)) (by omega) (by omega)]
  refine cC (fun h1=>aG (fun h2=>?_) (fun h2=>?_)) (fun h1=>?_)
  ·exact⟨by rw[over (.inr h2)],he.trans f3.old⟩
  ·exact⟨⟨k+1,by rw[aD (by omega) (by omega)];omega,by omega,C.symm,I.symm,by omega,by omega,he.trans f3.old⟩,by dsimp only;rw[aD (by omega) (by omega)];omega⟩
  ·exact⟨by rw[over (.inl h1)],he.trans f3.old⟩
 ·refine cK (hv.ev he).1 ⟨?_,he⟩
  rw[gI (by omega)]at hd hc
  unfold VZ
  rw[←hd,←hc,decide_eq_false (show ¬1048576<d by omega),decide_eq_false (show ¬1048576<c by omega),Bool.or_false,Bool.or_false,fE]
  by_cases h:4096<us.length
  ·rw[decide_eq_true h,decide_eq_true (by omega)]
  ·rw[decide_eq_false h,decide_eq_false (by omega)]
theorem qjK{v:Value}{us:List E3}(hv:Es w v us)(hl:us.length≤1000000000):Calls P gZ #[v] w (fun e w'=>∃v',e=aW v'∧Fr w w' [lK eE 2 v' us.length (gA us)]):=by
 obtain⟨a,c,rfl,hc⟩:=hv.shape
 refine sA (JR (iQ (fun hn=>?_) (fun hn=>?_)))
 ·have:a=none:=Option.isNone_iff_eq_none.1 hn
  subst this
  obtain⟨r,c',e1,_,_,_,h4⟩:=hv.1
  injection e1 with e1 _ _
  have h0:=h4 e1.symm
  have:us=[]:=xI h0
  subst this
  exact⟨_,rfl,(Fr.start w).nilR eE 2⟩
 ·refine qrG (sz:=2) (Fr.start w) rfl (fun t5 w1 j=>?_) (by kernel_rfl)
  refine BI 40 j 0 rfl (hv.1.ev j.old) (qup hv.oc) (by omega) (by unfold maxLen;omega) (fun v' w2 q=>⟨v',rfl,?_⟩) (by kernel_rfl)
  rw[vV,sG]at q;exact q
theorem qjU(s:ByteArray)(d:Value)(hd:d.oneCell'=true):Calls P pY #[.agg #[.string s,d]] w (fun e w'=>e=aW (.bool (!iA s))∧Ev w w'):=
 RP (mL (Fr.start w) fun q w1 j=>yF (j.cell 0 0 rfl rfl) (gC (qaf s) fun w2 h2=>⟨rfl,j.old.trans h2⟩))
theorem JA{v:Value}{us:List E3}(hv:Es w v us)(hl:us.length≤1000000000):Calls P gB #[v,.func (.func pY) #[] #[]] w (fun e w'=>e=aW (.bool ((us.map er).any fun x=>!iA x.1))∧Ev w w'):=by
 refine nY ?_
 have I:Calls P gL #[v,.func (.func pY) #[] #[]] w (fun e w'=>∃r:Int,e=aW (aB r)∧decide (r≥0)=((us.map er).any fun x=>!iA x.1)∧Ev w w'):=by
  refine pI (cK hv.1 ⟨fun i w'=>∃j:Nat,i=(j:Int)∧j≤us.length∧((us.map er).any fun x=>!iA x.1)=(((us.drop j).map er).any fun x=>!iA x.1)∧Ev w w',fun i _=>(us.length-i).toNat,⟨0,rfl,bW _,rfl,Ch.refl _ w⟩,?_⟩)
  rintro _ i w1 ⟨j,rfl,hj,q,he⟩
  refine aG (fun cR=>?_) (fun J=>?_)
  ·have A:j<us.length:=by omega
   rw[GK A,U0,List.any_cons]at q
   have hu:us[j]?=some us[j]:=fR A
   have C:us[j]∈us:=kH A
   generalize us[j]=u at hu C q
   refine xP (hv.ev he) rfl hu fun ad h0 h1=>JU h0 h1 (lQ rfl (by kernel_rfl) (qjU u.1 u.2.1 (hv.oc u C)) ?_)
   rintro _ w2 ⟨rfl,h2⟩
   refine⟨_,rfl,iQ (fun h=>⟨(j:Int),rfl,?_,he.trans h2⟩) (fun h=>⟨⟨j+1,by rw[aD (by omega) (by omega)];omega,by omega,?_,he.trans h2⟩,by dsimp only;rw[aD (by omega) (by omega)];omega⟩)⟩
   ·rw[q,decide_eq_true (by omega)];show true=(!iA u.1||_);rw[h];rfl
   ·rw[q];show(!iA u.1||_)=_;rw[h];rfl
  ·refine⟨-1,rfl,?_,he⟩
   rw[q,zN (by omega)];rfl
 refine aO I ?_
 rintro _ w2 ⟨r,rfl,M,h2⟩
 exact⟨r,rfl,by rw[M],h2⟩
end
end
section
theorem qr7(a b:ByteArray):Op.bytesLess a.toList b.toList=G5 a b:=by rw[ZI,ZI];rfl
theorem IT(a b:ByteArray):(a.toList==b.toList)=decide (a=b):=by
 rw[ZI,ZI]
 obtain⟨⟨a⟩⟩:=a;obtain⟨⟨b⟩⟩:=b
 by_cases h:a=b
 ·subst h;simp
 ·simp [h]
abbrev qqG(l:List En):List ByteArray:=l.map (·.1)
theorem qrm{l:List En}(hw:Upw l)(ha:∀i,(hi:i+1<l.length)→l[i].1≠l[i+1].1):Up l:=by
 unfold Up
 rw[List.pairwise_iff_getElem]
 intro i j hi hj r
 have q:=List.pairwise_iff_getElem.1 hw
 have h1:G5 l[i].1 l[i+1].1=true:=by
  cases hc:G5 l[i].1 l[i+1].1 with
  |true=>rfl
  |false=>exact absurd (TD hc (q i (i+1) hi (by omega) (by omega))) (ha i (by omega))
 by_cases he:j=i+1
 ·subst he;exact h1
 ·exact qnn h1 (q (i+1) j (by omega) hj (by omega))
theorem qoW{l:List En}{i:Nat}(hi:i+1<l.length)(h:l[i].1=l[i+1].1):¬(l.map (·.1)).Nodup:=by
 intro hn
 have:=List.pairwise_iff_getElem.1 (List.nodup_iff_pairwise_ne.1 hn) i (i+1) (by simp;omega) (by simp;omega) (by omega)
 simp at this;exact this h
theorem Small.perm{a b:List E3}(h:a.Perm b)(hs:Small b):Small a:=⟨by rw[h.length_eq];exact hs.1,fun u hu=>hs.2 u (h.mem_iff.1 hu)⟩
section
variable {w0 w w':World} {F:List It}
def qqK(w:World)(r:List En×Int)(e:Ending)(w':World):Prop:=∃v' j,e=bP #[v',aB r.2]∧j.map er=r.1∧Fr w w' (zF v' j)
theorem zG(he:Ev w w'):Fr w w' (zF (bR) []):=Fr.nilR (F:=[]) he eE 2
theorem qlN{v:Value}{us:List E3}(hv:Es w v us)(hs:Small us):Calls P X2 #[v] w (qqK w (jV (us.map er))):=by
 have ac:=hs.1
 refine q9 (gC (JA hv (by omega)) fun w1 h1=>iQ (fun O=>?_) (fun A=>?_))
 ·have e1:jV (us.map er)=([],6):=by unfold jV;rw[if_pos O]
  rw[e1]
  exact⟨_,[],rfl,rfl,zG h1⟩
 refine aO (qjK (hv.ev h1) (by omega)) ?_
 rintro _ w2 ⟨t9,rfl,f2⟩
 refine⟨t9,rfl,cZ (TU f2 hv.oc (by omega)) fun w3 ⟨r,hp,hw,f3⟩=>?_⟩
 have h3:Ev w w3:=h1.trans f3.old
 have hv3:Es w3 t9 r:=⟨f3.row 0 rfl,fun u hu=>(hv.2 u (hp.mem_iff.1 hu)).ev h3⟩
 have af:Upw (r.map er):=by unfold Upw;rw[List.pairwise_map];exact hw
 have J:(r.map er).Perm (us.map er):=hp.map er
 have aj:r.length≤100000000:=by rw[hp.length_eq];exact ac
 have ab:¬(qqG (r.map er)).Nodup→jV (us.map er)=([],7):=fun hd=>by
  unfold jV
  rw[if_neg (by rw[A];decide),if_pos (fun h=>hd ((J.map (fun x=>x.1)).nodup_iff.2 h))]
 refine cK hv3.1 ⟨fun i w'=>∃j:Nat,i=(j:Int)∧j≤r.length∧(∀i,(hi:i+1<r.length)→i+1<j→r[i].1≠r[i+1].1)∧Ev w3 w',fun i _=>(r.length-i).toNat,⟨0,rfl,bW _,fun _ _ h=>by omega,Ch.refl _ _⟩,?_⟩
 rintro _ i w4 ⟨j,rfl,hj,M,he⟩
 refine aG (fun cR=>?_) (fun an=>?_)
 ·have C:j<r.length:=by omega
  have step:∀w',Ev w3 w'→(j=0∨∃q,∃(hq:q+1<r.length),j=q+1∧r[q].1≠r[q+1].1)→(∃j':Nat,i64 ((j:Int)+1)=(j':Int)∧j'≤r.length∧(∀i,(hi:i+1<r.length)→i+1<j'→r[i].1≠r[i+1].1)∧Ev w3 w')∧((r.length:Int)-i64 ((j:Int)+1)).toNat<((r.length:Int)-(j:Int)).toNat:=fun w' ae hc=>by
   rw[aD (by omega) (by omega)]
   refine⟨⟨j+1,by omega,by omega,fun i hi ao=>?_,ae⟩,by omega⟩
   by_cases aa:i+1<j
   ·exact M i hi aa
   ·rcases hc with hc|⟨q,hq,hc,N⟩
    ·omega
    ·have:i=q:=by omega
     subst this;exact N
  refine aG (fun ak=>?_) (fun ag=>step _ he.drew (.inl (by omega)))
  obtain⟨q,rfl⟩:∃q,j=q+1:=⟨j-1,by omega⟩
  have I:=hv3.ev he
  refine xP I rfl (fR C) fun ad h0 _=>kB (fun w' hw=>Ch.cell (MQ hw) h0 fun h=>h) ?_
  rw[aD (n:=((q+1:Nat):Int)-1) (by omega) (by omega),show((q+1:Nat):Int)-1=(q:Int)by omega]
  refine xP I rfl (fR (show q<r.length by omega)) fun al V _=>kB (fun w' hw=>Ch.cell (MQ hw) V fun h=>h) ?_
  rw[IT]
  refine aG (fun Y=>?_) (fun N=>step _ he.drew (.inr ⟨q,C,rfl,fun h=>N h.symm⟩))
  have hd:¬(qqG (r.map er)).Nodup:=qoW (l:=r.map er) (i:=q) (by simpa using C) (by simpa [er]using Y.symm)
  rw[ab hd]
  exact⟨_,[],rfl,rfl,zG (h3.trans he.drew)⟩
 ·have U:Up (r.map er):=qrm af fun i hi=>by
   have Z:i+1<r.length:=by simpa using hi
   have:=M i Z (by omega)
   simpa [er]using this
  have hnd:((us.map er).map (·.1)).Nodup:=(J.map (·.1)).nodup_iff.1 U.nodup
  have I:=hv3.ev he
  have T:=hs.perm hp
  refine gC (qng I T) fun w5 h5=>?_
  rw[qaN J]
  refine iQ (fun hm=>?_) (fun hm=>?_)
  ·have e1:jV (us.map er)=([],5):=by unfold jV;rw[if_neg (by rw[A];decide),if_neg (fun h=>h hnd),if_pos hm]
   rw[e1];exact⟨_,[],rfl,rfl,zG (h3.trans (he.trans h5))⟩
  ·have e1:jV (us.map er)=(r.map er,0):=by unfold jV;rw[if_neg (by rw[A];decide),if_neg (fun h=>h hnd),if_neg (by rw[hm];decide),qbi U J]
   rw[e1]
   refine aO (qp0 (I.ev h5) T) ?_
   rintro _ w6 ⟨t37,ai,rfl,X,f6⟩
   exact⟨t37,rfl,t37,ai,rfl,X,Fr.glue (F:=[]) (h3.trans (he.trans h5)) f6|>fun f=>by simpa using f⟩
theorem Sl.split{v:Value}{us:List E3}(h:Sl w 2 v us.length (gA us))(k:Nat)(hk:k≤us.length):Sl w 2 (oV 2 v 0 k) (us.take k).length (gA (us.take k))∧Sl w 2 (oV 2 v k us.length) (us.drop k).length (gA (us.drop k)):=by
 constructor
 ·have:=h.sub 0 k (bW _) hk
  rw[Z9,qac,oL,PF]at this
  rw[eJ,vU hk];exact this
 ·have:=h.sub k us.length hk (cJ _)
  rw[PE,gI (by rw[UP,cQ];omega)]at this
  rw[cQ];exact this
end
end
end Go.Proofs.YtabchipjjghhnaaGreatDoorV
