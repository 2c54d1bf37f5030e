import Derived.Test.YtabchipjjghhnaaGreatDoorVPart12
set_option linter.unusedVariables false
set_option linter.unusedSimpArgs false
namespace Go.Proofs.YtabchipjjghhnaaGreatDoorV
open Go Go.RowKit
def HE(xs:List Int)(W i:Nat):Int:=rd xs ((i*(W+1):Nat):Int)
def OK(xs:List Int)(W i:Nat):List Int:=(xs.drop (i*(W+1)+1)).take W
def qba(xs:List Int)(W:Nat)(p:Int):Nat→List Int
 |0=>Q2 (HE xs W 0) (OK xs W 0) [] (jM p) W
 |i+1=>Q2 (HE xs W (i+1)) (OK xs W (i+1)) (qba xs W p i) (jM p) W
def upU(xs:List Int)(W:Nat)(p:Int):Nat→List Int
 |0=>[]
 |i+1=>qba xs W p i
theorem qfJ(xs:List Int)(W:Nat)(p:Int)(i:Nat):qba xs W p i=Q2 (HE xs W i) (OK xs W i) (upU xs W p i) (jM p) W:=by cases i<;>rfl
def DI(xs:List Int)(W:Nat)(p:Int):Nat→List Int
 |0=>[]
 |i+1=>DI xs W p i++qba xs W p i
theorem qbb(xs:List Int)(W:Nat)(p:Int)(i:Nat):(qba xs W p i).length=W:=by rw[qfJ,I0]
theorem EQ(xs:List Int)(W:Nat)(p:Int):∀i,(DI xs W p i).length=i*W
 |0=>by simp [DI]
 |i+1=>by rw[DI,bD,EQ,qbb,mJ]
def vT(n:Nat)(j p:Int):Bool:=xZ j p&&decide ((n:Int)%(j+1)=0)&&decide ((n:Int)/(j+1)*j≤1048576)
def L4(xs:List Int)(W n:Nat):Bool:=decide (∀i,i<n→HE xs W i≤4)
def qag(w:World)(xs:List Int)(j p:Int)(e:Ending)(w':World):Prop:=
 if vT xs.length j p then
  if L4 xs j.toNat (xs.length/(j.toNat+1))then TR w (some (DI xs j.toNat p (xs.length/(j.toNat+1)))) 0 e w'
  else TR w none 4 e w'
 else TR w none 1 e w'
theorem qh5{n W:Nat}{p:Int}(h:vT n W p=true):1≤W∧W≤1048576∧1≤p∧p≤4∧n=n/(W+1)*(W+1)∧n/(W+1)*W≤1048576:=by
 simp only[vT,xZ,mK,decide_eq_true_eq]at h
 obtain⟨⟨⟨⟨⟨h1,h2⟩,h3⟩,h4⟩,h5⟩,h6⟩:=h
 have j:n%(W+1)=0:=by
  have:((n%(W+1):Nat):Int)=(n:Int)%((W:Int)+1):=by rw[QM];rfl
  omega
 have:=ZL n (W+1)
 rw[A4]at this
 have q:((n/(W+1)*W:Nat):Int)≤1048576:=by
  have:((n/(W+1)*W:Nat):Int)=(n:Int)/((W:Int)+1)*W:=by rw[rM,Int.natCast_ediv];rfl
  omega
 omega
theorem qlP{x:Value}{xs:List Int}{q p:Int}{w:World}(hx:Nm .u8 w x xs)(hl:xs.length≤1000000000)(hp:p≤9223372036854775807):
  Calls P O4 #[x,aB q,aB p] w (qag w xs q p):=by
 have I:vT xs.length q p=false→qag w xs q p (bP #[bR,aB 1]) w:=fun h=>by
  unfold qag;rw[h];exact⟨Ch.refl _ w,rfl⟩
 refine WO ⟨fun w'=>vT xs.length q p=true∧w'=w,aO qaU ?_,?_⟩
 ·rintro _ _ ⟨rfl,rfl⟩
  refine⟨_,rfl,?_⟩
  cases N:xZ q p with
  |false=>exact qiL (I (by simp [vT,N]))
  |true=>
   have hw:1≤q∧q≤1048576:=by simp [xZ]at N;omega
   have e1:i64 (q+1)=q+1:=aD (by omega) (by omega)
   rw[e1]
   have ac:0≤(xs.length:Int)/(q+1):=QS (by omega) (by omega)
   have aw:(xs.length:Int)/(q+1)≤xs.length:=ZM _ (by omega)
   have ay:0≤(xs.length:Int)/(q+1)*q:=DN ac (by omega)
   have T:(xs.length:Int)/(q+1)*q≤1000000000*1048576:=Int.mul_le_mul (by omega) hw.2 (by omega) (by omega)
   have e0:IntKind.wrap .i64 (Int.tdiv (xs.length:Int) (q+1))=(xs.length:Int)/(q+1):=by
    rw[sH (by omega)];exact aD (by omega) (by omega)
   refine VK (aP hx (kZ (by omega) (iC (fun h0=>aP hx (F4 (by omega) (aG (fun h1=>I ?_) (fun h1=>⟨?_,rfl⟩)))) (fun h0=>I ?_))))
   all_goals rw[N0 (by omega)]at h0
   ·rw[e0,aD (by omega) (by omega)]at h1
    simp [vT,h1]
   ·rw[e0,aD (by omega) (by omega)]at h1
    simp [vT,N];omega
   ·simp [vT,h0]
 rintro _ _ ⟨hok,rfl⟩
 clear I
 rename_i w
 obtain⟨W,rfl⟩:∃W:Nat,q=W:=⟨q.toNat,by simp [vT,xZ]at hok;omega⟩
 obtain⟨au,av,ba,bb,hn,ah⟩:=qh5 hok
 have M:∀{e:Ending} {w':World},(if L4 xs W (xs.length/(W+1))then TR w (some (DI xs W p (xs.length/(W+1)))) 0 e w' else TR w none 4 e w')→qag w xs W p e w':=fun h=>by
  unfold qag;rw[if_pos hok,dH];exact h
 generalize xs.length/(W+1)=n at hn ah M
 have eW:i64 ((W:Int)+1)=((W+1:Nat):Int):=by rw[aD (by omega) (by omega)];omega
 rw[eW]
 refine⟨fun xv out up w3=>∃i:Nat,i≤n∧(∀j,j<i→HE xs W j≤4)∧Nm .u8 w xv (xs.drop (i*(W+1)))∧ON .u8 eB w3 w.heap.size out (DI xs W p i)∧Nm .u8 w3 up (upU xs W p i)∧(∀g,up.ownBlock=some g→out.ownBlock=some g→False)∧Ev w w3,
  fun xv _ _ _=>qjr xv,⟨0,by omega,by omega,by simpa using hx,ON.nil _ _ _ _,Nm.nil _ _,(fun g h=>by cases h),Ch.refl _ w⟩,?_⟩
 rintro _ xv out up w3 ⟨i,hi,O,u,hO,aj,az,C⟩
 have ax:i*(W+1)≤n*(W+1):=kR _ hi
 have ae:(xs.drop (i*(W+1))).length=n*(W+1)-i*(W+1):=by rw[cQ,←hn]
 refine aP u (aG (fun ap=>?_) (fun an=>?_))
 ·have cR:i<n:=by
   rcases I6 i n with h|h
   ·exact h
   ·have:i=n:=by omega
    subst this;omega
  have af:(i+1)*(W+1)≤n*(W+1):=kR _ cR
  rw[mJ]at af
  have hk:rd (xs.drop (i*(W+1))) 0=HE xs W i:=by
   simp only[HE,rd,lH,QO,dH];rfl
  have J:=u.ev C
  have bc:=jB u.2 0
  refine dL J (by omega) (by omega) fun a1 c1 _=>bG c1 (aG (fun h5=>?_) (fun h5=>?_))
  ·rw[hk]at h5
   refine M ?_
   rw[if_neg (by simp only[L4,decide_eq_true_eq];intro h;have:=h i cR;omega)]
   exact⟨C,rfl⟩
  ·have Y:Nm .u8 w (oV 1 xv 1 (W+1)) (OK xs W i):=by
    have:=u.sub 1 (W+1) (by omega) (by omega)
    rwa [U2,Nat.add_sub_cancel]at this
   refine⟨fun w'=>Ev w3 w',Ev.drew0 w3,dL J (by omega) (by omega) fun a2 c2 _=>aN (fun w' ak=>ak.cell c2 (fun h=>h)) (dJ u 1 (W+1) (.inr ⟨.i64,rfl⟩) (.inr ⟨.i64,rfl⟩) (by omega) (by omega) fun _=>?_)⟩
   rw[aD (n:=rd _ _) (by omega) (by omega),hk]
   have ag:(OK xs W i).length=W:=by unfold OK;rw[eJ,cQ];omega
   refine aO (qjZ (Y.ev C.drew) aj.drew (by omega) hp) ?_
   rintro _ w4 ⟨r,rfl,h4,N⟩
   have Z:Ev w w4:=Ev.trans C.drew h4
   have ai:=EQ xs W p i
   have V:ON .u8 eB w4 w3.heap.size r (qba xs W p i):=by rw[qfJ];rw[ag]at N;exact N
   have ao:i*W≤n*W:=kR _ hi
   refine⟨r,rfl,(Ev.drew0 w3).trans h4,lS (hO.ev (Ev.drew0 w3|>.trans h4)) V.nm (by rw[ai,qbb];omega) Z.size fun o1 w5 ab hc1 T=>dJ u (W+1) (n*(W+1)-i*(W+1)) (.inr ⟨.i64,rfl⟩) (.inl ⟨rfl,ae.symm⟩) (by omega) (by omega) fun A=>?_⟩
   have al:Ev w w5:=Z.new hc1 fun g _ hg=>(hO.base hg).1
   have X:∀g,r.ownBlock=some g→w3.heap.size≤g∧g<w4.heap.size:=fun g hg=>N.base hg
   have U:∀g,out.ownBlock=some g→g<w3.heap.size:=fun g hg=>(hO.base hg).2
   refine⟨⟨i+1,cR,?_,?_,ab,?_,?_,al⟩,?_⟩
   ·intro j hj
    rcases I6 j i with h|h
    ·exact O j h
    ·have:j=i:=by omega
     subst this;rw[←hk];omega
   ·rw[U2,gI (by rw[cQ,←hn];omega)]at A
    rwa [mJ]
   ·exact V.nm.ch hc1 fun g _ hg hh=>by have:=X g hg;have:=U g hh;omega
   ·intro g hg hh
    have:=X g hg
    rcases T with h|h
    ·rw[h]at hh;have:=U g hh;omega
    ·have:=h g hh;omega
   ·dsimp only
    rw[A.slen,u.slen,eJ,cQ];omega
 ·have:i=n:=by
   rcases I6 i n with h|h
   ·have:(i+1)*(W+1)≤n*(W+1):=kR _ h
    rw[mJ]at this;omega
   ·omega
  subst this
  refine M ?_
  rw[if_pos (by simp only[L4,decide_eq_true_eq];exact O)]
  exact⟨C,out,rfl,hO⟩
section
theorem Nm.chx{k:IntKind}{S:SS}{w w':World}{v:Value}{xs:List Int}(h:Nm k w v xs)(hc:Ch S w w')(hs:xs≠[]→∀g i,v.ownBlock=some g→¬S g i):Nm k w' v xs:=by
 by_cases hx:xs=[]
 ·subst hx
  obtain⟨⟨a,c,rfl,h1,h2,h3,h4⟩,q⟩:=h
  exact⟨⟨a,c,rfl,h1,h2,fun ad ha j u hj=>by simp at hj,h4⟩,q⟩
 ·exact h.ch hc (hs hx)
theorem qlW(a b:Int):(a==b)=decide (a=b):=by by_cases h:a=b<;>simp [h]
def Z5(c:Int):Bool:=decide (c=32∨c=9∨c=10∨c=13)
theorem qbj{c:Int}{w:World}:Calls P sO #[.int .u8 c] w (fun e w'=>e=aW (.bool (Z5 c))∧w'=w):=by
 refine NT (jP (fun h1=>jP (fun h2=>jP (fun h3=>⟨?_,rfl⟩) (fun h3=>⟨?_,rfl⟩)) (fun h2=>⟨?_,rfl⟩)) (fun h1=>⟨?_,rfl⟩))<;>simp [Z5, *]<;>exact qlW _ _
def SG(w:World)(ad:Addr)(b:Value)(xs:List Int)(a:Nat):Prop:=St w ad [b,aB a]∧Nm .u8 w b xs∧(xs≠[]→b.ownBlock≠some ad.block)∧a≤xs.length∧xs.length≤1000000000
theorem SG.ev{w w':World}{ad:Addr}{b:Value}{xs:List Int}{a:Nat}(h:SG w ad b xs a)(he:Ev w w'):SG w' ad b xs a:=⟨h.1.ev he,h.2.1.ev he,h.2.2⟩
def GS(w w':World)(ad:Addr)(b:Value)(xs:List Int)(a:Nat):Prop:=SG w' ad b xs a∧Ch (Rg ad 2) w w'
theorem GS.trans{w w1 w2:World}{ad:Addr}{b:Value}{xs:List Int}{a a2:Nat}(h:GS w w1 ad b xs a)(h2:GS w1 w2 ad b xs a2):GS w w2 ad b xs a2:=⟨h2.1,Ch.trans h.2 h2.2 fun _ _ _ h=>h⟩
theorem GS.ev{w w1 w2:World}{ad:Addr}{b:Value}{xs:List Int}{a:Nat}(h:GS w w1 ad b xs a)(he:Ev w1 w2):GS w w2 ad b xs a:=⟨h.1.ev he,Ch.trans h.2 he fun _ _ _ h=>h.elim⟩
theorem GS.pre{w w1 w2:World}{ad:Addr}{b:Value}{xs:List Int}{a:Nat}(he:Ev w w1)(h:GS w1 w2 ad b xs a):GS w w2 ad b xs a:=⟨h.1,Ch.trans (he.mono fun _ _ _ h=>h.elim) h.2 fun _ _ _ h=>h⟩
theorem SG.step{w:World}{ad:Addr}{b:Value}{xs:List Int}{a:Nat}(h:SG w ad b xs a):GS w w ad b xs a:=⟨h,Ch.refl _ w⟩
theorem SG.set{w w':World}{ad:Addr}{b:Value}{xs:List Int}{a a2:Nat}(h:SG w ad b xs a)(hc:Ch (Rg (ad.add 1) 1) w w')(hS:St w' ad ([b,aB a].set 1 (aB a2)))(ha:a2≤xs.length):GS w w' ad b xs a2:=by
 have hc2:Ch (Rg ad 2) w w':=hc.mono fun n i _ hh=>by
  have h1:=hh.1;have h2:=hh.2
  rw[Addr.add_none h.1.1]at h1 h2
  exact⟨h1,by dsimp only at h2;omega,by dsimp only at h2;omega⟩
 exact⟨⟨hS,h.2.1.chx hc2 fun hx g i hg hh=>h.2.2.1 hx (by rw[hg,hh.1]),h.2.2.1,ha,h.2.2.2.2⟩,hc2⟩
section
variable {ad:Addr} {b:Value} {xs:List Int} {a:Nat} {w:World}
theorem VS{f:FuncId}{pf:Int→Bool}(hok:zP P f=true)(hf:∀{c:Int} {w:World},Calls P f #[.int .u8 c] w (fun e w'=>e=aW (.bool (pf c))∧w'=w))(h:SG w ad b xs a):
  Calls P jH #[aH ad,.func (.func f) #[] #[]] w (fun e w'=>e=aW (.bool (decide (a<xs.length)&&pf (rd xs a)))∧Ev w w'):=by
 refine FL ⟨fun w'=>w'=w.drew,rfl,aC (aN (mM (h.1.cell (j:=1) rfl)) (aC (dE (mM (h.1.cell (j:=0) rfl)) (aP h.2.1 (aG (fun cR=>?_) (fun r=>⟨?_,Ev.drew0 w⟩))))))⟩
 ·refine aC (dE (mM (h.1.cell (j:=0) rfl)) (aC (aN (mM (h.1.cell (j:=1) rfl)) (dL h.2.1 (by omega) cR fun a1 q _=>aN (mM q) (lQ rfl hok hf ?_)))))
  rintro _ _ ⟨rfl,rfl⟩
  refine⟨_,rfl,rfl,?_,Ev.drew0 w⟩
  rw[decide_eq_true (show a<xs.length by omega)];rfl
 ·rw[decide_eq_false (show ¬a<xs.length by omega)];rfl
def nlL(xs:List Int):Nat→Nat→Option Nat
 |0,_=>none
 |f+1,i=>if rd xs i=10 then some i else nlL xs f (i+1)
def nlI(xs:List Int)(i:Nat):Option Nat:=nlL xs (xs.length-i) i
theorem qnm{xs:List Int}:∀{f i k:Nat},nlL xs f i=some k→i≤k∧k<i+f
 |f+1,i,k,h=>by
  rw[nlL]at h;split at h
  ·injection h with h;omega
  ·have:=qnm h;omega
theorem qnl{xs:List Int}{i k:Nat}(h:nlI xs i=some k)(hi:i≤xs.length):i≤k∧k<xs.length:=by have:=qnm h;omega
theorem qeE{xs:List Int}{i:Nat}(h:i<xs.length):nlI xs i=if rd xs i=10 then some i else nlI xs (i+1):=by
 unfold nlI;rw[show xs.length-i=(xs.length-(i+1))+1 by omega,nlL]
theorem qhM(h:SG w ad b xs a):Calls P nR #[aH ad] w (fun e w'=>e=aW (.bool (nlI xs a).isSome)∧GS w w' ad b xs (match nlI xs a with|some i=>i+1|none=>a)):=by
 have hl:=h.2.2.2.2
 have ha:=h.2.2.2.1
 refine S2 (aC (bG (h.1.cell (j:=1) rfl) ⟨fun i w'=>∃j:Nat,i=j∧a≤j∧j≤xs.length∧nlI xs j=nlI xs a∧w'=w,fun i _=>xs.length-i.toNat,⟨a,rfl,by omega,ha,rfl,rfl⟩,?_⟩))
 rintro _ i _ ⟨j,rfl,u,hj,hn,rfl⟩
 rw[←hn]
 refine aC (dV (h.1.cell (j:=0) rfl) (aP h.2.1 (aG (fun cR=>?_) (fun A=>?_))))
 ·refine aC (dV (h.1.cell (j:=0) rfl) (dL h.2.1 (by omega) cR fun a1 r _=>bG r (cN (fun e=>?_) (fun e=>?_))))
  ·rw[qeE (by omega),if_pos e,aD (n:=(j:Int)+1) (by omega) (by omega)]
   exact aC (iP h.1 (j:=1) (by simp) rfl rfl fun w2 h2 _ q=>⟨rfl,h.set (a2:=j+1) h2 q (by omega)⟩)
  ·rw[qeE (by omega),if_neg e,aD (n:=(j:Int)+1) (by omega) (by omega)]
   exact⟨⟨j+1,rfl,by omega,by omega,rfl,rfl⟩,by dsimp only;omega⟩
 ·have:nlI xs j=none:=by unfold nlI;rw[show xs.length-j=0 by omega];rfl
  rw[this];exact⟨rfl,h.step⟩
end
end
section
def U7(xs:List Int):Nat→Nat→Bool×Nat
 |0,a=>(true,a)
 |f+1,a=>
  if a<xs.length then
   (if Z5 (rd xs a)then U7 xs f (a+1)
    else if rd xs a=35 then(match nlI xs a with|some i=>U7 xs f (i+1)|none=>(false,a))
    else(true,a))
  else(true,a)
theorem DT{xs:List Int}:∀{f a:Nat},a≤xs.length→a≤(U7 xs f a).2∧(U7 xs f a).2≤xs.length
 |0,a,h=>by simp [U7];exact h
 |f+1,a,h=>by
  rw[U7]
  split
  ·split
   ·have:=DT (xs:=xs) (f:=f) (a:=a+1) (by omega);omega
   ·split
    ·split
     ·rename_i i hi
      have h1:=qnl hi h
      have:=DT (xs:=xs) (f:=f) (a:=i+1) (by omega);omega
     ·exact⟨cJ _,h⟩
    ·exact⟨cJ _,h⟩
  ·exact⟨cJ _,h⟩
def fN(xs:List Int)(a:Nat):Bool×Nat:=U7 xs (xs.length+1-a) a
def atS(w:World)(ad:Addr):Nat:=match w.cell? (ad.add 1)with
 |some (.int _ n)=>n.toNat
 |_=>0
section
variable {ad:Addr} {b:Value} {xs:List Int} {a:Nat} {w:World}
theorem MJ(h:SG w ad b xs a):atS w ad=a:=by unfold atS;rw[h.1.cell (j:=1) rfl];rfl
theorem qel{c:Int}{w:World}:Calls P mW #[.int .u8 c] w (fun e w'=>e=aW (.bool (c==35))∧w'=w):=P6 ⟨rfl,rfl⟩
theorem qj5(h:SG w ad b xs a):Calls P oT #[aH ad] w (fun e w'=>e=aW (.bool ((fN xs a).1&&decide ((fN xs a).2>a)))∧GS w w' ad b xs (fN xs a).2):=by
 have hl:=h.2.2.2.2
 have ha:=h.2.2.2.1
 refine Y2 (aC (bG (h.1.cell (j:=1) rfl) ⟨fun w'=>∃j f:Nat,a≤j∧xs.length<f+j∧U7 xs f j=fN xs a∧GS w w' ad b xs j,fun w'=>xs.length-atS w' ad,⟨a,xs.length+1-a,by omega,by omega,rfl,h.step⟩,?_⟩))
 rintro _ w1 ⟨j,f,C,hf,hbl,h1⟩
 have hj:=h1.1.2.2.2.1
 obtain⟨f,rfl⟩:∃g,f=g+1:=⟨f-1,by omega⟩
 rw[U7]at hbl
 refine gC (VS (pf:=Z5) (by kernel_rfl) qbj h1.1) fun w2 h2=>?_
 have g2:=h1.ev h2
 by_cases cR:j<xs.length
 ·rw[if_pos cR]at hbl
  rw[decide_eq_true cR,Bool.true_and]
  cases hw:Z5 (rd xs j)with
  |true=>
   rw[hw,if_pos rfl]at hbl
   refine qS (aC (bG (g2.1.1.cell (j:=1) rfl) (aC (iP g2.1.1 (j:=1) (by simp) rfl rfl fun w3 h3 _ r=>?_))))
   rw[aD (n:=(j:Int)+1) (by omega) (by omega)]at r
   have g3:=g2.1.set (a2:=j+1) h3 r (by omega)
   exact⟨⟨j+1,f,by omega,by omega,hbl,g2.trans g3⟩,by dsimp only;rw[MJ g3.1,MJ h1.1];omega⟩
  |false=>
   rw[hw,if_neg (by simp)]at hbl
   refine iR (gC (VS (pf:=fun c=>c==35) (by kernel_rfl) qel g2.1) fun w4 h4=>?_)
   have q:=g2.ev h4
   rw[decide_eq_true cR,Bool.true_and]
   refine cN (fun u=>?_) (fun A=>?_)
   ·rw[if_pos u]at hbl
    refine gC (qhM q.1) fun w5 h5=>?_
    cases hn:nlI xs j with
    |none=>
     rw[hn]at hbl h5
     refine qS ⟨?_,?_⟩
     ·rw[←hbl];rfl
     ·rw[←hbl];exact q.trans h5
    |some i=>
     rw[hn]at hbl h5
     replace h5:GS w4 w5 ad b xs (i+1):=h5
     have:=qnl hn hj
     exact iR ⟨⟨i+1,f,by omega,by omega,hbl,q.trans h5⟩,by dsimp only;rw[MJ h5.1,MJ h1.1];omega⟩
   ·rw[if_neg A]at hbl
    refine aC (bG (q.1.1.cell (j:=1) rfl) ?_)
    rw[←hbl]
    exact⟨by simp,q⟩
 ·rw[if_neg cR]at hbl
  rw[decide_eq_false cR,Bool.false_and]
  refine iR (gC (VS (pf:=fun c=>c==35) (by kernel_rfl) qel g2.1) fun w4 h4=>?_)
  have q:=g2.ev h4
  rw[decide_eq_false cR,Bool.false_and]
  refine iR (aC (bG (q.1.1.cell (j:=1) rfl) ?_))
  rw[←hbl]
  exact⟨by simp,q⟩
end
end
section
def qdZ(c:Int):Bool:=decide (c≥48)&&decide (c≤57)
def sE(xs:List Int):Nat→Nat→Int→Nat×Int
 |0,_,v=>(0,v)
 |f+1,a,v=>if a<xs.length∧qdZ (rd xs a)=true then((sE xs f (a+1) (10*v+(rd xs a-48))).1+1,(sE xs f (a+1) (10*v+(rd xs a-48))).2)else(0,v)
theorem qcM{xs:List Int}:∀{f a:Nat} {v:Int},a≤xs.length→(sE xs f a v).1≤f∧a+(sE xs f a v).1≤xs.length
 |0,a,v,h=>by simp [sE];exact h
 |f+1,a,v,h=>by
  rw[sE];split
  ·have:=qcM (xs:=xs) (f:=f) (a:=a+1) (v:=10*v+(rd xs a-48)) (by omega)
   dsimp only;omega
  ·exact⟨bW _,h⟩
theorem UW{c:Int}:qdZ c=true↔48≤c∧c≤57:=by simp [qdZ]
theorem qfd{xs:List Int}:∀{f a:Nat} {v m:Int},0≤v→v<m→0≤(sE xs f a v).2∧(sE xs f a v).2<m*((10^f:Nat):Int)
 |0,a,v,m,h0,h1=>by simp [sE];omega
 |f+1,a,v,m,h0,h1=>by
  have e:m*((10^(f+1):Nat):Int)=(m*10)*((10^f:Nat):Int):=by rw[Nat.pow_succ,rM,Int.mul_assoc,Int.mul_comm ((10^f:Nat):Int)];rfl
  rw[sE];split
  ·rename_i h
   have hd:=UW.1 h.2
   have:=qfd (xs:=xs) (f:=f) (a:=a+1) (v:=10*v+(rd xs a-48)) (m:=m*10) (by omega) (by omega)
   rw[e];exact this
  ·refine⟨h0,?_⟩
   have j:(1:Int)≤((10^(f+1):Nat):Int):=by have:=Nat.pow_pos (n:=f+1) (show 0<10 by decide);omega
   have:m*1≤m*((10^(f+1):Nat):Int):=Int.mul_le_mul_of_nonneg_left j (by omega)
   dsimp only;omega
def qT(xs:List Int)(a:Nat)(most:Int):Int×Nat:=
 if(sE xs 6 a 0).1≥6 then(0,a+5)else if(sE xs 6 a 0).2>most then(0,a+(sE xs 6 a 0).1)else((sE xs 6 a 0).2,a+(sE xs 6 a 0).1)
section
variable {ad:Addr} {b:Value} {xs:List Int} {a:Nat} {w:World}
theorem qpk{c:Int}{w:World}:Calls P mF #[.int .u8 c] w (fun e w'=>e=aW (.bool (qdZ c))∧w'=w):=by
 refine J7 (aG (fun h=>⟨?_,rfl⟩) (fun h=>⟨?_,rfl⟩))<;>simp [qdZ,h]
theorem qhi{most:Int}(h:SG w ad b xs a):Calls P nQ #[aH ad,aB most] w (fun e w'=>e=aW (aB (qT xs a most).1)∧GS w w' ad b xs (qT xs a most).2):=by
 have hl:=h.2.2.2.2
 have ha:=h.2.2.2.1
 refine S1 (aC (aN (mM (h.1.cell (j:=1) rfl)) ⟨fun n w'=>∃k:Nat,k≤5∧0≤n∧n<100000∧a+k≤xs.length∧sE xs 6 a 0=(k+(sE xs (6-k) (a+k) n).1,(sE xs (6-k) (a+k) n).2)∧n<((10^k:Nat):Int)∧GS w w' ad b xs (a+k),fun _ w'=>xs.length-atS w' ad,⟨0,by omega,by omega,by omega,by omega,by simp,by decide,(h.step).ev (Ev.drew0 w)⟩,?_⟩))
 rintro _ n w1 ⟨k,hk,I,J,C,q,M,h1⟩
 refine gC (VS (pf:=qdZ) (by kernel_rfl) qpk h1.1) fun w2 h2=>?_
 have g2:=h1.ev h2
 generalize r:sE xs 6 a 0=r0 at q
 rw[show 6-k=(5-k)+1 by omega,sE]at q
 by_cases hc:a+k<xs.length∧qdZ (rd xs ((a+k:Nat):Int))=true
 ·rw[if_pos hc]at q
  dsimp only at q
  rw[decide_eq_true hc.1,hc.2]
  have hd:=UW.1 hc.2
  refine qS (aC (bG (g2.1.1.cell (j:=1) rfl) ?_))
  rw[aD (n:=((a+k:Nat):Int)-a) (by omega) (by omega)]
  refine aG (fun h5=>?_) (fun h5=>?_)
  ·have:k=5:=by omega
   subst this
   unfold qT
   rw[r,q,if_pos (by dsimp only;omega)]
   exact⟨rfl,g2⟩
  ·refine aC (dE (mM (g2.1.1.cell (j:=0) rfl)) (aC (aN (mM (g2.1.1.cell (j:=1) rfl)) (dL g2.1.2.1 (by omega) (by omega) fun a1 A _=>aN (mM A) (aC (bG ((g2.1.ev (Ev.drew0 _)).1.cell (j:=1) rfl) (aC (iP (g2.1.ev (Ev.drew0 _)).1 (j:=1) (by simp) rfl rfl fun w3 h3 _ u=>?_))))))))
   have hp:((10^(k+1):Nat):Int)=((10^k:Nat):Int)*10:=by rw[Nat.pow_succ,rM];rfl
   have hq:((10^k:Nat):Int)≤((10000:Nat):Int):=Int.ofNat_le.2 (nJ (GI (by decide) (show k≤4 by omega)) (by decide))
   rw[LQ (n:=rd xs ((a+k:Nat):Int)-48) (by omega) (by omega),aD (n:=rd xs ((a+k:Nat):Int)-48) (by omega) (by omega),aD (n:=10*n) (by omega) (by omega),aD (n:=10*n+_) (by omega) (by omega)]
   rw[show i64 (((a+k:Nat):Int)+1)=((a+(k+1):Nat):Int)by rw[aD (by omega) (by omega)];omega]at u
   have g3:=(g2.1.ev (Ev.drew0 w2)).set (a2:=a+(k+1)) h3 u (by omega)
   refine⟨⟨k+1,by omega,by omega,by omega,by omega,?_,by rw[hp];omega,(g2.ev (Ev.drew0 w2)).trans g3⟩,by dsimp only;rw[MJ g3.1,MJ h1.1];omega⟩
   rw[q,show 6-(k+1)=5-k by omega,show a+(k+1)=a+k+1 by omega]
   congr 1;omega
 ·rw[if_neg hc]at q
  have hf:(decide (a+k<xs.length)&&qdZ (rd xs ((a+k:Nat):Int)))=false:=by
   rw[Bool.eq_false_iff];intro hh;rw[mK,decide_eq_true_eq]at hh;exact hc hh
  rw[hf]
  unfold qT
  rw[r,q]
  dsimp only
  rw[if_neg (by omega)]
  refine iR (aG (fun hg=>?_) (fun hg=>?_))
  ·rw[if_pos hg];exact⟨rfl,by simpa using g2⟩
  ·rw[if_neg hg];exact⟨rfl,by simpa using g2⟩
end
end
structure Pc where
 wd:Int
 ht:Int
 pl:Int
 st:Int
 fr:Int
deriving DecidableEq
def Pc.c(p:Pc):List Value:=[aB p.wd,aB p.ht,aB p.pl,aB p.st,aB p.fr]
def Pc.z:Pc:=⟨0,0,0,0,0⟩
def no:Pc×Bool:=(Pc.z,false)
def H4(p:Pc)(n:Int):Pc×Bool:=if p.fr+p.st*p.ht>n then no else(p,true)
def FV(xs:List Int)(most:Int)(a:Nat):Option (Int×Nat):=
 if(fN xs a).1=true∧(fN xs a).2>a∧(qT xs (fN xs a).2 most).1≠0 then some (qT xs (fN xs a).2 most)else none
def IW(xs:List Int)(a:Nat):Int:=if(fN xs a).1=true∧(fN xs a).2<xs.length∧(fN xs a).2>a then((fN xs a).2:Int)else -1
def qeG(xs:List Int)(a:Nat):Int×Int:=if(sE xs 6 a 0).1<1∨(sE xs 6 a 0).1>5 then(-1, -1)else((sE xs 6 a 0).2,((a+(sE xs 6 a 0).1:Nat):Int))
def qh0(xs:List Int)(a:Nat):Option (Int×Nat):=
 if IW xs a<0 then none else if(qeG xs (fN xs a).2).2<0 then none else some ((qeG xs (fN xs a).2).1,(qeG xs (fN xs a).2).2.toNat)
theorem qcN{xs:List Int}:∀{f a:Nat} {v:Int},0≤v→0≤(sE xs f a v).2
 |0,_,_,h=>h
 |f+1,a,v,h=>by
  rw[sE];split
  ·rename_i hh
   have hd:=UW.1 hh.2
   exact qcN (f:=f) (a:=a+1) (by omega)
  ·exact h
theorem qsk{xs:List Int}{f a:Nat}{v:Int}(h:(sE xs f a v).1<1):(sE xs f a v).2=v:=by
 cases f with
 |zero=>rfl
 |succ f=>
  rw[sE]at h⊢;split
  ·rename_i hh;rw[if_pos hh]at h;dsimp only at h;omega
  ·rfl
theorem TM{xs:List Int}{most:Int}{a b:Nat}{v:Int}:FV xs most a=some (v,b)↔qh0 xs a=some (v,b)∧1≤v∧v≤most:=by
 have hn:=qcN (xs:=xs) (f:=6) (a:=(fN xs a).2) (v:=0) (by omega)
 by_cases h0:(fN xs a).1=true∧(fN xs a).2>a
 ·by_cases h1:(fN xs a).2<xs.length
  ·have hw:IW xs a=((fN xs a).2:Int):=by unfold IW;rw[if_pos ⟨h0.1,h1,h0.2⟩]
   unfold FV qh0
   rw[hw,if_neg (show ¬(((fN xs a).2:Int)<0)by omega)]
   unfold qT qeG
   have hz:=qsk (xs:=xs) (f:=6) (a:=(fN xs a).2) (v:=0)
   generalize sE xs 6 (fN xs a).2 0=r at*
   generalize(fN xs a).2=k at*
   obtain⟨r1,r2⟩:=r
   dsimp only at*
   by_cases u:r1≥6
   ·rw[if_pos u,if_pos (show r1<1∨r1>5 by omega),if_neg (by simp),if_pos (by simp)];simp
   ·rw[if_neg u]
    by_cases q:r1<1
    ·have j:r2=0:=hz q
     subst j
     rw[if_pos (Or.inl q),if_pos (show(-1:Int)<0 by omega),if_neg (by split<;>simp)]
     simp
    ·rw[if_neg (show ¬(r1<1∨r1>5)by omega)]
     dsimp only
     rw[if_neg (show ¬(((k+r1:Nat):Int)<0)by omega),dH]
     by_cases A:r2>most
     ·rw[if_pos A,if_neg (by simp)]
      constructor
      ·intro h;cases h
      ·rintro⟨h,_,h3⟩
       simp only[Option.some.injEq,Prod.mk.injEq]at h
       omega
     ·rw[if_neg A]
      by_cases c3:r2=0
      ·rw[if_neg (by simp [c3])]
       constructor
       ·intro h;cases h
       ·rintro⟨h,h2,_⟩
        simp only[Option.some.injEq,Prod.mk.injEq]at h
        omega
      ·rw[if_pos ⟨h0.1,h0.2,c3⟩]
       simp only[Option.some.injEq,Prod.mk.injEq]
       constructor
       ·rintro⟨h1,h2⟩;subst h1;exact⟨⟨rfl,h2⟩,by omega,by omega⟩
       ·rintro⟨h,_⟩;exact h
  ·have hw:IW xs a= -1:=by unfold IW;rw[if_neg (by omega)]
   have C:sE xs 6 (fN xs a).2 0=(0,0):=by rw[sE,if_neg (by omega)]
   have hp:(qT xs (fN xs a).2 most).1=0:=by unfold qT;rw[C];dsimp only;split;rfl;split<;>rfl
   unfold FV qh0
   rw[hw,if_neg (by rw[hp];simp),if_pos (by omega)];simp
 ·have hw:IW xs a= -1:=by unfold IW;rw[if_neg (fun h=>h0 ⟨h.1,h.2.2⟩)]
  unfold FV qh0
  rw[hw,if_neg (fun h=>h0 ⟨h.1,h.2.1⟩),if_pos (by omega)];simp
def tW(tk:Nat→Nat→Option (Int×Nat)):Nat→Option (List Int×Nat)
 |0=>some ([],2)
 |j+1=>(tW tk j).bind fun p=>(tk j p.2).map fun q=>(p.1++[q.1],q.2)
theorem LP{tk:Nat→Nat→Option (Int×Nat)}:∀{j:Nat} {l:List Int} {a:Nat},tW tk j=some (l,a)→l.length=j
 |0,l,a,h=>by simp [tW]at h;rw[h.1];rfl
 |j+1,l,a,h=>by
  simp only[tW,qfQ,QP,Prod.mk.injEq]at h
  obtain⟨p,h1,q,h2,rfl,rfl⟩:=h
  have:=LP (tk:=tk) (j:=j) (l:=p.1) (a:=p.2) h1
  simp [this]
theorem qjx{tk:Nat→Nat→Option (Int×Nat)}{j:Nat}(h:tW tk j=none):∀k,tW tk (j+k)=none
 |0=>h
 |k+1=>by rw[←Nat.add_assoc,tW,qjx h k];rfl
def moP(j:Nat):Int:=if j<2 then 32768 else 255
def tkP(xs:List Int)(j a:Nat):Option (Int×Nat):=FV xs (moP j) a
def tkR(xs:List Int)(_ a:Nat):Option (Int×Nat):=qh0 xs a
theorem LO{xs:List Int}:∀{j:Nat} {l:List Int} {a:Nat},tW (tkP xs) j=some (l,a)↔tW (tkR xs) j=some (l,a)∧∀i,i<j→1≤l.getD i 0∧l.getD i 0≤moP i
 |0,l,a=>by simp [tW]
 |j+1,l,a=>by
  simp only[tW,qfQ,QP,Prod.mk.injEq]
  constructor
  ·rintro⟨⟨q,a1⟩,h1,⟨v,b⟩,h2,rfl,rfl⟩
   obtain⟨k1,k2⟩:=LO.1 h1
   have hl:=LP h1
   obtain⟨m1,r,u⟩:=TM.1 h2
   refine⟨⟨(q,a1),k1,(v,b),m1,rfl,rfl⟩,fun i hi=>?_⟩
   dsimp only at*
   by_cases e:i<j
   ·rw[VP (by omega)];exact k2 i e
   ·obtain rfl:i=j:=by omega
    rw[VQ (by omega),hl,pH]
    exact⟨r,u⟩
  ·rintro⟨⟨⟨q,a1⟩,h1,⟨v,b⟩,h2,rfl,rfl⟩,h3⟩
   have hl:=LP h1
   dsimp only at*
   refine⟨(q,a1),LO.2 ⟨h1,fun i hi=>?_⟩,(v,b),TM.2 ⟨h2,?_⟩,rfl,rfl⟩
   ·have:=h3 i (by omega)
    rwa [VP (by omega)]at this
   ·have:=h3 j (by omega)
    rw[VQ (by omega),hl,pH]at this
    exact this
def hdP(xs:List Int):Bool:=decide (2≤xs.length∧rd xs 0=80∧(rd xs 1=53∨rd xs 1=54))
def y0(xs:List Int):Int:=if rd xs 1=54 then 3 else 1
def pcP(xs:List Int)(l:List Int)(a:Nat):Pc:=⟨l.getD 0 0,l.getD 1 0,y0 xs,l.getD 0 0*y0 xs,((a+1:Nat):Int)⟩
def qmq(xs:List Int)(l:List Int)(a:Nat):Pc×Bool:=if a<xs.length∧Z5 (rd xs a)=true then H4 (pcP xs l a) xs.length else no
def IN(xs:List Int):Pc×Bool:=if hdP xs=true then(match tW (tkP xs) 3 with|some (l,a)=>qmq xs l a|none=>no)else no
theorem qjf(xs:List Int):y0 xs=1∨y0 xs=3:=by unfold y0;split<;>simp
section
def qdp(w:World)(r:Pc×Bool)(e:Ending)(w':World):Prop:=e=bP #[.agg r.1.c.toArray,.bool r.2]∧Ev w w'
theorem E1{f:FuncId}{args:Array Value}{w:World}{r:Pc×Bool}{K:Int→Int→Int→Int→Int→Bool→World→Prop}(h:Calls P f args w (qdp w r))(hk:∀w',Ev w w'→K r.1.wd r.1.ht r.1.pl r.1.st r.1.fr r.2 w'):
  aE P f (.tup [.agg [.int .i64,.int .i64,.int .i64,.int .i64,.int .i64],.one .bool]) args w K:=
 aO h fun _ w' ⟨h1,h2⟩=>⟨_,_,_,_,_,_,h1,hk w' h2⟩
section
variable {w0 w:World} {F:List It}
theorem qkp{ad:Addr}{K:Int→Int→Int→Int→Int→Prop}(p:Pc)(h:Fr w0 w F)(i:Nat)(hi:F[i]?=some (aT ad p.c))(hk:K p.wd p.ht p.pl p.st p.fr):aF P aV (.part (.agg [.int .i64,.int .i64,.int .i64,.int .i64,.int .i64])) (aH ad) w K:=
 gE h i hi hk rfl (by kernel_rfl)
theorem C0{K:Addr→World→Prop}(h:Fr w0 w F)(hk:∀ad w',Fr w0 w' (aT ad Pc.z.c::F)→K ad w'):cD P aV w K:=
 dX (z:=.agg #[aB 0,aB 0,aB 0,aB 0,aB 0]) h (by kernel_rfl) hk
theorem DV{ad:Addr}{a b c d e:Int}{cs:List Value}{K:World→Prop}(h:Fr w0 w F)(i:Nat)(hi:F[i]?=some (aT ad cs))(hl:cs.length=5)(hk:∀w',Fr w0 w' (F.set i (aT ad (Pc.mk a b c d e).c))→K w'):aL P aV (aH ad) (.agg #[aB a,aB b,aB c,aB d,aB e]) w K:=
 cS h i hi hk (by rw[hl];rfl)
theorem K8{ad:Addr}{r:Pc×Bool}{cs:List Value}(h:Fr w0 w F)(i:Nat)(hi:F[i]?=some (aT ad cs))(hl:cs.length=5){R:Ending→World→Prop}(J:R=qdp w0 r):
  aL P aV (aH ad) (.agg #[aB r.1.wd,aB r.1.ht,aB r.1.pl,aB r.1.st,aB r.1.fr]) w fun I=>aF P aV (.part (.agg [.int .i64,.int .i64,.int .i64,.int .i64,.int .i64])) (aH ad) I fun(j:Int) (q:Int) (u:Int) (A:Int) (C:Int)=>R (bP #[.agg #[aB j,aB q,aB u,aB A,aB C],.bool r.2]) I:=by
 subst J
 refine DV h i hi hl fun w3 f3=>qkp r.1 f3 i ?_ ⟨rfl,f3.old⟩
 have cR:=(List.getElem?_eq_some_iff.1 hi).1
 rw[List.getElem?_set_self cR]
end
theorem PV{a b c d e n:Int}{w:World}(h1:0≤d*b)(h2:d*b≤1000000000000)(h3:0≤e)(h4:e≤1000000000000):Calls P sN #[.agg #[aB a,aB b,aB c,aB d,aB e],aB n] w (qdp w (H4 ⟨a,b,c,d,e⟩ n)):=by
 refine NS (mL (Fr.start w) fun p w1 q=>C0 q fun t w2 j=>cI j 1 4 rfl rfl (cI j 1 3 rfl rfl (cI j 1 1 rfl rfl ?_)))
 rw[aD (n:=d*b) (by omega) (by omega),aD (n:=e+d*b) (by omega) (by omega)]
 unfold H4
 refine aG (fun h=>?_) (fun h=>?_)
 ·rw[if_pos h];exact K8 (r:=no) j 0 rfl rfl rfl
 ·rw[if_neg h];exact qkp ⟨a,b,c,d,e⟩ j 1 rfl (K8 (r:=(⟨a,b,c,d,e⟩,true)) j 0 rfl rfl rfl)
section
variable {b:Value} {xs:List Int} {w:World}
end
end
section
section
variable {b:Value} {xs:List Int} {w:World}
theorem qjv{tk:Nat→Nat→Option (Int×Nat)}(hb:∀{j a v b},a≤xs.length→tk j a=some (v,b)→b≤xs.length)(h2:2≤xs.length):∀{j:Nat} {l:List Int} {a:Nat},tW tk j=some (l,a)→a≤xs.length
 |0,l,a,h=>by simp [tW]at h;omega
 |j+1,l,a,h=>by
  simp only[tW,qfQ,QP,Prod.mk.injEq]at h
  obtain⟨⟨u,a1⟩,h1,⟨v,q⟩,r,rfl,rfl⟩:=h
  exact hb (qjv hb h2 h1) r
theorem qqw{a b:Nat}{v:Int}(ha:a≤xs.length)(h:qh0 xs a=some (v,b)):b≤xs.length∧0≤v∧v<1000000:=by
 unfold qh0 at h
 split at h
 ·cases h
 ·split at h
  ·cases h
  ·rename_i h1 h2
   injection h with h;injection h with e1 e2
   have hk:=(DT (xs:=xs) (f:=xs.length+1-a) ha).2
   have j:(fN xs a).2≤xs.length:=hk
   have r:=qcM (xs:=xs) (f:=6) (v:=0) j
   have hv:=qfd (xs:=xs) (f:=6) (a:=(fN xs a).2) (v:=0) (m:=1) (by omega) (by omega)
   unfold qeG at h2 e1 e2
   split at h2
   ·exact absurd (show(-1:Int)<0 by omega) h2
   ·rename_i hc
    rw[if_neg hc]at e1 e2
    dsimp only at e1 e2
    rw[dH]at e2
    subst e1;subst e2
    have q:(1:Int)*((10^6:Nat):Int)=1000000:=by decide
    omega
theorem qqv{a b:Nat}{v m:Int}(ha:a≤xs.length)(h:FV xs m a=some (v,b)):b≤xs.length∧1≤v∧v≤m:=⟨(qqw ha (TM.1 h).1).1,(TM.1 h).2⟩
theorem qa8{tk:Nat→Nat→Option (Int×Nat)}{j:Nat}{l:List Int}{a:Nat}(h:tW tk j=some (l,a)):tW tk (j+1)=(tk j a).map fun q=>(l++[q.1],q.2):=by rw[tW,h];rfl
theorem qjw{tk:Nat→Nat→Option (Int×Nat)}{j:Nat}{l:List Int}{a:Nat}(h:tW tk j=some (l,a))(hj:j<3)(hn:tk j a=none):tW tk 3=none:=by
 have h1:tW tk (j+1)=none:=by rw[qa8 h,hn];rfl
 have:=qjx h1 (2-j)
 rwa [show j+1+(2-j)=3 by omega]at this
theorem qok{tk:Nat→Nat→Option (Int×Nat)}{j:Nat}{l:List Int}{a c:Nat}{v:Int}(h:tW tk j=some (l,a))(hn:tk j a=some (v,c)):tW tk (j+1)=some (l++[v],c):=by rw[qa8 h,hn];rfl
theorem qqX(h:hdP xs=true):2≤xs.length∧rd xs 0=80∧(rd xs 1=53∨rd xs 1=54):=of_decide_eq_true h
end
end
section
section
variable {b:Value} {xs:List Int} {w:World}
theorem Fr.sg{w0 w:World}{F:List It}{ad:Addr}{a:Nat}(h:Fr w0 w F)(i:Nat)(hi:F[i]?=some (aT ad [b,aB a]))(hb:Nm .u8 w0 b xs)(ha:a≤xs.length)(hl:xs.length≤1000000000):SG w ad b xs a:=
 ⟨h.get i hi,hb.ev h.old,fun hx hg=>by
  have h1:=(h.ft i hi (k:=ad.block) rfl).1
  have h2:=hb.old hx hg
  omega,ha,hl⟩
theorem Fr.gs{w0 w w':World}{F:List It}{ad:Addr}{a a2:Nat}(h:Fr w0 w F)(i:Nat)(hi:F[i]?=some (aT ad [b,aB a]))(g:GS w w' ad b xs a2):Fr w0 w' (F.set i (aT ad [b,aB a2])):=
 h.upd i hi g.2 (fun k _ hh=>.inl hh.1) g.1.1 fun k hk=>.inl hk
theorem qnq{a:Nat}{m:Int}(ha:a≤xs.length):(qT xs a m).2≤xs.length∧0≤(qT xs a m).1:=by
 have j:=qcM (xs:=xs) (f:=6) (v:=0) ha
 have hn:=qcN (xs:=xs) (f:=6) (a:=a) (v:=0) (by omega)
 unfold qT
 split
 ·exact⟨by dsimp only;omega,by dsimp only;omega⟩
 ·split
  ·exact⟨by dsimp only;omega,by dsimp only;omega⟩
  ·exact⟨by dsimp only;omega,hn⟩
def qP(j:Nat):Nat:=if j<2 then j else 4
theorem qnM(j:Nat):qP j<5:=by unfold qP;split<;>omega
def qhI(pl:Int)(l:List Int):List Value:=(Pc.mk (l.getD 0 0) (l.getD 1 0) pl 0 (l.getD 2 0)).c
theorem qnG{l:List Int}{j:Nat}{pl v:Int}(hl:l.length=j)(hj:j<3):(qhI pl l).set (qP j) (aB v)=qhI pl (l++[v]):=by
 have:j=0∨j=1∨j=2:=by omega
 unfold qhI
 rcases this with rfl|rfl|rfl
 ·obtain rfl:l=[]:=xI hl
  rfl
 ·obtain⟨a,rfl⟩:=List.length_eq_one_iff.1 hl
  rfl
 ·obtain⟨a,b,rfl⟩:∃a b,l=[a,b]:=by
   match l,hl with
   |[a,b],_=>exact⟨a,b,rfl⟩
  rfl
def qr1(p4:Addr):List Value:=[aH (p4.add 0),aB 32768,aH (p4.add 1),aB 32768,aH (p4.add 4),aB 255]
theorem qpO{p4:Addr}{j:Nat}(hj:j<3):(qr1 p4)[j*2+0]?=some (.pointer (some (p4.add (qP j))))∧(qr1 p4)[j*2+1]?=some (aB (moP j)):=by
 have:j=0∨j=1∨j=2:=by omega
 rcases this with rfl|rfl|rfl<;>exact⟨rfl,rfl⟩
theorem qoT(hb:Nm .u8 w b xs)(hl:xs.length≤1000000000):Calls P O8 #[b] w (qdp w (IN xs)):=by
 have N:∀{w1:World} {F:List It} {ad:Addr} {cs:List Value},Fr w w1 F→∀(i:Nat),F[i]?=some (aT ad cs)→cs.length=5→IN xs=no→
   aL P aV (aH ad) (.agg #[aB 0,aB 0,aB 0,aB 0,aB 0]) w1 fun ww=>aF P aV (.part (.agg [.int .i64,.int .i64,.int .i64,.int .i64,.int .i64])) (aH ad) ww fun(ae:Int) (af:Int) (ag:Int) (ah:Int) (ai:Int)=>qdp w (IN xs) (bP #[.agg #[aB ae,aB af,aB ag,aB ah,aB ai],.bool false]) ww:=
  fun f i hi hc au=>K8 (r:=no) f i hi hc (by rw[au])
 have ac:hdP xs=false→IN xs=no:=fun h=>by unfold IN;rw[h,if_neg (by simp)]
 refine WX (C0 (Fr.start w) fun t2 w1 f1=>C0 f1 fun p4 w2 f2=>DV f2 0 rfl rfl fun w3 f3=>⟨fun w'=>hdP xs=true∧Fr w w' [aT p4 (Pc.mk 0 0 (y0 xs) 0 0).c,aT t2 Pc.z.c],⟨fun t w'=>t= !hdP xs∧w3=w',?_,?_⟩,?_⟩)
 ·have C:=hb.ev f3.old
  have n1:∀{t:Bool},t=true→¬(2≤xs.length∧rd xs 0=80∧(rd xs 1=53∨rd xs 1=54))→t= !hdP xs:=fun ht h=>by rw[ht,hdP,decide_eq_false h];rfl
  have n2:∀{t:Bool},t=false→(2≤xs.length∧rd xs 0=80∧(rd xs 1=53∨rd xs 1=54))→t= !hdP xs:=fun ht h=>by rw[ht,hdP,decide_eq_true h];rfl
  refine aP hb (cC (fun h2=>dL C (by omega) (by omega) fun a1 c1 _=>bG c1 (iC (fun Y=>dL C (by omega) (by omega) fun a2 c2 _=>bG c2 (cA (fun bq=>dL C (by omega) (by omega) fun a3 c3 _=>bG c3 ⟨?_,rfl⟩) (fun bh=>⟨n2 rfl (by omega),rfl⟩))) (fun br=>⟨n1 rfl (by omega),rfl⟩))) (fun h2=>⟨n1 rfl (by omega),rfl⟩))
  by_cases O:rd xs 1=54
  ·exact n2 (by simp [O]) (by omega)
  ·exact n1 (by simp [O]) (by omega)
 ·rintro _ _ _ ⟨rfl,rfl⟩
  have C:=hb.ev f3.old
  cases hd:hdP xs with
  |false=>exact oP (N f3 1 rfl rfl (ac hd))
  |true=>
   obtain⟨h2,Y,e5⟩:=qqX hd
   refine V7 (dL C (by omega) (by omega) fun a1 c1 _=>bG c1 (cN (fun O=>dT f3 0 2 rfl fun w8 f8=>⟨rfl,?_⟩) (fun ax=>⟨rfl,?_⟩)))
   ·have:y0 xs=3:=by unfold y0;rw[if_pos O]
    rw[this];exact f8
   ·have:y0 xs=1:=by unfold y0;rw[if_neg ax]
    rw[this];exact f3
 rintro _ w7 ⟨hd,f7⟩
 obtain⟨h2,Y,e5⟩:=qqX hd
 have av:=qjf xs
 refine⟨hb.one,mL f7 fun t40 w8 f8=>sI 2 [[aH (p4.add 0),aB 32768],[aH (p4.add 1),aB 32768],[aH (p4.add 4),aB 255]] f8 rfl rfl (by simp) (fun lt w9 f9=>V9 ⟨fun ay w'=>∃(j:Nat) (l:List Int) (a:Nat),ay=j∧j≤3∧tW (tkP xs) j=some (l,a)∧Fr w w' [aT lt (qr1 p4),aT t40 [b,aB a],aT p4 (qhI (y0 xs) l),aT t2 Pc.z.c],fun i _=>3-i.toNat,⟨0,[],2,rfl,by omega,rfl,f9⟩,?_⟩) (hz:=by decide +kernel)⟩
 rintro _ i bt ⟨j,l,a,rfl,hj,ht,f10⟩
 have C:=hb.ev f10.old
 have X:a≤xs.length:=qjv (fun ha h=>(qqv ha h).1) h2 ht
 have ar:=LP ht
 have V:tW (tkP xs) 3=none→IN xs=no:=fun h=>by unfold IN;rw[hd,if_pos rfl,h]
 refine aG (fun cR=>?_) (fun bn=>?_)
 ·have I:j<3:=by omega
  have Z:=qpO (p4:=p4) I
  refine qmE (sz:=2) j rfl I (lR [.pointer (some (p4.add (qP j))),aB (moP j)] (fun q u hq=>?_) ?_ rfl (by kernel_rfl))
  ·rw[Addr.add2']
   match q,hq with
   |0,hq=>injection hq with hq;subst hq;exact f10.cell 0 _ rfl Z.1
   |1,hq=>injection hq with hq;subst hq;exact f10.cell 0 _ rfl Z.2
   |q+2,hq=>simp at hq
  show cD _ _ _ _
  refine dX (z:=.agg #[.pointer none,aB 0]) f10 (by kernel_rfl) fun x7 bu ak=>cS ak 0 rfl fun bv f12=>?_
  have hk:(fN xs a).2≤xs.length:=(DT (xs:=xs) (f:=xs.length+1-a) X).2
  refine gC (qj5 (f12.sg 2 rfl hb X hl)) fun bw al=>?_
  have f13:=f12.gs 2 rfl al
  refine V8 (fun T=>?_) (fun T=>?_)
  ·refine N f13 4 rfl rfl (V (qjw ht I ?_))
   show FV xs (moP j) a=none
   unfold FV
   rw[if_neg]
   rintro⟨q1,q2,_⟩
   rw[q1,decide_eq_true q2]at T;cases T
  have U:(fN xs a).1=true∧(fN xs a).2>a:=by simpa using T
  have n13:=qnq (m:=moP j) hk
  refine⟨fun w'=>w'.cell? (x7.add 0)=some (.pointer (some (p4.add (qP j))))∧w'.cell? (x7.add 1)=some (aB (moP j)),⟨f13.drew.cell 0 0 rfl rfl,f13.drew.cell 0 1 rfl rfl⟩,mS (fun _ h=>h.1) (aN (fun _ h=>h.2) (bQ (qhi (f13.drew.sg 2 rfl hb hk hl)) fun bx am=>?_))⟩
  have f15:=f13.drew.gs 2 rfl am
  refine⟨⟨f15.cell 0 0 rfl rfl,f15.cell 0 1 rfl rfl⟩,aC (dT f15 3 (qP j) rfl (hj:=by show qP j<5;exact qnM j) fun bz A=>⟨⟨A.cell 0 0 rfl rfl,A.cell 0 1 rfl rfl⟩,lI A 0 0 rfl rfl (aC ?_)⟩)⟩
  have aa:(qhI (y0 xs) l).set (qP j) (aB (qT xs (fN xs a).2 (moP j)).1)=qhI (y0 xs) (l++[(qT xs (fN xs a).2 (moP j)).1]):=qnG ar I
  have ap:((qhI (y0 xs) l).set (qP j) (aB (qT xs (fN xs a).2 (moP j)).1))[qP j]?=some (aB (qT xs (fN xs a).2 (moP j)).1):=List.getElem?_set_self (by show qP j<5;exact qnM j)
  refine cI A 3 (qP j) rfl ap (cN (fun e0=>?_) (fun n0=>?_))
  ·refine N A 4 rfl rfl (V (qjw ht I ?_))
   show FV xs (moP j) a=none
   unfold FV
   rw[if_neg]
   rintro⟨_,_,q3⟩;exact q3 e0
  ·rw[aD (n:=(j:Int)+1) (by omega) (by omega)]
   refine⟨⟨j+1,_,_,rfl,I,qok ht (v:=(qT xs (fN xs a).2 (moP j)).1) (c:=(qT xs (fN xs a).2 (moP j)).2) ?_,?_⟩,by dsimp only;omega⟩
   ·show FV xs (moP j) a=_
    unfold FV
    rw[if_pos ⟨U.1,U.2,n0⟩]
   ·rw[←aa]
    exact A.drop 0
 ·obtain rfl:j=3:=by omega
  have M:IN xs=qmq xs l a:=by unfold IN;rw[hd,if_pos rfl,ht]
  have tb:=(LO.1 ht).2
  have b0:1≤l.getD 0 0∧l.getD 0 0≤32768:=tb 0 (by omega)
  have b1:1≤l.getD 1 0∧l.getD 1 0≤32768:=tb 1 (by omega)
  refine gC (VS (pf:=Z5) (by kernel_rfl) qbj (f10.sg 1 rfl hb X hl)) fun ca an=>?_
  have J:=f10.ev an
  by_cases hc:a<xs.length∧Z5 (rd xs a)=true
  ·rw[decide_eq_true hc.1,hc.2]
   have ab:0≤l.getD 0 0*y0 xs∧l.getD 0 0*y0 xs≤98304:=by rcases av with e|e<;>rw[e]<;>omega
   have hsh:0≤l.getD 0 0*y0 xs*l.getD 1 0∧l.getD 0 0*y0 xs*l.getD 1 0≤98304*32768:=⟨DN ab.1 (by omega),Int.mul_le_mul ab.2 b1.2 (by omega) (by omega)⟩
   refine V7 ⟨fun w'=>w'.cell? (t40.add 1)=some (aB (a:Int))∧w'.cell? (p4.add 0)=some (aB (l.getD 0 0))∧w'.cell? (p4.add 2)=some (aB (y0 xs)),⟨J.drew.cell 1 1 rfl rfl,J.drew.cell 2 0 rfl rfl,J.drew.cell 2 2 rfl rfl⟩,aC (aN (fun _ h=>h.1) (aN (fun _ h=>h.2.1) (aN (fun _ h=>h.2.2) (dT J.drew 2 4 rfl fun cb f20=>⟨⟨f20.cell 1 1 rfl rfl,f20.cell 2 0 rfl rfl,f20.cell 2 2 rfl rfl⟩,dT f20 2 3 rfl fun cc f21=>⟨⟨f21.cell 1 1 rfl rfl,f21.cell 2 0 rfl rfl,f21.cell 2 2 rfl rfl⟩,?_⟩⟩))))⟩
   rw[aD (n:=l.getD 0 0*y0 xs) (by omega) (by omega),show i64 ((a:Int)+1)=((a+1:Nat):Int)by rw[aD (by omega) (by omega)];omega]at f21
   refine qkp (pcP xs l a) f21 2 rfl (aP hb (E1 (PV (a:=(pcP xs l a).wd) (b:=(pcP xs l a).ht) (c:=(pcP xs l a).pl) (d:=(pcP xs l a).st) (e:=(pcP xs l a).fr) hsh.1 (by have:=hsh.2;show l.getD 0 0*y0 xs*l.getD 1 0≤_;omega) (by show(0:Int)≤((a+1:Nat):Int);omega) (by show((a+1:Nat):Int)≤1000000000000;omega)) fun cd ao=>?_))
   have f22:=f21.ev ao
   refine K8 f22 3 rfl rfl ?_
   rw[M];unfold qmq;rw[if_pos hc]
  ·have aq:(decide (a<xs.length)&&Z5 (rd xs a))=false:=by
    rw[Bool.eq_false_iff];intro hh;rw[mK,decide_eq_true_eq]at hh;exact hc hh
   rw[aq]
   exact oP (N J 3 rfl rfl (by rw[M];unfold qmq;rw[if_neg hc]))
end
end
section
def tB(xs:List Int)(j n:Nat):Int:=IY ((xs.drop j).take n)
def hB(xs:List Int):Int:=if lT (tB xs 22 4)<0 then -(lT (tB xs 22 4))else lT (tB xs 22 4)
def qgn(xs:List Int):Bool:=decide (tB xs 10 4<54∨tB xs 14 4<40∨¬(1≤tB xs 18 4∧tB xs 18 4≤32768)∨¬(1≤hB xs∧hB xs≤32768)∨tB xs 26 2≠1∨(tB xs 28 2≠24∧tB xs 28 2≠8)∨tB xs 30 4≠0)
def pcB(xs:List Int):Pc:=⟨tB xs 18 4,hB xs,tB xs 28 2/8,(tB xs 18 4*(tB xs 28 2/8)+3)/4*4,tB xs 10 4⟩
def hdB(xs:List Int):Bool:=decide (54≤xs.length∧rd xs 0=66∧rd xs 1=77)
def AN(xs:List Int):Pc×Bool:=if hdB xs=true then(if qgn xs=true then no else H4 (pcB xs) xs.length)else no
theorem DX{xs:List Int}(hx:inR .u8 xs)(j n:Nat)(hn:n≤4):0≤tB xs j n∧tB xs j n<4294967296:=by
 have h:=qg2 ((hx.drop j).take n)
 have hp:((2^(8*((xs.drop j).take n).length):Nat):Int)≤((4294967296:Nat):Int):=
  Int.ofNat_le.2 (nJ (GI (by decide) (show 8*((xs.drop j).take n).length≤32 by rw[eJ];omega)) (by decide))
 exact⟨h.1,Int.lt_of_lt_of_le h.2 hp⟩
theorem qqb{ys:List Int}{a n:Nat}(h:a+n≤ys.length):eV ys a 0 n=((ys.drop a).take n,a+n,0):=by
 unfold eV
 by_cases h0:n=0
 ·subst h0;simp
 ·rw[if_neg (by omega),if_neg (by omega),dH]
section
variable {w0 w:World} {F:List It} {b:Value} {xs:List Int}
theorem qg7{p ad:Addr}{y:Value}{a:Nat}{er n:Int}{w:World}(hp:w.cell? (p.add 0)=some (aH ad))(h:Rd w ad y xs a er):Calls P dN #[aH p,aB n] w (fun e w'=>e=aW (aB (i64 (IY (eV xs a er (if 8<n then 8 else n)).1)))∧RS w w' ad y xs (eV xs a er (if 8<n then 8 else n)).2.1 (eV xs a er (if 8<n then 8 else n)).2.2):=
 P5 (aC (fJ hp (bQ (L9 h) fun w1 h1=>⟨rfl,h1⟩)))
theorem GX{p ad t2:Addr}{y:Value}{cs:List Value}{K:Int→World→Prop}(a n q:Nat)(hq:10+a=q)(hn:n≤4)(hx:inR .u8 xs)(hl:54≤xs.length)(h:Fr w0 w [aT p [aH ad],aT ad [y,aB a,aB 0],bI .u8 eB y ((xs.drop 10).take 44),aT t2 cs])(ha:a+n≤44)
  (hk:∀w',Fr w0 w' [aT p [aH ad],aT ad [y,aB ((a+n:Nat):Int),aB 0],bI .u8 eB y ((xs.drop 10).take 44),aT t2 cs]→K (tB xs q n) w'):aE P dN bA #[aH p,aB (n:Int)] w K:=by
 subst hq
 have j:((xs.drop 10).take 44).length=44:=by rw[eJ,cQ];omega
 refine bQ (qg7 (h.cell 0 0 rfl rfl) (h.rd 1 2 rfl rfl (by decide) (by rw[j];omega) (by rw[j];omega))) fun w' h'=>?_
 rw[if_neg (show ¬(8:Int)<(n:Int)by omega),qqb (by rw[j];omega)]at h'⊢
 have e:(((xs.drop 10).take 44).drop a).take n=(xs.drop (10+a)).take n:=by
  rw[List.drop_take,List.take_take,U2,vU (by omega)]
 have r:=DX hx (10+a) n hn
 dsimp only
 rw[e,show IY ((xs.drop (10+a)).take n)=tB xs (10+a) n from rfl,aD (by omega) (by omega)]
 exact hk w' (h.rs 1 rfl h')
theorem qfm{n:Int}{w:World}:Calls P uZ #[aB n] w (fun e w'=>e=aW (.bool (decide (1≤n∧n≤32768)))∧w'=w):=by
 refine RR (aG (fun h=>⟨?_,rfl⟩) (fun h=>⟨?_,rfl⟩))
 ·congr 2;exact decide_eq_decide.2 ⟨fun h2=>⟨h,h2⟩,fun h2=>h2.2⟩
 ·rw[decide_eq_false (fun h2=>h h2.1)]
theorem qrd(h:2≤xs.length){c d:Int}:xs.take 2=[c,d]↔rd xs 0=c∧rd xs 1=d:=by
 match xs,h with
 |a::a2::r,_=>simp [rd]
theorem qpz(n:Int): -2147483648≤lT n∧lT n≤2147483647:=by rw[L2];omega
theorem qoO(hb:Nm .u8 w b xs)(hl:xs.length≤1000000000):Calls P O7 #[b] w (qdp w (AN xs)):=by
 have A:∀{w1:World} {F:List It} {ad:Addr} {cs:List Value},Fr w w1 F→∀(i:Nat),F[i]?=some (aT ad cs)→cs.length=5→AN xs=no→
   aL P aV (aH ad) (.agg #[aB 0,aB 0,aB 0,aB 0,aB 0]) w1 fun ww=>aF P aV (.part (.agg [.int .i64,.int .i64,.int .i64,.int .i64,.int .i64])) (aH ad) ww fun(U:Int) (V:Int) (X:Int) (Y:Int) (Z:Int)=>qdp w (AN xs) (bP #[.agg #[aB U,aB V,aB X,aB Y,aB Z],.bool false]) ww:=
  fun f i hi hc ah=>K8 (r:=no) f i hi hc (by rw[ah])
 have u:¬(54≤xs.length∧rd xs 0=66∧rd xs 1=77)→AN xs=no:=fun h=>by unfold AN hdB;rw[decide_eq_false h,if_neg (by simp)]
 refine WW (C0 (Fr.start w) fun t2 w1 f1=>⟨fun w'=>(54≤xs.length∧rd xs 0=66∧rd xs 1=77)∧Fr w w' [aT t2 Pc.z.c],aP hb (cC (fun j=>?_) (fun j=>A f1 0 rfl rfl (u (by omega)))),?_⟩)
 ·refine dJ (hb.ev f1.old) 0 2 (.inl ⟨rfl,rfl⟩) (.inr ⟨_,rfl⟩) (by omega) (by omega) fun hs=>lA hs ?_
  have e2:(ByteArray.mk #[66,77])=tO [66,77]:=by decide
  have aj:inR .u8 [66,77]:=fun x hx=>by simp at hx;rcases hx with rfl|rfl<;>decide
  rw[e2,yC hs.2 aj]
  simp only[oL,Z9]
  refine cC (fun ag=>A f1 0 rfl rfl (u fun h=>ag ((qrd (by omega)).2 h.2))) (fun he=>⟨?_,f1⟩)
  have:=(qrd (by omega)).1 he
  omega
 rintro _ w5 ⟨hd,f5⟩
 have j:=hd.1
 have J:hdB xs=true:=decide_eq_true hd
 have hx:=hb.2
 refine dJ (hb.ev f5.old) 10 54 (.inr ⟨_,rfl⟩) (.inr ⟨_,rfl⟩) (by omega) (by omega) fun hs=>?_
 have N:((xs.drop 10).take 44).length=44:=by rw[eJ,cQ];omega
 refine qt8 f5 hs (by rw[N];omega) fun ad y w6 f6=>mL f6 fun p w7 f7=>?_
 refine GX 0 4 10 rfl (by omega) hx j f7 (by omega) fun w8 f8=>GX 4 4 14 rfl (by omega) hx j f8 (by omega) fun w9 f9=>GX 8 4 18 rfl (by omega) hx j f9 (by omega) fun aw f10=>GX 12 4 22 rfl (by omega) hx j f10 (by omega) fun ax ae=>GX 16 2 26 rfl (by omega) hx j ae (by omega) fun ay f12=>GX 18 2 28 rfl (by omega) hx j f12 (by omega) fun az f13=>GX 20 4 30 rfl (by omega) hx j f13 (by omega) fun q f14=>?_
 have f14:=((f14.drop 0).drop 0).drop 0
 have ap:=DX hx 10 4 (by omega)
 have aq:=DX hx 14 4 (by omega)
 have ar:=DX hx 18 4 (by omega)
 have av:=DX hx 28 2 (by omega)
 have au:=qpz (tB xs 22 4)
 have O:qgn xs=true→AN xs=no:=fun h=>by unfold AN;rw[J,if_pos rfl,if_pos h]
 show ∃J1:Int→World→Prop,_
 refine⟨fun h w'=>h=hB xs∧q=w',?_,?_⟩
 ·show aQ (decide (i64 (lT (tB xs 22 4))<0)) _ _
  rw[aD (n:=lT (tB xs 22 4)) (by omega) (by omega)]
  refine aG (fun h=>⟨?_,rfl⟩) (fun h=>⟨?_,rfl⟩)
  ·unfold hB;rw[if_pos h,aD (by omega) (by omega)];omega
  ·unfold hB;rw[if_neg h]
 rintro _ _ _ ⟨rfl,rfl⟩
 refine⟨fun w'=>qgn xs=false∧q=w',⟨fun t w'=>t=qgn xs∧q=w',?_,?_⟩,?_⟩
 ·have tr:∀{c:Prop},c→(c→(tB xs 10 4<54∨tB xs 14 4<40∨¬(1≤tB xs 18 4∧tB xs 18 4≤32768)∨¬(1≤hB xs∧hB xs≤32768)∨tB xs 26 2≠1∨(tB xs 28 2≠24∧tB xs 28 2≠8)∨tB xs 30 4≠0))→true=qgn xs∧q=q:=fun hc h=>⟨(decide_eq_true (h hc)).symm,rfl⟩
  refine cC (fun c1=>cC (fun c2=>hZ qfm (DZ (fun c3=>hZ qfm (DZ (fun c4=>iC (fun c5=>?_) (fun c5=>tr c5 fun h=>.inr (.inr (.inr (.inr (.inl h)))))) (fun c4=>tr c4 fun h=>.inr (.inr (.inr (.inl h)))))) (fun c3=>tr c3 fun h=>.inr (.inr (.inl h))))) (fun c2=>tr c2 fun h=>.inr (.inl h))) (fun c1=>tr c1 fun h=>.inl h)
  have I:(tB xs 28 2=24∨tB xs 28 2=8)→(tB xs 30 4 !=0)=qgn xs∧q=q:=fun h=>by
   refine⟨?_,rfl⟩
   unfold qgn
   by_cases C:tB xs 30 4=0
   ·rw[decide_eq_false (by omega)];simp [C]
   ·rw[decide_eq_true (by omega)];simp [C]
  exact cA (fun C=>iC (fun c7=>I (.inr c7)) (fun c7=>tr (And.intro C c7) fun h=>.inr (.inr (.inr (.inr (.inr (.inl h))))))) (fun C=>I (.inl C))
 ·rintro _ _ _ ⟨rfl,rfl⟩
  refine iQ (fun h=>A f14 0 rfl rfl (O h)) (fun h=>⟨h,rfl⟩)
 rintro _ _ ⟨hok,rfl⟩
 have hc:=of_decide_eq_false hok
 have M:AN xs=H4 (pcB xs) xs.length:=by unfold AN;rw[J,if_pos rfl,if_neg (by rw[hok];simp)]
 have ac:i64 (Int.tdiv (tB xs 28 2) 8)=tB xs 28 2/8:=by rw[sH (by omega),aD (by omega) (by omega)]
 have ai:tB xs 28 2/8=3∨tB xs 28 2/8=1:=by omega
 have hm:1≤tB xs 18 4*(tB xs 28 2/8)∧tB xs 18 4*(tB xs 28 2/8)≤98304:=by rcases ai with e|e<;>rw[e]<;>omega
 refine C0 f14 fun T ba f21=>?_
 show aL P aV (aH T) (.agg #[aB (tB xs 18 4),aB (hB xs),aB (i64 (Int.tdiv (tB xs 28 2) 8)),aB 0,aB (tB xs 10 4)]) _ _
 rw[ac]
 refine DV f21 0 rfl rfl fun bb f22=>cI f22 0 2 rfl rfl ?_
 show aL P aK (aH (T.add 3)) (aB (i64 (i64 (Int.tdiv (i64 (i64 (tB xs 18 4*(tB xs 28 2/8))+3)) 4)*4))) _ _
 rw[aD (n:=tB xs 18 4*(tB xs 28 2/8)) (by omega) (by omega),aD (n:=tB xs 18 4*(tB xs 28 2/8)+3) (by omega) (by omega),sH (by omega),aD (n:=(tB xs 18 4*(tB xs 28 2/8)+3)/4) (by omega) (by omega),aD (n:=(tB xs 18 4*(tB xs 28 2/8)+3)/4*4) (by omega) (by omega)]
 refine dT f22 0 3 rfl fun bc f23=>qkp (pcB xs) f23 0 rfl (aP hb ?_)
 have hsh:0≤(pcB xs).st*(pcB xs).ht∧(pcB xs).st*(pcB xs).ht≤100000*32768:=⟨Int.mul_nonneg (by unfold pcB;dsimp only;omega) (by unfold pcB;dsimp only;omega),Int.mul_le_mul (by unfold pcB;dsimp only;omega) (by unfold pcB;dsimp only;omega) (by unfold pcB;dsimp only;omega) (by omega)⟩
 refine E1 (PV hsh.1 (by omega) (by unfold pcB;dsimp only;omega) (by unfold pcB;dsimp only;omega)) fun bd af=>?_
 exact K8 (f23.ev af) 1 rfl rfl (by rw[M])
end
end
section
section
variable {b:Value} {xs:List Int} {w:World}
def sX(xs:List Int):Pc×Bool:=if(AN xs).2=true then((AN xs).1,true)else IN xs
theorem qae(hb:Nm .u8 w b xs)(hl:xs.length≤1000000000):Calls P sM #[b] w (qdp w (sX xs)):=by
 refine NR (C0 (Fr.start w) fun t2 w1 j=>E1 (qoO (hb.ev j.old) hl) fun w2 h2=>C0 (j.ev h2) fun p4 w3 f3=>DV f3 0 rfl rfl fun w4 f4=>iQ (fun h=>qkp (AN xs).1 f4 0 rfl (K8 (r:=((AN xs).1,true)) f4 1 rfl rfl ?_)) (fun h=>E1 (qoT (hb.ev f4.old) hl) fun w6 h6=>K8 (f4.ev h6) 1 rfl rfl ?_))
 ·unfold sX;rw[if_pos h]
 ·unfold sX;rw[if_neg (by rw[h];simp)]
end
end
def InP(p:Pc)(n:Int):Prop:=1≤p.wd∧p.wd≤32768∧1≤p.ht∧p.ht≤32768∧(p.pl=1∨p.pl=3)∧p.wd*p.pl≤p.st∧p.st<p.wd*p.pl+4∧2≤p.fr∧p.fr+p.st*p.ht≤n
theorem qfa{p:Pc}{n:Int}(h:(H4 p n).2=true):H4 p n=(p,true)∧p.fr+p.st*p.ht≤n:=by
 unfold H4 at h⊢
 split
 ·rename_i hc;rw[if_pos hc]at h;cases h
 ·exact⟨rfl,by omega⟩
theorem qaV{p:Pc}{n:Int}(h:(H4 p n).2=false):H4 p n=no:=by
 unfold H4 at h⊢
 split
 ·rfl
 ·rename_i hc;rw[if_neg hc]at h;cases h
theorem qrv{xs:List Int}(hx:inR .u8 xs):((AN xs).2=true→InP (AN xs).1 xs.length)∧((AN xs).2=false→(AN xs).1=Pc.z):=by
 unfold AN
 split
 ·split
  ·exact⟨fun h=>(by cases h),fun _=>rfl⟩
  ·rename_i hd j
   refine⟨fun h=>?_,fun h=>by rw[qaV h];rfl⟩
   obtain⟨h1,h2⟩:=qfa h
   rw[h1]
   have hc:¬_:=fun hh=>j (decide_eq_true hh)
   have r:=DX hx 28 2 (by omega)
   unfold InP
   have q:tB xs 28 2/8=3∨tB xs 28 2/8=1:=by omega
   have hm:1≤tB xs 18 4*(tB xs 28 2/8)∧tB xs 18 4*(tB xs 28 2/8)≤98304:=by rcases q with e|e<;>rw[e]<;>omega
   refine⟨?_,?_,?_,?_,?_,?_,?_,?_,h2⟩<;>unfold pcB<;>dsimp only<;>omega
 ·exact⟨fun h=>(by cases h),fun _=>rfl⟩
theorem qsd{xs:List Int}:((IN xs).2=true→InP (IN xs).1 xs.length)∧((IN xs).2=false→(IN xs).1=Pc.z):=by
 unfold IN
 split
 ·split
  ·rename_i l a ht
   have I:=(LO.1 ht).2
   have A:1≤l.getD 0 0∧l.getD 0 0≤32768:=I 0 (by omega)
   have C:1≤l.getD 1 0∧l.getD 1 0≤32768:=I 1 (by omega)
   have ha:2≤a:=by
    have mono:∀{j:Nat} {l:List Int} {a:Nat},tW (tkP xs) j=some (l,a)→1≤a:=by
     intro j
     cases j with
     |zero=>intro l a h;simp [tW]at h;omega
     |succ j=>
      intro l a h
      simp only[tW,qfQ,QP,Prod.mk.injEq]at h
      obtain⟨⟨J,a1⟩,h1,⟨v,q⟩,r,_,rfl⟩:=h
      dsimp only at*
      have r:FV xs (moP j) a1=some (v,q):=r
      unfold FV at r
      split at r
      ·rename_i hc
       injection r with r
       have:(qT xs (fN xs a1).2 (moP j)).2≥(fN xs a1).2:=by
        unfold qT;split
        ·dsimp only;omega
        ·split<;>dsimp only<;>omega
       rw[r]at this;dsimp only at this;omega
      ·cases r
    rw[show tW (tkP xs) 3=(tW (tkP xs) 2).bind fun p=>(tkP xs 2 p.2).map fun q=>(p.1++[q.1],q.2)from rfl]at ht
    simp only[qfQ,QP,Prod.mk.injEq]at ht
    obtain⟨⟨M,a2⟩,h2,⟨v,q⟩,r,_,rfl⟩:=ht
    dsimp only at*
    have:=mono h2
    have r:FV xs (moP 2) a2=some (v,q):=r
    unfold FV at r
    split at r
    ·rename_i hc
     injection r with r
     have:(qT xs (fN xs a2).2 (moP 2)).2≥(fN xs a2).2:=by
      unfold qT;split
      ·dsimp only;omega
      ·split<;>dsimp only<;>omega
     rw[r]at this;dsimp only at this;omega
    ·cases r
   unfold qmq
   split
   ·refine⟨fun h=>?_,fun h=>by rw[qaV h];rfl⟩
    obtain⟨h1,h2⟩:=qfa h
    rw[h1]
    unfold InP
    have u:=qjf xs
    refine⟨A.1,A.2,C.1,C.2,u,?_,?_,?_,h2⟩<;>unfold pcP<;>dsimp only<;>omega
   ·exact⟨fun h=>(by cases h),fun _=>rfl⟩
  ·exact⟨fun h=>(by cases h),fun _=>rfl⟩
 ·exact⟨fun h=>(by cases h),fun _=>rfl⟩
theorem qnE{xs:List Int}(hx:inR .u8 xs):((sX xs).2=true→InP (sX xs).1 xs.length)∧((sX xs).2=false→(sX xs).1=Pc.z):=by
 unfold sX
 split
 ·rename_i h;exact⟨fun _=>(qrv hx).1 h,fun h=>(by cases h)⟩
 ·exact qsd
section
def H9(xs:List Int)(q:Nat):Int:=if q/3*3+3≤xs.length then(if q%3=1 then rd xs q else u8 (rd xs q-rd xs ((q/3*3+1:Nat):Int)))else rd xs q
def E7(xs:List Int)(q:Nat):Int:=if q/3*3+3≤xs.length then(if q%3=1 then rd xs q else u8 (rd xs q+rd xs ((q/3*3+1:Nat):Int)))else rd xs q
def qjy(xs:List Int):List Int:=rJ xs.length (H9 xs)
def qip(xs:List Int):List Int:=rJ xs.length (E7 xs)
theorem qlh(xs:List Int):(qjy xs).length=xs.length:=dS _ _
theorem qj3(xs:List Int):(qip xs).length=xs.length:=dS _ _
theorem qjz(n:Int):0≤u8 n∧u8 n<256:=by rw[nF];omega
def qfF(L:Nat)(xs:List Int):List Int:=if L=3 then qjy xs else xs
def qak(L:Nat)(xs:List Int):List Int:=if L=3 then qip xs else xs
theorem qa9(L:Nat)(xs:List Int):(qfF L xs).length=xs.length:=by unfold qfF;split<;>simp [qlh]
theorem MK(L:Nat)(xs:List Int):(qak L xs).length=xs.length:=by unfold qak;split<;>simp [qj3]
def qqh(xs:List Int)(F S W i:Nat):List Int:=(xs.drop (F+i*S)).take W
def qpv(xs:List Int)(F S W i:Nat):List Int:=(xs.drop (F+i*S+W)).take (S-W)
def SE(xs:List Int)(F S W L:Nat):Nat→List Int
 |0=>[]
 |i+1=>SE xs F S W L i++qfF L (qqh xs F S W i)
def UF(xs:List Int)(F S W:Nat):Nat→List Int
 |0=>[]
 |i+1=>UF xs F S W i++qpv xs F S W i
def SD(q j:List Int)(W G L:Nat):Nat→List Int
 |0=>[]
 |i+1=>SD q j W G L i++qak L ((q.drop (i*W)).take W)++(j.drop (i*G)).take G
section
variable {xs:List Int} {F S W L H:Nat}
theorem qcL(h:F+S*H≤xs.length){i:Nat}(hi:i<H):F+i*S+S≤xs.length:=by
 have:(i+1)*S≤H*S:=kR _ hi
 rw[M9,AI,A4 H S]at this;omega
theorem qfc(h:F+S*H≤xs.length)(hw:W≤S){i:Nat}(hi:i<H):(qqh xs F S W i).length=W:=by
 have:=qcL h hi
 unfold qqh;rw[eJ,cQ];omega
theorem qef(h:F+S*H≤xs.length)(hw:W≤S){i:Nat}(hi:i<H):(qpv xs F S W i).length=S-W:=by
 have:=qcL h hi
 unfold qpv;rw[eJ,cQ];omega
theorem qe0(h:F+S*H≤xs.length)(hw:W≤S):∀{i},i≤H→(SE xs F S W L i).length=i*W
 |0,_=>by simp [SE]
 |i+1,hi=>by rw[SE,bD,qe0 h hw (show i≤H by omega),qa9,qfc h hw (show i<H by omega),M9,AI]
theorem qdA(h:F+S*H≤xs.length)(hw:W≤S):∀{i},i≤H→(UF xs F S W i).length=i*(S-W)
 |0,_=>by simp [UF]
 |i+1,hi=>by rw[UF,bD,qdA h hw (show i≤H by omega),qef h hw (show i<H by omega),M9,AI]
theorem qeQ{q j:List Int}{G:Nat}:∀{i},q.length=i*W→j.length=i*G→∀{k},k≤i→(SD q j W G L k).length=k*(W+G):=fun{i} hp hb {k}=>by
 induction k with
 |zero=>intro _;simp [SD]
 |succ k r=>
  intro hk
  have h1:(k+1)*W≤i*W:=kR _ hk
  have h2:(k+1)*G≤i*G:=kR _ hk
  rw[M9,AI]at h1 h2
  rw[SD,bD,bD,r (by omega),MK,eJ,eJ,cQ,cQ,M9 k 1,AI]
  omega
end
def qeU(xs:List Int)(F Wd H L S:Nat):List Int:=
 (eD xs.length++eD F++eD Wd++eD H++eD L++eD S)++(xs.take F++xK (SE xs F S (Wd*L) L H) (Wd*L) L H++UF xs F S (Wd*L) H++xs.drop (F+S*H))
def qq6(xs:List Int)(p:Pc):List Int:=qeU xs p.fr.toNat p.wd.toNat p.ht.toNat p.pl.toNat p.st.toNat
def XN(xs:List Int):List Int×Bool:=if(sX xs).2=true∧xs.length≤1048576 then(qq6 xs (sX xs).1,true)else([],false)
def FX(size F Wd H L S:Int):Bool:=decide (F>size∨Wd<1∨Wd>size∨H<1∨H>size∨L<1∨L>3∨S<Wd*L∨S>size∨F+S*H>size)
def FZ(xs:List Int)(a:Nat)(size F Wd H L S:Int):List Int×Int:=
 let r1:=eV xs a 0 F
 let r2:=eV xs r1.2.1 r1.2.2 (H*(Wd*L+1))
 let r3:=eV xs r2.2.1 r2.2.2 (H*(S-Wd*L))
 let r4:=eV xs r3.2.1 r3.2.2 (size-(F+S*H))
 if I8 xs.length r4.2.1 r4.2.2≠0 then([],I8 xs.length r4.2.1 r4.2.2)
 else if vT r2.1.length (Wd*L) L=true∧L4 r2.1 (Wd*L).toNat (r2.1.length/((Wd*L).toNat+1))=true then
  (r1.1++SD (DI r2.1 (Wd*L).toNat L (r2.1.length/((Wd*L).toNat+1))) r3.1 (Wd*L).toNat (S-Wd*L).toNat L.toNat (r2.1.length/((Wd*L).toNat+1))++r4.1,0)
 else([],4)
def kP(xs:List Int)(most:Int):List Int×Int:=
 let s:=cL xs 6
 if s.2.2≠0 then([],s.2.2)
 else if rd s.1 0>(if 0>most then 0 else most)∨rd s.1 0>1048576 then([],5)
 else if FX (rd s.1 0) (rd s.1 1) (rd s.1 2) (rd s.1 3) (rd s.1 4) (rd s.1 5)=true then([],4)
 else FZ xs s.2.1 (rd s.1 0) (rd s.1 1) (rd s.1 2) (rd s.1 3) (rd s.1 4) (rd s.1 5)
theorem qiq{size F Wd H L S:Int}(h:FX size F Wd H L S=false):F≤size∧1≤Wd∧Wd≤size∧1≤H∧H≤size∧1≤L∧L≤3∧Wd*L≤S∧S≤size∧F+S*H≤size:=by
 unfold FX at h
 have:=of_decide_eq_false h
 omega
theorem qgq{xs:List Int}{a:Nat}{size F Wd H L S:Int}(hF:0≤F)(hb:FX size F Wd H L S=false):((FZ xs a size F Wd H L S).2=0∧((FZ xs a size F Wd H L S).1.length:Int)=size)∨((FZ xs a size F Wd H L S).1=[]∧((FZ xs a size F Wd H L S).2=3∨(FZ xs a size F Wd H L S).2=4)):=by
 obtain⟨b1,b2,b3,b4,b5,b6,b7,b8,b9,I⟩:=qiq hb
 unfold FZ
 dsimp only
 have af:1≤Wd*L:=by
  have:=Int.mul_le_mul b2 b6 (by omega) (by omega);simpa using this
 have T:0≤H*(Wd*L+1):=DN (by omega) (by omega)
 have U:0≤H*(S-Wd*L):=DN (by omega) (by omega)
 have q:ErR (eV xs a 0 F).2.2:=oK (.inl rfl)
 have er2:ErR (eV xs (eV xs a 0 F).2.1 (eV xs a 0 F).2.2 (H*(Wd*L+1))).2.2:=oK q
 have Y:=@A0 xs a 0 F hF
 have V:=@A0 xs (eV xs a 0 F).2.1 (eV xs a 0 F).2.2 _ T
 generalize eV xs a 0 F=r1 at q er2 Y V⊢
 generalize eV xs r1.2.1 r1.2.2 (H*(Wd*L+1))=r2 at er2 V⊢
 have r:ErR (eV xs r2.2.1 r2.2.2 (H*(S-Wd*L))).2.2:=oK er2
 have Z:=@A0 xs r2.2.1 r2.2.2 _ U
 generalize eV xs r2.2.1 r2.2.2 (H*(S-Wd*L))=r3 at r Z⊢
 have u:ErR (eV xs r3.2.1 r3.2.2 (size-(F+S*H))).2.2:=oK r
 have l4:=@A0 xs r3.2.1 r3.2.2 (size-(F+S*H)) (by omega)
 generalize eV xs r3.2.1 r3.2.2 (size-(F+S*H))=r4 at u l4⊢
 have J:ErR (I8 xs.length r4.2.1 r4.2.2):=qbP u
 by_cases he:I8 xs.length r4.2.1 r4.2.2≠0
 ·rw[if_pos he]
  exact .inr ⟨rfl,J.resolve_left he⟩
 ·rw[if_neg he]
  have O:r4.2.2=0:=by
   refine Decidable.byContradiction fun hn=>he ?_
   unfold I8;rw[if_pos hn];exact hn
  by_cases hk:vT r2.1.length (Wd*L) L=true∧L4 r2.1 (Wd*L).toNat (r2.1.length/((Wd*L).toNat+1))=true
  ·rw[if_pos hk]
   refine .inl ⟨rfl,?_⟩
   obtain⟨m4,k4⟩:=l4 O
   obtain⟨C,k3⟩:=Z k4
   obtain⟨A,k2⟩:=V k3
   obtain⟨m1,_⟩:=Y k2
   obtain⟨W,hW⟩:∃W:Nat,Wd*L=(W:Int):=⟨(Wd*L).toNat,by omega⟩
   obtain⟨j,X⟩:∃j:Nat,H=(j:Int):=⟨H.toNat,by omega⟩
   obtain⟨G,M⟩:∃G:Nat,S-Wd*L=(G:Int):=⟨(S-Wd*L).toNat,by omega⟩
   rw[hW]at A M⊢
   rw[X]at A C
   rw[hW,M]at C
   rw[M]
   have e2:((j:Int)*((W:Int)+1)).toNat=j*(W+1):=by
    have:((j:Int)*((W:Int)+1))=((j*(W+1):Nat):Int):=by rw[rM];rfl
    rw[this,dH]
   have e3:((j:Int)*(G:Int)).toNat=j*G:=by rw[←rM,dH]
   rw[e2]at A
   rw[e3]at C
   rw[dH,dH,A,Nat.mul_div_cancel _ (by omega),bD,bD,qeQ (i:=j) (EQ _ _ _ _) C (cJ _),m1,m4]
   have hS:S=(W:Int)+(G:Int):=by omega
   have N:S*H=((j*(W+G):Nat):Int):=by rw[hS,X,rM,Int.mul_comm];rfl
   rw[N]at I⊢
   omega
  ·rw[if_neg hk];exact .inr ⟨rfl,.inr rfl⟩
theorem LV(xs:List Int)(most:Int)(r:inR .u8 xs):((kP xs most).2=0∧((kP xs most).1.length:Int)≤(if 0>most then 0 else most)∧(kP xs most).1.length≤1048576)∨((kP xs most).1=[]∧((kP xs most).2=3∨(kP xs most).2=4∨(kP xs most).2=5)):=by
 unfold kP
 dsimp only
 generalize(if 0>most then 0 else most)=mx
 by_cases h:(cL xs 6).2.2≠0
 ·rw[if_pos h]
  refine .inr ⟨rfl,?_⟩
  rcases WE xs 6 with h1|h1|h1
  ·exact absurd h1 h
  ·exact .inl h1
  ·exact .inr (.inl h1)
 ·rw[if_neg h]
  by_cases h5:rd (cL xs 6).1 0>mx∨rd (cL xs 6).1 0>1048576
  ·rw[if_pos h5];exact .inr ⟨rfl,.inr (.inr rfl)⟩
  ·rw[if_neg h5]
   by_cases j:FX (rd (cL xs 6).1 0) (rd (cL xs 6).1 1) (rd (cL xs 6).1 2) (rd (cL xs 6).1 3) (rd (cL xs 6).1 4) (rd (cL xs 6).1 5)=true
   ·rw[if_pos j];exact .inr ⟨rfl,.inr (.inl rfl)⟩
   ·rw[if_neg j]
    have q:∀k,∀x∈(cL xs k).1,0≤x:=fun k=>by
     induction k with
     |zero=>intro x hx;cases hx
     |succ k A=>
      intro x hx
      rw[cL]at hx
      rcases List.mem_append.1 hx with hx|hx
      ·exact A x hx
      ·simp at hx;subst hx
       have:=(qF (xs:=xs) (a:=(cL xs k).2.1) (er:=(cL xs k).2.2) (most:=18446744073709551615) r).1
       unfold JG;split<;>omega
    have u:0≤rd (cL xs 6).1 1:=q 6 _ (OG (by decide) (by rw[oN];decide))
    rcases qgq (xs:=xs) (a:=(cL xs 6).2.1) u (Bool.eq_false_iff.2 j)with⟨h1,h2⟩|⟨h1,h2⟩
    ·exact .inl ⟨h1,by omega,by omega⟩
    ·exact .inr ⟨h1,by omega⟩
end
section
section
variable {w0 w w':World} {F:List It}
def yB(g:List Int→Nat→Int)(xs:List Int)(i:Nat):List Int:=rJ xs.length (fun q=>if q<i then g xs q else rd xs q)
theorem qfG(g:List Int→Nat→Int)(xs:List Int):yB g xs 0=xs:=by
 unfold yB
 rw[mA (g:=fun i=>rd xs (i:Int)) (fun i _=>by rw[if_neg (by omega)])]
 exact YP xs
theorem YS(g:List Int→Nat→Int)(xs:List Int)(i:Nat):(yB g xs i).length=xs.length:=dS _ _
theorem E5{g:List Int→Nat→Int}{xs:List Int}{i q:Nat}(hq:q<xs.length)(h:i≤q):rd (yB g xs i) (q:Int)=rd xs q:=by
 unfold yB;rw[Y7 hq,if_neg (by omega)]
theorem YR{g:List Int→Nat→Int}{xs:List Int}{i:Nat}(hi:i%3=0)(h:xs.length<i+3)(hg:∀q,¬q/3*3+3≤xs.length→g xs q=rd xs q):yB g xs i=rJ xs.length (g xs):=
 mA fun q hq=>by
  split
  ·rfl
  ·rw[hg q (by omega)]
theorem QG{g:List Int→Nat→Int}{xs:List Int}{i:Nat}(hi:i%3=0)(h:i+3≤xs.length){a c:Int}(ha:g xs i=a)(hb:g xs (i+1)=rd xs ((i+1:Nat):Int))(hc:g xs (i+2)=c):((yB g xs i).set i a).set (i+2) c=yB g xs (i+3):=by
 unfold yB
 rw[EO (by omega),EO (by omega)]
 refine mA fun q hq=>?_
 by_cases h2:q=i+2
 ·subst h2;rw[if_pos rfl,if_pos (by omega),hc]
 ·rw[if_neg h2]
  by_cases h0:q=i
  ·subst h0;rw[if_pos rfl,if_pos (by omega),ha]
  ·rw[if_neg h0]
   by_cases h1:q=i+1
   ·subst h1;rw[if_neg (by omega),if_pos (by omega),hb]
   ·by_cases cR:q<i
    ·rw[if_pos cR,if_pos (by omega)]
    ·rw[if_neg cR,if_neg (by omega)]
theorem qlO{b:Value}{xs:List Int}(hb:Nm .u8 w b xs)(hl:xs.length≤1000000000):Calls P O2 #[b] w (JC w (qjy xs)):=by
 refine WM (qat (Fr.start w) hb (by omega) fun t9 w1 M=>?_)
 refine⟨fun i w'=>∃j:Nat,i=(j:Int)∧j%3=0∧j≤xs.length∧Fr w w' [bI .u8 eB t9 (yB H9 xs j)],fun i _=>(xs.length-i).toNat,⟨0,rfl,rfl,bW _,by rw[qfG];exact M⟩,?_⟩
 rintro _ i w2 ⟨j,rfl,A,O,u⟩
 have hn:=u.nm 0 rfl
 have I:=YS H9 xs j
 refine aP hn ?_
 rw[I,aD (n:=(j:Int)+3) (by omega) (by omega),aD (n:=(j:Int)+1) (by omega) (by omega),aD (n:=(j:Int)+2) (by omega) (by omega)]
 refine aG (fun T=>?_) (fun N=>?_)
 ·have r:j+3≤xs.length:=by omega
  refine xE hn (by omega) (by omega) (fun _=>qW) (xE hn (by omega) (by omega) (fun _=>qW) (xE hn (by omega) (by omega) (fun _=>qW) ?_))
  rw[show(j:Int)+1=((j+1:Nat):Int)by omega,show(j:Int)+2=((j+2:Nat):Int)by omega,E5 (by omega) (cJ _),E5 (by omega) (by omega),E5 (by omega) (by omega)]
  have r0:=jB hb.2 (j:Int)
  have r1:=jB hb.2 ((j+1:Nat):Int)
  have r2:=jB hb.2 ((j+2:Nat):Int)
  rw[aD (n:=rd xs (j:Int)) (by omega) (by omega),aD (n:=rd xs ((j+1:Nat):Int)) (by omega) (by omega),aD (n:=rd xs ((j+2:Nat):Int)) (by omega) (by omega),aD (n:=rd xs (j:Int)-rd xs ((j+1:Nat):Int)) (by omega) (by omega),aD (n:=rd xs ((j+2:Nat):Int)-rd xs ((j+1:Nat):Int)) (by omega) (by omega)]
  refine Q8 (j:=j) u.drew 0 rfl rfl (by omega) (IZ (qjz _)) fun w3 f3=>Q8 (j:=j+2) f3 0 rfl rfl (by rw[AJ];omega) (IZ (qjz _)) fun w4 f4=>?_
  have ha:H9 xs j=u8 (rd xs (j:Int)-rd xs ((j+1:Nat):Int)):=by unfold H9;rw[if_pos (by omega),if_neg (by omega),show j/3*3+1=j+1 by omega]
  have C:H9 xs (j+1)=rd xs ((j+1:Nat):Int):=by unfold H9;rw[if_pos (by omega),if_pos (by omega)]
  have hc:H9 xs (j+2)=u8 (rd xs ((j+2:Nat):Int)-rd xs ((j+1:Nat):Int)):=by unfold H9;rw[if_pos (by omega),if_neg (by omega),show(j+2)/3*3+1=j+1 by omega]
  have J:=QG A r ha C hc
  have f4:Fr w w4 [bI .u8 eB t9 (((yB H9 xs j).set j (u8 (rd xs (j:Int)-rd xs ((j+1:Nat):Int)))).set (j+2) (u8 (rd xs ((j+2:Nat):Int)-rd xs ((j+1:Nat):Int))))]:=f4
  rw[J]at f4
  exact⟨⟨j+3,by omega,by omega,r,f4⟩,by dsimp only;omega⟩
 ·rw[YR A (by omega) (fun q hq=>by unfold H9;rw[if_neg hq])]at u
  exact⟨t9,rfl,u.old,u.on 0 rfl⟩
theorem qlD{b:Value}{xs:List Int}(hb:Nm .u8 w b xs)(hl:xs.length≤1000000000):Calls P O1 #[b] w (JC w (qip xs)):=by
 refine WL (qat (Fr.start w) hb (by omega) fun t9 w1 M=>?_)
 refine⟨fun i w'=>∃j:Nat,i=(j:Int)∧j%3=0∧j≤xs.length∧Fr w w' [bI .u8 eB t9 (yB E7 xs j)],fun i _=>(xs.length-i).toNat,⟨0,rfl,rfl,bW _,by rw[qfG];exact M⟩,?_⟩
 rintro _ i w2 ⟨j,rfl,A,O,u⟩
 have hn:=u.nm 0 rfl
 have I:=YS E7 xs j
 refine aP hn ?_
 rw[I,aD (n:=(j:Int)+3) (by omega) (by omega),aD (n:=(j:Int)+1) (by omega) (by omega),aD (n:=(j:Int)+2) (by omega) (by omega)]
 refine aG (fun T=>?_) (fun N=>?_)
 ·have r:j+3≤xs.length:=by omega
  refine xE hn (by omega) (by omega) (fun _=>qW) (xE hn (by omega) (by omega) (fun _=>qW) (xE hn (by omega) (by omega) (fun _=>qW) ?_))
  rw[show(j:Int)+1=((j+1:Nat):Int)by omega,show(j:Int)+2=((j+2:Nat):Int)by omega,E5 (by omega) (cJ _),E5 (by omega) (by omega),E5 (by omega) (by omega)]
  have r0:=jB hb.2 (j:Int)
  have r1:=jB hb.2 ((j+1:Nat):Int)
  have r2:=jB hb.2 ((j+2:Nat):Int)
  rw[aD (n:=rd xs (j:Int)) (by omega) (by omega),aD (n:=rd xs ((j+1:Nat):Int)) (by omega) (by omega),aD (n:=rd xs ((j+2:Nat):Int)) (by omega) (by omega),aD (n:=rd xs (j:Int)+rd xs ((j+1:Nat):Int)) (by omega) (by omega),aD (n:=rd xs ((j+2:Nat):Int)+rd xs ((j+1:Nat):Int)) (by omega) (by omega)]
  refine Q8 (j:=j) u.drew 0 rfl rfl (by omega) (IZ (qjz _)) fun w3 f3=>Q8 (j:=j+2) f3 0 rfl rfl (by rw[AJ];omega) (IZ (qjz _)) fun w4 f4=>?_
  have ha:E7 xs j=u8 (rd xs (j:Int)+rd xs ((j+1:Nat):Int)):=by unfold E7;rw[if_pos (by omega),if_neg (by omega),show j/3*3+1=j+1 by omega]
  have C:E7 xs (j+1)=rd xs ((j+1:Nat):Int):=by unfold E7;rw[if_pos (by omega),if_pos (by omega)]
  have hc:E7 xs (j+2)=u8 (rd xs ((j+2:Nat):Int)+rd xs ((j+1:Nat):Int)):=by unfold E7;rw[if_pos (by omega),if_neg (by omega),show(j+2)/3*3+1=j+1 by omega]
  have J:=QG A r ha C hc
  have f4:Fr w w4 [bI .u8 eB t9 (((yB E7 xs j).set j (u8 (rd xs (j:Int)+rd xs ((j+1:Nat):Int)))).set (j+2) (u8 (rd xs ((j+2:Nat):Int)+rd xs ((j+1:Nat):Int))))]:=f4
  rw[J]at f4
  exact⟨⟨j+3,by omega,by omega,r,f4⟩,by dsimp only;omega⟩
 ·rw[YR A (by omega) (fun q hq=>by unfold E7;rw[if_neg hq])]at u
  exact⟨t9,rfl,u.old,u.on 0 rfl⟩
end
end
section
section
variable {xs:List Int} {F Wd H L S:Nat}
theorem qnD:qeU xs F Wd H L S=A8 [xs.length,F,Wd,H,L,S]++(xs.take F++(xK (SE xs F S (Wd*L) L H) (Wd*L) L H++(UF xs F S (Wd*L) H++xs.drop (F+S*H)))):=by
 unfold qeU A8;simp
end
theorem qpG{p:Pc}{n:Nat}(h:InP p n):∃F Wd H L S:Nat,p=⟨Wd,H,L,S,F⟩∧1≤Wd∧Wd≤32768∧1≤H∧H≤32768∧(L=1∨L=3)∧Wd*L≤S∧F+S*H≤n:=by
 obtain⟨a1,a2,a3,a4,a5,a6,q,r,a9⟩:=h
 obtain⟨wd,ht,pl,st,fr⟩:=p
 simp only at*
 have j:0≤st:=Int.le_trans (DN (by omega) (by omega)) a6
 refine⟨fr.toNat,wd.toNat,ht.toNat,pl.toNat,st.toNat,?_,by omega,by omega,by omega,by omega,by omega,?_,?_⟩
 ·congr 1<;>omega
 ·have:((wd.toNat*pl.toNat:Nat):Int)=wd*pl:=by rw[rM,Int.toNat_of_nonneg (by omega),Int.toNat_of_nonneg (by omega)]
  omega
 ·have:((st.toNat*ht.toNat:Nat):Int)=st*ht:=by rw[rM,Int.toNat_of_nonneg (by omega),Int.toNat_of_nonneg (by omega)]
  omega
end
section
def EI(F Wd H L S:Nat):List Value:=[aB Wd,aB H,aB L,aB S,aB F]
section
variable {w0 w w':World} {G:List It} {F Wd H L S:Nat} {ad:Addr}
theorem add0(ad:Addr)(n:Nat):Addr.add (ad.add 0) n=ad.add n:=by rw[Addr.add_zero']
theorem zL(h:St w ad (EI F Wd H L S))(hb:Wd*L≤1000000000000):Calls P eY #[aH ad] w (fun e w'=>e=aW (aB ((Wd*L:Nat):Int))∧Ev w w'):=by
 refine CO (aC ?_)
 rw[add0]
 refine aN (mM (h.cell (j:=0) rfl)) (aC ?_)
 rw[add0]
 refine aN (mM (h.cell (j:=2) rfl)) ⟨?_,Ev.drew0 w⟩
 rw[←rM,aD (by omega) (by omega)]
theorem SX(h:St w ad (EI F Wd H L S))(hb:F+S*H≤4000000000000000000):Calls P jG #[aH ad] w (fun e w'=>e=aW (aB ((F+S*H:Nat):Int))∧Ev w w'):=by
 refine FH (aC ?_)
 rw[add0]
 refine aN (mM (h.cell (j:=4) rfl)) (aC ?_)
 rw[add0]
 refine aN (mM (h.cell (j:=3) rfl)) (aC ?_)
 rw[add0]
 refine aN (mM (h.cell (j:=1) rfl)) ⟨?_,Ev.drew0 w⟩
 rw[←rM,aD (n:=((S*H:Nat):Int)) (by omega) (by omega),←Int.natCast_add,aD (by omega) (by omega)]
theorem qom{b:Value}{xs:List Int}(h:St w ad (EI F Wd H L S))(hb:Nm .u8 w b xs)(hl:xs.length≤1000000000):Calls P rD #[aH ad,b] w (fun e w'=>∃v,e=aW v∧Ev w w'∧Nm .u8 w' v (qfF L xs)):=by
 refine CN (aC ?_)
 rw[add0]
 refine bG (h.cell (j:=2) rfl) (cN (fun h3=>?_) (fun h3=>?_))
 ·have:L=3:=by omega
  subst this
  exact iY (Q:=fun v w'=>Ev w w'∧ON .u8 eB w' w.heap.size v (qjy xs)) (qlO hb hl) fun v w' ⟨h1,h2⟩=>⟨v,rfl,h1,h2.nm⟩
 ·refine⟨b,rfl,Ch.refl _ w,?_⟩
  unfold qfF;rw[if_neg (by omega)];exact hb
theorem qkZ{b:Value}{xs:List Int}(h:St w ad (EI F Wd H L S))(hb:Nm .u8 w b xs)(hl:xs.length≤1000000000):Calls P rC #[aH ad,b] w (fun e w'=>∃v,e=aW v∧Ev w w'∧Nm .u8 w' v (qak L xs)):=by
 refine CM (aC ?_)
 rw[add0]
 refine bG (h.cell (j:=2) rfl) (cN (fun h3=>?_) (fun h3=>?_))
 ·have:L=3:=by omega
  subst this
  exact iY (Q:=fun v w'=>Ev w w'∧ON .u8 eB w' w.heap.size v (qip xs)) (qlD hb hl) fun v w' ⟨h1,h2⟩=>⟨v,rfl,h1,h2.nm⟩
 ·refine⟨b,rfl,Ch.refl _ w,?_⟩
  unfold qak;rw[if_neg (by omega)];exact hb
theorem qgf{n W L:Nat}(h1:1≤W)(h2:W≤1048576)(h3:1≤L)(h4:L≤4)(h5:n*W≤1048576):oW (n*W) W L=true:=by
 have e1:((n*W:Nat):Int)%(W:Int)=0:=by
  have:((n*W:Nat):Int)%(W:Int)=((n*W%W:Nat):Int):=by rw[QM]
  rw[Nat.mul_mod_left]at this;exact this
 simp only[oW,xZ,mK,decide_eq_true_eq]
 refine⟨⟨⟨⟨⟨?_,?_⟩,?_⟩,?_⟩,e1⟩,h5⟩<;>omega
theorem qlM{b:Value}{xs:List Int}(hb:Nm .u8 w b xs)(hl:xs.length≤1000000000):Calls P uT #[b] w (TV w (XN xs)):=by
 refine q7 (E1 (qae hb hl) fun w1 h1=>C0 ((Fr.start w).ev h1) fun x4 w2 f2=>DV f2 0 rfl rfl fun w3 f3=>?_)
 have f3:Fr w w3 [aT x4 (sX xs).1.c]:=f3
 have bl:=(qnE hb.2).1
 have aa:∀{w'},Ev w w'→¬((sX xs).2=true∧xs.length≤1048576)→TV w (XN xs) (bP #[bR,.bool false]) w':=fun he hn=>by
  unfold XN;rw[if_neg hn]
  exact⟨_,rfl,he,ON.nil _ _ _ _⟩
 refine⟨fun w'=>((sX xs).2=true∧xs.length≤1048576)∧Fr w w' [aT x4 (sX xs).1.c],yE (fun ht=>aP (hb.ev f3.old) (aG (fun cj=>aa f3.old (by omega)) (fun an=>⟨⟨ht,by omega⟩,f3⟩))) (fun hf=>aa f3.old (by rw[hf];simp)),?_⟩
 rintro _ w4 ⟨⟨ht,an⟩,f4⟩
 obtain⟨F,Wd,H,L,S,hp,a1,a2,a3,a4,a5,a6,Y⟩:=qpG (bl ht)
 have ar:XN xs=(qeU xs F Wd H L S,true):=by
  unfold XN qq6;rw[if_pos ⟨ht,an⟩,hp];simp
 rw[hp]at f4
 have hS:S≤S*H:=ZK _ (by omega)
 have hW:Wd≤Wd*L:=ZK _ (by omega)
 have bh:Wd*L≤32768*3:=U3 a2 (by omega)
 have hH:H≤S*H:=Nat.le_mul_of_pos_left _ (by omega)
 refine qkp ⟨Wd,H,L,S,F⟩ f4 0 rfl (mL f4 fun A w5 f5=>qiE f5 fun o7 v7 w6 f6=>?_)
 have f6:Fr w w6 [rN eB o7 v7 [],aT A (EI F Wd H L S),aT x4 (Pc.mk Wd H L S F).c]:=f6
 have hB:∀{w':World} {F':List It} (i:Nat),Fr w w' F'→F'[i]?=some (aT A (EI F Wd H L S))→∀(j:Nat) (u:Value),(EI F Wd H L S)[j]?=some u→w'.cell? (A.add j)=some u:=fun i f hi j u hj=>f.cell i j hi hj
 have M:∀{w':World} {F':List It} (i:Nat),Fr w w' F'→F'[i]?=some (aT A (EI F Wd H L S))→St w' A (EI F Wd H L S):=fun i f hi=>f.get i hi
 refine⟨fun w'=>∀(j:Nat) (u:Value),(EI F Wd H L S)[j]?=some u→w'.cell? (A.add j)=some u,hB 1 f6.drew rfl,aP (hb.ev f6.old) (aC ?_)⟩
 rw[add0]
 refine aN (fun w' hw=>hw 4 _ rfl) (aC ?_)
 rw[add0]
 refine aN (fun w' hw=>hw 0 _ rfl) (aC ?_)
 rw[add0]
 refine aN (fun w' hw=>hw 1 _ rfl) (aC ?_)
 rw[add0]
 refine aN (fun w' hw=>hw 2 _ rfl) (aC ?_)
 rw[add0]
 refine aN (fun w' hw=>hw 3 _ rfl) ?_
 obtain⟨C,X⟩:∃C:List Nat,C=[xs.length,F,Wd,H,L,S]:=⟨_,rfl⟩
 have af:∀q∈C,q≤1048576:=fun q hq=>by
  rw[X]at hq
  simp only[I5,GL,or_false]at hq
  rcases hq with rfl|rfl|rfl|rfl|rfl|rfl<;>omega
 have bn:inR .i64 (C.map (fun(q:Nat)=>(q:Int))):=fun x hx=>by
  obtain⟨q,hq,rfl⟩:=List.mem_map.1 hx
  have:=af q hq
  simp [IntKind.min,IntKind.max,IntKind.signed,IntKind.bits];omega
 have ag:C.length=6:=by rw[X];rfl
 refine jF (C.map (fun(q:Nat)=>(q:Int))) f6.drew (by rw[X];rfl) (by rw[fE];exact ag) bn fun bq w7 f7=>⟨hB 2 f7 rfl,aP (f7.nm 0 rfl) ?_⟩
 rw[fE,ag]
 refine⟨fun i w'=>∃(k:Nat) (v':Value),i=(k:Int)∧k≤6∧Fr w w' [bI .i64 (dD P bJ) bq (C.map (fun(q:Nat)=>(q:Int))),rN eB o7 v' (A8 (C.take k)),aT A (EI F Wd H L S),aT x4 (Pc.mk Wd H L S F).c],fun i _=>(6-i).toNat,⟨0,v7,rfl,by omega,f7⟩,?_⟩
 rintro _ i w8 ⟨k,v8,rfl,hk,f8⟩
 have ap:∀k,k≤6→(A8 (C.take k)).length≤100:=fun k hk=>by
  have:∀l:List Nat,(∀q∈l,q≤1048576)→(A8 l).length≤10*l.length:=fun l=>by
   induction l with
   |nil=>intro _;simp [A8]
   |cons q l ih=>
    intro h
    have h1:=ih fun r hr=>h r (by simp [hr])
    have h2:=fH (n:=q) (by have:=h q (by simp);omega)
    have e:A8 (q::l)=eD q++A8 l:=by simp [A8]
    rw[e,bD,iO];omega
  have h1:=this (C.take k) fun q hq=>af q (AK hq)
  rw[eJ,ag]at h1
  omega
 refine aG (fun cR=>?_) (fun am=>?_)
 ·have T:k<C.length:=by omega
  have cm:=af C[k] (kH T)
  refine uC (f8.nm 0 rfl) (by omega) (by rw[fE];omega) ?_
  have bp:rd (C.map (fun(q:Nat)=>(q:Int))) (k:Int)=((C[k]:Nat):Int):=by rw[dK _ k (by rw[fE];exact T),LX]
  rw[bp,show gD ((C[k]:Nat):Int)=((C[k]:Nat):Int)by rw[dW];omega]
  refine c9 f8 1 rfl (by omega) (by have:=ap k hk;omega) fun v9 w9 f9=>?_
  rw[dH,←qhj,←iV T]at f9
  exact⟨⟨k+1,v9,by rw[aD (by omega) (by omega)];omega,by omega,f9⟩,by dsimp only;rw[aD (by omega) (by omega)];omega⟩
 have T:k=6:=by omega
 subst T
 rw[gI (by omega)]at f8
 have aq:=ap 6 (cJ _)
 rw[gI (by omega)]at aq
 have f8:Fr w w8 [rN eB o7 v8 (A8 C),aT A (EI F Wd H L S)]:=f8.picks [1,2] (by decide)
 refine aC ?_
 rw[add0]
 refine bG (hB 1 f8 rfl 4 _ rfl) ?_
 obtain⟨W,O⟩:∃W,W=Wd*L:=⟨_,rfl⟩
 rw[←O]at bh hW a6
 refine⟨fun px bs ab w'=>∃i:Nat,ab=((F+i*S:Nat):Int)∧i≤H∧Fr w w' [bI .u8 eB px (SE xs F S W L i),bI .u8 eB bs (UF xs F S W i),rN eB o7 v8 (A8 C),aT A (EI F Wd H L S)],fun _ _ ab _=>(F+S*H-ab).toNat,⟨0,by simp,bW _,(f8.nil0 .u8 eB).nil0 .u8 eB⟩,?_⟩
 rintro _ px bs _ ct ⟨i,rfl,hi,f10⟩
 refine bQ (SX (M 3 f10 rfl) (by omega)) fun cu bb=>?_
 have I:=f10.ev bb
 have U:=qe0 (L:=L) Y a6 hi
 have hbl:=qdA Y a6 hi
 have cl:i*S≤S*H:=by rw[A4 S H];exact kR _ hi
 have bj:i*W≤i*S:=qih _ a6
 have ck:i*(S-W)≤i*S:=qih _ (Nat.sub_le _ _)
 refine aG (fun cR=>?_) (fun am=>?_)
 ·have N:i<H:=by
   refine Decidable.byContradiction fun hn=>?_
   have:i=H:=by omega
   subst this
   rw[A4]at cR;omega
  have cn:=qcL Y N
  have ai:(i+1)*S=i*S+S:=by rw[M9,AI]
  refine bQ (zL (M 3 I rfl) (by omega)) fun cw bc=>?_
  have f12:=I.ev bc
  rw[←O,←Int.natCast_add,aD (n:=((F+i*S+W:Nat):Int)) (by omega) (by omega)]
  refine dJ (hb.ev f12.old) (F+i*S) (F+i*S+W) (.inr ⟨_,rfl⟩) (.inr ⟨_,rfl⟩) (by omega) (by omega) fun hs=>?_
  rw[MB]at hs
  refine iY (qom (M 3 f12 rfl) hs (by rw[eJ,cQ];omega)) fun cq cx ⟨bd,ao⟩=>?_
  have f13:=f12.ev bd
  have co:=qfc Y a6 N
  refine vZ f13 0 rfl ao (by rw[qa9,U];show(_+(qqh xs F S W i).length)*8≤_;omega) fun br bu f14=>?_
  have f14:Fr w bu [bI .u8 eB br (SE xs F S W L (i+1)),bI .u8 eB bs (UF xs F S W i),rN eB o7 v8 (A8 C),aT A (EI F Wd H L S)]:=f14
  refine⟨fun w'=>∀(j:Nat) (u:Value),(EI F Wd H L S)[j]?=some u→w'.cell? (A.add j)=some u,hB 3 f14.drew rfl,aC ?_⟩
  rw[add0]
  refine aN (fun w' hw=>hw 3 _ rfl) (bQ (zL (M 3 f14.drew rfl) (by omega)) fun cy be=>?_)
  have f15:=f14.drew.ev be
  rw[←O,←Int.natCast_add,←Int.natCast_add,aD (n:=((F+i*S+W:Nat):Int)) (by omega) (by omega),aD (n:=((F+i*S+S:Nat):Int)) (by omega) (by omega)]
  refine⟨hB 3 f15 rfl,dJ (hb.ev f15.old) (F+i*S+W) (F+i*S+S) (.inr ⟨_,rfl⟩) (.inr ⟨_,rfl⟩) (by omega) (by omega) fun V=>?_⟩
  rw[show F+i*S+S-(F+i*S+W)=S-W by omega]at V
  have ci:=qef Y a6 N
  refine vZ f15 1 rfl V (by rw[hbl];show(_+(qpv xs F S W i).length)*8≤_;omega) fun cb cz ac=>⟨hB 3 ac rfl,aC ?_⟩
  rw[add0]
  refine bG (hB 3 ac rfl 3 _ rfl) ?_
  refine⟨⟨i+1,?_,N,ac⟩,?_⟩
  ·rw[←Int.natCast_add,aD (by omega) (by omega),ai];congr 1;omega
  ·dsimp only
   rw[←Int.natCast_add,aD (by omega) (by omega)];omega
 have N:i=H:=by
  refine Decidable.byContradiction fun hn=>am ?_
  have:=qcL Y (show i<H by omega)
  have hsh:F+(i+1)*S≤F+S*H:=by rw[A4 S H];exact Nat.add_le_add_left (kR _ (by omega)) _
  rw[M9,AI]at hsh
  omega
 subst N
 have bz:i*W≤S*i:=by rw[A4 S i];exact bj
 refine⟨fun w'=>∀(j:Nat) (u:Value),(EI F Wd i L S)[j]?=some u→w'.cell? (A.add j)=some u,hB 3 I.drew rfl,aC ?_⟩
 rw[add0]
 refine aN (fun w' hw=>hw 2 _ rfl) (bQ (zL (M 3 I.drew rfl) (by omega)) fun db al=>⟨hB 3 (I.drew.ev al) rfl,?_⟩)
 have ak:=I.drew.ev al
 rw[←O]
 have hok:oW (SE xs F S W L i).length W L=true:=by rw[U];exact qgf (by omega) (by omega) (by omega) (by omega) (by omega)
 refine aO (qjG (ak.nm 0 rfl) (by rw[U];omega) (by omega)) ?_
 rintro _ dc ⟨bf,hr⟩
 rw[hok,if_pos rfl,dH,U,Nat.mul_div_cancel _ (by omega)]at hr
 obtain⟨aw,rfl,bm⟩:=hr
 have J:=ak.newO bf bm
 refine⟨_,_,rfl,hB 4 J rfl,cA (fun h=>(h rfl).elim) (fun _=>⟨fun w'=>∀(j:Nat) (u:Value),(EI F Wd i L S)[j]?=some u→w'.cell? (A.add j)=some u,hB 4 J.drew rfl,aC ?_⟩)⟩
 rw[add0]
 refine aN (fun w' hw=>hw 4 _ rfl) (dJ (hb.ev J.drew.old) 0 F (.inl ⟨rfl,rfl⟩) (.inr ⟨_,rfl⟩) (bW _) (by omega) fun ah=>bQ (SX (M 4 J.drew rfl) (by omega)) fun dd ae=>⟨hB 4 (J.drew.ev ae) rfl,?_⟩)
 have f19:=J.drew.ev ae
 rw[Z9,oL]at ah
 refine dJ (hb.ev f19.old) (F+S*i) xs.length (.inr ⟨_,rfl⟩) (.inl ⟨rfl,rfl⟩) Y (cJ _) fun V=>?_
 rw[gI (by rw[cQ];exact cJ _)]at V
 have bx:=ah.ev ae
 have hA:=f19.nm 0 rfl
 have bg:=f19.nm 2 rfl
 refine qiB [_,aw,bs,_] f19 rfl rfl (fun v hv=>?_) fun cc de f20=>⟨hB 5 f20 rfl,?_⟩
 ·simp only[I5,GL,or_false]at hv
  rcases hv with rfl|rfl|rfl|rfl
  ·exact ah.one
  ·exact hA.one
  ·exact bg.one
  ·exact V.one
 have bi:=GP (p:=(L:Int)) U (cJ i)
 have cg:[xs.take F,xK (SE xs F S W L i) W L i,UF xs F S W i,xs.drop (F+S*i)].flatten.length≤10000000:=by
  simp only[QN,List.flatten_nil,bD,iW,bi,hbl,eJ,cQ]
  have:i*(W+1)=i*W+i:=Nat.mul_succ i W
  omega
 refine qmx (yss:=[xs.take F,xK (SE xs F S W L i) W L i,UF xs F S W i,xs.drop (F+S*i)]) f20 4 rfl (fun w' f'=>NL.of (f'.sl 0 rfl) rfl fun j u ys hu Z=>?_) (by omega) (by simp) fun cr df f21=>⟨hB 5 f21 rfl,?_⟩
 ·have ho:Ev w w':=f'.old
  rcases j with _|_|_|_|j
  ·simp at hu Z;subst hu;subst Z
   have:=(hb.ev ho).sub 0 F (bW _) (by omega)
   rw[Z9,oL]at this;exact this
  ·simp at hu Z;subst hu;subst Z;exact f'.nm 1 rfl
  ·simp at hu Z;subst hu;subst Z;exact f'.nm 3 rfl
  ·simp at hu Z;subst hu;subst Z
   have:=(hb.ev ho).sub (F+S*i) xs.length Y (cJ _)
   rw[gI (by rw[cQ];exact cJ _)]at this;exact this
  ·simp at hu
 refine qbQ f21 4 rfl (by rw[bD];omega) fun av dg f22=>?_
 refine⟨av,?_,f22.old,?_⟩
 ·rw[ar]
 ·rw[ar]
  have:=f22.on 0 rfl
  rw[show qeU xs F Wd i L S=A8 C++[xs.take F,xK (SE xs F S W L i) W L i,UF xs F S W i,xs.drop (F+S*i)].flatten by rw[qnD,←X,←O];simp]
  exact this
end
end
end Go.Proofs.YtabchipjjghhnaaGreatDoorV
