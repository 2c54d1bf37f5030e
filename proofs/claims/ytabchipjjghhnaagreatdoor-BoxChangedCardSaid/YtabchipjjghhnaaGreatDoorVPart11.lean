import Derived.Test.YtabchipjjghhnaaGreatDoorVPart10
set_option linter.unusedVariables false
set_option linter.unusedSimpArgs false
namespace Go.Proofs.YtabchipjjghhnaaGreatDoorV
open Go Go.RowKit
def yT(xs:List Int)(k:Nat):Int:=rd xs ((k/8:Nat):Int)/((2^(7-k%8):Nat):Int)%2
theorem qdD(xs:List Int)(k:Nat):yT xs k=0∨yT xs k=1:=by unfold yT;omega
theorem U4{xs:List Int}(hx:inR .u8 xs)(k:Nat):yT xs k=(if(rd xs ((k/8:Nat):Int)).toNat.testBit (7-k%8)then 1 else 0):=by
 have h:=jB hx ((k/8:Nat):Int)
 unfold yT
 obtain⟨a,ha⟩:=LY h.1
 rw[ha,dH,←Int.natCast_ediv,Nat.testBit_eq_decide_div_mod_eq]
 generalize a/2^(7-k%8)=q
 have:q%2=0∨q%2=1:=by omega
 rcases this with h|h
 ·rw[h,show(q:Int)%2=0 by omega];rfl
 ·rw[h,show(q:Int)%2=1 by omega];rfl
def Packs(xs:List Int)(bs:List Int):Prop:=xs.length=(bs.length+7)/8∧∀k,k<8*xs.length→yT xs k=bs.getD k 0
theorem Packs.nil:Packs [] []:=⟨rfl,fun k h=>by simp at h⟩
theorem ql9{a b:Int}(ha:0≤a∧a<256)(hb:0≤b∧b<256)(h:∀i,i<8→a.toNat.testBit i=b.toNat.testBit i):a=b:=by
 have:a.toNat=b.toNat:=by
  apply Nat.eq_of_testBit_eq
  intro i
  by_cases hi:i<8
  ·exact h i hi
  ·have j:2^8≤2^i:=GI (by decide) (by omega)
   rw[Nat.testBit_lt_two_pow (by omega:a.toNat<2^i),Nat.testBit_lt_two_pow (by omega:b.toNat<2^i)]
 omega
theorem Packs.uniq{xs ys bs:List Int}(hx:inR .u8 xs)(q:inR .u8 ys)(h:Packs xs bs)(h2:Packs ys bs):xs=ys:=by
 have hl:xs.length=ys.length:=h.1.trans h2.1.symm
 refine List.ext_getElem hl fun j h1 h3=>?_
 rw[←dK xs j h1,←dK ys j h3]
 refine ql9 (jB hx _) (jB q _) fun i hi=>?_
 have e1:=h.2 (8*j+(7-i)) (by omega)
 have e2:=h2.2 (8*j+(7-i)) (by omega)
 rw[←e2,U4 hx,U4 q,show(8*j+(7-i))/8=j by omega,show 7-(8*j+(7-i))%8=i by omega]at e1
 split at e1<;>split at e1<;>simp_all
def Wb(w:World)(ad:Addr)(v:Value)(bs:List Int):Prop:=∃xs,St w ad [v,aB bs.length]∧ON .u8 eB w 0 v xs∧v.ownBlock≠some ad.block∧Packs xs bs
theorem Wb.ch{S:SS}{w w':World}{ad:Addr}{v:Value}{bs:List Int}(h:Wb w ad v bs)(hc:Ch S w w')(hs:∀k i,Ft ad v k i→¬S k i):Wb w' ad v bs:=by
 obtain⟨xs,h1,h2,h3,h4⟩:=h
 exact⟨xs,h1.ch hc fun _ _=>hs _ _ (.inl rfl),h2.ch hc fun g i hg=>hs g i (.inr hg),h3,h4⟩
theorem Wb.ev{w w':World}{ad:Addr}{v:Value}{bs:List Int}(h:Wb w ad v bs)(hc:Ev w w'):Wb w' ad v bs:=h.ch hc fun _ _ _ h=>h
def WbS(w w':World)(ad:Addr)(v v':Value)(bs:List Int):Prop:=Wb w' ad v' bs∧Ch (Ft ad v) w w'∧Moved w v v'
theorem Wb.step{w:World}{ad:Addr}{v:Value}{bs:List Int}(h:Wb w ad v bs):WbS w w ad v v bs:=⟨h,Ch.refl _ w,.inl rfl⟩
theorem WbS.trans{w w1 w2:World}{ad:Addr}{v v1 v2:Value}{xs ys:List Int}(h:WbS w w1 ad v v1 xs)(h2:WbS w1 w2 ad v1 v2 ys):WbS w w2 ad v v2 ys:=by
 refine⟨h2.1,Ch.trans h.2.1 h2.2.1 fun n i hn hf=>?_,h.2.2.trans h2.2.2 h.2.1.size⟩
 rcases hf with hf|hf
 ·exact .inl hf
 ·rcases h.2.2 with hm|hm
  ·exact .inr (hm▸hf)
  ·have:=hm n hf;omega
def qgp(v:Int):Int:=if v≠0 then 1 else 0
theorem qsf{xs:List Int}{i:Nat}{x:Int}(hi:i<xs.length)(j:Nat):rd (xs.set i x) (j:Int)=if j=i then x else rd xs j:=by
 unfold rd
 rw[dH,lH,lH,ZG]
 by_cases h:j=i
 ·subst h;simp [hi]
 ·rw[if_neg (fun e=>h e.symm),if_neg h]
theorem qnQ(xs ys:List Int)(j:Nat):rd (xs++ys) (j:Int)=if j<xs.length then rd xs j else rd ys ((j-xs.length:Nat):Int):=by
 unfold rd
 rw[dH,dH,lH,lH,lH,List.getElem?_append]
 split<;>rfl
theorem qeg(bs:List Int)(b:Int)(k:Nat):(bs++[b]).getD k 0=if k=bs.length then b else bs.getD k 0:=by
 rw[lH,lH,List.getElem?_append]
 split
 ·rw[if_neg (by omega)]
 ·split
  ·subst_vars;simp
  ·rw[I4 (by simp;omega),I4 (by omega)]
theorem Packs.grow{xs bs:List Int}(h:Packs xs bs)(h0:bs.length%8=0)(k:Nat):yT (xs++[0]) k=bs.getD k 0:=by
 have hl:=h.1
 unfold yT
 rw[qnQ]
 split
 ·exact h.2 k (by omega)
 ·have:rd [(0:Int)] ((k/8-xs.length:Nat):Int)=0:=by
   unfold rd
   rw[dH]
   cases k/8-xs.length<;>simp
  rw[this,lH,I4 (by omega)];simp
theorem qlY{a:Int}{r:Nat}(ha:0≤a∧a<256)(j:r<8):0≤L3 .u8 a (cV .u8 128 r)∧L3 .u8 a (cV .u8 128 r)<256∧∀i,(L3 .u8 a (cV .u8 128 r)).toNat.testBit i=(a.toNat.testBit i||decide (i=7-r)):=by
 have e1:cV .u8 128 r=((2^(7-r):Nat):Int):=by
  have:∀r:Nat,r<8→cV .u8 128 r=((2^(7-r):Nat):Int):=by decide
  exact this r j
 have hp:2^(7-r)<256:=Nat.lt_of_le_of_lt (GI (by decide) (show 7-r≤7 by omega)) (by decide)
 obtain⟨a,rfl⟩:=LY ha.1
 rw[e1,qb7 rfl (by rw[ql0];omega) (by rw[ql0];exact hp)]
 have cR:a|||2^(7-r)<2^8:=Nat.or_lt_two_pow (by omega) hp
 refine⟨by omega,by omega,fun i=>?_⟩
 rw[dH,dH,Nat.testBit_or,Nat.testBit_two_pow]
 congr 1
 simp [eq_comm]
theorem Packs.set{ys bs:List Int}(u:inR .u8 ys)(hl:ys.length=(bs.length+1+7)/8)(hb:∀k,k<8*ys.length→yT ys k=bs.getD k 0):
  Packs (ys.set (bs.length/8) (L3 .u8 (rd ys ((bs.length/8:Nat):Int)) (cV .u8 128 ((bs.length%8:Nat):Int)))) (bs++[1])∧inR .u8 (ys.set (bs.length/8) (L3 .u8 (rd ys ((bs.length/8:Nat):Int)) (cV .u8 128 ((bs.length%8:Nat):Int)))):=by
 have hi:bs.length/8<ys.length:=by omega
 obtain⟨h1,h2,h3⟩:=qlY (jB u ((bs.length/8:Nat):Int)) (r:=bs.length%8) (by omega)
 have A:inR .u8 (ys.set (bs.length/8) (L3 .u8 (rd ys ((bs.length/8:Nat):Int)) (cV .u8 128 ((bs.length%8:Nat):Int)))):=fun x hx=>by
  rcases List.mem_or_eq_of_mem_set hx with hx|rfl
  ·exact u x hx
  ·exact IZ ⟨h1,h2⟩
 refine⟨⟨by simpa using hl,fun k hk=>?_⟩,A⟩
 rw[AJ]at hk
 have q:=hb k hk
 rw[U4 u]at q
 rw[U4 A,qsf hi,qeg]
 by_cases j:k/8=bs.length/8
 ·rw[if_pos j,h3,←j]
  by_cases e:k=bs.length
  ·rw[if_pos e,e];simp
  ·rw[if_neg e,←q,decide_eq_false (show ¬7-k%8=7-bs.length%8 by omega),Bool.or_false]
 ·rw[if_neg j,q,if_neg (fun e=>j (by rw[e]))]
theorem Packs.zero{ys bs:List Int}(hl:ys.length=(bs.length+1+7)/8)(hb:∀k,k<8*ys.length→yT ys k=bs.getD k 0):Packs ys (bs++[0]):=
 ⟨by simpa using hl,fun k hk=>by
  rw[hb k hk,qeg]
  split
  ·rename_i e;rw[e,lH,I4 (cJ _)];rfl
  ·rfl⟩
theorem SP{ad:Addr}{v:Value}{bs:List Int}{b:Int}{w:World}(h:Wb w ad v bs)(hl:bs.length≤10000000000):
  Calls P jU #[aH ad,aB b] w (fun e w'=>e=bP #[]∧∃v',WbS w w' ad v v' (bs++[qgp b])):=by
 obtain⟨xs,hS,hO,hv,X⟩:=h
 have ak:=X.1
 have et:Int.tmod (bs.length:Int) 8=((bs.length%8:Nat):Int):=by rw[N0 (by omega)];omega
 have ed:i64 (Int.tdiv (bs.length:Int) 8)=((bs.length/8:Nat):Int):=by rw[sH (by omega),aD (by omega) (by omega)];omega
 refine HK (fO (iR ?_))
 refine⟨fun w'=>∃v' ys,St w' ad [v',aB bs.length]∧ON .u8 eB w' 0 v' ys∧v'.ownBlock≠some ad.block∧ys.length=(bs.length+1+7)/8∧(∀k,k<8*ys.length→yT ys k=bs.getD k 0)∧Ch (Ft ad v) w w'∧Moved w v v',?_,?_⟩
 ·refine aC (bG (hS.cell (j:=1) rfl) ?_)
  rw[et]
  refine cN (fun h0=>?_) (fun h0=>⟨v,xs,hS,hO,hv,by omega,X.2,Ch.refl _ w,.inl rfl⟩)
  refine aC (dV (v:=v) (hS.cell (j:=0) rfl) (qb2 (k:=.u8) [0] rfl rfl (by decide) (fun x hx=>by simp at hx;subst hx;decide) fun y w1 h1 hy=>?_))
  refine lS (hO.ev h1) hy.nm (by simp;omega) (bW _) fun v2 w2 C hc2 O=>aC ?_
  have Y:St w2 ad [v,aB bs.length]:=(hS.ev h1).ch hc2 fun _ _ hh=>hv hh
  rw[Addr.add_zero']
  refine xR Y (by simp) (by obtain⟨a,c,rfl,_⟩:=C.nm.shape;rfl) C.one fun w3 h3 aj Z=>?_
  have cR:=hS.lt
  have hv2:v2.ownBlock≠some ad.block:=by
   rcases O with h|h
   ·rw[h];exact hv
   ·intro hh;have:=h _ hh;have:=h1.size;omega
  refine⟨v2,xs++[0],by simpa using Z,C.ch h3 fun g i hg hh=>hv2 (by rw[hg,hh.1]),hv2,by simp;omega,fun k _=>X.grow (by omega) k,?_,?_⟩
  ·refine Ch.trans (Ch.trans (h1.mono fun _ _ _ h=>h.elim) (hc2.mono fun _ _ _ h=>.inr h) fun _ _ _ h=>h) h3 fun n i _ hh=>.inl hh.1
  ·rcases O with h|h
   ·exact .inl h
   ·exact .inr fun g hg=>nJ h1.size (h g hg)
 ·rintro _ w4 ⟨v4,ys,u,q,A,V,U,N,T⟩
  have cR:ad.block<w.heap.size:=hS.lt
  have I:∀{w5:World} {zs:List Int} {cs:List Int},St w5 ad [v4,aB bs.length]→ON .u8 eB w5 0 v4 zs→Packs zs cs→cs.length=bs.length+1→Ch (Ft ad v) w w5→
    aS (some ad) fun(aa:Addr)=>aF P aK bA (aH (aa.add 1)) w5 fun(t45:Int)=>aS (some ad) fun(ab:Addr)=>aL P aK (aH (ab.add 1)) (aB (i64 (t45+1))) w5 fun ac=>(Ending.returned (.tuple #[])=Ending.returned (.tuple #[])∧∃v',WbS w ac ad v v' cs):=fun{w5 zs cs} k1 k2 k3 k4 k5=>by
   refine aC (bG (k1.cell (j:=1) rfl) (aC (iP k1 (j:=1) (by simp) rfl rfl fun w6 h6 _ M=>⟨rfl,v4,⟨zs,?_,k2.ch h6 fun g i hg hh=>?_,A,k3⟩,Ch.trans k5 h6 fun n i _ hh=>?_,T⟩)))
   ·have e:i64 ((bs.length:Int)+1)=((cs.length:Nat):Int):=by rw[aD (by omega) (by omega)];omega
    rw[e]at M;exact M
   ·have:=hh.1;rw[Addr.add_none hS.1]at this;exact A (by rw[hg,this])
   ·have:=hh.1;rw[Addr.add_none hS.1]at this;exact .inl this
  refine cA (fun hb=>?_) (fun hb=>?_)
  ·refine⟨fun w'=>St w' ad [v4,aB bs.length],u.drew,aC (dE (v:=v4) (fun w' h=>h.cell (j:=0) rfl) (aC (aN (fun w' h=>h.cell (j:=1) rfl) ?_)))⟩
   rw[ed]
   have hi:((bs.length/8:Nat):Int)<ys.length:=by omega
   refine dL q.drew.nm (by omega) hi fun a1 c1 _=>aC (aN (fun w' h=>h.cell (j:=1) rfl) ?_)
   rw[et]
   refine pL (by omega) (bG c1 ⟨u.drew,C6 q.drew (by omega) hi fun a2 s2 _=>?_⟩)
   obtain⟨p1,p2⟩:=Packs.set q.2 V U
   obtain⟨q1,q2,_⟩:=qlY (jB q.2 ((bs.length/8:Nat):Int)) (r:=bs.length%8) (by omega)
   refine qK q.drew s2 (by omega) hi (IZ ⟨q1,q2⟩) fun w5 h5 _ J=>⟨u.drew.ch h5 fun _ _ hh=>A hh,?_⟩
   rw[dH]at J
   have e1:qgp b=1:=by unfold qgp;rw[if_pos hb]
   rw[e1]
   refine I (u.drew.ch h5 fun _ _ hh=>A hh) J p1 (by simp) ?_
   refine Ch.trans N.drew h5 fun n i hn hh=>?_
   rcases T with h|h
   ·exact .inr (h▸hh)
   ·have:=h n hh;omega
  ·have e0:qgp b=0:=by unfold qgp;rw[if_neg (by simpa using hb)]
   rw[e0]
   exact I u q (Packs.zero V U) (by simp) N
def xN(n:Int):Nat:=(if 32<n then 32 else n).toNat
theorem qbI(n:Int):xN n≤32:=by unfold xN;split<;>omega
theorem qs0(n:Int):(if 0>(if 32<n then 32 else n)then 0 else(if 32<n then 32 else n))=(xN n:Int):=by unfold xN;split<;>split<;>omega
theorem qs1(n:Int):(if(if 32<n then 32 else n)>0 then(if 32<n then 32 else n)else 0)=(xN n:Int):=by unfold xN;split<;>split<;>omega
def xC(v:Int):Nat→List Int
 |0=>[]
 |k+1=>v/((2^k:Nat):Int)%2::xC v k
theorem xL(v:Int):∀k,(xC v k).length=k
 |0=>rfl
 |k+1=>by simp [xC,xL v k]
theorem qt6{x:Int}(h:0≤x∧x<4294967296):i64 (xS .u32 x 1)=x%2:=by
 have:=E2 (k:=.u32) (a:=x) (m:=1) (n:=1) rfl h.1 (by rw[show(2:Int)^IntKind.u32.bits=4294967296 by decide];omega) rfl (by decide)
 rw[show((1:Nat):Int)=1 from rfl]at this
 rw[this,show((2^1:Nat):Int)=2 from rfl,aD (by omega) (by omega)]
theorem qn4{v:Int}{k:Nat}(hv:0≤v∧v<4294967296)(hk:k≤32):cV .u32 v k=v/((2^k:Nat):Int)∧0≤v/((2^k:Nat):Int)∧v/((2^k:Nat):Int)<4294967296:=by
 refine⟨uH (by have:IntKind.u32.bits=32:=rfl;omega) hv.1,QS hv.1 (GJ _),?_⟩
 have:=ZM (a:=v) ((2^k:Nat):Int) hv.1
 omega
theorem qsW{x:Int}:qgp (x%2)=x%2:=by unfold qgp;split<;>omega
theorem TO{ad:Addr}{v:Value}{bs:List Int}{x n:Int}{w:World}(h:Wb w ad v bs)(hx:0≤x∧x<4294967296)(hl:bs.length+32≤10000000000):
  Calls P lC #[aH ad,.int .u32 x,aB n] w (fun e w'=>e=bP #[]∧∃v',WbS w w' ad v v' (bs++xC x (xN n))):=by
 refine EW ?_
 rw[qs1]
 have:=qbI n
 rw[aD (n:=(xN n:Int)-1) (by omega) (by omega)]
 refine⟨fun i w1=>∃(j:Nat) (v':Value) (ys:List Int),i=(j:Int)-1∧j≤xN n∧xC x (xN n)=ys++xC x j∧WbS w w1 ad v v' (bs++ys),fun i _=>(i+1).toNat,⟨xN n,v,[],rfl,by omega,rfl,by simpa using h.step⟩,?_⟩
 rintro _ i w1 ⟨j,v',ys,rfl,hj,hb,hW⟩
 have u:=congrArg List.length hb
 rw[bD,xL,xL]at u
 refine aG (fun A=>?_) (fun cR=>⟨rfl,v',?_⟩)
 ·obtain⟨q,rfl⟩:∃q,j=q+1:=⟨j-1,by omega⟩
  rw[show((q+1:Nat):Int)-1=(q:Int)by omega]
  refine pL (by omega) ?_
  obtain⟨e1,e2⟩:=qn4 hx (k:=q) (by omega)
  rw[e1,qt6 e2,aD (n:=(q:Int)-1) (by omega) (by omega)]
  refine cZ (SP hW.1 (by rw[List.length_append];omega)) fun w2 ⟨v2,r⟩=>⟨⟨q,v2,ys++[x/((2^q:Nat):Int)%2],rfl,by omega,?_,?_⟩,by dsimp only;omega⟩
  ·rw[hb,xC];simp
  ·rw[qsW]at r
   rw[←gY];exact hW.trans r
 ·obtain rfl:j=0:=by omega
  rw[hb,xC,iW];exact hW
def N4(n:Int):Nat:=(if 4096<n then 4096 else n).toNat
theorem qkc(n:Int):N4 n≤4096:=by unfold N4;split<;>omega
theorem qpc(n:Int):(if 0>(if 4096<n then 4096 else n)then 0 else(if 4096<n then 4096 else n))=(N4 n:Int):=by unfold N4;split<;>split<;>omega
theorem qjX{ad:Addr}{v:Value}{bs:List Int}{n:Int}{w:World}(h:Wb w ad v bs)(hl:bs.length+5000≤10000000000):
  Calls P rB #[aH ad,aB n] w (fun e w'=>e=bP #[]∧∃v',WbS w w' ad v v' (bs++(List.replicate (N4 n) 1++[0]))):=by
 refine CI ?_
 rw[qpc]
 have:=qkc n
 refine⟨fun i w1=>∃(j:Nat) (v':Value),i=j∧j≤N4 n∧WbS w w1 ad v v' (bs++List.replicate j 1),fun i _=>N4 n-i.toNat,⟨0,v,rfl,by omega,by simpa using h.step⟩,?_⟩
 rintro _ i w1 ⟨j,v',rfl,hj,hW⟩
 refine aG (fun cR=>?_) (fun r=>?_)
 ·rw[aD (n:=(j:Int)+1) (by omega) (by omega)]
  refine cZ (SP hW.1 (by simp;omega)) fun w2 ⟨v2,q⟩=>⟨⟨j+1,v2,by omega,by omega,?_⟩,by dsimp only;omega⟩
  rw[List.replicate_succ',←gY];exact hW.trans q
 ·have:j=N4 n:=by omega
  subst this
  refine cZ (SP hW.1 (by simp;omega)) fun w2 ⟨v2,q⟩=>⟨rfl,v2,?_⟩
  rw[←gY];exact hW.trans q
theorem qia{ad:Addr}{v:Value}{bs:List Int}{w:World}(h:Wb w ad v bs)(hl:bs.length≤10000000000):Calls P rA #[aH ad] w (fun e w'=>∃y,e=aW y∧Ev w w'∧∃xs,ON .u8 eB w' w.heap.size y xs∧Packs xs bs):=by
 obtain⟨xs,hS,r,hv,q⟩:=h
 have:=q.1
 refine CH (fO (iR (aC (dV (v:=v) (hS.cell (j:=0) rfl) (lS (ON.nil .u8 eB w w.heap.size) r.nm (by simp;omega) (cJ _) fun y w' u hc hm=>⟨y,rfl,?_,xs,by simpa using u,q⟩)))))
 exact hc.mono fun _ _ _ hh=>by cases hh
section
theorem Nm.ch'{k:IntKind}{S:SS}{w w':World}{v:Value}{xs:List Int}(h:Nm k w v xs)(hc:Ch S w w')(hs:xs≠[]→∀g i,v.ownBlock=some g→¬S g i):Nm k w' v xs:=by
 by_cases hx:xs=[]
 ·subst hx
  obtain⟨⟨a,c,rfl,h1,h2,h3,h4⟩,q⟩:=h
  exact⟨⟨a,c,rfl,h1,h2,fun ad ha j u hj=>by simp at hj,h4⟩,q⟩
 ·exact h.ch hc (hs hx)
def PR(w:World)(ad:Addr)(b:Value)(xs:List Int)(a:Nat)(er:Int):Prop:=St w ad [b,aB a,aB er]∧Nm .u8 w b xs∧(xs≠[]→b.ownBlock≠some ad.block)∧a≤8*xs.length∧xs.length≤1000000000
theorem PR.ch{S:SS}{w w':World}{ad:Addr}{b:Value}{xs:List Int}{a:Nat}{er:Int}(h:PR w ad b xs a er)(hc:Ch S w w')(hs:∀k i,(k=ad.block∨b.ownBlock=some k)→¬S k i):PR w' ad b xs a er:=
 ⟨h.1.ch hc fun _ _=>hs _ _ (.inl rfl),h.2.1.ch hc fun g i hg=>hs g i (.inr hg),h.2.2⟩
theorem PR.ev{w w':World}{ad:Addr}{b:Value}{xs:List Int}{a:Nat}{er:Int}(h:PR w ad b xs a er)(he:Ev w w'):PR w' ad b xs a er:=⟨h.1.ev he,h.2.1.ev he,h.2.2⟩
theorem PR.drew{w:World}{ad:Addr}{b:Value}{xs:List Int}{a:Nat}{er:Int}(h:PR w ad b xs a er):PR w.drew ad b xs a er:=h
def PS(w w':World)(ad:Addr)(b:Value)(xs:List Int)(a:Nat)(er:Int):Prop:=PR w' ad b xs a er∧Ch (Rg ad 3) w w'
theorem PS.trans{w w1 w2:World}{ad:Addr}{b:Value}{xs:List Int}{a a2:Nat}{er er2:Int}(h:PS w w1 ad b xs a er)(h2:PS w1 w2 ad b xs a2 er2):PS w w2 ad b xs a2 er2:=⟨h2.1,Ch.trans h.2 h2.2 fun _ _ _ h=>h⟩
theorem PS.ev{w w1 w2:World}{ad:Addr}{b:Value}{xs:List Int}{a:Nat}{er:Int}(h:PS w w1 ad b xs a er)(he:Ev w1 w2):PS w w2 ad b xs a er:=⟨h.1.ev he,Ch.trans h.2 he fun _ _ _ h=>h.elim⟩
theorem PS.pre{w w1 w2:World}{ad:Addr}{b:Value}{xs:List Int}{a:Nat}{er:Int}(he:Ev w w1)(h:PS w1 w2 ad b xs a er):PS w w2 ad b xs a er:=⟨h.1,Ch.trans (he.mono fun _ _ _ h=>h.elim) h.2 fun _ _ _ h=>h⟩
theorem PR.step{w:World}{ad:Addr}{b:Value}{xs:List Int}{a:Nat}{er:Int}(h:PR w ad b xs a er):PS w w ad b xs a er:=⟨h,Ch.refl _ w⟩
theorem PR.set{w w':World}{ad:Addr}{b:Value}{xs:List Int}{a:Nat}{er:Int}(h:PR w ad b xs a er){j:Nat}{u:Value}{a2:Nat}{er2:Int}(hj:j<3)(hc:Ch (Rg (ad.add j) 1) w w')
  (hS:St w' ad ([b,aB a,aB er].set j u)) (he:([b,aB a,aB er]:List Value).set j u=[b,aB a2,aB er2]) (ha:a2≤8*xs.length):PS w w' ad b xs a2 er2:=by
 have hc3:Ch (Rg ad 3) w w':=hc.mono fun n i _ hh=>by
  have h1:=hh.1;have h2:=hh.2
  rw[Addr.add_none h.1.1]at h1 h2
  exact⟨h1,by dsimp only at h2;omega,by dsimp only at h2;omega⟩
 exact⟨⟨he▸hS,h.2.1.ch' hc3 fun hx g i hg hh=>h.2.2.1 hx (by rw[hg,hh.1]),h.2.2.1,ha,h.2.2.2.2⟩,hc3⟩
section
variable {ad:Addr} {b:Value} {xs:List Int} {a:Nat} {er:Int} {w:World}
theorem qkV(h:PR w ad b xs a er):Calls P uK #[aH ad] w (fun e w'=>e=aW (aB (8*(xs.length:Int)-a))∧Ev w w'):=by
 have h1:=h.2.2.2.1
 have h2:=h.2.2.2.2
 refine HL (fO (iR (aC (dE (mM (h.1.cell (j:=0) rfl)) (aP h.2.1 (aC (aN (mM (h.1.cell (j:=1) rfl)) ⟨?_,Ev.drew0 w⟩)))))))
 rw[aD (n:=8*(xs.length:Int)) (by omega) (by omega),aD (by omega) (by omega)]
theorem qnB(h:PR w ad b xs a er):Calls P xU #[aH ad] w (fun e w'=>e=aW (aB er)∧w'=w):=
 KJ (fO (iR (aC (bG (h.1.cell (j:=2) rfl) ⟨rfl,rfl⟩))))
theorem qqo{x:Int}{r:Nat}(hx:0≤x∧x<256)(j:r≤8):i64 (xS .u8 (cV .u8 x r) 1)=x/((2^r:Nat):Int)%2:=by
 have h0:0≤x/((2^r:Nat):Int):=QS hx.1 (GJ _)
 have h1:=ZM (a:=x) ((2^r:Nat):Int) hx.1
 rw[uH (by have:IntKind.u8.bits=8:=rfl;omega) hx.1]
 have:=E2 (k:=.u8) (a:=x/((2^r:Nat):Int)) (m:=1) (n:=1) rfl h0 (by rw[show(2:Int)^IntKind.u8.bits=256 by decide];omega) rfl (by decide)
 rw[show((1:Nat):Int)=1 from rfl]at this
 rw[this,show((2^1:Nat):Int)=2 from rfl,aD (by omega) (by omega)]
theorem qaP(h:PR w ad b xs a er)(ha:a<8*xs.length):Calls P oY #[aH ad] w (fun e w'=>e=aW (aB (yT xs a))∧PS w w' ad b xs (a+1) er):=by
 have h2:=h.2.2.2.2
 have C:i64 (7-Int.tmod (a:Int) 8)=((7-a%8:Nat):Int):=by rw[N0 (by omega),aD (by omega) (by omega)];omega
 have A:i64 (Int.tdiv (a:Int) 8)=((a/8:Nat):Int):=by rw[sH (by omega),aD (by omega) (by omega)];omega
 refine HM (aC (dE (mM (h.1.cell (j:=0) rfl)) (aC (aN (mM (h.1.cell (j:=1) rfl)) ?_))))
 rw[A]
 refine dL h.2.1 (by omega) (by omega) fun a1 u _=>aN (mM u) (aC (aN (mM (h.1.cell (j:=1) rfl)) ?_))
 rw[C]
 refine pL (by omega) (aC (bG (h.drew.1.cell (j:=1) rfl) (aC (iP h.drew.1 (j:=1) (by simp) rfl rfl fun w2 r _ q=>⟨?_,?_⟩))))
 ·rw[qqo (jB h.2.1.2 _) (by omega)];rfl
 ·exact PS.pre (Ev.drew0 w) (h.drew.set (j:=1) (a2:=a+1) (er2:=er) (by decide) r q (by rw[aD (by omega) (by omega)];rfl) (by omega))
def PO(len a:Nat)(er n:Int):Int:=if er=0∧8*(len:Int)-a<n then 3 else er
theorem qeT{n:Int}(h:PR w ad b xs a er):Calls P qL #[aH ad,aB n] w (fun e w'=>e=aW (.bool (PO xs.length a er n==0))∧PS w w' ad b xs a (PO xs.length a er n)):=by
 refine KL ⟨fun w'=>PS w w' ad b xs a (PO xs.length a er n),aC (bG (h.1.cell (j:=2) rfl) (cN (fun q=>bQ (qkV h) fun w1 h1=>aG (fun cR=>aC ?_) (fun u=>?_)) (fun q=>?_))),fun _ w3 h3=>?_⟩
 ·refine iP (h.ev h1).1 (j:=2) (by simp) rfl rfl fun w2 A _ r=>?_
  unfold PO;rw[if_pos ⟨q,cR⟩]
  exact PS.pre h1 ((h.ev h1).set (j:=2) (a2:=a) (er2:=3) (by decide) A r rfl h.2.2.2.1)
 ·unfold PO;rw[if_neg (fun hh=>u hh.2)];exact h.step.ev h1
 ·unfold PO;rw[if_neg (fun hh=>q hh.1)];exact h.step
 ·exact aC (bG (h3.1.1.cell (j:=2) rfl) ⟨rfl,h3⟩)
def RB(w:World)(rad pad:Addr)(b:Value)(xs:List Int)(a:Nat)(er:Int):Prop:=St w rad [aH pad]∧PR w pad b xs a er∧rad.block≠pad.block
variable {rad pad:Addr}
theorem RB.to{w':World}{a2:Nat}{er2:Int}(h:RB w rad pad b xs a er)(hs:PS w w' pad b xs a2 er2):RB w' rad pad b xs a2 er2:=⟨h.1.ch hs.2 fun _ _ hh=>h.2.2 hh.1,hs.1,h.2.2⟩
theorem qgY(h:RB w rad pad b xs a er):Calls P mU #[aH rad] w (fun e w'=>e=aW (aH pad)∧w'=w):=
 KI (fO (iR (aC (fJ (h.1.cell (j:=0) rfl) ⟨rfl,rfl⟩))))
def U5(xs:List Int)(a:Nat):Nat→Int
 |0=>0
 |k+1=>U5 xs a k*2+yT xs (a+k)
theorem U6(xs:List Int)(a:Nat):∀k,0≤U5 xs a k∧U5 xs a k<((2^k:Nat):Int)
 |0=>by simp [U5]
 |k+1=>by
  have h1:=U6 xs a k
  have h2:=qdD xs (a+k)
  have e:((2^(k+1):Nat):Int)=((2^k:Nat):Int)*2:=by rw[Nat.pow_succ,rM];rfl
  rw[e,U5];omega
theorem qqn{v x:Int}{j:Nat}(hv:0≤v∧v<((2^j:Nat):Int))(hj:j<32)(hx:x=0∨x=1):L3 .u32 (qY .u32 v 1) (vX x)=v*2+x:=by
 have hq:((2^j:Nat):Int)≤((2147483648:Nat):Int):=Int.ofNat_le.2 (nJ (GI (by decide) (show j≤31 by omega)) (by decide))
 have e1:=HC (k:=.u32) (a:=v) (n:=1) rfl (by decide) hv.1
 rw[show((1:Nat):Int)=1 from rfl,qlZ,show((2^1:Nat):Int)=2 from rfl,ZE (by omega) (by show _<(4294967296:Int);omega)]at e1
 have e2:=qem (k:=.u32) (a:=x) (b:=v) (m:=1) rfl (by omega) (by rw[show((2^1:Nat):Int)=2 from rfl];omega) hv.1 (by rw[qlZ,show((2^1:Nat):Int)=2 from rfl];show _<(4294967296:Int);omega)
 rw[show((2^1:Nat):Int)=2 from rfl]at e2
 rw[e1,show vX x=x by rw[yP];omega,e2];omega
def E8(xs:List Int)(a:Nat)(er n:Int):Int×Nat×Int:=if er≠0 then(0,a,er)else if 8*(xs.length:Int)-a<xN n then(0,a,3)else(U5 xs a (xN n),a+xN n,0)
theorem qf1{n:Int}(h:RB w rad pad b xs a er):Calls P lB #[aH rad,aB n] w (fun e w'=>e=aW (.int .u32 (E8 xs a er n).1)∧PS w w' pad b xs (E8 xs a er n).2.1 (E8 xs a er n).2.2):=by
 have:=qbI n
 refine EV ?_
 rw[qs0]
 refine⟨fun w'=>er=0∧¬8*(xs.length:Int)-a<xN n∧PS w w' pad b xs a 0,?_,?_⟩
 ·refine VJ (qgY h) (fO (oP (aC (fJ (h.1.cell (j:=0) rfl) (gC (qeT h.2.1) fun w1 h1=>?_)))))
  unfold PO E8 at*
  by_cases he:er=0
  ·by_cases cR:8*(xs.length:Int)-a<xN n
   ·rw[if_pos ⟨he,cR⟩]at h1⊢
    rw[if_neg (by omega),if_pos cR]
    exact qS ⟨rfl,h1⟩
   ·rw[if_neg (fun hh=>cR hh.2)]at h1⊢
    subst he
    exact iR ⟨rfl,cR,h1⟩
  ·rw[if_neg (fun hh=>he hh.1)]at h1⊢
   rw[if_pos he,show(er==0)=false by simpa using he]
   exact qS ⟨rfl,h1⟩
 ·rintro _ w3 ⟨rfl,q,h3⟩
  unfold E8
  rw[if_neg (show ¬((0:Int)≠0)by simp),if_neg q]
  refine⟨fun v i w'=>∃j:Nat,i=j∧j≤xN n∧v=U5 xs a j∧PS w w' pad b xs (a+j) 0,fun _ i _=>xN n-i.toNat,⟨0,rfl,by omega,rfl,h3⟩,?_⟩
  rintro _ v i w4 ⟨j,rfl,hj,rfl,h4⟩
  have r:=h.to h4
  refine aG (fun cR=>aC (fJ (r.1.cell (j:=0) rfl) (bQ (qaP r.2.1 (by omega)) fun w5 h5=>?_))) (fun u=>?_)
  ·rw[qqn (U6 xs a j) (by omega) (qdD xs (a+j)),aD (n:=(j:Int)+1) (by omega) (by omega)]
   exact⟨⟨j+1,by omega,by omega,rfl,h4.trans h5⟩,by dsimp only;omega⟩
  ·rw[show xN n=j by omega];exact⟨rfl,h4⟩
theorem ql1(n:Int):0≤(E8 xs a er n).1∧(E8 xs a er n).1<4294967296:=by
 unfold E8
 split
 ·simp
 ·split
  ·simp
  ·have h1:=U6 xs a (xN n)
   have h2:((2^xN n:Nat):Int)≤((4294967296:Nat):Int):=Int.ofNat_le.2 (nJ (GI (by decide) (qbI n)) (by decide))
   dsimp only;omega
def uL(xs:List Int)(a:Nat)(most:Int):Nat→Nat→Int×Nat×Int
 |0,_=>(0,a,3)
 |f+1,n=>if(n:Int)≥most then(n,a+n,0)else if 8*xs.length≤a+n then(0,a,3)else if yT xs (a+n)=0 then(n,a+n+1,0)else uL xs a most f (n+1)
def vS(xs:List Int)(a:Nat)(er most:Int):Int×Nat×Int:=if er≠0 then(0,a,er)else uL xs a most (8*xs.length+1-a) 0
theorem qoV{most:Int}(h:RB w rad pad b xs a er):Calls P qZ #[aH rad,aB most] w (fun e w'=>e=aW (aB (vS xs a er most).1)∧PS w w' pad b xs (vS xs a er most).2.1 (vS xs a er most).2.2):=by
 have ha:=h.2.1.2.2.2.1
 have hl:=h.2.1.2.2.2.2
 refine CG ⟨fun w'=>er=0∧w'=w,?_,?_⟩
 ·refine VJ (qgY h) (fO (oP (aC (fJ (h.1.cell (j:=0) rfl) (aC (bG (h.2.1.1.cell (j:=2) rfl) (cA (fun J=>?_) (fun he=>⟨he,rfl⟩))))))))
  unfold vS;rw[if_pos J];exact⟨rfl,h.2.1.step⟩
 rintro _ _ ⟨rfl,rfl⟩
 rename_i w
 unfold vS
 rw[if_neg (show ¬((0:Int)≠0)by simp)]
 refine aC (fJ (h.1.cell (j:=0) rfl) (aC (bG (h.2.1.1.cell (j:=1) rfl) ?_)))
 refine⟨fun i w'=>∃n:Nat,i=n∧a+n≤8*xs.length∧uL xs a most (8*xs.length+1-a-n) n=uL xs a most (8*xs.length+1-a) 0∧PS w w' pad b xs (a+n) 0,fun i _=>8*xs.length+1-i.toNat,⟨0,rfl,by omega,rfl,h.2.1.step⟩,?_⟩
 rintro _ i w3 ⟨n,rfl,hn,hu,h3⟩
 rw[show 8*xs.length+1-a-n=(8*xs.length-a-n)+1 by omega,uL]at hu
 rw[←hu]
 have u:=h.to h3
 refine aG (fun I=>?_) (fun cR=>?_)
 ·rw[if_pos I];exact⟨rfl,h3⟩
 rw[if_neg cR]
 refine aC (fJ (u.1.cell (j:=0) rfl) (gC (qeT u.2.1) fun w4 h4=>?_))
 unfold PO at h4⊢
 by_cases r:8*xs.length≤a+n
 ·rw[if_pos ⟨rfl,by omega⟩]at h4⊢
  rw[if_pos r]
  have q:=u.to h4
  refine qS (aC (fJ (q.1.cell (j:=0) rfl) (aC (iP q.2.1.1 (j:=1) (by simp) rfl rfl fun w5 h5 _ C=>⟨rfl,?_⟩))))
  exact(h3.trans h4).trans (q.2.1.set (j:=1) (a2:=a) (er2:=3) (by decide) h5 C rfl ha)
 ·rw[if_neg (by omega)]at h4⊢
  rw[if_neg r]
  have q:=u.to h4
  refine iR (aC (fJ (q.1.cell (j:=0) rfl) (bQ (qaP q.2.1 (by omega)) fun w5 h5=>cN (fun A=>?_) (fun A=>?_))))
  ·rw[if_pos A];exact⟨rfl,(h3.trans h4).trans h5⟩
  ·rw[aD (n:=(n:Int)+1) (by omega) (by omega)]
   rw[if_neg A]
   exact⟨⟨n+1,by omega,by omega,by congr 1;omega,(h3.trans h4).trans h5⟩,by dsimp only;omega⟩
theorem qsM(h:RB w rad pad b xs a er):Calls P uJ #[aH rad] w (fun e w'=>e=aW (aB er)∧w'=w):=
 HJ (VJ (qgY h) (bX (qnB h.2.1) ⟨rfl,rfl⟩))
end
end
section
section
variable {ad:Addr} {b:Value} {xs:List Int} {a:Nat} {er:Int} {w:World}
end
end
noncomputable def pkB(bs:List Int):List Int:=open Classical in if h:∃xs,inR .u8 xs∧Packs xs bs then h.choose else []
theorem qnH{xs bs:List Int}(h1:inR .u8 xs)(h2:Packs xs bs):pkB bs=xs:=by
 have h:∃xs,inR .u8 xs∧Packs xs bs:=⟨xs,h1,h2⟩
 unfold pkB
 rw[dif_pos h]
 exact h.choose_spec.2.uniq h.choose_spec.1 h1 h2
def QY(v:Int)(k:Nat):List Int:=if oD v/((2^k:Nat):Int)<24 then List.replicate (oD v/((2^k:Nat):Int)).toNat 1++[0]++xC (oD v) k else List.replicate 24 1++xC (oD v) 32
def JH(v:Int)(k:Nat):Int:=if oD v/((2^k:Nat):Int)<24 then oD v/((2^k:Nat):Int)+1+k else 56
def A5(k:Nat):List Int→Int
 |[]=>0
 |v::l=>JH v k+A5 k l
theorem qmC(v:Int):0≤oD v:=by unfold oD;split<;>omega
theorem qiJ{v:Int}(h: -2147483648≤v∧v≤2147483647):0≤oD v∧oD v<4294967296:=by unfold oD;split<;>omega
theorem qiI(v:Int)(k:Nat):0≤oD v/((2^k:Nat):Int):=QS (qmC v) (GJ _)
theorem UV(v:Int){k:Nat}(hk:k≤24):0≤JH v k∧JH v k≤56:=by
 have:=qiI v k
 unfold JH;split<;>omega
theorem qdS{k:Nat}(hk:k≤24):∀l:List Int,0≤A5 k l∧A5 k l≤56*l.length
 |[]=>by simp [A5]
 |v::l=>by
  have h1:=UV v hk
  have h2:=qdS hk l
  simp only[A5,iO];omega
theorem qao(k:Nat)(v:Int):∀l:List Int,A5 k (l++[v])=A5 k l+JH v k
 |[]=>by simp [A5]
 |u::l=>by simp only[List.cons_append,A5,qao k v l];omega
theorem qeF(v:Int)(k:Nat):((QY v k).length:Int)=JH v k:=by
 have:=qiI v k
 unfold QY JH
 generalize oD v/((2^k:Nat):Int)=q at*
 split<;>simp [xL]<;>omega
def PB(l:List Int):Nat→Nat
 |0=>0
 |k+1=>if A5 (k+1) l<A5 (PB l k) l then k+1 else PB l k
theorem qdC(l:List Int):∀k,PB l k≤k
 |0=>cJ _
 |k+1=>by
  have:=qdC l k
  unfold PB;split<;>omega
def tX(l:List Int):Nat:=PB l 24
theorem UG(l:List Int):tX l≤24:=qdC l 24
def fI(l:List Int)(j:Nat):List Int:=(l.drop (j*64)).take 64
def kOf(l:List Int)(i:Nat):Nat:=tX (fI l (i/64))
theorem qrY(l:List Int)(i:Nat):kOf l i≤24:=UG _
def XQ(l:List Int)(i:Nat):List Int:=(if i%64=0 then xC (kOf l i) 5 else [])++QY (rd l i) (kOf l i)
def lO(l:List Int):Nat→List Int
 |0=>[]
 |m+1=>lO l m++XQ l m
theorem qk0(l:List Int)(i:Nat):(XQ l i).length≤56+(if i%64=0 then 5 else 0):=by
 have h1:=qeF (rd l i) (kOf l i)
 have h2:=UV (rd l i) (qrY l i)
 unfold XQ
 rw[bD]
 split<;>simp [xL]<;>omega
theorem IJ(l:List Int):∀m,(lO l m).length≤56*m+5*((m+63)/64)
 |0=>by simp [lO]
 |m+1=>by
  have h1:=qk0 l m
  have h2:=IJ l m
  rw[lO,bD]
  split at h1<;>omega
def vM(p:List Int)(k:Nat):Nat→List Int
 |0=>[]
 |t+1=>vM p k t++QY (rd p t) k
theorem qjm{l:List Int}{j t:Nat}(ht:t<64):rd (fI l j) t=rd l ((64*j+t:Nat):Int):=by
 unfold rd fI
 rw[dH,dH,lH,lH,vW,if_pos ht,QO]
 congr 2;omega
theorem qaQ(l:List Int)(j:Nat):∀t,t<64→lO l (64*j+(t+1))=lO l (64*j)++xC (tX (fI l j)) 5++vM (fI l j) (tX (fI l j)) (t+1)
 |0,h=>by
  rw[show 64*j+(0+1)=64*j+1 from rfl,lO]
  unfold XQ kOf
  rw[if_pos (by omega),show 64*j/64=j by omega]
  simp only[vM,sG]
  rw[qjm (by omega)];simp
 |t+1,h=>by
  rw[show 64*j+(t+1+1)=(64*j+(t+1))+1 from rfl,lO,qaQ l j t (by omega)]
  unfold XQ kOf
  rw[if_neg (by omega),show(64*j+(t+1))/64=j by omega,sG]
  show _=_++(vM _ _ (t+1)++QY (rd (fI l j) ((t+1:Nat):Int)) _)
  rw[qjm (by omega)];simp
def unf(u:Int):Int:=lT (qda u)
def CE(xs:List Int)(a:Nat)(er:Int)(k:Nat):Int×Nat×Int:=
 let q:=vS xs a er 24
 if q.1=24 then(unf (E8 xs q.2.1 q.2.2 32).1,(E8 xs q.2.1 q.2.2 32).2)else(unf (L3 .u32 (qY .u32 q.1 k) (E8 xs q.2.1 q.2.2 k).1),(E8 xs q.2.1 q.2.2 k).2)
def xF(xs:List Int)(i k a:Nat):Int×Nat×Int:=if i%64=0 then E8 xs a 0 5 else((k:Int),a,0)
def qn9(xs:List Int)(i k a:Nat):Option (Int×Nat×Nat):=
 let r:=xF xs i k a
 let q:=CE xs r.2.1 r.2.2 (min r.1.toNat 24)
 if q.2.2≠0 then none else some (q.1,r.1.toNat,q.2.1)
def M2(lim:Bool)(xs:List Int):Nat→Nat→Nat→Nat→Option (List Int)
 |0,_,_,_=>some []
 |f+1,i,k,a=>match qn9 xs i k a with
  |none=>none
  |some (v,j,q)=>if lim=true∧24<j then none else(M2 lim xs f (i+1) j q).map (v:: ·)
noncomputable def rK(lim:Bool)(xs:List Int)(n:Int):List Int×Int:=
 if n<0 then([],1)else if n>1048576 then([],5)else match M2 lim xs n.toNat 0 0 0 with
  |none=>([],4)
  |some l=>if pkB (lO l l.length)=xs then(l,0)else([],4)
def hasAt(xs:List Int)(a:Nat)(bs:List Int):Prop:=a+bs.length≤8*xs.length∧∀k,k<bs.length→yT xs (a+k)=bs.getD k 0
theorem hasAt.left{xs:List Int}{a:Nat}{bs cs:List Int}(h:hasAt xs a (bs++cs)):hasAt xs a bs:=by
 obtain⟨h1,h2⟩:=h
 rw[bD]at h1 h2
 refine⟨by omega,fun k hk=>?_⟩
 rw[h2 k (by omega),lH,lH,T8 hk]
theorem hasAt.right{xs:List Int}{a:Nat}{bs cs:List Int}(h:hasAt xs a (bs++cs)):hasAt xs (a+bs.length) cs:=by
 obtain⟨h1,h2⟩:=h
 rw[bD]at h1 h2
 refine⟨by omega,fun k hk=>?_⟩
 rw[Nat.add_assoc,h2 (bs.length+k) (by omega),lH,lH,T9 (by omega),MB]
theorem qop(xs:List Int)(a:Nat){most:Int}(hm:0≤most):∀(f n:Nat),(n:Int)≤most→0≤(uL xs a most f n).1∧(uL xs a most f n).1≤most
 |0,n,h=>by simp [uL,hm]
 |f+1,n,h=>by
  unfold uL
  split
  ·exact⟨GJ _,h⟩
  ·split
   ·exact⟨by simp,hm⟩
   ·split
    ·exact⟨GJ _,h⟩
    ·exact qop xs a hm f (n+1) (by omega)
theorem qh4(xs:List Int)(a:Nat)(er:Int):0≤(vS xs a er 24).1∧(vS xs a er 24).1≤24:=by
 unfold vS
 split
 ·simp
 ·exact qop xs a (by decide) _ 0 (by decide)
theorem hasAt.to{xs:List Int}{l:List Int}{n:Nat}(h:hasAt xs 0 (lO l n)):∀i,i<n→hasAt xs (lO l i).length (XQ l i):=by
 induction n with
 |zero=>intro i hi;omega
 |succ n j=>
  intro i hi
  rw[lO]at h
  by_cases e:i=n
  ·subst e
   have:=h.right
   rwa [vV]at this
  ·exact j h.left i (by omega)
theorem qaT{lim:Bool}{xs:List Int}:∀(f i k a:Nat) {l:List Int},M2 lim xs f i k a=some l→l.length=f
 |0,i,k,a,l,h=>by injection h with h;subst h;rfl
 |f+1,i,k,a,l,h=>by
  rw[M2]at h
  split at h
  ·cases h
  ·split at h
   ·cases h
   ·rw[QP]at h
    obtain⟨r,j,rfl⟩:=h
    rw[iO,qaT f _ _ _ j]
theorem qmQ(n:Int): -2147483648≤lT n∧lT n≤2147483647:=by rw[L2];omega
theorem qkP(xs:List Int)(a:Nat)(er:Int)(k:Nat): -2147483648≤(CE xs a er k).1∧(CE xs a er k).1≤2147483647:=by
 unfold CE
 dsimp only
 split<;>exact qmQ _
theorem qtB{l:List Int}(h:∀x∈l, -2147483648≤x∧x≤2147483647)(i:Nat): -2147483648≤rd l i∧rd l i≤2147483647:=by
 by_cases hi:i<l.length
 ·exact h _ (OG (by omega) (by omega))
 ·unfold rd;rw[dH,lH,I4 (by omega)];decide
theorem Packs.has{xs bs:List Int}(h:Packs xs bs):hasAt xs 0 bs:=⟨by have:=h.1;omega,fun k hk=>by rw[vV];exact h.2 k (by have:=h.1;omega)⟩
section
section
variable {w0 w:World} {F:List It} {s:Value} {xs:List Int} {n:Nat} {a b:Addr}
theorem qjJ{K:Value→World→Prop}(h:Fr w0 w F)(hs:s.cells= #[s])(hn:1≤n)(hk:∀a b w',Fr w0 w' (aT b [aB (n:Int)]::aT a [s]::F)→K (.func (.func dZ) #[] #[aH a,aH b]) w'):
  aE P lE dM #[s,aB (n:Int)] w K:=by
 refine aO (R:=fun e w'=>∃a b,e=aW (.func (.func dZ) #[] #[aH a,aH b])∧Fr w0 w' (aT b [aB (n:Int)]::aT a [s]::F)) (D3 (mL h fun a w1 q=>mL q fun b w2 j=>?_)) ?_
 ·rw[hs]at j
  have hc:=j.cell 0 0 rfl rfl
  rw[Addr.add_zero']at hc
  exact bG hc (aG (fun h=>by omega) fun _=>⟨a,b,rfl,j⟩)
 ·rintro _ w' ⟨a,b,rfl,f⟩
  exact⟨_,rfl,hk a b w' f⟩
def KpC(a b:Addr)(s:Value)(n:Nat)(A B:World):Prop:=(A.cell? a=some s→B.cell? a=some s)∧(A.cell? b=some (aB (n:Int))→B.cell? b=some (aB (n:Int)))
theorem qdP(hs:Nm .i32 w s xs)(hl:xs.length≤1000000000)(hn:1≤n)(al:n≤1000000)(ha:w.cell? a=some s)(hb:w.cell? b=some (aB (n:Int))):
  SeqStopsK Fence.wide 4 P dZ #[aH a,aH b] (fun j:Nat=> #[chV n s xs.length j]) (KpC a b s n) (fun ys=>ys=List.range (chN n xs.length)) (fun _=>True) (chN n xs.length) w:=by
 intro l J Jx W hW hJ ah hY h0
 refine callsIn_wide.2 ?_
 have sl:=hs.shape
 obtain⟨sa,sc,ae,ac⟩:=sl
 have Z:=(hW.cell (p:=a) (World.block_lt_of_cell? w _ ha)).trans ha
 have aa:=(hW.cell (p:=b) (World.block_lt_of_cell? w _ hb)).trans hb
 show Calls P dZ #[.func (.yield l) #[] #[],aH a,aH b] W _
 refine zD ⟨fun i w'=>∃j:Nat,i=((j*n:Nat):Int)∧j≤chN n xs.length∧J (List.range j) w'∧KpC a b s n W w',fun i _=>xs.length-i.toNat,⟨0,by simp,by omega,h0,id,id⟩,?_⟩
 rintro _ i w1 ⟨j,rfl,hj,C,M⟩
 have q:=M.1 Z
 have O:=M.2 aa
 have A:=V1 (len:=xs.length) (j:=j) hn
 subst ae
 refine dV q (V9 (aG (fun cR=>?_) (fun ak=>?_)))
 ·have u:j*n<xs.length:=by omega
  refine aN (mM O) (dE (mM q) (iD (sz:=1) (l:=j*n) (h:=xs.length) (.inr ⟨_,rfl⟩) (.inl ⟨rfl,rfl⟩) (by omega) ac ?_ (by kernel_rfl)))
  refine V9 ?_
  have V:(if((xs.length-j*n:Nat):Int)<(n:Int)then((xs.length-j*n:Nat):Int)else(n:Int))=((min (xs.length-j*n) n:Nat):Int):=by split<;>omega
  have U:i64 (((j*n:Nat):Int)+((min (xs.length-j*n) n:Nat):Int))=((min (j*n+n) xs.length:Nat):Int):=by rw[aD (by omega) (by omega)];omega
  rw[V,U]
  refine dV q (qed (sz:=1) (by omega) (by omega) ?_ (by kernel_rfl))
  have ab:QA 1 (.slice sa xs.length sc) (j*n) (min (j*n+n) xs.length)=chV n (.slice sa xs.length sc) xs.length j:=by unfold chV;rw[if_pos (by omega)]
  rw[ab]
  have Y:J (List.range j) w1.drew:=hJ _ w1 w1.drew none C ⟨rfl,rfl,rfl,cJ _,fun _ _ _=>rfl⟩ fun r e=>by cases e
  obtain⟨fn,tmps,tN,bo,hy,hR⟩:=hY (List.range j) j w1.drew Y (by rw[List.length_range];exact A.2 u)
  refine .inr ⟨l,3,rfl,fn,tmps,tN,bo,hy,hR.mono ?_⟩
  rintro e W' (⟨rfl,X,N⟩|⟨rfl,I⟩)
  ·have T:W'.cell? b=some (aB (n:Int)):=N.2 O
   refine⟨true,rfl,V7 (bG T ?_)⟩
   rw[show i64 (((j*n:Nat):Int)+(n:Int))=(((j+1)*n:Nat):Int)by rw[aD (by omega) (by omega),mJ];omega]
   refine⟨⟨j+1,rfl,A.2 u,by rw[List.range_succ];exact X,fun _=>N.1 q,fun _=>T⟩,?_⟩
   dsimp only
   rw[dH,dH,mJ];omega
  ·exact⟨false,rfl,oP ⟨⟨_,rfl⟩,.inr ⟨_,trivial,I⟩⟩⟩
 ·refine⟨⟨_,rfl⟩,.inl ⟨_,rfl,?_⟩⟩
  have:j=chN n xs.length:=by
   have h1:¬j<chN n xs.length:=fun h=>by rw[A]at h;omega
   omega
  rw[←this];exact C
theorem qe6{A:Value→World→(World→Prop)→Prop}{C:Nat→World→Prop}(f:Fr w0 w (aT b [aB (n:Int)]::aT a [s]::F))(hs:Nm .i32 w0 s xs)(hl:xs.length≤1000000000)(hn:1≤n)(X:n≤1000000)
  (Q:List Nat→List It→Prop) (h0:Q [] F)
  (I:∀pre j W G,Q pre G→Fr w0 W (aT b [aB (n:Int)]::aT a [s]::G)→pre.length<chN n xs.length→Nm .i32 W (chV n s xs.length j) (chL n xs j)→(∀g,(chV n s xs.length j).ownBlock=some g→g<w0.heap.size∨chL n xs j=[])→
   ∀K:World→Prop,(∀W' U,KeepsOthers W W'→Q (pre++[j]) U→Fr w0 W' (aT b [aB (n:Int)]::aT a [s]::U)→K W')→A (chV n s xs.length j) W K)
  (J:∀D W G,w.heap.size≤D→Q (List.range (chN n xs.length)) G→Fr w0 W (aT b [aB (n:Int)]::aT a [s]::G)→W.heap[D]?=some (.deferred (some []))→C D W):
  GZ P (.func (.func dZ) #[] #[aH a,aH b]) w A C:=by
 have Y:∀{W:World} {G:List It},Fr w0 W (aT b [aB (n:Int)]::aT a [s]::G)→W.cell? a=some s:=fun f=>by have:=f.cell 1 0 rfl rfl;rwa [Addr.add_zero']at this
 have Z:∀{W:World} {G:List It},Fr w0 W (aT b [aB (n:Int)]::aT a [s]::G)→W.cell? b=some (aB (n:Int)):=fun f=>by have:=f.cell 0 0 rfl rfl;rwa [Addr.add_zero']at this
 refine⟨_,_,rfl,by kernel_rfl,Nat,chV n s xs.length,KpC a b s n,_,_,_,fun pre W=>∃G,Q pre G∧Fr w0 W (aT b [aB (n:Int)]::aT a [s]::G),qdP (hs.ev f.old) hl hn X (Y f) (Z f),fun h k=>⟨fun x=>k.1 (h.1 x),fun x=>k.2 (h.2 x)⟩,?_,?_,⟨F,h0,f⟩,?_,?_⟩
 ·intro W l o o' _ V ho _
  have keep:∀{c:Addr} {u:Value},W.cell? c=some u→(W.putObj l o').cell? c=some u:=fun{c u} hc=>by
   obtain⟨oc,q,O⟩:=cells_of_cell hc
   have:c.block≠l:=fun e=>by rw[e,V]at q;injection q with q;subst q;rw[ho]at O;cases O
   rw[World.cell?_of_block (World.putObj_heap_other this)];exact hc
  exact⟨keep,keep⟩
 ·rintro pre W W' row ⟨G,N,M⟩ hg hr
  exact⟨G,N,M.grown hg fun r e=>⟨nJ f.old.size (hr r e).1,(hr r e).2⟩⟩
 ·rintro pre j W ⟨G,N,M⟩ T
  have hN:=qgC (n:=n) (hs.ev M.old) j
  refine I pre j W G N M T hN (fun g hg=>?_) _ fun W' U h1 h2 h3=>⟨h1,⟨fun _=>Y h3,fun _=>Z h3⟩,U,h2,h3⟩
  by_cases he:xs=[]
  ·right;unfold chL;rw[he];simp
  ·left
   unfold chV at hg
   split at hg
   ·rw[qa4]at hg;exact hs.old he hg
   ·cases hg
 ·rintro D af W hD rfl ⟨G,N,M⟩ hk
  exact J D W G hD N M hk
end
end
section
noncomputable abbrev e32:TypeId:=dD P aM
theorem quf{x:Int}(h: -2147483648≤x∧x≤2147483647):IntKind.i32.min≤x∧x≤IntKind.i32.max:=by simp [IntKind.min,IntKind.max,IntKind.signed,IntKind.bits];omega
theorem qnR{l:List Int}(h:inR .i32 l)(i:Nat): -2147483648≤rd l i∧rd l i≤2147483647:=qtB (fun x hx=>qpA (h x hx)) i
def B01(bs:List Int):Prop:=∀x∈bs,x=0∨x=1
theorem B01.app{cs bs:List Int}(h:B01 cs)(h2:B01 bs):B01 (cs++bs):=fun x hx=>(List.mem_append.1 hx).elim (h x) (h2 x)
theorem B01.bits(v:Int):∀k,B01 (xC v k)
 |0=>fun x hx=>by cases hx
 |k+1=>fun x hx=>by
  rcases List.mem_cons.1 hx with rfl|hx
  ·omega
  ·exact B01.bits v k x hx
theorem B01.ones(n:Nat):B01 (List.replicate n 1):=fun x hx=>.inr (List.eq_of_mem_replicate hx)
theorem B01.num(v:Int)(k:Nat):B01 (QY v k):=by
 unfold QY
 split
 ·exact((B01.ones _).app (fun x hx=>by simp at hx;exact .inl hx)).app (B01.bits _ _)
 ·exact(B01.ones _).app (B01.bits _ _)
theorem B01.pack(l:List Int):∀m,B01 (lO l m)
 |0=>fun x hx=>by cases hx
 |m+1=>(B01.pack l m).app (B01.app (by split;exact B01.bits _ _;exact fun x hx=>by cases hx) (B01.num _ _))
theorem qhE{xs bs:List Int}{b:Int}(hx:inR .u8 xs)(h:Packs xs bs)(hb:b=0∨b=1):∃ys,inR .u8 ys∧Packs ys (bs++[b]):=by
 have hl:=h.1
 obtain⟨zs,h1,h2,h3⟩:∃zs,inR .u8 zs∧zs.length=(bs.length+1+7)/8∧∀k,k<8*zs.length→yT zs k=bs.getD k 0:=by
  by_cases h0:bs.length%8=0
  ·exact⟨xs++[0],fun x j=>(List.mem_append.1 j).elim (hx x) fun h=>by simp at h;subst h;decide,by simp;omega,fun k _=>h.grow h0 k⟩
  ·exact⟨xs,hx,by omega,h.2⟩
 rcases hb with rfl|rfl
 ·exact⟨zs,h1,Packs.zero h2 h3⟩
 ·exact⟨_,(Packs.set h1 h2 h3).2,(Packs.set h1 h2 h3).1⟩
theorem qaR:∀cs:List Int,B01 cs→∃xs,inR .u8 xs∧Packs xs cs.reverse
 |[],_=>⟨[],(fun _ h=>by cases h),Packs.nil⟩
 |b::cs,h=>by
  obtain⟨xs,h1,h2⟩:=qaR cs fun x hx=>h x (lL _ hx)
  rw[List.reverse_cons];exact qhE h1 h2 (h b xJ)
theorem qsc{bs:List Int}(h:B01 bs):inR .u8 (pkB bs)∧Packs (pkB bs) bs:=by
 obtain⟨xs,h1,h2⟩:=qaR bs.reverse fun x hx=>h x (List.mem_reverse.1 hx)
 rw[List.reverse_reverse]at h2
 rw[qnH h1 h2];exact⟨h1,h2⟩
def bIt(ad:Addr)(v:Value)(bs:List Int):It:=⟨fun k=>k=ad.block∨v.ownBlock=some k,fun w=>Wb w ad v bs,fun _ _ ⟨_,h1,h2,_⟩ hk=>by
  rcases hk with hk|hk
  ·rw[hk];exact h1.ce
  ·exact h2.ce hk,fun _ _ _ h hc hs=>h.ch hc fun k i hk=>hs k i hk,fun _ _ ⟨xs,h1,h2,h3,h4⟩ _ hc=>⟨xs,h1.gr hc,h2.gr hc,h3,h4⟩⟩
section
variable {w0 w:World} {F:List It}
theorem Fr.asB(h:Fr w0 w F)(i:Nat){ad:Addr}(hi:F[i]?=some (aT ad [bR,aB 0])):Fr w0 w (F.set i (bIt ad (bR) [])):=
 h.upd (S:=No) i hi (Ch.refl _ w) (fun _ _ h=>h.elim) ⟨[],h.get i hi,ON.nil _ _ _ _,(fun h=>by cases h),Packs.nil⟩ fun k hk=>.inl (by rcases hk with hk|hk;exact hk;cases hk)
theorem Fr.bw{w':World}{ad:Addr}{v v':Value}{xs ys:List Int}(h:Fr w0 w F)(i:Nat)(hi:F[i]?=some (bIt ad v xs))(g:WbS w w' ad v v' ys):Fr w0 w' (F.set i (bIt ad v' ys)):=
 h.upd i hi g.2.1 (fun k _ hh=>.inl hh) g.1 fun k hk=>by
  rcases hk with hk|hk
  ·exact .inl (.inl hk)
  ·rcases g.2.2 with hm|hm
   ·exact .inl (.inr (hm▸hk))
   ·exact .inr (hm k hk)
theorem qpq{P:Program}{t:TypeId}{ad:Addr}{cs:List Value}{u:Value}{K:World→Prop}(h:Fr w0 w F)(i:Nat)(hi:F[i]?=some (aT ad cs))(hk:∀w',Fr w0 w' (F.set i (aT ad (cs.set 0 u)))→K w')(hj:0<cs.length:=by exact qbo rfl)(hu:u.oneCell'=true:=by rfl)(j:u.cells= #[u]:=by rfl)(ht:BM P t=true:=by kernel_rfl):
  aL P t (aH ad) u w K:=by
 have:=dT h i 0 hi hk hj hu j ht
 rwa [Addr.add_zero']at this
theorem Fr.cell0{ad:Addr}{cs:List Value}(h:Fr w0 w F)(i:Nat){u:Value}(hi:F[i]?=some (aT ad cs))(hj:cs[0]?=some u):w.cell? ad=some u:=by
 have:=h.cell i 0 hi hj
 rwa [Addr.add_zero']at this
end
theorem qnL{ad:Addr}{v:Value}{bs:List Int}{x:Int}{k:Nat}{w:World}(h:Wb w ad v bs)(hx: -2147483648≤x∧x≤2147483647)(hk:k≤24)(hl:bs.length+10000≤10000000000):
  Calls P vA #[aH ad,.int .i32 x,aB k] w (fun e w'=>e=bP #[]∧∃v',WbS w w' ad v v' (bs++QY x k)):=by
 have hf:=qiJ hx
 refine IA ?_
 rw[aD (n:=x) (by omega) (by omega)]
 refine bX (qdm (by omega)) (pL (by omega) ?_)
 rw[show vX (oD x)=oD x by rw[yP];omega]
 obtain⟨e1,e2,e3⟩:=qn4 hf (k:=k) (by omega)
 rw[e1]
 unfold QY
 refine aG (fun cR=>aC ?_) (fun r=>?_)
 ·rw[if_pos cR,Addr.add_zero',aD (n:=oD x/_) (by omega) (by omega)]
  refine cZ (qjX h (by omega)) fun w1 ⟨v1,h1⟩=>aC ?_
  have hc:N4 (oD x/((2^k:Nat):Int))=(oD x/((2^k:Nat):Int)).toNat:=by unfold N4;split<;>omega
  rw[Addr.add_zero']
  rw[hc]at h1
  refine cZ (TO h1.1 hf (by rw[bD,bD,sF,N1];omega)) fun w2 ⟨v2,h2⟩=>⟨rfl,v2,?_⟩
  rw[show xN (k:Int)=k by unfold xN;split<;>omega]at h2
  have:=h1.trans h2
  rwa [gY]at this
 ·rw[if_neg r]
  refine⟨fun i w1=>∃(j:Nat) (v':Value),i=j∧j≤24∧WbS w w1 ad v v' (bs++List.replicate j 1),fun i _=>24-i.toNat,⟨0,v,rfl,by omega,by simpa using h.step⟩,?_⟩
  rintro _ i w1 ⟨j,v',rfl,hj,hW⟩
  refine aG (fun cR=>aC ?_) (fun u=>aC ?_)
  ·rw[aD (n:=(j:Int)+1) (by omega) (by omega),Addr.add_zero']
   refine cZ (SP hW.1 (by simp;omega)) fun w2 ⟨v2,q⟩=>⟨⟨j+1,v2,by omega,by omega,?_⟩,by dsimp only;omega⟩
   rw[List.replicate_succ',←gY];exact hW.trans q
  ·obtain rfl:j=24:=by omega
   rw[Addr.add_zero']
   refine cZ (TO hW.1 hf (by simp;omega)) fun w2 ⟨v2,h2⟩=>⟨rfl,v2,?_⟩
   have:=hW.trans h2
   rwa [gY]at this
def ZW(k:Int):Nat:=(if 24<k then 24 else k).toNat
theorem qpb(k:Int):ZW k≤24:=by unfold ZW;split<;>omega
theorem qsZ(k:Int):(if(if 24<k then 24 else k)>0 then(if 24<k then 24 else k)else 0)=(ZW k:Int):=by unfold ZW;split<;>split<;>omega
theorem qpa{k:Nat}(h:k≤24):ZW k=k:=by unfold ZW;split<;>omega
theorem qgG{l:List Int}{j k:Nat}(hj:j<l.length):A5 k (l.take (j+1))=A5 k (l.take j)+JH (rd l j) k:=by
 rw[iV hj,qao,dK l j hj]
theorem qdk{l0:Value}{l:List Int}{k:Int}{w:World}(h:Nm .i32 w l0 l)(hl:l.length≤1000000000):
  Calls P L7 #[l0,aB k] w (fun e w'=>e=aW (aB (A5 (ZW k) l))∧w'=w):=by
 have hk:=qpb k
 refine qcu (aP h ?_)
 rw[qsZ]
 refine⟨fun n i w'=>∃j:Nat,i=j∧j≤l.length∧n=A5 (ZW k) (l.take j)∧w'=w,fun _ i _=>l.length-i.toNat,⟨0,rfl,by omega,rfl,rfl⟩,?_⟩
 rintro _ _ i _ ⟨j,rfl,hj,rfl,rfl⟩
 refine aG (fun cR=>?_) (fun q=>⟨by rw[gI (by omega)],rfl⟩)
 refine dL h (by omega) cR fun ad c _=>bG c ?_
 have hx:=qnR h.2 j
 have hf:=qiJ hx
 rw[aD (n:=rd l j) (by omega) (by omega)]
 refine bX (qdm (by omega)) (pL (by omega) ?_)
 rw[show vX (oD (rd l j))=oD (rd l j)by rw[yP];omega]
 obtain⟨e1,e2,e3⟩:=qn4 hf (k:=ZW k) (by omega)
 rw[e1]
 have hb:=qdS hk (l.take j)
 rw[eJ,vU hj]at hb
 have hs:=qgG (l:=l) (k:=ZW k) (j:=j) (by omega)
 unfold JH at hs
 rw[aD (n:=(j:Int)+1) (by omega) (by omega)]
 refine aG (fun hq=>?_) (fun hq=>?_)
 ·rw[if_pos hq]at hs
  rw[aD (n:=oD _/_) (by omega) (by omega),aD (n:=oD _/_+1) (by omega) (by omega),aD (n:=oD _/_+1+_) (by omega) (by omega),aD (by omega) (by omega)]
  exact⟨⟨j+1,by omega,by omega,hs.symm,rfl⟩,by dsimp only;omega⟩
 ·rw[if_neg hq]at hs
  rw[aD (by omega) (by omega)]
  exact⟨⟨j+1,by omega,by omega,hs.symm,rfl⟩,by dsimp only;omega⟩
theorem qlE{l0:Value}{l:List Int}{w:World}(h:Nm .i32 w l0 l)(hl:l.length≤1000000000):
  Calls P CB #[l0] w (fun e w'=>e=aW (aB (tX l))∧w'=w):=by
 refine qct (bX (qdk h hl) ⟨fun b c k w'=>∃j:Nat,k=((j+1:Nat):Int)∧j≤24∧b=(PB l j:Int)∧c=A5 (PB l j) l∧w'=w,fun _ _ k _=>25-k.toNat,⟨0,rfl,by omega,rfl,rfl,rfl⟩,?_⟩)
 rintro _ _ _ k _ ⟨j,rfl,hj,rfl,rfl,rfl⟩
 refine aG (fun cR=>bX (qdk h hl) ?_) (fun q=>⟨by rw[show j=24 by omega];rfl,rfl⟩)
 rw[qpa (k:=j+1) (by omega),aD (n:=((j+1:Nat):Int)+1) (by omega) (by omega)]
 refine aG (fun hc=>⟨⟨j+1,rfl,by omega,?_,?_,rfl⟩,by dsimp only;omega⟩) (fun hc=>⟨⟨j+1,rfl,by omega,?_,?_,rfl⟩,by dsimp only;omega⟩)<;>simp only[PB,hc,if_true,if_false]
def qo1(p:List Int):List Int:=xC (tX p) 5++vM p (tX p) p.length
def A6(l:List Int)(q:List Nat):List Int:=(q.map fun j=>qo1 (fI l j)).flatten
theorem VD(l:List Int)(q:List Nat)(j:Nat):A6 l (q++[j])=A6 l q++(xC (tX (fI l j)) 5++vM (fI l j) (tX (fI l j)) (fI l j).length):=by
 unfold A6;rw[gQ,LZ];simp [qo1]
theorem HI(p:List Int){k:Nat}(hk:k≤24):∀t,(vM p k t).length≤56*t
 |0=>by simp [vM]
 |t+1=>by
  have h1:=HI p hk t
  have h2:=qeF (rd p t) k
  have h3:=UV (rd p t) hk
  rw[vM,bD];omega
theorem IL(l:List Int)(j:Nat):(fI l j).length=min 64 (l.length-j*64):=by unfold fI;rw[eJ,cQ]
theorem qaE(l:List Int):∀q:List Nat,(A6 l q).length≤3600*q.length
 |[]=>by simp [A6]
 |j::q=>by
  have h1:=qaE l q
  have h2:=HI (fI l j) (UG (fI l j)) (fI l j).length
  have h3:=IL l j
  have h4:(A6 l (j::q)).length=(qo1 (fI l j)).length+(A6 l q).length:=by unfold A6;simp
  rw[h4];unfold qo1;rw[bD,xL,iO];omega
theorem BN(l:List Int):∀j,j≤chN 64 l.length→A6 l (List.range j)=lO l (min (64*j) l.length)
 |0,_=>by simp [A6,lO]
 |j+1,h=>by
  have cR:j*64<l.length:=(V1 (by decide)).1 (by omega)
  have hp:=IL l j
  rw[List.range_succ,VD,BN l j (by omega),vU (by omega)]
  have:=qaQ l j ((fI l j).length-1) (by omega)
  rw[show(fI l j).length-1+1=(fI l j).length by omega]at this
  rw[show min (64*(j+1)) l.length=64*j+(fI l j).length by omega,this,gY]
theorem qks(l:List Int):A6 l (List.range (chN 64 l.length))=lO l l.length:=by
 rw[BN l _ (cJ _),Nat.min_eq_right]
 have:¬chN 64 l.length<chN 64 l.length:=by omega
 rw[V1 (by decide)]at this;omega
noncomputable def XM(l:List Int):List Int×Int:=if l.length>1048576 then([],5)else(pkB (lO l l.length),0)
theorem qaS{l0:Value}{l:List Int}{w:World}(h:Nm .i32 w l0 l):Calls P yZ #[l0] w (yQ w (XM l)):=by
 refine qcv (aP h (aG (fun U=>?_) (fun J=>?_)))
 ·unfold XM
  rw[if_pos (by omega)]
  exact⟨_,rfl,Ch.refl _ w,ON.nil _ _ _ _⟩
 have J:l.length≤1048576:=by omega
 refine mL (Fr.start w) fun A w1 Z=>dX (z:=.pointer none) Z (by kernel_rfl) fun p4 w2 f2=>qpq f2 0 rfl fun w3 f3=>?_
 have f3:=f3.asB 1 (ad:=A) rfl
 refine qjJ f3 h.one (n:=64) (by decide) fun a b w4 f4=>?_
 refine qe6 f4 h (by omega) (by decide) (by decide) (fun pre G=>∃v,G=[aT p4 [aH A],bIt A v (A6 l pre)]) ⟨_,rfl⟩ ?_ ?_
 ·rintro pre j W _ ⟨v,rfl⟩ f u T hO K hK
  have af:=qbE 64 l j
  have cR:=(V1 (len:=l.length) (j:=pre.length) (n:=64) (by decide)).1 u
  have hbl:=UG (fI l j)
  refine bX (qlE T (by omega)) (fJ (f.cell0 2 rfl rfl) (aC ?_))
  rw[Addr.add_zero',show vX ((tX (chL 64 l j):Nat):Int)=((tX (fI l j):Nat):Int)by rw[yP];show((tX (fI l j):Nat):Int)%_=_;omega]
  have ag:=qaE l pre
  refine cZ (TO (f.get 3 rfl) (by omega) (by omega)) fun W1 ⟨v1,g1⟩=>aP T ?_
  have f5:=f.bw 3 rfl g1
  rw[show xN 5=5 by decide]at f5
  refine⟨fun i W'=>∃(t:Nat) (v':Value),i=t∧t≤(fI l j).length∧KeepsOthers W W'∧Fr w W' [aT b [aB (64:Nat)],aT a [l0],aT p4 [aH A],bIt A v' (A6 l pre++xC (tX (fI l j)) 5++vM (fI l j) (tX (fI l j)) t)],
   fun i _=>(fI l j).length-i.toNat,⟨0,v1,rfl,by omega,g1.2.1.others,by simpa [vM]using f5⟩,?_⟩
  rintro _ i O ⟨t,v2,rfl,ht,X,f6⟩
  refine aG (fun q=>?_) (fun I=>?_)
  ·have r:Nm .i32 O (chV 64 l0 l.length j) (fI l j):=qgC (n:=64) (h.ev f6.old) j
   have V:((t:Nat):Int)<(fI l j).length:=q
   have M:=IL l j
   refine dL r (by omega) q fun ad c _=>bG c (fJ (f6.cell0 2 rfl rfl) ?_)
   have ah:=HI (fI l j) hbl t
   refine cZ (qnL (f6.get 3 rfl) (qnR r.2 t) hbl (by simp [xL];omega)) fun W3 ⟨v3,g3⟩=>?_
   rw[aD (n:=(t:Int)+1) (by omega) (by omega)]
   refine⟨⟨t+1,v3,rfl,by omega,X.trans g3.2.1.others,?_⟩,by dsimp only;omega⟩
   have f7:=f6.bw 3 rfl g3
   have e:A6 l pre++xC (tX (fI l j)) 5++vM (fI l j) (tX (fI l j)) (t+1)=A6 l pre++xC (tX (fI l j)) 5++vM (fI l j) (tX (fI l j)) t++QY (rd (fI l j) t) (tX (fI l j)):=by rw[vM,gY (_++_)]
   rw[e]
   exact f7
  ·have N:t=(fI l j).length:=by have:¬((t:Int)<(fI l j).length):=I;omega
   subst N
   refine hK O _ X ⟨v2,?_⟩ f6
   rw[VD,gY]
 ·rintro D W _ hD ⟨v,rfl⟩ f C
  rw[qks]at f
  refine fJ (f.cell0 2 rfl rfl) (aC ?_)
  rw[Addr.add_zero']
  have M:=IJ l l.length
  refine iY (qia (f.get 3 rfl) (by omega)) fun y W1 ⟨h1,xs,Y,hp⟩=>?_
  have hk1:W1.heap[D]?=some (.deferred (some [])):=h1.oth D _ C rfl
  refine⟨hk1,?_⟩
  have f8:=((f.newO h1 Y).putObj (D:=D) (o':=.deferred none) (nJ f4.old.size hD) hk1 rfl)
  unfold XM
  rw[if_neg (by omega),qnH Y.2 hp]
  exact⟨y,rfl,f8.old,f8.on 0 rfl⟩
end
section
section
variable {w0 w:World} {F:List It} {xs:List Int} {ad rad:Addr} {y:Value} {a:Nat} {er:Int}
theorem Fr.pr(h:Fr w0 w F)(i j:Nat)(hi:F[i]?=some (aT ad [y,aB a,aB er]))(hj:F[j]?=some (bI .u8 eB y xs))(hn:i≠j)(ha:a≤8*xs.length)(hl:xs.length≤1000000000):PR w ad y xs a er:=
 ⟨h.get i hi,h.nm j hj,fun _ hg=>h.apart hi hj hn ad.block rfl hg,ha,hl⟩
theorem Fr.rb(h:Fr w0 w F)(q i j:Nat)(hq:F[q]?=some (aT rad [aH ad]))(hi:F[i]?=some (aT ad [y,aB a,aB er]))(hj:F[j]?=some (bI .u8 eB y xs))(hn:i≠j)(r:q≠i)(ha:a≤8*xs.length)(hl:xs.length≤1000000000):RB w rad ad y xs a er:=
 ⟨h.get q hq,h.pr i j hi hj hn ha hl,fun e=>h.apart hq hi r rad.block rfl e⟩
theorem Fr.ps{w':World}{a2:Nat}{er2:Int}(h:Fr w0 w F)(i:Nat)(hi:F[i]?=some (aT ad [y,aB a,aB er]))(g:PS w w' ad y xs a2 er2):Fr w0 w' (F.set i (aT ad [y,aB a2,aB er2])):=
 h.upd i hi g.2 (fun k _ hh=>.inl hh.1) g.1.1 fun k hk=>.inl hk
theorem qs8{b:Value}{K:Option Addr→World→Prop}(h:Fr w0 w F)(hb:Nm .u8 w b xs)(hl:xs.length≤1000000000)(hk:∀rad pad y w',Fr w0 w' (aT rad [aH pad]::aT pad [y,aB (0:Nat),aB 0]::bI .u8 eB y xs::F)→K (some rad) w'):aE P HG jN #[b] w K:=by
 refine aO (R:=fun e w'=>∃rad pad y,e=aW (aH rad)∧Fr w0 w' (aT rad [aH pad]::aT pad [y,aB (0:Nat),aB 0]::bI .u8 eB y xs::F)) (qeH (qat h hb (by omega) fun y w1 j=>⟨(j.on 0 rfl).one,mL j fun pad w2 q=>mL q fun rad w3 f3=>⟨rad,pad,y,rfl,f3⟩⟩)) ?_
 rintro _ w' ⟨rad,pad,y,rfl,f⟩
 exact⟨_,rfl,hk rad pad y w' f⟩
end
theorem qgl{a b:Value}{xs ys:List Int}{w:World}(ha:Nm .u8 w a xs)(hb:Nm .u8 w b ys):Calls P gU #[a,b] w (fun e w'=>e=aW (.bool (decide (xs=ys)))∧w'=w):=
 G7 (lA ha (lA hb ⟨by rw[yC ha.2 hb.2],rfl⟩))
theorem qpC(a b:Int):0≤L3 .u32 a b∧L3 .u32 a b<4294967296:=by unfold L3;show 0≤vX _∧vX _<_;rw[yP];omega
theorem qnk{w:World}{x rad pad:Addr}{b:Value}{xs:List Int}{a k:Nat}{er:Int}(hx:St w x [aH rad])(r:x.block≠pad.block)(h:RB w rad pad b xs a er)(hk:k≤31):
  Calls P pZ #[aH x,aB k] w (fun e w'=>e=aW (.int .i32 (CE xs a er k).1)∧PS w w' pad b xs (CE xs a er k).2.1 (CE xs a er k).2.2):=by
 have hu:=qh4 xs a er
 refine AU (aC (fJ (hx.cell (j:=0) rfl) (bQ (qoV h) fun w1 h1=>?_)))
 have q:St w1 x [aH rad]:=hx.ch h1.2 fun _ _ hh=>r hh.1
 have u:=h.to h1
 unfold CE
 refine cN (fun e=>aC (fJ (q.cell (j:=0) rfl) (bQ (qf1 u) fun w2 h2=>?_))) (fun e=>⟨fun w'=>w'.cell? (x.add 0)=some (aH rad),q.drew.cell rfl,JQ (by omega) (aC (mS (fun _ h=>h) (bQ (qf1 (h.to (h1.ev (Ev.drew0 w1)))) fun w2 h2=>⟨?_,?_⟩)))⟩)
 ·have hb:=ql1 (xs:=xs) (a:=(vS xs a er 24).2.1) (er:=(vS xs a er 24).2.2) 32
  rw[dW,ZE (by omega) (by omega),if_pos e]
  exact bX (TX (by omega)) ⟨rfl,h1.trans h2⟩
 ·exact(q.drew.ch h2.2 fun _ _ hh=>r hh.1).cell rfl
 ·have hb:=qpC (qY .u32 (vX (vS xs a er 24).1) k) (E8 xs (vS xs a er 24).2.1 (vS xs a er 24).2.2 k).1
  rw[dW,ZE (by omega) (by omega),if_neg e]
  rw[yP,ZE (by omega) (by omega)]at hb⊢
  exact bX (TX (by omega)) ⟨rfl,(h1.ev (Ev.drew0 w1)).trans h2⟩
def TupI(w:World)(r:List Int×Int)(e:Ending)(w':World):Prop:=∃v,e=bP #[v,aB r.2]∧Ev w w'∧ON .i32 e32 w' w.heap.size v r.1
theorem TupI.err(w w':World)(h:Ev w w')(c:Int):TupI w ([],c) (bP #[bR,aB c]) w':=⟨_,rfl,h,ON.nil _ _ _ _⟩
theorem qkB{xs:List Int}{i k a:Nat}(hk:k≤24):0≤(xF xs i k a).1∧(xF xs i k a).1≤31:=by
 unfold xF
 split
 ·unfold E8
  rw[if_neg (by simp)]
  split
  ·simp
  ·have:=U6 xs a (xN 5)
   rw[show xN 5=5 by decide,show((2^5:Nat):Int)=32 from rfl]at this
   rw[show xN 5=5 by decide];dsimp only;omega
 ·dsimp only;omega
theorem qoj(i:Nat):(Int.tmod (i:Int) 64=0)↔i%64=0:=by rw[N0 (by omega)];omega
theorem qhL{lim:Bool}{xs:List Int}{f i k a:Nat}:M2 lim xs (f+1) i k a=match qn9 xs i k a with
  |none=>none
  |some (v,j,q)=>if lim=true∧24<j then none else(M2 lim xs f (i+1) j q).map (v:: ·):=rfl
theorem qe5{b0:Value}{xs:List Int}{n:Int}{w:World}(hb:Nm .u8 w b0 xs)(hl:xs.length≤1000000000):Calls P yL #[b0,aB n] w (TupI w (rK true xs n)):=by
 unfold rK
 refine WY (aG (fun h0=>by rw[if_pos h0];exact TupI.err w w (Ch.refl _ w) 1) (fun h0=>?_))
 rw[if_neg h0]
 refine aG (fun h1=>by rw[if_pos h1];exact TupI.err w w (Ch.refl _ w) 5) (fun h1=>?_)
 rw[if_neg h1]
 obtain⟨m,rfl⟩:=LY (show 0≤n by omega)
 rw[dH]
 refine qs8 (Fr.start w) hb hl fun rad pad y w1 f1=>mL f1 fun x w2 N=>?_
 have N:=N.nil0 .i32 e32
 refine⟨fun lv J Z=>∃(zs:List Int) (k a:Nat),J=k∧k≤24∧zs.length≤m∧a≤8*xs.length∧(M2 true xs (m-zs.length) zs.length k a).map (zs++ ·)=M2 true xs m 0 0 0∧
   Fr w Z [bI .i32 e32 lv zs,aT x [aH rad],aT rad [aH pad],aT pad [y,aB a,aB 0],bI .u8 eB y xs],fun lv _ _=>m-slLen lv,⟨[],0,0,rfl,by omega,by simp,by omega,?_,N⟩,?_⟩
 ·show(M2 true xs m 0 0 0).map _=_
  cases M2 true xs m 0 0 0<;>rfl
 rintro _ lv J w3 ⟨zs,k,a,rfl,hk,ah,ha,A,f3⟩
 have hz:=f3.nm 0 rfl
 refine aP hz (aG (fun cR=>?_) (fun ag=>?_))
 ·have r:=qkB (xs:=xs) (i:=zs.length) (a:=a) hk
  refine⟨fun J Z=>J=(xF xs zs.length k a).1∧(xF xs zs.length k a).2.1≤8*xs.length∧Fr w Z [bI .i32 e32 lv zs,aT x [aH rad],aT rad [aH pad],aT pad [y,aB (xF xs zs.length k a).2.1,aB (xF xs zs.length k a).2.2],bI .u8 eB y xs],aP hz (cN (fun e=>aC (fJ (f3.cell 1 0 rfl rfl) (bQ (qf1 (f3.rb 2 3 4 rfl rfl rfl (by decide) (by decide) ha hl)) fun w4 h4=>?_))) (fun e=>?_)),?_⟩
  ·rw[qoj]at e
   have f4:=f3.ps 3 rfl h4
   unfold xF at r⊢
   rw[if_pos e]at r⊢
   exact⟨aD (by omega) (by omega),h4.1.2.2.2.1,f4⟩
  ·rw[Ne,qoj]at e
   unfold xF
   rw[if_neg e]
   exact⟨rfl,ha,f3⟩
  rintro _ J w4 ⟨rfl,O,f4⟩
  obtain⟨q,hq⟩:=LY r.1
  rw[hq]
  refine bQ (qnk (f4.get 1 rfl) (fun e=>f4.apart (i:=1) (j:=3) rfl rfl (by decide) x.block rfl e) (f4.rb 2 3 4 rfl rfl rfl (by decide) (by decide) O hl) (by omega)) fun w5 h5=>?_
  have f5:=f4.ps 3 rfl h5
  have T:=qkP xs (xF xs zs.length k a).2.1 (xF xs zs.length k a).2.2 q
  refine jF [(CE xs (xF xs zs.length k a).2.1 (xF xs zs.length k a).2.2 q).1] f5 rfl rfl (fun x hx=>by simp at hx;subst hx;exact quf T) fun t w6 f6=>vZ f6 1 rfl (f6.nm 0 rfl) (by simp;omega) fun l2 w7 C=>?_
  have C:=C.drop 0
  refine aC (fJ (C.cell 1 0 rfl rfl) (bX (qsM (C.rb 2 3 4 rfl rfl rfl (by decide) (by decide) h5.1.2.2.2.1 hl)) ?_))
  have U:m-zs.length=(m-(zs.length+1))+1:=by omega
  rw[U,qhL]at A
  unfold qn9 at A
  dsimp only at A
  rw[hq,dH]at A
  have I:M2 true xs m 0 0 0=none→TupI w (match M2 true xs m 0 0 0 with
    |none=>([],4)
    |some l=>if pkB (lO l l.length)=xs then(l,0)else([],4)) (bP #[bR,aB 4]) w7:=fun e=>by rw[e];exact TupI.err w w7 C.old 4
  refine iC (fun M=>aG (fun u=>I ?_) (fun u=>⟨⟨zs++[(CE xs (xF xs zs.length k a).2.1 (xF xs zs.length k a).2.2 q).1],q,(CE xs (xF xs zs.length k a).2.1 (xF xs zs.length k a).2.2 q).2.1,rfl,by omega,by simp;omega,h5.1.2.2.2.1,?_,?_⟩,?_⟩)) (fun M=>I ?_)
  ·rw[←A]
   split
   ·rfl
   ·rename_i v k' a' hs
    split at hs
    ·cases hs
    ·injection hs with hs;injection hs with _ hs;injection hs with hs _
     rw[if_pos ⟨rfl,by omega⟩];rfl
  ·rw[←A,vU (by omega),if_neg (by simpa using M)]
   dsimp only
   rw[if_neg (by omega),bD,N1,Option.map_map]
   congr 1
   funext l;simp
  ·rw[M]at C;exact C
  ·dsimp only;rw[hz.slLen,(C.nm 0 rfl).slLen];simp;omega
  ·rw[←A]
   by_cases u:q≤24
   ·rw[vU u,if_pos M];rfl
   ·split
    ·rfl
    ·rename_i v k' a' hs
     split at hs
     ·cases hs
     ·injection hs with hs;injection hs with _ hs;injection hs with hs _
      rw[if_pos ⟨rfl,by omega⟩];rfl
 ·have Y:zs.length=m:=by omega
  rw[Y,pH,M2]at A
  have X:M2 true xs m 0 0 0=some zs:=by rw[←A];simp
  rw[X]
  have hp:XM zs=(pkB (lO zs zs.length),0):=by unfold XM;rw[if_neg (by omega)]
  refine qbR f3 (qaS hz) fun v w4 f4=>?_
  rw[hp]at f4⊢
  refine iC (fun _=>gC (qgl (hb.ev f4.old) (f4.nm 0 rfl)) fun w5 e5=>?_) (fun e=>absurd rfl e)
  subst e5
  dsimp only
  refine cC (fun V=>?_) (fun he=>?_)
  ·rw[if_neg (fun e=>V e.symm)];exact TupI.err w _ f4.old 4
  ·rw[if_pos he.symm];exact⟨lv,rfl,f4.old,f4.on 1 rfl⟩
end
section
noncomputable def pkK(l:List Int)(k:Int):List Int:=(XM (H3 (pM k) l)).1
noncomputable def K4(l:List Int):Int×List Int:=if(pkK l 4).length<(pkK l (FY l:Nat)).length then(4,pkK l 4)else((FY l:Nat),pkK l (FY l:Nat))
section
variable {w0 w:World} {F:List It} {l0:Value} {l:List Int}
theorem qs7{k:Int}{K:Addr→Value→World→Prop}(f:Fr w0 w F)(h:Nm .i32 w0 l0 l)(hl:l.length≤1000000000)(hk:∀p6 v w',Fr w0 w' (bI .u8 eB v (pkK l k)::aT p6 [aB k,v]::F)→K p6 v w'):
  cD P dG w fun p6 M=>aL P dG (aH p6) (.agg #[aB k,bR]) M fun I=>aF P pF (.part (.agg [.int .i64])) (aH (p6.add 0)) I fun(r:Int)=>aE P iE dM #[.agg #[aB r],l0] I fun t22 N=>aE P yZ (.tup [.one .val,.one (.int .i64)]) #[t22] N fun(q:Value) (_:Int) O=>aL P aA (aH (p6.add 1)) q O fun C=>K p6 q C:=by
 refine dX (z:=.agg #[aB 0,bR]) f (by kernel_rfl) fun p6 w1 T=>cS T 0 rfl (fun w2 A=>?_) rfl
 have A:Fr w0 w2 (aT p6 [aB k,bR]::F):=A
 refine lR [aB k] (fun j u hj=>?_) ?_ rfl (by kernel_rfl)
 ·rcases j with _|j
  ·simp at hj;subst hj;rw[Addr.add_zero'];exact A.cell 0 0 rfl rfl
  ·simp at hj
 show aE _ _ _ _ _ _
 refine aO (qnC (k:=k) (h.ev A.old) hl) ?_
 rintro _ w3 ⟨t22,rfl,h3,U⟩
 refine⟨t22,rfl,aO (qaS U.nm) ?_⟩
 rintro _ w4 ⟨v,rfl,h4,J⟩
 have f4:=(A.ev h3).newO h4 J
 refine⟨v,_,rfl,dT f4 1 1 rfl (fun w5 f5=>hk p6 v w5 f5) (by exact qbo rfl) (by obtain⟨a,c,rfl,_⟩:=J.nm.shape;rfl) (by obtain⟨a,c,rfl,_⟩:=J.nm.shape;rfl)⟩
theorem qnp(v:Int)(k:Nat):1≤(QY v k).length:=by
 unfold QY;split
 ·simp only[bD,iO];omega
 ·simp only[bD,sF];omega
theorem qhD(l:List Int):∀m,0<m→1≤(lO l m).length
 |0,h=>by omega
 |m+1,_=>by
  rw[lO,bD]
  unfold XQ
  have:=qnp (rd l (m:Int)) (kOf l m)
  rw[bD];omega
theorem qje(hl:l.length≤1048576)(k:Int):(l≠[]→1≤(pkK l k).length)∧(pkK l k).length≤8*l.length+10000:=by
 have q:=sD (pM k) l
 unfold pkK XM
 rw[if_neg (by omega)]
 dsimp only
 have hp:=(qsc (B01.pack (H3 (pM k) l) (H3 (pM k) l).length)).2.1
 have h1:=IJ (H3 (pM k) l) (H3 (pM k) l).length
 refine⟨fun j=>?_,by omega⟩
 have h0:0<l.length:=List.length_pos_iff.2 j
 have:=qhD (H3 (pM k) l) (H3 (pM k) l).length (by omega)
 omega
theorem TH(hl:l.length≤1048576):(K4 l).2.length≤8*l.length+10000:=by
 unfold K4;split<;>exact(qje hl _).2
theorem qnI:0≤(K4 l).1∧(K4 l).1≤4∧(K4 l).2=pkK l (K4 l).1:=by
 have h3:FY l≤3:=qgo l 3
 unfold K4;split
 ·exact⟨by dsimp only;omega,by dsimp only;omega,rfl⟩
 ·exact⟨by dsimp only;omega,by dsimp only;omega,rfl⟩
def qoS(w:World)(r:Int×List Int)(e:Ending)(w':World):Prop:=∃v,e=aW (.agg #[aB r.1,v])∧Ev w w'∧ON .u8 eB w' w.heap.size v r.2
theorem qeD{k:IntKind}{v:Value}{xs:List Int}(h:Nm k w v xs)(hx:1≤xs.length):∃a c,v=.slice (some a) xs.length c:=by
 obtain⟨⟨a,c,rfl,_,_,_,hn⟩,_⟩:=h
 cases a with
 |none=>have:=hn rfl;omega
 |some a=>exact⟨a,c,rfl⟩
theorem IK(h:Nm .i32 w l0 l)(J:l≠[])(hl:l.length≤1048576):Calls P pQ #[l0] w (qoS w (K4 l)):=by
 refine RC (dX (z:=.agg #[aB 0,bR]) (Fr.start w) (by kernel_rfl) fun t2 w1 O=>dX (z:=.agg #[aB 0,bR]) O (by kernel_rfl) fun j w2 N=>bQ (qkn (h.ev N.old) (by omega)) fun w3 h3=>?_)
 have U:FY l≤3:=qgo l 3
 have C:inR .i64 [(FY l:Int),4]:=fun x hx=>by
  have h1:IntKind.i64.min= -9223372036854775808:=by decide
  have h2:IntKind.i64.max=9223372036854775807:=by decide
  rw[h1,h2]
  simp only[I5,GL,or_false]at hx
  rcases hx with rfl|rfl<;>omega
 refine jF [(FY l:Int),4] (N.ev h3) rfl rfl C fun t9 w4 f4=>aP (f4.nm 0 rfl) ?_
 have f4:Fr w w4 [bI .i64 (dD P bJ) t9 [(FY l:Int),4],aT j [aB 0,bR],aT t2 [aB 0,bR]]:=f4
 obtain⟨k1,hk1⟩:∃k1:Int,k1=(FY l:Nat):=⟨_,rfl⟩
 rw[←hk1]at f4
 refine⟨fun i w'=>(i=0∧Fr w w' [bI .i64 (dD P bJ) t9 [k1,4],aT j [aB 0,bR],aT t2 [aB 0,bR]])∨(∃(r:Int×List Int) (v:Value),((i=1∧r=(k1,pkK l k1))∨(i=2∧r=K4 l))∧Fr w w' [bI .i64 (dD P bJ) t9 [k1,4],aT j [aB r.1,v],aT t2 [aB 0,bR],bI .u8 eB v r.2]),fun i _=>(2-i).toNat,.inl ⟨rfl,f4⟩,?_⟩
 have one:∀(v:Value) (xs:List Int) (w':World),Nm .u8 w' v xs→v.oneCell'=true:=fun v xs w' hn=>by obtain⟨a,c,rfl,_⟩:=hn.shape;rfl
 rintro _ i w5 (⟨rfl,f5⟩|⟨r,v,I,f5⟩)
 ·refine qS (uC (f5.nm 0 rfl) (by decide) (by simp) ?_)
  rw[show rd [k1,4] 0=k1 from rfl]
  refine qs7 (k:=k1) f5 h (by omega) fun p6 v w6 f6=>dY f6 3 1 rfl rfl (JR (V7 (gE f6 1 rfl ?_ rfl (by kernel_rfl))))
  show aL _ _ _ _ _ _
  refine cS f6 3 rfl (fun M q=>⟨.inr ⟨(k1,pkK l k1),v,.inl ⟨by decide,rfl⟩,?_⟩,by dsimp only;decide⟩) rfl (fun u hu=>?_)
  ·have q:Fr w M [bI .u8 eB v (pkK l k1),aT p6 [aB k1,v],bI .i64 (dD P bJ) t9 [k1,4],aT j [aB k1,v],aT t2 [aB 0,bR]]:=q
   exact q.picks [2,3,4,0] (by decide)
  ·simp at hu
   rcases hu with rfl|rfl
   ·rfl
   ·exact one _ _ _ (f6.nm 0 rfl)
 ·rcases I with⟨rfl,rfl⟩|⟨rfl,rfl⟩
  ·refine qS (uC (f5.nm 0 rfl) (by decide) (by simp) ?_)
   rw[show rd [k1,4] 1=4 from rfl]
   have f5:Fr w w5 [bI .i64 (dD P bJ) t9 [k1,4],aT j [aB k1,v],aT t2 [aB 0,bR],bI .u8 eB v (pkK l k1)]:=f5
   refine qs7 (k:=4) f5 h (by omega) fun p6 v2 w6 f6=>dY f6 3 1 rfl rfl ?_
   obtain⟨a,c,hv⟩:=qeD (f6.nm 5 rfl) ((qje hl k1).1 J)
   have A:∀K:Bool→Prop,K false→AX P .eql aA v (bR) K:=fun K T=>by rw[hv];exact JR T
   refine A _ (oP (dY f6 1 1 rfl rfl (aP (f6.nm 0 rfl) (dY f6 3 1 rfl rfl (aP (f6.nm 5 rfl) (aG (fun cR=>gE f6 1 rfl ?_ rfl (by kernel_rfl)) (fun V=>?_)))))))
   ·show aL _ _ _ _ _ _
    refine cS f6 3 rfl (fun M q=>⟨.inr ⟨K4 l,v2,.inr ⟨by decide,rfl⟩,?_⟩,by dsimp only;decide⟩) rfl (fun u hu=>?_)
    ·have q:Fr w M [bI .u8 eB v2 (pkK l 4),aT p6 [aB 4,v2],bI .i64 (dD P bJ) t9 [k1,4],aT j [aB 4,v2],aT t2 [aB 0,bR],bI .u8 eB v (pkK l k1)]:=q
     have e:K4 l=(4,pkK l 4):=by unfold K4;rw[if_pos (by rw[←hk1];omega)]
     rw[e]
     exact q.picks [2,3,4,0] (by decide)
    ·simp at hu
     rcases hu with rfl|rfl
     ·rfl
     ·exact one _ _ _ (f6.nm 0 rfl)
   ·refine⟨.inr ⟨K4 l,v,.inr ⟨by decide,rfl⟩,?_⟩,by dsimp only;decide⟩
    have e:K4 l=(k1,pkK l k1):=by unfold K4;rw[if_neg (by rw[←hk1];omega),←hk1]
    rw[e]
    exact f6.picks [2,3,4,5] (by decide)
  ·refine iR (gE f5 1 rfl ?_ rfl (by kernel_rfl))
   show aL _ _ _ _ _ _
   refine cS f5 2 rfl (fun w6 f6=>?_) rfl (fun u hu=>?_)
   ·have f6:Fr w w6 [bI .i64 (dD P bJ) t9 [k1,4],aT j [aB (K4 l).1,v],aT t2 [aB (K4 l).1,v],bI .u8 eB v (K4 l).2]:=f6
    refine gE f6 2 rfl ?_ rfl (by kernel_rfl)
    exact⟨v,rfl,f6.old,f6.on 3 rfl⟩
   ·simp at hu
    rcases hu with rfl|rfl
    ·rfl
    ·exact one _ _ _ (f5.nm 3 rfl)
end
end
section
noncomputable abbrev eP:TypeId:=dD P cU
abbrev Pk:=Int×Value×List Int
def pkp(u:Pk):Int×List Int:=(u.1,u.2.2)
def tZ:List Pk→List Value
 |[]=>[]
 |u::T=>aB u.1::u.2.1::tZ T
theorem qgB(S T:List Pk):tZ (S++T)=tZ S++tZ T:=by
 induction S with
 |nil=>rfl
 |cons u S j=>rw[List.cons_append,tZ,tZ,j];rfl
theorem qam:∀{T:List Pk} {k:Nat} {u:Pk},T[k]?=some u→(tZ T)[2*k]?=some (aB u.1)∧(tZ T)[2*k+1]?=some u.2.1
 |t::T,0,u,h=>by simp at h;subst h;exact⟨rfl,rfl⟩
 |t::T,k+1,u,h=>by
  have:=qam (T:=T) (k:=k) (u:=u) (by simpa using h)
  rw[tZ,show 2*(k+1)=2*k+1+1 by omega,T7,T7,T7]
  exact⟨this.1,this.2⟩
noncomputable def PU(v:Value)(T:List Pk):List It:=lK eP 2 v T.length (tZ T)::T.reverse.map fun u=>bI .u8 eB u.2.1 u.2.2
def A9:List (Int×List Int)→Nat
 |[]=>0
 |u::T=>u.2.length+A9 T
theorem qa1(S T:List (Int×List Int)):A9 (S++T)=A9 S+A9 T:=by
 induction S with
 |nil=>simp [A9]
 |cons u S j=>rw[List.cons_append,A9,A9,j];omega
noncomputable def MI(xss:List (List Int)):List (Int×List Int)×Bool:=
 if xss.length≠2 then(xss.map K4,false)
 else if A9 [K4 (zR (xss.getD 0 []) (xss.getD 1 [])),K4 (nC (xss.getD 0 []) (xss.getD 1 []))]<A9 (xss.map K4)then([K4 (zR (xss.getD 0 []) (xss.getD 1 [])),K4 (nC (xss.getD 0 []) (xss.getD 1 []))],true)
 else(xss.map K4,false)
section
variable {w0 w:World} {F:List It}
theorem Sl.of_cells{ad:Addr}{n:Nat}{cs:List Value}(h:St w ad cs)(hn:cs.length=n*2):Sl w 2 (.slice (some ad) n n) n cs:=
 ⟨some ad,n,rfl,cJ _,by rw[hn],fun q ha j u hj=>by injection ha with ha;subst ha;exact St.cell h hj,fun h=>by cases h⟩
theorem qp8{out v:Value}{T:List Pk}{k:Int}{bs:List Int}{K:Value→World→Prop}(f:Fr w0 w (bI .u8 eB v bs::PU out T))(hl:T.length≤1000)(hk:∀j w',Fr w0 w' (PU j (T++[(k,v,bs)]))→K j w'):
  eG P cU 1 #[(0,.agg #[aB k,v])] w fun q w5=>fV P #[cU,cU] cU #[out,q] w5 K:=by
 have hn:=f.nm 0 rfl
 have A:v.oneCell'=true:=by obtain⟨a,c,rfl,_⟩:=hn.shape;rfl
 refine sI 2 [[aB k,v]] f rfl rfl (fun v hv=>by simp at hv;subst hv;rfl) (fun ad w5 f5=>?_) (by decide) (by kernel_rfl) (by decide +kernel)
 refine BI 40 (m:=1) f5 2 rfl (Sl.of_cells (f5.get 0 rfl) rfl) (fun x hx=>?_) (by omega) (by unfold maxLen;omega) (fun v' w6 f6=>hk v' w6 ?_) (by kernel_rfl)
 ·simp at hx;rcases hx with rfl|rfl
  ·rfl
  ·exact A
 ·have r:=f6.picksN 3 [2,1] (by decide) (by decide)
  have e1:PU v' (T++[(k,v,bs)])=lK eP 2 v' (T.length+1) (tZ T++[aB k,v])::bI .u8 eB v bs::T.reverse.map fun u=>bI .u8 eB u.2.1 u.2.2:=by
   unfold PU;rw[qgB,bD,ZJ];rfl
  rw[e1];exact r
theorem qe2{v:Value}{T:List Pk}(f:Fr w0 w (PU v T)):Sl w 2 v T.length (tZ T)∧∀u∈T,Nm .u8 w u.2.1 u.2.2:=by
 refine⟨f.row 0 rfl,fun u hu=>?_⟩
 have hm:bI .u8 eB u.2.1 u.2.2∈PU v T:=lL _ (List.mem_map.2 ⟨u,List.mem_reverse.2 hu,rfl⟩)
 obtain⟨i,hi⟩:=List.mem_iff_getElem?.1 hm
 exact f.nm i hi
theorem gPk{v:Value}{T:List Pk}{k:Nat}{u:Pk}{K:Int→Value→Prop}(h:Sl w 2 v T.length (tZ T))(hu:T[k]?=some u)(hk:K u.1 u.2.1):aX P cU v (aB (k:Int)) fun ad=>aF P dG (.part (.agg [.int .i64,.val])) (aH ad) w K:=by
 have cR:=(List.getElem?_eq_some_iff.1 hu).1
 have hc:=qam hu
 refine JS (sz:=2) h cR (fun ad hcell _=>lR [aB u.1,u.2.1] (fun j x hj=>?_) hk rfl (by kernel_rfl)) (by kernel_rfl)
 rcases j with _|_|j
 ·simp at hj;subst hj;exact hcell 0 _ (by decide) (by rw[show k*2+0=2*k by omega];exact hc.1)
 ·simp at hj;subst hj;exact hcell 1 _ (by decide) (by rw[show k*2+1=2*k+1 by omega];exact hc.2)
 ·simp at hj
theorem qfn{v:Value}{T:List Pk}(hp:Sl w 2 v T.length (tZ T))(hb:∀u∈T,Nm .u8 w u.2.1 u.2.2)(hl:T.length≤1000)(hs:∀u∈T,u.2.2.length≤1000000000):Calls P C8 #[v] w (fun e w'=>e=aW (aB (A9 (T.map pkp):Nat))∧Ev w w'):=by
 have q:∀k,k≤T.length→A9 ((T.take k).map pkp)≤k*1000000000:=by
  intro k
  induction k with
  |zero=>intro _;simp [A9]
  |succ k I=>
   intro hk
   have h1:=hs T[k] (kH (by omega))
   rw[iV (by omega),gQ,qa1]
   have:=I (by omega)
   simp only[U0,List.map_nil,A9,pkp];omega
 refine l6 (cK hp ⟨fun n i w'=>∃k:Nat,i=(k:Int)∧k≤T.length∧n=((A9 ((T.take k).map pkp):Nat):Int)∧Ev w w',fun _ i _=>(T.length-i).toNat,⟨0,rfl,bW _,rfl,Ch.refl _ _⟩,?_⟩)
 rintro _ n i w1 ⟨k,rfl,hk,rfl,h1⟩
 have hk1:=q k hk
 refine aG (fun cR=>?_) (fun C=>?_)
 ·have j:k<T.length:=by omega
  have hu:T[k]?=some T[k]:=fR j
  have hm:T[k]∈T:=kH j
  have hk2:=q (k+1) j
  have r:A9 ((T.take (k+1)).map pkp)=A9 ((T.take k).map pkp)+T[k].2.2.length:=by rw[iV j,gQ,qa1];rfl
  refine gPk (hp.ev h1) hu (dX (z:=.agg #[aB 0,bR]) (Fr.start w1) (by kernel_rfl) fun p5 w2 A=>cS A 0 rfl (fun w3 f3=>?_) rfl (fun x hx=>?_))
  ·have f3:Fr w1 w3 [aT p5 [aB T[k].1,T[k].2.1]]:=f3
   refine dY f3 0 1 rfl rfl (aP ((hb _ hm).ev (h1.trans f3.old)) ⟨⟨k+1,by rw[aD (by omega) (by omega)];omega,j,?_,h1.trans f3.old⟩,by dsimp only;rw[aD (n:=(k:Int)+1) (by omega) (by omega)];omega⟩)
   rw[r,aD (by omega) (by omega)];omega
  ·simp at hx
   rcases hx with rfl|rfl
   ·rfl
   ·obtain⟨a,c,he,_⟩:=(hb _ hm).shape
    rw[he];rfl
 ·obtain rfl:k=T.length:=by omega
  rw[qU]
  exact⟨rfl,h1⟩
def qt1(w:World)(r:List (Int×List Int)×Bool)(e:Ending)(w':World):Prop:=∃v T,e=bP #[v,.bool r.2]∧T.map pkp=r.1∧Fr w w' (PU v T)
theorem qoY{p:Value}{us:List Value}{xss:List (List Int)}(hp:Sl w 1 p us.length us)(hl:us.length=xss.length)(hu:∀(i:Nat) (u:Value) (xs:List Int),us[i]?=some u→xss[i]?=some xs→Nm .i32 w u xs)
  (h8:us.length≤8) (Y:∀xs∈xss,xs≠[]) (hb:∀xs∈xss,xs.length≤1048576) (aq:∀xs∈xss,∀ys∈xss,xs.length=ys.length):Calls P BV #[p] w (qt1 w (MI xss)):=by
 have Z:∀{k:Nat} (hk:k<us.length),Nm .i32 w us[k] (xss[k]'(by omega)):=fun{k} hk=>hu k _ _ (by simp [hk]) (by simp [show k<xss.length by omega])
 have ah:∀{T:List Pk} {r:List (Int×List Int)},T.map pkp=r→r.length≤8→(∀u∈r,u.2.length≤1000000000)→T.length≤1000∧∀u∈T,u.2.2.length≤1000000000:=fun{T r} h h1 h2=>by
  have aj:=congrArg List.length h
  rw[fE]at aj
  exact⟨by omega,fun u hu=>h2 (pkp u) (by rw[←h];exact List.mem_map.2 ⟨u,hu,rfl⟩)⟩
 have au:∀u∈xss.map K4,u.2.length≤1000000000:=fun u hu=>by
  obtain⟨xs,hx,rfl⟩:=List.mem_map.1 hu
  have:=TH (hb xs hx)
  have:=hb xs hx;omega
 refine qck (cK hp ⟨fun plain i w'=>∃(k:Nat) (T:List Pk),i=(k:Int)∧k≤us.length∧T.map pkp=(xss.take k).map K4∧Fr w w' (PU plain T),fun _ i _=>(us.length-i).toNat,⟨0,[],rfl,bW _,rfl,(Fr.start w).nilR eP 2⟩,?_⟩)
 rintro _ plain i w1 ⟨k,T,rfl,hk,U,I⟩
 have bi:T.length=k:=by have:=congrArg List.length U;simp only[fE,eJ]at this;omega
 refine aG (fun cR=>?_) (fun ar=>?_)
 ·have V:k<us.length:=by omega
  have X:k<xss.length:=by omega
  refine N7 (hp.ev I.old) (by omega) (by omega) fun a u A hc _=>dV hc ?_
  have aa:u=us[k]:=by
   rw[dH,fR V]at A;injection A with A;exact A.symm
  subst aa
  refine aO (IK ((Z V).ev I.old) (Y _ (kH X)) (hb _ (kH X))) ?_
  rintro _ w2 ⟨v,rfl,h2,o2⟩
  refine⟨_,_,rfl,qp8 (I.newO h2 o2) (by omega) fun be w4 f4=>⟨⟨k+1,_,by rw[aD (by omega) (by omega)];omega,V,?_,f4⟩,by dsimp only;rw[aD (by omega) (by omega)];omega⟩⟩
  rw[iV X,gQ,gQ,U];rfl
 ·obtain rfl:k=us.length:=by omega
  rw[hl,qU]at U
  refine cK (hp.ev I.old) (cA (fun h2=>?_) (fun h2=>?_))
  ·have e:MI xss=(xss.map K4,false):=by unfold MI;rw[if_pos (by omega)]
   rw[e]
   exact⟨plain,T,rfl,U,I⟩
  ·have bg:us.length=2:=by omega
   obtain⟨j,ab⟩:∃j,j=xss[0]'(by omega):=⟨_,rfl⟩
   obtain⟨q,ac⟩:∃q,q=xss[1]'(by omega):=⟨_,rfl⟩
   have g0:xss.getD 0 []=j:=by rw[lH,fR (by omega),ab];rfl
   have g1:xss.getD 1 []=q:=by rw[lH,fR (by omega),ac];rfl
   have m0:j∈xss:=by rw[ab];exact kH _
   have m1:q∈xss:=by rw[ac];exact kH _
   have n0:=Z (k:=0) (by omega)
   have n1:=Z (k:=1) (by omega)
   rw[←ab]at n0
   rw[←ac]at n1
   have ai:=hb j m0
   have al:zR j q≠[]:=fun h=>Y j m0 (List.length_eq_zero_iff.1 (by have:=congrArg List.length h;unfold zR at this;rw[dS]at this;exact this))
   have an:nC j q≠[]:=fun h=>Y j m0 (List.length_eq_zero_iff.1 (by have:=congrArg List.length h;unfold nC at this;rw[dS]at this;exact this))
   have ak:(zR j q).length≤1048576:=by unfold zR;rw[dS];exact ai
   have am:(nC j q).length≤1048576:=by unfold nC;rw[dS];exact ai
   have N:∀{k:Nat} (hk:k<us.length) {K:Value→Prop},K us[k]→aX P cF p (aB (k:Int)) fun ad=>aI P aM dM (aH ad) (fun w'=>Ev w w') K:=fun{k} hk {K} h=>by
    refine N7 hp (by omega) (by omega) fun a u A hc _=>dE (fun w' hw=>Ch.cell hw hc fun h=>h) ?_
    have aa:u=us[k]:=by
     rw[dH,fR hk]at A;injection A with A;exact A.symm
    rw[aa];exact h
   refine⟨fun w'=>Ev w w',I.drew.old,N (k:=0) (by omega) (N (k:=1) (by omega) (aO (qoP (n0.ev I.drew.old) (n1.ev I.drew.old) (aq j m0 q m1) (by omega)) ?_))⟩
   rintro _ w5 ⟨a,b,rfl,g5⟩
   have f5:=I.drew.glue g5
   have f5:Fr w w5 (bI .i32 eI b (nC j q)::bI .i32 eI a (zR j q)::PU plain T):=f5
   refine⟨_,_,_,rfl,f5.old,aO (IK (f5.nm 1 rfl) al ak) ?_⟩
   rintro _ w6 ⟨v1,rfl,h6,o6⟩
   have f6:=f5.newO h6 o6
   refine⟨_,_,rfl,aO (IK (f6.nm 1 rfl) an am) ?_⟩
   rintro _ w7 ⟨v2,rfl,h7,o7⟩
   have f7:=((f6.newO h7 o7).nilR eP 2)
   have f7:Fr w w7 (lK eP 2 (bR) 0 []::bI .u8 eB v2 (K4 (nC j q)).2::bI .u8 eB v1 (K4 (zR j q)).2::bI .i32 eI b (nC j q)::bI .i32 eI a (zR j q)::PU plain T):=f7
   have av:v1.oneCell'=true:=by obtain⟨a,c,rfl,_⟩:=(f7.nm 2 rfl).shape;rfl
   have aw:v2.oneCell'=true:=by obtain⟨a,c,rfl,_⟩:=(f7.nm 1 rfl).shape;rfl
   refine⟨_,_,rfl,sI 2 [[aB (K4 (zR j q)).1,v1],[aB (K4 (nC j q)).1,v2]] f7 rfl rfl (fun v hv=>by simp at hv;rcases hv with rfl|rfl<;>rfl) (fun ad w8 f8=>?_) (by decide) (by kernel_rfl) (by decide +kernel)⟩
   refine BI 40 (m:=2) f8 1 rfl (Sl.of_cells (f8.get 0 rfl) rfl) (fun x hx=>?_) (by omega) (by unfold maxLen;omega) (fun C w9 f9=>?_) (by kernel_rfl)
   ·simp at hx;rcases hx with rfl|rfl|rfl|rfl
    ·rfl
    ·exact av
    ·rfl
    ·exact aw
   obtain⟨M,hM⟩:∃M:List Pk,M=[((K4 (zR j q)).1,v1,(K4 (zR j q)).2),((K4 (nC j q)).1,v2,(K4 (nC j q)).2)]:=⟨_,rfl⟩
   have f9:=f9.drop 0
   have f9:Fr w w9 (PU C M++(bI .i32 eI b (nC j q)::bI .i32 eI a (zR j q)::PU plain T)):=by rw[hM];exact f9
   have O:M.map pkp=[K4 (zR j q),K4 (nC j q)]:=by rw[hM];rfl
   have fM:Fr w w9 (PU C M):=by
    have:=f9.picks (List.range (PU C M).length) List.nodup_range
    have e:((List.range (PU C M).length).filterMap fun i=>(PU C M++(bI .i32 eI b (nC j q)::bI .i32 eI a (zR j q)::PU plain T))[i]?)=PU C M:=by rw[hM];rfl
    rw[e]at this;exact this
   have fT:Fr w w9 (PU plain T):=by
    have:=f9.dropN 5
    rw[hM]at this;exact this
   have bM:=ah O (by simp) (fun u hu=>by
    simp only[I5,GL,or_false]at hu
    rcases hu with rfl|rfl
    ·have:=TH ak;omega
    ·have:=TH am;omega)
   have bT:=ah U (by rw[fE];omega) au
   obtain⟨s1,s2⟩:=qe2 fM
   obtain⟨s3,s4⟩:=qe2 fT
   refine bQ (qfn s1 s2 bM.1 bM.2) fun br J=>bQ (qfn (s3.ev J) (fun u hu=>(s4 u hu).ev J) bT.1 bT.2) fun bt ag=>?_
   rw[O,U]
   refine aG (fun cR=>?_) (fun ar=>?_)
   ·have e:MI xss=([K4 (zR j q),K4 (nC j q)],true):=by unfold MI;rw[if_neg (by omega),g0,g1,if_pos (by omega)]
    rw[e]
    exact⟨C,M,rfl,O,(fM.ev J).ev ag⟩
   ·have e:MI xss=(xss.map K4,false):=by unfold MI;rw[if_neg (by omega),g0,g1,if_neg (by omega)]
    rw[e]
    exact⟨plain,T,rfl,U,(fT.ev J).ev ag⟩
end
end
def qX(xs:List Int)(a n:Nat):Int:=IY ((xs.drop a).take n)
theorem qg3:∀{l:List Int},(∀x∈l,0≤x∧x<256)→0≤IY l∧IY l<((2^(8*l.length):Nat):Int)
 |[],_=>by simp [IY]
 |c::r,h=>by
  have h1:=qg3 (l:=r) fun x hx=>h x (lL _ hx)
  have h2:=h c xJ
  have e:2^(8*(c::r).length)=256*2^(8*r.length):=by rw[iO,show 8*(r.length+1)=8+8*r.length by omega,Nat.pow_add]
  rw[IY,e]
  generalize 2^(8*r.length)=z at*
  omega
theorem qrf{xs:List Int}(h:inR .u8 xs):∀x∈xs,0≤x∧x<256:=fun x hx=>by
 have:=h x hx
 have h1:IntKind.u8.min=0:=by decide
 have h2:IntKind.u8.max=255:=by decide
 omega
theorem qbW{xs:List Int}(h:inR .u8 xs)(a n:Nat)(hn:n≤4):0≤qX xs a n∧qX xs a n<4294967296:=by
 have h1:=qg3 (l:=(xs.drop a).take n) fun x hx=>qrf h x (List.mem_of_mem_drop (AK hx))
 have h2:((xs.drop a).take n).length≤4:=by rw[eJ];omega
 have h3:2^(8*((xs.drop a).take n).length)≤2^32:=GI (by omega) (by omega)
 have h4:(2:Nat)^32=4294967296:=by decide
 unfold qX
 omega
theorem qd8{xs:List Int}(h:inR .u8 xs)(a:Nat):0≤qX xs a 2∧qX xs a 2<65536:=by
 have h1:=qg3 (l:=(xs.drop a).take 2) fun x hx=>qrf h x (List.mem_of_mem_drop (AK hx))
 have h2:((xs.drop a).take 2).length≤2:=by rw[eJ];omega
 have h3:2^(8*((xs.drop a).take 2).length)≤2^16:=GI (by omega) (by omega)
 have h4:(2:Nat)^16=65536:=by decide
 unfold qX
 omega
structure Wv where
 ch:Int
 bits:Int
 fr:Int
 to:Int
def Wv.c(p:Wv):List Value:=[aB p.ch,aB p.bits,aB p.fr,aB p.to]
def Wv.z:Wv:=⟨0,0,0,0⟩
def noW:Wv×Bool:=(Wv.z,false)
def mR(ch bits:Int):Int:=if ch<1∨ch>8∨(bits≠8∧bits≠16)then 0 else ch*bits/8
def qrJ:List Int:=[102,109,116,32]
def qpi:List Int:=[100,97,116,97]
def qe8:List Int:=[82,73,70,70]
def qfK:List Int:=[87,65,86,69]
def R6(xs:List Int)(a:Nat):List Int:=(xs.drop a).take 4
def qH(xs:List Int)(a:Nat):Nat:=(qX xs (a+4) 4).toNat
def yW(xs:List Int)(a:Nat):Nat:=(if qH xs a<xs.length-(a+8)then qH xs a else xs.length-(a+8))
def BO(xs:List Int)(a:Nat)(j:Bool)(ch bits:Int):Wv×Bool:=
 if j=true∧mR ch bits≠0∧¬((yW xs a:Int)<mR ch bits)then(⟨ch,bits,(a+8:Nat),((a+8:Nat):Int)+(yW xs a:Int)/mR ch bits*mR ch bits⟩,true)else noW
def PP(xs:List Int)(a:Nat)(has:Bool):Prop:=R6 xs a=qrJ∧has=false∧16≤qH xs a∧a+24≤xs.length
instance (xs:List Int) (a:Nat) (has:Bool):Decidable (PP xs a has):=by unfold PP;infer_instance
def H6(xs:List Int)(a:Nat):Nat:=qH xs a+qH xs a%2
def goW(xs:List Int):Nat→Nat→Bool→Bool→Int→Int→Wv×Bool
 |0,_,_,_,_,_=>noW
 |f+1,a,has,j,ch,bits=>
  if xs.length<a+8 then noW
  else if PP xs a has then(if H6 xs a>xs.length-(a+8)then noW else goW xs f (a+8+H6 xs a) true (decide (qX xs (a+8) 2=1)) (qX xs (a+10) 2) (qX xs (a+22) 2))
  else if R6 xs a=qpi∧has=true then BO xs a j ch bits
  else if H6 xs a>xs.length-(a+8)then noW else goW xs f (a+8+H6 xs a) has j ch bits
def nZ(xs:List Int):Wv×Bool:=if xs.length<12∨R6 xs 0≠qe8∨R6 xs 8≠qfK then noW else goW xs (xs.length+1) 12 false false 0 0
def InW(p:Wv)(n:Nat):Prop:=1≤p.ch∧p.ch≤8∧(p.bits=8∨p.bits=16)∧0≤p.fr∧p.fr≤p.to∧p.to≤n∧(p.to-p.fr)%(p.ch*p.bits/8)=0∧p.fr<p.to
theorem VF{ch bits:Int}(h:mR ch bits≠0):1≤ch∧ch≤8∧(bits=8∨bits=16)∧mR ch bits=ch*bits/8∧1≤mR ch bits:=by
 unfold mR at h⊢
 split at h
 ·exact(h rfl).elim
 ·rename_i hc
  rw[if_neg hc]
  refine⟨by omega,by omega,by omega,rfl,?_⟩
  have:bits=8∨bits=16:=by omega
  rcases this with rfl|rfl<;>omega
theorem qkt{xs:List Int}{a:Nat}{j:Bool}{ch bits:Int}(ha:a+8≤xs.length)(h:(BO xs a j ch bits).2=true):InW (BO xs a j ch bits).1 xs.length:=by
 unfold BO at h⊢
 split at h
 ·rename_i hc
  rw[if_pos hc]
  obtain⟨h1,h2,h3,h4,h5⟩:=VF hc.2.1
  have h6:=hc.2.2
  have hm:yW xs a≤xs.length-(a+8):=by unfold yW;split<;>omega
  generalize mR ch bits=fr at*
  have r:(yW xs a:Int)/fr*fr≤(yW xs a:Int):=Int.ediv_mul_le _ (by omega)
  have q:1≤(yW xs a:Int)/fr:=Int.le_ediv_of_mul_le (by omega) (by omega)
  have u:1*1≤(yW xs a:Int)/fr*fr:=Int.mul_le_mul q h5 (by omega) (by omega)
  refine⟨h1,h2,h3,by dsimp only;omega,by dsimp only;omega,by dsimp only;omega,?_,by dsimp only;omega⟩
  dsimp only
  rw[←h4,show ∀x y:Int,x+y-x=y by intros;omega]
  exact Int.mul_emod_left _ _
 ·cases h
theorem qgS{xs:List Int}:∀(f a:Nat) (has j:Bool) (ch bits:Int),(goW xs f a has j ch bits).2=true→InW (goW xs f a has j ch bits).1 xs.length
 |0,_,_,_,_,_,h=>by cases h
 |f+1,a,has,j,ch,bits,h=>by
  rw[goW]at h⊢
  split at h
  ·cases h
  rename_i h0
  rw[if_neg h0]
  split at h
  ·rename_i h1
   rw[if_pos h1]
   split at h
   ·cases h
   ·rename_i h2
    rw[if_neg h2];exact qgS f _ _ _ _ _ h
  ·rename_i h1
   rw[if_neg h1]
   split at h
   ·rename_i h2
    rw[if_pos h2];exact qkt (by omega) h
   ·rename_i h2
    rw[if_neg h2]
    split at h
    ·cases h
    ·rename_i h3
     rw[if_neg h3];exact qgS f _ _ _ _ _ h
theorem qkY{xs:List Int}(h:(nZ xs).2=true):InW (nZ xs).1 xs.length:=by
 unfold nZ at h⊢
 split at h
 ·cases h
 ·rename_i hc
  rw[if_neg hc];exact qgS _ _ _ _ _ _ h
section
def qrl(w:World)(r:Wv×Bool)(e:Ending)(w':World):Prop:=e=bP #[.agg r.1.c.toArray,.bool r.2]∧Ev w w'
theorem qjk{xs:List Int}{a n:Nat}(h:a+n≤xs.length):eV xs a 0 (n:Int)=((xs.drop a).take n,a+n,0):=by
 unfold eV
 by_cases hn:n=0
 ·subst hn;rw[if_pos (.inr (by omega))];simp
 ·rw[if_neg (by omega),if_neg (by omega),dH]
theorem VE{xs:List Int}{p q n m:Nat}(h:q+n≤m):qX ((xs.drop p).take m) q n=qX xs (p+q) n:=by
 unfold qX
 rw[List.drop_take,List.take_take,U2,show min n (m-q)=n by omega]
section
variable {w0 w:World} {F G:List It} {xs:List Int} {ad c:Addr} {y:Value} {a:Nat}
theorem qaF{f:FuncId}{args:Array Value}{r:Wv×Bool}{K:Int→Int→Int→Int→Bool→World→Prop}(h:Calls P f args w (qrl w r))(hk:∀w',Ev w w'→K r.1.ch r.1.bits r.1.fr r.1.to r.2 w'):
  aE P f (.tup [.agg [.int .i64,.int .i64,.int .i64,.int .i64],.one .bool]) args w K:=
 aO h fun _ w' ⟨h1,h2⟩=>⟨_,_,_,_,_,h1,hk w' h2⟩
theorem fWv{ad:Addr}{K:Int→Int→Int→Int→Prop}(p:Wv)(h:Fr w0 w F)(i:Nat)(hi:F[i]?=some (aT ad p.c))(hk:K p.ch p.bits p.fr p.to):aF P dO (.part (.agg [.int .i64,.int .i64,.int .i64,.int .i64])) (aH ad) w K:=
 gE h i hi hk rfl (by kernel_rfl)
theorem qbU{K:Addr→World→Prop}(h:Fr w0 w F)(hk:∀ad w',Fr w0 w' (aT ad Wv.z.c::F)→K ad w'):cD P dO w K:=
 dX (z:=.agg #[aB 0,aB 0,aB 0,aB 0]) h (by kernel_rfl) hk
theorem qgM{ad:Addr}{a b c d:Int}{cs:List Value}{K:World→Prop}(h:Fr w0 w F)(i:Nat)(hi:F[i]?=some (aT ad cs))(hl:cs.length=4)(hk:∀w',Fr w0 w' (F.set i (aT ad (Wv.mk a b c d).c))→K w'):aL P dO (aH ad) (.agg #[aB a,aB b,aB c,aB d]) w K:=
 cS h i hi hk (by rw[hl];rfl)
theorem V5{ad:Addr}{r:Wv×Bool}{cs:List Value}(h:Fr w0 w F)(i:Nat)(hi:F[i]?=some (aT ad cs))(hl:cs.length=4){R:Ending→World→Prop}(I:R=qrl w0 r):
  aL P dO (aH ad) (.agg #[aB r.1.ch,aB r.1.bits,aB r.1.fr,aB r.1.to]) w fun C=>aF P dO (.part (.agg [.int .i64,.int .i64,.int .i64,.int .i64])) (aH ad) C fun(j:Int) (q:Int) (u:Int) (A:Int)=>R (bP #[.agg #[aB j,aB q,aB u,aB A],.bool r.2]) C:=by
 subst I
 refine qgM h i hi hl fun w3 f3=>fWv r.1 f3 i ?_ ⟨rfl,f3.old⟩
 have cR:=(List.getElem?_eq_some_iff.1 hi).1
 rw[List.getElem?_set_self cR]
theorem qgK{K:Int→World→Prop}(f:Fr w0 w (aT ad [y,aB a,aB 0]::bI .u8 eB y xs::F))(ha:a≤xs.length)(hl:xs.length≤1000000000)(hk:∀w',Fr w0 w' (aT ad [y,aB a,aB 0]::bI .u8 eB y xs::F)→K ((xs.length:Int)-a) w'):aE P fD bA #[aH ad] w K:=
 bQ (T0 (f.rd 0 1 rfl rfl (by decide) ha (by omega))) fun w' h=>hk w' (f.ev h)
theorem JM{n:Nat}{K:Int→World→Prop}(f:Fr w0 w (aT ad [y,aB a,aB 0]::bI .u8 eB y xs::F))(h:a+n≤xs.length)(q:n≤8)(hl:xs.length≤1000000000)(hk:∀w',Fr w0 w' (aT ad [y,aB ((a+n:Nat):Int),aB 0]::bI .u8 eB y xs::F)→K (qX xs a n) w'):
  aE P fA (dQ .u64) #[aH ad,aB (n:Int)] w K:=by
 have j:=L9 (n:=(n:Int)) (f.rd 0 1 rfl rfl (by decide) (by omega) (by omega))
 rw[if_neg (show ¬((8:Int)<(n:Int))by omega),qjk h]at j
 exact bQ j fun w' h=>hk w' (f.rs 0 rfl h)
theorem qiG{n:Nat}{K:Value→World→Prop}(f:Fr w0 w (aT ad [y,aB a,aB 0]::bI .u8 eB y xs::F))(h:a+n≤xs.length)(hl:xs.length≤1000000000)(hk:∀z w',Fr w0 w' (aT ad [y,aB ((a+n:Nat):Int),aB 0]::bI .u8 eB y xs::bI .u8 eB z ((xs.drop a).take n)::F)→K z w'):
  aE P cP dM #[aH ad,aB (n:Int)] w K:=by
 refine PL (n:=(n:Int)) f (by omega) (by omega) (by omega) fun z w' j=>hk z w' ?_
 rw[qjk h]at j;exact j
theorem qgP{ch bits p q:Int}(h1: -70000≤ch∧ch≤70000)(h2: -70000≤bits∧bits≤70000):Calls P CD #[.agg #[aB ch,aB bits,aB p,aB q]] w (fun e w'=>e=aW (aB (mR ch bits))∧Ev w w'):=by
 refine qcz (mL (Fr.start w) fun w1 j f=>?_)
 have f:Fr w j [aT w1 (Wv.mk ch bits p q).c]:=f
 refine⟨fun w'=>¬(ch<1∨ch>8∨(bits≠8∧bits≠16))∧w'=j,cI (n:=ch) f 0 0 rfl rfl (cC (fun h3=>cI (n:=ch) f 0 0 rfl rfl (cC (fun h4=>cI (n:=bits) f 0 1 rfl rfl (cA (fun h5=>cI (n:=bits) f 0 1 rfl rfl (cA (fun h6=>⟨?_,f.old⟩) (fun h6=>⟨by omega,rfl⟩))) (fun h5=>⟨by omega,rfl⟩))) (fun h4=>⟨?_,f.old⟩))) (fun h3=>⟨?_,f.old⟩)),?_⟩
 ·unfold mR;rw[if_pos (by omega)]
 ·unfold mR;rw[if_pos (by omega)]
 ·unfold mR;rw[if_pos (by omega)]
 rintro _ w2 ⟨hok,hw⟩
 obtain rfl:j=w2:=hw.symm
 refine cI (n:=ch) f 0 0 rfl rfl (cI (n:=bits) f 0 1 rfl rfl ⟨?_,f.old⟩)
 have e:mR ch bits=ch*bits/8:=by unfold mR;rw[if_neg hok]
 have hb:bits=8∨bits=16:=by omega
 have hm:i64 (Int.tdiv (i64 (ch*bits)) 8)=ch*bits/8:=by
  rcases hb with rfl|rfl
  ·rw[aD (n:=ch*8) (by omega) (by omega),sH (by omega),aD (by omega) (by omega)]
  ·rw[aD (n:=ch*16) (by omega) (by omega),sH (by omega),aD (by omega) (by omega)]
 rw[hm,e]
noncomputable def chF(ad c:Addr)(y:Value)(xs:List Int)(a:Nat)(G:List It):List It:=aT ad [y,aB a,aB 0]::bI .u8 eB y xs::aT c [aH ad,aB (xs.length:Int)]::G
def qsO(w0:World)(ad c:Addr)(y:Value)(xs:List Int)(a:Nat)(G:List It)(e:Ending)(w':World):Prop:=
 (xs.length<a+8∧e=bP #[.string ⟨#[]⟩,aB 0,aB 0,.bool false]∧Fr w0 w' (chF ad c y xs a G))∨
 (a+8≤xs.length∧e=bP #[.string (tO (R6 xs a)),aB ((a+8:Nat):Int),aB ((a+8+qH xs a:Nat):Int),.bool true]∧Fr w0 w' (chF ad c y xs (a+8) G))
theorem qkQ(f:Fr w0 w (chF ad c y xs a G))(ha:a≤xs.length)(hl:xs.length≤1000000000):Calls P vJ #[aH c] w (qsO w0 ad c y xs a G):=by
 have hx:inR .u8 xs:=(f.nm 1 rfl).2
 refine IG (aC ?_)
 refine fJ (v:=some ad) (f.cell 2 0 rfl rfl) (qgK f ha hl fun w1 j=>aG (fun cR=>.inl ⟨by omega,rfl,j⟩) (fun u=>aC (fJ (v:=some ad) (j.cell 2 0 rfl rfl) (qiG (n:=4) j (by omega) hl fun z w2 q=>?_))))
 refine lA (q.nm 2 rfl) (aC (fJ (v:=some ad) (q.cell 3 0 rfl rfl) (JM (n:=4) q (by omega) (by omega) hl fun w3 f3=>?_)))
 have f3:Fr w0 w3 (chF ad c y xs (a+8) G):=by
  have:=f3.drop 2
  exact this
 refine⟨fun w'=>∃w,Fr w0 w (chF ad c y xs (a+8) G)∧w'=w,⟨_,f3.drew,rfl⟩,aC (aN (n:=(xs.length:Int)) (fun w' ⟨w,g,e⟩=>by subst e;exact g.cell 2 1 rfl rfl) (aC (mS (v:=some ad) (fun w' ⟨w,g,e⟩=>by subst e;exact g.cell 2 0 rfl rfl) (qgK f3.drew (by omega) hl fun w4 f4=>⟨⟨_,f4,rfl⟩,.inr ⟨by omega,?_,f4⟩⟩))))⟩
 have hs:=qbW hx (a+4) 4 (by omega)
 have r:((qH xs a:Nat):Int)=qX xs (a+4) 4:=by unfold qH;omega
 rw[aD (n:=(xs.length:Int)-((xs.length:Int)-((a+8:Nat):Int))) (by omega) (by omega),aD (n:=qX xs (a+4) 4) (by omega) (by omega),←r,show(xs.length:Int)-((xs.length:Int)-((a+8:Nat):Int))=((a+8:Nat):Int)by omega,aD (n:=((a+8:Nat):Int)+((qH xs a:Nat):Int)) (by omega) (by omega)]
 rfl
def qsR(w0:World)(ad c:Addr)(y:Value)(xs:List Int)(a:Nat)(G:List It)(e:Ending)(w':World):Prop:=
 (H6 xs a>xs.length-(a+8)∧e=aW (.bool false)∧Fr w0 w' (chF ad c y xs (a+8) G))∨
 (H6 xs a≤xs.length-(a+8)∧e=aW (.bool true)∧Fr w0 w' (chF ad c y xs (a+8+H6 xs a) G))
theorem qla(f:Fr w0 w (chF ad c y xs (a+8) G))(ha:a+8≤xs.length)(hl:xs.length≤1000000000):Calls P vK #[aH c,aB ((a+8:Nat):Int),aB ((a+8+qH xs a:Nat):Int)] w (qsR w0 ad c y xs a G):=by
 have hx:inR .u8 xs:=(f.nm 1 rfl).2
 have hs:=qbW hx (a+4) 4 (by omega)
 have u:((qH xs a:Nat):Int)=qX xs (a+4) 4:=by unfold qH;omega
 have hn:i64 (i64 (((a+8+qH xs a:Nat):Int)-((a+8:Nat):Int))+Int.tmod (i64 (((a+8+qH xs a:Nat):Int)-((a+8:Nat):Int))) 2)=((H6 xs a:Nat):Int):=by
  rw[show((a+8+qH xs a:Nat):Int)-((a+8:Nat):Int)=((qH xs a:Nat):Int)by omega,aD (n:=((qH xs a:Nat):Int)) (by omega) (by omega),N0 (by omega),aD (by omega) (by omega)]
  unfold H6;omega
 refine IH ?_
 rw[hn]
 refine aC (fJ (v:=some ad) (f.cell 2 0 rfl rfl) (qgK f ha hl fun w1 j=>aG (fun cR=>.inl ⟨by omega,rfl,j⟩) (fun r=>aC (fJ (v:=some ad) (j.cell 2 0 rfl rfl) (qiG (n:=H6 xs a) j (by omega) hl fun z w2 q=>.inr ⟨by omega,rfl,q.drop 2⟩)))))
end
end
end Go.Proofs.YtabchipjjghhnaaGreatDoorV
