import Derived.Test.YtabchipjjghhnaaGreatDoorVPart9
set_option linter.unusedVariables false
set_option linter.unusedSimpArgs false
namespace Go.Proofs.YtabchipjjghhnaaGreatDoorV
open Go Go.RowKit
section
theorem qm4(m:MxS)(bit:Int):(lrM m bit).is=m.is∧(lrM m bit).set=m.set∧(lrM m bit).ins=m.ins∧(lrM m bit).told=m.told:=by unfold lrM;split<;>exact⟨rfl,rfl,rfl,rfl⟩
theorem qm6(s:SgS)(bit rate:Int)(v:Value):sgC (lrS s bit rate) v=sgC s v:=by unfold lrS sgC;split<;>rfl
def lnT(n:MdS)(bit:Int):MdS:=
 {n with g1:=lrG n.g1 n.part bit 4,g2:=if 0<n.level then lrG n.g2 (cxB n) bit 4 else n.g2,g3:=if 1<n.level then lrG n.g3 (cxC n) bit 3 else n.g3,mx:=if 0<n.level then lrM n.mx bit else n.mx,sg:=if 0<n.level then lrS n.sg bit 6 else n.sg}
def lnQ(n:MdS)(bit:Int):Int:=if bit≠0 then i64 (i64 (n.part*2)+1)else i64 (n.part*2)
def lnP(n:MdS)(bit:Int):MdS:=if lnQ n bit≥256 then{n with older:=n.last,last:=i64 (lnQ n bit-256),part:=1}else{n with part:=lnQ n bit}
def lnM(m:MdS)(bit:Int):MdS:=lnP (lnT (ZN m) bit) bit
theorem qtw{n:MdS}{bit:Int}(h:okD n):okD (lnT n bit):=by
 refine⟨h.1,by show(lrG _ _ _ _).length=_;rw[qcc];exact h.2.1,fun hl=>?_,fun hl=>?_⟩
 ·have hl:0<n.level:=hl
  obtain⟨h1,h2,h3⟩:=h.2.2.1 hl
  unfold lnT
  dsimp only
  rw[if_pos hl,if_pos hl,if_pos hl]
  exact⟨by rw[qcc];exact h1,qpU h2,qqk h3⟩
 ·have hl:1<n.level:=hl
  unfold lnT
  dsimp only
  rw[if_pos hl,qcc]
  exact h.2.2.2 hl
theorem qtv{n:MdS}{bit:Int}(h:okD n):okD (lnP n bit):=by unfold lnP;split<;>exact h
theorem qnt{m:MdS}{bit:Int}(h:okD m):okD (lnM m bit):=qtv (qtw (OA h))
section
variable {w0 w:World} {F:List It} {a:MdA} {m:MdS}
set_option maxHeartbeats 1000000 in
theorem TP{bit:Int}(f:Fr w0 w (oX a m F))(ok:okD m):Calls P mP #[.pointer (some a.ma),aB bit] w (fun e w'=>e=bP #[]∧Fr w0 w' (oX a (lnM m bit) F)):=by
 refine CP ⟨fun w'=>w'=w,fO (oP (aC ?_)),?_⟩
 ·rw[Addr.add_zero']
  exact fJ (v:=some a.t1) (BR f 0 _ rfl) (fO (iR rfl))
 rintro _ w1 ak
 obtain rfl:w=w1:=ak.symm
 refine bQ (GM f ok) fun w2 f2=>?_
 have Z:=OA ok
 obtain⟨n,hn⟩:∃n,n=ZN m:=⟨_,rfl⟩
 unfold lnM
 rw[←hn]at f2 Z⊢
 obtain⟨au,ag,ah,ai⟩:=Z
 refine aO (JB f2) ?_
 rintro _ w3 ⟨rfl,h3⟩
 have f3:=f2.ev h3
 refine⟨_,_,_,rfl,aC ?_⟩
 rw[Addr.add_zero']
 refine fJ (v:=some a.t1) (BR f3 0 _ rfl) (cZ (GY (n:=n.part) (bit:=bit) (rate:=4) f3 1 2 (by unfold oX;rfl) (by unfold oX;rfl) (by rw[ag];decide)) fun w4 f4=>?_)
 obtain⟨A,J⟩:∃A:MdS,A={n with g1:=lrG n.g1 n.part bit 4}:=⟨_,rfl⟩
 have f4:Fr w0 w4 (oX a A F):=by rw[J];unfold oX at f4⊢;exact f4
 obtain⟨j,u⟩:∃j:MdS,j={n with g1:=lrG n.g1 n.part bit 4,g2:=if 0<n.level then lrG n.g2 (cxB n) bit 4 else n.g2,mx:=if 0<n.level then lrM n.mx bit else n.mx,sg:=if 0<n.level then lrS n.sg bit 6 else n.sg}:=⟨_,rfl⟩
 have V:A.level=n.level:=by rw[J]
 have I:j.level=n.level:=by rw[u]
 refine⟨fun w'=>Fr w0 w' (oX a j F),aC (bG (BR f4 5 _ rfl) (aG (fun hl=>?_) (fun hl=>?_))),?_⟩
 ·have hl:0<n.level:=by rw[←V];exact hl
  have r:0<A.level:=by rw[V];exact hl
  obtain⟨k2,kM,kS⟩:=ah hl
  rw[R5 r]at f4
  have e2:A.g2=n.g2∧A.mx=n.mx∧A.sg=n.sg:=by rw[J];exact⟨rfl,rfl,rfl⟩
  rw[e2.1,e2.2.1,e2.2.2]at f4
  refine aC ?_
  rw[Addr.add_zero']
  refine lI (v:=some a.t2) f4 0 1 rfl (qnc r) (cZ (GY (n:=cxB n) (bit:=bit) (rate:=4) f4 3 4 rfl rfl (by rw[k2];decide)) fun w5 f5=>aC ?_)
  refine lI (v:=some a.xa) f5 0 3 rfl (qq1 r) (cZ (qgb (bit:=bit) f5 5 6 (by decide) rfl rfl kM) fun w6 f6=>aC ?_)
  refine lI (v:=some a.sa) f6 0 4 rfl (qq2 r) (cZ (qge (bit:=bit) (rate:=6) f6 7 8 (by decide) rfl rfl kS) fun w7 f7=>?_)
  have X:0<j.level:=by rw[I];exact hl
  have s1:=qm4 n.mx bit
  have s2:=qm6 n.sg bit 6 a.sv
  rw[R5 X]
  have q:j.g1=A.g1∧j.g2=lrG n.g2 (cxB n) bit 4∧j.mx=lrM n.mx bit∧j.sg=lrS n.sg bit 6∧MG a j=MG a A∧qhc a j=qhc a A:=by
   rw[u,J,if_pos hl,if_pos hl,if_pos hl];exact⟨rfl,rfl,rfl,rfl,rfl,rfl⟩
  rw[q.1,q.2.1,q.2.2.1,q.2.2.2.1,q.2.2.2.2.1,q.2.2.2.2.2,s1.1,s1.2.1,s1.2.2.1,s1.2.2.2,s2]
  exact f7
 ·have hl:¬0<n.level:=by rw[←V];exact hl
  have e:j=A:=by rw[u,J,if_neg hl,if_neg hl,if_neg hl]
  show Fr w0 w4 (oX a j F)
  rw[e];exact f4
 rintro _ w8 f8
 have eT:lnT n bit={j with g3:=if 1<n.level then lrG n.g3 (cxC n) bit 3 else n.g3}:=by rw[u];rfl
 obtain⟨T,hT⟩:∃T,T=lnT n bit:=⟨_,rfl⟩
 rw[←hT]at eT⊢
 have Y:T.level=n.level:=by rw[eT];exact I
 refine⟨fun w'=>Fr w0 w' (oX a T F),aC (bG (BR f8 5 _ rfl) (aG (fun hl=>?_) (fun hl=>?_))),?_⟩
 ·have hl:1<n.level:=by rw[←I];exact hl
  have r:1<j.level:=by rw[I];exact hl
  have aj:0<j.level:=by omega
  rw[R5 aj,VW r]at f8
  have e3:j.g3=n.g3:=by rw[u]
  rw[e3]at f8
  refine aC ?_
  rw[Addr.add_zero']
  refine lI (v:=some a.t3) f8 0 2 rfl (qq0 r) (cZ (GY (n:=cxC n) (bit:=bit) (rate:=3) f8 9 10 rfl rfl (by rw[ai hl];decide)) fun w9 f9=>?_)
  have ae:0<T.level:=by rw[Y];omega
  have af:1<T.level:=by rw[Y];exact hl
  rw[R5 ae,VW af,eT,if_pos hl]
  exact f9
 ·have hl:¬1<n.level:=by rw[←I];exact hl
  have e:T=j:=by rw[eT,if_neg hl,u]
  show Fr w0 w8 (oX a T F)
  rw[e];exact f8
 rintro _ al f10
 refine aC (bG (BR f10 6 _ rfl) (aC ?_))
 have N:Fr w0 al (aT a.ma (MG a T)::(oX a T F).tail):=by unfold oX at f10⊢;exact f10
 obtain⟨G,hG⟩:∃G,G=(oX a T F).tail:=⟨_,rfl⟩
 rw[←hG]at N
 have M:∀{w':World} {O:MdS},(oX a O F).tail=(oX a T F).tail→Fr w0 w' (aT a.ma (MG a O)::G)→Fr w0 w' (oX a O F):=fun{w' O} he hf=>by
  have e:oX a O F=aT a.ma (MG a O)::(oX a O F).tail:=by unfold oX;rfl
  rw[e,he,←hG];exact hf
 refine dT N 0 6 rfl (fun aa C=>?_)
 have C:Fr w0 aa (aT a.ma (MG a {T with part:=i64 (T.part*2)})::G):=C
 refine⟨fun w'=>Fr w0 w' (aT a.ma (MG a {T with part:=lnQ T bit})::G),cA (fun hb=>aC (cI C 0 6 rfl rfl (aC (dT C 0 6 rfl (fun aw f12=>?_))))) (fun hb=>?_),?_⟩
 ·unfold lnQ;rw[if_pos hb];exact f12
 ·show Fr w0 aa _
  unfold lnQ;rw[if_neg (by omega)];exact C
 rintro _ ax f13
 refine aC (cI f13 0 6 rfl rfl (aG (fun U=>?_) (fun cR=>?_)))
 ·have U:lnQ T bit≥256:=U
  refine⟨fun _=>True,fun w'=>w'.cell? (a.ma.add 7)=some (aB T.last)∧w'.cell? (a.ma.add 6)=some (aB (lnQ T bit)),⟨trivial,f13.drew.cell 0 7 rfl rfl,f13.drew.cell 0 6 rfl rfl⟩,aC (aN (fun w' hw=>hw.1) (aC (aN (fun w' hw=>hw.2) (aC ?_))))⟩
  refine dT f13.drew 0 8 rfl (fun ay f14=>⟨trivial,aC (dT f14 0 7 rfl (fun az f15=>⟨trivial,aC (dT f15 0 6 rfl (fun ba ab=>⟨trivial,rfl,?_⟩))⟩))⟩)
  have e:lnP T bit={T with older:=T.last,last:=i64 (lnQ T bit-256),part:=1}:=by unfold lnP;rw[if_pos U]
  rw[e]
  exact M rfl ab
 ·have cR:¬lnQ T bit≥256:=cR
  have e:lnP T bit={T with part:=lnQ T bit}:=by unfold lnP;rw[if_neg cR]
  rw[e]
  exact⟨rfl,M rfl f13⟩
def MF(level:Int):MdS:=⟨level,1,0,0,List.replicate 256 0,List.replicate 65536 0,List.replicate 65536 0,mx0,sg0⟩
theorem qtu{level:Int}(h:0≤level∧level≤2):okD (MF level):=⟨h,by unfold MF;rw[sF],fun _=>⟨by unfold MF;rw[sF],qtr,qtE⟩,fun _=>by unfold MF;rw[sF]⟩
set_option maxHeartbeats 1000000 in
theorem qdW{level:Int}(M:0≤level∧level≤2):Calls P L6 #[aB level] w (fun e w'=>∃a:MdA,e=aW (.pointer (some a.ma))∧Fr w w' (oX a (MF level) [])):=by
 have q:(if(if 2<level then 2 else level)>0 then(if 2<level then 2 else level)else 0)=level:=by
  rw[if_neg (show ¬2<level by omega)];split<;>omega
 refine qcr ?_
 rw[q]
 refine mL (Fr.start w) fun ma w1 C=>aO (VM (n:=256) (by decide)) ?_
 rintro _ w2 ⟨t1,v1,rfl,h2⟩
 have I:=h2 C
 refine⟨some t1,rfl,aC ?_⟩
 rw[Addr.add_zero']
 refine dT I 2 0 rfl (fun w3 f3=>aC (cI f3 2 5 rfl rfl (aG (fun hl=>?_) (fun hl=>?_))))
 ·have hl:0<level:=hl
  refine aO (VM (n:=65536) (by decide)) ?_
  rintro _ w4 ⟨t2,v2,rfl,h4⟩
  have f4:=h4 f3
  refine⟨some t2,rfl,aO qm9 ?_⟩
  rintro _ w5 ⟨xa,xv,rfl,h5⟩
  have f5:=h5 f4
  refine⟨some xa,rfl,aO qk8 ?_⟩
  rintro _ w6 ⟨sa,sv,rfl,h6⟩
  have f6:=h6 f5
  refine⟨some sa,rfl,aC ?_⟩
  rw[Addr.add_zero']
  refine dT f6 8 1 rfl (fun T J=>aC (dT J 8 3 rfl (fun U f8=>aC (dT f8 8 4 rfl (fun V u=>aC (cI u 8 5 rfl rfl (aG (fun j=>?_) (fun j=>?_))))))))
  ·have j:1<level:=j
   refine aO (VM (n:=65536) (by decide)) ?_
   rintro _ N ⟨t3,v3,rfl,A⟩
   have f10:=A u
   refine⟨some t3,rfl,aC ?_⟩
   rw[Addr.add_zero']
   refine dT f10 10 2 rfl (fun O r=>⟨⟨ma,t1,v1,t2,v2,xa,xv,sa,sv,t3,v3⟩,rfl,?_⟩)
   have g:=r.picks [10,8,9,6,7,4,5,2,3,0,1] (by decide)
   rw[R5 hl,VW j]
   have e:MG ⟨ma,t1,v1,t2,v2,xa,xv,sa,sv,t3,v3⟩ (MF level)=[aH t1,aH t2,aH t3,aH xa,aH sa,aB level,aB 1,aB 0,aB 0]:=by
    unfold MG MF;dsimp only;rw[if_pos hl,if_pos j,if_pos hl,if_pos hl]
   rw[e];exact g
  ·have j:¬1<level:=j
   refine⟨⟨ma,t1,v1,t2,v2,xa,xv,sa,sv,ma,v1⟩,rfl,?_⟩
   have g:=u.picks [8,6,7,4,5,2,3,0,1] (by decide)
   have e3:qhc ⟨ma,t1,v1,t2,v2,xa,xv,sa,sv,ma,v1⟩ (MF level)=[]:=if_neg j
   rw[R5 hl,e3]
   have e:MG ⟨ma,t1,v1,t2,v2,xa,xv,sa,sv,ma,v1⟩ (MF level)=[aH t1,aH t2,.pointer none,aH xa,aH sa,aB level,aB 1,aB 0,aB 0]:=by
    unfold MG MF;dsimp only;rw[if_pos hl,if_neg j,if_pos hl,if_pos hl]
   rw[e];exact g
 ·have hl:¬0<level:=hl
  have h0:level=0:=by omega
  refine aC (cI f3 2 5 rfl rfl (aG (fun j=>absurd (show(1:Int)<level from j) (by omega)) (fun j=>?_)))
  refine⟨⟨ma,t1,v1,ma,v1,ma,v1,ma,v1,ma,v1⟩,rfl,?_⟩
  have g:=f3.picks [2,0,1] (by decide)
  rw[qtq h0]
  have e:MG ⟨ma,t1,v1,ma,v1,ma,v1,ma,v1,ma,v1⟩ (MF level)=[aH t1,.pointer none,.pointer none,.pointer none,.pointer none,aB level,aB 1,aB 0,aB 0]:=by
   unfold MG MF;dsimp only;rw[if_neg (show ¬0<level by omega),if_neg (show ¬1<level by omega)]
  rw[e];exact g
end
end
section
section
variable {w0 w w':World} {F G:List It}
theorem Fr.perm(hp:F.Perm G):Fr w0 w F→Fr w0 w G:=by
 induction hp with
 |nil=>exact fun h=>h
 |cons a hp u=>exact fun h=>⟨h.1,h.2.1,fun jt hj=>h.2.2.1 jt (hp.mem_iff.2 hj),u h.2.2.2⟩
 |swap a b l=>
  intro h
  refine⟨h.2.2.2.1,h.2.2.2.2.1,fun jt hj k hk j=>?_,h.1,h.2.1,fun jt hj=>h.2.2.1 jt (by simp [hj]),h.2.2.2.2.2.2⟩
  rcases List.mem_cons.1 hj with rfl|hj
  ·exact h.2.2.1 a (by simp) k j hk
  ·exact h.2.2.2.2.2.1 jt hj k hk j
 |trans _ _ q r=>exact fun h=>r (q h)
theorem Fr.left{G:List It}:∀{F:List It},Fr w0 w (F++G)→Fr w0 w F
 |[],h=>h.old
 |it::F,h=>⟨h.1,h.2.1,fun jt hj=>h.2.2.1 jt (qbq _ hj),Fr.left h.2.2.2⟩
theorem Fr.right{G:List It}:∀{F:List It},Fr w0 w (F++G)→Fr w0 w G
 |[],h=>h
 |_::_,h=>Fr.right h.2.2.2
end
end
section
def zJ(x:Int):Int:=cV .u32 x 24
def ZP(l:Int):Int:=qY .u32 l 8
def XZ(h:Int):Int:=L3 .u32 (qY .u32 h 8) 255
def BT(l h ch:Int):Int:=vX (vX (l+vX (vX (Int.tdiv (vX (h-l)) 4096)*vX (GA 1 4095 ch)))+vX (Int.tdiv (vX (Int.tmod (vX (h-l)) 4096*vX (GA 1 4095 ch))) 4096))
theorem YB{l:Int}(h0:0≤l):ZP l=l*256%4294967296:=HC (k:=.u32) rfl (n:=8) (by decide) h0
theorem YA{h:Int}(h0:0≤h):XZ h=(h*256+255)%4294967296:=by
 have e1:qY .u32 h 8=h*256%4294967296:=HC (k:=.u32) rfl (n:=8) (by decide) h0
 have e2:h*256%4294967296=h%16777216*((2^8:Nat):Int):=by rw[show((2^8:Nat):Int)=256 from rfl];omega
 unfold XZ
 rw[e1,e2,qem (k:=.u32) (m:=8) rfl (by decide) (by decide) (by omega) (by rw[show((2^8:Nat):Int)=256 from rfl,show((2^IntKind.u32.bits:Nat):Int)=4294967296 from rfl];omega),show((2^8:Nat):Int)=256 from rfl]
 omega
def apN:Nat→Int→Int→Prop
 |0,l,h=>zJ l≠zJ h
 |f+1,l,h=>apN f (ZP l) (XZ h)
theorem IR{l:Int}(h:0≤l):0≤ZP l:=by rw[YB h];omega
theorem IQ{l:Int}(h:0≤l):0≤XZ l:=by rw[YA h];omega
theorem qqM{l h:Int}(hl:0≤l)(hh:0≤h):apN 4 l h:=by
 have a1:=IR hl;have a2:=IR a1;have a3:=IR a2
 have j:=IQ hh;have q:=IQ j;have r:=IQ q
 have e1:ZP (ZP (ZP (ZP l)))=0:=by rw[YB a3,YB a2,YB a1,YB hl];omega
 have e2:XZ (XZ (XZ (XZ h)))=4294967295:=by rw[YA r,YA q,YA j,YA hh];omega
 show zJ (ZP (ZP (ZP (ZP l))))≠zJ (XZ (XZ (XZ (XZ h))))
 rw[e1,e2];decide
def qtK:Option Value→Nat
 |some (.slice _ n _)=>n
 |_=>0
structure EnS where
 low:Int
 high:Int
 out:List Int
def enL:Nat→EnS→EnS
 |0,e=>e
 |f+1,e=>if zJ e.low=zJ e.high then enL f ⟨ZP e.low,XZ e.high,e.out++[u8 (zJ e.low)]⟩else e
def tkI(l h bit m:Int):Int×Int:=if bit≠0 then(l,m)else(vX (m+1),h)
def enS(e:EnS)(bit ch:Int):EnS:=enL 4 ⟨(tkI e.low e.high bit (BT e.low e.high ch)).1,(tkI e.low e.high bit (BT e.low e.high ch)).2,e.out⟩
theorem qmo:∀(f:Nat) (e:EnS),0≤e.low→0≤e.high→(0≤(enL f e).low∧0≤(enL f e).high)∧(enL f e).out.length≤e.out.length+f
 |0,e,h1,h2=>⟨⟨h1,h2⟩,cJ _⟩
 |f+1,e,h1,h2=>by
  rw[enL]
  split
  ·have h:=qmo f ⟨ZP e.low,XZ e.high,e.out++[u8 (zJ e.low)]⟩ (IR h1) (IQ h2)
   refine⟨h.1,?_⟩
   have:=h.2
   simp only[bD,N1]at this
   omega
  ·exact⟨⟨h1,h2⟩,by omega⟩
theorem qon(a:Int):0≤vX a:=by rw[yP];omega
theorem qc6{l h bit m:Int}(h1:0≤l)(h2:0≤h)(h3:0≤m):0≤(tkI l h bit m).1∧0≤(tkI l h bit m).2:=by
 unfold tkI;split
 ·exact⟨h1,h3⟩
 ·exact⟨qon _,h2⟩
theorem TC(l h ch:Int):0≤BT l h ch:=qon _
theorem qrD{e:EnS}{bit ch:Int}(h1:0≤e.low)(h2:0≤e.high):(0≤(enS e bit ch).low∧0≤(enS e bit ch).high)∧(enS e bit ch).out.length≤e.out.length+4:=by
 have h:=qc6 (bit:=bit) h1 h2 (TC e.low e.high ch)
 exact qmo 4 _ h.1 h.2
section
variable {w0 w:World} {F:List It} {sa:Addr} {l h:Int} {cs:List Value}
theorem qfh{ch:Int}(f:Fr w0 w F)(i:Nat)(hi:F[i]?=some (aT sa (.int .u32 l::.int .u32 h::cs))):
  Calls P qN #[aH sa,aB ch] w (fun e w'=>e=aW (.int .u32 (BT l h ch))∧Ev w w'):=by
 have j:=f.drew.cell i 0 hi rfl
 have q:=f.drew.cell i 1 hi rfl
 exact KO (aC (aN (mM q) (aC (aN (mM j) (aC (bG j ⟨rfl,Ev.drew0 w⟩))))))
theorem qaZ{bit m:Int}(f:Fr w0 w F)(i:Nat)(hi:F[i]?=some (aT sa (.int .u32 l::.int .u32 h::cs))):
  Calls P pB #[aH sa,aB bit,.int .u32 m] w (fun e w'=>e=bP #[]∧Fr w0 w' (F.set i (aT sa (.int .u32 (tkI l h bit m).1::.int .u32 (tkI l h bit m).2::cs)))):=by
 refine HR (cA (fun hb=>aC (dT f i 1 hi (fun w1 j=>⟨rfl,?_⟩) (by simp))) (fun hb=>aC (dT f i 0 hi (fun w1 j=>⟨rfl,?_⟩) (by simp))))
 ·unfold tkI;rw[if_pos hb];exact j
 ·unfold tkI;rw[if_neg (show ¬bit≠0 by omega)];exact j
def shC(l h:Int):Int×Int×Int:=if zJ l=zJ h then(u8 (zJ l),ZP l,XZ h)else(0,l,h)
theorem YC(f:Fr w0 w F)(i:Nat)(hi:F[i]?=some (aT sa (.int .u32 l::.int .u32 h::cs))):
  Calls P gK #[aH sa] w (fun e w'=>e=bP #[.int .u8 (shC l h).1,.bool (decide (zJ l=zJ h))]∧Fr w0 w' (F.set i (aT sa (.int .u32 (shC l h).2.1::.int .u32 (shC l h).2.2::cs)))):=by
 have r:∀cs,(F.set i (aT sa cs))[i]?=some (aT sa cs):=fun cs=>by
  have:=(List.getElem?_eq_some_iff.1 hi).1
  rw[ZG];simp [this]
 have q:F.set i (aT sa (.int .u32 l::.int .u32 h::cs))=F:=by
  obtain⟨h1,h2⟩:=(List.getElem?_eq_some_iff.1 hi)
  rw[←h2];exact List.set_getElem_self h1
 have u:=f.drew.cell i 0 hi rfl
 have C:=f.drew.cell i 1 hi rfl
 refine FG (aC (aN (mM u) (aC (aN (mM C) (cA (fun j=>?_) (fun he=>?_))))))
 ·have j:zJ l≠zJ h:=j
  have e:shC l h=(0,l,h):=if_neg j
  rw[e,decide_eq_false j,q]
  exact⟨rfl,f.drew⟩
 ·have he:zJ l=zJ h:=he
  have e:shC l h=(u8 (zJ l),ZP l,XZ h):=if_pos he
  rw[e,decide_eq_true he]
  refine aC (bG u ⟨fun _=>True,fun w'=>w'.cell? (sa.add 0)=some (.int .u32 l)∧w'.cell? (sa.add 1)=some (.int .u32 h),⟨trivial,f.drew.drew.cell i 0 hi rfl,f.drew.drew.cell i 1 hi rfl⟩,aC (aN (fun w' hw=>hw.1) (aC (aN (fun w' hw=>hw.2) (aC ?_))))⟩)
  refine dT f.drew.drew i 0 hi (fun w1 I=>⟨trivial,aC (dT I i 1 (r _) (fun w2 A=>⟨trivial,rfl,?_⟩) (by simp))⟩) (by simp)
  rw[List.set_set]at A
  exact A
end
section
variable {w0 w:World} {F:List It} {ea:Addr} {v:Value} {E:EnS}
def enC(E:EnS)(v:Value):List Value:=[.int .u32 E.low,.int .u32 E.high,v]
noncomputable def QV(ea:Addr)(v:Value)(E:EnS)(F:List It):List It:=aT ea (enC E v)::bI .u8 eB v E.out::F
set_option maxHeartbeats 800000 in
theorem qf8{bit ch:Int}(f:Fr w0 w (QV ea v E F))(h1:0≤E.low)(h2:0≤E.high)(hl:E.out.length≤1000000000):
  Calls P nN #[aH ea,aB bit,aB ch] w (fun e w'=>e=bP #[]∧∃v',Fr w0 w' (QV ea v' (enS E bit ch) F)):=by
 have f:Fr w0 w (aT ea [.int .u32 E.low,.int .u32 E.high,v]::bI .u8 eB v E.out::F):=f
 refine R9 (fO (iR ⟨fun _=>True,trivial,aC (aC ?_)⟩))
 rw[Addr.add_zero']
 refine bQ (qfh f.drew 0 rfl) fun w1 e1=>⟨trivial,?_⟩
 have f1:=f.drew.ev e1
 refine cZ (qaZ (bit:=bit) (m:=BT E.low E.high ch) f1 0 rfl) fun w2 J=>⟨trivial,aC ?_⟩
 rw[Addr.add_zero']
 obtain⟨hA,hB⟩:=qc6 (bit:=bit) h1 h2 (TC E.low E.high ch)
 have T:enS E bit ch=enL 4 ⟨(tkI E.low E.high bit (BT E.low E.high ch)).1,(tkI E.low E.high bit (BT E.low E.high ch)).2,E.out⟩:=rfl
 generalize(tkI E.low E.high bit (BT E.low E.high ch)).1=L at hA T J
 generalize(tkI E.low E.high bit (BT E.low E.high ch)).2=H at hB T J
 have J:Fr w0 w2 (aT ea [.int .u32 L,.int .u32 H,v]::bI .u8 eB v E.out::F):=J
 have ap:=qqM hA hB
 have step:∀{w':World} {L H:Int} {v:Value} {o:List Int} {g:Nat},apN g L H→0≤L→0≤H→g≤4→o.length+g≤E.out.length+4→enL g ⟨L,H,o⟩=enS E bit ch→Fr w0 w' (aT ea [.int .u32 L,.int .u32 H,v]::bI .u8 eB v o::F)→
   Calls P gK #[aH ea] w' (fun e O=>∃(c:Int) (is:Bool) (I:Nat) (C A:Int),e=bP #[.int .u8 c,.bool is]∧I≤4∧(0≤C∧0≤A)∧(is=true→(0≤c∧c<256)∧I+1=g∧apN I C A∧enL I ⟨C,A,o++[c]⟩=enS E bit ch)∧(is=false→enS E bit ch=⟨C,A,o⟩)∧Fr w0 O (aT ea [.int .u32 C,.int .u32 A,v]::bI .u8 eB v o::F)):=by
  intro w' L H v o g r hL hH u ab j fw
  refine(YC fw 0 rfl).mono ?_
  rintro _ O ⟨rfl,f3⟩
  by_cases ht:zJ L=zJ H
  ·have e:shC L H=(u8 (zJ L),ZP L,XZ H):=if_pos ht
   rw[e]at f3⊢
   cases g with
   |zero=>exact absurd ht r
   |succ g=>
    rw[enL,if_pos ht]at j
    refine⟨_,_,g,ZP L,XZ H,rfl,by omega,⟨IR hL,IQ hH⟩,fun _=>⟨by rw[nF];omega,rfl,r,j⟩,fun hc=>?_,f3⟩
    rw[decide_eq_true ht]at hc;cases hc
  ·have e:shC L H=(0,L,H):=if_neg ht
   rw[e]at f3⊢
   refine⟨_,_,0,L,H,rfl,by omega,⟨hL,hH⟩,fun hc=>?_,fun _=>?_,f3⟩
   ·rw[decide_eq_false ht]at hc;cases hc
   ·rw[←j]
    cases g with
    |zero=>rfl
    |succ g=>rw[enL,if_neg ht]
 refine aO (step ap hA hB (cJ _) (cJ _) T.symm J) ?_
 rintro _ w3 ⟨c,is,g,L1,H1,rfl,u,q,Y,V,f3⟩
 refine⟨_,_,rfl,fun c is w'=>∃(g:Nat) (L H:Int) (o:List Int) (v:Value),g≤4∧(0≤L∧0≤H)∧(is=true→(0≤c∧c<256)∧o.length+1+g≤E.out.length+4∧apN g L H∧enL g ⟨L,H,o++[c]⟩=enS E bit ch)∧(is=false→enS E bit ch=⟨L,H,o⟩)∧Fr w0 w' (aT ea [.int .u32 L,.int .u32 H,v]::bI .u8 eB v o::F),fun c is w'=>E.out.length+4-qtK (w'.cell? (ea.add 2)),?_,?_⟩
 ·exact⟨g,L1,H1,E.out,v,u,q,fun h=>by obtain⟨k1,k2,k3,k4⟩:=Y h;exact⟨k1,by omega,k3,k4⟩,V,f3⟩
 rintro _ c is w4 ⟨g,L,H,o,v4,u,q,Y,V,f4⟩
 have N:∀{w':World} {v:Value} {o:List Int} {L H:Int},Fr w0 w' (aT ea [.int .u32 L,.int .u32 H,v]::bI .u8 eB v o::F)→qtK (w'.cell? (ea.add 2))=o.length:=fun{w' v o L H} hf=>by
  rw[hf.cell 0 2 rfl rfl]
  obtain⟨a,c,hv,_⟩:=(hf.nm 1 rfl).1
  rw[hv];rfl
 refine iQ (fun hi=>?_) (fun hi=>?_)
 ·obtain⟨hc,ab,r,j⟩:=Y hi
  refine aC (dY f4 0 2 rfl rfl (jF [c] f4 rfl rfl (fun x hx=>by rw[List.mem_singleton.1 hx];exact IZ hc) fun y w5 f5=>vZ f5 2 rfl (f5.nm 0 rfl) (by simp;omega) fun v6 w6 f6=>aC ?_))
  have f6:=f6.drop 0
  have f6:Fr w0 w6 (aT ea [.int .u32 L,.int .u32 H,v4]::bI .u8 eB v6 (o++[c])::F):=f6
  refine dT f6 0 2 rfl (fun w7 U=>aC ?_) (by simp) (qfo (f6.nm 1 rfl).1).2 (f6.nm 1 rfl).one
  have U:Fr w0 w7 (aT ea [.int .u32 L,.int .u32 H,v6]::bI .u8 eB v6 (o++[c])::F):=U
  rw[Addr.add_zero']
  refine aO (step (o:=o++[c]) r q.1 q.2 u (by simp;omega) j U) ?_
  rintro _ w8 ⟨c',ak,I,C,A,rfl,aa,M,Z,X,f8⟩
  refine⟨_,_,rfl,⟨I,C,A,o++[c],v6,aa,M,fun h=>by obtain⟨k1,k2,k3,k4⟩:=Z h;exact⟨k1,by simp;omega,k3,k4⟩,X,f8⟩,?_⟩
  dsimp only
  rw[N f8,N f4,bD,N1];omega
 ·refine⟨rfl,v4,?_⟩
  rw[V hi];exact f4
end
section
variable {w0 w:World} {F:List It}
def en0:EnS:=⟨0,4294967295,[]⟩
theorem qah:Calls P yH #[] w (fun e w'=>e=aW (.agg #[.int .u32 0,.int .u32 4294967295])∧Ev w w'):=
 WK (dX (z:=.agg #[.int .u32 0,.int .u32 0]) (Fr.start w) (by kernel_rfl) fun a w1 q=>cS q 0 rfl (fun w2 j=>gE j 0 rfl ⟨rfl,j.old⟩))
theorem AZ:Calls P nO #[] w (fun e w'=>∃ea v,e=aW (aH ea)∧∀{w0 F},Fr w0 w F→Fr w0 w' (QV ea v en0 F)):=by
 refine FE (aO qah ?_)
 rintro _ w1 ⟨rfl,h1⟩
 refine⟨_,_,rfl,mL (Fr.start w1) fun ea w2 j=>⟨ea,bR,rfl,fun{w0 F} f=>?_⟩⟩
 have f3:=(Fr.glue (f.ev h1) j).nil0 .u8 eB
 exact f3.picksN 2 [1,0] (by decide) (by decide)
def flB(E:EnS):List Int:=E.out++[u8 (cV .u32 E.low 24),u8 (cV .u32 E.low 16),u8 (cV .u32 E.low 8),u8 E.low]
set_option maxHeartbeats 800000 in
theorem qjN{ea:Addr}{v:Value}{E:EnS}(f:Fr w0 w (QV ea v E F))(hl:E.out.length≤1000000000):
  Calls P oQ #[aH ea] w (fun e w'=>∃y,e=aW y∧Fr w0 w' (bI .u8 eB y (flB E)::F)):=by
 have f:Fr w0 w (aT ea [.int .u32 E.low,.int .u32 E.high,v]::bI .u8 eB v E.out::F):=f
 have C:∀{w':World} {G:List It},Fr w0 w' (aT ea [.int .u32 E.low,.int .u32 E.high,v]::G)→w'.cell? (ea.add 0)=some (.int .u32 E.low)∧w'.cell? (ea.add 2)=some v:=fun hf=>⟨hf.cell 0 0 rfl rfl,hf.cell 0 2 rfl rfl⟩
 have j:∀{w':World} {it:It} {G:List It},Fr w0 w' (it::aT ea [.int .u32 E.low,.int .u32 E.high,v]::G)→w'.cell? (ea.add 0)=some (.int .u32 E.low)∧w'.cell? (ea.add 2)=some v:=fun hf=>⟨hf.cell 1 0 rfl rfl,hf.cell 1 2 rfl rfl⟩
 refine X9 (fO (iR ⟨fun w'=>w'.cell? (ea.add 0)=some (.int .u32 E.low)∧w'.cell? (ea.add 2)=some v,C f.drew,aC (dE (fun w' hw=>hw.2) (aC ?_))⟩))
 rw[Addr.add_zero']
 refine aN (fun w' hw=>hw.1) (aC (aN (fun w' hw=>hw.1) (aC (aN (fun w' hw=>hw.1) (aC (aN (fun w' hw=>hw.1) ?_))))))
 refine jF [u8 (cV .u32 E.low 24),u8 (cV .u32 E.low 16),u8 (cV .u32 E.low 8),u8 E.low] f.drew rfl rfl (fun x hx=>?_) fun y w1 q=>⟨j q,?_⟩
 ·simp at hx
  rcases hx with rfl|rfl|rfl|rfl<;>exact IZ (by rw[nF];omega)
 refine vZ q 2 rfl (q.nm 0 rfl) (by simp;omega) fun v2 w2 r=>⟨j r,?_⟩
 refine aO AZ ?_
 rintro _ w3 ⟨I,A,rfl,h3⟩
 have f3:=h3 r
 have f3:Fr w0 w3 (aT I [.int .u32 0,.int .u32 4294967295,A]::bI .u8 eB A []::bI .u8 eB y [u8 (cV .u32 E.low 24),u8 (cV .u32 E.low 16),u8 (cV .u32 E.low 8),u8 E.low]::aT ea [.int .u32 E.low,.int .u32 E.high,v]::bI .u8 eB v2 (flB E)::F):=f3
 refine⟨_,rfl,aC (gE f3 0 rfl (aC (cS f3 3 rfl (fun w4 f4=>⟨v2,rfl,f4.dropN 4⟩) rfl (fun u hu=>?_))))⟩
 simp at hu
 rcases hu with rfl|rfl|rfl
 ·rfl
 ·rfl
 ·exact(qfo (f3.nm 1 rfl).1).2
end
end
section
theorem mN(a:MdA)(m:MdS)(F:List It):oX a m F=oX a m []++F:=by
 unfold oX
 split
 ·simp
 ·simp
structure PkS where
 e:EnS
 m:MdS
def okK(p:PkS)(n:Nat):Prop:=(0≤p.e.low∧0≤p.e.high)∧p.e.out.length≤n∧okD p.m
def qrs(p:PkS)(bit:Int):PkS:=⟨enS p.e bit (rU p.m),lnM (ZN p.m) bit⟩
theorem qi7{p:PkS}{n:Nat}{bit:Int}(h:okK p n):okK (qrs p bit) (n+4):=by
 have h1:=qrD (bit:=bit) (ch:=rU p.m) h.1.1 h.1.2
 have:=h.2.1
 exact⟨h1.1,by have:=h1.2;show(enS _ _ _).out.length≤_;omega,qnt (OA h.2.2)⟩
def qdE(c:Int)(k:Nat):Int:=i64 (xS .u8 (cV .u8 c k) 1)
def qcV(c:Int):Nat→PkS→PkS
 |0,p=>p
 |k+1,p=>qcV c k (qrs p (qdE c k))
def IP(p:PkS)(c:Int):PkS:=qcV c 8 p
theorem qcB{c:Int}:∀{k:Nat} {p:PkS} {n:Nat},okK p n→okK (qcV c k p) (n+4*k)
 |0,p,n,h=>h
 |k+1,p,n,h=>by
  have h1:=qcB (c:=c) (k:=k) (qi7 (bit:=qdE c k) h)
  rw[show n+4+4*k=n+4*(k+1)by omega]at h1
  exact h1
def qrc(level:Int)(xs:List Int):PkS:=xs.foldl IP ⟨en0,MF level⟩
def qq7(level:Int)(xs:List Int):List Int:=flB (qrc level xs).e
theorem qeO:∀(xs:List Int) {p:PkS} {n:Nat},okK p n→okK (xs.foldl IP p) (n+32*xs.length)
 |[],p,n,h=>h
 |x::xs,p,n,h=>by
  have h1:okK (IP p x) (n+4*8):=qcB h
  have h2:=qeO xs h1
  rw[List.foldl_cons,iO]
  rw[show n+4*8+32*xs.length=n+32*(xs.length+1)by omega]at h2
  exact h2
theorem qtx{level:Int}(h:0≤level∧level≤2):okK ⟨en0,MF level⟩ 0:=⟨⟨(by decide:(0:Int)≤0),(by decide:(0:Int)≤4294967295)⟩,cJ _,qtu h⟩
def FT(level:Int):Bool:=if level≥0 then decide (level<3)else false
section
variable {w0 w:World} {F:List It}
theorem VU{level:Int}:Calls P vC #[aB level] w (fun e w'=>e=aW (.bool (FT level))∧w'=w):=
 RT (aG (fun h=>⟨by unfold FT;rw[if_pos h],rfl⟩) (fun h=>⟨by unfold FT;rw[if_neg h],rfl⟩))
theorem qrE{a:MdA}{m:MdS}{ea:Addr}{v:Value}{E:EnS}{F:List It}:(oX a m (QV ea v E F)).Perm (QV ea v E (oX a m F)):=by
 rw[mN a m (QV ea v E F),mN a m F]
 unfold QV
 refine List.perm_middle.trans (List.Perm.cons _ ?_)
 exact List.perm_middle
set_option maxHeartbeats 800000 in
theorem qk1{a:MdA}{ea pa:Addr}{v:Value}{p:PkS}{c:Int}{n:Nat}(hc:0≤c∧c<256)(f:Fr w0 w (aT pa [aH ea,.pointer (some a.ma)]::QV ea v p.e (oX a p.m F)))(ok:okK p n)(hn:n≤900000000):
  Calls P rF #[aH pa,.int .u8 c] w (fun e w'=>e=bP #[]∧∃v',Fr w0 w' (aT pa [aH ea,.pointer (some a.ma)]::QV ea v' (IP p c).e (oX a (IP p c).m F))):=by
 refine CT ⟨fun k w'=>∃(z:Nat) (q:PkS) (v:Value),k=(z:Int)-1∧z≤8∧okK q (n+4*(8-z))∧qcV c z q=IP p c∧Fr w0 w' (aT pa [aH ea,.pointer (some a.ma)]::QV ea v q.e (oX a q.m F)),fun k _=>(k+1).toNat,⟨8,p,v,rfl,cJ _,ok,rfl,f⟩,?_⟩
 rintro _ k w1 ⟨z,q,v1,rfl,hz,j,u,N⟩
 refine aG (fun T=>?_) (fun cR=>?_)
 ·obtain⟨y,rfl⟩:∃y,z=y+1:=⟨z-1,by omega⟩
  have hk:(((y+1:Nat):Int)-1)=(y:Int):=by omega
  rw[hk]
  refine pL (by omega) ?_
  have r:i64 (xS .u8 (cV .u8 c (y:Int)) 1)=qdE c y:=rfl
  rw[r]
  have M:∀{w':World} {G:List It},Fr w0 w' (aT pa [aH ea,.pointer (some a.ma)]::G)→w'.cell? (pa.add 0)=some (aH ea)∧w'.cell? (pa.add 1)=some (.pointer (some a.ma)):=fun hf=>⟨hf.cell 0 0 rfl rfl,hf.cell 0 1 rfl rfl⟩
  have C:∀{w':World} {v:Value} {q:EnS} {m:MdS},Fr w0 w' (aT pa [aH ea,.pointer (some a.ma)]::QV ea v q (oX a m F))→Fr w0 w' (oX a m (aT pa [aH ea,.pointer (some a.ma)]::QV ea v q F)):=fun{w' v q m} hf=>by
   refine hf.perm ?_
   rw[mN a m (_::_),mN a m F]
   refine List.Perm.symm (List.perm_middle.trans (List.Perm.cons _ ?_))
   unfold QV
   exact List.perm_middle.trans (List.Perm.cons _ List.perm_middle)
  have I:∀{w':World} {v:Value} {q:EnS} {m:MdS},Fr w0 w' (oX a m (aT pa [aH ea,.pointer (some a.ma)]::QV ea v q F))→Fr w0 w' (aT pa [aH ea,.pointer (some a.ma)]::QV ea v q (oX a m F)):=fun{w' v q m} hf=>by
   refine hf.perm ?_
   rw[mN a m (_::_),mN a m F]
   refine(List.perm_middle.trans (List.Perm.cons _ ?_))
   unfold QV
   exact List.perm_middle.trans (List.Perm.cons _ List.perm_middle)
  refine⟨fun w'=>w'.cell? (pa.add 0)=some (aH ea)∧w'.cell? (pa.add 1)=some (.pointer (some a.ma)),M N.drew,aC (mS (v:=some ea) (fun w' hw=>hw.1) (aC (mS (v:=some a.ma) (fun w' hw=>hw.2) ?_)))⟩
  refine bQ (GM (C N.drew) j.2.2) fun w2 J=>?_
  have J:=I J
  refine⟨M J,?_⟩
  have O:Fr w0 w2 (QV ea v1 q.e (aT pa [aH ea,.pointer (some a.ma)]::oX a (ZN q.m) F)):=J.perm (by
   unfold QV
   exact(List.Perm.swap _ _ _).trans (List.Perm.cons _ (List.Perm.swap _ _ _)))
  refine cZ (qf8 (bit:=qdE c y) (ch:=rU q.m) O j.1.1 j.1.2 (by have:=j.2.1;omega)) fun w3 ⟨v3,f3⟩=>?_
  have f3:Fr w0 w3 (aT pa [aH ea,.pointer (some a.ma)]::QV ea v3 (enS q.e (qdE c y) (rU q.m)) (oX a (ZN q.m) F)):=f3.perm (by
   unfold QV
   exact((List.Perm.cons _ (List.Perm.swap _ _ _)).trans (List.Perm.swap _ _ _)))
  refine⟨M f3,aC (fJ (v:=some a.ma) (M f3).2 (cZ (TP (bit:=qdE c y) (C f3) (OA j.2.2)) fun w4 f4=>?_))⟩
  have f4:=I f4
  have A:=qi7 (bit:=qdE c y) j
  rw[show n+4*(8-(y+1))+4=n+4*(8-y)by omega]at A
  refine⟨⟨y,qrs q (qdE c y),v3,by rw[aD (by omega) (by omega)],by omega,A,u,f4⟩,by dsimp only;rw[aD (by omega) (by omega)];omega⟩
 ·obtain rfl:z=0:=by omega
  refine⟨rfl,v1,?_⟩
  rw[←u];exact N
def gR(level:Int)(xs:List Int):List Int×Int:=if FT level=false then([],1)else if(xs.length:Int)>1048576 then([],5)else(qq7 level xs,0)
set_option maxHeartbeats 800000 in
theorem qaY{b:Value}{xs:List Int}{level:Int}(hb:Nm .u8 w b xs):Calls P yM #[b,aB level] w (yQ w (gR level xs)):=by
 refine XA (hZ VU (oO (fun q=>?_) (fun q=>?_)))
 ·have q:FT level=false:=q
  have e:gR level xs=([],1):=by unfold gR;rw[if_pos q]
  rw[e];exact⟨_,rfl,Ch.refl _ w,ON.nil _ _ _ _⟩
 have q:FT level=true:=q
 refine aP hb (aG (fun hg=>?_) (fun hg=>?_))
 ·have e:gR level xs=([],5):=by unfold gR;rw[if_neg (by rw[q];decide),if_pos hg]
  rw[e];exact⟨_,rfl,Ch.refl _ w,ON.nil _ _ _ _⟩
 have u:0≤level∧level≤2:=by
  unfold FT at q
  split at q
  ·have:=of_decide_eq_true q;omega
  ·cases q
 have e:gR level xs=(qq7 level xs,0):=by unfold gR;rw[if_neg (by rw[q];decide),if_neg hg]
 rw[e]
 have O:xs.length≤1048576:=by omega
 refine aO AZ ?_
 rintro _ w1 ⟨ea,v,rfl,h1⟩
 have M:=h1 (Fr.start w)
 refine⟨_,rfl,aO (qdW u) ?_⟩
 rintro _ w2 ⟨a,rfl,A⟩
 have A:Fr w w2 (QV ea v en0 (oX a (MF level) [])):=(Fr.glue M A).perm (by
  rw[show oX a (MF level) []++QV ea v en0 []=oX a (MF level) (QV ea v en0 [])from(mN _ _ _).symm]
  exact qrE)
 refine⟨_,rfl,mL A fun pa w3 f3=>aP (hb.ev f3.old) ⟨fun t w'=>∃(j:Nat) (v:Value),t=(j:Int)∧j≤xs.length∧okK ((xs.take j).foldl IP ⟨en0,MF level⟩) (32*j)∧Fr w w' (aT pa [aH ea,.pointer (some a.ma)]::QV ea v ((xs.take j).foldl IP ⟨en0,MF level⟩).e (oX a ((xs.take j).foldl IP ⟨en0,MF level⟩).m [])),fun t _=>(xs.length-t).toNat,⟨0,v,rfl,bW _,qtx u,f3⟩,?_⟩⟩
 rintro _ t w4 ⟨j,v4,rfl,hj,ok,f4⟩
 refine aG (fun cR=>?_) (fun N=>?_)
 ·have r:j<xs.length:=by omega
  refine dL (hb.ev f4.old) (by omega) (by omega) fun ad J hx=>bG J (cZ (qk1 (c:=rd xs (j:Int)) (jB hb.2 _) f4 ok (by omega)) fun w5 ⟨v5,f5⟩=>?_)
  have I:(xs.take (j+1)).foldl IP ⟨en0,MF level⟩=IP ((xs.take j).foldl IP ⟨en0,MF level⟩) (rd xs (j:Int)):=by
   rw[iV r,List.foldl_append,dK xs j r];rfl
  have C:okK (IP ((xs.take j).foldl IP ⟨en0,MF level⟩) (rd xs (j:Int))) (32*j+4*8):=qcB ok
  refine⟨⟨j+1,v5,by rw[aD (by omega) (by omega)];omega,by omega,?_,?_⟩,by dsimp only;rw[aD (by omega) (by omega)];omega⟩
  ·rw[I,show 32*(j+1)=32*j+4*8 by omega];exact C
  ·rw[I];exact f5
 ·obtain rfl:j=xs.length:=by omega
  rw[qU]at ok f4
  refine aC (fJ (v:=some ea) (f4.cell 0 0 rfl rfl) ?_)
  have f5:=f4.drop 0
  refine iY (qjN (F:=oX a (xs.foldl IP ⟨en0,MF level⟩).m []) f5 (by have:=ok.2.1;omega)) fun y w5 f6=>⟨y,rfl,f6.old,?_⟩
  have T:=f6.on 0 rfl
  exact T
end
end
section
theorem Stab.ws{w w1:World}{ad:Addr}{v v1:Value}{X:List Int}{Q:World→Prop}(hb:Stab (Ft ad v) w Q)(hW:WS w w1 ad v v1 X):Stab (Ft ad v1) w1 Q:=fun w2 h2=>hb w2 (Ch.trans hW.2.1 h2 fun n i hn hf=>by
 rcases hf with hf|hf
 ·exact .inl hf
 ·rcases hW.2.2 with hm|hm
  ·exact .inr (hm▸hf)
  ·have:=hm n hf;omega)
theorem Stab.evs{w w1:World}{S:SS}{Q:World→Prop}(hb:Stab S w Q)(h:Ev w w1):Stab S w1 Q:=fun w2 h2=>hb w2 (Ch.trans (h.mono fun _ _ _ h=>h.elim) h2 fun _ _ _ h=>h)
def qV(level:Int)(ys:List Int):List Int:=if(gR level ys).2≠0∨(gR level ys).1.length≥ys.length then eD 0++ys else eD 1++(eD (gR level ys).1.length++(gR level ys).1)
theorem EF:eD 0=[0]∧eD 1=[1]:=⟨by rw[eD];rfl,by rw[eD];rfl⟩
theorem qgr(level:Int)(ys:List Int):(qV level ys).length≤2*ys.length+40:=by
 unfold qV
 split
 ·rw[EF.1,bD,N1];omega
 ·rename_i h
  rw[EF.2,bD,bD,N1]
  have h2:(gR level ys).1.length<ys.length:=by
   rcases I6 (gR level ys).1.length ys.length with h3|h3
   ·exact h3
   ·exact absurd (.inr h3) h
  have h3:(eD (gR level ys).1.length).length≤10+(gR level ys).1.length:=by
   rcases I6 (gR level ys).1.length 18446744073709551616 with h4|h4
   ·have:=fH h4;omega
   ·have:=lY (gR level ys).1.length (gR level ys).1.length (Nat.lt_trans (Nat.lt_pow_self (by decide)) (Nat.pow_lt_pow_right (by decide) (Nat.lt_succ_self _)))
    omega
  omega
section
variable {w:World}
theorem qj6{ad:Addr}{v b:Value}{X ys:List Int}{level:Int}(hl:ys.length≤65536)(h:W1 w ad v X)(hb:Stab (Ft ad v) w (fun q=>Nm .u8 q b ys))(hX:X.length≤1000000000):
  Calls P nK #[aH ad,b,aB level] w (fun e q=>e=bP #[]∧∃v',WS w q ad v v' (X++qV level ys)):=by
 refine EY (aO (qaY (level:=level) hb.now) ?_)
 rintro _ w1 ⟨y,rfl,h1,J⟩
 have hW:=h.ev h1
 have C:=hb.evs h1
 obtain⟨r,A⟩:∃r,r=gR level ys:=⟨_,rfl⟩
 rw[←A]at J
 have ab:r.1.length≤1000000000:=by
  rw[A];unfold gR
  split
  ·decide
  ·rename_i j
   split
   ·decide
   ·have M:0≤level∧level≤2:=by
     have j:FT level=true:=by simpa using j
     unfold FT at j
     split at j
     ·have:=of_decide_eq_true j;omega
     ·cases j
    have ok:okK (qrc level ys) (0+32*ys.length):=qeO ys (qtx M)
    have:=ok.2.1
    show(flB _).length≤_
    unfold flB
    simp only[bD,iO,ME];omega
 have I:qV level ys=eD 0++ys→(aE P bY jO #[aH (ad.add 0),.int .u64 0] w1 fun U=>aS (some ad) fun(O:Addr)=>eG P aY 1 #[(0,b)] U fun(T:Value) V=>aE P cY jO #[aH (O.add 0),T] V fun Y=>(Ending.returned (.tuple #[])=Ending.returned (.tuple #[])∧∃v',WS w Y ad v v' (X++qV level ys))):=by
  intro e
  rw[Addr.add_zero']
  refine cZ (JD hW (n:=0) (by decide) (by omega)) fun w2 ⟨v2,hS⟩=>aC ?_
  rw[Addr.add_zero']
  refine T2 hS.1 (C.ws hS) (by rw[bD,show(0:Int).toNat=0 from rfl,EF.1,N1];omega) fun v3 w3 u=>⟨rfl,v3,?_⟩
  have:=(hS.trans u).pre h1
  rw[gY,show(0:Int).toNat=0 from rfl,←e]at this
  exact this
 refine⟨_,_,rfl,iC (fun h0=>aP J.nm (aP C.now (aG (fun aa=>aC (I ?_)) (fun cR=>aC ?_)))) (fun h0=>aC (I ?_))⟩
 ·unfold qV;rw[←A,if_pos (.inr (by omega))]
 ·have Z:r.1.length<ys.length:=by omega
  have e:qV level ys=eD 1++(eD r.1.length++r.1):=by
   unfold qV;rw[←A,if_neg]
   rintro(h2|h2)
   ·rw[A]at h2;exact h2 h0
   ·omega
  rw[e,Addr.add_zero']
  refine cZ (JD hW (n:=1) (by decide) (by omega)) fun w2 ⟨v2,hS⟩=>aC ?_
  rw[Addr.add_zero']
  have N:Stab (Ft ad v) w1 (fun q=>Nm .u8 q y r.1):=J.nm.stab fun g i hg cR hf=>by
   have hB:=(J.base hg).1
   have:=h.lt (k:=g) (i:=i) hf
   omega
  refine cZ (qdq hS.1 (N.ws hS) (by rw[bD,show(1:Int).toNat=1 from rfl,EF.2,N1];omega)) fun w3 ⟨v3,u⟩=>⟨rfl,v3,?_⟩
  have:=(hS.trans u).pre h1
  rw[gY,gY,show(1:Int).toNat=1 from rfl]at this
  exact this
 ·unfold qV;rw[←A,if_pos (.inl (by rw[A];exact h0))]
end
end
def H3(g:List Int→Int)(l:List Int):List Int:=rJ l.length fun i=>lT (rd l (i:Int)-g (l.take i))
def kF(g:List Int→Int)(l:List Int):Nat→List Int
 |0=>[]
 |k+1=>kF g l k++[lT (rd l (k:Int)+g (kF g l k))]
theorem sD(g:List Int→Int)(l:List Int):(H3 g l).length=l.length:=dS _ _
theorem xY(g:List Int→Int)(l:List Int):∀k,(kF g l k).length=k
 |0=>rfl
 |k+1=>by rw[kF,bD,xY g l k];rfl
theorem qmP(n:Int): -2147483648≤lT n∧lT n≤2147483647:=by rw[L2];omega
theorem qmU{l:List Int}:inR .i32 l↔∀x∈l, -2147483648≤x∧x≤2147483647:=by
 have h1:IntKind.i32.min= -2147483648:=by decide
 have h2:IntKind.i32.max=2147483647:=by decide
 unfold inR;rw[h1,h2]
theorem XW(g:List Int→Int)(l:List Int):∀k,inR .i32 (kF g l k)
 |0=>fun x hx=>by cases hx
 |k+1=>qmU.2 fun x hx=>by
  rw[kF]at hx
  rcases List.mem_append.1 hx with h|h
  ·exact qmU.1 (XW g l k) x h
  ·simp at h;subst h;exact qmP _
def atF(l:List Int)(k:Nat):Int:=if l.length<k then 0 else rd l ((l.length-k:Nat):Int)
def BL(o:Nat)(l:List Int):Int:=
 if o=1 then atF l 1 else if o=2 then lT (lT (2*atF l 1)-atF l 2)else if o=3 then lT (lT (lT (3*atF l 1)-lT (3*atF l 2))+atF l 3)else 0
def II(o:Int):Nat:=(if(if o<3 then o else 3)<0 then 0 else if o<3 then o else 3).toNat
def GD(v:Int):Int:=if v>0 then 1 else if v<0 then -1 else 0
def qst(ws ns:List Int):Nat→Int
 |0=>0
 |k+1=>i64 (qst ws ns k+i64 (rd ws (k:Int)*rd ns (k:Int)))
def qev(s:List Int×List Int):Int:=lT (cV .i64 (qst s.1 s.2 8) 8)
def qtn(e:Int)(ws ns:List Int):List Int:=rJ 8 fun k=>i64 (rd ws (k:Int)+i64 (e*GD (rd ns (k:Int))))
def qcb(s:List Int×List Int)(v:Int):List Int×List Int:=(qtn (GD (lT (v-qev s))) s.1 s.2,v::s.2.take 7)
def R3(l:List Int):List Int×List Int:=l.foldl qcb (List.replicate 8 0,List.replicate 8 0)
def kJ(l:List Int):Int:=qev (R3 l)
theorem qkJ{l:List Int}{k:Nat}(h:k<l.length):R3 (l.take (k+1))=qcb (R3 (l.take k)) l[k]:=by
 unfold R3;rw[iV h,List.foldl_append];rfl
theorem qkK(l:List Int)(v:Int):R3 (l++[v])=qcb (R3 l) v:=by unfold R3;rw[List.foldl_append];rfl
def smp(xs:List Int)(size i:Nat):Int:=if size=2 then i16 (rd xs (i:Int)+256*rd xs ((i+1:Nat):Int))else rd xs (i:Int)-128
def UU(ch t k:Nat):Nat:=(t+ch-1-k)/ch
def H8(xs:List Int)(ch size t k:Nat):List Int:=rJ (UU ch t k) fun j=>smp xs size ((j*ch+k)*size)
def qI(xs:List Int)(ch size t:Nat):List (List Int):=(List.range ch).map (H8 xs ch size t)
theorem IS(xs:List Int)(ch size t:Nat):(qI xs ch size t).length=ch:=by simp [qI]
theorem qrx{ch k:Nat}(hk:k<ch):UU ch 0 k=0:=by unfold UU;exact QQ (by omega)
theorem qmk{ch n k:Nat}(hk:k<ch):UU ch (n*ch) k=n:=by
 unfold UU
 have:n*ch+ch-1-k=n*ch+(ch-1-k):=by omega
 rw[this,A4,Nat.mul_add_div (by omega),QQ (by omega)];rfl
theorem qke{ch t k:Nat}(hk:k<ch):UU ch (t+1) k=if t%ch=k then UU ch t k+1 else UU ch t k:=by
 obtain⟨q,r,j,rfl⟩:∃q r,r<ch∧t=q*ch+r:=⟨t/ch,t%ch,Nat.mod_lt _ (by omega),by rw[A4,ZL]⟩
 have hm:(q*ch+r)%ch=r:=by rw[Nat.add_comm,Nat.add_mul_mod_self_right,zM j]
 have hd:∀a,(q*ch+a)/ch=q+a/ch:=fun a=>by rw[A4,Nat.mul_add_div (by omega)]
 rw[hm]
 unfold UU
 rw[show q*ch+r+1+ch-1-k=q*ch+(r+ch-k)by omega,show q*ch+r+ch-1-k=q*ch+(r+ch-1-k)by omega,hd,hd]
 have one:∀{a},ch≤a→a<2*ch→a/ch=1:=fun{a} h1 h2=>Nat.div_eq_of_lt_le (by omega) (by omega)
 split
 ·subst_vars
  rw[one (by omega) (by omega),QQ (show r+ch-1-r<ch by omega)]
 ·rcases I6 r k with h|h
  ·rw[QQ (show r+ch-k<ch by omega),QQ (show r+ch-1-k<ch by omega)]
  ·rw[one (show ch≤r+ch-k by omega) (by omega),one (show ch≤r+ch-1-k by omega) (by omega)]
theorem qdQ{ch t:Nat}(hc:0<ch):UU ch t (t%ch)=t/ch:=by
 unfold UU
 have h1:=Nat.mod_lt t hc
 have h2:=ZL t ch
 rw[show t+ch-1-t%ch=ch*(t/ch)+(ch-1)by omega,Nat.mul_add_div hc,QQ (show ch-1<ch by omega)];rfl
theorem qof(n:Nat)(f:Nat→Int):rJ (n+1) f=rJ n f++[f n]:=by unfold rJ;rw[List.range_succ,gQ];rfl
theorem qfE{xs:List Int}{ch size t k:Nat}(hk:k<ch):H8 xs ch size (t+1) k=if t%ch=k then H8 xs ch size t k++[smp xs size (t*size)]else H8 xs ch size t k:=by
 unfold H8
 rw[qke hk]
 split
 ·rename_i h
  subst h
  rw[qof,qdQ (by omega),A4 (t/ch) ch,ZL]
 ·rfl
theorem qfs{xs:List Int}{ch size t:Nat}(hc:0<ch):qI xs ch size (t+1)=(qI xs ch size t).set (t%ch) (H8 xs ch size t (t%ch)++[smp xs size (t*size)]):=by
 refine List.ext_getElem (by simp [qI]) fun k h1 h2=>?_
 have hk:k<ch:=by simpa [qI]using h1
 rw[List.getElem_set]
 simp only[qI,LX,List.getElem_range]
 rw[qfE hk]
 split
 ·rename_i h;subst h;rfl
 ·rfl
def FU(size:Nat)(v:Int):List Int:=if size=2 then [u8 v,u8 (v/256)]else [u8 (v+128)]
theorem qss{xs:List Int}(hx:inR .u8 xs){size i:Nat}(hs:size=1∨size=2)(hi:i+size≤xs.length):(size=1→ -128≤smp xs size i∧smp xs size i<128)∧(-32768≤smp xs size i∧smp xs size i<32768):=by
 have hb:=fun j (hj:j<xs.length)=>hx xs[j] (kH hj)
 have h1:IntKind.u8.min=0:=by decide
 have h2:IntKind.u8.max=255:=by decide
 simp only[h1,h2]at hb
 unfold smp
 rcases hs with rfl|rfl
 ·rw[if_neg (by omega),dK xs i (by omega)]
  have:=hb i (by omega)
  exact⟨fun _=>by omega,by omega⟩
 ·rw[if_pos rfl,qiS]
  exact⟨fun h=>by omega,by omega⟩
def R2(size:Nat)(ls:List (List Int))(n:Nat):List Int:=((List.range n).map fun(i:Nat)=>(ls.map fun l=>FU size (rd l (i:Int))).flatten).flatten
theorem VT(size:Nat)(ls:List (List Int))(n:Nat):R2 size ls (n+1)=R2 size ls n++(ls.map fun l=>FU size (rd l (n:Int))).flatten:=by
 unfold R2;rw[List.range_succ,gQ,LZ];simp
theorem qfq{size:Nat}(hs:size=1∨size=2)(v:Int):(FU size v).length=size:=by
 unfold FU;rcases hs with rfl|rfl<;>rfl
theorem JZ{size:Nat}(hs:size=1∨size=2)(ls:List (List Int)):∀n,(R2 size ls n).length=n*(ls.length*size)
 |0=>by simp [R2]
 |n+1=>by
  have:((ls.map fun l=>FU size (rd l (n:Int))).flatten).length=ls.length*size:=by
   induction ls with
   |nil=>simp
   |cons l ls j=>rw[U0,QN,bD,j,qfq hs,iO,mJ];omega
  rw[VT,bD,JZ hs ls n,this,mJ]
def nC(l r:List Int):List Int:=rJ l.length fun i=>lT (rd l (i:Int)-rd r (i:Int))
def zR(l r:List Int):List Int:=rJ l.length fun i=>lT (rd r (i:Int)+cV .i32 (lT (rd l (i:Int)-rd r (i:Int))) 1)
def lP(m s:List Int):List Int:=rJ m.length fun i=>lT (rd m (i:Int)-cV .i32 (rd s (i:Int)) 1)
def A7(m s:List Int):List Int:=rJ m.length fun i=>lT (rd (lP m s) (i:Int)+rd s (i:Int))
section
noncomputable abbrev eI:TypeId:=dD P aM
theorem W4(n:Int):IntKind.i32.min≤lT n∧lT n≤IntKind.i32.max:=by
 have h1:IntKind.i32.min= -2147483648:=by decide
 have h2:IntKind.i32.max=2147483647:=by decide
 rw[h1,h2];exact qmP _
theorem BK{a:List Int}{n k:Nat}(ha:a.length=k)(hk:k<n)(v:Int):(a++List.replicate (n-k) 0).set k v=(a++[v])++List.replicate (n-(k+1)) 0:=by
 rw[show n-k=(n-(k+1))+1 by omega,DQ,DP _ _ (by omega),ha,pH,MD,gY];rfl
def atI(xs:List Int)(i k:Nat):Int:=if i<k then 0 else rd xs ((i-k:Nat):Int)
theorem UB{xs:List Int}{i k:Nat}(hi:i≤xs.length)(hk:1≤k):atF (xs.take i) k=atI xs i k:=by
 unfold atF atI
 have hl:(xs.take i).length=i:=by rw[eJ];omega
 rw[hl]
 split
 ·rfl
 ·unfold rd
  simp only[dH,lH]
  rw[vW,if_pos (by omega)]
def wtN(l:List Int):Nat→Int
 |0=>0
 |k+1=>gD (wtN l k+gD (if i64 (0-i64 (rd l (k:Int)))>i64 (rd l (k:Int))then i64 (0-i64 (rd l (k:Int)))else i64 (rd l (k:Int))))
def wtF(l:List Int):Int:=wtN l l.length
def bfN(l:List Int):Nat→Nat×Int
 |0=>(0,wtF l)
 |k+1=>if wtF (H3 (BL (k+1)) l)<(bfN l k).2 then(k+1,wtF (H3 (BL (k+1)) l))else bfN l k
theorem qgo(l:List Int):∀k,(bfN l k).1≤k
 |0=>cJ _
 |k+1=>by
  rw[bfN];split
  ·exact cJ _
  ·have:=qgo l k;omega
def FY(l:List Int):Nat:=(bfN l 3).1
section
variable {w0 w:World} {F:List It}
theorem zQ{n:Nat}{K:Value→World→Prop}(f:Fr w0 w F)(hn:n≤1000000000)(hk:∀v w',Fr w0 w' (bI .i32 eI v (List.replicate n 0)::F)→K v w'):mT P aM (aB (n:Int)) (aB (n:Int)) w K:=
 SY (k:=.i32) (by omega) (by omega) fun v w' he j=>hk v w' (f.newO he j)
theorem qmM{ad q:Addr}{l0:Value}{xs:List Int}{i k:Nat}{K:Int→World→Prop}(hi:w.cell? ad=some (aB (i:Int)))(j:w.cell? q=some l0)(h:Nm .i32 w l0 xs)(cR:i≤xs.length)(hl:xs.length≤1000000000)(h1:1≤k)(h3:k≤3)(hk:K (atI xs i k) w):
  iB P (.func (.func iS) #[] #[aH ad,aH q]) (dQ .i32) #[aB (k:Int)] w K:=by
 refine lQ rfl (by kernel_rfl) (NO (R:=fun e w'=>e=aW (.int .i32 (atI xs i k))∧w'=w) ?_) ?_
 ·refine bG hi (aG (fun r=>⟨?_,rfl⟩) (fun u=>dV j (bG hi ?_)))
  ·unfold atI;rw[if_pos (by omega)]
  ·rw[aD (by omega) (by omega),show(i:Int)-(k:Int)=((i-k:Nat):Int)by omega]
   refine uC h (by omega) (by omega) ⟨?_,rfl⟩
   unfold atI;rw[if_neg (by omega)]
 ·rintro _ _ ⟨rfl,rfl⟩
  exact⟨_,rfl,hk⟩
theorem VB{l0:Value}{xs:List Int}{i o:Nat}(h:Nm .i32 w l0 xs)(hi:i≤xs.length)(hl:xs.length≤1000000000):Calls P yI #[l0,aB (i:Int),aB (o:Int)] w (fun e w'=>e=aW (.int .i32 (BL o (xs.take i)))∧Ev w w'):=by
 have hc:l0.cells.toList=[l0]:=by obtain⟨a,c,rfl,_⟩:=h.shape;rfl
 refine WP (mL (Fr.start w) fun A w1 u=>mL u fun i4 w2 j=>?_)
 rw[hc]at j
 have q:w2.cell? i4=some (aB (i:Int)):=by have:=j.cell 0 0 rfl rfl;rwa [Addr.add_zero']at this
 have r:w2.cell? A=some l0:=by have:=j.cell 1 0 rfl rfl;rwa [Addr.add_zero']at this
 have hn:=h.ev j.old
 have mM:=fun{k:Nat} {K:Int→World→Prop} (h1:1≤k) (h3:k≤3) (hk:K (atI xs i k) w2)=>qmM (K:=K) q r hn hi hl h1 h3 hk
 have e1:atF (xs.take i) 1=atI xs i 1:=UB hi (by omega)
 have e2:atF (xs.take i) 2=atI xs i 2:=UB hi (by omega)
 have e3:atF (xs.take i) 3=atI xs i 3:=UB hi (by omega)
 refine cN (fun h1=>mM (k:=1) (by omega) (by omega) ⟨?_,j.old⟩) (fun h1=>cN (fun h2=>mM (k:=1) (by omega) (by omega) (mM (k:=2) (by omega) (by omega) ⟨?_,j.old⟩)) (fun h2=>cN (fun h3=>mM (k:=1) (by omega) (by omega) (mM (k:=2) (by omega) (by omega) (mM (k:=3) (by omega) (by omega) ⟨?_,j.old⟩))) (fun h3=>⟨?_,j.old⟩)))
 ·rw[show o=1 by omega];unfold BL;rw[if_pos rfl,e1]
 ·rw[show o=2 by omega];unfold BL;rw[if_neg (by decide),if_pos rfl,e1,e2]
 ·rw[show o=3 by omega];unfold BL;rw[if_neg (by decide),if_neg (by decide),if_pos rfl,e1,e2,e3]
 ·unfold BL;rw[if_neg (by omega),if_neg (by omega),if_neg (by omega)]
theorem VG{o:Int}:Calls P yJ #[aB o] w (fun e w'=>e=aW (aB (II o))∧w'=w):=
 WQ ⟨by
  have:(if(if 3<o then 3 else o)>0 then(if 3<o then 3 else o)else 0)=((II o:Nat):Int):=by
   unfold II
   split<;>split<;>split<;>split<;>omega
  rw[this],rfl⟩
def qjQ(w:World)(xs:List Int)(e:Ending)(w':World):Prop:=∃v,e=aW v∧Ev w w'∧ON .i32 eI w' w.heap.size v xs
theorem qd6{l0:Value}{xs:List Int}{o:Int}(h:Nm .i32 w l0 xs)(hl:xs.length≤1000000000):Calls P qQ #[l0,aB o] w (qjQ w (H3 (BL (II o)) xs)):=by
 refine KP (aP h (zQ (Fr.start w) hl fun r w1 A=>aP (h.ev A.old) ?_))
 obtain⟨g,hg⟩:∃g,g=BL (II o):=⟨_,rfl⟩
 refine⟨fun i w'=>∃k:Nat,i=(k:Int)∧k≤xs.length∧Fr w w' [bI .i32 eI r ((H3 g xs).take k++List.replicate (xs.length-k) 0)],fun i _=>(xs.length-i).toNat,⟨0,rfl,bW _,A⟩,?_⟩
 rintro _ i w2 ⟨k,rfl,hk,u⟩
 refine aG (fun cR=>?_) (fun C=>?_)
 ·have j:k<xs.length:=by omega
  refine uC (h.ev u.old) (by omega) (by omega) (bX VG (bQ (VB (h.ev u.old) hk hl) fun w3 h3=>?_))
  have q:((H3 g xs).take k).length=k:=by rw[eJ,sD];omega
  refine Q8 (u.ev h3) 0 rfl rfl (by rw[bD,q,sF];omega) (W4 _) fun w4 f4=>?_
  have hv:lT (rd xs (k:Int)-BL (II o) (xs.take k))=rd (H3 g xs) (k:Int):=by rw[←hg];exact(Y7 (f:=fun i=>lT (rd xs (i:Int)-g (xs.take i))) j).symm
  have f4:Fr w w4 [bI .i32 eI r (((H3 g xs).take k++List.replicate (xs.length-k) 0).set k (lT (rd xs (k:Int)-BL (II o) (xs.take k))))]:=f4
  rw[BK q j,hv,dK _ k (by rw[sD];exact j),←iV (by rw[sD];exact j)]at f4
  exact⟨⟨k+1,by rw[aD (by omega) (by omega)];omega,j,f4⟩,by dsimp only;rw[aD (by omega) (by omega)];omega⟩
 ·obtain rfl:k=xs.length:=by omega
  rw[pH,AM,iW,gI (by rw[sD];exact cJ _),hg]at u
  exact⟨r,rfl,u.old,u.on 0 rfl⟩
theorem qkq{l0:Value}{xs:List Int}{o:Int}(h:Nm .i32 w l0 xs)(hl:xs.length≤1000000000):Calls P zU #[l0,aB o] w (qjQ w (kF (BL (II o)) xs xs.length)):=by
 refine NN (aP h (zQ (Fr.start w) hl fun q w1 I=>aP (h.ev I.old) ?_))
 obtain⟨g,hg⟩:∃g,g=BL (II o):=⟨_,rfl⟩
 refine⟨fun i w'=>∃k:Nat,i=(k:Int)∧k≤xs.length∧Fr w w' [bI .i32 eI q (kF g xs k++List.replicate (xs.length-k) 0)],fun i _=>(xs.length-i).toNat,⟨0,rfl,bW _,I⟩,?_⟩
 rintro _ i w2 ⟨k,rfl,hk,r⟩
 have j:=xY g xs k
 refine aG (fun cR=>?_) (fun J=>?_)
 ·have A:k<xs.length:=by omega
  have hall:(kF g xs k++List.replicate (xs.length-k) 0).length=xs.length:=by rw[bD,j,sF];omega
  have C:(kF g xs k++List.replicate (xs.length-k) 0).take k=kF g xs k:=by rw[List.take_append_of_le_length (by omega),gI (by omega)]
  have u:=VB (i:=k) (o:=II o) (r.nm 0 rfl) (by omega) (by omega)
  rw[C,←hg]at u
  refine uC (h.ev r.old) (by omega) (by omega) (bX VG (bQ u fun w3 h3=>?_))
  refine Q8 (r.ev h3) 0 rfl rfl (by omega) (W4 _) fun w4 f4=>?_
  have f4:Fr w w4 [bI .i32 eI q ((kF g xs k++List.replicate (xs.length-k) 0).set k (lT (rd xs (k:Int)+g (kF g xs k))))]:=f4
  rw[BK j A]at f4
  exact⟨⟨k+1,by rw[aD (by omega) (by omega)];omega,A,f4⟩,by dsimp only;rw[aD (by omega) (by omega)];omega⟩
 ·obtain rfl:k=xs.length:=by omega
  rw[pH,AM,iW,hg]at r
  exact⟨q,rfl,r.old,r.on 0 rfl⟩
theorem PM{l0:Value}{xs:List Int}(h:Nm .i32 w l0 xs)(hl:xs.length≤1000000000):Calls P uS #[l0] w (fun e w'=>e=aW (.int .u64 (wtF xs))∧w'=w):=by
 refine RL (aP h ⟨fun n i w'=>∃k:Nat,i=(k:Int)∧k≤xs.length∧n=wtN xs k∧w'=w,fun _ i _=>(xs.length-i).toNat,⟨0,rfl,bW _,rfl,rfl⟩,?_⟩)
 rintro _ n i w1 ⟨k,rfl,hk,rfl,hw⟩
 obtain rfl:w=w1:=hw.symm
 refine aG (fun cR=>?_) (fun j=>?_)
 ·refine uC h (by omega) (by omega) ⟨⟨k+1,by rw[aD (by omega) (by omega)];omega,by omega,?_,rfl⟩,by dsimp only;rw[aD (n:=(k:Int)+1) (by omega) (by omega)];omega⟩
  rw[wtN]
 ·obtain rfl:k=xs.length:=by omega
  exact⟨rfl,rfl⟩
theorem qkn{l0:Value}{xs:List Int}(h:Nm .i32 w l0 xs)(hl:xs.length≤1000000000):Calls P X0 #[l0] w (fun e w'=>e=aW (aB (FY xs:Nat))∧Ev w w'):=by
 refine p8 (bX (PM h hl) ⟨fun b l i w'=>∃k:Nat,i=(k:Int)+1∧k≤3∧b=((bfN xs k).1:Int)∧l=(bfN xs k).2∧Ev w w',fun _ _ i _=>(4-i).toNat,⟨0,rfl,bW _,rfl,rfl,Ch.refl _ _⟩,?_⟩)
 rintro _ b l i w1 ⟨k,rfl,hk,rfl,rfl,h1⟩
 refine aG (fun cR=>?_) (fun j=>?_)
 ·refine aO (qd6 (o:=(k:Int)+1) (h.ev h1) hl) ?_
  rintro _ w2 ⟨v,rfl,h2,hv⟩
  have q:II ((k:Int)+1)=k+1:=by unfold II;split<;>split<;>omega
  rw[q]at hv
  refine⟨v,rfl,bX (PM hv.nm (by rw[sD];exact hl)) (aG (fun hb=>?_) (fun hb=>?_))⟩
  ·have e:bfN xs (k+1)=(k+1,wtF (H3 (BL (k+1)) xs)):=by rw[bfN,if_pos hb]
   exact⟨⟨k+1,by rw[aD (by omega) (by omega)];omega,by omega,by rw[e];rfl,by rw[e],h1.trans h2⟩,by dsimp only;rw[aD (by omega) (by omega)];omega⟩
  ·have e:bfN xs (k+1)=bfN xs k:=by rw[bfN,if_neg hb]
   exact⟨⟨k+1,by rw[aD (by omega) (by omega)];omega,by omega,by rw[e],by rw[e],h1.trans h2⟩,by dsimp only;rw[aD (by omega) (by omega)];omega⟩
 ·obtain rfl:k=3:=by omega
  exact⟨rfl,h1⟩
end
end
section
section
variable {P:Program} {w0 w:World} {F:List It}
theorem qee{t:TypeId}{ad:Addr}{n l sz:Nat}{q:IntKind}{K:Value→Prop}(r:l<n)(hk:K (.slice (some (ad.add (l*sz))) (n-l) (n-l)))(ht:qbz P t n sz=true):cH P t (aH ad) (some (.int q (l:Int))) none none K:=by
 unfold qbz at ht
 split at ht
 ·rename_i m e hu
  simp only[mK]at ht
  have hm:=DO ht.1
  subst hm
  obtain⟨i,hi,j⟩:∃i,P.info? e=some i∧i.size=sz:=by
   have:=ht.2
   split at this
   ·rename_i i hi;exact⟨i,hi,DO this⟩
   ·cases this
  refine⟨_,fun w=>?_,hk⟩
  have hb:(Instr.sliceBounds false m m (some (.int q (l:Int))) none none).run P w=.ok (l,m,m) w:=by
   simp [Instr.sliceBounds,Instr.sliceBound,asIntOf];omega
  simp only[Instr.sliceAt,Instr.sureAddr,Sem.run_bind,Sem.run_pure,run_underlying hu,Result.andThen_ok,hb,sizeOf,typeInfo,run_program,hi]
  simp [j];omega
 ·cases ht
theorem qrF{t ty:TypeId}{k:IntKind}{ad:Addr}{n c o:Nat}{y:Value}{cs:List Value}{ys:List Int}{K:Int→World→Prop}(f:Fr w0 w F)(i:Nat)(hi:F[i]?=some (aT ad cs))(ho:o+n≤cs.length)(hn:0<n)(hy:Nm k w y ys)(ai:n≤ys.length)
  (hk:∀w',Fr w0 w' (F.set i (aT ad (cs.take o++(ys.take n).map (.int k)++cs.drop (o+n))))→K (n:Int) w') (ht:zH P t k=true:=by kernel_rfl):
  AB P #[t,t] ty #[.slice (some (ad.add o)) n c,y] w K:=by
 obtain⟨hu,ii,U,X,af,Z,hz⟩:=vQ ht
 have O:(P.info? (dD P t)).map (·.size)=some 1:=by rw[U];simp [X]
 have hS:St w ad cs:=f.get i hi
 obtain⟨a,cy,rfl,ah,hl,I,N⟩:=hy.1
 cases a with
 |none=>have:=N rfl;omega
 |some sd=>
  obtain⟨V,C,e,hg,A⟩:=hS
  obtain⟨b,q,s⟩:=ad
  cases V
  dsimp only at hg A
  rw[Addr.add_lit]
  have r:((ys.take n).map (Value.int k)).length=n:=by rw[fE,eJ];omega
  have ag:q+cs.length≤C.size:=by
   have h0:cs.length-1<cs.length:=by omega
   have h1:=A (cs.length-1) cs[cs.length-1] (by rw[fR h0])
   have:=(Array.getElem?_eq_some_iff.1 h1).1
   omega
  have J:=run_copy_row (P:=P) w t t ty (dD P t) b (q+o) n c sd ys.length cy C e ((ys.take n).map (.int k)) hu O hg (by rw[r];show n=min ys.length n;omega)
   (fun j u hj=>I sd rfl j u (by
    rw[jD,vW]at hj
    rw[jD]
    split at hj
    ·exact hj
    ·simp at hj)) (by rw[r];omega) (fun u hu=>by obtain⟨x,_,rfl⟩:=List.mem_map.1 hu;rfl)
  rw[r]at J
  refine⟨(n:Int),_,J,hk _ ?_⟩
  refine f.upd (jt:=aT ⟨b,q,none⟩ (cs.take o++(ys.take n).map (.int k)++cs.drop (o+n))) (S:=Bk b) i hi ?_ (fun k _ hh=>.inl hh) ⟨rfl,_,e,setRow_heap w b C _ _ _ hg,fun j u hj=>?_⟩ fun k hk=>.inl hk
  ·refine⟨rfl,rfl,rfl,by simp,fun j hj hn=>setRow_other w b j _ fun e=>hn 0 e,fun j c' e' f hj=>?_,fun k o hk ho=>by rw[setRow_other w b k _ (qE hg hk ho)];exact hk⟩
   by_cases M:j=b
   ·subst M
    rw[hg]at hj
    injection hj with hj;injection hj with h1 h2 h3
    subst h1;subst h2;subst h3
    exact⟨_,setRow_heap w j C _ _ _ hg,by simp;omega,fun i hi=>absurd rfl hi⟩
   ·exact⟨c',by rw[setRow_other w b j _ M];exact hj,rfl,fun _ _=>rfl⟩
  ·show(Array.mk _)[q+j]?=some u
   rw[List.getElem?_toArray]
   have Y:(C.toList.take (q+o)).length=q+o:=by rw[eJ,LW];omega
   have T:(cs.take o).length=o:=by rw[eJ];omega
   rw[gY]at hj
   rw[gY]
   rcases I6 j o with h1|h1
   ·rw[T8 (by omega),vW,if_pos h1]at hj
    rw[T8 (by omega),vW,if_pos (by omega),M8]
    exact A j u hj
   ·rw[T9 (by omega),T]at hj
    rw[T9 (by omega),Y,show q+j-(q+o)=j-o by omega]
    rcases I6 (j-o) n with h2|h2
    ·rw[T8 (by omega)]at hj
     rw[T8 (by omega)];exact hj
    ·rw[T9 (by omega),r,QO]at hj
     rw[T9 (by omega),r,QO,M8]
     have:=A (o+n+(j-o-n)) u hj
     rw[←this];congr 1;omega
end
def sQ(s:List Int×List Int):List Value:=s.1.map (.int .i64)++s.2.map (.int .i32)
def okS(s:List Int×List Int):Prop:=s.1.length=8∧s.2.length=8∧inR .i32 s.2
theorem qnw{s:List Int×List Int}{v:Int}(h:okS s)(hv:IntKind.i32.min≤v∧v≤IntKind.i32.max):okS (qcb s v):=by
 obtain⟨h1,h2,h3⟩:=h
 refine⟨dS _ _,by show(v::s.2.take 7).length=8;rw[iO,eJ];omega,fun x hx=>?_⟩
 rcases List.mem_cons.1 hx with rfl|hx
 ·exact hv
 ·exact h3 x (AK hx)
theorem qtz:okS (List.replicate 8 0,List.replicate 8 0):=⟨rfl,rfl,fun x hx=>by rw[List.eq_of_mem_replicate hx];decide⟩
theorem qi8{l:List Int}(hl:inR .i32 l):okS (R3 l):=by
 suffices ∀(l:List Int) (s:List Int×List Int),inR .i32 l→okS s→okS (l.foldl qcb s)from this l _ hl qtz
 intro l
 induction l with
 |nil=>intro s _ h;exact h
 |cons v l j=>intro s hl h;exact j _ (fun x hx=>hl x (lL _ hx)) (qnw h (hl v xJ))
theorem qr0{α:Type}{l:List α}(h:l.length=8):∃a b c d e f g i,l=[a,b,c,d,e,f,g,i]:=by
 match l,h with
 |[a,b,c,d,e,f,g,i],_=>exact⟨a,b,c,d,e,f,g,i,rfl⟩
section
variable {w0 w:World} {F G:List It}
theorem qiC{K:Option Addr→World→Prop}(f:Fr w0 w F)(hk:∀ad w',Fr w0 w' (aT ad (sQ (R3 []))::F)→K (some ad) w'):aE P EC jN #[] w K:=
 aO (R:=fun e w'=>∃ad,e=aW (aH ad)∧Fr w0 w' (aT ad (sQ (R3 []))::F)) (qhr (mL f fun ad w' j=>⟨ad,rfl,j⟩)) fun _ w' ⟨ad,h1,h2⟩=>⟨some ad,h1,hk ad w' h2⟩
theorem YH{v:Int}:Calls P G0 #[.int .i32 v] w (fun e w'=>e=aW (aB (GD v))∧w'=w):=
 qeM (aG (fun h=>⟨by unfold GD;rw[if_pos h],rfl⟩) (fun h=>aG (fun h2=>⟨by unfold GD;rw[if_neg h,if_pos h2],rfl⟩) (fun h2=>⟨by unfold GD;rw[if_neg h,if_neg h2],rfl⟩)))
theorem qtA{ns:List Int}(h:inR .i32 ns)(k:Nat): -2147483648≤rd ns (k:Int)∧rd ns (k:Int)≤2147483647:=by
 by_cases hk:k<ns.length
 ·rw[dK ns k hk];exact qmU.1 h _ (kH hk)
 ·have:rd ns (k:Int)=0:=by unfold rd;rw[dH];simp [show ns.length≤k by omega]
  omega
theorem VV{ad:Addr}{s:List Int×List Int}(hs:okS s)(h:St w ad (sQ s))(k:Nat)(hk:k<8):w.cell? (ad.add k)=some (aB (rd s.1 (k:Int)))∧w.cell? (ad.add (8+k))=some (.int .i32 (rd s.2 (k:Int))):=by
 obtain⟨h1,h2,_⟩:=hs
 refine⟨h.cell ?_,h.cell ?_⟩
 ·unfold sQ
  rw[T8 (by rw[fE];omega),jD,fR (by omega),dK s.1 k (by omega)];rfl
 ·unfold sQ
  rw[T9 (by rw[fE];omega),fE,h1,MB,jD,fR (by omega),dK s.2 k (by omega)];rfl
theorem HB{ad:Addr}{s:List Int×List Int}(hs:okS s)(h:St w ad (sQ s)):Calls P lD #[aH ad] w (fun e w'=>e=aW (.int .i32 (qev s))∧w'=w):=by
 have hc:=VV hs h
 obtain⟨a0,a1,a2,a3,a4,a5,a6,I,hw⟩:=qr0 hs.1
 refine FI (fO (iR (aC ?_)))
 rw[Addr.add_zero',Addr.add_zero']
 refine lR (s.1.map (.int .i64)) (fun j u hj=>?_) ?_ (by rw[hw];rfl) (by rw[fE,hs.1];kernel_rfl)
 ·have r:j<8:=by have:=(List.getElem?_eq_some_iff.1 hj).1;rw[fE,hs.1]at this;exact this
  have h0:=(hc j r).1
  rw[jD,fR (by rw[hs.1];exact r)]at hj
  rw[dK s.1 j (by rw[hs.1];exact r)]at h0
  rw[h0];exact hj
 rw[hw]
 show ∃_,_
 refine⟨fun sum i w'=>∃k:Nat,i=(k:Int)∧k≤8∧sum=qst s.1 s.2 k∧w'=w,fun _ i _=>(8-i).toNat,⟨0,rfl,by omega,rfl,rfl⟩,?_⟩
 rintro _ sum i w1 ⟨k,rfl,hk,rfl,A⟩
 obtain rfl:w=w1:=A.symm
 refine aG (fun cR=>?_) (fun C=>?_)
 ·have q:k<8:=by omega
  refine VL (xs:=s.1) 8 k (by rw[hw];rfl) hs.1 rfl q (aC ?_)
  rw[Addr.add_zero']
  refine gT 8 k rfl q ?_
  rw[Addr.add2']
  refine bG (hc k q).2 ?_
  have J:=qtA hs.2.2 k
  rw[aD (n:=rd s.2 (k:Int)) (by omega) (by omega)]
  exact⟨⟨k+1,by rw[aD (by omega) (by omega)];omega,q,rfl,rfl⟩,by dsimp only;rw[aD (n:=(k:Int)+1) (by omega) (by omega)];omega⟩
 ·obtain rfl:k=8:=by omega
  exact⟨rfl,rfl⟩
theorem qaL{ad:Addr}{s:List Int×List Int}{v:Int}(hs:okS s)(hv:IntKind.i32.min≤v∧v≤IntKind.i32.max)(f:Fr w0 w (aT ad (sQ s)::G)):
  Calls P nP #[aH ad,.int .i32 v] w (fun e w'=>e=bP #[]∧Fr w0 w' (aT ad (sQ (qcb s v))::G)):=by
 have hc:=VV hs (f.get 0 rfl)
 obtain⟨b0,b1,b2,b3,b4,b5,b6,b7,hn⟩:=qr0 hs.2.1
 refine FJ (fO (iR (bX (HB hs (f.get 0 rfl)) (bX YH (aC ?_)))))
 rw[Addr.add_zero']
 obtain⟨e,he⟩:∃e,e=GD (lT (v-qev s)):=⟨_,rfl⟩
 rw[←he]
 refine lR (s.2.map (.int .i32)) (fun j u hj=>?_) ?_ (by rw[hn];rfl) (by rw[fE,hs.2.1];kernel_rfl)
 ·have I:j<8:=by have:=(List.getElem?_eq_some_iff.1 hj).1;rw[fE,hs.2.1]at this;exact this
  have h0:=(hc j I).2
  rw[jD,fR (by rw[hs.2.1];exact I)]at hj
  rw[dK s.2 j (by rw[hs.2.1];exact I)]at h0
  rw[Addr.add2',h0];exact hj
 rw[hn]
 show ∃_,_
 obtain⟨W,hW⟩:∃W,W=qtn e s.1 s.2:=⟨_,rfl⟩
 have r:W.length=8:=by rw[hW];exact dS _ _
 have T:∀k,k≤8→okS (W.take k++s.1.drop k,s.2):=fun k hk=>⟨by show(W.take k++s.1.drop k).length=8;rw[bD,eJ,cQ,r,hs.1];omega,hs.2.1,hs.2.2⟩
 refine⟨fun i w'=>∃k:Nat,i=(k:Int)∧k≤8∧Fr w0 w' (aT ad (sQ (W.take k++s.1.drop k,s.2))::G),fun i _=>(8-i).toNat,⟨0,rfl,by omega,f⟩,?_⟩
 rintro _ i w1 ⟨k,rfl,hk,J⟩
 refine aG (fun cR=>?_) (fun ae=>?_)
 ·have q:k<8:=by omega
  have A:=T k hk
  have C:=VV A (J.get 0 rfl) k q
  have V:rd (W.take k++s.1.drop k) (k:Int)=rd s.1 (k:Int):=by
   rw[dK _ k (by rw[A.1];exact q),dK s.1 k (by rw[hs.1];exact q)]
   rw[List.getElem_append_right (by rw[eJ];omega),List.getElem_drop]
   congr 1;rw[eJ,r];omega
  rw[V]at C
  have U:rd W (k:Int)=i64 (rd s.1 (k:Int)+i64 (e*GD (rd s.2 (k:Int)))):=by rw[hW];exact Y7 (f:=fun k:Nat=>i64 (rd s.1 (k:Int)+i64 (e*GD (rd s.2 (k:Int))))) q
  have X:(sQ (W.take k++s.1.drop k,s.2)).set k (aB (rd W (k:Int)))=sQ (W.take (k+1)++s.1.drop (k+1),s.2):=by
   unfold sQ
   dsimp only
   rw[List.set_append_left _ _ (by rw[fE,A.1];exact q),←DR]
   congr 2
   have hd:s.1.drop k=s.1[k]'(by rw[hs.1];exact q)::s.1.drop (k+1):=GK (by rw[hs.1];exact q)
   rw[hd,DP _ _ (by rw[eJ];omega),eJ,r,show k-min k 8=0 by omega,MD,iV (by omega),dK W k (by omega),gY];rfl
  refine VL (xs:=s.2) 8 k (by rw[hn];rfl) hs.2.1 rfl q ⟨fun _=>True,trivial,aC ?_⟩
  rw[Addr.add_zero',Addr.add_zero']
  refine gT 8 k rfl q (aC ?_)
  rw[Addr.add_zero',Addr.add_zero']
  have M:∀{w2},Fr w0 w2 (aT ad (sQ (W.take k++s.1.drop k,s.2))::G)→aX P tL (aH ad) (aB (k:Int)) fun aa=>aL P LL (aH aa) (aB (i64 (rd s.1 (k:Int)+i64 (e*GD (rd s.2 (k:Int)))))) w2 fun w3=>True∧(∃Y:Nat,i64 ((k:Int)+1)=(Y:Int)∧Y≤8∧Fr w0 w3 (aT ad (sQ (W.take Y++s.1.drop Y,s.2))::G))∧(8-i64 ((k:Int)+1)).toNat<(8-(k:Int)).toNat:=fun{w2} f2=>by
   refine gT 8 k rfl q (dT f2 0 k rfl (fun w3 f3=>⟨trivial,⟨k+1,by rw[aD (by omega) (by omega)];omega,q,?_⟩,by rw[aD (by omega) (by omega)];omega⟩) (by rw[sQ,bD,fE,fE,A.1];omega))
   rw[←X,U];exact f3
  refine⟨bG C.1 ⟨trivial,bX YH ⟨trivial,M J.drew⟩⟩,bX YH ⟨trivial,bG C.1 ⟨trivial,M J.drew⟩⟩⟩
 ·obtain rfl:k=8:=by omega
  rw[gI (show W.length≤8 by omega),zN (show s.1.length≤8 by rw[hs.1];exact cJ _),iW]at J
  refine⟨fun _=>True,trivial,aC ?_⟩
  rw[Addr.add_zero']
  refine qee (l:=1) (n:=8) (sz:=1) (by decide) (aC ?_) (by kernel_rfl)
  rw[Addr.add_zero',Addr.add2']
  refine VO (n:=8) (sz:=1) ?_ (by kernel_rfl)
  have hy:Nm .i32 w1.drew (.slice (some (ad.add 8)) 8 8) s.2:=by
   refine⟨⟨some (ad.add 8),8,by rw[hs.2.1],by rw[hs.2.1];exact cJ _,by rw[fE,hs.2.1],fun ab ha j u hj=>?_,fun h=>by cases h⟩,hs.2.2⟩
   injection ha with ha;subst ha
   rw[Addr.add2']
   have:(sQ (W,s.2))[8+j]?=some u:=by unfold sQ;dsimp only;rw[List.getElem?_append_right (by rw[List.length_map,r];omega),List.length_map,r,Nat.add_sub_cancel_left];exact hj
   exact J.drew.cell 0 (8+j) rfl this
  refine qrF (o:=9) (n:=7) J.drew 0 rfl (by rw[sQ,bD,fE,fE,hs.2.1,r];decide) (by decide) hy (by rw[hs.2.1];decide) (fun w3 f3=>⟨trivial,aC ?_⟩)
  rw[Addr.add_zero']
  refine gT 8 0 rfl (by decide) ?_
  rw[Addr.add2']
  have O:((sQ (W,s.2)).take 9++(s.2.take 7).map (Value.int .i32)++(sQ (W,s.2)).drop (9+7)).length=16:=by
   have:(sQ (W,s.2)).length=16:=by rw[sQ,bD,fE,fE,hs.2.1,r]
   simp only[bD,eJ,cQ,fE,this,hs.2.1];omega
  refine dT f3 0 (8+0) rfl (fun w4 f4=>⟨rfl,?_⟩) (by rw[O];decide)
  have N:((sQ (W,s.2)).take 9++(s.2.take 7).map (Value.int .i32)++(sQ (W,s.2)).drop (9+7)).set (8+0) (.int .i32 v)=sQ (qcb s v):=by
   have hL:qcb s v=(W,v::s.2.take 7):=by unfold qcb;rw[hW,he]
   rw[hL]
   obtain⟨c0,c1,c2,c3,c4,c5,c6,c7,Z⟩:=qr0 r
   rw[Z,hn];rfl
  rw[←N];exact f4
end
end
section
section
variable {w:World}
theorem qm0{l0:Value}{xs:List Int}(h:Nm .i32 w l0 xs)(hl:xs.length≤1000000000):Calls P F9 #[l0] w (qjQ w (H3 kJ xs)):=by
 refine RO (qiC (Fr.start w) fun ad w1 u=>aP (h.ev u.old) (zQ u hl fun q w2 A=>aP (h.ev A.old) ?_))
 refine⟨fun i w'=>∃k:Nat,i=(k:Int)∧k≤xs.length∧Fr w w' [bI .i32 eI q ((H3 kJ xs).take k++List.replicate (xs.length-k) 0),aT ad (sQ (R3 (xs.take k)))],fun i _=>(xs.length-i).toNat,⟨0,rfl,bW _,A⟩,?_⟩
 rintro _ i w3 ⟨k,rfl,hk,f3⟩
 refine aG (fun cR=>?_) (fun C=>?_)
 ·have j:k<xs.length:=by omega
  have hok:=qi8 (l:=xs.take k) (h.2.take k)
  have r:((H3 kJ xs).take k).length=k:=by rw[eJ,sD];omega
  refine uC (h.ev f3.old) (by omega) (by omega) (bX (HB hok (f3.get 1 rfl)) ?_)
  refine Q8 f3 0 rfl rfl (by rw[bD,r,sF];omega) (W4 _) fun w4 f4=>?_
  have hv:lT (rd xs (k:Int)-qev (R3 (xs.take k)))=rd (H3 kJ xs) (k:Int):=(Y7 (f:=fun i=>lT (rd xs (i:Int)-kJ (xs.take i))) j).symm
  have f4:Fr w w4 [bI .i32 eI q (((H3 kJ xs).take k++List.replicate (xs.length-k) 0).set k (lT (rd xs (k:Int)-qev (R3 (xs.take k))))),aT ad (sQ (R3 (xs.take k)))]:=f4
  rw[BK r j,hv,dK _ k (by rw[sD];exact j),←iV (by rw[sD];exact j)]at f4
  have f4:Fr w w4 [aT ad (sQ (R3 (xs.take k))),bI .i32 eI q ((H3 kJ xs).take (k+1)++List.replicate (xs.length-(k+1)) 0)]:=f4.picks [1,0] (by decide)
  rw[dK xs k j]
  refine cZ (qaL hok (h.2 _ (kH j)) f4) fun w5 f5=>?_
  rw[←qkJ j]at f5
  exact⟨⟨k+1,by rw[aD (by omega) (by omega)];omega,j,f5.picks [1,0] (by decide)⟩,by dsimp only;rw[aD (by omega) (by omega)];omega⟩
 ·obtain rfl:k=xs.length:=by omega
  rw[pH,AM,iW,gI (by rw[sD];exact cJ _)]at f3
  exact⟨q,rfl,f3.old,f3.on 0 rfl⟩
theorem qkH{l0:Value}{xs:List Int}(h:Nm .i32 w l0 xs)(hl:xs.length≤1000000000):Calls P O6 #[l0] w (qjQ w (kF kJ xs xs.length)):=by
 refine WR (qiC (Fr.start w) fun ad w1 C=>aP (h.ev C.old) (zQ C hl fun r w2 I=>aP (h.ev I.old) ?_))
 refine⟨fun i w'=>∃k:Nat,i=(k:Int)∧k≤xs.length∧Fr w w' [bI .i32 eI r (kF kJ xs k++List.replicate (xs.length-k) 0),aT ad (sQ (R3 (kF kJ xs k)))],fun i _=>(xs.length-i).toNat,⟨0,rfl,bW _,I⟩,?_⟩
 rintro _ i w3 ⟨k,rfl,hk,f3⟩
 have q:=xY kJ xs k
 refine aG (fun cR=>?_) (fun J=>?_)
 ·have u:k<xs.length:=by omega
  have hok:=qi8 (l:=kF kJ xs k) (XW _ _ _)
  refine uC (h.ev f3.old) (by omega) (by omega) (bX (HB hok (f3.get 1 rfl)) ?_)
  refine Q8 f3 0 rfl rfl (by rw[bD,q,sF];omega) (W4 _) fun w4 f4=>?_
  obtain⟨v,hv⟩:∃v,v=lT (rd xs (k:Int)+qev (R3 (kF kJ xs k))):=⟨_,rfl⟩
  have j:kF kJ xs (k+1)=kF kJ xs k++[v]:=by rw[kF,hv];rfl
  have f4:Fr w w4 [bI .i32 eI r ((kF kJ xs k++List.replicate (xs.length-k) 0).set k (lT (rd xs (k:Int)+qev (R3 (kF kJ xs k))))),aT ad (sQ (R3 (kF kJ xs k)))]:=f4
  rw[←hv,BK q u,←j]at f4
  have A:rd (kF kJ xs (k+1)++List.replicate (xs.length-(k+1)) 0) (k:Int)=v:=by
   rw[dK _ k (by rw[bD,xY];omega),List.getElem_append_left (by rw[xY];omega)]
   simp only[j]
   rw[List.getElem_append_right (by omega)]
   simp [q]
  refine uC (f4.nm 0 rfl) (by omega) (by rw[bD,xY];omega) ?_
  rw[A]
  have f4:Fr w w4 [aT ad (sQ (R3 (kF kJ xs k))),bI .i32 eI r (kF kJ xs (k+1)++List.replicate (xs.length-(k+1)) 0)]:=f4.picks [1,0] (by decide)
  refine cZ (qaL hok (by rw[hv];exact W4 _) f4) fun w5 f5=>?_
  rw[←qkK,←j]at f5
  exact⟨⟨k+1,by rw[aD (by omega) (by omega)];omega,u,f5.picks [1,0] (by decide)⟩,by dsimp only;rw[aD (by omega) (by omega)];omega⟩
 ·obtain rfl:k=xs.length:=by omega
  rw[pH,AM,iW]at f3
  exact⟨r,rfl,f3.old,f3.on 0 rfl⟩
def pM(k:Int):List Int→Int:=if k=4 then kJ else BL (II k)
theorem qnC{l0:Value}{xs:List Int}{k:Int}(h:Nm .i32 w l0 xs)(hl:xs.length≤1000000000):Calls P iE #[.agg #[aB k],l0] w (qjQ w (H3 (pM k) xs)):=by
 refine D1 (mL (Fr.start w) fun p2 w1 j=>cI (n:=k) j 0 0 rfl rfl (cN (fun e=>?_) (fun e=>cI (n:=k) j 0 0 rfl rfl ?_)))
 ·refine aO (qm0 (h.ev j.old) hl) ?_
  rintro _ w2 ⟨v,rfl,h2,hv⟩
  have hk:pM k=kJ:=by unfold pM;rw[if_pos e]
  rw[hk]
  exact⟨v,rfl,v,rfl,j.old.trans h2,hv.low j.old.size⟩
 ·refine aO (qd6 (o:=k) (h.ev j.old) hl) ?_
  rintro _ w2 ⟨v,rfl,h2,hv⟩
  have hk:pM k=BL (II k):=by unfold pM;rw[if_neg e]
  rw[hk]
  exact⟨v,rfl,v,rfl,j.old.trans h2,hv.low j.old.size⟩
theorem qkW{l0:Value}{xs:List Int}{k:Int}(h:Nm .i32 w l0 xs)(hl:xs.length≤1000000000):Calls P iZ #[.agg #[aB k],l0] w (qjQ w (kF (pM k) xs xs.length)):=by
 refine G6 (mL (Fr.start w) fun p2 w1 j=>cI (n:=k) j 0 0 rfl rfl (cN (fun e=>?_) (fun e=>cI (n:=k) j 0 0 rfl rfl ?_)))
 ·refine aO (qkH (h.ev j.old) hl) ?_
  rintro _ w2 ⟨v,rfl,h2,hv⟩
  have hk:pM k=kJ:=by unfold pM;rw[if_pos e]
  rw[hk]
  exact⟨v,rfl,v,rfl,j.old.trans h2,hv.low j.old.size⟩
 ·refine aO (qkq (o:=k) (h.ev j.old) hl) ?_
  rintro _ w2 ⟨v,rfl,h2,hv⟩
  have hk:pM k=BL (II k):=by unfold pM;rw[if_neg e]
  rw[hk]
  exact⟨v,rfl,v,rfl,j.old.trans h2,hv.low j.old.size⟩
end
end
section
theorem JO{f:Nat→Int}{n k:Nat}(hk:k<n){v:Int}(hv:v=f k):((rJ n f).take k++List.replicate (n-k) 0).set k v=(rJ n f).take (k+1)++List.replicate (n-(k+1)) 0:=by
 rw[BK (by rw[eJ,dS];omega) hk,iV (by rw[dS];exact hk),hv]
 congr 2
 rw[←dK (rJ n f) k (by rw[dS];exact hk),Y7 hk]
theorem qjl{f:Nat→Int}{n k:Nat}(hk:k<n):rd ((rJ n f).take (k+1)++List.replicate (n-(k+1)) 0) (k:Int)=f k:=by
 have hl:((rJ n f).take (k+1)).length=k+1:=by rw[eJ,dS];omega
 rw[dK _ k (by rw[bD,hl];omega),List.getElem_append_left (by omega),List.getElem_take,←dK (rJ n f) k (by rw[dS];exact hk),Y7 hk]
theorem Q9{f:Nat→Int}{n k:Nat}(hk:k≤n):((rJ n f).take k++List.replicate (n-k) 0).length=n:=by rw[bD,eJ,dS,sF];omega
section
variable {w0 w:World}
def qoU(w:World)(xs ys:List Int)(e:Ending)(w':World):Prop:=∃a b,e=bP #[a,b,aB 0]∧Fr w w' [bI .i32 eI b ys,bI .i32 eI a xs]
theorem qoP{l0 r0:Value}{l r:List Int}(hl:Nm .i32 w l0 l)(V:Nm .i32 w r0 r)(h:l.length=r.length)(hb:l.length≤1000000000):Calls P X5 #[l0,r0] w (qoU w (zR l r) (nC l r)):=by
 have loop:∀{q j:Value} {ww:World},Fr w ww [bI .i32 eI j (List.replicate l.length 0),bI .i32 eI q (List.replicate l.length 0)]→bC P aM l0 fun(t22:Nat)=>∃(I:Int→World→Prop) (μ:Int→World→Nat),I 0 ww∧∀(_:bV) (t23:Int) (A:World),I t23 A→aQ (decide (t23<(t22:Int))) (∃B1 O:World→Prop,(B1 A.drew∧O A.drew)∧aX P aM l0 (aB t23) fun(X:Addr)=>aI P cT (dQ .i32) (aH X) O fun(Y:Int)=>aX P aM r0 (aB t23) fun(Z:Addr)=>aI P cT (dQ .i32) (aH Z) O fun(aa:Int)=>aX P aM j (aB t23) fun(t37:Addr)=>aL P cT (aH t37) (.int .i32 (lT (Y-aa))) A.drew fun M=>B1 M∧∃B2 T:World→Prop,(B2 M.drew∧T M.drew)∧aX P aM r0 (aB t23) fun(ab:Addr)=>aI P cT (dQ .i32) (aH ab) T fun(ac:Int)=>aX P aM j (aB t23) fun(t46:Addr)=>aI P cT (dQ .i32) (aH t46) T fun(ae:Int)=>aX P aM q (aB t23) fun(t50:Addr)=>aL P cT (aH t50) (.int .i32 (lT (ac+(cV .i32 ae 1)))) M.drew fun N=>B2 N∧I (i64 (t23+1)) N∧μ (i64 (t23+1)) N<μ t23 A) (qoU w (zR l r) (nC l r) (bP #[q,j,aB 0]) A):=by
  intro q j ww f
  refine aP (hl.ev f.old) ⟨fun i w'=>∃k:Nat,i=(k:Int)∧k≤l.length∧Fr w w' [bI .i32 eI j ((nC l r).take k++List.replicate (l.length-k) 0),bI .i32 eI q ((zR l r).take k++List.replicate (l.length-k) 0)],fun i _=>(l.length-i).toNat,⟨0,rfl,bW _,f⟩,?_⟩
  rintro _ i w1 ⟨k,rfl,hk,J⟩
  refine aG (fun cR=>?_) (fun ah=>?_)
  ·have u:k<l.length:=by omega
   refine⟨fun _=>True,fun w'=>w'=w1.drew,⟨trivial,rfl⟩,xE (hl.ev J.old) (by omega) (by omega) (fun _ h=>qW h) (xE (V.ev J.old) (by omega) (by omega) (fun _ h=>qW h) ?_)⟩
   refine Q8 J.drew 0 rfl rfl (by rw[nC,Q9 hk];exact u) (W4 _) fun w2 C=>⟨trivial,fun _=>True,fun w'=>w'=w2.drew,⟨trivial,rfl⟩,?_⟩
   have C:Fr w w2 [bI .i32 eI j (((nC l r).take k++List.replicate (l.length-k) 0).set k (lT (rd l (k:Int)-rd r (k:Int)))),bI .i32 eI q ((zR l r).take k++List.replicate (l.length-k) 0)]:=C
   have e2:((nC l r).take k++List.replicate (l.length-k) 0).set k (lT (rd l (k:Int)-rd r (k:Int)))=(nC l r).take (k+1)++List.replicate (l.length-(k+1)) 0:=JO u rfl
   rw[e2]at C
   refine xE (V.ev C.old) (by omega) (by omega) (fun _ h=>qW h) (xE (C.nm 0 rfl) (by omega) (by rw[nC,Q9 u];omega) (fun _ h=>qW h) ?_)
   rw[show rd ((nC l r).take (k+1)++List.replicate (l.length-(k+1)) 0) (k:Int)=lT (rd l (k:Int)-rd r (k:Int))from qjl (f:=fun i=>lT (rd l (i:Int)-rd r (i:Int))) u]
   refine Q8 C.drew 1 rfl rfl (by rw[zR,Q9 hk];exact u) (W4 _) fun w3 f3=>⟨trivial,⟨k+1,by rw[aD (by omega) (by omega)];omega,u,?_⟩,by dsimp only;rw[aD (by omega) (by omega)];omega⟩
   have e3:((zR l r).take k++List.replicate (l.length-k) 0).set k (lT (rd r (k:Int)+cV .i32 (lT (rd l (k:Int)-rd r (k:Int))) 1))=(zR l r).take (k+1)++List.replicate (l.length-(k+1)) 0:=JO u rfl
   rw[←e3];exact f3
  ·obtain rfl:k=l.length:=by omega
   rw[pH,AM,iW,iW,gI (by rw[nC,dS];exact cJ _),gI (by rw[zR,dS];exact cJ _)]at J
   exact⟨q,j,rfl,J⟩
 refine s8 (aP hl (aP V (cA (fun U=>absurd (by omega) U) (fun _=>⟨fun _=>True,trivial,aP hl (aP hl ⟨?_,?_⟩)⟩))))
 ·exact zQ (Fr.start w).drew hb fun q w1 J=>⟨trivial,zQ J hb fun j w2 C=>⟨trivial,loop C⟩⟩
 ·exact zQ (Fr.start w).drew hb fun j w1 J=>⟨trivial,zQ J hb fun q w2 C=>⟨trivial,loop (C.picks [1,0] (by decide))⟩⟩
theorem qjY{N O:Value}{m s:List Int}(hm:Nm .i32 w N m)(hs:Nm .i32 w O s)(h:m.length=s.length)(hb:m.length≤1000000000):Calls P G3 #[N,O] w (qoU w (A7 m s) (lP m s)):=by
 have loop:∀{q j:Value} {ww:World},Fr w ww [bI .i32 eI j (List.replicate m.length 0),bI .i32 eI q (List.replicate m.length 0)]→bC P aM N fun(t22:Nat)=>∃(I:Int→World→Prop) (μ:Int→World→Nat),I 0 ww∧∀(_:bV) (t23:Int) (u:World),I t23 u→aQ (decide (t23<(t22:Int))) (∃B1 T:World→Prop,(B1 u.drew∧T u.drew)∧aX P aM N (aB t23) fun(Y:Addr)=>aI P cT (dQ .i32) (aH Y) T fun(Z:Int)=>aX P aM O (aB t23) fun(aa:Addr)=>aI P cT (dQ .i32) (aH aa) T fun(ab:Int)=>aX P aM j (aB t23) fun(ac:Addr)=>aL P cT (aH ac) (.int .i32 (lT (Z-(cV .i32 ab 1)))) u.drew fun J=>B1 J∧∃B2 U:World→Prop,(B2 J.drew∧U J.drew)∧aX P aM j (aB t23) fun(ae:Addr)=>aI P cT (dQ .i32) (aH ae) U fun(af:Int)=>aX P aM O (aB t23) fun(ag:Addr)=>aI P cT (dQ .i32) (aH ag) U fun(ah:Int)=>aX P aM q (aB t23) fun(t50:Addr)=>aL P cT (aH t50) (.int .i32 (lT (af+ah))) J.drew fun M=>B2 M∧I (i64 (t23+1)) M∧μ (i64 (t23+1)) M<μ t23 u) (qoU w (A7 m s) (lP m s) (bP #[q,j,aB 0]) u):=by
  intro q j ww f
  refine aP (hm.ev f.old) ⟨fun i w'=>∃k:Nat,i=(k:Int)∧k≤m.length∧Fr w w' [bI .i32 eI j ((lP m s).take k++List.replicate (m.length-k) 0),bI .i32 eI q ((A7 m s).take k++List.replicate (m.length-k) 0)],fun i _=>(m.length-i).toNat,⟨0,rfl,bW _,f⟩,?_⟩
  rintro _ i w1 ⟨k,rfl,hk,C⟩
  refine aG (fun cR=>?_) (fun ak=>?_)
  ·have r:k<m.length:=by omega
   refine⟨fun _=>True,fun w'=>w'=w1.drew,⟨trivial,rfl⟩,xE (hm.ev C.old) (by omega) (by omega) (fun _ h=>qW h) (xE (hs.ev C.old) (by omega) (by omega) (fun _ h=>qW h) ?_)⟩
   refine Q8 C.drew 0 rfl rfl (by rw[lP,Q9 hk];exact r) (W4 _) fun w2 A=>⟨trivial,fun _=>True,fun w'=>w'=w2.drew,⟨trivial,rfl⟩,?_⟩
   have A:Fr w w2 [bI .i32 eI j (((lP m s).take k++List.replicate (m.length-k) 0).set k (lT (rd m (k:Int)-cV .i32 (rd s (k:Int)) 1))),bI .i32 eI q ((A7 m s).take k++List.replicate (m.length-k) 0)]:=A
   have e2:((lP m s).take k++List.replicate (m.length-k) 0).set k (lT (rd m (k:Int)-cV .i32 (rd s (k:Int)) 1))=(lP m s).take (k+1)++List.replicate (m.length-(k+1)) 0:=JO r rfl
   rw[e2]at A
   have X:rd (lP m s) (k:Int)=lT (rd m (k:Int)-cV .i32 (rd s (k:Int)) 1):=Y7 (f:=fun i:Nat=>lT (rd m (i:Int)-cV .i32 (rd s (i:Int)) 1)) r
   refine xE (A.nm 0 rfl) (by omega) (by rw[lP,Q9 r];omega) (fun _ h=>qW h) (xE (hs.ev A.old) (by omega) (by omega) (fun _ h=>qW h) ?_)
   rw[show rd ((lP m s).take (k+1)++List.replicate (m.length-(k+1)) 0) (k:Int)=rd (lP m s) (k:Int)by rw[X];exact qjl (f:=fun i:Nat=>lT (rd m (i:Int)-cV .i32 (rd s (i:Int)) 1)) r]
   refine Q8 A.drew 1 rfl rfl (by rw[A7,Q9 hk];exact r) (W4 _) fun w3 f3=>⟨trivial,⟨k+1,by rw[aD (by omega) (by omega)];omega,r,?_⟩,by dsimp only;rw[aD (by omega) (by omega)];omega⟩
   have e3:((A7 m s).take k++List.replicate (m.length-k) 0).set k (lT (rd (lP m s) (k:Int)+rd s (k:Int)))=(A7 m s).take (k+1)++List.replicate (m.length-(k+1)) 0:=JO r rfl
   rw[←e3];exact f3
  ·obtain rfl:k=m.length:=by omega
   rw[pH,AM,iW,iW,gI (by rw[lP,dS];exact cJ _),gI (by rw[A7,dS];exact cJ _)]at C
   exact⟨q,j,rfl,C⟩
 refine RY (aP hm (aP hs (cA (fun V=>absurd (by omega) V) (fun _=>⟨fun _=>True,trivial,aP hm (aP hm ⟨?_,?_⟩)⟩))))
 ·exact zQ (Fr.start w).drew hb fun q w1 C=>⟨trivial,zQ C hb fun j w2 A=>⟨trivial,loop A⟩⟩
 ·exact zQ (Fr.start w).drew hb fun j w1 C=>⟨trivial,zQ C hb fun q w2 A=>⟨trivial,loop (A.picks [1,0] (by decide))⟩⟩
end
end
section
noncomputable abbrev eT:TypeId:=dD P cF
noncomputable def trF(v:Value)(T:List (Value×List Int)):List It:=lK eT 1 v T.length (T.map (·.1))::T.map fun u=>bI .i32 eI u.1 u.2
theorem qtj(v:Int):cV .i32 v 8=v/256:=by
 unfold cV
 rw[Int.fdiv_eq_ediv_of_nonneg _ (by decide)];rfl
theorem qli{a b:Int}(ha:0≤a∧a<256)(hb:0≤b∧b<256):L3 .u16 (u16 a) (qY .u16 (u16 b) 8)=a+256*b:=by
 have h1:u16 a=a:=by rw[qc8];omega
 have h2:u16 b=b:=by rw[qc8];omega
 have h3:((2^IntKind.u16.bits:Nat):Int)=65536:=by decide
 have h4:((2^8:Nat):Int)=256:=by decide
 rw[h1,h2,show(8:Int)=((8:Nat):Int)from rfl,HC rfl (by decide) hb.1,h3,h4,ZE (by omega) (by omega)]
 have:=SZ (k:=.u16) (a:=a) (b:=b) (m:=8) rfl ha.1 (by rw[h4];omega) hb.1 (by rw[h3,h4];omega)
 rw[h4]at this
 rw[this];omega
theorem qoo{xs:List Int}(h:inR .u8 xs){i:Nat}(hi:i<xs.length):0≤rd xs (i:Int)∧rd xs (i:Int)<256:=by
 have h0:=h xs[i] (kH hi)
 have h1:IntKind.u8.min=0:=by decide
 have h2:IntKind.u8.max=255:=by decide
 rw[h1,h2]at h0
 rw[dK xs i hi];omega
theorem qqq{xs:List Int}(hx:inR .u8 xs){size i:Nat}(hs:size=1∨size=2)(hi:i+size≤xs.length):IntKind.i32.min≤smp xs size i∧smp xs size i≤IntKind.i32.max:=by
 have h1:IntKind.i32.min= -2147483648:=by decide
 have h2:IntKind.i32.max=2147483647:=by decide
 have:=(qss hx hs hi).2
 rw[h1,h2];omega
section
variable {w0 w:World} {F:List It}
theorem qi2{n b:Int}:Calls P D0 #[aB n,aB b] w (fun e w'=>e=aW (.bool (decide (1≤n∧n≤8∧(b=8∨b=16))))∧w'=w):=by
 refine u4 (aG (fun h1=>aG (fun h2=>jP (fun h3=>⟨?_,rfl⟩) (fun h3=>⟨?_,rfl⟩)) (fun h2=>⟨?_,rfl⟩)) (fun h1=>⟨?_,rfl⟩))
 ·have:(b==16)=decide (1≤n∧n≤8∧(b=8∨b=16)):=by
   by_cases h4:b=16
   ·subst h4;rw[decide_eq_true (by omega)];rfl
   ·rw[decide_eq_false (by omega)];simp [h4]
  rw[this]
 ·rw[decide_eq_true (by omega)]
 ·rw[decide_eq_false (by omega)]
 ·rw[decide_eq_false (by omega)]
theorem Fr.nils(f:Fr w0 w F):∀n,Fr w0 w ((List.replicate n (bI .i32 eI (bR) []))++F)
 |0=>f
 |n+1=>by rw[DQ];exact(Fr.nils f n).nil0 .i32 eI
def qrk(w:World)(xss:List (List Int))(e:Ending)(w':World):Prop:=∃v T,e=bP #[v,aB 0]∧T.map (·.2)=xss∧Fr w w' (trF v T)
theorem qjV{b0:Value}{xs:List Int}{ch size n:Nat}(hb:Nm .u8 w b0 xs)(hc1:1≤ch)(X:ch≤8)(hs:size=1∨size=2)(I:xs.length=n*(ch*size))(hl:xs.length≤1000000000):
  Calls P G2 #[b0,aB (ch:Int),aB ((8*size:Nat):Int)] w (qrk w (qI xs ch size (n*ch))):=by
 have ac:i64 (Int.tdiv ((8*size:Nat):Int) 8)=(size:Int):=by
  rcases hs with rfl|rfl
  ·decide +kernel
  ·decide +kernel
 have hcs:i64 ((ch:Int)*(size:Int))=((ch*size:Nat):Int):=by
  have:ch*size≤8*2:=U3 X (by omega)
  rw[←rM,aD (by omega) (by omega)]
 have ah:1≤ch*size:=U3 hc1 (show 1≤size by omega)
 refine RX (hZ qi2 ?_)
 rw[decide_eq_true (by omega),ac,hcs]
 refine V7 (aP hb (kZ (by omega) ?_))
 have J:Int.tmod ((xs.length:Nat):Int) ((ch*size:Nat):Int)=0:=by
  rw[N0 (by omega),I,←QM,Nat.mul_mod_left];rfl
 rw[J]
 refine cA (fun h=>(h rfl).elim) (fun _=>?_)
 have ai:bI .i32 eI (bR) []=(fun u:Value×List Int=>bI .i32 eI u.1 u.2) (bR,[]):=rfl
 refine qbS 24 (bR) (sz:=1) ((Fr.start w).nils ch) (by omega) (by unfold maxLen;omega) (fun j w2 N=>?_) (by kernel_rfl)
 have N:Fr w w2 (trF j (List.replicate ch (bR,[]))):=by
  have e1:(madeCells (Value.slice none 0 0).cells (ch*1)).toList=List.replicate ch (Value.slice none 0 0):=by
   rw[show(Value.slice none 0 0).cells= #[Value.slice none 0 0]from rfl,K6,toList_madeCells_one]
  rw[e1,iW]at N
  unfold trF
  rw[sF,ZH,ZH]
  exact N
 refine⟨fun i w'=>∃(t:Nat) (T:List (Value×List Int)),i=((t*size:Nat):Int)∧t≤n*ch∧T.map (·.2)=qI xs ch size t∧Fr w w' (trF j T),fun i _=>(xs.length-i).toNat,⟨0,_,by rw[qac];rfl,bW _,?_,N⟩,?_⟩
 ·rw[ZH]
  refine List.ext_getElem (by rw[sF,IS]) fun k h1 h2=>?_
  have hk:k<ch:=by rw[sF]at h1;exact h1
  simp only[qI,LX,List.getElem_range,List.getElem_replicate]
  unfold H8
  rw[qrx hk];rfl
 rintro _ i w3 ⟨t,T,rfl,ht,O,f3⟩
 have V:T.length=ch:=by have:=congrArg List.length O;rwa [fE,IS]at this
 have aj:n*ch*size=n*(ch*size):=Nat.mul_assoc _ _ _
 refine aP (hb.ev f3.old) (aG (fun cR=>?_) (fun an=>?_))
 ·have r:t<n*ch:=by
   refine Decidable.byContradiction fun hc=>?_
   have:=kR size (show n*ch≤t by omega)
   omega
  have ae:t*size+size≤xs.length:=by
   have:=kR size r
   rw[mJ]at this;omega
  refine uC (hb.ev f3.old) (by omega) (by omega) ?_
  refine⟨fun v w'=>v=smp xs size (t*size)∧Fr w w' (trF j T),cN (fun e=>?_) (fun e=>⟨?_,f3⟩),?_⟩
  ·have h2:size=2:=by omega
   have i1:i64 (((t*size:Nat):Int)+1)=((t*size+1:Nat):Int):=by rw[aD (by omega) (by omega)];rfl
   rw[i1]
   refine xE (hb.ev f3.old) (by omega) (by omega) (fun _ h=>qW h) (xE (hb.ev f3.old) (by omega) (by omega) (fun _ h=>qW h) ⟨?_,f3.drew⟩)
   rw[qli (qoo hb.2 (by omega)) (qoo hb.2 (by omega))]
   unfold smp
   rw[if_pos h2]
   have:=(show -32768≤i16 (rd xs ((t*size:Nat):Int)+256*rd xs ((t*size+1:Nat):Int))∧i16 (rd xs ((t*size:Nat):Int)+256*rd xs ((t*size+1:Nat):Int))<32768 by rw[qiS];omega)
   rw[L2];omega
  ·have h1:size=1:=by omega
   unfold smp
   rw[if_neg (by omega)]
   have:=qoo hb.2 (show t*size<xs.length by omega)
   rw[L2,L2];omega
  rintro _ v w4 ⟨rfl,f4⟩
  have hm:=Nat.mod_lt t (show 0<ch by omega)
  refine F4 (by omega) ?_
  have hq:IntKind.i64.wrap (Int.tdiv ((t*size:Nat):Int) (size:Int))=(t:Int):=by
   rw[sH (by omega),←Int.natCast_ediv,Nat.mul_div_cancel _ (by omega)]
   show i64 _=_
   have:t≤t*size:=ZK _ (by omega)
   rw[aD (by omega) (by omega)]
  rw[hq]
  refine kZ (by omega) ?_
  have hr:Int.tmod (t:Int) (ch:Int)=((t%ch:Nat):Int):=by rw[N0 (by omega),QM]
  rw[hr]
  have q:t%ch<T.length:=by omega
  have A:T[t%ch].2=H8 xs ch size t (t%ch):=by
   have h0:(T.map (·.2))[t%ch]'(by rw[fE];exact q)=T[t%ch].2:=LX _
   rw[←h0]
   simp only[O,qI,LX,List.getElem_range]
  have am:(H8 xs ch size t (t%ch)).length≤t:=by
   unfold H8;rw[dS,qdQ (by omega)];exact Nat.div_le_self _ _
  refine N7 (f4.row 0 rfl) (by omega) (by rw[←V]at hm;omega) fun ad u hu Y _=>dV Y ?_
  have af:u=T[t%ch].1:=by
   rw[dH,jD,fR q]at hu
   simpa using hu.symm
  subst af
  have ab:=qqq hb.2 hs ae
  refine jF [smp xs size (t*size)] f4 rfl rfl (fun x hx=>by rw[List.mem_singleton.1 hx];exact ab) fun l5 w5 f5=>?_
  have C:(bI .i32 (dD P aM) l5 [smp xs size (t*size)]::trF j T)[t%ch+2]?=some (bI .i32 (dD P aM) T[t%ch].1 T[t%ch].2):=by
   unfold trF
   rw[T7,T7,jD,fR q];rfl
  refine vZ f5 (t%ch+2) C (f5.nm 0 rfl) (by rw[A];simp only[iO,ME];have:t≤t*size:=ZK _ (by omega);omega) fun v6 w6 f6=>?_
  have f6:Fr w w6 (bI .i32 eI l5 [smp xs size (t*size)]::lK eT 1 j T.length (T.map (·.1))::(T.map fun u=>bI .i32 eI u.1 u.2).set (t%ch) (bI .i32 eI v6 (T[t%ch].2++[smp xs size (t*size)]))):=f6
  have M:=f6.get (t%ch+2) (it:=bI .i32 eI v6 (T[t%ch].2++[smp xs size (t*size)])) (by rw[T7,T7,List.getElem?_set_self (by rw[fE];exact q)])
  have f6:=f6.drop 0
  have Z:w6.ownsRow 0 eT 1 j T.length (T.map (·.1)):=f6.get 0 rfl
  refine uE Z rfl q fun al aa=>BJ f6 0 rfl aa q (by obtain⟨a,c,rfl,_⟩:=(ON.nm M).shape;rfl) (by obtain⟨a,c,rfl,_⟩:=(ON.nm M).shape;rfl) fun w7 U=>?_
  have U:Fr w w7 (trF j (T.set (t%ch) (v6,T[t%ch].2++[smp xs size (t*size)]))):=by
   unfold trF
   rw[AJ,DR,DR];exact U
  refine⟨⟨t+1,_,?_,r,?_,U⟩,?_⟩
  ·rw[aD (by omega) (by omega),mJ];omega
  ·rw[DR,O,qfs (by omega),A]
  ·dsimp only;rw[aD (by omega) (by omega)];omega
 ·have r:t=n*ch:=by
   refine Decidable.byContradiction fun hc=>?_
   have:=kR size (show t+1≤n*ch by omega)
   rw[mJ]at this
   omega
  subst r
  exact⟨j,T,rfl,O,f3⟩
end
end
section
def IU(size:Nat):Int:=if size=2 then 32768 else 128
def qgX(m:Int)(l:List Int):Bool:=l.all fun v=>decide (-m≤v∧v<m)
def JY(size:Nat)(xss:List (List Int))(n:Nat):List Int×Int:=if xss.all (qgX (IU size))=true then(R2 size xss n,0)else([],4)
theorem qeo{m:Int}{l:List Int}:qgX m l=true↔∀q:Nat,q<l.length→ -m≤rd l (q:Int)∧rd l (q:Int)<m:=by
 unfold qgX
 rw[List.all_eq_true]
 refine⟨fun h q hq=>?_,fun h x hx=>?_⟩
 ·have:=h l[q] (kH hq)
  rw[dK l q hq];simpa using this
 ·obtain⟨q,hq,rfl⟩:=List.mem_iff_getElem.1 hx
  have:=h q hq
  rw[dK l q hq]at this
  simpa using this
section
variable {w0 w:World}
theorem qlI{p:Value}{us:List Value}{xss:List (List Int)}{size n:Nat}(hp:Sl w 1 p us.length us)(hl:us.length=xss.length)(hu:∀(i:Nat) (u:Value) (xs:List Int),us[i]?=some u→xss[i]?=some xs→Nm .i32 w u xs)
  (h1:1≤us.length) (h8:us.length≤8) (hs:size=1∨size=2) (hn:∀xs∈xss,xs.length=n) (hb:n≤100000000):Calls P P2 #[aB ((8*size:Nat):Int),p] w (yQ w (JY size xss n)):=by
 have hM:IU size=32768∨IU size=128:=by unfold IU;split<;>omega
 have hsh:qY .i32 1 (i64 (((8*size:Nat):Int)-1))=IU size:=by
  rcases hs with rfl|rfl
  ·decide +kernel
  ·decide +kernel
 have aa:lT (0-IU size)= -IU size:=by rw[L2];omega
 have J:∀{k:Nat} (hk:k<us.length),Nm .i32 w us[k] (xss[k]'(by omega)):=fun{k} hk=>hu k _ _ (by simp [hk]) (by simp [show k<xss.length by omega])
 have C:∀{k:Nat} (hk:k<us.length),(xss[k]'(by omega)).length=n:=fun{k} hk=>hn _ (kH _)
 have M:∀{k:Nat} (hk:k<us.length) {w':World} (_:Ev w w') {K:Value→Prop},K us[k]→aX P cF p (aB (k:Int)) fun ad=>aF P aM dM (aH ad) w' K:=fun{k} hk {w'} he {K} h=>by
  refine N7 (hp.ev he) (by omega) (by omega) fun a u T hc _=>dV hc ?_
  have al:u=us[k]:=by
   rw[dH,fR hk]at T;injection T with T;exact T.symm
  rw[al];exact h
 have U:∀{w'},Ev w w'→¬(xss.all (qgX (IU size))=true)→yQ w (JY size xss n) (bP #[bR,aB 4]) w':=fun he N=>by
  unfold JY;rw[if_neg N];exact⟨_,rfl,he,ON.nil _ _ _ _⟩
 refine XF (cK hp (hZ qi2 ?_))
 rw[decide_eq_true (by omega)]
 refine V7 (JQ (by rcases hs with rfl|rfl<;>decide +kernel) ?_)
 rw[hsh,aa]
 refine cK hp ⟨fun i w'=>∃k:Nat,i=(k:Int)∧k≤us.length∧(∀(j:Nat) (xs:List Int),j<k→xss[j]?=some xs→qgX (IU size) xs=true)∧w'=w,fun i _=>(us.length-i).toNat,⟨0,rfl,bW _,fun j _ hj=>by omega,rfl⟩,?_⟩
 rintro _ i w1 ⟨k,rfl,hk,hall,hw⟩
 obtain rfl:w=w1:=hw.symm
 refine aG (fun cR=>?_) (fun ag=>?_)
 ·have A:k<us.length:=by omega
  refine M A (Ch.refl _ _) (aP (J A) (M (k:=0) (by omega) (Ch.refl _ _) (aP (J (show 0<us.length by omega)) (cA (fun ai=>absurd (by rw[C A,C (show 0<us.length by omega)]) ai) (fun _=>aP (J A) ?_)))))
  rw[C A]
  refine⟨fun j w'=>∃q:Nat,j=(q:Int)∧q≤n∧(∀r:Nat,r<q→ -IU size≤rd (xss[k]'(by omega)) (r:Int)∧rd (xss[k]'(by omega)) (r:Int)<IU size)∧w'=w,fun j _=>(n-j).toNat,⟨0,rfl,bW _,fun r Y=>by omega,rfl⟩,?_⟩
  rintro _ j w2 ⟨q,rfl,hq,hok,am⟩
  obtain rfl:w=w2:=am.symm
  have N:∀{r:Nat},r<n→¬(-IU size≤rd (xss[k]'(by omega)) (r:Int)∧rd (xss[k]'(by omega)) (r:Int)<IU size)→¬(xss.all (qgX (IU size))=true):=fun{r} Y aj ha=>by
   have:=qeo.1 (List.all_eq_true.1 ha _ (kH (show k<xss.length by omega))) r (by rw[C A];exact Y)
   exact aj this
  refine aG (fun aq=>?_) (fun an=>?_)
  ·have X:q<n:=by omega
   refine uC (J A) (by omega) (by rw[C A];omega) (cC (fun ha=>aG (fun ae=>U (Ch.refl _ _) (N X (by omega))) (fun ae=>?_)) (fun ha=>U (Ch.refl _ _) (N X (by omega))))
   refine⟨⟨q+1,by rw[aD (by omega) (by omega)];omega,X,fun r Y=>?_,rfl⟩,by dsimp only;rw[aD (by omega) (by omega)];omega⟩
   rcases I6 r q with h|h
   ·exact hok r h
   ·obtain rfl:r=q:=by omega
    omega
  ·obtain rfl:q=n:=by omega
   refine⟨⟨k+1,by rw[aD (by omega) (by omega)];omega,A,fun j xs hj hx=>?_,rfl⟩,by dsimp only;rw[aD (by omega) (by omega)];omega⟩
   rcases I6 j k with h|h
   ·exact hall j xs h hx
   ·obtain rfl:j=k:=by omega
    rw[fR (by omega)]at hx
    injection hx with hx;subst hx
    exact qeo.2 fun r Y=>hok r (by rw[C A]at Y;exact Y)
 ·obtain rfl:k=us.length:=by omega
  have V:xss.all (qgX (IU size))=true:=List.all_eq_true.2 fun xs hx=>by
   obtain⟨j,hj⟩:=List.mem_iff_getElem?.1 hx
   exact hall j xs (by rw[hl];exact(List.getElem?_eq_some_iff.1 hj).1) hj
  have ab:JY size xss n=(R2 size xss n,0):=by unfold JY;rw[if_pos V]
  rw[ab]
  refine M (k:=0) (by omega) (Ch.refl _ _) (aP (J (show 0<us.length by omega)) ?_)
  rw[C (show 0<us.length by omega)]
  refine⟨fun out i w'=>∃k:Nat,i=(k:Int)∧k≤n∧Fr w w' [bI .u8 eB out (R2 size xss k)],fun _ i _=>(n-i).toNat,⟨0,rfl,bW _,(Fr.start w).nil0 .u8 eB⟩,?_⟩
  rintro _ out i w2 ⟨k,rfl,au,f2⟩
  refine aG (fun cR=>?_) (fun ag=>?_)
  ·have Z:k<n:=by omega
   refine cK (hp.ev f2.old) ⟨fun out i w'=>∃j:Nat,i=(j:Int)∧j≤us.length∧Fr w w' [bI .u8 eB out (R2 size xss k++((xss.take j).map fun l=>FU size (rd l (k:Int))).flatten)],fun _ i _=>(us.length-i).toNat,⟨0,rfl,bW _,by simpa using f2⟩,?_⟩
   rintro _ out i w3 ⟨j,rfl,hj,f3⟩
   refine aG (fun ar=>?_) (fun ao=>?_)
   ·have I:j<us.length:=by omega
    have ah:j<xss.length:=by omega
    have av:=(R2 size xss k++((xss.take j).map fun l=>FU size (rd l (k:Int))).flatten)
    have ap:(R2 size xss k++((xss.take j).map fun l=>FU size (rd l (k:Int))).flatten).length≤3200000000:=by
     have h3:∀ls:List (List Int),((ls.map fun l=>FU size (rd l (k:Int))).flatten).length=ls.length*size:=by
      intro ls
      induction ls with
      |nil=>simp
      |cons l ls ih=>rw[U0,QN,bD,ih,qfq hs,iO,mJ];omega
     have h5:xss.length*size≤8*2:=U3 (by omega) (by omega)
     have h6:k*(xss.length*size)≤100000000*16:=U3 (by omega) (by omega)
     have h7:(xss.take j).length*size≤8*2:=U3 (by rw[eJ];omega) (by omega)
     rw[bD,JZ hs,h3];omega
    have O:R2 size xss k++((xss.take (j+1)).map fun l=>FU size (rd l (k:Int))).flatten=R2 size xss k++((xss.take j).map fun l=>FU size (rd l (k:Int))).flatten++FU size (rd xss[j] (k:Int)):=by
     rw[iV ah,gQ,LZ];simp
    refine M I f3.old (cN (fun e=>?_) (fun e=>?_))
    ·have aw:size=1:=by omega
     refine uC ((J I).ev f3.old) (by omega) (by rw[C I];omega) ?_
     have af:u8 (lT (rd xss[j] (k:Int)+128))=u8 (rd xss[j] (k:Int)+128):=by rw[L2,nF,nF];omega
     rw[af]
     refine jF [u8 (rd xss[j] (k:Int)+128)] f3 rfl rfl (fun x hx=>by rw[List.mem_singleton.1 hx,nF];exact IZ (by omega)) fun l4 w4 f4=>vZ f4 1 rfl (f4.nm 0 rfl) (by simp only[List.length_cons,List.length_nil];omega) fun v5 w5 f5=>⟨⟨j+1,by rw[aD (by omega) (by omega)];omega,I,?_⟩,by dsimp only;rw[aD (by omega) (by omega)];omega⟩
     have e1:FU size (rd xss[j] (k:Int))=[u8 (rd xss[j] (k:Int)+128)]:=by unfold FU;rw[if_neg (by omega)]
     rw[O,e1]
     exact f5.drop 0
    ·have ak:size=2:=by omega
     refine⟨fun w'=>Ev w w',f3.drew.old,xE (J I) (by omega) (by rw[C I];omega) (fun _ h=>h) (xE (J I) (by omega) (by rw[C I];omega) (fun _ h=>h) ?_)⟩
     rw[qtj]
     refine jF [u8 (rd xss[j] (k:Int)),u8 (rd xss[j] (k:Int)/256)] f3.drew rfl rfl (fun x hx=>by
      simp only[I5,GL,or_false]at hx
      rcases hx with rfl|rfl<;>rw[nF]<;>exact IZ (by omega)) fun l4 w4 f4=>⟨f4.old,vZ f4 1 rfl (f4.nm 0 rfl) (by simp only[List.length_cons,List.length_nil];omega) fun v5 w5 f5=>⟨f5.old,⟨j+1,by rw[aD (by omega) (by omega)];omega,I,?_⟩,by dsimp only;rw[aD (by omega) (by omega)];omega⟩⟩
     have e1:FU size (rd xss[j] (k:Int))=[u8 (rd xss[j] (k:Int)),u8 (rd xss[j] (k:Int)/256)]:=by unfold FU;rw[if_pos ak]
     rw[O,e1]
     exact f5.drop 0
   ·obtain rfl:j=us.length:=by omega
    rw[gI (by omega),←VT]at f3
    exact⟨⟨k+1,by rw[aD (by omega) (by omega)];omega,Z,f3⟩,by dsimp only;rw[aD (by omega) (by omega)];omega⟩
  ·obtain rfl:k=n:=by omega
   exact⟨out,rfl,f2.old,f2.on 0 rfl⟩
end
end
end Go.Proofs.YtabchipjjghhnaaGreatDoorV
