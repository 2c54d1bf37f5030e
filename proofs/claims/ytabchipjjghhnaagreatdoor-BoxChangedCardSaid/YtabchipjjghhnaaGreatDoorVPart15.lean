import Derived.Handed
import Derived.ShapedOpen
import Derived.Ground.SlsfProg
import Derived.Ground.GgzProg
import Derived.Ground.SlbNamesProg
import Derived.Shelf.SlSortCmp.NoneTotal
import Derived.Shelf.SlIter.Stops
import Derived.Shelf.LaysM
import Derived.Shelf.Bytes.SlIndexWhole
import Derived.Shelf.Bytes.SlCountWhole
import Derived.Test.YtabchipjjghhnaaGreatDoorProg
import Derived.Test.YtabchipjjghhnaaGreatDoorVPart14
set_option linter.unusedVariables false
set_option linter.unusedSimpArgs false
namespace Go.Proofs.YtabchipjjghhnaaGreatDoorV
open Go Go.RowKit
section
def qlk(xs:List Int)(most:Int):List Int×Int:=D8 (BQ most) (xs.length+1) xs []
def YY(lim:Int)(f:Nat)(r out:List Int):List Int×Int:=if(out.length:Int)>lim then([],5)else D8 lim f r out
section
variable {b:Value} {xs:List Int} {w:World}
theorem YX{lim:Int}{f:Nat}{c:Int}{r out:List Int}(h:¬(c=2∨c=3)):D8 lim (f+1) (c::r) out=YY lim f r (out++[c]):=by cases r<;>(rw[D8,if_neg h];rfl)
theorem YV{lim:Int}{f:Nat}{c:Int}{out:List Int}(h:c=2∨c=3):D8 lim (f+1) [c] out=([],3):=by rw[D8,if_pos h]
theorem YU{lim:Int}{f:Nat}{c d:Int}{r out:List Int}(h:c=2∧97≤d∧d≤122):D8 lim (f+1) (c::d::r) out=YY lim f r (out++[d-32]):=by rw[D8,if_pos (.inl h.1),if_pos h];rfl
theorem YW{lim:Int}{f:Nat}{c d:Int}{r out:List Int}(h:c=3∧(d=2∨d=3)):D8 lim (f+1) (c::d::r) out=YY lim f r (out++[d]):=by rw[D8,if_pos (.inr h.1),if_neg (by omega),if_pos h];rfl
theorem LS{lim:Int}{f:Nat}{c d:Int}{r out:List Int}(h:c=2∨c=3)(h1:¬(c=2∧97≤d∧d≤122))(h2:¬(c=3∧(d=2∨d=3))):D8 lim (f+1) (c::d::r) out=([],4):=by rw[D8,if_pos h,if_neg h1,if_neg h2]
theorem qme{d:Int}(h:0≤d∧d<256):(QU (u8 (d-32))=true∧97≤d)↔(97≤d∧d≤122):=by
 unfold QU
 rw[decide_eq_true_iff,nF];omega
theorem TW{most:Int}(hb:Nm .u8 w b xs)(hl:xs.length≤100000000):Calls P rX #[b,aB most] w (yQ w (qlk xs most)):=by
 refine XE (dX (z:=.agg #[bR]) (Fr.start w) (by kernel_rfl) fun ad w1 f1=>?_)
 have f1:=f1.asW (e:=eB) 0 rfl
 rw[Addr.add_zero' ad]
 obtain⟨O,M⟩:∃r,r=qlk xs most:=⟨_,rfl⟩
 have U:∀{w':World} {n:Int},Ev w w'→O=([],n)→yQ w (qlk xs most) (bP #[bR,aB n]) w':=fun he hn=>by rw[←M,hn];exact⟨_,rfl,he,ON.nil _ _ _ _⟩
 refine⟨fun i w'=>∃(j f:Nat) (v:Value) (out:List Int),i=j∧j≤xs.length∧xs.length<f+j∧O=D8 (BQ most) f (xs.drop j) out∧out.length≤j∧Fr w w' [rN eB ad v out],fun i _=>xs.length-i.toNat,⟨0,xs.length+1,_,[],rfl,by omega,by omega,M,by simp,f1⟩,?_⟩
 rintro _ i w2 ⟨j,f,v,out,rfl,hj,hf,A,am,T⟩
 obtain⟨f,rfl⟩:∃g,f=g+1:=⟨f-1,by omega⟩
 have Z:=hb.ev T.old
 refine aP hb (aG (fun cR=>?_) (fun al=>?_))
 ·have V:j<xs.length:=by omega
  have hc:=jB hb.2 j
  rw[qiy V]at A
  refine⟨fun i w'=>∃(q f:Nat) (v:Value) (out:List Int),i=q∧j≤q∧q<xs.length∧xs.length<f+(q+1)∧O=D8 (BQ most) f (xs.drop (q+1)) out∧out.length≤q+1∧Fr w w' [rN eB ad v out],dL Z (by omega) cR fun a1 c1 _=>bG c1 ⟨fun i w'=>∃(q f:Nat) (v:Value) (out:List Int),i=q∧j≤q∧q<xs.length∧xs.length<f+(q+1)∧O=YY (BQ most) f (xs.drop (q+1)) out∧out.length≤q+1∧Fr w w' [rN eB ad v out],⟨fun t w'=>(t=true↔¬(rd xs j=2∨rd xs j=3))∧w2=w',cA (fun n2=>⟨by simp;omega,rfl⟩) (fun e2=>⟨by simp;omega,rfl⟩),?_⟩,?_⟩,?_⟩
  ·rintro _ t _ ⟨ht,rfl⟩
   refine iQ (fun h=>?_) (fun h=>?_)
   ·have hn:=ht.1 h
    rw[YX hn]at A
    exact C5 [rd xs j] rfl rfl (fun x hx=>by simp at hx;subst hx;exact IZ hc) T (by omega) (by decide) fun v' w3 f3=>⟨j,f,v',_,rfl,by omega,V,by omega,A,by simp;omega,f3⟩
   ·have Y:rd xs j=2∨rd xs j=3:=by
     rcases Classical.em (rd xs j=2∨rd xs j=3)with h1|h1
     ·exact h1
     ·rw[ht.2 h1]at h;cases h
    rw[show i64 ((j:Int)+1)=((j+1:Nat):Int)by rw[aD (by omega) (by omega)];omega]
    refine aP hb (cN (fun e=>?_) (fun ne=>?_))
    ·rw[zN (by omega),YV Y]at A
     exact U T.old A
    ·have C:j+1<xs.length:=by omega
     have hd:=jB hb.2 ((j+1:Nat):Int)
     have hcs:=qme hd
     rw[qiy C]at A
     refine dL Z (by omega) (by omega) fun a2 c2 _=>bG c2 ⟨fun t w'=>(t=true↔(rd xs j=2∧97≤rd xs ((j+1:Nat):Int)∧rd xs ((j+1:Nat):Int)≤122))∧w2=w',cN (fun e2=>hZ BC (iQ (fun h1=>⟨?_,rfl⟩) (fun h1=>⟨?_,rfl⟩))) (fun n2=>⟨by simp [n2],rfl⟩),?_⟩
     ·rw[h1]at hcs
      rw[decide_eq_true_iff]
      constructor
      ·intro h2;exact⟨e2,hcs.1 ⟨rfl,h2⟩⟩
      ·intro h2;exact h2.2.1
     ·rw[h1]at hcs
      constructor
      ·intro h2;cases h2
      ·intro h2;have:=hcs.2 h2.2;exact absurd this.1 (by simp)
     rintro _ t2 _ ⟨ae,rfl⟩
     refine iQ (fun h2=>?_) (fun h2=>?_)
     ·have aa:=ae.1 h2
      rw[YU aa]at A
      rw[LQ (n:=rd xs ((j+1:Nat):Int)-32) (by omega) (by omega)]
      exact C5 [rd xs ((j+1:Nat):Int)-32] rfl rfl (fun x hx=>by rw[List.mem_singleton.1 hx];exact IZ (by omega)) T (by omega) (by decide) fun v' w3 f3=>⟨j+1,f,v',_,rfl,by omega,C,by omega,A,by simp;omega,f3⟩
     ·have I:¬(rd xs j=2∧97≤rd xs ((j+1:Nat):Int)∧rd xs ((j+1:Nat):Int)≤122):=fun h3=>by rw[ae.2 h3]at h2;cases h2
      have put:(rd xs j=3∧(rd xs ((j+1:Nat):Int)=2∨rd xs ((j+1:Nat):Int)=3))→eG P aA 1 #[(0,.int .u8 (rd xs ((j+1:Nat):Int)))] w2 fun(t70:Value) af=>aE P dA jO #[aH ad,t70] af fun ag=>∃(q f:Nat) (v:Value) (out:List Int),(((j+1:Nat):Int)=q∧j≤q∧q<xs.length∧xs.length<f+(q+1)∧O=YY (BQ most) f (xs.drop (q+1)) out∧out.length≤q+1∧Fr w ag [rN eB ad v out]):=fun h3=>by
       rw[YW h3]at A
       exact C5 [rd xs ((j+1:Nat):Int)] rfl rfl (fun x hx=>by rw[List.mem_singleton.1 hx];exact IZ hd) T (by omega) (by decide) fun v' w3 f3=>⟨j+1,f,v',_,rfl,by omega,C,by omega,A,by simp;omega,f3⟩
      refine cN (fun e3=>jP (fun n2=>cN (fun d3=>put ⟨e3,.inr d3⟩) (fun n3=>?_)) (fun d2=>put ⟨e3,.inl d2⟩)) (fun n3=>?_)
      ·rw[LS Y I (by omega)]at A;exact U T.old A
      ·rw[LS Y I (by omega)]at A;exact U T.old A
  ·rintro _ i w3 ⟨q,X,v3,N,rfl,hq,ac,ab,u,J,f3⟩
   refine hZ (qeR (f3.get 0 rfl)) (aG (fun h=>?_) (fun h=>?_))
   ·unfold YY at u;rw[if_pos h]at u;exact U f3.old u
   ·unfold YY at u;rw[if_neg h]at u;exact⟨q,X,v3,N,rfl,hq,ac,ab,u,J,f3⟩
  ·rintro _ i w3 ⟨q,X,v3,N,rfl,hq,ac,ab,u,J,f3⟩
   rw[aD (n:=(q:Int)+1) (by omega) (by omega)]
   exact⟨⟨q+1,X,v3,N,rfl,by omega,by omega,u,J,f3⟩,by dsimp only;omega⟩
 ·obtain rfl:j=xs.length:=by omega
  have hW:Wr eB w2 ad v out:=T.get 0 rfl
  refine dV (hW.1.cell (j:=0) rfl) ?_
  rw[zN (cJ _),D8]at A
  rw[←M,A]
  exact⟨v,rfl,T.old,qhw hW.2.1 fun g hg=>(T.ft 0 rfl (k:=g) (.inr hg)).1⟩
end
end
section
def Big(us:List E3):Prop:=∀u∈us,u.2.2.length≤reachBytes∧u.1.size≤reachBytes
theorem qjo:reachBytes<140737488355328:=by decide
section
variable {w0 w w':World} {F:List It}
set_option maxRecDepth 20000 in
theorem qmJ{v:Value}(h:I7 P w aJ [v]):∃us,Es w v us∧Big us∧us.length≤140737488355328:=by
 obtain⟨n,cs,hS,_,J,hg⟩:=qek (sz:=2) (e:=aR) (by kernel_rfl) (by kernel_rfl) h
 have O:cs.length=n*2:=by obtain⟨_,_,_,_,h,_⟩:=hS;exact h
 have:∀m,m≤n→∃us:List E3,us.length=m∧gA us=cs.take (m*2)∧∀u∈us,Nm .u8 w u.2.1 u.2.2∧u.2.2.length≤reachBytes∧u.1.size≤reachBytes:=by
  intro m
  induction m with
  |zero=>intro _;exact⟨[],rfl,by simp [gA],fun _ h=>by cases h⟩
  |succ m T=>
   intro hm
   obtain⟨us,h1,h2,h3⟩:=T (by omega)
   have q:=hg m (by omega)
   obtain⟨v0,g0,A⟩:=rR (i:=0) (off:=0) (ft:=bE) (by kernel_rfl) q
   obtain⟨v1,g1,C⟩:=rR (i:=1) (off:=1) (ft:=aA) (by kernel_rfl) q
   obtain⟨s,N,hs⟩:=qb5 (by kernel_rfl) A
   obtain⟨xs,M,_,r⟩:=qej (k:=.u8) (e:=bK) (by kernel_rfl) (by kernel_rfl) (by kernel_rfl) C
   have I:P.bytesOf bK=1:=by kernel_rfl
   rw[I,K6]at r
   simp only[List.cons.injEq,and_true]at N
   subst N
   refine⟨us++[(s,v1,xs)],by simp [h1],?_,fun u hu=>?_⟩
   ·rw[E9,h2]
    have cR:m*2+1<cs.length:=by omega
    rw[vW,if_pos (by omega),QO]at g0 g1
    have a0:cs[m*2]=Value.string s:=(List.getElem?_eq_some_iff.1 (by simpa using g0)).2
    have a1:cs[m*2+1]=v1:=(List.getElem?_eq_some_iff.1 g1).2
    rw[show(m+1)*2=m*2+1+1 by omega,iV (by omega),iV (by omega),a0,a1]
    simp [gA,c3]
   ·rcases List.mem_append.1 hu with hu|hu
    ·exact h3 u hu
    ·simp at hu;subst hu;exact⟨M,r,hs⟩
 obtain⟨us,h1,h2,h3⟩:=this n (cJ _)
 rw[gI (by omega)]at h2
 have j:P.bytesOf aR=40:=by kernel_rfl
 rw[j]at J
 have:=qjo
 exact⟨us,⟨by rw[h1,h2];exact hS,fun u hu=>(h3 u hu).1⟩,fun u hu=>(h3 u hu).2,by rw[h1];omega⟩
theorem qjM(u x:E3)(hu:Nm .u8 w u.2.1 u.2.2)(hx:Nm .u8 w x.2.1 x.2.2):Calls P jJ #[.agg #[.string u.1,u.2.1],.agg #[.string x.1,x.2.1]] w (fun e w'=>e=aW (.bool (decide (er u=er x)))∧Ev w w'):=by
 refine FQ (mL (Fr.start w) fun a2 w1 r=>mL r fun A w2 j=>yF (j.cell 1 0 rfl rfl) (yF (j.cell 0 0 rfl rfl) ?_))
 rw[IT]
 refine aG (fun he=>dV (j.cell 1 1 rfl rfl) (dV (j.cell 0 1 rfl rfl) (hZ (qad (hu.ev j.old) (hx.ev j.old)) ⟨?_,j.old⟩))) (fun q=>⟨?_,j.old⟩)
 ·have:(er u=er x)↔u.2.2=x.2.2:=by unfold er;rw[Prod.mk.injEq,he];simp
  rw[decide_eq_decide.2 this]
 ·rw[decide_eq_false (show ¬er u=er x from fun h=>q (congrArg (fun p:En=>p.1) h))]
def qkr(l:List En):Bool:=decide (l.length<200)&&decide (gJ l+xB l<50000)
theorem qob(f:En→Int):∀l:List En,(∀x∈l,0≤f x)→0≤(l.map f).sum
 |[],_=>by simp
 |y::l,h=>by
  have:=h y (by simp)
  have:=qob f l fun z hz=>h z (by simp [hz])
  simp only[U0,List.sum_cons];omega
theorem qg4(f:En→Int):∀l:List En,(∀x∈l,0≤f x)→∀x∈l,f x≤(l.map f).sum
 |y::l,h,x,hx=>by
  have j:=qg4 f l fun z hz=>h z (by simp [hz])
  have h0:=h y (by simp)
  have h1:0≤(l.map f).sum:=qob f l fun z hz=>h z (by simp [hz])
  simp only[U0,List.sum_cons]
  rcases List.mem_cons.1 hx with rfl|hx
  ·omega
  ·have:=j x hx;omega
theorem qax{us:List E3}(h:qkr (us.map er)=true):us.length<200∧(∀u∈us,u.2.2.length<50000∧u.1.size<50000)∧gJ (us.map er)<50000∧xB (us.map er)<50000:=by
 unfold qkr at h
 rw[mK,decide_eq_true_eq,decide_eq_true_eq,fE]at h
 have h1:=D6 (us.map er)
 have h2:=TK (us.map er)
 refine⟨h.1,fun u hu=>?_,by omega,by omega⟩
 have hd:=qg4 (fun x=>(x.2.length:Int)) (us.map er) (fun x _=>GJ _) (er u) (List.mem_map.2 ⟨u,hu,rfl⟩)
 have hn:=qg4 (fun x=>(x.1.size:Int)) (us.map er) (fun x _=>GJ _) (er u) (List.mem_map.2 ⟨u,hu,rfl⟩)
 have e1:((us.map er).map (fun x=>(x.2.length:Int))).sum=gJ (us.map er):=rfl
 have e2:((us.map er).map (fun x=>(x.1.size:Int))).sum=xB (us.map er):=rfl
 rw[e1]at hd;rw[e2]at hn
 simp only[er]at hd hn
 omega
theorem qaw{us:List E3}(h:qkr (us.map er)=true):Small us:=by
 obtain⟨h1,h2,_⟩:=qax h
 exact⟨by omega,fun u hu=>by have:=h2 u hu;omega⟩
def sB(l:List UInt8):ByteArray:=kI l
end
end
section
def qes(P:Program)(t:TypeId)(n:Nat):Bool:=match P.underlying t with
 |some (.struct _)=>Nat.beq (P.cellsOf t) n
 |_=>false
theorem qmK{P:Program}{w:World}{t:TypeId}{cs:List Value}{n:Nat}(hf:qes P t n=true)(h:I7 P w t cs):cs.length=n:=by
 unfold qes at hf
 split at hf
 ·rename_i j hu
  rw[(PN hu h).1,DO hf]
 ·cases hf
theorem qtm{cs:List Value}(h:cs.length=8):∃a b c d e f g i,cs=[a,b,c,d,e,f,g,i]:=by
 match cs,h with
 |[a,b,c,d,e,f,g,i],_=>exact⟨a,b,c,d,e,f,g,i,rfl⟩
section
variable {w0 w:World} {F:List It}
set_option maxRecDepth 20000 in
theorem qaH{cs:List Value}(h:I7 P w cB cs):∃(j:Bool) (cv:Value) (lv bk:Int) (lo:Bool) (sv M:Value) (rd:Int) (ts ss ns:List Int),cs=[.bool j,cv,aB lv,aB bk,.bool lo,sv,M,aB rd]∧Nm .i64 w cv ts∧Nm .u8 w sv ss∧Nm .u8 w M ns:=by
 obtain⟨a,b,c,d,e,f,g,i,rfl⟩:=qtm (qmK (n:=8) (by kernel_rfl) h)
 obtain⟨v0,g0,k0⟩:=rR (i:=0) (off:=0) (ft:=Q1) (by kernel_rfl) h
 obtain⟨v1,g1,k1⟩:=rR (i:=1) (off:=1) (ft:=bJ) (by kernel_rfl) h
 obtain⟨v2,g2,k2⟩:=rR (i:=2) (off:=2) (ft:=aK) (by kernel_rfl) h
 obtain⟨v3,g3,k3⟩:=rR (i:=3) (off:=3) (ft:=aK) (by kernel_rfl) h
 obtain⟨v4,q,N⟩:=rR (i:=4) (off:=4) (ft:=Q1) (by kernel_rfl) h
 obtain⟨v5,r,O⟩:=rR (i:=5) (off:=5) (ft:=aA) (by kernel_rfl) h
 obtain⟨v6,u,T⟩:=rR (i:=6) (off:=6) (ft:=aA) (by kernel_rfl) h
 obtain⟨Y,A,U⟩:=rR (i:=7) (off:=7) (ft:=aK) (by kernel_rfl) h
 injection g0 with g0;injection g1 with g1;injection g2 with g2;injection g3 with g3;injection q with q;injection r with r;injection u with u;injection A with A
 subst g0 g1 g2 g3 q r u A
 obtain⟨j,C⟩:=qaG (by kernel_rfl) k0
 obtain⟨ts,V,_⟩:=qb4 (k:=.i64) (e:=aK) (by kernel_rfl) (by kernel_rfl) (by kernel_rfl) k1
 obtain⟨lv,e2,_⟩:=JV (k:=.i64) (by kernel_rfl) k2
 obtain⟨bk,e3,_⟩:=JV (k:=.i64) (by kernel_rfl) k3
 obtain⟨lo,I⟩:=qaG (by kernel_rfl) N
 obtain⟨ss,X,_⟩:=qb4 (k:=.u8) (e:=bK) (by kernel_rfl) (by kernel_rfl) (by kernel_rfl) O
 obtain⟨ns,n6,_⟩:=qb4 (k:=.u8) (e:=bK) (by kernel_rfl) (by kernel_rfl) (by kernel_rfl) T
 obtain⟨rd,J,_⟩:=JV (k:=.i64) (by kernel_rfl) U
 simp only[List.cons.injEq,and_true]at C e2 e3 I J
 subst C e2 e3 I J
 exact⟨j,_,lv,bk,lo,_,_,rd,ts,ss,ns,rfl,V,X,n6⟩
end
end
end Go.Proofs.YtabchipjjghhnaaGreatDoorV
namespace Go.Proofs.YtabchipjjghhnaaGreatDoorV
section
open Go
theorem returnsInHanded_of_change_shaped{H:Type}{enc:TypeId×Value→H}{a:Assume}{C:Checked}{os:Os}{f:FuncId}{fn:Func}{s:ChangeSpec}{r:List PathCond}{apart I q A:Bool}{X:World→Array Value→Prop}
  (Y:∀(w w':World) (args:Array Value),w.heap=w'.heap→X w args→X w' args)
  (own:ownKnob C.prog.godebug=none) (started:os.Started) (N:C.prog.inits.idxOf? f=none) (hfn:C.prog.funcs[f]?=some fn)
  (J:∃(w:World) (tape:Tape) (i:Input),w.os=os∧(w.forCall tape i).Shaped C.prog∧i.vars=[]∧Input.okWide C.prog (w.forCall tape i) .any w.heap.size f i∧
   ((s.pre enc C.prog fn r apart (w.forCall tape i).memory i.args∧X (w.forCall tape i).memory i.args)∧sizedMet enc C.prog fn (OpenSpec.ofChange s) apart (w.forCall tape i).memory i.args)∧a.holds C.prog (lone (Frame.enter C.prog f i.args .normal) [] (w.forCall tape i)))
  (u:∀(W:World) (base:Nat) (args:Array Value) (ds gs:List (DataW H)) (before:List MemPlace),
   (∀(j:Nat) t v,fn.params[j]?=some t→args[j]?=some v→Value.okWide C.prog W .any base t v)→
   DataW.Whole enc C.prog fn.params.toList s.vars apart W args.toList ds gs before→
   r.all (PathCond.test C.prog ⟨fn.params.toList,ds,s.plain.varTypes C.prog,gs⟩)=true→
   (DataW.weightsEach C.prog (fn.params.toList++s.plain.varTypes C.prog) (ds++gs)).all (· ≤reachBytes)=true→X W args→
   a.holds C.prog (lone (Frame.enter C.prog f args .normal) [] W)→W.ShapedOpen C.prog→
   Calls C.prog f args W fun e W'=>∃v,e=.returned v∧s.post enc C.prog fn apart I q A W args v W'):
  ReturnsInHanded a C os f .any (fun w args=>(s.pre enc C.prog fn r apart w args∧X w args)∧sizedMet enc C.prog fn (OpenSpec.ofChange s) apart w args) (s.post enc C.prog fn apart I q A):=by
 refine returnsInHanded_of_calls own started N J ?_
 intro w tape i _ hsh _ hok T M
 obtain⟨_,_,_,U,O,_,_,_,_,hval⟩:=hok
 have e:U=fn:=Option.some.inj (O.symm.trans hfn)
 subst e
 obtain⟨⟨⟨ds,gs,before,hw,hc⟩,hx⟩,hz⟩:=T
 have V:=DataW.Whole.of_heap (w':=w.forCall tape i) (by rfl) hw
 refine(u (w.forCall tape i) w.heap.size i.args ds gs before hval V hc (hz.weights hw) (Y _ _ _ (by rfl) hx) M hsh).mono fun e W' ⟨v,he,hp⟩=>?_
 subst he
 exact ChangeSpec.post_blind hp
end
end Go.Proofs.YtabchipjjghhnaaGreatDoorV
namespace Go.Proofs.YtabchipjjghhnaaGreatDoorV
open Go Go.RowKit
section
def RdO(ra:Addr)(y:Value)(xs:List Int)(s:Nat×Int)(w:World):Prop:=Rd w ra y xs s.1 s.2∧ON .u8 eB w 0 y xs
noncomputable def fK(ra:Addr)(y:Value)(xs:List Int)(s:Nat×Int):It:=⟨fun k=>k=ra.block∨y.ownBlock=some k,RdO ra y xs s,fun w k h hk=>by
  rcases hk with hk|hk
  ·rw[hk];exact h.1.1.ce
  ·exact h.2.ce hk,fun w w' S h hc hs=>⟨h.1.ch hc fun k i hk=>hs k i hk,h.2.ch hc fun g i hg=>hs g i (.inr hg)⟩,fun w w' h hz hc=>⟨⟨h.1.1.gr hc,(h.2.gr hc).nm,h.1.2.2⟩,h.2.gr hc⟩⟩
section
variable {w0 w w':World} {F:List It} {xs:List Int} {ra da:Addr} {y:Value} {s:Nat×Int}
theorem M1(f:Fr w0 w F)(i:Nat)(hi:F[i]?=some (fK ra y xs s)):Rd w ra y xs s.1 s.2:=(show RdO ra y xs s w from f.get i hi).1
theorem qnS(f:Fr w0 w F)(i:Nat)(hi:F[i]?=some (fK ra y xs s)):s.1≤xs.length∧xs.length≤10000000000∧inR .u8 xs:=by
 have h:=M1 f i hi
 exact⟨h.2.2.2.1,h.2.2.2.2,h.2.1.2⟩
theorem qjn{s':Nat×Int}(f:Fr w0 w F)(i:Nat)(hi:F[i]?=some (fK ra y xs s))(g:RS w w' ra y xs s'.1 s'.2):Fr w0 w' (F.set i (fK ra y xs s')):=by
 have h:RdO ra y xs s w:=f.get i hi
 refine f.upd i hi g.2 (fun k q hh=>.inl (.inl hh.1)) ⟨g.1,h.2.ch g.2 fun j q hg hh=>h.1.2.2.1 (by rw[hg,hh.1])⟩ fun k hk=>.inl hk
theorem qse{ad:Addr}(f:Fr w0 w (aT ad [y,aB 0,aB 0]::bI .u8 eB y xs::F))(hl:xs.length≤10000000000):Fr w0 w (fK ad y xs (0,0)::F):=by
 obtain⟨h1,h2,h3,h4,h5,h6,q⟩:=f
 have hn:y.ownBlock≠some ad.block:=fun e=>h3 (bI .u8 eB y xs) (by simp) ad.block rfl e
 have j:ON .u8 eB w 0 y xs:=h4
 refine⟨⟨⟨h1,j.nm,hn,bW _,hl⟩,j⟩,fun k hk=>?_,fun jt hj k hk=>?_,q⟩
 ·rcases hk with hk|hk
  ·exact h2 k hk
  ·exact h5 k hk
 ·rcases hk with hk|hk
  ·exact h3 jt (lL _ hj) k hk
  ·exact h6 jt hj k hk
theorem qcJ{r:List Int×Nat×Int}{e:Ending}(f:Fr w0 w F)(i:Nat)(hi:F[i]?=some (fK ra y xs s))(g:qrj w ra y xs r e w'):∃v,e=aW v∧Fr w0 w' (bI .u8 eB v r.1::F.set i (fK ra y xs r.2)):=by
 obtain⟨v,rfl,g1,g2⟩:=g
 have j:=qjn (s':=r.2) f i hi g1
 have cR:∀it∈F.set i (fK ra y xs r.2),∀k,it.ft k→k<w.heap.size:=fun it hm k hk=>by
  rcases List.mem_or_eq_of_mem_set hm with hm|rfl
  ·exact It.lt it w k (f.mem hm).1 hk
  ·exact It.lt (fK ra y xs s) w k (f.get i hi) hk
 exact⟨v,rfl,j.cons f.old.size cR (g2.low (bW _)) fun k hk=>(g2.base hk).1⟩
end
end
section
def jT(xs:List Int)(m:Int)(s:Nat×Int):Int×(Nat×Int):=
 (if m+1<(jK xs s.1 s.2 18446744073709551615).1 then m+1 else(jK xs s.1 s.2 18446744073709551615).1,(jK xs s.1 s.2 18446744073709551615).2)
theorem Z0{xs:List Int}{m:Int}{s:Nat×Int}(hm:0≤m)(hx:inR .u8 xs):0≤(jT xs m s).1∧(jT xs m s).1≤m+1:=by
 have:=qF (xs:=xs) (a:=s.1) (er:=s.2) (most:=18446744073709551615) hx
 unfold jT
 dsimp only
 split<;>omega
theorem qug{x:Int}(h:0≤x∧x≤4294967296):IntKind.i64.min≤x∧x≤IntKind.i64.max:=by
 have h1:IntKind.i64.min= -9223372036854775808:=by decide
 have h2:IntKind.i64.max=9223372036854775807:=by decide
 rw[h1,h2];omega
def tgN(xs:List Int):Nat→List Int×(Nat×Int)→List Int×(Nat×Int)
 |0,r=>r
 |k+1,r=>tgN xs k (r.1++[(jT xs 6 r.2).1],(jT xs 6 r.2).2)
def tgS(xs:List Int)(s:Nat×Int):(List Int×Bool)×(Nat×Int):=
 if(jT xs 4 s).1>4 then(([],false),(jT xs 4 s).2)else(((tgN xs (jT xs 4 s).1.toNat ([],(jT xs 4 s).2)).1,iL (tgN xs (jT xs 4 s).1.toNat ([],(jT xs 4 s).2)).1),(tgN xs (jT xs 4 s).1.toNat ([],(jT xs 4 s).2)).2)
structure OpB where
 auto:Bool
 chain:List Int
 level:Int
 block:Int
def FS(xs:List Int)(s:Nat×Int):Int×(Nat×Int):=jT xs 1 (jT xs 65536 (jT xs 3 s).2).2
def opB(xs:List Int)(s:Nat×Int):(OpB×Bool)×(Nat×Int):=
 ((⟨(FS xs s).1==1,(tgS xs (FS xs s).2).1.1,(jT xs 3 s).1,(jT xs 65536 (jT xs 3 s).2).1⟩,(tgS xs (FS xs s).2).1.2&&(decide ((FS xs s).1≤1)&&K3 ((FS xs s).1==1) (tgS xs (FS xs s).2).1.1 (jT xs 3 s).1 (jT xs 65536 (jT xs 3 s).2).1 false 0 0 0)),(tgS xs (FS xs s).2).2)
def obC(o:OpB)(cv:Value):List Value:=[.bool o.auto,cv,aB o.level,aB o.block,.bool false,bR,bR,aB 0]
def it1(xs:List Int)(s:Nat×Int):List Int×(Nat×Int):=fZ xs s.1 s.2 4096
def it2(xs:List Int)(s:Nat×Int):Int×(Nat×Int):=jT xs 1048576 (it1 xs s).2
def it3(xs:List Int)(s:Nat×Int):List Int×(Nat×Int):=eV xs (it2 xs s).2.1 (it2 xs s).2.2 4
def it4(xs:List Int)(s:Nat×Int):(List Int×Bool)×(Nat×Int):=tgS xs (it3 xs s).2
def it5(xs:List Int)(s:Nat×Int):Int×(Nat×Int):=jT xs 2097152 (it4 xs s).2
def grI(n:Int):Int:=n+n/256+8
def W5(xs:List Int)(s:Nat×Int):(ItP×Bool)×(Nat×Int):=
 ((⟨tO (it1 xs s).1,(it2 xs s).1,vX (IY (it3 xs s).1),(it4 xs s).1.1,(it5 xs s).1⟩,
  (it4 xs s).1.2&&(iA (tO (it1 xs s).1)&&(decide ((it2 xs s).1≤1048576)&&(decide ((it5 xs s).1≤grI (it2 xs s).1)&&(decide (0<(it4 xs s).1.1.length)||(it5 xs s).1==(it2 xs s).1))))),(it5 xs s).2)
section
variable {w0 w:World} {F:List It} {xs:List Int} {ra pa:Addr} {y:Value} {s:Nat×Int} {cs:List Value}
theorem V4{m:Int}{K:Int→World→Prop}(f:Fr w0 w (fK ra y xs s::aT pa (aH ra::cs)::F))(hm:0≤m∧m≤1000000000)
  (hk:∀w',Fr w0 w' (fK ra y xs (jT xs m s).2::aT pa (aH ra::cs)::F)→K (jT xs m s).1 w'):aE P eQ bA #[aH pa,aB m] w K:=by
 refine bQ (Q:=fun w'=>Fr w0 w' (fK ra y xs (jT xs m s).2::aT pa (aH ra::cs)::F)) ?_ hk
 refine EX (aC (lI f 1 0 rfl rfl (bQ (LD (M1 f 0 rfl)) fun w1 h1=>⟨?_,qjn (s':=(jT xs m s).2) f 0 rfl h1⟩)))
 have j:=qF (xs:=xs) (a:=s.1) (er:=s.2) (most:=18446744073709551615) (qnS f 0 rfl).2.2
 rw[show gD m=m by rw[dW];omega,show gD (m+1)=m+1 by rw[dW];omega]
 unfold jT
 rw[aD (by split<;>omega) (by split<;>omega)]
theorem XV(f:Fr w0 w (fK ra y xs s::F)):inR .u8 xs:=(qnS f 0 rfl).2.2
def qsS(w0:World)(ra:Addr)(y:Value)(xs:List Int)(pa:Addr)(cs:List Value)(F:List It)(r:(List Int×Bool)×(Nat×Int))(e:Ending)(w':World):Prop:=
 ∃v,e=bP #[v,.bool r.1.2]∧Fr w0 w' (fK ra y xs r.2::aT pa (aH ra::cs)::bI .i64 eN v r.1.1::F)
theorem qc4(hx:inR .u8 xs)(s:Nat×Int):(tgS xs s).1.1.length≤4:=by
 have hn:∀(k:Nat) (r:List Int×(Nat×Int)),(tgN xs k r).1.length=r.1.length+k:=fun k=>by
  induction k with
  |zero=>intro r;rfl
  |succ k j=>intro r;rw[tgN,j,bD,N1];omega
 have:=Z0 (xs:=xs) (m:=4) (s:=s) (by decide) hx
 unfold tgS
 split
 ·exact bW _
 ·dsimp only;rw[hn,List.length_nil];omega
theorem qfy(f:Fr w0 w (fK ra y xs s::aT pa (aH ra::cs)::F)):Calls P oZ #[aH pa] w (qsS w0 ra y xs pa cs F (tgS xs s)):=by
 have hx:=XV f
 have T:=Z0 (xs:=xs) (m:=4) (s:=s) (by decide) hx
 refine HO (V4 f (by decide) fun w1 C=>aG (fun h=>?_) (fun h=>?_))
 ·have e:tgS xs s=(([],false),(jT xs 4 s).2):=if_pos h
  rw[e]
  exact⟨_,rfl,(C.nil0 .i64 eN).picksN 3 [1,2,0] (by decide) (by decide)⟩
 have e:tgS xs s=(((tgN xs (jT xs 4 s).1.toNat ([],(jT xs 4 s).2)).1,iL (tgN xs (jT xs 4 s).1.toNat ([],(jT xs 4 s).2)).1),(tgN xs (jT xs 4 s).1.toNat ([],(jT xs 4 s).2)).2):=if_neg h
 rw[e]
 generalize(jT xs 4 s).1=n at*
 generalize(jT xs 4 s).2=s1 at*
 obtain⟨N,rfl⟩:∃N:Nat,n=N:=⟨n.toNat,by omega⟩
 rw[dH]
 refine⟨fun l t w'=>∃(j:Nat) (r:List Int×(Nat×Int)),t=(j:Int)∧j≤N∧r.1.length=j∧tgN xs (N-j) r=tgN xs N ([],s1)∧Fr w0 w' (fK ra y xs r.2::aT pa (aH ra::cs)::bI .i64 eN l r.1::F),fun _ t _=>(N-t).toNat,⟨0,([],s1),rfl,bW _,rfl,rfl,(C.nil0 .i64 eN).picksN 3 [1,2,0] (by decide) (by decide)⟩,?_⟩
 rintro _ l t w2 ⟨j,r,rfl,hj,A,q,u⟩
 refine aG (fun cR=>?_) (fun J=>?_)
 ·have I:j<N:=by omega
  have hv:=Z0 (xs:=xs) (m:=6) (s:=r.2) (by decide) hx
  refine V4 u (by decide) fun w3 f3=>jF [(jT xs 6 r.2).1] f3 rfl rfl (fun x hx=>by rw[List.mem_singleton.1 hx];exact qug (by omega)) fun M w4 f4=>vZ f4 3 rfl (f4.nm 0 rfl) (by simp;omega) fun O w5 f5=>?_
  refine⟨⟨j+1,(r.1++[(jT xs 6 r.2).1],(jT xs 6 r.2).2),by rw[aD (by omega) (by omega)];omega,by omega,by simp [A],?_,f5.drop 0⟩,by dsimp only;rw[aD (by omega) (by omega)];omega⟩
  rw[←q,show N-j=(N-(j+1))+1 by omega,tgN]
 ·obtain rfl:j=N:=by omega
  rw[pH,tgN]at q
  rw[←q]
  exact gC (U8 (u.nm 2 rfl) (by omega)) fun w3 h3=>⟨l,rfl,u.ev h3⟩
def qqH(w0:World)(ra:Addr)(y:Value)(xs:List Int)(pa:Addr)(cs:List Value)(F:List It)(r:(OpB×Bool)×(Nat×Int))(e:Ending)(w':World):Prop:=
 ∃v,e=bP #[.agg #[.bool r.1.1.auto,v,aB r.1.1.level,aB r.1.1.block,.bool false,bR,bR,aB 0],.bool r.1.2]∧Fr w0 w' (fK ra y xs r.2::aT pa (aH ra::cs)::bI .i64 eN v r.1.1.chain::F)
abbrev zO:List Value:=[.bool false,bR,aB 0,aB 0,.bool false,bR,bR,aB 0]
set_option maxHeartbeats 800000 in
theorem qeP(f:Fr w0 w (fK ra y xs s::aT pa (aH ra::cs)::F)):Calls P pR #[aH pa] w (qqH w0 ra y xs pa cs F (opB xs s)):=by
 have hx:=XV f
 refine AQ (dX (z:=.agg #[.bool false,bR,aB 0,aB 0,.bool false,bR,bR,aB 0]) f (by kernel_rfl) fun t2 w1 Y=>dX (z:=.agg #[.bool false,bR,aB 0,aB 0,.bool false,bR,bR,aB 0]) Y (by kernel_rfl) fun j w2 J=>?_)
 have J:Fr w0 w2 (fK ra y xs s::aT pa (aH ra::cs)::aT j zO::aT t2 zO::F):=J.picksN 4 [2,3,0,1] (by decide) (by decide)
 refine V4 J (by decide) fun w3 f3=>V4 f3 (by decide) fun w4 f4=>dT f4 2 2 rfl (fun w5 f5=>dT f5 2 3 rfl (fun w6 f6=>?_))
 have f6:Fr w0 w6 (fK ra y xs (jT xs 65536 (jT xs 3 s).2).2::aT pa (aH ra::cs)::aT j [.bool false,bR,aB (jT xs 3 s).1,aB (jT xs 65536 (jT xs 3 s).2).1,.bool false,bR,bR,aB 0]::aT t2 zO::F):=f6
 refine V4 f6 (by decide) fun w7 Z=>aO (qfy Z) ?_
 rintro _ w8 ⟨cv,rfl,f8⟩
 have e3:jT xs 1 (jT xs 65536 (jT xs 3 s).2).2=FS xs s:=rfl
 rw[e3]at f8⊢
 have r:=f8.nm 2 rfl
 have U:=qc4 hx (FS xs s).2
 refine⟨_,_,rfl,dT f8 3 0 rfl (fun w9 f9=>dT f9 3 1 rfl (fun V f10=>?_) (by simp) r.oc r.one)⟩
 obtain⟨o,I⟩:∃o:OpB,o=(opB xs s).1.1:=⟨_,rfl⟩
 have f10:Fr w0 V (fK ra y xs (tgS xs (FS xs s).2).2::aT pa (aH ra::cs)::bI .i64 eN cv o.chain::aT j (obC o cv)::aT t2 zO::F):=by rw[I];exact f10
 have hok:(opB xs s).1.2=((tgS xs (FS xs s).2).1.2&&(decide ((FS xs s).1≤1)&&K3 o.auto o.chain o.level o.block false 0 0 0)):=by rw[I];rfl
 have T:(opB xs s).2=(tgS xs (FS xs s).2).2:=rfl
 have ab:o.chain.length≤4:=by rw[I];exact U
 unfold qqH
 rw[hok,T,←I]
 have M:cv.oneCell'=true:=r.oc
 generalize(tgS xs (FS xs s).2).2=X at f10⊢
 have hB:∀{w':World},Fr w0 w' (fK ra y xs X::aT pa (aH ra::cs)::bI .i64 eN cv o.chain::aT j (obC o cv)::aT t2 zO::F)→∀z u,(obC o cv)[z]?=some u→w'.cell? (j.add z)=some u:=fun hf z u hz=>hf.cell 3 z rfl hz
 have q:∀{w':World},Fr w0 w' (fK ra y xs X::aT pa (aH ra::cs)::bI .i64 eN cv o.chain::aT j (obC o cv)::aT t2 (obC o cv)::F)→∀z u,(obC o cv)[z]?=some u→w'.cell? (j.add z)=some u:=fun hf z u hz=>hf.cell 3 z rfl hz
 have h1:∀u∈(#[.bool o.auto,cv,aB o.level,aB o.block,.bool false,bR,bR,aB 0]:Array Value).toList,u.oneCell'=true:=fun u hu=>by
  simp at hu;rcases hu with rfl|rfl|rfl|rfl|rfl|rfl|rfl
  all_goals first|exact M|rfl
 refine⟨fun w'=>∀z u,(obC o cv)[z]?=some u→w'.cell? (j.add z)=some u,hB f10.drew,mB [.bool o.auto,cv,aB o.level,aB o.block,.bool false,bR,bR,aB 0] (fun w' hw z u hz=>hw z u hz) ?_ rfl (by kernel_rfl)⟩
 refine iQ (fun ht=>aG (fun O=>mB [.bool o.auto,cv,aB o.level,aB o.block,.bool false,bR,bR,aB 0] (fun w' hw z u hz=>hw z u hz) ?_ rfl (by kernel_rfl)) (fun N=>?_)) (fun ht=>?_)
 ·refine gC (TN (ss:=[]) (ns:=[]) (f10.drew.nm 2 rfl) (Nm.nil .u8 _) (Nm.nil .u8 _) (by omega)) fun ac A=>⟨hB (f10.drew.ev A),cS (f10.drew.ev A) 4 rfl (fun C f12=>⟨q f12,gE f12 4 rfl ⟨cv,?_,f12.picksN 5 [0,1,2] (by decide) (by decide)⟩⟩) rfl h1⟩
  rw[ht,decide_eq_true O];rfl
 ·refine cS f10.drew 4 rfl (fun C f12=>⟨q f12,gE f12 4 rfl ⟨cv,?_,f12.picksN 5 [0,1,2] (by decide) (by decide)⟩⟩) rfl h1
  rw[ht,decide_eq_false N];rfl
 ·refine cS f10.drew 4 rfl (fun C f12=>⟨q f12,gE f12 4 rfl ⟨cv,?_,f12.picksN 5 [0,1,2] (by decide) (by decide)⟩⟩) rfl h1
  rw[ht];rfl
def qqF(w0:World)(ra:Addr)(y:Value)(xs:List Int)(pa:Addr)(cs:List Value)(F:List It)(r:(ItP×Bool)×(Nat×Int))(e:Ending)(w':World):Prop:=
 ∃v,e=bP #[.agg #[.string r.1.1.name,aB r.1.1.size,.int .u32 r.1.1.sum,v,aB r.1.1.packed],.bool r.1.2]∧Fr w0 w' (fK ra y xs r.2::aT pa (aH ra::cs)::bI .i64 eN v r.1.1.chain::F)
abbrev zI:List Value:=[.string ⟨#[]⟩,aB 0,.int .u32 0,bR,aB 0]
theorem qmL{n:Int}(h:0≤n∧n≤1000000000000):i64 (i64 (n+i64 (Int.tdiv n 256))+8)=grI n:=by
 unfold grI
 rw[sH h.1,aD (n:=n/256) (by omega) (by omega),aD (n:=n+n/256) (by omega) (by omega),aD (by omega) (by omega)]
set_option maxHeartbeats 1600000 in
theorem qmZ(f:Fr w0 w (fK ra y xs s::aT pa (aH ra::cs)::F)):Calls P uM #[aH pa] w (qqF w0 ra y xs pa cs F (W5 xs s)):=by
 have hx:=XV f
 refine HN (dX (z:=.agg #[.string ⟨#[]⟩,aB 0,.int .u32 0,bR,aB 0]) f (by kernel_rfl) fun t2 w1 f1=>dX (z:=.agg #[.string ⟨#[]⟩,aB 0,.int .u32 0,bR,aB 0]) f1 (by kernel_rfl) fun j w2 M=>?_)
 have M:Fr w0 w2 (fK ra y xs s::aT pa (aH ra::cs)::aT j zI::aT t2 zI::F):=M.picksN 4 [2,3,0,1] (by decide) (by decide)
 refine aC (lI M 1 0 rfl rfl (aO (EK (M1 M 0 rfl) (by decide)) ?_))
 intro e w3 h3
 obtain⟨nv,rfl,f3⟩:=qcJ M 0 rfl h3
 have f3:Fr w0 w3 (bI .u8 eB nv (it1 xs s).1::fK ra y xs (it1 xs s).2::aT pa (aH ra::cs)::aT j zI::aT t2 zI::F):=f3
 refine⟨nv,rfl,lA (f3.nm 0 rfl) (dT f3 3 0 rfl (fun w4 f4=>?_))⟩
 have f4:Fr w0 w4 (fK ra y xs (it1 xs s).2::aT pa (aH ra::cs)::aT j [.string (tO (it1 xs s).1),aB 0,.int .u32 0,bR,aB 0]::aT t2 zI::F):=f4.drop 0
 refine V4 f4 (by decide) fun w5 f5=>dT f5 2 1 rfl (fun w6 f6=>?_)
 have f6:Fr w0 w6 (fK ra y xs (it2 xs s).2::aT pa (aH ra::cs)::aT j [.string (tO (it1 xs s).1),aB (it2 xs s).1,.int .u32 0,bR,aB 0]::aT t2 zI::F):=f6
 refine aC (lI f6 1 0 rfl rfl (aO (L9 (n:=4) (M1 f6 0 rfl)) ?_))
 rintro _ w7 ⟨rfl,h7⟩
 have f7:Fr w0 w7 (fK ra y xs (it3 xs s).2::aT pa (aH ra::cs)::aT j [.string (tO (it1 xs s).1),aB (it2 xs s).1,.int .u32 0,bR,aB 0]::aT t2 zI::F):=qjn (s':=(it3 xs s).2) f6 0 rfl h7
 refine⟨_,rfl,dT f7 2 2 rfl (fun w8 f8=>?_)⟩
 have f8:Fr w0 w8 (fK ra y xs (it3 xs s).2::aT pa (aH ra::cs)::aT j [.string (tO (it1 xs s).1),aB (it2 xs s).1,.int .u32 (vX (IY (it3 xs s).1)),bR,aB 0]::aT t2 zI::F):=f8
 refine aO (qfy f8) ?_
 rintro _ w9 ⟨cv,rfl,f9⟩
 refine⟨_,_,rfl,V4 f9 (by decide) fun aj f10=>?_⟩
 have f10:Fr w0 aj (fK ra y xs (it5 xs s).2::aT pa (aH ra::cs)::bI .i64 eN cv (it4 xs s).1.1::aT j [.string (tO (it1 xs s).1),aB (it2 xs s).1,.int .u32 (vX (IY (it3 xs s).1)),bR,aB 0]::aT t2 zI::F):=f10
 have A:=f10.nm 2 rfl
 have O:cv.oneCell'=true:=A.oc
 refine dT f10 3 3 rfl (fun aw aa=>dT aa 3 4 rfl (fun ak f12=>?_)) (by simp) O A.one
 obtain⟨q,hq⟩:∃q:ItV,q=⟨(W5 xs s).1.1,cv⟩:=⟨_,rfl⟩
 have f12:Fr w0 ak (fK ra y xs (it5 xs s).2::aT pa (aH ra::cs)::bI .i64 eN cv q.p.chain::aT j (c5 q)::aT t2 zI::F):=by rw[hq];exact f12
 have g2:=Z0 (xs:=xs) (m:=1048576) (s:=(it1 xs s).2) (by decide) hx
 have g5:=Z0 (xs:=xs) (m:=2097152) (s:=(it4 xs s).2) (by decide) hx
 have r2:0≤q.p.size∧q.p.size≤1048577:=by rw[hq];exact g2
 have hok:(W5 xs s).1.2=((it4 xs s).1.2&&(iA q.p.name&&(decide (q.p.size≤1048576)&&(decide (q.p.packed≤grI q.p.size)&&(decide (0<q.p.chain.length)||q.p.packed==q.p.size))))):=by rw[hq];rfl
 have ah:(W5 xs s).2=(it5 xs s).2:=rfl
 have af:(W5 xs s).1.1=q.p:=by rw[hq]
 have ae:(it4 xs s).1.1=q.p.chain:=by rw[hq];rfl
 have ag:q.cv=cv:=by rw[hq]
 have N:=qc4 hx (it3 xs s).2
 have e4:tgS xs (it3 xs s).2=it4 xs s:=rfl
 rw[e4]at N⊢
 unfold qqF
 rw[hok,ah,af]
 rw[ae]at N
 generalize(it5 xs s).2=s9 at f12⊢
 generalize(it4 xs s).1.2=tb at*
 have ac:c5 q=[.string q.p.name,aB q.p.size,.int .u32 q.p.sum,cv,aB q.p.packed]:=by unfold c5;rw[ag]
 rw[ac]at f12
 obtain⟨C,hC⟩:∃C:List Value,C=[.string q.p.name,aB q.p.size,.int .u32 q.p.sum,cv,aB q.p.packed]:=⟨_,rfl⟩
 have hB:∀{w':World} {X:List Value},Fr w0 w' (fK ra y xs s9::aT pa (aH ra::cs)::bI .i64 eN cv q.p.chain::aT j [.string q.p.name,aB q.p.size,.int .u32 q.p.sum,cv,aB q.p.packed]::aT t2 X::F)→∀z u,C[z]?=some u→w'.cell? (j.add z)=some u:=fun hf z u hz=>hf.cell 3 z rfl (by rw[←hC];exact hz)
 have h1:∀u∈(#[.string q.p.name,aB q.p.size,.int .u32 q.p.sum,cv,aB q.p.packed]:Array Value).toList,u.oneCell'=true:=fun u hu=>by
  simp at hu;rcases hu with rfl|rfl|rfl|rfl|rfl
  all_goals first|exact O|rfl
 refine⟨fun w'=>∀z u,C[z]?=some u→w'.cell? (j.add z)=some u,hB f12.drew,mB [.string q.p.name,aB q.p.size,.int .u32 q.p.sum,cv,aB q.p.packed] (fun w' hw z u hz=>hw z u (by rw[hC];exact hz)) ?_ rfl (by kernel_rfl)⟩
 have r:∀{w':World} {b:Bool},Fr w0 w' (fK ra y xs s9::aT pa (aH ra::cs)::bI .i64 eN cv q.p.chain::aT j [.string q.p.name,aB q.p.size,.int .u32 q.p.sum,cv,aB q.p.packed]::aT t2 zI::F)→(tb&&(iA q.p.name&&(decide (q.p.size≤1048576)&&(decide (q.p.packed≤grI q.p.size)&&(decide (0<q.p.chain.length)||q.p.packed==q.p.size)))))=b→
   aL P bO (aH t2) (.agg #[.string q.p.name,aB q.p.size,.int .u32 q.p.sum,cv,aB q.p.packed]) w' fun ww=>(∀z u,C[z]?=some u→ww.cell? (j.add z)=some u)∧aF P bO (.part (.agg [.str,.int .i64,.int .u32,.val,.int .i64])) (aH t2) ww fun(T:ByteArray) (U:Int) (V:Int) (Y:Value) (Z:Int)=>∃v,Ending.returned (.tuple #[.agg #[.string T,aB U,.int .u32 V,Y,aB Z],.bool b])=bP #[.agg #[.string q.p.name,aB q.p.size,.int .u32 q.p.sum,v,aB q.p.packed],.bool (tb&&(iA q.p.name&&(decide (q.p.size≤1048576)&&(decide (q.p.packed≤grI q.p.size)&&(decide (0<q.p.chain.length)||q.p.packed==q.p.size)))))]∧Fr w0 ww (fK ra y xs s9::aT pa (aH ra::cs)::bI .i64 eN v q.p.chain::F):=fun{w' b} hf hb=>
  cS hf 4 rfl (fun av I=>⟨hB I,gE I 4 rfl ⟨cv,by rw[hb],I.picksN 5 [0,1,2] (by decide) (by decide)⟩⟩) rfl h1
 have J:∀{k:Nat} {u:Value},[Value.string q.p.name,aB q.p.size,.int .u32 q.p.sum,cv,aB q.p.packed][k]?=some u→∀w':World,(∀z u,C[z]?=some u→w'.cell? (j.add z)=some u)→w'.cell? (j.add k)=some u:=fun hk w' hw=>hw _ _ (by rw[hC];exact hk)
 refine iQ (fun ht=>kB (J (k:=0) rfl) (gC (qaf q.p.name) fun ax ab=>?_)) (fun ht=>r f12.drew (by rw[ht];rfl))
 have f13:=f12.drew.ev ab
 refine⟨hB f13,iQ (fun hn=>aN (J (k:=1) rfl) (aG (fun hs=>aN (J (k:=4) rfl) (aN (J (k:=1) rfl) (bX (KM ⟨rfl,rfl⟩) ⟨hB f13,?_⟩))) (fun hs=>r f13 (by rw[decide_eq_false hs];simp)))) (fun hn=>r f13 (by rw[hn];simp))⟩
 rw[qmL (by omega)]
 refine aG (fun hg=>aP (f13.nm 2 rfl) (cC (fun hl=>aN (J (k:=4) rfl) (aN (J (k:=1) rfl) (r f13 ?_))) (fun hl=>r f13 ?_))) (fun hg=>r f13 ?_)
 ·rw[ht,hn,decide_eq_true hs,decide_eq_true hg,decide_eq_false (show ¬0<q.p.chain.length by omega)];rfl
 ·rw[ht,hn,decide_eq_true hs,decide_eq_true hg,decide_eq_true (show 0<q.p.chain.length by omega)];rfl
 ·rw[ht,hn,decide_eq_true hs,decide_eq_false hg];rfl
end
end
section
structure DeS where
 low:Int
 high:Int
 code:Int
 pos:Nat
def moC(bs:List Int)(code:Int)(p:Nat):Int:=if p<bs.length then L3 .u32 (qY .u32 code 8) (vX (rd bs (p:Int)))else qY .u32 code 8
def moS(bs:List Int)(D:DeS):DeS:=⟨D.low,D.high,moC bs D.code D.pos,D.pos+1⟩
def deC(D:DeS)(y:Value):List Value:=[.int .u32 D.low,.int .u32 D.high,.int .u32 D.code,y,aB D.pos]
noncomputable def V2(da:Addr)(y:Value)(bs:List Int)(D:DeS)(F:List It):List It:=aT da (deC D y)::bI .u8 eB y bs::F
def deL(bs:List Int):Nat→DeS→DeS
 |0,d=>d
 |f+1,d=>if zJ d.low=zJ d.high then deL bs f (moS bs ⟨ZP d.low,XZ d.high,d.code,d.pos⟩)else d
def yU(d:DeS)(ch:Int):Int:=if d.code≤BT d.low d.high ch then 1 else 0
def deS(bs:List Int)(d:DeS)(ch:Int):DeS:=deL bs 4 ⟨(tkI d.low d.high (yU d ch) (BT d.low d.high ch)).1,(tkI d.low d.high (yU d ch) (BT d.low d.high ch)).2,d.code,d.pos⟩
theorem qml(bs:List Int):∀(f:Nat) (d:DeS),0≤d.low→0≤d.high→(0≤(deL bs f d).low∧0≤(deL bs f d).high)∧(deL bs f d).pos≤d.pos+f
 |0,d,h1,h2=>⟨⟨h1,h2⟩,cJ _⟩
 |f+1,d,h1,h2=>by
  rw[deL]
  split
  ·have h:=qml bs f (moS bs ⟨ZP d.low,XZ d.high,d.code,d.pos⟩) (IR h1) (IQ h2)
   have h3:(moS bs ⟨ZP d.low,XZ d.high,d.code,d.pos⟩).pos=d.pos+1:=rfl
   exact⟨h.1,by have:=h.2;omega⟩
  ·exact⟨⟨h1,h2⟩,by omega⟩
theorem qrB{bs:List Int}{d:DeS}{ch:Int}(h1:0≤d.low)(h2:0≤d.high):(0≤(deS bs d ch).low∧0≤(deS bs d ch).high)∧(deS bs d ch).pos≤d.pos+4:=by
 have h:=qc6 (bit:=yU d ch) h1 h2 (TC d.low d.high ch)
 exact qml bs 4 _ h.1 h.2
def qtJ:Option Value→Nat
 |some (.int _ n)=>n.toNat
 |_=>0
section
variable {w0 w:World} {F:List It} {da:Addr} {y:Value} {bs:List Int} {D:DeS}
set_option maxHeartbeats 800000 in
theorem qeB(f:Fr w0 w (V2 da y bs D F))(hp:D.pos≤1000000000)(hl:bs.length≤1000000000):Calls P lW #[aH da] w (fun e w'=>e=bP #[]∧Fr w0 w' (V2 da y bs (moS bs D) F)):=by
 have f:Fr w0 w (aT da [.int .u32 D.low,.int .u32 D.high,.int .u32 D.code,y,aB D.pos]::bI .u8 eB y bs::F):=f
 have e1:i64 ((D.pos:Int)+1)=((D.pos+1:Nat):Int):=by rw[aD (by omega) (by omega)];omega
 refine AS (aC (cI f 0 2 rfl rfl (aC (dT f 0 2 rfl fun w1 r=>aC ?_))))
 have r:Fr w0 w1 (aT da [.int .u32 D.low,.int .u32 D.high,.int .u32 (qY .u32 D.code 8),y,aB D.pos]::bI .u8 eB y bs::F):=r
 refine aN (mM (r.drew.cell 0 4 rfl rfl)) (aC (dE (mM (r.drew.cell 0 3 rfl rfl)) (aP (r.nm 1 rfl) (aG (fun cR=>?_) (fun I=>?_)))))
 ·have j:D.pos<bs.length:=by omega
  have hB:∀{w':World} {c:Value},Fr w0 w' (aT da [.int .u32 D.low,.int .u32 D.high,c,y,aB D.pos]::bI .u8 eB y bs::F)→(w'.cell? (da.add 3)=some y∧w'.cell? (da.add 4)=some (aB D.pos)∧ON .u8 eB w' 0 y bs):=fun hf=>⟨hf.cell 0 3 rfl rfl,hf.cell 0 4 rfl rfl,hf.get 1 rfl⟩
  refine⟨fun w'=>w'.cell? (da.add 3)=some y∧w'.cell? (da.add 4)=some (aB D.pos)∧ON .u8 eB w' 0 y bs,hB r.drew.drew,aC (aC (dE (fun w' hw=>hw.1) (aC (aN (fun w' hw=>hw.2.1) ?_))))⟩
  have J:ON .u8 eB w1.drew.drew 0 y bs:=r.drew.drew.get 1 rfl
  refine uE J.1 rfl j fun ad hs=>aN (n:=rd bs (D.pos:Int)) (fun w' hw=>?_) (bG (r.drew.drew.cell 0 2 rfl rfl) ⟨hB r.drew.drew,aC (dT r.drew.drew 0 2 rfl fun w2 C=>⟨hB C,aC (cI C 0 4 rfl rfl (aC (dT C 0 4 rfl fun w3 f3=>⟨rfl,?_⟩)))⟩)⟩)
  ·have h:=SltR.cell (q:=0) hw.2.2.1 hs (u:=.int .u8 (rd bs (D.pos:Int))) (by rw[K6,Nat.add_zero,jD,fR j,dK bs _ j];rfl)
   rwa [Addr.add_zero']at h
  ·rw[e1]at f3
   unfold V2 moS deC moC
   rw[if_pos j];exact f3
 ·have A:¬D.pos<bs.length:=by omega
  refine aC (cI r.drew 0 4 rfl rfl (aC (dT r.drew 0 4 rfl fun w3 f3=>⟨rfl,?_⟩)))
  rw[e1]at f3
  unfold V2 moS deC moC
  rw[if_neg A];exact f3
set_option maxHeartbeats 1000000 in
theorem qdl{ch:Int}(f:Fr w0 w (V2 da y bs D F))(h1:0≤D.low)(h2:0≤D.high)(hp:D.pos≤900000000)(hl:bs.length≤1000000000):
  Calls P nM #[aH da,aB ch] w (fun e w'=>e=aW (aB (yU D ch))∧Fr w0 w' (V2 da y bs (deS bs D ch) F)):=by
 have f:Fr w0 w (aT da [.int .u32 D.low,.int .u32 D.high,.int .u32 D.code,y,aB D.pos]::bI .u8 eB y bs::F):=f
 refine R8 (fO (iR (aC ?_)))
 rw[Addr.add_zero']
 refine bQ (qfh f 0 rfl) fun w1 e1=>⟨fun b w'=>b=yU D ch∧w'=w1,aC (cI (f.ev e1) 0 2 rfl rfl (aG (fun h=>⟨by unfold yU;rw[if_pos h],rfl⟩) (fun h=>⟨by unfold yU;rw[if_neg h],rfl⟩))),?_⟩
 rintro _ b w2 ⟨rfl,ac⟩
 obtain rfl:w1=w2:=ac.symm
 have f1:=f.ev e1
 refine aC ?_
 rw[Addr.add_zero']
 refine cZ (qaZ (bit:=yU D ch) (m:=BT D.low D.high ch) f1 0 rfl) fun w2 J=>aC ?_
 rw[Addr.add_zero']
 obtain⟨hA,hB⟩:=qc6 (bit:=yU D ch) h1 h2 (TC D.low D.high ch)
 have U:deS bs D ch=deL bs 4 ⟨(tkI D.low D.high (yU D ch) (BT D.low D.high ch)).1,(tkI D.low D.high (yU D ch) (BT D.low D.high ch)).2,D.code,D.pos⟩:=rfl
 generalize(tkI D.low D.high (yU D ch) (BT D.low D.high ch)).1=L at hA U J
 generalize(tkI D.low D.high (yU D ch) (BT D.low D.high ch)).2=H at hB U J
 have J:Fr w0 w2 (V2 da y bs ⟨L,H,D.code,D.pos⟩ F):=J
 have ap:=qqM hA hB
 have step:∀{w':World} {T:DeS} {g:Nat},apN g T.low T.high→0≤T.low→0≤T.high→g≤4→T.pos+g≤D.pos+4→deL bs g T=deS bs D ch→Fr w0 w' (V2 da y bs T F)→
   Calls P gK #[aH da] w' (fun e O=>∃(c:Int) (is:Bool) (I:Nat) (C A:Int),e=bP #[.int .u8 c,.bool is]∧I≤4∧(0≤C∧0≤A)∧(is=true→I+1=g∧apN I C A∧deL bs I (moS bs ⟨C,A,T.code,T.pos⟩)=deS bs D ch)∧(is=false→deS bs D ch=⟨C,A,T.code,T.pos⟩)∧Fr w0 O (V2 da y bs ⟨C,A,T.code,T.pos⟩ F)):=by
  intro w' T g r hL hH u ab j fw
  refine(YC (l:=T.low) (h:=T.high) (cs:=[.int .u32 T.code,y,aB T.pos]) fw 0 rfl).mono ?_
  rintro _ O ⟨rfl,f3⟩
  by_cases ht:zJ T.low=zJ T.high
  ·have e:shC T.low T.high=(u8 (zJ T.low),ZP T.low,XZ T.high):=if_pos ht
   rw[e]at f3⊢
   cases g with
   |zero=>exact absurd ht r
   |succ g=>
    rw[deL,if_pos ht]at j
    refine⟨_,_,g,ZP T.low,XZ T.high,rfl,by omega,⟨IR hL,IQ hH⟩,fun _=>⟨rfl,r,j⟩,fun hc=>?_,f3⟩
    rw[decide_eq_true ht]at hc;cases hc
  ·have e:shC T.low T.high=(0,T.low,T.high):=if_neg ht
   rw[e]at f3⊢
   refine⟨_,_,0,T.low,T.high,rfl,by omega,⟨hL,hH⟩,fun hc=>?_,fun _=>?_,f3⟩
   ·rw[decide_eq_false ht]at hc;cases hc
   ·rw[←j]
    cases g with
    |zero=>rfl
    |succ g=>rw[deL,if_neg ht]
 refine aO (step (T:=⟨L,H,D.code,D.pos⟩) ap hA hB (cJ _) (cJ _) U.symm J) ?_
 rintro _ w3 ⟨c,is,g,L1,H1,rfl,u,q,Y,V,f3⟩
 refine⟨_,_,rfl,fun is w'=>∃(g:Nat) (T:DeS),g≤4∧(0≤T.low∧0≤T.high)∧(is=true→T.pos+1+g≤D.pos+4∧apN g T.low T.high∧deL bs g (moS bs T)=deS bs D ch)∧(is=false→deS bs D ch=T)∧Fr w0 w' (V2 da y bs T F),fun is w'=>D.pos+4-qtJ (w'.cell? (da.add 4)),?_,?_⟩
 ·exact⟨g,⟨L1,H1,D.code,D.pos⟩,u,q,fun h=>by obtain⟨k2,k3,k4⟩:=Y h;exact⟨by show D.pos+1+g≤_;omega,k3,k4⟩,V,f3⟩
 rintro _ is w4 ⟨g,T,u,q,Y,V,f4⟩
 have N:∀{w':World} {T:DeS},Fr w0 w' (V2 da y bs T F)→qtJ (w'.cell? (da.add 4))=T.pos:=fun{w' T} hf=>by
  have hf:Fr w0 w' (aT da [.int .u32 T.low,.int .u32 T.high,.int .u32 T.code,y,aB T.pos]::bI .u8 eB y bs::F):=hf
  rw[hf.cell 0 4 rfl rfl]
  show(T.pos:Int).toNat=T.pos
  omega
 refine iQ (fun hi=>?_) (fun hi=>?_)
 ·obtain⟨ab,r,j⟩:=Y hi
  refine cZ (qeB f4 (by omega) hl) fun w5 f5=>aC ?_
  rw[Addr.add_zero']
  refine aO (step (T:=moS bs T) r q.1 q.2 u (by show T.pos+1+g≤_;omega) j f5) ?_
  rintro _ w8 ⟨c',al,I,C,A,rfl,aa,M,Z,X,f8⟩
  refine⟨_,_,rfl,⟨I,⟨C,A,(moS bs T).code,(moS bs T).pos⟩,aa,M,fun h=>by obtain⟨k2,k3,k4⟩:=Z h;exact⟨by show T.pos+1+1+I≤_;omega,k3,k4⟩,X,f8⟩,?_⟩
  dsimp only
  rw[N f8,N f4]
  show D.pos+4-(T.pos+1)<D.pos+4-T.pos
  omega
 ·refine⟨rfl,?_⟩
  rw[V hi];exact f4
def de0(bs:List Int):DeS:=moS bs (moS bs (moS bs (moS bs ⟨0,4294967295,0,0⟩)))
theorem TS{b:Value}(hb:Nm .u8 w b bs)(hl:bs.length≤1000000000):Calls P sU #[b] w (fun e w'=>∃da y,e=aW (aH da)∧Fr w w' (V2 da y bs (de0 bs) [])):=by
 refine FD (aO qah ?_)
 rintro _ w1 ⟨rfl,h1⟩
 refine⟨_,_,rfl,vZ (((Fr.start w).ev h1).nil0 .u8 eB) 0 rfl (hb.ev h1) (by simp;omega) fun y w2 r=>⟨(r.nm 0 rfl).one,mL r fun da w3 f3=>?_⟩⟩
 rw[sG]at f3
 have f3:Fr w w3 (V2 da y bs ⟨0,4294967295,0,0⟩ []):=f3
 have q:∀j,(Nat.rec (motive:=fun _=>DeS) ⟨0,4294967295,0,0⟩ (fun _ d=>moS bs d) j:DeS).pos=j:=fun j=>by
  induction j with
  |zero=>rfl
  |succ j A=>show _+1=_;rw[A]
 refine⟨fun t w'=>∃j:Nat,t=(j:Int)∧j≤4∧Fr w w' (V2 da y bs (Nat.rec (motive:=fun _=>DeS) ⟨0,4294967295,0,0⟩ (fun _ d=>moS bs d) j) []),fun t _=>(4-t).toNat,⟨0,rfl,by decide,f3⟩,?_⟩
 rintro _ t w4 ⟨j,rfl,hj,f4⟩
 refine aG (fun cR=>?_) (fun u=>?_)
 ·refine cZ (qeB f4 (by rw[q];omega) hl) fun w5 f5=>⟨⟨j+1,by rw[aD (by omega) (by omega)];omega,by omega,f5⟩,by dsimp only;rw[aD (by omega) (by omega)];omega⟩
 ·obtain rfl:j=4:=by omega
  exact⟨da,y,rfl,f4⟩
end
end
section
structure UnS where
 d:DeS
 m:MdS
def qcC(u:UnS)(n:Nat):Prop:=(0≤u.d.low∧0≤u.d.high)∧u.d.pos≤n∧okD u.m
def unB(bs:List Int)(u:UnS):UnS:=⟨deS bs u.d (rU u.m),lnM (ZN u.m) (yU u.d (rU u.m))⟩
theorem qnx{bs:List Int}{u:UnS}{n:Nat}(h:qcC u n):qcC (unB bs u) (n+4):=by
 have h1:=qrB (bs:=bs) (ch:=rU u.m) h.1.1 h.1.2
 have:=h.2.1
 exact⟨h1.1,by have:=h1.2;show(deS _ _ _).pos≤_;omega,qnt (OA h.2.2)⟩
def nxB(bs:List Int):Nat→UnS×Int→UnS×Int
 |0,s=>s
 |k+1,s=>nxB bs k (unB bs s.1,L3 .u8 (qY .u8 s.2 1) (u8 (yU s.1.d (rU s.1.m))))
theorem qhk{bs:List Int}:∀(k:Nat) (s:UnS×Int) {n:Nat},qcC s.1 n→0≤s.2∧s.2<256→qcC (nxB bs k s).1 (n+4*k)∧0≤(nxB bs k s).2∧(nxB bs k s).2<256
 |0,s,n,h,hc=>⟨h,hc⟩
 |k+1,s,n,h,hc=>by
  have h1:=qhk (bs:=bs) k (unB bs s.1,L3 .u8 (qY .u8 s.2 1) (u8 (yU s.1.d (rU s.1.m)))) (qnx h) (qrP _ _)
  rw[show n+4+4*k=n+4*(k+1)by omega]at h1
  exact h1
def unN(bs:List Int):Nat→UnS×List Int→UnS×List Int
 |0,s=>s
 |k+1,s=>unN bs k ((nxB bs 8 (s.1,0)).1,s.2++[(nxB bs 8 (s.1,0)).2])
theorem qoq{bs:List Int}:∀(k:Nat) (s:UnS×List Int) {n:Nat},qcC s.1 n→inR .u8 s.2→(unN bs k s).2.length=s.2.length+k∧inR .u8 (unN bs k s).2
 |0,s,n,h,hc=>⟨rfl,hc⟩
 |k+1,s,n,h,hc=>by
  have h0:=qhk (bs:=bs) 8 (s.1,0) h ⟨Int.le_refl 0,(by decide:(0:Int)<256)⟩
  have h1:=qoq (bs:=bs) k ((nxB bs 8 (s.1,0)).1,s.2++[(nxB bs 8 (s.1,0)).2]) h0.1 (fun x hx=>by
   rcases List.mem_append.1 hx with hx|hx
   ·exact hc x hx
   ·rw[List.mem_singleton.1 hx];exact IZ h0.2)
  rw[bD,N1]at h1
  exact⟨by rw[unN,h1.1];omega,h1.2⟩
def un0(level:Int)(bs:List Int):UnS:=⟨de0 bs,MF level⟩
theorem qq5{level:Int}{bs:List Int}(h:0≤level∧level≤2):qcC (un0 level bs) 4:=⟨⟨(by decide:(0:Int)≤0),(by decide:(0:Int)≤4294967295)⟩,cJ _,qtu h⟩
def qc9(level:Int)(bs:List Int)(n:Nat):List Int:=(unN bs n (un0 level bs,[])).2
def jC(bs:List Int)(n level:Int):List Int×Int:=
 if FT level=false∨n<0 then([],1)else if n>1048576 then([],5)else
  if(gR level (qc9 level bs n.toNat)).2=0∧bs=(gR level (qc9 level bs n.toNat)).1 then(qc9 level bs n.toNat,0)else([],4)
section
variable {w0 w:World} {F:List It}
theorem qrC{a:MdA}{m:MdS}{da:Addr}{y:Value}{bs:List Int}{D:DeS}{F:List It}:(oX a m (V2 da y bs D F)).Perm (V2 da y bs D (oX a m F)):=by
 rw[mN a m (V2 da y bs D F),mN a m F]
 unfold V2
 exact List.perm_middle.trans (List.Perm.cons _ List.perm_middle)
set_option maxHeartbeats 800000 in
theorem qh3{a:MdA}{da j:Addr}{y:Value}{bs:List Int}{u:UnS}{n:Nat}(f:Fr w0 w (aT j [aH da,.pointer (some a.ma)]::V2 da y bs u.d (oX a u.m F)))(ok:qcC u n)(hn:n≤800000000)(hl:bs.length≤1000000000):
  Calls P nS #[aH j] w (fun e w'=>e=aW (.int .u8 (nxB bs 8 (u,0)).2)∧Fr w0 w' (aT j [aH da,.pointer (some a.ma)]::V2 da y bs (nxB bs 8 (u,0)).1.d (oX a (nxB bs 8 (u,0)).1.m F))):=by
 refine S4 ⟨fun c t w'=>∃(z:Nat) (q:UnS),t=8-(z:Int)∧z≤8∧qcC q (n+4*(8-z))∧nxB bs z (q,c)=nxB bs 8 (u,0)∧Fr w0 w' (aT j [aH da,.pointer (some a.ma)]::V2 da y bs q.d (oX a q.m F)),fun _ t _=>(8-t).toNat,⟨8,u,rfl,cJ _,ok,rfl,f⟩,?_⟩
 rintro _ c t w1 ⟨z,q,rfl,hz,r,A,O⟩
 refine aG (fun cR=>?_) (fun U=>?_)
 ·obtain⟨k,rfl⟩:∃k,z=k+1:=⟨z-1,by omega⟩
  have N:∀{w':World} {G:List It},Fr w0 w' (aT j [aH da,.pointer (some a.ma)]::G)→w'.cell? (j.add 0)=some (aH da)∧w'.cell? (j.add 1)=some (.pointer (some a.ma)):=fun hf=>⟨hf.cell 0 0 rfl rfl,hf.cell 0 1 rfl rfl⟩
  have I:∀{w':World} {d:DeS} {m:MdS},Fr w0 w' (aT j [aH da,.pointer (some a.ma)]::V2 da y bs d (oX a m F))→Fr w0 w' (oX a m (aT j [aH da,.pointer (some a.ma)]::V2 da y bs d F)):=fun{w' d m} hf=>by
   refine hf.perm ?_
   rw[mN a m (_::_),mN a m F]
   refine List.Perm.symm (List.perm_middle.trans (List.Perm.cons _ ?_))
   unfold V2
   exact List.perm_middle.trans (List.Perm.cons _ List.perm_middle)
  have J:∀{w':World} {d:DeS} {m:MdS},Fr w0 w' (oX a m (aT j [aH da,.pointer (some a.ma)]::V2 da y bs d F))→Fr w0 w' (aT j [aH da,.pointer (some a.ma)]::V2 da y bs d (oX a m F)):=fun{w' d m} hf=>by
   refine hf.perm ?_
   rw[mN a m (_::_),mN a m F]
   refine(List.perm_middle.trans (List.Perm.cons _ ?_))
   unfold V2
   exact List.perm_middle.trans (List.Perm.cons _ List.perm_middle)
  refine⟨fun w'=>w'.cell? (j.add 0)=some (aH da)∧w'.cell? (j.add 1)=some (.pointer (some a.ma)),N O.drew,aC (mS (v:=some da) (fun w' hw=>hw.1) (aC (mS (v:=some a.ma) (fun w' hw=>hw.2) ?_)))⟩
  refine bQ (GM (I O.drew) r.2.2) fun w2 M=>?_
  have M:=J M
  refine⟨N M,?_⟩
  have T:Fr w0 w2 (V2 da y bs q.d (aT j [aH da,.pointer (some a.ma)]::oX a (ZN q.m) F)):=M.perm (by
   unfold V2
   exact(List.Perm.swap _ _ _).trans (List.Perm.cons _ (List.Perm.swap _ _ _)))
  refine bQ (qdl (ch:=rU q.m) T r.1.1 r.1.2 (by have:=r.2.1;omega) hl) fun w3 f3=>?_
  have f3:Fr w0 w3 (aT j [aH da,.pointer (some a.ma)]::V2 da y bs (deS bs q.d (rU q.m)) (oX a (ZN q.m) F)):=f3.perm (by
   unfold V2
   exact((List.Perm.cons _ (List.Perm.swap _ _ _)).trans (List.Perm.swap _ _ _)))
  refine⟨N f3,aC (fJ (v:=some a.ma) (N f3).2 (cZ (TP (bit:=yU q.d (rU q.m)) (I f3) (OA r.2.2)) fun w4 f4=>?_))⟩
  have f4:=J f4
  have C:=qnx (bs:=bs) r
  rw[show n+4*(8-(k+1))+4=n+4*(8-k)by omega]at C
  refine⟨⟨k,unB bs q,by rw[aD (by omega) (by omega)];omega,by omega,C,A,f4⟩,by dsimp only;rw[aD (by omega) (by omega)];omega⟩
 ·obtain rfl:z=0:=by omega
  rw[←A]
  exact⟨rfl,O⟩
set_option maxHeartbeats 800000 in
theorem qfi{b:Value}{xs:List Int}{n level:Int}(hb:Nm .u8 w b xs)(hl:xs.length≤1000000000):Calls P zV #[b,aB n,aB level] w (yQ w (jC xs n level)):=by
 refine NU ⟨fun w'=>w'=w∧FT level=true∧0≤n∧n≤1048576,hZ VU (yE (fun A=>aG (fun h=>?_) (fun h=>aG (fun h2=>?_) (fun h2=>⟨rfl,A,by omega,by omega⟩))) (fun A=>?_)),?_⟩
 ·have e:jC xs n level=([],1):=by unfold jC;rw[if_pos (.inr h)]
  rw[e];exact⟨_,rfl,Ch.refl _ w,ON.nil _ _ _ _⟩
 ·have e:jC xs n level=([],5):=by unfold jC;rw[if_neg (by rintro(h3|h3);(rw[A]at h3;cases h3);exact h h3),if_pos h2]
  rw[e];exact⟨_,rfl,Ch.refl _ w,ON.nil _ _ _ _⟩
 ·have e:jC xs n level=([],1):=by unfold jC;rw[if_pos (.inl A)]
  rw[e];exact⟨_,rfl,Ch.refl _ w,ON.nil _ _ _ _⟩
 rintro _ w0 ⟨X,A,ae,af⟩
 obtain rfl:w=w0:=X.symm
 have I:0≤level∧level≤2:=by
  have q:=A
  unfold FT at q
  split at q
  ·have:=of_decide_eq_true q;omega
  ·cases q
 obtain⟨N,rfl⟩:∃N:Nat,n=N:=⟨n.toNat,by omega⟩
 have e:jC xs N level=if(gR level (qc9 level xs N)).2=0∧xs=(gR level (qc9 level xs N)).1 then(qc9 level xs N,0)else([],4):=by
  unfold jC;rw[if_neg (by rintro(h3|h3);(rw[A]at h3;cases h3);omega),if_neg (by omega),dH]
 rw[e]
 refine aO (TS hb hl) ?_
 rintro _ w1 ⟨da,y,rfl,f1⟩
 refine⟨_,rfl,aO (qdW I) ?_⟩
 rintro _ w2 ⟨a,rfl,O⟩
 have O:Fr w w2 (V2 da y xs (de0 xs) (oX a (MF level) [])):=(Fr.glue f1 O).perm (by
  rw[show oX a (MF level) []++V2 da y xs (de0 xs) []=oX a (MF level) (V2 da y xs (de0 xs) [])from(mN _ _ _).symm]
  exact qrC)
 refine⟨_,rfl,mL O fun Y w3 f3=>⟨fun r t w'=>∃(j:Nat) (s:UnS×List Int),t=(j:Int)∧j≤N∧qcC s.1 (4+32*j)∧s.2.length=j∧unN xs (N-j) s=unN xs N (un0 level xs,[])∧Fr w w' (bI .u8 eB r s.2::aT Y [aH da,.pointer (some a.ma)]::V2 da y xs s.1.d (oX a s.1.m [])),fun _ t _=>(N-t).toNat,⟨0,(un0 level xs,[]),rfl,bW _,qq5 I,rfl,rfl,f3.nil0 .u8 eB⟩,?_⟩⟩
 rintro _ r t w4 ⟨j,s,rfl,hj,ok,V,u,f4⟩
 refine aG (fun cR=>?_) (fun ac=>?_)
 ·have Z:j<N:=by omega
  have T:Fr w w4 (aT Y [aH da,.pointer (some a.ma)]::V2 da y xs s.1.d (oX a s.1.m [bI .u8 eB r s.2])):=f4.perm (by
   rw[mN a s.1.m [bI .u8 eB r s.2]]
   unfold V2
   refine(List.Perm.swap _ _ _).trans (List.Perm.cons _ ((List.Perm.swap _ _ _).trans (List.Perm.cons _ ((List.Perm.swap _ _ _).trans (List.Perm.cons _ ?_)))))
   exact(qfR _ _).symm)
  have M:=qhk (bs:=xs) 8 (s.1,0) ok ⟨Int.le_refl 0,(by decide:(0:Int)<256)⟩
  refine bQ (qh3 T ok (by omega) hl) fun w5 f5=>?_
  have f5:Fr w w5 (bI .u8 eB r s.2::aT Y [aH da,.pointer (some a.ma)]::V2 da y xs (nxB xs 8 (s.1,0)).1.d (oX a (nxB xs 8 (s.1,0)).1.m [])):=f5.perm (by
   rw[mN a _ [bI .u8 eB r s.2]]
   unfold V2
   refine List.Perm.symm ((List.Perm.swap _ _ _).trans (List.Perm.cons _ ((List.Perm.swap _ _ _).trans (List.Perm.cons _ ((List.Perm.swap _ _ _).trans (List.Perm.cons _ ?_))))))
   exact(qfR _ _).symm)
  refine jF [(nxB xs 8 (s.1,0)).2] f5 rfl rfl (fun x hx=>by rw[List.mem_singleton.1 hx];exact IZ M.2) fun ai w6 f6=>vZ f6 1 rfl (f6.nm 0 rfl) (by simp;omega) fun aj w7 f7=>?_
  refine⟨⟨j+1,((nxB xs 8 (s.1,0)).1,s.2++[(nxB xs 8 (s.1,0)).2]),by rw[aD (by omega) (by omega)];omega,by omega,?_,by simp [V],?_,f7.drop 0⟩,by dsimp only;rw[aD (by omega) (by omega)];omega⟩
  ·rw[show 4+32*(j+1)=4+32*j+4*8 by omega];exact M.1
  ·rw[←u,show N-j=(N-(j+1))+1 by omega,unN]
 ·obtain rfl:j=N:=by omega
  rw[pH,unN]at u
  have U:s.2=qc9 level xs j:=by rw[u];rfl
  rw[U]at f4
  have n4:=f4.nm 0 rfl
  refine aO (qaY (level:=level) n4) ?_
  rintro _ w5 ⟨z,rfl,h5,oz⟩
  refine⟨_,_,rfl,iC (fun h0=>hZ (UZ ((hb.ev f4.old).ev h5) oz.nm) (oO (fun J=>?_) (fun C=>?_))) (fun h0=>?_)⟩
  ·rw[if_neg (fun hc=>by rw[decide_eq_true hc.2]at J;cases J)]
   exact⟨_,rfl,f4.old.trans h5,ON.nil _ _ _ _⟩
  ·rw[if_pos ⟨h0,of_decide_eq_true C⟩]
   exact⟨r,rfl,f4.old.trans h5,(f4.ev h5).on 0 rfl⟩
  ·rw[if_neg (fun hc=>h0 hc.1)]
   exact⟨_,rfl,f4.old.trans h5,ON.nil _ _ _ _⟩
end
end
section
def qhB(l:List ItP)(n:ByteArray):Bool:=match l.getLast? with
 |none=>true
 |some q=>G5 q.name n
def rP(xs:List Int):Nat→List ItP→Int→(Nat×Int)→Option (List ItP×(Nat×Int))
 |0,l,_,s=>some (l,s)
 |k+1,l,z,s=>if(W5 xs s).1.2=true∧qhB l (W5 xs s).1.1.name=true∧z+(W5 xs s).1.1.size≤1048576 then rP xs k (l++[(W5 xs s).1.1]) (z+(W5 xs s).1.1.size) (W5 xs s).2 else none
structure Opd where
 o:OpB
 items:List ItP
 st:Nat×Int
def x9:Opd:=⟨⟨false,[],0,0⟩,[],(0,0)⟩
def qkN:List Int:=[118,98,120,1]
def ES(xs:List Int):List Int×(Nat×Int):=eV xs 0 0 4
def xo2(xs:List Int):List Int×(Nat×Int):=eV xs (ES xs).2.1 (ES xs).2.2 4
def xo3(xs:List Int):(OpB×Bool)×(Nat×Int):=opB xs (xo2 xs).2
def xo4(xs:List Int):Int×(Nat×Int):=jT xs 4096 (xo3 xs).2
def aZ(xs:List Int):Int×Opd:=
 if(xo2 xs).2.2≠0 then((xo2 xs).2.2,x9)
 else if(ES xs).1≠qkN then(4,x9)
 else if xM (xs.drop 8)≠vX (IY (xo2 xs).1)then(9,x9)
 else if(xo3 xs).1.2=false then(4,x9)
 else if(xo4 xs).1>4096 then(4,x9)
 else match rP xs (xo4 xs).1.toNat [] 0 (xo4 xs).2 with
  |none=>(4,x9)
  |some r=>if r.2.2≠0 then(r.2.2,x9)else(0,⟨(xo3 xs).1.1,r.1,r.2⟩)
theorem qsz{xs:List Int}(h:(xo2 xs).2.2=0):8≤xs.length:=by
 unfold xo2 eV at h
 by_cases h1:(ES xs).2.2≠0∨(4:Int)≤0
 ·rw[if_pos h1]at h
  rcases h1 with h1|h1
  ·exact absurd h h1
  ·omega
 ·rw[if_neg h1]at h
  have h2:(ES xs).2.2=0:=by
   rcases Int.lt_trichotomy (ES xs).2.2 0 with h2|h2|h2
   ·exact absurd (.inl (by omega)) h1
   ·exact h2
   ·exact absurd (.inl (by omega)) h1
  have h3:(ES xs).2.1=4:=by
   unfold ES eV at h2⊢
   rw[if_neg (by omega)]at h2⊢
   split at h2
   ·cases h2
   ·rename_i h4;rw[if_neg h4];rfl
  rw[h3]at h
  split at h
  ·cases h
  ·rename_i h4;omega
def kN(ra:Addr)(o:OpB)(cv iv:Value):List Value:=[aH ra,.bool o.auto,cv,aB o.level,aB o.block,.bool false,bR,bR,aB 0,iv]
noncomputable def opF(ra:Addr)(y:Value)(xs:List Int)(s:Nat×Int)(pa:Addr)(o:OpB)(cv iv:Value)(vs:List ItV)(F:List It):List It:=fK ra y xs s::aT pa (kN ra o cv iv)::(C7 iv vs++(bI .i64 eN cv o.chain::F))
def qlL(w:World)(xs:List Int)(e:Ending)(w':World):Prop:=
 ((aZ xs).1≠0∧e=bP #[.pointer none,aB (aZ xs).1]∧Ev w w')∨
 ((aZ xs).1=0∧∃ra y pa cv iv vs,e=bP #[aH pa,aB 0]∧vs.map ItV.p=(aZ xs).2.items∧Fr w w' (opF ra y xs (aZ xs).2.st pa (aZ xs).2.o cv iv vs []))
theorem qo4:ByteArray.mk #[118,98,120,1]=tO qkN:=rfl
theorem qpR:inR .u8 qkN:=fun x hx=>by unfold qkN at hx;simp at hx;rcases hx with rfl|rfl|rfl|rfl<;>decide
theorem qmX{xs:List Int}(hx:inR .u8 xs)(s:Nat×Int):(0≤(W5 xs s).1.1.size∧(W5 xs s).1.1.size≤1048577)∧(0≤(W5 xs s).1.1.packed∧(W5 xs s).1.1.packed≤2097153)∧(W5 xs s).1.1.chain.length≤4:=
 ⟨Z0 (by decide) hx,Z0 (by decide) hx,qc4 hx _⟩
theorem qtt(a b:ByteArray):(G5 a b||decide (a=b))= !(G5 b a):=by
 cases h:G5 b a with
 |true=>
  have h1:=WD h
  have h2:a≠b:=by rintro rfl;rw[EE]at h;cases h
  rw[h1,decide_eq_false h2];rfl
 |false=>
  cases h1:G5 a b with
  |true=>rfl
  |false=>rw[decide_eq_true (TD h1 h)];rfl
section
variable {w0 w:World} {F:List It} {xs:List Int}
theorem qmy{t:TypeId}{ad:Addr}{cs:List Value}{ds:Array Value}{K:World→Prop}(h:Fr w0 w F)(i j:Nat)(hi:F[i]?=some (aT ad cs))(hk:∀w',Fr w0 w' (F.set i (aT ad (cs.take j++ds.toList++cs.drop (j+ds.size))))→K w')(hj:j+ds.size≤cs.length)(h1:∀u∈ds.toList,u.oneCell'=true)(ht:Y9 P t ds.size=true:=by kernel_rfl):
  aL P t (aH (ad.add j)) (.agg ds) w K:=
 W0 (h.get i hi) hj h1 (fun w' hc _ hS=>hk w' (h.upd i hi hc (fun k _ hh=>.inl (by
  have h0:ad.spot=none:=(show St w ad cs from h.get i hi).1
  have h2:=hh.1
  rw[Addr.add_none h0]at h2
  exact h2)) hS fun k hk=>.inl hk)) ht
set_option maxHeartbeats 4000000 in
theorem CX{b:Value}(hb:Nm .u8 w b xs)(hl:xs.length≤1000000000):Calls P xV #[b] w (qlL w xs):=by
 refine qeK (qau (Fr.start w) hb (by omega) fun ra y w1 f1=>mL (qse f1 (by omega)) fun pa w2 f2=>aC ?_)
 have f2:Fr w w2 [fK ra y xs (0,0),aT pa [aH ra,.bool false,bR,aB 0,aB 0,.bool false,bR,bR,aB 0,bR]]:=f2.picks [1,0] (by decide)
 have hx:=XV f2
 have er:∀{k:Int} {w':World},(aZ xs).1=k→k≠0→Ev w w'→qlL w xs (bP #[.pointer none,aB k]) w':=fun{k w'} h1 h2 h3=>.inl ⟨by rw[h1];exact h2,by rw[h1],h3⟩
 rw[Addr.add_zero']
 refine lI f2 1 0 rfl rfl (aO (T1 (M1 f2 0 rfl) (by decide)) ?_)
 intro e w3 h3
 obtain⟨hv,rfl,f3⟩:=qcJ f2 0 rfl h3
 have f3:Fr w w3 [fK ra y xs (ES xs).2,aT pa [aH ra,.bool false,bR,aB 0,aB 0,.bool false,bR,bR,aB 0,bR],bI .u8 eB hv (ES xs).1]:=f3.picks [1,2,0] (by decide)
 refine⟨hv,rfl,aC ?_⟩
 rw[Addr.add_zero']
 refine lI f3 1 0 rfl rfl (aO (L9 (n:=4) (M1 f3 0 rfl)) ?_)
 rintro _ w4 ⟨rfl,h4⟩
 have f4:Fr w w4 [fK ra y xs (xo2 xs).2,aT pa [aH ra,.bool false,bR,aB 0,aB 0,.bool false,bR,bR,aB 0,bR],bI .u8 eB hv (ES xs).1]:=qjn (s':=(xo2 xs).2) f3 0 rfl h4
 refine⟨_,rfl,aC ?_⟩
 rw[Addr.add_zero']
 refine lI f4 1 0 rfl rfl (bX (vO (M1 f4 0 rfl)) (cA (fun Y=>aC ?_) (fun h0=>?_)))
 ·rw[Addr.add_zero']
  refine lI f4 1 0 rfl rfl (bX (vO (M1 f4 0 rfl)) (er ?_ Y f4.old))
  unfold aZ;rw[if_pos Y]
 refine lA (f4.nm 2 rfl) ?_
 rw[qo4,yC (f4.nm 2 rfl).2 qpR]
 refine cC (fun hm=>er (k:=4) ?_ (by decide) f4.old) (fun hm=>?_)
 ·unfold aZ;rw[if_neg (by rw[h0];decide),if_pos hm]
 have h8:=qsz h0
 have et:(xs.drop 8).take (xs.length-8)=xs.drop 8:=gI (by rw[cQ];omega)
 refine dJ (hb.ev f4.old) 8 xs.length (.inr ⟨_,rfl⟩) (.inl ⟨rfl,rfl⟩) h8 (cJ _) fun hs=>?_
 rw[et]at hs
 refine bQ (JF hs (by rw[cQ];omega)) fun w5 h5=>cA (fun hs=>er (k:=9) ?_ (by decide) (f4.old.trans h5)) (fun M=>aC ?_)
 ·have hs:xM (xs.drop 8)≠vX (IY (xo2 xs).1):=hs
  unfold aZ;rw[if_neg (by rw[h0];decide),if_neg (by simpa using hm),if_pos hs]
 have M:xM (xs.drop 8)=vX (IY (xo2 xs).1):=M
 rw[Addr.add_zero']
 have f5:=f4.ev h5
 refine aO (qeP f5) ?_
 rintro _ w6 ⟨cv,rfl,f6⟩
 refine⟨_,_,_,_,_,_,_,_,_,rfl,aC ?_⟩
 have e3:opB xs (xo2 xs).2=xo3 xs:=rfl
 rw[e3]at f6⊢
 obtain⟨o,ho⟩:∃o,o=(xo3 xs).1.1:=⟨_,rfl⟩
 rw[←ho]at f6⊢
 have f6:Fr w w6 [fK ra y xs (xo3 xs).2,aT pa [aH ra,.bool false,bR,aB 0,aB 0,.bool false,bR,bR,aB 0,bR],bI .i64 eN cv o.chain,bI .u8 eB hv (ES xs).1]:=f6
 have be:=f6.nm 2 rfl
 refine qmy f6 1 1 rfl (fun w7 f7=>?_) (by exact qbo rfl) (fun u hu=>?_)
 rotate_left
 ·simp at hu;rcases hu with rfl|rfl|rfl|rfl|rfl|rfl|rfl
  all_goals first|exact be.oc|rfl
 have f7:Fr w w7 [fK ra y xs (xo3 xs).2,aT pa (kN ra o cv (bR)),bI .i64 eN cv o.chain,bI .u8 eB hv (ES xs).1]:=f7
 refine oO (fun hok=>er (k:=4) ?_ (by decide) f7.old) (fun hok=>aC ?_)
 ·unfold aZ;rw[if_neg (by rw[h0];decide),if_neg (by simpa using hm),if_neg (not_not_intro M),if_pos hok]
 rw[Addr.add_zero']
 refine V4 f7 (by decide) fun w8 f8=>?_
 have e4:jT xs 4096 (xo3 xs).2=xo4 xs:=rfl
 rw[e4]at f8⊢
 refine aG (fun hg=>er (k:=4) ?_ (by decide) f8.old) (fun hg=>?_)
 ·unfold aZ;rw[if_neg (by rw[h0];decide),if_neg (by simpa using hm),if_neg (not_not_intro M),if_neg (by rw[hok];decide),if_pos hg]
 have eS:aZ xs=match rP xs (xo4 xs).1.toNat [] 0 (xo4 xs).2 with
  |none=>(4,x9)
  |some r=>if r.2.2≠0 then(r.2.2,x9)else(0,⟨o,r.1,r.2⟩):=by
  unfold aZ;rw[if_neg (by rw[h0];decide),if_neg (by simpa using hm),if_neg (not_not_intro M),if_neg (by rw[hok];decide),if_neg hg,←ho]
 have r4:=Z0 (xs:=xs) (m:=4096) (s:=(xo3 xs).2) (by decide) hx
 rw[e4]at r4
 generalize(xo4 xs).1=n at r4 hg eS⊢
 generalize(xo4 xs).2=s4 at f8 eS
 obtain⟨N,rfl⟩:∃N:Nat,n=N:=⟨n.toNat,by omega⟩
 rw[dH]at eS
 have f8:Fr w w8 (opF ra y xs s4 pa o cv (bR) [] [bI .u8 eB hv (ES xs).1]):=(f8.nilR eI5 5).picks [1,2,0,3,4] (by decide)
 refine⟨fun z t w'=>∃(k:Nat) (vs:List ItV) (iv:Value) (s:Nat×Int),t=(k:Int)∧k≤N∧vs.length=k∧(0≤z∧z≤1048576)∧rP xs (N-k) (vs.map ItV.p) z s=rP xs N [] 0 s4∧Fr w w' (opF ra y xs s pa o cv iv vs [bI .u8 eB hv (ES xs).1]),fun _ t _=>(N-t).toNat,⟨0,[],bR,s4,rfl,bW _,rfl,by decide,rfl,f8⟩,?_⟩
 rintro _ z t w9 ⟨k,vs,iv,s,rfl,hk,an,hz,aa,f9⟩
 have f9:Fr w w9 (fK ra y xs s::aT pa (kN ra o cv iv)::(C7 iv vs++[bI .i64 eN cv o.chain,bI .u8 eB hv (ES xs).1])):=f9
 refine aG (fun cR=>aC ?_) (fun bz=>aC ?_)
 rotate_left
 ·--the end
  obtain rfl:k=N:=by omega
  rw[pH,rP]at aa
  rw[←aa]at eS
  dsimp only at eS
  rw[Addr.add_zero']
  refine lI f9 1 0 rfl rfl (bX (vO (M1 f9 0 rfl)) (cA (fun Y=>er ?_ Y f9.old) (fun az=>.inr ?_)))
  ·rw[eS,if_pos Y]
  ·rw[eS,if_neg (by rw[az];decide)]
   refine⟨rfl,ra,y,pa,cv,iv,vs,rfl,rfl,?_⟩
   have hp:(fK ra y xs s::aT pa (kN ra o cv iv)::(C7 iv vs++[bI .i64 eN cv o.chain,bI .u8 eB hv (ES xs).1])).Perm (bI .u8 eB hv (ES xs).1::opF ra y xs s pa o cv iv vs []):=by
    unfold opF
    have e1:fK ra y xs s::aT pa (kN ra o cv iv)::(C7 iv vs++[bI .i64 eN cv o.chain,bI .u8 eB hv (ES xs).1])=(fK ra y xs s::aT pa (kN ra o cv iv)::(C7 iv vs++[bI .i64 eN cv o.chain]))++[bI .u8 eB hv (ES xs).1]:=by simp
    rw[e1];exact qfR _ _
   exact(f9.perm hp).drop 0
 have bn:k<N:=by omega
 have C:rP xs (N-k) (vs.map ItV.p) z s=if(W5 xs s).1.2=true∧qhB (vs.map ItV.p) (W5 xs s).1.1.name=true∧z+(W5 xs s).1.1.size≤1048576 then rP xs (N-(k+1)) (vs.map ItV.p++[(W5 xs s).1.1]) (z+(W5 xs s).1.1.size) (W5 xs s).2 else none:=by
  rw[show N-k=(N-(k+1))+1 by omega,rP]
 have U:∀{w':World},¬((W5 xs s).1.2=true∧qhB (vs.map ItV.p) (W5 xs s).1.1.name=true∧z+(W5 xs s).1.1.size≤1048576)→Ev w w'→qlL w xs (bP #[.pointer none,aB 4]) w':=fun{w'} hn he=>er (k:=4) (by rw[eS,←aa,C,if_neg hn]) (by decide) he
 rw[Addr.add_zero']
 refine aO (qmZ f9) ?_
 rintro _ ca ⟨v,rfl,f10⟩
 obtain⟨bh,bi,bj⟩:=qmX hx s
 obtain⟨q,hq⟩:∃q:ItV,q=⟨(W5 xs s).1.1,v⟩:=⟨_,rfl⟩
 have bf:(W5 xs s).1.1=q.p:=by rw[hq]
 have bg:v=q.cv:=by rw[hq]
 rw[bf]at C U bh bi bj f10⊢
 rw[bg]at f10⊢
 obtain⟨ok,al⟩:∃ok,ok=(W5 xs s).1.2:=⟨_,rfl⟩
 rw[←al]at C U⊢
 generalize(W5 xs s).2=s' at f10 C
 have bb:=f10.nm 2 rfl
 have h1:∀u∈(#[.string q.p.name,aB q.p.size,.int .u32 q.p.sum,q.cv,aB q.p.packed]:Array Value).toList,u.oneCell'=true:=fun u hu=>by
  simp at hu;rcases hu with rfl|rfl|rfl|rfl|rfl
  all_goals first|exact bb.oc|rfl
 refine⟨_,_,_,_,_,_,rfl,dX (z:=.agg #[.string ⟨#[]⟩,aB 0,.int .u32 0,bR,aB 0]) f10 (by kernel_rfl) fun A cb ax=>cS ax 0 rfl (fun au f12=>?_) rfl h1⟩
 have f12:Fr w au (aT A (c5 q)::fK ra y xs s'::aT pa (kN ra o cv iv)::bI .i64 eN q.cv q.p.chain::(C7 iv vs++[bI .i64 eN cv o.chain,bI .u8 eB hv (ES xs).1])):=f12
 refine cI f12 0 1 rfl rfl ?_
 have aw:i64 (z+q.p.size)=z+q.p.size:=aD (by omega) (by omega)
 rw[aw]
 obtain⟨G,hG⟩:∃G,G=aT A (c5 q)::fK ra y xs s'::aT pa (kN ra o cv iv)::bI .i64 eN q.cv q.p.chain::(C7 iv vs++[bI .i64 eN cv o.chain,bI .u8 eB hv (ES xs).1]):=⟨_,rfl⟩
 refine⟨fun w'=>Fr w w' G∧ok=true∧qhB (vs.map ItV.p) q.p.name=true∧z+q.p.size≤1048576,?_,?_⟩
 ·have ba:∀{w':World},Fr w w' G→Is w' iv vs:=fun hf=>by
   rw[hG]at hf
   exact qca (w0:=w) (by
    have h4:=hf.dropN 4
    have h5:Fr w _ (C7 iv vs++[bI .i64 eN cv o.chain,bI .u8 eB hv (ES xs).1]):=h4
    have h6:=h5.perm (DM)
    exact h6.dropN 2)
  have fG:Fr w au G:=by rw[hG];exact f12
  have g1:=fG.drew
  refine yE (fun T=>aG (fun bd=>?_) (fun bd=>aG (fun hs=>U (fun h=>by omega) f12.drew.old) (fun hs=>?_))) (fun T=>U (fun h=>by rw[T]at h;cases h.1) f12.drew.old)
  ·obtain⟨j,rfl⟩:∃j,k=j+1:=⟨k-1,by omega⟩
   obtain⟨u,X⟩:∃u,vs[j]?=some u:=⟨_,fR (by omega)⟩
   have bc:(vs.map ItV.p).getLast?=some u.p:=by
    rw[List.getLast?_eq_getElem?,fE,an,Nat.add_sub_cancel,jD,X];rfl
   have ae:qhB (vs.map ItV.p) q.p.name=G5 u.p.name q.p.name:=by unfold qhB;rw[bc]
   refine kB (mM (by rw[hG]at g1;exact g1.cell 0 0 rfl rfl)) (aC (dE (mM (by rw[hG]at g1;exact g1.cell 2 9 rfl rfl)) ?_))
   rw[show i64 (((j+1:Nat):Int)-1)=(j:Int)by rw[aD (by omega) (by omega)];omega]
   refine qbZ (ba g1) rfl X fun ad hc=>kB (mM (hc 0 _ rfl)) ?_
   rw[qr7,IT,qtt]
   refine yE (fun hn=>aG (fun hs=>U (fun h=>by omega) f12.drew.old) (fun hs=>⟨g1,T,by rw[ae];exact hn,by omega⟩)) (fun hn=>U (fun h=>?_) f12.drew.old)
   rw[ae,hn]at h;cases h.2.1
  ·refine⟨g1,T,?_,by omega⟩
   have:vs=[]:=xI (by omega)
   rw[this];rfl
 rintro _ cc ⟨f13,c1,c2,c3⟩
 rw[hG]at f13
 rw[if_pos ⟨c1,c2,c3⟩]at C
 have J:=f13.drew
 have hB:∀{w':World} {H:List It},Fr w w' (aT A (c5 q)::H)→∀z u,(c5 q)[z]?=some u→w'.cell? (A.add z)=some u:=fun hf z u hz=>hf.cell 0 z rfl hz
 have V:∀{w':World} {it:It} {H:List It},Fr w w' (it::aT A (c5 q)::H)→∀z u,(c5 q)[z]?=some u→w'.cell? (A.add z)=some u:=fun hf z u hz=>hf.cell 1 z rfl hz
 have ay:∀{w':World} {t46 I:Value} {t:Addr},Fr w w' (aT t (c5 q)::aT A (c5 q)::fK ra y xs s'::aT pa (kN ra o cv I)::bI .i64 eN q.cv q.p.chain::lK eI5 5 I (vs.length+1) (pJ vs++c5 q)::((vs.reverse.map fun u=>bI .i64 eN u.cv u.p.chain)++[bI .i64 eN cv o.chain,bI .u8 eB hv (ES xs).1]))→
   (∃(k':Nat) (O:List ItV) (ai:Value) (s2:Nat×Int),i64 ((k:Int)+1)=(k':Int)∧k'≤N∧O.length=k'∧(0≤z+q.p.size∧z+q.p.size≤1048576)∧rP xs (N-k') (O.map ItV.p) (z+q.p.size) s2=rP xs N [] 0 s4∧Fr w w' (opF ra y xs s2 pa o cv ai O [bI .u8 eB hv (ES xs).1]))∧((N:Int)-i64 ((k:Int)+1)).toNat<((N:Int)-(k:Int)).toNat:=fun{w' t46 I t} hf=>by
  refine⟨⟨k+1,vs++[q],I,s',by rw[aD (by omega) (by omega)];omega,by omega,by simp [an],⟨by omega,c3⟩,?_,?_⟩,by rw[aD (by omega) (by omega)];omega⟩
  ·rw[←aa,C,gQ];rfl
  ·unfold opF
   rw[qet]
   exact hf.picksN 6 [2,3,5,4] (by decide) (by decide)
 refine⟨fun w'=>∀z u,(c5 q)[z]?=some u→w'.cell? (A.add z)=some u,hB J,aC (mB [.string q.p.name,aB q.p.size,.int .u32 q.p.sum,q.cv,aB q.p.packed] (fun w' hw z u hz=>hw z u hz) ?_ rfl (by kernel_rfl))⟩
 have ac:∀v∈[c5 q],v.length=5:=fun v hv=>by rw[List.mem_singleton.1 hv];rfl
 have bq:vs.length≤4096:=by omega
 have tail:∀{w':World} {t46:Addr},Fr w w' (aT t46 (c5 q)::aT A (c5 q)::fK ra y xs s'::aT pa (kN ra o cv iv)::bI .i64 eN q.cv q.p.chain::(C7 iv vs++[bI .i64 eN cv o.chain,bI .u8 eB hv (ES xs).1]))→
   fV P #[bB,bB] bB #[iv,.slice (some t46) 1 1] w' fun(aq:Value) af=>(∀z u,(c5 q)[z]?=some u→af.cell? (A.add z)=some u)∧aS (some pa) fun(ar:Addr)=>aL P bB (aH (ar.add 9)) aq af fun ag=>(∀z u,(c5 q)[z]?=some u→ag.cell? (A.add z)=some u)∧(∃(k':Nat) (O:List ItV) (ai:Value) (s2:Nat×Int),i64 ((k:Int)+1)=(k':Int)∧k'≤N∧O.length=k'∧(0≤z+q.p.size∧z+q.p.size≤1048576)∧rP xs (N-k') (O.map ItV.p) (z+q.p.size) s2=rP xs N [] 0 s4∧Fr w ag (opF ra y xs s2 pa o cv ai O [bI .u8 eB hv (ES xs).1]))∧((N:Int)-i64 ((k:Int)+1)).toNat<((N:Int)-(k:Int)).toNat:=fun{w' t46} hf=>by
  have hf:Fr w w' (aT t46 (c5 q)::aT A (c5 q)::fK ra y xs s'::aT pa (kN ra o cv iv)::bI .i64 eN q.cv q.p.chain::lK eI5 5 iv vs.length (pJ vs)::((vs.reverse.map fun u=>bI .i64 eN u.cv u.p.chain)++[bI .i64 eN cv o.chain,bI .u8 eB hv (ES xs).1])):=hf
  refine BI 100 (m:=1) hf 5 rfl (Sl.of_st5 (hf.get 0 rfl)) (fun x hx=>h1 x hx) (by omega) (by unfold maxLen;omega) (fun I Z f14=>?_) (by kernel_rfl)
  have f14:Fr w Z (aT t46 (c5 q)::aT A (c5 q)::fK ra y xs s'::aT pa (kN ra o cv iv)::bI .i64 eN q.cv q.p.chain::lK eI5 5 I (vs.length+1) (pJ vs++c5 q)::((vs.reverse.map fun u=>bI .i64 eN u.cv u.p.chain)++[bI .i64 eN cv o.chain,bI .u8 eB hv (ES xs).1])):=f14
  have am:=qfo (f14.row 5 rfl)
  refine⟨V f14,aC (dT f14 3 9 rfl (fun bl f15=>?_) (by exact qbo rfl) am.2 am.1)⟩
  have f15:Fr w bl (aT t46 (c5 q)::aT A (c5 q)::fK ra y xs s'::aT pa (kN ra o cv I)::bI .i64 eN q.cv q.p.chain::lK eI5 5 I (vs.length+1) (pJ vs++c5 q)::((vs.reverse.map fun u=>bI .i64 eN u.cv u.p.chain)++[bI .i64 eN cv o.chain,bI .u8 eB hv (ES xs).1])):=f15
  exact⟨V f15,ay (t46:=I) f15⟩
 refine⟨dY J 2 9 rfl rfl ⟨hB J,?_⟩,?_⟩
 ·refine sI 5 [c5 q] J rfl rfl ac (fun t46 Z f14=>?_) (by decide) (by kernel_rfl) (by decide +kernel)
  have f14:Fr w Z (aT t46 (c5 q)::aT A (c5 q)::fK ra y xs s'::aT pa (kN ra o cv iv)::bI .i64 eN q.cv q.p.chain::(C7 iv vs++[bI .i64 eN cv o.chain,bI .u8 eB hv (ES xs).1])):=by
   have e:[c5 q].flatten=c5 q:=by simp
   rw[e]at f14;exact f14
  exact⟨V f14,tail f14⟩
 ·refine sI 5 [c5 q] J rfl rfl ac (fun t46 Z f14=>?_) (by decide) (by kernel_rfl) (by decide +kernel)
  have f14:Fr w Z (aT t46 (c5 q)::aT A (c5 q)::fK ra y xs s'::aT pa (kN ra o cv iv)::bI .i64 eN q.cv q.p.chain::(C7 iv vs++[bI .i64 eN cv o.chain,bI .u8 eB hv (ES xs).1])):=by
   have e:[c5 q].flatten=c5 q:=by simp
   rw[e]at f14;exact f14
  exact⟨V f14,dY f14 3 9 rfl rfl ⟨V f14,tail f14⟩⟩
end
end
section
theorem qs2{s b:Nat}(hs:s<4294967296)(hb:b<256)(k:Nat):(lU .u32 (s:Int) (vX (cV .u8 (b:Int) (gD (k:Int)))))=((s^^^b/2^k:Nat):Int)∨¬k<8:=by
 by_cases hk:k<8
 ·left
  have e1:cV .u8 (b:Int) (gD (k:Int))=((b/2^k:Nat):Int):=by
   rw[show gD (k:Int)=(k:Int)by rw[dW];omega,uH (k:=.u8) (n:=k) (by have:IntKind.u8.bits=8:=rfl;omega) (by omega)]
   rw[Int.natCast_ediv]
  have cR:b/2^k<256:=Nat.lt_of_le_of_lt (Nat.div_le_self _ _) hb
  rw[e1]
  generalize b/2^k=z at cR
  rw[show vX (z:Int)=(z:Int)by rw[yP];omega]
  exact Z8 hs (by omega)
 ·exact .inr hk
theorem qpg{s t:Nat}(hs:s<4294967296)(ht:t<4294967296):((xS .u32 ((s^^^t:Nat):Int) 1)=1→lU .u32 (cV .u32 (s:Int) 1) 3988292384=((tY (s^^^t)^^^t/2:Nat):Int))∧((xS .u32 ((s^^^t:Nat):Int) 1)≠1→cV .u32 (s:Int) 1=((tY (s^^^t)^^^t/2:Nat):Int)):=by
 have hx:s^^^t<4294967296:=GH (n:=32) hs ht
 have h1:xS .u32 ((s^^^t:Nat):Int) 1=(((s^^^t)%2:Nat):Int):=by
  have:=E2 (k:=.u32) (a:=((s^^^t:Nat):Int)) (m:=1) (n:=1) rfl (by omega) (by show((s^^^t:Nat):Int)<4294967296;omega) (by decide) (by decide)
  exact this
 have hd:(s^^^t)/2=s/2^^^t/2:=by
  have:=Nat.xor_div_two_pow (a:=s) (b:=t) (n:=1)
  rwa [show(2:Nat)^1=2 from rfl]at this
 refine⟨fun h=>?_,fun h=>?_⟩
 ·have e:lU .u32 ((s/2:Nat):Int) 3988292384=((s/2^^^3988292384:Nat):Int):=Z8 (b:=3988292384) (by omega) (by decide)
  rw[qgH,e]
  congr 1
  unfold tY
  rw[if_pos (by omega),hd,U1,U1,Nat.xor_comm 3988292384 (t/2),←U1 (t/2),Nat.xor_self,Nat.zero_xor]
 ·rw[qgH]
  congr 1
  unfold tY
  rw[if_neg (by omega),hd,U1,Nat.xor_self,Nat.xor_zero]
theorem qkf(x k:Nat):uB (k+1) x=tY (uB k x):=rfl
section
variable {w:World} {xs:List Int}
theorem qnN{b:Value}(hb:Nm .u8 w b xs)(hl:xs.length≤1000000000):Calls P vI #[.int .u32 0,b] w (fun e w'=>e=aW (.int .u32 (xM xs))∧w'=w):=by
 refine IE ⟨fun s i w'=>∃j:Nat,i=(j:Int)∧j≤xs.length∧s=((U9 4294967295 (xs.take j):Nat):Int)∧w'=w,fun _ i _=>xs.length-i.toNat,⟨0,rfl,by omega,by rw[MC];rfl,rfl⟩,?_⟩
 rintro _ s i w1 ⟨j,rfl,hj,rfl,hw⟩
 obtain rfl:w=w1:=hw.symm
 have hv:U9 4294967295 (xs.take j)<4294967296:=SU _ _ (fun x hx=>hb.2 x (AK hx)) (by decide)
 refine aP hb (aG (fun cR=>?_) (fun aa=>?_))
 ·have r:j<xs.length:=by omega
  have T:xs.take (j+1)=xs.take j++[rd xs (j:Int)]:=by rw[iV r,←dK xs j r]
  have hx:=jB hb.2 (j:Int)
  generalize U:U9 4294967295 (xs.take j)=v at hv
  obtain⟨x,M⟩:∃x:Nat,rd xs (j:Int)=x:=⟨(rd xs (j:Int)).toNat,by omega⟩
  have u:x<256:=by omega
  have X:v^^^x<4294967296:=GH (n:=32) hv (by omega)
  refine⟨fun s k w'=>∃q:Nat,k=(q:Int)∧q≤8∧s=((uB q (v^^^x)^^^x/2^q:Nat):Int)∧w'=w,fun _ k _=>8-k.toNat,⟨0,rfl,by omega,?_,rfl⟩,?_⟩
  ·show(v:Int)=((v^^^x)^^^x/2^0:Nat)
   rw[Nat.pow_zero,Nat.div_one,U1,Nat.xor_self,Nat.xor_zero]
  rintro _ s k w2 ⟨q,rfl,hq,rfl,V⟩
  obtain rfl:w=w2:=V.symm
  have N:=JJ X q
  have ab:x/2^q<256:=Nat.lt_of_le_of_lt (Nat.div_le_self _ _) u
  have C:uB q (v^^^x)^^^x/2^q<4294967296:=GH (n:=32) N (by omega)
  refine aG (fun O=>?_) (fun O=>?_)
  ·have Y:q<8:=by omega
   refine dL hb (by omega) (by omega) fun ad c _=>bG c (pL (by rw[dW];omega) ?_)
   rw[M]
   have e:=(qs2 C u q).resolve_right (by omega)
   rw[e]
   have I:=qpg (s:=uB q (v^^^x)^^^x/2^q) (t:=x/2^q) C (by omega)
   have J:(uB q (v^^^x)^^^x/2^q)^^^x/2^q=uB q (v^^^x):=by rw[U1,Nat.xor_self,Nat.xor_zero]
   have A:x/2^q/2=x/2^(q+1):=by rw[Nat.div_div_eq_div_mul,Nat.pow_succ]
   have hn:tY (uB q (v^^^x))=uB (q+1) (v^^^x):=(qkf _ _).symm
   refine cN (fun h1=>⟨⟨q+1,by rw[aD (by omega) (by omega)];omega,by omega,?_,rfl⟩,by dsimp only;rw[aD (by omega) (by omega)];omega⟩) (fun h1=>⟨⟨q+1,by rw[aD (by omega) (by omega)];omega,by omega,?_,rfl⟩,by dsimp only;rw[aD (by omega) (by omega)];omega⟩)
   ·rw[I.1 h1,J,hn,A]
   ·rw[I.2 h1,J,hn,A]
  ·obtain rfl:q=8:=by omega
   refine⟨⟨j+1,by rw[aD (by omega) (by omega)];omega,by omega,?_,rfl⟩,by dsimp only;rw[aD (by omega) (by omega)];omega⟩
   rw[T,qdM,U,M,ML,dH]
   show((uB 8 (v^^^x)^^^x/2^8:Nat):Int)=((qdL v x:Nat):Int)
   have Z:x/2^8=0:=QQ u
   rw[Z,Nat.xor_zero];rfl
 ·obtain rfl:j=xs.length:=by omega
  rw[qU]at hv⊢
  refine⟨?_,rfl⟩
  have e:lU .u32 4294967295 ((U9 4294967295 xs:Nat):Int)=((4294967295^^^U9 4294967295 xs:Nat):Int):=Z8 (a:=4294967295) (by decide) hv
  rw[e,Nat.xor_comm];rfl
theorem qe4{b:Value}(hb:Nm .u8 w b xs)(hl:xs.length≤1000000000):Calls P pE #[b] w (fun e w'=>e=aW (.int .u32 (xM xs))∧w'=w):=
 IF (bQ (qnN hb hl) fun w' h=>⟨rfl,h⟩)
end
end
end Go.Proofs.YtabchipjjghhnaaGreatDoorV
namespace Go.Proofs
open Go.Shelf
def Tryz.lays185_ren:Go.Shelf.Ren:=⟨fun|185=>217|187=>263|115=>74|253=>264|224=>222|254=>265|255=>286|291=>287|n=>n,fun|37=>24|3=>3|4=>4|0=>0|5=>5|46=>29|9=>9|146=>350|51=>47|n=>n,fun|1=>0|n=>n⟩
theorem Tryz.lays185:Go.Proofs.Lays.n185 Tryz.prog Tryz.lays185_ren:={
 mixed:=by kernel_rfl
 f115:=Tryz.func74.trans (congrArg some (by kernel_rfl))
 f185:=Tryz.func217.trans (congrArg some (by kernel_rfl))
 f187:=Tryz.func263.trans (congrArg some (by kernel_rfl))
 f224:=Tryz.func222.trans (congrArg some (by kernel_rfl))
 f253:=Tryz.func264.trans (congrArg some (by kernel_rfl))
 f254:=Tryz.func265.trans (congrArg some (by kernel_rfl))
 f255:=Tryz.func286.trans (congrArg some (by kernel_rfl))
 f291:=Tryz.func287.trans (congrArg some (by kernel_rfl))
 t0:=Tryz.underlying0
 a0:=Tryz.isAgg0
 z0:=Tryz.sizeOf0
 v0:=Tryz.zeroValue0
 t3:=Tryz.underlying3
 a3:=Tryz.isAgg3
 z3:=Tryz.sizeOf3
 v3:=Tryz.zeroValue3
 t4:=Tryz.underlying4
 a4:=Tryz.isAgg4
 z4:=Tryz.sizeOf4
 v4:=Tryz.zeroValue4
 t5:=Tryz.underlying5
 a5:=Tryz.isAgg5
 z5:=Tryz.sizeOf5
 v5:=Tryz.zeroValue5
 t9:=Tryz.underlying9
 a9:=Tryz.isAgg9
 z9:=Tryz.sizeOf9
 v9:=Tryz.zeroValue9
 t37:=Tryz.underlying24
 a37:=Tryz.isAgg24
 z37:=Tryz.sizeOf24
 v37:=Tryz.zeroValue24
 t46:=Tryz.underlying29
 a46:=Tryz.isAgg29
 z46:=Tryz.sizeOf29
 v46:=Tryz.zeroValue29
 t51:=Tryz.underlying47
 a51:=Tryz.isAgg47
 z51:=Tryz.sizeOf47
 v51:=Tryz.zeroValue47
 t146:=Tryz.underlying350
 a146:=Tryz.isAgg350
 z146:=Tryz.sizeOf350
 v146:=Tryz.zeroValue350
 g1:=by kernel_rfl}
open Go.Proofs Go.RowKit Go.Lib in
theorem Tryz.bytes_Index_at(a1 a2:Addr)(n r k C:Nat)(xs ys:List Int)(m:Int)(w:World)(hx:xs.length=n)(I:ys.length=k)(u:∀x∈xs,0≤x∧x<256)(A:∀y∈ys,0≤y∧y<256)(hc1:∀i,i<n→w.cell? (a1.add i)=some (.int .u8 (xs.getD i 0)))(hc2:∀i,i<k→w.cell? (a2.add i)=some (.int .u8 (ys.getD i 0)))(j:n≤r)(hs:n<4294967281)(hk:k≤9223372036854775807)(hm:w.cell? ⟨0,0,none⟩=some (.int .i64 m)):
  Calls Tryz.prog 217 #[.slice (some a1) n r,.slice (some a2) k C] w fun e w'=>e=.returned (.int .i64 (Lib.index (Lib.bytesOf xs) (Lib.bytesOf ys)))∧∃q,w'=w.drewN q:=Any.bytes_Index_at Tryz.lays185 a1 a2 n r k C xs ys m w hx I u A hc1 hc2 j hs hk hm
def Tryz.laysM185_ren:Go.Shelf.Ren:=⟨fun|185=>217|187=>263|115=>74|253=>264|224=>222|254=>265|255=>286|291=>287|n=>n,fun|37=>24|3=>3|4=>4|0=>0|5=>5|46=>29|9=>9|146=>350|51=>47|n=>n,fun|1=>0|n=>n⟩
theorem Tryz.laysM185:Go.Proofs.LaysM.n185 Tryz.prog Tryz.laysM185_ren:={
 mixed:=by kernel_rfl
 f115:=Tryz.func74.trans (congrArg some (by kernel_rfl))
 f185:=Tryz.func217.trans (congrArg some (by kernel_rfl))
 f187:=Tryz.func263.trans (congrArg some (by kernel_rfl))
 f224:=Tryz.func222.trans (congrArg some (by kernel_rfl))
 f253:=Tryz.func264.trans (congrArg some (by kernel_rfl))
 f254:=Tryz.func265.trans (congrArg some (by kernel_rfl))
 f255:=Tryz.func286.trans (congrArg some (by kernel_rfl))
 f291:=Tryz.func287.trans (congrArg some (by kernel_rfl))
 t0:=Tryz.underlying0
 a0:=Tryz.isAgg0
 z0:=Tryz.sizeOf0
 v0:=Tryz.zeroValue0
 t3:=Tryz.underlying3
 a3:=Tryz.isAgg3
 z3:=Tryz.sizeOf3
 v3:=Tryz.zeroValue3
 t4:=Tryz.underlying4
 a4:=Tryz.isAgg4
 z4:=Tryz.sizeOf4
 v4:=Tryz.zeroValue4
 t5:=Tryz.underlying5
 a5:=Tryz.isAgg5
 z5:=Tryz.sizeOf5
 v5:=Tryz.zeroValue5
 t9:=Tryz.underlying9
 a9:=Tryz.isAgg9
 z9:=Tryz.sizeOf9
 v9:=Tryz.zeroValue9
 t37:=Tryz.underlying24
 a37:=Tryz.isAgg24
 z37:=Tryz.sizeOf24
 v37:=Tryz.zeroValue24
 t46:=Tryz.underlying29
 a46:=Tryz.isAgg29
 z46:=Tryz.sizeOf29
 v46:=Tryz.zeroValue29
 t51:=Tryz.underlying47
 a51:=Tryz.isAgg47
 z51:=Tryz.sizeOf47
 v51:=Tryz.zeroValue47
 t146:=Tryz.underlying350
 a146:=Tryz.isAgg350
 z146:=Tryz.sizeOf350
 v146:=Tryz.zeroValue350
 g1:=by kernel_rfl
 i0:=by kernel_rfl
 i3:=by kernel_rfl
 i4:=by kernel_rfl
 i5:=by kernel_rfl
 i9:=by kernel_rfl
 i37:=by kernel_rfl
 i46:=by kernel_rfl
 i51:=by kernel_rfl
 i146:=by kernel_rfl
 m1:=by kernel_rfl
 s1_3:=fun w h=>Go.Proofs.cell_of_shapedOpen_int (zero:= #[.int .i64 0]) (t:=3) h (of_decide_eq_true (by kernel_rfl)) (by kernel_rfl) rfl (by kernel_rfl) (by kernel_rfl) Tryz.underlying3}
def Tryz.laysSlC13_ren:Go.Shelf.Ren:=⟨fun|13=>151|24=>215|25=>216|12=>217|31=>224|19=>263|20=>74|21=>264|22=>222|23=>265|29=>286|30=>287|n=>n,fun|22=>24|3=>3|4=>4|0=>0|5=>5|9=>9|33=>29|40=>350|39=>47|n=>n,fun|0=>0|n=>n⟩
theorem Tryz.laysSlC13:Go.Proofs.SlLaysC.n13 Tryz.prog Tryz.laysSlC13_ren:={
 mixed:=by kernel_rfl
 f12:=Tryz.func217.trans (congrArg some (by kernel_rfl))
 f13:=Tryz.func151.trans (congrArg some (by kernel_rfl))
 f19:=Tryz.func263.trans (congrArg some (by kernel_rfl))
 f20:=Tryz.func74.trans (congrArg some (by kernel_rfl))
 f21:=Tryz.func264.trans (congrArg some (by kernel_rfl))
 f22:=Tryz.func222.trans (congrArg some (by kernel_rfl))
 f23:=Tryz.func265.trans (congrArg some (by kernel_rfl))
 f25:=Tryz.func216.trans (congrArg some (by kernel_rfl))
 f29:=Tryz.func286.trans (congrArg some (by kernel_rfl))
 f30:=Tryz.func287.trans (congrArg some (by kernel_rfl))
 t0:=Tryz.underlying0
 a0:=Tryz.isAgg0
 z0:=Tryz.sizeOf0
 v0:=Tryz.zeroValue0
 t3:=Tryz.underlying3
 a3:=Tryz.isAgg3
 z3:=Tryz.sizeOf3
 v3:=Tryz.zeroValue3
 t4:=Tryz.underlying4
 a4:=Tryz.isAgg4
 z4:=Tryz.sizeOf4
 v4:=Tryz.zeroValue4
 t5:=Tryz.underlying5
 a5:=Tryz.isAgg5
 z5:=Tryz.sizeOf5
 v5:=Tryz.zeroValue5
 t9:=Tryz.underlying9
 a9:=Tryz.isAgg9
 z9:=Tryz.sizeOf9
 v9:=Tryz.zeroValue9
 t22:=Tryz.underlying24
 a22:=Tryz.isAgg24
 z22:=Tryz.sizeOf24
 v22:=Tryz.zeroValue24
 t33:=Tryz.underlying29
 a33:=Tryz.isAgg29
 z33:=Tryz.sizeOf29
 v33:=Tryz.zeroValue29
 t39:=Tryz.underlying47
 a39:=Tryz.isAgg47
 z39:=Tryz.sizeOf47
 v39:=Tryz.zeroValue47
 t40:=Tryz.underlying350
 a40:=Tryz.isAgg350
 z40:=Tryz.sizeOf350
 v40:=Tryz.zeroValue350
 g0:=by kernel_rfl}
open Go.RowKit Go.Lib in
theorem Tryz.bytes_Count_at(a1 a2:Addr)(n r k C:Nat)(xs ys:List Int)(m:Int)(w:World)(hx:xs.length=n)(I:ys.length=k)(u:∀x∈xs,0≤x∧x<256)(A:∀y∈ys,0≤y∧y<256)(hc1:∀i,i<n→w.cell? (a1.add i)=some (.int .u8 (xs.getD i 0)))(hc2:∀i,i<k→w.cell? (a2.add i)=some (.int .u8 (ys.getD i 0)))(j:n≤r)(hs:n<4294967281)(hk:k≤9223372036854775807)(h2:2≤k)(hm:w.cell? ⟨0,0,none⟩=some (.int .i64 m)):
  Calls Tryz.prog 151 #[.slice (some a1) n r,.slice (some a2) k C] w fun e w'=>e=.returned (.int .i64 (Lib.count (Lib.bytesOf xs) (Lib.bytesOf ys)))∧∃q,w'=w.drewN q:=Any.bytes_Count_at Tryz.laysSlC13 a1 a2 n r k C xs ys m w hx I u A hc1 hc2 j hs hk h2 hm
def Tryz.laysSlF6_f259_ren:Go.Shelf.Ren:=⟨fun|6=>259|15=>285|14=>284|28=>298|29=>299|20=>290|21=>291|22=>292|23=>293|24=>294|25=>295|26=>296|27=>297|46=>300|47=>301|48=>302|49=>303|50=>304|57=>305|n=>n,fun|22=>122|24=>9|25=>125|3=>3|39=>29|0=>0|53=>47|55=>58|4=>4|46=>376|45=>375|50=>380|5=>5|9=>9|66=>384|70=>252|76=>388|77=>389|n=>n,fun|n=>n⟩
theorem Tryz.laysSlF6_f259:Go.Proofs.SlLaysF.n6 Tryz.prog Tryz.laysSlF6_f259_ren:={
 mixed:=by kernel_rfl
 f6:=⟨Tryz.f259.name,by decide,Tryz.func259.trans (congrArg some (by kernel_rfl))⟩
 f14:=⟨Tryz.f284.name,by decide,Tryz.func284.trans (congrArg some (by kernel_rfl))⟩
 f15:=Tryz.func285.trans (congrArg some (by kernel_rfl))
 f20:=⟨Tryz.f290.name,by decide,Tryz.func290.trans (congrArg some (by kernel_rfl))⟩
 f21:=⟨Tryz.f291.name,by decide,Tryz.func291.trans (congrArg some (by kernel_rfl))⟩
 f22:=⟨Tryz.f292.name,by decide,Tryz.func292.trans (congrArg some (by kernel_rfl))⟩
 f23:=⟨Tryz.f293.name,by decide,Tryz.func293.trans (congrArg some (by kernel_rfl))⟩
 f24:=⟨Tryz.f294.name,by decide,Tryz.func294.trans (congrArg some (by kernel_rfl))⟩
 f25:=⟨Tryz.f295.name,by decide,Tryz.func295.trans (congrArg some (by kernel_rfl))⟩
 f26:=⟨Tryz.f296.name,by decide,Tryz.func296.trans (congrArg some (by kernel_rfl))⟩
 f27:=⟨Tryz.f297.name,by decide,Tryz.func297.trans (congrArg some (by kernel_rfl))⟩
 f28:=Tryz.func298.trans (congrArg some (by kernel_rfl))
 f29:=Tryz.func299.trans (congrArg some (by kernel_rfl))
 f46:=⟨Tryz.f300.name,by decide,Tryz.func300.trans (congrArg some (by kernel_rfl))⟩
 f47:=Tryz.func301.trans (congrArg some (by kernel_rfl))
 f48:=Tryz.func302.trans (congrArg some (by kernel_rfl))
 f49:=⟨Tryz.f303.name,by decide,Tryz.func303.trans (congrArg some (by kernel_rfl))⟩
 f50:=⟨Tryz.f304.name,by decide,Tryz.func304.trans (congrArg some (by kernel_rfl))⟩
 f57:=⟨Tryz.f305.name,by decide,Tryz.func305.trans (congrArg some (by kernel_rfl))⟩
 t0:=Tryz.underlying0
 a0:=Tryz.isAgg0
 z0:=Tryz.sizeOf0
 v0:=Tryz.zeroValue0
 t3:=Tryz.underlying3
 a3:=Tryz.isAgg3
 z3:=Tryz.sizeOf3
 v3:=Tryz.zeroValue3
 t4:=Tryz.underlying4
 a4:=Tryz.isAgg4
 z4:=Tryz.sizeOf4
 v4:=Tryz.zeroValue4
 t5:=Tryz.underlying5
 a5:=Tryz.isAgg5
 z5:=Tryz.sizeOf5
 v5:=Tryz.zeroValue5
 t9:=Tryz.underlying9
 a9:=Tryz.isAgg9
 z9:=Tryz.sizeOf9
 v9:=Tryz.zeroValue9
 t22:=Tryz.underlying122
 a22:=Tryz.isAgg122
 z22:=Tryz.sizeOf122
 v22:=Tryz.zeroValue122
 a24:=Tryz.isAgg9
 z24:=Tryz.sizeOf9
 t25:=Tryz.underlying125
 a25:=Tryz.isAgg125
 z25:=Tryz.sizeOf125
 v25:=Tryz.zeroValue125
 t39:=Tryz.underlying29
 a39:=Tryz.isAgg29
 z39:=Tryz.sizeOf29
 v39:=Tryz.zeroValue29
 t45:=Tryz.underlying375
 a45:=Tryz.isAgg375
 z45:=Tryz.sizeOf375
 v45:=Tryz.zeroValue375
 t46:=Tryz.underlying376
 a46:=Tryz.isAgg376
 z46:=Tryz.sizeOf376
 v46:=Tryz.zeroValue376
 t50:=Tryz.underlying380
 a50:=Tryz.isAgg380
 z50:=Tryz.sizeOf380
 v50:=Tryz.zeroValue380
 t53:=Tryz.underlying47
 a53:=Tryz.isAgg47
 z53:=Tryz.sizeOf47
 v53:=Tryz.zeroValue47
 t55:=Tryz.underlying58
 a55:=Tryz.isAgg58
 z55:=Tryz.sizeOf58
 v55:=Tryz.zeroValue58
 t66:=Tryz.underlying384
 a66:=Tryz.isAgg384
 z66:=Tryz.sizeOf384
 v66:=Tryz.zeroValue384
 t70:=Tryz.underlying252
 a70:=Tryz.isAgg252
 z70:=Tryz.sizeOf252
 v70:=Tryz.zeroValue252
 t76:=Tryz.underlying388
 a76:=Tryz.isAgg388
 z76:=Tryz.sizeOf388
 v76:=Tryz.zeroValue388
 t77:=Tryz.underlying389
 a77:=Tryz.isAgg389
 z77:=Tryz.sizeOf389
 v77:=Tryz.zeroValue389}
def Tryz.laysSlF06_f259_ren:Go.Shelf.Ren:=⟨fun|6=>259|15=>285|14=>284|28=>298|29=>299|20=>290|21=>291|22=>292|23=>293|24=>294|25=>295|26=>296|27=>297|46=>300|47=>301|48=>302|49=>303|50=>304|57=>305|n=>n,fun|22=>122|24=>9|25=>125|3=>3|39=>29|0=>0|53=>47|55=>58|4=>4|46=>376|45=>375|50=>380|5=>5|9=>9|66=>384|70=>252|76=>388|77=>389|n=>n,fun|n=>n⟩
theorem Tryz.laysSlF06_f259:Go.Proofs.SlLaysF0.n6 Tryz.prog Tryz.laysSlF06_f259_ren:={
 mixed:=by kernel_rfl
 f6:=⟨Tryz.f259.name,by decide,Tryz.func259.trans (congrArg some (by kernel_rfl))⟩
 f14:=⟨Tryz.f284.name,by decide,Tryz.func284.trans (congrArg some (by kernel_rfl))⟩
 f15:=Tryz.func285.trans (congrArg some (by kernel_rfl))
 f20:=⟨Tryz.f290.name,by decide,Tryz.func290.trans (congrArg some (by kernel_rfl))⟩
 f21:=⟨Tryz.f291.name,by decide,Tryz.func291.trans (congrArg some (by kernel_rfl))⟩
 f22:=⟨Tryz.f292.name,by decide,Tryz.func292.trans (congrArg some (by kernel_rfl))⟩
 f23:=⟨Tryz.f293.name,by decide,Tryz.func293.trans (congrArg some (by kernel_rfl))⟩
 f24:=⟨Tryz.f294.name,by decide,Tryz.func294.trans (congrArg some (by kernel_rfl))⟩
 f25:=⟨Tryz.f295.name,by decide,Tryz.func295.trans (congrArg some (by kernel_rfl))⟩
 f26:=⟨Tryz.f296.name,by decide,Tryz.func296.trans (congrArg some (by kernel_rfl))⟩
 f27:=⟨Tryz.f297.name,by decide,Tryz.func297.trans (congrArg some (by kernel_rfl))⟩
 f28:=Tryz.func298.trans (congrArg some (by kernel_rfl))
 f29:=Tryz.func299.trans (congrArg some (by kernel_rfl))
 f46:=⟨Tryz.f300.name,by decide,Tryz.func300.trans (congrArg some (by kernel_rfl))⟩
 f47:=Tryz.func301.trans (congrArg some (by kernel_rfl))
 f48:=Tryz.func302.trans (congrArg some (by kernel_rfl))
 f49:=⟨Tryz.f303.name,by decide,Tryz.func303.trans (congrArg some (by kernel_rfl))⟩
 f50:=⟨Tryz.f304.name,by decide,Tryz.func304.trans (congrArg some (by kernel_rfl))⟩
 f57:=⟨Tryz.f305.name,by decide,Tryz.func305.trans (congrArg some (by kernel_rfl))⟩
 t0:=Tryz.underlying0
 a0:=Tryz.isAgg0
 z0:=Tryz.sizeOf0
 v0:=Tryz.zeroValue0
 t3:=Tryz.underlying3
 a3:=Tryz.isAgg3
 z3:=Tryz.sizeOf3
 v3:=Tryz.zeroValue3
 t4:=Tryz.underlying4
 a4:=Tryz.isAgg4
 z4:=Tryz.sizeOf4
 v4:=Tryz.zeroValue4
 t5:=Tryz.underlying5
 a5:=Tryz.isAgg5
 z5:=Tryz.sizeOf5
 v5:=Tryz.zeroValue5
 t9:=Tryz.underlying9
 a9:=Tryz.isAgg9
 z9:=Tryz.sizeOf9
 v9:=Tryz.zeroValue9
 t22:=Tryz.underlying122
 a22:=Tryz.isAgg122
 z22:=Tryz.sizeOf122
 v22:=Tryz.zeroValue122
 t25:=Tryz.underlying125
 a25:=Tryz.isAgg125
 z25:=Tryz.sizeOf125
 v25:=Tryz.zeroValue125
 t39:=Tryz.underlying29
 a39:=Tryz.isAgg29
 z39:=Tryz.sizeOf29
 v39:=Tryz.zeroValue29
 t45:=Tryz.underlying375
 a45:=Tryz.isAgg375
 z45:=Tryz.sizeOf375
 v45:=Tryz.zeroValue375
 t46:=Tryz.underlying376
 a46:=Tryz.isAgg376
 z46:=Tryz.sizeOf376
 v46:=Tryz.zeroValue376
 t50:=Tryz.underlying380
 a50:=Tryz.isAgg380
 z50:=Tryz.sizeOf380
 v50:=Tryz.zeroValue380
 t53:=Tryz.underlying47
 a53:=Tryz.isAgg47
 z53:=Tryz.sizeOf47
 v53:=Tryz.zeroValue47
 t55:=Tryz.underlying58
 a55:=Tryz.isAgg58
 z55:=Tryz.sizeOf58
 v55:=Tryz.zeroValue58
 t66:=Tryz.underlying384
 a66:=Tryz.isAgg384
 z66:=Tryz.sizeOf384
 v66:=Tryz.zeroValue384
 t70:=Tryz.underlying252
 a70:=Tryz.isAgg252
 z70:=Tryz.sizeOf252
 v70:=Tryz.zeroValue252
 t76:=Tryz.underlying388
 a76:=Tryz.isAgg388
 z76:=Tryz.sizeOf388
 v76:=Tryz.zeroValue388
 t77:=Tryz.underlying389
 a77:=Tryz.isAgg389
 z77:=Tryz.sizeOf389
 v77:=Tryz.zeroValue389}
open Go.RowKit Go.Lib Go.Sort in
theorem Tryz.slices_SortFunc_none{α:Type}[Inhabited α](p:Option Addr)(cap:Nat)(j:Value)(w:World):
  Calls Tryz.prog 259 #[.slice p 0 cap,j] w fun e w'=>e=.returned (.tuple #[])∧w'=w:=AnyF.slices_SortFunc_none Tryz.laysSlF06_f259 p cap j w
open Go.RowKit Go.Lib Go.Sort in
theorem Tryz.slices_SortFunc_total{α:Type}[Inhabited α](enc:α→Value)(h1:OneCell enc)(j:α→α→Int)(J:SWO (ltOf j))(g:Nat)(u:Array Value)(blk off cap:Nat)(d:Array α)(w:World)(C:∀args w,(callFunc g args).run Tryz.prog w=.ok (.enter g args) w)(r:CmpLays1 Tryz.prog g u enc j blk off d.size w)(I:Holds enc w blk off d)(q:blk<w.heap.size)(A:d.size<4611686018427387904)(M:∀x y,(ltOf j) x y=false→(ltOf j) y x=false→x=y):
  Calls Tryz.prog 259 #[.slice (some ⟨blk,off,none⟩) d.size cap,.func (.func g) #[] u] w fun e w'=>
   e=.returned (.tuple #[])∧∃n os,w'=sortWorld enc w blk off n (d.toList.mergeSort fun x y=>!(ltOf j) y x).toArray os:=Any.slices_SortFunc_total Tryz.laysSlF6_f259 enc h1 j J g u blk off cap d w C r I q A M
def Tryz.laysKeys_ren:Go.Shelf.Ren:=⟨fun|10=>260|n=>n,fun|33=>79|23=>297|0=>0|4=>4|26=>9|3=>3|n=>n,fun|n=>n⟩
theorem Tryz.laysKeys:Go.Proofs.SlLaysZ.n10 Tryz.prog Tryz.laysKeys_ren:={
 mixed:=by kernel_rfl
 f10:=⟨Tryz.f260.name,by decide,Tryz.func260.trans (congrArg some (by kernel_rfl))⟩
 t0:=Tryz.underlying0
 a0:=Tryz.isAgg0
 z0:=Tryz.sizeOf0
 v0:=Tryz.zeroValue0
 t4:=Tryz.underlying4
 a4:=Tryz.isAgg4
 z4:=Tryz.sizeOf4
 v4:=Tryz.zeroValue4
 t23:=Tryz.underlying297
 a23:=Tryz.isAgg297
 z23:=Tryz.sizeOf297
 v23:=Tryz.zeroValue297
 t26:=Tryz.underlying9
 a26:=Tryz.isAgg9
 z26:=Tryz.sizeOf9
 v26:=Tryz.zeroValue9
 t33:=Tryz.underlying79
 a33:=Tryz.isAgg79
 z33:=Tryz.sizeOf79
 v33:=Tryz.zeroValue79}
end Go.Proofs
