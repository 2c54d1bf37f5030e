import Derived.Test.YtabchipjjghhnaaGreatDoorVPart17
set_option linter.unusedVariables false
set_option linter.unusedSimpArgs false
namespace Go.Proofs.YtabchipjjghhnaaGreatDoorV
open Go Go.RowKit
theorem Calls.out{P:Program}{f:FuncId}{args:Array Value}{w:World}{R:Ending→World→Prop}(h:Calls P f args w R):∃e w',R e w':=by
 obtain⟨e,w',_,h,_⟩:=h [];exact⟨e,w',h⟩
noncomputable abbrev trX(auto:Bool)(ts:List Int)(e:En):List Int×List Int:=OS vY auto ts B9 e
noncomputable def itX(auto:Bool)(ts:List Int)(e:En):ItP:=GC (trX auto ts e) e
theorem qpY{auto locked:Bool}{ts:List Int}{lv bk ns j rounds:Int}(h:K3 auto ts lv bk locked ns j rounds=true):K3 auto ts lv bk false 0 0 0=true:=by
 unfold K3 at h⊢
 simp only[mK]at h⊢
 exact⟨h.1,h.2.1,by decide⟩
theorem qlc{l:List En}(h:(jV l).2=0):Up (jV l).1∧∀e∈(jV l).1,iA e.1=true:=by
 unfold jV at h⊢
 by_cases h1:(l.any fun x=>!iA x.1)=true
 ·rw[if_pos h1]at h;cases h
 rw[if_neg h1]at h⊢
 by_cases h2:¬(l.map (·.1)).Nodup
 ·rw[if_pos h2]at h;cases h
 rw[if_neg h2]at h⊢
 by_cases h3:VZ l=true
 ·rw[if_pos h3]at h;cases h
 rw[if_neg h3]
 refine⟨(qcT l).up (((yA l).map (·.1)).nodup_iff.2 (Classical.not_not.1 h2)),fun e he=>?_⟩
 cases hc:iA e.1 with
 |true=>rfl
 |false=>exact absurd (List.any_eq_true.2 ⟨e,(yA l).mem_iff.1 he,by rw[hc];rfl⟩) h1
theorem qoa{l:List En}{e:En}(h:e∈l):(e.2.length:Int)≤gJ l:=by
 obtain⟨a,b,rfl⟩:=List.append_of_mem h
 have h1:=D6 a;have h2:=D6 b
 rw[DE]
 have e1:gJ (e::b)=(e.2.length:Int)+gJ b:=by simp [gJ]
 omega
theorem qmY{auto:Bool}{ts:List Int}{e:En}(h1:(e.2.length:Int)≤1048576)(h2:iA e.1=true)(h3:inR .u8 e.2):qiQ (itX auto ts e):=by
 have hc:=qan e.2 (K5 auto ts B9 e.2)
 have hl:=IV vY (K5 auto ts B9 e.2) e.2
 have hs:=UM h3
 have j:iL (jZ vY (K5 auto ts B9 e.2) e.2).2=true:=by
  unfold jZ;split
  ·rfl
  ·exact hc.2.1
 have hz:(jZ vY (K5 auto ts B9 e.2) e.2).2=[]→(jZ vY (K5 auto ts B9 e.2) e.2).1=e.2:=by
  unfold jZ;split
  ·exact fun _=>rfl
  ·exact hc.2.2.1
 have hn:e.1.size≤4096:=by
  have h4:=h2
  unfold iA OI at h4
  rw[mK,decide_eq_true_iff,LW]at h4
  exact h4.1
 have e1:(itX auto ts e).packed=((jZ vY (K5 auto ts B9 e.2) e.2).1.length:Int):=rfl
 have e2:(itX auto ts e).size=(e.2.length:Int):=rfl
 have e3:(itX auto ts e).chain=(jZ vY (K5 auto ts B9 e.2) e.2).2:=rfl
 have q:(itX auto ts e).sum=xM e.2:=rfl
 refine⟨⟨by rw[e2];omega,by rw[e1];omega,by rw[e3];exact OJ j,h2,hn,by rw[q];omega⟩,by rw[e3];exact j,by rw[e1,e2];exact hl,fun h=>?_⟩
 rw[e3]at h
 rw[e1,e2,hz h]
structure Made (auto:Bool) (ts:List Int) (lv bk:Int) (es:List En) (xs:List Int):Prop where
 opn:(aZ xs).1=0
 o:(aZ xs).2.o=⟨auto,ts,lv,bk⟩
 its:(aZ xs).2.items=es.map (itX auto ts)
 all:nG xs (aZ xs).2.o (aZ xs).2.items (aZ xs).2.st=(kX (es.map (trX auto ts)),0)
theorem qa7:∀{ts:List Int},(∀t∈ts,1≤t∧t≤6)→(xH ts).length≤ts.length
 |[],_=>by simp [xH]
 |t::ts,h=>by
  have:=qa7 (ts:=ts) fun u hu=>h u (lL _ hu)
  have ht:=h t xJ
  have h1:=lY 0 (gD t).toNat (by rw[show gD t=t by rw[dW];omega];show _<128;omega)
  have e:xH (t::ts)=eD (gD t).toNat++xH ts:=by simp [xH]
  rw[e,bD,iO];omega
theorem qa6{ts:List Int}(h:iL ts=true):(AH ts).length≤5:=by
 have j:=Y8.1 h
 have h1:=qa7 j.2.1
 have h2:=lY 0 ts.length (by show _<128;omega)
 unfold AH;rw[bD];omega
theorem qrU{p:ItP}(g:qiQ p):(itB p).length≤17+p.name.size:=by
 obtain⟨⟨g1,g2,g3,q,r,u⟩,j,A,C⟩:=g
 have h1:=lY 1 p.name.size (by show _<16384;omega)
 have h2:=qa6 j
 have h3:=lY 2 (gD p.size).toNat (by rw[show gD p.size=p.size by rw[dW];omega];show _<2097152;omega)
 have h4:=lY 2 (gD p.packed).toNat (by rw[show gD p.packed=p.packed by rw[dW];omega];show _<2097152;omega)
 unfold itB
 simp only[bD,vP,lV]
 omega
theorem qj7{lv:Int}{ys:List Int}(h:ys.length≤65536):(qV lv ys).length≤ys.length+3:=by
 unfold qV
 split
 ·rw[EF.1,bD];show 1+_≤_;omega
 ·rename_i hc
  have cR:¬(gR lv ys).1.length≥ys.length:=fun hh=>hc (.inr hh)
  have h1:=lY 2 (gR lv ys).1.length (by show _<2097152;omega)
  rw[EF.2,bD,bD];show 1+_≤_;omega
theorem qdF{lv:Int}{n:Nat}{xs:List Int}(hn:1≤n∧n≤65536):∀k:Nat,k≤chN n xs.length→(xD (qV lv) n xs (List.range k)).length+(xs.length-k*n)≤xs.length+3*k
 |0,_=>by simp [xD]
 |k+1,hk=>by
  have q:=qdF (lv:=lv) (n:=n) (xs:=xs) hn k (by omega)
  have cR:=(V1 (len:=xs.length) (j:=k) hn.1).1 (by omega)
  have h2:(chL n xs k).length=min n (xs.length-k*n):=by unfold chL;rw[eJ,cQ]
  have h1:=qj7 (lv:=lv) (ys:=chL n xs k) (by omega)
  have e:(k+1)*n=k*n+n:=mJ k n
  rw[List.range_succ,UI,bD]
  omega
theorem qaJ:∀{ps:List ItP},(∀p∈ps,qiQ p)→((mC ps).length:Int)≤17*ps.length+(ps.map fun p=>(p.name.size:Int)).sum
 |[],_=>by simp [mC]
 |p::ps,h=>by
  have:=qaJ (ps:=ps) fun q hq=>h q (lL _ hq)
  have h1:=qrU (h p xJ)
  have e:mC (p::ps)=itB p++mC ps:=by simp [mC]
  rw[e,bD,U0,List.sum_cons,iO]
  push_cast
  omega
theorem qil{auto:Bool}{ts:List Int}:∀es:List En,256*((kX (es.map (trX auto ts))).length:Int)≤257*gJ es+2048*es.length
 |[]=>by simp [kX,gJ]
 |e::es=>by
  have:=qil (auto:=auto) (ts:=ts) es
  have h1:=IV vY (K5 auto ts B9 e.2) e.2
  have h2:kX ((e::es).map (trX auto ts))=(trX auto ts e).1++kX (es.map (trX auto ts)):=by simp [kX]
  have h3:(trX auto ts e).1.length=(jZ vY (K5 auto ts B9 e.2) e.2).1.length:=rfl
  have h4:gJ (e::es)=(e.2.length:Int)+gJ es:=by simp [gJ]
  rw[h2,bD,h3,h4,iO]
  push_cast
  omega
def UJ(n b:Int):Int:=if n=0 then 0 else(n-1)/b+1
def qo2(l:List En)(bk:Int):Int:=gJ l+(gJ l+127)/128+xB l+31*l.length+32*UJ (gJ l) (if bk>16 then bk else 16)+64
theorem qna{auto locked:Bool}{ts:List Int}{lv bk ns u rounds:Int}{l:List En}(h:(AC auto ts lv bk locked ns u rounds l).2=0)(hl:∀e∈l,inR .u8 e.2):
  ((AC auto ts lv bk locked ns u rounds l).1.length:Int)≤qo2 l bk:=by
 unfold AC R4 at h⊢
 by_cases J:K3 auto ts lv bk locked ns u rounds=false
 ·rw[if_pos J]at h;cases h
 rw[if_neg J]at h⊢
 by_cases q:(jV l).2≠0
 ·rw[if_pos q]at h;exact absurd h q
 rw[if_neg q]
 dsimp only
 have q:=Classical.not_not.1 q
 have X:=qpY (show K3 auto ts lv bk locked ns u rounds=true by
  cases hc:K3 auto ts lv bk locked ns u rounds with
  |true=>rfl
  |false=>exact absurd hc J)
 obtain⟨V,U,N,_⟩:=TE X
 obtain⟨s1,s2,s3,I⟩:=qa2 q
 obtain⟨s5,Y⟩:=qlc q
 have p1:=OO I
 have p2:=qa5 I
 have p3:=I.length_eq
 unfold qo2
 rw[←p1,←p2,←p3]
 have r:∀p∈(jV l).1.map (itX auto ts),qiQ p:=fun p hp=>by
  obtain⟨e,he,rfl⟩:=List.mem_map.1 hp
  exact qmY (by have:=qoa he;omega) (Y e he) (hl e (I.mem_iff.1 he))
 generalize(jV l).1=es at*
 obtain⟨B,rfl⟩:∃B:Nat,bk=B:=⟨bk.toNat,by omega⟩
 have t1:=qa6 N
 have t2:=lY 0 (gD lv).toNat (by rw[show gD lv=lv by rw[dW];omega];show _<128;omega)
 have t3:=lY 2 (gD (B:Int)).toNat (by rw[show gD (B:Int)=B by rw[dW];omega];show _<2097152;omega)
 have t4:(eD (if auto=true then 1 else 0)).length≤1:=lY 0 _ (by show _<128;split<;>decide)
 have t5:=qaJ r
 have t6:=lY 1 (es.map (itX auto ts)).length (by rw[fE];show _<16384;omega)
 have t7:=qdF (lv:=lv) (n:=B) (xs:=kX (es.map (trX auto ts))) (by omega) (chN B (kX (es.map (trX auto ts))).length) (cJ _)
 have t8:=qil (auto:=auto) (ts:=ts) es
 have t9:(((es.map (itX auto ts)).map fun p=>(p.name.size:Int)).sum)=xB es:=by unfold xB;rw[List.map_map];rfl
 rw[t9,fE]at t5
 have hd:=D6 es
 have T:(chN B (kX (es.map (trX auto ts))).length-1)*B≤(kX (es.map (trX auto ts))).length:=by
  by_cases h0:chN B (kX (es.map (trX auto ts))).length=0
  ·rw[h0];omega
  ·have:=(V1 (n:=B) (len:=(kX (es.map (trX auto ts))).length) (j:=chN B (kX (es.map (trX auto ts))).length-1) (by omega)).1 (by omega)
   omega
 have O:(qdG (PC (OS vY auto ts B9) (qV lv) auto ts lv B es)).length=8+((eD (gD lv).toNat).length+(eD (gD (B:Int)).toNat).length+(eD (if auto=true then 1 else 0)).length+(AH ts).length)+((eD (es.map (itX auto ts)).length).length+(mC (es.map (itX auto ts))).length)+(xD (qV lv) B (kX (es.map (trX auto ts))) (List.range (chN B (kX (es.map (trX auto ts))).length))).length:=by
  unfold qdG PC qaI W6
  rw[dH]
  simp only[bD,lV]
  show 4+4+_=_
  have e1:(es.map fun e=>GC (OS vY auto ts B9 e) e)=es.map (itX auto ts):=rfl
  have e2:es.map (OS vY auto ts B9)=es.map (trX auto ts):=rfl
  rw[e1,e2];omega
 rw[O]
 generalize(kX (es.map (trX auto ts))).length=A at*
 generalize chN B A=C at*
 have M:(if(B:Int)>16 then(B:Int)else 16)=B:=by split<;>omega
 rw[M]
 have Z:0≤UJ (gJ es) B∧gJ es≤UJ (gJ es) B*B:=by
  unfold UJ;split
  ·omega
  ·have h1:=QS (a:=gJ es-1) (b:=B) (by omega) (by omega)
   have h2:=Int.lt_ediv_add_one_mul_self (gJ es-1) (b:=B) (by omega)
   exact⟨by omega,by omega⟩
 generalize UJ (gJ es) B=Q at*
 have hC:4096*((C:Int)-1-Q)≤gJ es+2048*es.length:=by
  by_cases hc:(C:Int)-1-Q≤0
  ·omega
  ·have h1:((C:Int)-1-Q)*16≤((C:Int)-1-Q)*B:=Int.mul_le_mul_of_nonneg_left (by omega) (by omega)
   have h2:((C:Int)-1-Q)*B=((C:Int)-1)*B-Q*B:=Int.sub_mul ..
   have h3:((C:Int)-1)*B≤A:=by
    have:((C-1:Nat):Int)=(C:Int)-1:=by omega
    rw[←this];exact_mod_cast T
   omega
 omega
section
theorem qpr{l:List En}{bk:Int}(h:d7 l≤1200):qo2 l bk≤100000:=by
 obtain⟨_,h2,h3⟩:=qgN h
 have h4:=D6 l
 have h5:=TK l
 have hb:UJ (gJ l) (if bk>16 then bk else 16)≤1201:=by
  unfold UJ
  split
  ·omega
  ·have:=ZM (a:=gJ l-1) (if bk>16 then bk else 16) (by omega)
   omega
 unfold qo2
 omega
section
variable {w0 w:World} {F:List It} {xs:List Int}
theorem BoxTotal_law{v:Value}{most:Int}{name:ByteArray}{p:Prop}(hb:Nm .u8 w v xs)(_:IntKind.i64.min≤most∧most≤IntKind.i64.max)(_:p)(q:MaxL w):Calls P vH #[v,aB most,.string name] w (Holds w):=by
 have j:=yR (Ch.refl _ w) q
 refine S8 ⟨fun w'=>w'=w∧xs.length≤3000,aP hb (cC (fun h1=>cC (fun h2=>aG (fun _=>j) (fun _=>⟨rfl,by omega⟩)) (fun _=>j)) (fun _=>j)),?_⟩
 rintro _ w1 ⟨hw,hl⟩
 obtain rfl:w=w1:=hw.symm
 refine iY (qbv hb (by omega) (by decide)) fun o w2 ⟨h2,r⟩=>gC (OM r.nm (by omega)) fun w3 h3=>gC (K7 (q.ev (h2.trans h3))) fun w4 h4=>qS (qS (gC (ZT (r.ev (h3.trans h4)) (hb.ev (h2.trans (h3.trans h4))) (by omega)) fun w5 h5=>⟨rfl,h2.trans (h3.trans (h4.trans h5))⟩))
set_option maxHeartbeats 1600000 in
theorem BoxChanged_law{v av tv:Value}{c:Array Value}{r J:List Int}{cut most:Int}{name:ByteArray}{p:Prop}(aj:I7 P w aJ [v])(ae:I7 P w cB c.toList)(ha:Nm .i64 w av r)(ht:Nm .u8 w tv J)(_:IntKind.i64.min≤cut∧cut≤IntKind.i64.max)(_:IntKind.i64.min≤most∧most≤IntKind.i64.max)(_:p)(hM:MaxL w):
  Calls P rY #[v,.agg c,av,tv,aB cut,aB most,.string name] w (Holds w):=by
 obtain⟨us,hv,hb,hl⟩:=qmJ aj
 obtain⟨A,cv,lv,bk,lo,sv,N,I,ts,ss,ns,hc,nc,al,ak⟩:=qaH ae
 obtain rfl:c= #[.bool A,cv,aB lv,aB bk,.bool lo,sv,N,aB I]:=by
  have:=congrArg List.toArray hc
  simpa using this
 refine K0 (mL (Fr.start w) fun T w1 C=>?_)
 have C:Fr w w1 [aT T [.bool A,cv,aB lv,aB bk,.bool lo,sv,N,aB I]]:=C
 have U:∀{w':World},Ev w w'→aE P bZ kG #[] w' fun t ww=>Holds w (aW (.bool t)) ww:=fun he=>yR he (hM.ev he)
 refine⟨fun w'=>Fr w w' [aT T [.bool A,cv,aB lv,aB bk,.bool lo,sv,N,aB I]]∧d7 (us.map er)≤600∧ts.length≤60∧r.length≤20,?_,?_⟩
 ·refine dY C 0 1 rfl rfl (aP (nc.ev C.old) (cC (fun ab=>bQ (qav (hv.ev C.old) hb hl) fun w2 h2=>cC (fun hf=>aP (ha.ev (C.ev h2).old) (cC (fun ao=>cC (fun _=>aG (fun _=>U (C.ev h2).old) (fun _=>⟨C.ev h2,by omega,by omega,by omega⟩)) (fun _=>U (C.ev h2).old)) (fun _=>U (C.ev h2).old))) (fun _=>U (C.ev h2).old)) (fun _=>U C.old)))
 rintro _ w2 ⟨V,bd,ab,bb⟩
 obtain⟨hf, -, -⟩:=qgN (show d7 (us.map er)≤1200 by omega)
 have hs:=qaw hf
 have af:∀e∈us.map er,inR .u8 e.2:=fun e he=>by
  obtain⟨u,hu,rfl⟩:=List.mem_map.1 he
  exact(hv.2 u hu).2
 refine gE V 0 rfl (aO (DS (hv.ev V.old) hs (nc.ev V.old) (al.ev V.old) (ak.ev V.old) (by omega) (hM.ev V.old)) ?_)
 rintro _ w3 ⟨x,rfl,h3,ox⟩
 have O:(AC A ts lv bk lo ss.length ns.length I (us.map er)).2=0→(AC A ts lv bk lo ss.length ns.length I (us.map er)).1.length≤100000:=fun h=>by
  have h1:=qna h af
  have h2:=qpr (l:=us.map er) (bk:=bk) (by omega)
  omega
 generalize AC A ts lv bk lo ss.length ns.length I (us.map er)=X at ox O⊢
 have f3:Fr w w3 [bI .u8 eB x X.1,aT T [.bool A,cv,aB lv,aB bk,.bool lo,sv,N,aB I]]:=V.newO h3 ox
 refine⟨x,_,rfl,fun w'=>Fr w w' [bI .u8 eB x X.1,aT T [.bool A,cv,aB lv,aB bk,.bool lo,sv,N,aB I]]∧X.2=0∧0<X.1.length,?_,?_⟩
 ·refine gC (K7 (hM.ev f3.old)) fun w4 h4=>VK (iC (fun he=>aP ((f3.ev h4).nm 0 rfl) (cN (fun _=>U (f3.ev h4).old) (fun be=>⟨f3.ev h4,he,by omega⟩))) (fun _=>U (f3.ev h4).old))
 rintro _ w4 ⟨f4,he,ap⟩
 have bf:=O he
 refine qmt f4 (ZR (f4.nm 0 rfl) (by omega)) fun y w5 f5=>?_
 have f5:Fr w w5 [bI .u8 eB y X.1,bI .u8 eB x X.1,aT T [.bool A,cv,aB lv,aB bk,.bool lo,sv,N,aB I]]:=f5
 refine⟨fun w'=>∃Y:List Int,Y.length=X.1.length∧Fr w w' [bI .u8 eB y Y,bI .u8 eB x X.1,aT T [.bool A,cv,aB lv,aB bk,.bool lo,sv,N,aB I]],⟨fun i w'=>∃j:Nat,i=(j:Int)∧j≤r.length∧∃Y:List Int,Y.length=X.1.length∧Fr w w' [bI .u8 eB y Y,bI .u8 eB x X.1,aT T [.bool A,cv,aB lv,aB bk,.bool lo,sv,N,aB I]],fun i _=>(r.length-i).toNat,⟨0,rfl,bW _,X.1,rfl,f5⟩,?_⟩,?_⟩
 ·rintro _ i w6 ⟨j,rfl,hj,Y,hY,f6⟩
  refine⟨fun w'=>j<r.length∧j<J.length∧Fr w w' [bI .u8 eB y Y,bI .u8 eB x X.1,aT T [.bool A,cv,aB lv,aB bk,.bool lo,sv,N,aB I]],aP (ha.ev f6.old) (aG (fun h1=>aP (ht.ev f6.old) (aG (fun h2=>⟨by omega,by omega,f6⟩) (fun _=>⟨Y,hY,f6⟩))) (fun _=>⟨Y,hY,f6⟩)),?_⟩
  rintro _ w7 ⟨h1,h2,M⟩
  have M:=M.drew
  have ai:∀{q:Nat},q<J.length→IntKind.u8.min≤rd J (q:Int)∧rd J (q:Int)≤IntKind.u8.max:=fun{q} hq=>IZ (jB ht.2 _)
  refine⟨fun _=>True,fun w'=>Ev w7.drew w',⟨trivial,Ch.refl _ _⟩,dL (ha.ev (M.old)) (by omega) (by omega) fun ad c _=>aN (fun w' hw=>Ch.cell hw c fun h=>h) (aP (M.nm 0 rfl) ?_)⟩
  rw[show gD ((Y.length:Nat):Int)=((Y.length:Nat):Int)by rw[dW];omega]
  have Z:0≤gD (rd r (j:Int)):=by rw[dW];omega
  refine kZ (by omega) (dL (ht.ev M.old) (by omega) (by omega) fun az c2 _=>aN (fun w' hw=>Ch.cell hw c2 fun h=>h) ?_)
  have ag:=Int.emod_nonneg (gD (rd r (j:Int))) (show((Y.length:Nat):Int)≠0 by omega)
  have ah:=Int.emod_lt_of_pos (gD (rd r (j:Int))) (show(0:Int)<((Y.length:Nat):Int)by omega)
  rw[N0 Z,aD (by omega) (by omega)]
  refine Q8 (j:=(gD (rd r (j:Int))%((Y.length:Nat):Int)).toNat) M 0 rfl (by omega) (by omega) (ai h2) fun w8 f8=>⟨trivial,⟨j+1,by rw[aD (by omega) (by omega)];omega,by omega,_,?_,f8⟩,by dsimp only;rw[aD (by omega) (by omega)];omega⟩
  rw[AJ];exact hY
 rintro _ w6 ⟨Y,hY,f6⟩
 refine gC (OM (f6.nm 0 rfl) (by omega)) fun w7 h7=>qS (aP ((f6.ev h7).nm 1 rfl) ?_)
 have M:=f6.ev h7
 rw[show gD ((X.1.length:Nat):Int)=((X.1.length:Nat):Int)by rw[dW];omega]
 have Z:0≤gD cut:=by rw[dW];omega
 have ag:=Int.emod_nonneg (gD cut) (show((X.1.length:Nat):Int)≠0 by omega)
 have ah:=Int.emod_lt_of_pos (gD cut) (show(0:Int)<((X.1.length:Nat):Int)by omega)
 refine kZ (by omega) ?_
 rw[N0 Z,aD (by omega) (by omega)]
 obtain⟨q,hq⟩:∃q:Nat,gD cut%((X.1.length:Nat):Int)=(q:Int):=⟨(gD cut%((X.1.length:Nat):Int)).toNat,by omega⟩
 rw[hq]
 refine dJ (M.nm 1 rfl) 0 q (.inl ⟨rfl,rfl⟩) (.inr ⟨_,rfl⟩) (bW _) (by omega) fun hs=>gC (OM hs (by rw[eJ,cQ];omega)) fun w8 h8=>⟨rfl,(M.ev h8).old⟩
end
end
end Go.Proofs.YtabchipjjghhnaaGreatDoorV
