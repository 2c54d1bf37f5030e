import Derived.Test.YtabchipjjghhnaaGreatDoorVPart16
set_option linter.unusedVariables false
set_option linter.unusedSimpArgs false
namespace Go.Proofs.YtabchipjjghhnaaGreatDoorV
open Go Go.RowKit
section
theorem qqr:jV [(sB [97],[98])]=([(sB [97],[98])],0):=by decide +kernel
theorem qi1:(AC false [] 0 16 false ((0:Nat):Int) ((0:Nat):Int) 0 [(sB [97],[98])]).2=0∧0<(AC false [] 0 16 false ((0:Nat):Int) ((0:Nat):Int) 0 [(sB [97],[98])]).1.length:=by
 have j:K3 false [] 0 16 false ((0:Nat):Int) ((0:Nat):Int) 0=true:=by decide
 unfold AC R4
 rw[if_neg (show ¬K3 false [] 0 16 false ((0:Nat):Int) ((0:Nat):Int) 0=false by rw[j];decide),qqr,if_neg (by simp)]
 exact⟨rfl,by unfold qdG;simp⟩
def d7(l:List En):Int:=if 100≤l.length then 1073741824 else gJ l+xB l
theorem qgN{l:List En}(h:d7 l≤1200):qkr l=true∧l.length<100∧gJ l+xB l≤1200:=by
 unfold d7 at h
 split at h
 ·omega
 ·unfold qkr
  rw[decide_eq_true (show l.length<200 by omega),decide_eq_true (show gJ l+xB l<50000 by omega)]
  exact⟨rfl,by omega,h⟩
theorem qhN{α:Type}(l:List α){t q:Nat}(ht:t<l.length)(hq:q<l.length):(l.drop t++l.take t).reverse[q]?=l[(l.length-1-q+t)%l.length]?:=by
 have hl:(l.drop t++l.take t).length=l.length:=by rw[bD,cQ,eJ];omega
 rw[List.getElem?_reverse (by rw[hl];exact hq),hl]
 have hi:l.length-1-q<l.length:=by omega
 generalize l.length-1-q=i at hi
 by_cases h:i<l.length-t
 ·rw[T8 (by rw[cQ];exact h),QO,zM (by omega),Nat.add_comm]
 ·rw[T9 (by rw[cQ];omega),cQ,vW,if_pos (by omega)]
  congr 1
  have:i+t=(i+t-l.length)+l.length:=by omega
  rw[this,Nat.add_mod_right,zM (by omega)];omega
section
variable {w0 w:World} {F:List It}
theorem qf2:Calls P BW #[bR,aB 16] w (fun e w'=>e=aW (aB 64)∧w'=w):=by
 have j:Sl w 2 (bR) 0 []:=⟨none,0,rfl,cJ _,rfl,fun _ h=>(by cases h),fun _=>rfl⟩
 refine qcl (cK j ⟨fun n c t w'=>n=0∧c=0∧t=0∧w'=w,fun _ _ _ _=>0,⟨rfl,rfl,rfl,rfl⟩,?_⟩)
 rintro _ n c t w1 ⟨rfl,rfl,rfl,hw⟩
 obtain rfl:w=w1:=hw.symm
 refine aG (fun h=>absurd h (by decide)) (fun _=>cK j (bX (l8 (cN (fun _=>⟨rfl,rfl⟩) (fun h=>(h rfl).elim))) ⟨?_,rfl⟩))
 exact congrArg (fun z=>Ending.returned (aB z)) (by decide +kernel)
theorem K7(C:MaxL w):Calls P bZ #[] w (fun e w'=>e=aW (.bool true)∧Ev w w'):=by
 refine CU (qqT [98] (Fr.start w) rfl rfl (fun x hx=>by rw[List.mem_singleton.1 hx];decide) fun v w1 q=>?_)
 have I:Nm .u8 w1 v [98]:=Cn.nm (q.get 0 rfl)
 refine⟨I.one,sI 2 [[.string (sB [97]),v]] q rfl rfl (fun u hu=>by rw[List.mem_singleton.1 hu];rfl) (fun ad w2 j=>?_) (by decide) (by kernel_rfl) (by decide +kernel)⟩
 have j:Fr w w2 [aT ad [.string (sB [97]),v],cIt eB v [98]]:=j
 have A:Es w2 (.slice (some ad) 1 1) [(sB [97],v,[98])]:=⟨by have:=Sl.of_st2 (j.get 0 rfl);exact this,fun u hu=>by rw[List.mem_singleton.1 hu];exact Cn.nm (j.get 1 rfl)⟩
 refine aO (DS (auto:=false) (locked:=false) (level:=0) (block:=16) (rounds:=0) A ⟨by simp,fun u hu=>by rw[List.mem_singleton.1 hu];exact⟨(by decide:(1:Nat)≤1000000000000),(by decide:(1:Nat)≤1000000000000)⟩⟩ (Nm.nil .i64 w2) (Nm.nil .u8 w2) (Nm.nil .u8 w2) (by simp) (C.ev j.old)) ?_
 rintro _ w3 ⟨x,rfl,h3,r⟩
 have e1:([(sB [97],v,[98])]:List E3).map er=[(sB [97],[98])]:=rfl
 rw[e1]at r⊢
 refine⟨_,_,rfl,cN (fun _=>aP r.nm (aG (fun _=>bX qf2 ⟨rfl,j.old.trans h3⟩) (fun h=>absurd (show _>(0:Int)from Int.natCast_pos.2 qi1.2) h))) (fun h=>(h qi1.1).elim)⟩
set_option maxRecDepth 20000 in
theorem qav{v:Value}{us:List E3}(hv:Es w v us)(hb:Big us)(hl:us.length≤140737488355328):Calls P pD #[v] w (fun e w'=>e=aW (aB (d7 (us.map er)))∧Ev w w'):=by
 have Y:=qjo
 refine ID ⟨fun n i w'=>∃j:Nat,i=(j:Int)∧j≤us.length∧j≤100∧n=gJ ((us.take j).map er)+xB ((us.take j).map er)∧0≤n∧n≤300000000000000*j∧Ev w w',fun _ i _=>(us.length-i).toNat,⟨0,rfl,bW _,by omega,rfl,by decide,by decide,Ch.refl _ w⟩,?_⟩
 rintro _ n i w1 ⟨j,rfl,hj,T,hn,V,X,he⟩
 have hv1:=hv.ev he
 have out:(j=us.length∨j=100)→bC P aJ v fun(M:Nat)=>aQ (decide ((M:Int)≥100)) (Ending.returned (aB 1073741824)=aW (aB (d7 (us.map er)))∧Ev w w1) (Ending.returned (aB n)=aW (aB (d7 (us.map er)))∧Ev w w1):=fun U=>by
  refine cK hv1.1 (aG (fun I=>⟨?_,he⟩) (fun cR=>⟨?_,he⟩))
  ·unfold d7;rw[fE,if_pos (by omega)]
  ·have J:j=us.length:=by omega
   rw[J,qU]at hn
   unfold d7;rw[fE,if_neg (by omega),←hn]
 refine⟨fun w'=>w'=w1∧j<us.length∧j<100,?_,?_⟩
 ·exact cK hv1.1 (aG (fun cR=>aG (fun A=>⟨rfl,by omega,by omega⟩) (fun N=>out (.inr (by omega)))) (fun I=>out (.inl (by omega))))
 ·rintro _ w2 ⟨rfl,q,A⟩
  have hu:us[j]?=some us[j]:=fR q
  have r:us[j]∈us:=kH q
  have C:us.take (j+1)=us.take j++[us[j]]:=iV q
  generalize us[j]=u at hu r C
  have O:=hb u r
  have hs:gJ ((us.take (j+1)).map er)+xB ((us.take (j+1)).map er)=n+(u.2.2.length:Int)+(u.1.size:Int):=by
   rw[C,gQ,DE,YN,hn];simp [gJ,xB,er];omega
  refine xP hv1 rfl hu fun ad h0 h1=>dE (fun w' hw=>Ch.cell (MQ hw) h1 fun h=>h) (aP (hv1.2 u r) (xP hv1 rfl hu fun ad h0 h1=>kB (fun w' hw=>Ch.cell (MQ hw) h0 fun h=>h) ?_))
  rw[aD (n:=n+(u.2.2.length:Int)) (by omega) (by omega),aD (n:=n+(u.2.2.length:Int)+(u.1.size:Int)) (by omega) (by omega)]
  exact⟨⟨j+1,by rw[aD (by omega) (by omega)];omega,by omega,by omega,hs.symm,by omega,by omega,he.drew⟩,by dsimp only;rw[aD (by omega) (by omega)];omega⟩
theorem yR{w0:World}(h:Ev w0 w)(j:MaxL w):aE P bZ kG #[] w fun t q=>Holds w0 (aW (.bool t)) q:=gC (K7 j) fun _ h2=>⟨rfl,h.trans h2⟩
set_option maxHeartbeats 800000 in
theorem BoxSame_law{v:Value}{c:Array Value}{t:Int}(aj:I7 P w aJ [v])(af:I7 P w cB c.toList)(ht:IntKind.i64.min≤t∧t≤IntKind.i64.max)(J:MaxL w):Calls P xG #[v,.agg c,aB t] w (Holds w):=by
 obtain⟨us,hv,hb,hl⟩:=qmJ aj
 obtain⟨I,cv,lv,bk,lo,sv,ov,M,ts,ss,ns,hc,nc,aa,Z⟩:=qaH af
 obtain rfl:c= #[.bool I,cv,aB lv,aB bk,.bool lo,sv,ov,aB M]:=by
  have:=congrArg List.toArray hc
  simpa using this
 refine Y4 (mL (Fr.start w) fun o4 w1 r=>?_)
 have r:Fr w w1 [aT o4 [.bool I,cv,aB lv,aB bk,.bool lo,sv,ov,aB M]]:=r
 refine⟨fun w'=>Fr w w' [aT o4 [.bool I,cv,aB lv,aB bk,.bool lo,sv,ov,aB M]]∧qkr (us.map er)=true∧us≠[]∧ts.length≤60,?_,?_⟩
 ·refine dY r 0 1 rfl rfl (aP (nc.ev r.old) (cC (fun ac=>bQ (qav (hv.ev r.old) hb hl) fun w2 h2=>cC (fun hf=>cK (hv.ev (r.ev h2).old).1 (cN (fun _=>yR (r.ev h2).old (J.ev (r.ev h2).old)) (fun C=>⟨r.ev h2,(qgN (by omega)).1,fun e=>C (by rw[e];rfl),by omega⟩))) (fun _=>yR (r.ev h2).old (J.ev (r.ev h2).old))) (fun _=>yR r.old (J.ev r.old))))
 rintro _ w2 ⟨f2,hf,C,ac⟩
 obtain⟨q1,q2,q3,q4⟩:=qax hf
 have hs:=qaw hf
 have hp:0<us.length:=List.length_pos_iff.2 C
 have hv2:=hv.ev f2.old
 have h2:gD ((us.length:Nat):Int)=((us.length:Nat):Int):=by rw[dW];omega
 have h1:0≤gD t∧gD t<18446744073709551616:=by rw[dW];omega
 obtain⟨q,ai⟩:∃q:Nat,Int.tmod (gD t) (gD ((us.length:Nat):Int))=(q:Int)∧q<us.length:=by
  rw[h2,N0 h1.1]
  have a1:=Int.emod_lt_of_pos (gD t) (show(0:Int)<((us.length:Nat):Int)by omega)
  have a2:=Int.emod_nonneg (gD t) (show((us.length:Nat):Int)≠0 by omega)
  exact⟨(gD t%((us.length:Nat):Int)).toNat,by omega,by omega⟩
 obtain⟨V,X⟩:=ai
 obtain⟨j,T⟩:∃j:List E3,j=(us.drop q++us.take q).reverse:=⟨_,rfl⟩
 have A:j.Perm us:=by
  rw[T]
  refine(List.reverse_perm _).trans ?_
  have h:=DM (l₁:=us.drop q) (l₂:=us.take q)
  rw[MA]at h;exact h
 have ax:j.length=us.length:=A.length_eq
 refine cK hv2.1 (kZ (by rw[h2];omega) (cK hv2.1 ⟨fun m i w'=>∃k:Nat,i=(us.length:Int)-1-(k:Int)∧k≤us.length∧Fr w w' [lK eE 2 m (j.take k).length (gA (j.take k)),aT o4 [.bool I,cv,aB lv,aB bk,.bool lo,sv,ov,aB M]],fun _ i _=>(i+1).toNat,⟨0,by rw[aD (by omega) (by omega)];omega,bW _,f2.nilR eE 2⟩,?_⟩))
 rintro _ m i w3 ⟨k,rfl,hk,f3⟩
 have hv3:=hv.ev f3.old
 rw[V]
 refine aG (fun aw=>?_) (fun cR=>?_)
 ·have O:k<us.length:=by omega
  refine cK hv3.1 (kZ (by omega) ?_)
  rw[aD (n:=(q:Int)) (by omega) (by omega),aD (n:=(us.length:Int)-1-(k:Int)+q) (by omega) (by omega)]
  have N:((us.length:Int)-1-(k:Int)+q).tmod ((us.length:Nat):Int)=(((us.length-1-k+q)%us.length:Nat):Int):=by
   rw[N0 (by omega),show(us.length:Int)-1-(k:Int)+q=((us.length-1-k+q:Nat):Int)by omega,QM]
  rw[N]
  have ak:j[k]?=us[(us.length-1-k+q)%us.length]?:=by rw[T];exact qhN us X O
  have hx:=fR (show k<j.length by omega)
  have U:j.take (k+1)=j.take k++[j[k]]:=iV (show k<j.length by omega)
  generalize j[k]=x at hx U
  have Y:us[(us.length-1-k+q)%us.length]?=some x:=by rw[←ak];exact hx
  have al:x∈us:=tM Y
  refine xP hv3 rfl Y fun ad h0 h1=>JU h0 h1 (sI 2 [[.string x.1,x.2.1]] f3 rfl rfl (fun v hv=>by simp at hv;subst hv;rfl) (fun av w4 f4=>?_) (by decide) (by kernel_rfl) (by decide +kernel))
  have ap:(j.take k).length=k:=by rw[eJ];omega
  refine BI 40 (m:=1) f4 1 rfl (Sl.of_st2 (f4.get 0 rfl)) (fun y hy=>by simp at hy;rcases hy with rfl|rfl;rfl;exact hv.oc x al) (by omega) (by unfold maxLen;omega) (fun v' w5 f5=>?_) (by kernel_rfl)
  refine⟨⟨k+1,by rw[aD (by omega) (by omega)];omega,by omega,?_⟩,by dsimp only;rw[aD (by omega) (by omega)];omega⟩
  rw[U,E9,bD]
  exact f5.picksN 3 [1,2] (by decide) (by decide)
 have ag:j.take k=j:=gI (by omega)
 rw[ag]at f3
 have ae:Es w3 m j:=⟨f3.row 0 rfl,fun u hu=>(hv.2 u (A.mem_iff.1 hu)).ev f3.old⟩
 have ah:Small j:=hs.perm A
 clear cR hk
 refine gE f3 1 rfl (aO (DS hv3 hs (nc.ev f3.old) (aa.ev f3.old) (Z.ev f3.old) (by omega) (J.ev f3.old)) ?_)
 rintro _ w4 ⟨x,rfl,h4,ox⟩
 have f4:=f3.ev h4
 refine⟨_,_,rfl,gE f4 1 rfl (aO (DS (ae.ev h4) ah (nc.ev f4.old) (aa.ev f4.old) (Z.ev f4.old) (by omega) (J.ev f4.old)) ?_)⟩
 rintro _ w5 ⟨y,rfl,h5,oy⟩
 have e:AC I ts lv bk lo ss.length ns.length M (j.map er)=AC I ts lv bk lo ss.length ns.length M (us.map er):=qha (A.map er)
 rw[e]at oy⊢
 have f5:=f4.ev h5
 refine⟨_,_,rfl,gC (K7 (J.ev f5.old)) fun w6 h6=>qS (cN (fun _=>hZ (qad (ox.nm.ev (h5.trans h6)) (oy.nm.ev h6)) ⟨?_,f5.old.trans h6⟩) (fun h=>(h rfl).elim))⟩
 rw[decide_eq_true rfl]
end
end
def bkS(xs:List Int)(lv z:Int)(s:Nat×Int):(Int×List Int)×(Nat×Int):=
 if(jT xs 1 s).1=0 then(((eV xs (jT xs 1 s).2.1 (jT xs 1 s).2.2 z).2.2,(eV xs (jT xs 1 s).2.1 (jT xs 1 s).2.2 z).1),(eV xs (jT xs 1 s).2.1 (jT xs 1 s).2.2 z).2)
 else if(jT xs 1 s).1=1 then
  (if(jC (fZ xs (jT xs 1 s).2.1 (jT xs 1 s).2.2 z).1 z lv).2≠0 then((4,[]),(fZ xs (jT xs 1 s).2.1 (jT xs 1 s).2.2 z).2)
  else(((fZ xs (jT xs 1 s).2.1 (jT xs 1 s).2.2 z).2.2,(jC (fZ xs (jT xs 1 s).2.1 (jT xs 1 s).2.2 z).1 z lv).1),(fZ xs (jT xs 1 s).2.1 (jT xs 1 s).2.2 z).2))
 else((4,[]),(jT xs 1 s).2)
def bkZ(bk:Int)(n:Nat)(out:List Int):Int:=if(n:Int)-out.length<bk then(n:Int)-out.length else bk
def BA(xs:List Int)(lv bk:Int)(n:Nat):Nat→List Int→(Nat×Int)→Int×List Int×(Nat×Int)
 |0,out,s=>(0,out,s)
 |f+1,out,s=>if out.length<n then(if(bkS xs lv (bkZ bk n out) s).1.1≠0 then((bkS xs lv (bkZ bk n out) s).1.1,[],(bkS xs lv (bkZ bk n out) s).2)else BA xs lv bk n f (out++(bkS xs lv (bkZ bk n out) s).1.2) (bkS xs lv (bkZ bk n out) s).2)else(0,out,s)
def D5(ps:List ItP):Int:=(ps.map (·.packed)).sum
def QB(ps:List ItP):Int:=(ps.map (·.size)).sum
def nG(xs:List Int)(o:OpB)(ps:List ItP)(s:Nat×Int):List Int×Int:=
 if(BA xs o.level o.block (D5 ps).toNat (D5 ps).toNat [] s).1≠0 then([],(BA xs o.level o.block (D5 ps).toNat (D5 ps).toNat [] s).1)
 else((BA xs o.level o.block (D5 ps).toNat (D5 ps).toNat [] s).2.1,I8 xs.length (BA xs o.level o.block (D5 ps).toNat (D5 ps).toNat [] s).2.2.1 (BA xs o.level o.block (D5 ps).toNat (D5 ps).toNat [] s).2.2.2)
noncomputable def gF(p:ItP)(b:List Int):List Int×Int:=
 if(rS b p.size p.chain).2≠0 then([],(rS b p.size p.chain).2)else if((rS b p.size p.chain).1.length:Int)≠p.size then([],4)else if xM (rS b p.size p.chain).1≠p.sum then([],9)else((rS b p.size p.chain).1,0)
noncomputable def enA:List ItP→List Int→List En→Int×List En
 |[],_,j=>(0,j)
 |p::ps,b,j=>if(gF p (b.take p.packed.toNat)).2≠0 then((gF p (b.take p.packed.toNat)).2,[])else enA ps (b.drop p.packed.toNat) (j++[(p.name,(gF p (b.take p.packed.toNat)).1)])
def WA(n:Int):Int:=if 0>n then 0 else n
noncomputable def Q3(xs:List Int)(most:Int):List En×Int:=
 if(aZ xs).1≠0 then([],(aZ xs).1)else if QB (aZ xs).2.items>WA most then([],5)
 else if(nG xs (aZ xs).2.o (aZ xs).2.items (aZ xs).2.st).2≠0 then([],(nG xs (aZ xs).2.o (aZ xs).2.items (aZ xs).2.st).2)
 else((enA (aZ xs).2.items (nG xs (aZ xs).2.o (aZ xs).2.items (aZ xs).2.st).1 []).2,(enA (aZ xs).2.items (nG xs (aZ xs).2.o (aZ xs).2.items (aZ xs).2.st).1 []).1)
def NG:En:=(⟨#[]⟩,[])
noncomputable def onA(xs:List Int)(name:ByteArray)(most:Int):List ItP→Int→En×Int
 |[],_=>(NG,8)
 |p::ps,a=>if p.name≠name then onA xs name most ps (a+p.packed)else if p.size>WA most then(NG,5)
  else if(nG xs (aZ xs).2.o (aZ xs).2.items (aZ xs).2.st).2≠0 then(NG,(nG xs (aZ xs).2.o (aZ xs).2.items (aZ xs).2.st).2)
  else if(gF p (((nG xs (aZ xs).2.o (aZ xs).2.items (aZ xs).2.st).1.drop a.toNat).take p.packed.toNat)).2≠0 then(NG,(gF p (((nG xs (aZ xs).2.o (aZ xs).2.items (aZ xs).2.st).1.drop a.toNat).take p.packed.toNat)).2)
  else((p.name,(gF p (((nG xs (aZ xs).2.o (aZ xs).2.items (aZ xs).2.st).1.drop a.toNat).take p.packed.toNat)).1),0)
noncomputable def yS(xs:List Int)(name:ByteArray)(most:Int):En×Int:=
 if(aZ xs).1≠0 then(NG,(aZ xs).1)else onA xs name most (aZ xs).2.items 0
theorem LU{bs:List Int}{n lv:Int}(h:(jC bs n lv).2=0):((jC bs n lv).1.length:Int)=n∧inR .u8 (jC bs n lv).1:=by
 unfold jC at h⊢
 by_cases h1:FT lv=false∨n<0
 ·rw[if_pos h1]at h;cases h
 rw[if_neg h1]at h⊢
 by_cases h2:n>1048576
 ·rw[if_pos h2]at h;cases h
 rw[if_neg h2]at h⊢
 have q:0≤lv∧lv≤2:=by
  have j:FT lv=true:=by
   cases hc:FT lv with
   |true=>rfl
   |false=>exact absurd (.inl hc) h1
  unfold FT at j
  split at j
  ·have:=of_decide_eq_true j;omega
  ·cases j
 split at h
 ·rename_i h3
  rw[if_pos h3]
  have h4:=qoq (bs:=bs) n.toNat (un0 lv bs,[]) (qq5 q) (fun x hx=>by cases hx)
  refine⟨?_,h4.2⟩
  show((qc9 lv bs n.toNat).length:Int)=n
  unfold qc9
  rw[h4.1,ME];omega
 ·cases h
theorem qo0{xs:List Int}{lv z:Int}{s:Nat×Int}(hz:0≤z)(hx:inR .u8 xs)(h:(bkS xs lv z s).1.1=0):((bkS xs lv z s).1.2.length:Int)=z∧inR .u8 (bkS xs lv z s).1.2:=by
 unfold bkS at h⊢
 split at h
 ·rename_i h0
  rw[if_pos h0]
  have:=(A0 hz h).1
  exact⟨by dsimp only;omega,qqc hx⟩
 rename_i h0
 rw[if_neg h0]
 split at h
 ·rename_i h1
  rw[if_pos h1]
  split at h
  ·cases h
  ·rename_i h2
   rw[if_neg h2]
   exact LU (by simpa using h2)
 ·cases h
theorem ql2{bk:Int}{n:Nat}{out:List Int}(hb:1≤bk)(h:out.length<n):1≤bkZ bk n out∧bkZ bk n out≤(n:Int)-out.length:=by unfold bkZ;split<;>omega
theorem qoX{xs:List Int}{lv bk:Int}{n:Nat}{out:List Int}{s:Nat×Int}(h:n≤out.length):∀f,BA xs lv bk n f out s=(0,out,s)
 |0=>rfl
 |f+1=>by rw[BA,if_neg (by omega)]
theorem qik{xs:List Int}{lv bk:Int}{n:Nat}(hb:1≤bk)(hx:inR .u8 xs):∀(f:Nat) (out:List Int) (s:Nat×Int),out.length≤n→n≤f+out.length→inR .u8 out→(BA xs lv bk n f out s).1=0→(BA xs lv bk n f out s).2.1.length=n∧inR .u8 (BA xs lv bk n f out s).2.1
 |0,out,s,h1,h2,q,h=>⟨by show out.length=n;omega,q⟩
 |f+1,out,s,h1,h2,q,h=>by
  rw[BA]at h⊢
  by_cases hl:out.length<n
  ·rw[if_pos hl]at h⊢
   have hz:=ql2 hb hl
   by_cases he:(bkS xs lv (bkZ bk n out) s).1.1≠0
   ·rw[if_pos he]at h;exact absurd h he
   ·rw[if_neg he]at h⊢
    have hk:=qo0 (by omega) hx (Classical.not_not.1 he)
    exact qik hb hx f _ _ (by rw[bD];omega) (by rw[bD];omega) (fun x j=>by
     rcases List.mem_append.1 j with j|j
     ·exact q x j
     ·exact hk.2 x j) h
  ·rw[if_neg hl]at h⊢
   exact⟨by show out.length=n;omega,q⟩
theorem OE:∀{ps:List ItP},(∀p∈ps,0≤p.packed)→0≤D5 ps
 |[],_=>by simp [D5]
 |p::ps,h=>by
  have:=OE (ps:=ps) fun q hq=>h q (lL _ hq)
  have h1:=h p xJ
  have e:D5 (p::ps)=p.packed+D5 ps:=by simp [D5]
  omega
theorem LB(p:ItP)(ps:List ItP):D5 (p::ps)=p.packed+D5 ps:=by simp [D5]
theorem qod(p:ItP)(ps:List ItP):QB (p::ps)=p.size+QB ps:=by simp [QB]
theorem EJ(a b:List ItP):D5 (a++b)=D5 a+D5 b:=by simp [D5]
theorem TL(a b:List ItP):QB (a++b)=QB a+QB b:=by simp [QB]
def okI(p:ItP):Prop:=(0≤p.size∧p.size≤1048576)∧(0≤p.packed∧p.packed≤1052680)∧p.chain.length≤4∧iA p.name=true∧p.name.size≤4096∧(0≤p.sum∧p.sum≤4294967295)
theorem qrW{xs:List Int}(hx:inR .u8 xs){s:Nat×Int}(h:(W5 xs s).1.2=true):okI (W5 xs s).1.1:=by
 obtain⟨r1,r2,r3⟩:=qmX hx s
 have h2:((it4 xs s).1.2&&(iA (tO (it1 xs s).1)&&(decide ((it2 xs s).1≤1048576)&&(decide ((it5 xs s).1≤grI (it2 xs s).1)&&(decide (0<(it4 xs s).1.1.length)||(it5 xs s).1==(it2 xs s).1)))))=true:=h
 simp only[mK,decide_eq_true_eq]at h2
 obtain⟨_,h3,h4,h5,_⟩:=h2
 have e1:(W5 xs s).1.1.size=(it2 xs s).1:=rfl
 have e2:(W5 xs s).1.1.packed=(it5 xs s).1:=rfl
 have e3:(W5 xs s).1.1.name=tO (it1 xs s).1:=rfl
 have j:(W5 xs s).1.1.sum=vX (IY (it3 xs s).1):=rfl
 unfold grI at h5
 refine⟨⟨r1.1,by omega⟩,⟨r2.1,by omega⟩,r3,by rw[e3];exact h3,?_,by rw[j,yP];omega⟩
 rw[e3]
 unfold iA OI at h3
 rw[mK,decide_eq_true_iff,LW]at h3
 exact h3.1
theorem qdJ{xs:List Int}(hx:inR .u8 xs):∀(k:Nat) (l:List ItP) (z:Int) (s:Nat×Int) (r:List ItP×(Nat×Int)),(∀p∈l,okI p)→l.Pairwise (fun p q=>G5 p.name q.name=true)→z=QB l→z≤1048576→rP xs k l z s=some r→(∀p∈r.1,okI p)∧r.1.Pairwise (fun p q=>G5 p.name q.name=true)∧QB r.1≤1048576∧r.1.length=l.length+k
 |0,l,z,s,r,h1,h2,h3,h4,h=>by
  rw[rP]at h
  cases h
  exact⟨h1,h2,by rw[←h3];exact h4,rfl⟩
 |k+1,l,z,s,r,h1,h2,h3,h4,h=>by
  rw[rP]at h
  split at h
  ·rename_i hc
   have hok:=qrW hx hc.1
   have A:=qdJ hx k (l++[(W5 xs s).1.1]) (z+(W5 xs s).1.1.size) (W5 xs s).2 r (fun p hp=>by
    rcases List.mem_append.1 hp with hp|hp
    ·exact h1 p hp
    ·rw[List.mem_singleton.1 hp];exact hok) (by
    refine List.pairwise_append.2 ⟨h2,List.pairwise_singleton _ _,fun p hp q hq=>?_⟩
    rw[List.mem_singleton.1 hq]
    have j:=hc.2.1
    unfold qhB at j
    rcases List.eq_nil_or_concat l with rfl|⟨m,u,rfl⟩
    ·cases hp
    ·rw[List.concat_eq_append]at hp j h2
     rw[List.getLast?_append,List.getLast?_singleton,Option.some_or]at j
     rcases List.mem_append.1 hp with hp|hp
     ·exact qno ((List.pairwise_append.1 h2).2.2 p hp u (List.mem_singleton_self u)) j
     ·rw[List.mem_singleton.1 hp];exact j) (by rw[TL,←h3];simp [QB]) hc.2.2 h
   exact⟨A.1,A.2.1,A.2.2.1,by rw[A.2.2.2,bD,N1];omega⟩
  ·cases h
theorem TE{auto:Bool}{ts:List Int}{lv bk:Int}(h:K3 auto ts lv bk false 0 0 0=true):(0≤lv∧lv≤2)∧(16≤bk∧bk≤65536)∧iL ts=true∧(auto=true→ts=[]):=by
 unfold K3 at h
 simp only[mK,Bool.not_eq_true',Bool.or_eq_false_iff,decide_eq_false_iff_not,Bool.and_eq_false_imp]at h
 obtain⟨h1,⟨h2,h3⟩,_⟩:=h
 refine⟨by omega,by omega,by simpa using h2,fun ha=>?_⟩
 have:=h3 ha
 cases ts with
 |nil=>rfl
 |cons t ts=>simp at this
theorem KZ{xs:List Int}(hx:inR .u8 xs)(h:(aZ xs).1=0):(∀p∈(aZ xs).2.items,okI p)∧(aZ xs).2.items.Pairwise (fun p q=>G5 p.name q.name=true)∧QB (aZ xs).2.items≤1048576∧(aZ xs).2.items.length≤4096∧K3 (aZ xs).2.o.auto (aZ xs).2.o.chain (aZ xs).2.o.level (aZ xs).2.o.block false 0 0 0=true∧(aZ xs).2.st.2=0:=by
 unfold aZ at h⊢
 by_cases u:(xo2 xs).2.2≠0
 ·rw[if_pos u]at h;exact absurd h u
 rw[if_neg u]at h⊢
 by_cases A:(ES xs).1≠qkN
 ·rw[if_pos A]at h;cases h
 rw[if_neg A]at h⊢
 by_cases c3:xM (xs.drop 8)≠vX (IY (xo2 xs).1)
 ·rw[if_pos c3]at h;cases h
 rw[if_neg c3]at h⊢
 by_cases c4:(xo3 xs).1.2=false
 ·rw[if_pos c4]at h;cases h
 rw[if_neg c4]at h⊢
 by_cases c5:(xo4 xs).1>4096
 ·rw[if_pos c5]at h;cases h
 rw[if_neg c5]at h⊢
 cases hb:rP xs (xo4 xs).1.toNat [] 0 (xo4 xs).2 with
 |none=>rw[hb]at h;cases h
 |some r=>
  rw[hb]at h
  dsimp only at h⊢
  by_cases j:r.2.2≠0
  ·rw[if_pos j]at h;exact absurd h j
  rw[if_neg j]
  have hi:=qdJ hx _ [] 0 _ r (fun p hp=>by cases hp) List.Pairwise.nil rfl (by decide) hb
  refine⟨hi.1,hi.2.1,hi.2.2.1,by rw[hi.2.2.2,ME];omega,?_,Classical.not_not.1 j⟩
  have h2:((tgS xs (FS xs (xo2 xs).2).2).1.2&&(decide ((FS xs (xo2 xs).2).1≤1)&&K3 (xo3 xs).1.1.auto (xo3 xs).1.1.chain (xo3 xs).1.1.level (xo3 xs).1.1.block false 0 0 0))=true:=by
   have:(xo3 xs).1.2=true:=by
    cases hc:(xo3 xs).1.2 with
    |true=>rfl
    |false=>exact absurd hc c4
   exact this
  simp only[mK]at h2
  exact h2.2.2
theorem JE{xs:List Int}{o:OpB}{ps:List ItP}{s:Nat×Int}(hx:inR .u8 xs)(hp:∀p∈ps,0≤p.packed)(hb:1≤o.block)(h:(nG xs o ps s).2=0):((nG xs o ps s).1.length:Int)=D5 ps:=by
 have hn:=OE hp
 unfold nG at h⊢
 by_cases he:(BA xs o.level o.block (D5 ps).toNat (D5 ps).toNat [] s).1≠0
 ·rw[if_pos he]at h;exact absurd h he
 ·rw[if_neg he]
  have:=(qik (lv:=o.level) (n:=(D5 ps).toNat) hb hx (D5 ps).toNat [] s (bW _) (by simp) (fun x hx=>by cases hx) (Classical.not_not.1 he)).1
  dsimp only
  rw[this];omega
theorem OB{xs:List Int}(h:(aZ xs).1≠0):(aZ xs).2=x9:=by
 unfold aZ at h⊢
 repeat' split
 all_goals first
  |rfl
  |(exfalso;simp_all)
section
def vln:Value→Nat
 |.slice _ n _=>n
 |_=>0
theorem qh8{k:IntKind}{w:World}{v:Value}{xs:List Int}(h:Nm k w v xs):vln v=xs.length:=by obtain⟨a,c,rfl,_⟩:=h.shape;rfl
section
variable {w0 w:World} {F:List It} {xs:List Int} {ra pa:Addr} {y:Value} {s:Nat×Int}
theorem qiD{t:TypeId}{v:ByteArray}{ad:Addr}{cs:List Value}{K:ByteArray→Prop}(h:Fr w0 w F)(i j:Nat)(hi:F[i]?=some (aT ad cs))(hj:cs[j]?=some (.string v))(hk:K v)(ht:flat P t=true:=by kernel_rfl):aF P t P9 (aH (ad.add j)) w K:=yF (h.cell i j hi hj) hk ht
theorem qd2{G:List It}{i:Int}{J:IntKind}{v:Value}{us:List ItV}{j:Nat}{u:ItV}{K:Addr→World→Prop}(f:Fr w0 w G)(A:Is w v us)(r:i=(j:Int))(hu:us[j]?=some u)(hk:∀ad w',Fr w0 w' (aT ad (c5 u)::G)→K ad w'):
  aX P bB v (.int J i) fun t=>aF P bO (.part (.agg [.str,.int .i64,.int .u32,.val,.int .i64])) (aH t) w fun(a:ByteArray) (b:Int) (c:Int) (d:Value) (e:Int)=>cD P bO w fun z w1=>aL P bO (aH z) (.agg #[.string a,aB b,.int .u32 c,d,aB e]) w1 fun w2=>K z w2:=by
 have q:=(A.2 u (tM hu)).oc
 refine qbZ A r hu fun M hcell=>lR (c5 u) hcell ?_ rfl (by kernel_rfl)
 refine dX (z:=.agg #[.string ⟨#[]⟩,aB 0,.int .u32 0,bR,aB 0]) f (by kernel_rfl) fun z w1 C=>cS C 0 rfl (fun w2 I=>hk z w2 I) rfl (fun x hx=>?_)
 simp at hx;rcases hx with rfl|rfl|rfl|rfl|rfl
 ·rfl
 ·rfl
 ·rfl
 ·exact q
 ·rfl
theorem H0{o:OpB}{cv iv:Value}{vs:List ItV}{G:List It}(f:Fr w0 w (fK ra y xs s::aT pa (kN ra o cv iv)::(C7 iv vs++G))):Is w iv vs:=qca (Fr.left (f.dropN 2))
theorem XR{vs:List ItV}(hok:∀p∈vs.map ItV.p,okI p):∀j,j≤vs.length→0≤D5 ((vs.take j).map ItV.p)∧D5 ((vs.take j).map ItV.p)≤1052680*(j:Int)
 |0,_=>by simp [D5]
 |j+1,h=>by
  have q:=XR hok j (by omega)
  have hm:=hok (vs[j]).p (List.mem_map.2 ⟨_,kH (show j<vs.length by omega),rfl⟩)
  rw[iV (show j<vs.length by omega),gQ,EJ]
  have e:D5 ([vs[j]].map ItV.p)=(vs[j]).p.packed:=by simp [D5]
  have:=hm.2.1
  rw[e];omega
theorem qoe{vs:List ItV}(hok:∀p∈vs.map ItV.p,okI p):∀j,j≤vs.length→0≤QB ((vs.take j).map ItV.p)∧QB ((vs.take j).map ItV.p)≤1048576*(j:Int)
 |0,_=>by simp [QB]
 |j+1,h=>by
  have q:=qoe hok j (by omega)
  have hm:=hok (vs[j]).p (List.mem_map.2 ⟨_,kH (show j<vs.length by omega),rfl⟩)
  rw[iV (show j<vs.length by omega),gQ,TL]
  have e:QB ([vs[j]].map ItV.p)=(vs[j]).p.size:=by simp [QB]
  have:=hm.1
  rw[e];omega
theorem Z3{vs:List ItV}{j:Nat}{u:ItV}(hu:vs[j]?=some u):vs.take (j+1)=vs.take j++[u]:=by
 obtain⟨h1,h2⟩:=List.getElem?_eq_some_iff.1 hu
 rw[iV h1,h2]
theorem TG(u:ItV):D5 ([u].map ItV.p)=u.p.packed:=by simp [D5]
theorem qjt(u:ItV):QB ([u].map ItV.p)=u.p.size:=by simp [QB]
set_option maxHeartbeats 1600000 in
theorem UE{o:OpB}{cv iv:Value}{vs:List ItV}(f:Fr w0 w (opF ra y xs s pa o cv iv vs F))(hok:∀p∈vs.map ItV.p,okI p)(aq:vs.length≤4096)(am:0≤o.level∧o.level≤2)(al:16≤o.block∧o.block≤65536)(hl:xs.length≤1000000000):
  Calls P qM #[aH pa] w (fun e w'=>∃v s',e=bP #[v,aB (nG xs o (vs.map ItV.p) s).2]∧Fr w0 w' (bI .u8 eB v (nG xs o (vs.map ItV.p) s).1::opF ra y xs s' pa o cv iv vs F)):=by
 have f:Fr w0 w (fK ra y xs s::aT pa (kN ra o cv iv)::(C7 iv vs++(bI .i64 eN cv o.chain::F))):=f
 have hx:=XV f
 refine KN (aC (dY f 1 9 rfl rfl (cK (H0 f).1 ⟨fun n t w'=>∃j:Nat,t=(j:Int)∧j≤vs.length∧n=D5 ((vs.take j).map ItV.p)∧Fr w0 w' (fK ra y xs s::aT pa (kN ra o cv iv)::(C7 iv vs++(bI .i64 eN cv o.chain::F))),fun _ t _=>(vs.length-t).toNat,⟨0,rfl,bW _,rfl,f⟩,?_⟩)))
 rintro _ n t w1 ⟨j,rfl,hj,rfl,V⟩
 refine aG (fun cR=>?_) (fun Z=>?_)
 ·have X:j<vs.length:=by omega
  have hu:=fR X
  generalize vs[j]=u at hu
  have hb:=XR hok (j+1) (by omega)
  rw[Z3 hu,gQ,EJ,TG]at hb
  refine qd2 V (H0 V) rfl hu fun ad w2 J=>cI J 0 4 rfl rfl ⟨⟨j+1,by rw[aD (by omega) (by omega)];omega,by omega,?_,J.drop 0⟩,by dsimp only;rw[aD (by omega) (by omega)];omega⟩
  rw[Z3 hu,gQ,EJ,TG,aD (by omega) (by omega)]
 obtain rfl:j=vs.length:=by omega
 have hb:=XR hok vs.length (cJ _)
 rw[qU]at hb⊢
 obtain⟨N,hN⟩:∃N:Nat,D5 (vs.map ItV.p)=(N:Int):=⟨(D5 (vs.map ItV.p)).toNat,by omega⟩
 have eA:nG xs o (vs.map ItV.p) s=if(BA xs o.level o.block N N [] s).1≠0 then([],(BA xs o.level o.block N N [] s).1)else((BA xs o.level o.block N N [] s).2.1,I8 xs.length (BA xs o.level o.block N N [] s).2.2.1 (BA xs o.level o.block N N [] s).2.2.2):=by unfold nG;rw[hN,dH]
 rw[eA]
 rw[hN]at hb⊢
 obtain⟨R,Y⟩:∃R,R=C7 iv vs++(bI .i64 eN cv o.chain::F):=⟨_,rfl⟩
 have T:∀s',opF ra y xs s' pa o cv iv vs F=fK ra y xs s'::aT pa (kN ra o cv iv)::R:=fun s'=>by rw[Y];rfl
 simp only[T]
 rw[←Y]at V
 clear eA Y T f
 have V:Fr w0 w1 (fK ra y xs s::aT pa (kN ra o cv iv)::bI .u8 eB (bR) []::R):=(V.nil0 .u8 eB).picksN 3 [1,2,0] (by decide) (by decide)
 have I:∀{w':World} {k:Int} {s':Nat×Int} {v:Value} {out:List Int},(BA xs o.level o.block N N [] s).1=k→k≠0→Fr w0 w' (fK ra y xs s'::aT pa (kN ra o cv iv)::bI .u8 eB v out::R)→∃v s',Ending.returned (.tuple #[bR,aB k])=bP #[v,aB (if(BA xs o.level o.block N N [] s).1≠0 then(([]:List Int),(BA xs o.level o.block N N [] s).1)else((BA xs o.level o.block N N [] s).2.1,I8 xs.length (BA xs o.level o.block N N [] s).2.2.1 (BA xs o.level o.block N N [] s).2.2.2)).2]∧Fr w0 w' (bI .u8 eB v (if(BA xs o.level o.block N N [] s).1≠0 then(([]:List Int),(BA xs o.level o.block N N [] s).1)else((BA xs o.level o.block N N [] s).2.1,I8 xs.length (BA xs o.level o.block N N [] s).2.2.1 (BA xs o.level o.block N N [] s).2.2.2)).1::fK ra y xs s'::aT pa (kN ra o cv iv)::R):=by
  intro w' k s' v out h1 h2 h3
  refine⟨bR,s',?_,?_⟩
  ·rw[if_pos (by rw[h1];exact h2),h1]
  ·rw[if_pos (by rw[h1];exact h2)]
   exact(h3.nil0 .u8 eB).picksN 4 [0,1,2] (by decide) (by decide)
 refine⟨fun v w'=>∃(out:List Int) (s':Nat×Int) (g:Nat),out.length≤N∧N≤g+out.length∧BA xs o.level o.block N g out s'=BA xs o.level o.block N N [] s∧Fr w0 w' (fK ra y xs s'::aT pa (kN ra o cv iv)::bI .u8 eB v out::R),fun v _=>N-vln v,⟨[],s,N,bW _,by simp,rfl,V⟩,?_⟩
 rintro _ v w2 ⟨out,s',g,h1,h2,A,J⟩
 have U:=qh8 (J.nm 2 rfl)
 refine aP (J.nm 2 rfl) (aG (fun cR=>aC ?_) (fun Z=>aC ?_))
 rotate_left
 ·rw[qoX (by omega)]at A
  rw[Addr.add2',Addr.add_zero']
  refine lI J 1 0 rfl rfl (bQ (qe3 (M1 J 0 rfl)) fun w3 h3=>⟨v,s',?_,?_⟩)
  ·rw[←A,if_neg (by simp)]
  ·rw[←A,if_neg (by simp)]
   exact(J.ev h3).picksN 3 [2,0,1] (by decide) (by decide)
 have hz:=ql2 (bk:=o.block) (n:=N) (out:=out) (by omega) (by omega)
 have eZ:(if i64 ((N:Int)-(out.length:Int))<o.block then i64 ((N:Int)-(out.length:Int))else o.block)=bkZ o.block N out:=by
  rw[aD (by omega) (by omega)];rfl
 have ae:bkZ o.block N out≤65536:=by unfold bkZ;split<;>omega
 obtain⟨g,rfl⟩:∃g',g=g'+1:=⟨g-1,by omega⟩
 rw[BA,if_pos (by omega)]at A
 rw[Addr.add2']
 refine cI J 1 4 rfl rfl (aP (J.nm 2 rfl) (aC ?_))
 rw[Addr.add_zero',eZ]
 generalize bkZ o.block N out=z at hz ae A
 have c1:=Z0 (xs:=xs) (m:=1) (s:=s') (by decide) hx
 refine V4 J (by decide) fun w3 f3=>?_
 refine cN (fun h0=>aC ?_) (fun h0=>cN (fun h1=>?_) (fun h1=>?_))
 ·rw[Addr.add2',Addr.add_zero']
  refine lI f3 1 0 rfl rfl (aO (T1 (M1 f3 0 rfl) (by omega)) ?_)
  intro e w4 h4
  obtain⟨rv,rfl,f4⟩:=qcJ f3 0 rfl h4
  have O:bkS xs o.level z s'=(((eV xs (jT xs 1 s').2.1 (jT xs 1 s').2.2 z).2.2,(eV xs (jT xs 1 s').2.1 (jT xs 1 s').2.2 z).1),(eV xs (jT xs 1 s').2.1 (jT xs 1 s').2.2 z).2):=by unfold bkS;rw[if_pos h0]
  rw[O]at A
  dsimp only at A
  have ao:(eV xs (jT xs 1 s').2.1 (jT xs 1 s').2.2 z).1.length≤65536:=LE (m:=65536) (by omega)
  have aa:=A0 (xs:=xs) (a:=(jT xs 1 s').2.1) (er:=(jT xs 1 s').2.2) (n:=z) (by omega)
  have f4:Fr w0 w4 (bI .u8 eB rv (eV xs (jT xs 1 s').2.1 (jT xs 1 s').2.2 z).1::fK ra y xs (eV xs (jT xs 1 s').2.1 (jT xs 1 s').2.2 z).2::aT pa (kN ra o cv iv)::bI .u8 eB v out::R):=f4
  generalize eV xs (jT xs 1 s').2.1 (jT xs 1 s').2.2 z=r at*
  refine⟨rv,rfl,vZ f4 3 rfl (f4.nm 0 rfl) (by omega) fun v5 w5 f5=>aC ?_⟩
  rw[Addr.add2',Addr.add_zero']
  have f5:Fr w0 w5 (fK ra y xs r.2::aT pa (kN ra o cv iv)::bI .u8 eB v5 (out++r.1)::R):=f5.drop 0
  refine lI f5 1 0 rfl rfl (bX (vO (M1 f5 0 rfl)) (cA (fun C=>?_) (fun M=>?_)))
  ·rw[if_pos C]at A
   exact I (by rw[←A]) C f5
  ·rw[if_neg (by rw[M];decide)]at A
   have ap:=(aa M).1
   refine⟨⟨out++r.1,r.2,g,by rw[bD];omega,by rw[bD];omega,A,f5⟩,?_⟩
   dsimp only
   rw[U,qh8 (f5.nm 2 rfl),bD];omega
 ·refine⟨fun w'=>w'.cell? (pa.add 0)=some (aH ra)∧w'.cell? (pa.add 3)=some (aB o.level),⟨f3.drew.cell 1 0 rfl rfl,f3.drew.cell 1 3 rfl rfl⟩,aC ?_⟩
  rw[Addr.add2',Addr.add_zero']
  refine mS (v:=some ra) (fun w' hw=>hw.1) (aC ?_)
  rw[Addr.add2']
  refine aN (fun w' hw=>hw.2) ?_
  have f3:=f3.drew
  refine aO (EK (M1 f3 0 rfl) (by omega)) ?_
  intro e w4 h4
  obtain⟨tv,rfl,f4⟩:=qcJ f3 0 rfl h4
  have O:bkS xs o.level z s'=if(jC (fZ xs (jT xs 1 s').2.1 (jT xs 1 s').2.2 z).1 z o.level).2≠0 then((4,[]),(fZ xs (jT xs 1 s').2.1 (jT xs 1 s').2.2 z).2)else(((fZ xs (jT xs 1 s').2.1 (jT xs 1 s').2.2 z).2.2,(jC (fZ xs (jT xs 1 s').2.1 (jT xs 1 s').2.2 z).1 z o.level).1),(fZ xs (jT xs 1 s').2.1 (jT xs 1 s').2.2 z).2):=by
   unfold bkS;rw[if_neg h0,if_pos h1]
  have f4:Fr w0 w4 (bI .u8 eB tv (fZ xs (jT xs 1 s').2.1 (jT xs 1 s').2.2 z).1::fK ra y xs (fZ xs (jT xs 1 s').2.1 (jT xs 1 s').2.2 z).2::aT pa (kN ra o cv iv)::bI .u8 eB v out::R):=f4
  have ab:(fZ xs (jT xs 1 s').2.1 (jT xs 1 s').2.2 z).1.length≤1000000000:=nJ qfB hl
  generalize fZ xs (jT xs 1 s').2.1 (jT xs 1 s').2.2 z=r at*
  refine⟨tv,rfl,⟨f4.cell 2 0 rfl rfl,f4.cell 2 3 rfl rfl⟩,qbR f4 (qfi (f4.nm 0 rfl) ab) fun bv w5 f5=>⟨⟨f5.cell 3 0 rfl rfl,f5.cell 3 3 rfl rfl⟩,?_⟩⟩
  have ac:=LU (bs:=r.1) (n:=z) (lv:=o.level)
  generalize jC r.1 z o.level=q at*
  refine cA (fun C=>?_) (fun hq=>?_)
  ·rw[if_pos C]at O
   rw[O,if_pos (show(4:Int)≠0 by decide)]at A
   exact I (by rw[←A]) (by decide) ((f5.drop 0).drop 0)
  ·rw[if_neg (by rw[hq];decide)]at O
   rw[O]at A
   dsimp only at A
   have an:=(ac hq).1
   refine vZ f5 4 rfl (f5.nm 0 rfl) (by omega) fun v6 w6 f6=>aC ?_
   rw[Addr.add2',Addr.add_zero']
   have f6:Fr w0 w6 (fK ra y xs r.2::aT pa (kN ra o cv iv)::bI .u8 eB v6 (out++q.1)::R):=(f6.drop 0).drop 0
   refine lI f6 1 0 rfl rfl (bX (vO (M1 f6 0 rfl)) (cA (fun C=>?_) (fun M=>?_)))
   ·rw[if_pos C]at A
    exact I (by rw[←A]) C f6
   ·rw[if_neg (by rw[M];decide)]at A
    refine⟨⟨out++q.1,r.2,g,by rw[bD];omega,by rw[bD];omega,A,f6⟩,?_⟩
    dsimp only
    rw[U,qh8 (f6.nm 2 rfl),bD];omega
 ·have O:bkS xs o.level z s'=((4,[]),(jT xs 1 s').2):=by unfold bkS;rw[if_neg h0,if_neg h1]
  rw[O,if_pos (show(4:Int)≠0 by decide)]at A
  exact I (by rw[←A]) (by decide) f3
def qsL(w:World)(name:ByteArray)(r:List Int×Int)(e:Ending)(w':World):Prop:=
 ∃v,e=bP #[.agg #[.string (if r.2=0 then name else⟨#[]⟩),v],aB r.2]∧Fr w w' [bI .u8 eB v r.1]
theorem MR{name:ByteArray}{size sum packed:Int}{cv b:Value}{ts bs:List Int}(hc:Nm .i64 w cv ts)(hb:Nm .u8 w b bs)(hz:0≤size∧size≤1048576)(hl:bs.length≤10000000)(J:ts.length≤1000000):
  Calls P yX #[.agg #[.string name,aB size,.int .u32 sum,cv,aB packed],b] w (qsL w name (gF ⟨name,size,sum,ts,packed⟩ bs)):=by
 have A:∀{w':World} {k:Int} {it:It} {ad:Addr} {G:List It},gF ⟨name,size,sum,ts,packed⟩ bs=([],k)→k≠0→Fr w w' (it::aT ad [.string ⟨#[]⟩,bR]::G)→qsL w name (gF ⟨name,size,sum,ts,packed⟩ bs) (bP #[.agg #[.string ⟨#[]⟩,bR],aB k]) w':=fun{w' k it ad G} h1 h2 h3=>by
  rw[h1]
  refine⟨bR,?_,Fr.nil0 (F:=[]) h3.old .u8 eB⟩
  rw[if_neg h2]
 refine qcn (mL (Fr.start w) fun M w1 N=>dX (z:=.agg #[.string ⟨#[]⟩,bR]) N (by kernel_rfl) fun t4 w2 C=>cI C 1 1 rfl rfl (dY C 1 3 rfl rfl ?_))
 refine qbR C (OU (hb.ev C.old) (hc.ev C.old) hl J (by omega)) fun d w3 f3=>?_
 have f3:Fr w w3 [bI .u8 eB d (rS bs size ts).1,aT t4 [.string ⟨#[]⟩,bR],aT M [.string name,aB size,.int .u32 sum,cv,aB packed]]:=f3
 have r:gF ⟨name,size,sum,ts,packed⟩ bs=if(rS bs size ts).2≠0 then([],(rS bs size ts).2)else if((rS bs size ts).1.length:Int)≠size then([],4)else if xM (rS bs size ts).1≠sum then([],9)else((rS bs size ts).1,0):=rfl
 generalize rS bs size ts=q at f3 r⊢
 refine cA (fun j=>?_) (fun hq=>aP (f3.nm 0 rfl) (cI f3 2 1 rfl rfl (cA (fun j=>?_) (fun I=>?_))))
 ·rw[if_pos j]at r
  exact cS f3 1 rfl (fun w4 f4=>gE f4 1 rfl (A r j f4))
 ·rw[if_neg (by rw[hq];decide),if_pos j]at r
  exact cS f3 1 rfl (fun w4 f4=>gE f4 1 rfl (A r (by decide) f4))
 ·rw[if_neg (by rw[hq];decide),if_neg (by rw[I];simp)]at r
  refine⟨fun w'=>w'.cell? (M.add 2)=some (.int .u32 sum),f3.drew.cell 2 2 rfl rfl,aN (fun w' hw=>hw) (bQ (JF (f3.drew.nm 0 rfl) (by omega)) fun w4 h4=>⟨(f3.drew.ev h4).cell 2 2 rfl rfl,cA (fun j=>?_) (fun hs=>?_)⟩)⟩
  ·rw[if_pos j]at r
   exact cS (f3.drew.ev h4) 1 rfl (fun w5 f5=>gE f5 1 rfl (A r (by decide) f5))
  ·rw[if_neg (by rw[hs];simp)]at r
   have f4:=f3.drew.ev h4
   have hn:=f4.nm 0 rfl
   refine yF (f4.cell 2 0 rfl rfl) ⟨hn.one,cS f4 1 rfl (fun w5 f5=>gE f5 1 rfl ?_) rfl (fun u hu=>?_)⟩
   ·rw[r]
    exact⟨d,rfl,f5.picks [0] (by decide)⟩
   ·simp at hu;rcases hu with rfl|rfl
    ·rfl
    ·exact hn.oc
noncomputable abbrev eIn:TypeId:=dD P dC
def c4(u:ItV):List Value:=[.string u.p.name,aB u.p.size,.int .u32 u.p.sum,u.cv]
def F0(us:List ItV):List Value:=us.flatMap c4
theorem qgz(a b:List ItV):F0 (a++b)=F0 a++F0 b:=by simp [F0]
noncomputable def lsF(v:Value)(us:List ItV):List It:=lK eIn 4 v us.length (F0 us)::us.reverse.map fun u=>bI .i64 eN u.cv u.p.chain
def LsE(w:World)(xs:List Int)(e:Ending)(w':World):Prop:=
 ∃v vs,e=bP #[v,aB (aZ xs).1]∧vs.map ItV.p=(aZ xs).2.items∧Fr w w' (lsF v vs)
theorem Sl.of_st4{ad:Addr}{u:ItV}(h:St w ad (c4 u)):Sl w 4 (.slice (some ad) 1 1) 1 (c4 u):=
 ⟨some ad,1,rfl,cJ _,rfl,fun q ha j x hj=>by injection ha with ha;subst ha;exact St.cell h hj,fun h=>by cases h⟩
theorem qcE{vs:List ItV}(hx:inR .u8 xs)(h0:(aZ xs).1=0)(hv:vs.map ItV.p=(aZ xs).2.items):(∀p∈vs.map ItV.p,okI p)∧vs.length≤4096∧(0≤(aZ xs).2.o.level∧(aZ xs).2.o.level≤2)∧(16≤(aZ xs).2.o.block∧(aZ xs).2.o.block≤65536):=by
 have h:=KZ hx h0
 have j:=TE h.2.2.2.2.1
 have hl:=congrArg List.length hv
 rw[fE]at hl
 exact⟨by rw[hv];exact h.1,by omega,j.1,j.2.1⟩
theorem qjH{b:Value}(hb:Nm .u8 w b xs)(hl:xs.length≤1000000000):Calls P HH #[b] w (LsE w xs):=by
 refine qeI (aO (CX hb hl) ?_)
 rintro e w1 (⟨C,rfl,h1⟩|⟨h0,ra,y,pa,cv,iv,vs,rfl,hv,q⟩)
 ·refine⟨_,_,rfl,cA (fun _=>⟨bR,[],rfl,by rw[OB C];rfl,Fr.nilR (F:=[]) h1 eIn 4⟩) (fun h=>absurd h C)⟩
 obtain⟨hok,T, -, -⟩:=qcE hb.2 h0 hv
 refine⟨_,_,rfl,cA (fun h=>absurd rfl h) (fun _=>aC ?_)⟩
 have q:Fr w w1 (fK ra y xs (aZ xs).2.st::aT pa (kN ra (aZ xs).2.o cv iv)::(C7 iv vs++[bI .i64 eN cv (aZ xs).2.o.chain])):=q
 refine dY q 1 9 rfl rfl (cK (H0 q).1 ⟨fun out t w'=>∃j:Nat,t=(j:Int)∧j≤vs.length∧Fr w w' (lK eIn 4 out (vs.take j).length (F0 (vs.take j))::fK ra y xs (aZ xs).2.st::aT pa (kN ra (aZ xs).2.o cv iv)::(C7 iv vs++[bI .i64 eN cv (aZ xs).2.o.chain])),fun _ t _=>(vs.length-t).toNat,⟨0,rfl,bW _,q.nilR eIn 4⟩,?_⟩)
 rintro _ out t w2 ⟨j,rfl,hj,I⟩
 have J:=H0 (I.drop 0)
 refine aG (fun cR=>?_) (fun N=>?_)
 ·have A:j<vs.length:=by omega
  have hu:=fR A
  generalize vs[j]=u at hu
  have r:=(J.2 u (tM hu))
  have O:(vs.take j).length=j:=by rw[eJ];omega
  refine qd2 I J rfl hu fun ad w3 f3=>qiD f3 0 0 rfl rfl (cI f3 0 1 rfl rfl (cI f3 0 2 rfl rfl (dY f3 0 3 rfl rfl ⟨r.one,?_⟩)))
  refine sI 4 [c4 u] f3 rfl rfl (fun v hv=>by simp at hv;subst hv;rfl) (fun M w4 f4=>?_) (by decide) (by kernel_rfl) (by decide +kernel)
  refine BI 56 (m:=1) f4 2 rfl (Sl.of_st4 (f4.get 0 rfl)) (fun z hz=>?_) (by omega) (by unfold maxLen;omega) (fun v' w5 f5=>?_) (by kernel_rfl)
  ·simp [c4]at hz;rcases hz with rfl|rfl|rfl|rfl
   ·rfl
   ·rfl
   ·rfl
   ·exact r.oc
  ·refine⟨⟨j+1,by rw[aD (by omega) (by omega)];omega,by omega,?_⟩,by dsimp only;rw[aD (by omega) (by omega)];omega⟩
   rw[Z3 hu,qgz,bD]
   exact(f5.drop 0).drop 0
 ·obtain rfl:j=vs.length:=by omega
  rw[qU]at I
  refine⟨out,vs,by rw[h0],hv,?_⟩
  have f3:=((I.drop 1).drop 1).drop 1
  exact Fr.left (G:=[bI .i64 eN cv (aZ xs).2.o.chain]) (F:=lsF out vs) f3
theorem qs5{z ad:Addr}{u:ItV}{out N d:Value}{us:List E3}{nm:ByteArray}{ds B:List Int}{R:List It}{Y:Prop}{Z:Value→Value→World→Prop}{e:Int}{q:Nat}(f:Fr w0 w (aT z [.string nm,d]::bI .u8 eB d ds::aT ad (c5 u)::(zF out us++R)))(aa:us.length≤1000000)(hB:Nm .u8 w N B)
  (hq:u.p.packed=(q:Int)) (O:q≤B.length) (h1:e≠0→Y) (hk:e=0→∀v' w',Fr w0 w' (zF v' (us++[(nm,d,ds)])++R)→Z (oV 1 N q B.length) v' w'):
  aQ (e !=0) Y (∃B1:World→Prop,B1 w.drew∧aI P aR (.part (.agg [.str,.val])) (aH z) B1 fun(C:ByteArray) (I:Value)=>aI P aK bA (aH (ad.add 4)) B1 fun(V:Int)=>cH P aA N (some (aB V)) none none fun(X:Value)=>eG P aJ 1 #[(0,.agg #[.string C,I])] w.drew fun(T:Value) r=>B1 r∧fV P #[aJ,aJ] aJ #[out,T] r fun(U:Value) A=>B1 A∧Z X U A):=by
 refine cA h1 (fun he=>?_)
 have f:=f.drew
 have hn:=f.nm 1 rfl
 refine⟨fun w'=>w'.cell? (z.add 0)=some (.string nm)∧w'.cell? (z.add 1)=some d∧w'.cell? (ad.add 4)=some (aB u.p.packed),⟨f.cell 0 0 rfl rfl,f.cell 0 1 rfl rfl,f.cell 2 4 rfl rfl⟩,mB [.string nm,d] (fun w' hw j x hj=>?_) (aN (fun w' hw=>hw.2.2) (dJ hB q B.length (.inr ⟨.i64,by rw[hq]⟩) (.inl ⟨rfl,rfl⟩) O (cJ _) fun _=>?_)) rfl (by kernel_rfl)⟩
 ·rcases j with _|_|j
  ·simp at hj;subst hj;exact hw.1
  ·simp at hj;subst hj;exact hw.2.1
  ·simp at hj
 refine sI 2 [[.string nm,d]] f rfl rfl (fun v hv=>by simp at hv;subst hv;rfl) (fun t w1 J=>⟨⟨J.cell 1 0 rfl rfl,J.cell 1 1 rfl rfl,J.cell 3 4 rfl rfl⟩,?_⟩) (by decide) (by kernel_rfl) (by decide +kernel)
 refine BI 40 (m:=1) J 4 rfl (Sl.of_st2 (J.get 0 rfl)) (fun x hx=>?_) (by omega) (by unfold maxLen;omega) (fun v' w2 M=>⟨⟨M.cell 1 0 rfl rfl,M.cell 1 1 rfl rfl,M.cell 3 4 rfl rfl⟩,hk he v' w2 ?_⟩) (by kernel_rfl)
 ·simp at hx;rcases hx with rfl|rfl
  ·rfl
  ·exact hn.oc
 ·have f3:=M.picksN 5 [4,2] (by decide) (by decide)
  have e1:zF v' (us++[(nm,d,ds)])++R=lK eE 2 v' (us.length+1) (gA us++[.string nm,d])::bI .u8 eB d ds::((us.reverse.map fun u=>bI .u8 eB u.2.1 u.2.2)++R):=by
   unfold zF;rw[E9,bD,ZJ];rfl
  rw[e1];exact f3
set_option maxHeartbeats 3200000 in
theorem qlB{b:Value}{most:Int}(hb:Nm .u8 w b xs)(hl:xs.length≤1000000000):Calls P NA #[b,aB most] w (qqK w (Q3 xs most)):=by
 refine qhn (aO (CX hb hl) ?_)
 rintro e w1 (⟨I,rfl,h1⟩|⟨h0,ra,y,pa,cv,iv,vs,rfl,hv,f1⟩)
 ·have e:Q3 xs most=([],(aZ xs).1):=by unfold Q3;rw[if_pos I]
  rw[e]
  exact⟨_,_,rfl,cA (fun _=>⟨_,[],rfl,rfl,zG h1⟩) (fun h=>absurd h I)⟩
 obtain⟨hok,ax,au,aq⟩:=qcE hb.2 h0 hv
 refine⟨_,_,rfl,cA (fun h=>absurd rfl h) (fun _=>aC ?_)⟩
 have ao:Q3 xs most=if QB (vs.map ItV.p)>WA most then([],5)else if(nG xs (aZ xs).2.o (vs.map ItV.p) (aZ xs).2.st).2≠0 then([],(nG xs (aZ xs).2.o (vs.map ItV.p) (aZ xs).2.st).2)else((enA (vs.map ItV.p) (nG xs (aZ xs).2.o (vs.map ItV.p) (aZ xs).2.st).1 []).2,(enA (vs.map ItV.p) (nG xs (aZ xs).2.o (vs.map ItV.p) (aZ xs).2.st).1 []).1):=by
  unfold Q3;rw[if_neg (by rw[h0];decide),hv]
 rw[ao]
 have hx:=hb.2
 generalize(aZ xs).2.o=o at*
 generalize(aZ xs).2.st=s at*
 have f1:Fr w w1 (fK ra y xs s::aT pa (kN ra o cv iv)::(C7 iv vs++[bI .i64 eN cv o.chain])):=f1
 refine dY f1 1 9 rfl rfl (cK (H0 f1).1 ⟨fun n t w'=>∃j:Nat,t=(j:Int)∧j≤vs.length∧n=QB ((vs.take j).map ItV.p)∧Fr w w' (fK ra y xs s::aT pa (kN ra o cv iv)::(C7 iv vs++[bI .i64 eN cv o.chain])),fun _ t _=>(vs.length-t).toNat,⟨0,rfl,bW _,rfl,f1⟩,?_⟩)
 rintro _ n t w2 ⟨j,rfl,hj,rfl,f2⟩
 refine aG (fun cR=>?_) (fun ar=>?_)
 ·have O:j<vs.length:=by omega
  have hu:=fR O
  generalize vs[j]=u at hu
  have hb:=qoe hok (j+1) (by omega)
  rw[Z3 hu,gQ,TL,qjt]at hb
  refine qd2 f2 (H0 f2) rfl hu fun ad w3 f3=>cI f3 0 1 rfl rfl ⟨⟨j+1,by rw[aD (by omega) (by omega)];omega,by omega,?_,f3.drop 0⟩,by dsimp only;rw[aD (by omega) (by omega)];omega⟩
  rw[Z3 hu,gQ,TL,qjt,aD (by omega) (by omega)]
 obtain rfl:j=vs.length:=by omega
 rw[qU]
 refine aG (fun hg=>?_) (fun hg=>?_)
 ·rw[if_pos (by exact hg)]
  exact⟨_,[],rfl,rfl,zG f2.old⟩
 rw[if_neg (by exact hg)]
 have f2:Fr w w2 (opF ra y xs s pa o cv iv vs []):=f2
 refine aO (UE f2 hok ax au aq hl) ?_
 rintro _ w3 ⟨av,s',rfl,f3⟩
 refine⟨_,_,rfl,cA (fun I=>?_) (fun ha=>aC ?_)⟩
 ·rw[if_pos I]
  exact⟨_,[],rfl,rfl,zG f3.old⟩
 rw[if_neg (by rw[ha];decide)]
 have aj:=JE (s:=s) hx (ps:=vs.map ItV.p) (o:=o) (fun p hp=>(hok p hp).2.1.1) (by omega) ha
 generalize(nG xs o (vs.map ItV.p) s).1=A at f3 aj⊢
 have f3:Fr w w3 (bI .u8 eB av A::fK ra y xs s'::aT pa (kN ra o cv iv)::(C7 iv vs++[bI .i64 eN cv o.chain])):=f3
 refine dY f3 2 9 rfl rfl (cK (H0 (f3.drop 0)).1 ⟨fun bv out t w'=>∃(j:Nat) (us:List E3) (B:List Int),t=(j:Int)∧j≤vs.length∧us.length=j∧(∀X,Nm .u8 X av A→Nm .u8 X bv B)∧(B.length:Int)=D5 ((vs.drop j).map ItV.p)∧enA ((vs.drop j).map ItV.p) B (us.map er)=enA (vs.map ItV.p) A []∧Fr w w' (zF out us++(bI .u8 eB av A::fK ra y xs s'::aT pa (kN ra o cv iv)::(C7 iv vs++[bI .i64 eN cv o.chain]))),fun _ _ t _=>(vs.length-t).toNat,⟨0,[],A,rfl,bW _,rfl,fun _ h=>h,aj,rfl,f3.nilR eE 2⟩,?_⟩)
 rintro _ bv out t w4 ⟨j,us,B,rfl,hj,al,J,ah,C,f4⟩
 have nA:∀{w':World} {G:List It},Fr w w' (G++(bI .u8 eB av A::fK ra y xs s'::aT pa (kN ra o cv iv)::(C7 iv vs++[bI .i64 eN cv o.chain])))→Nm .u8 w' av A:=fun hf=>(Fr.right hf).nm 0 rfl
 refine aG (fun cR=>?_) (fun ar=>?_)
 rotate_left
 ·obtain rfl:j=vs.length:=by omega
  rw[List.drop_length]at C
  rw[←C]
  exact⟨out,us,rfl,rfl,Fr.left f4⟩
 have O:j<vs.length:=by omega
 have hu:=fR O
 have hd:vs.drop j=vs[j]::vs.drop (j+1):=GK O
 generalize vs[j]=u at hu hd
 have ai:=H0 ((Fr.right f4).drop 0)
 have Z:u∈vs:=tM hu
 have T:=hok u.p (List.mem_map.2 ⟨u,Z,rfl⟩)
 have bf:=ai.2 u Z
 rw[hd,U0,LB]at ah
 rw[hd,U0,enA]at C
 have aw:=OE (ps:=(vs.drop (j+1)).map ItV.p) fun p hp=>(hok p (by
  obtain⟨v,hv,rfl⟩:=List.mem_map.1 hp
  exact List.mem_map.2 ⟨v,List.mem_of_mem_drop hv,rfl⟩)).2.1.1
 obtain⟨q,hq⟩:∃q:Nat,u.p.packed=(q:Int):=⟨u.p.packed.toNat,by have:=T.2.1.1;omega⟩
 rw[hq,dH]at C
 rw[hq]at ah
 have N:q≤B.length:=by omega
 have bg:q≤1052680:=by have:=T.2.1.2;omega
 obtain⟨R,hR⟩:∃R,R=bI .u8 eB av A::fK ra y xs s'::aT pa (kN ra o cv iv)::(C7 iv vs++[bI .i64 eN cv o.chain]):=⟨_,rfl⟩
 rw[←hR]at f4 nA
 refine qd2 f4 ai rfl hu fun ad w5 f5=>?_
 have f5:Fr w w5 ([aT ad (c5 u)]++(zF out us++R)):=f5
 have U:=f5.drew
 have M:∀{w':World} {G H:List It},Fr w w' (G++(aT ad (c5 u)::H))→∀z x,(c5 u)[z]?=some x→w'.cell? (ad.add z)=some x:=fun hf z x hz=>(Fr.right hf).cell 0 z rfl hz
 have nB:Nm .u8 w5.drew bv B:=J _ (nA (G:=[aT ad (c5 u)]++zF out us) (by rw[gY];exact U))
 have ae:(B.drop 0).take (q-0)=B.take q:=by rw[oL,Z9]
 have nT:Nm .u8 w5.drew (oV 1 bv 0 q) (B.take q):=by have:=nB.sub 0 q (bW _) N;rwa [ae]at this
 have ak:(B.take q).length≤10000000:=by rw[eJ];omega
 have Y:∀{w':World} {G:List It},Fr w w' (G++R)→Nm .i64 w' u.cv u.p.chain:=fun hf=>(H0 (xs:=xs) (ra:=ra) (pa:=pa) (y:=y) (s:=s') (o:=o) (cv:=cv) (iv:=iv) (vs:=vs) (G:=[bI .i64 eN cv o.chain]) ((show Fr w _ R from Fr.right hf)|>fun h=>by rw[hR]at h;exact h.drop 0)).2 u Z
 have hE:gF u.p (B.take q)=gF ⟨u.p.name,u.p.size,u.p.sum,u.p.chain,u.p.packed⟩ (B.take q):=rfl
 have next:∀{r:Addr} {d:Value} {w':World},Fr w w' (aT r [.string (if(gF u.p (B.take q)).2=0 then u.p.name else⟨#[]⟩),d]::bI .u8 eB d (gF u.p (B.take q)).1::aT ad (c5 u)::(zF out us++R))→Nm .u8 w' bv B:=fun{r d w'} hf=>J _ (nA (G:=aT r [.string (if(gF u.p (B.take q)).2=0 then u.p.name else⟨#[]⟩),d]::bI .u8 eB d (gF u.p (B.take q)).1::aT ad (c5 u)::zF out us) (by exact hf))
 refine⟨fun w'=>∀z x,(c5 u)[z]?=some x→w'.cell? (ad.add z)=some x,M (G:=[]) U,mB [.string u.p.name,aB u.p.size,.int .u32 u.p.sum,u.cv,aB u.p.packed] (fun w' hw z x hz=>hw z x hz) (aN (fun w' hw=>hw 4 _ rfl) (dJ nB 0 q (.inl ⟨rfl,rfl⟩) (.inr ⟨.i64,by rw[hq]⟩) (bW _) N fun _=>⟨?_,?_⟩)) rfl (by kernel_rfl)⟩
 ·refine aO (MR (Y (G:=[aT ad (c5 u)]++zF out us) (by rw[gY];exact U)) nT T.1 ak (by have:=T.2.2.1;omega)) ?_
  rw[←hE]
  rintro _ w6 ⟨d,rfl,g6⟩
  have f6:=Fr.glue U g6
  have f6:Fr w w6 (bI .u8 eB d (gF u.p (B.take q)).1::aT ad (c5 u)::(zF out us++R)):=f6
  refine⟨_,d,_,rfl,M (G:=[bI .u8 eB d (gF u.p (B.take q)).1]) f6,dX (z:=.agg #[.string ⟨#[]⟩,bR]) f6 (by kernel_rfl) fun r w7 V=>⟨M (G:=[aT r [.string ⟨#[]⟩,bR],bI .u8 eB d (gF u.p (B.take q)).1]) V,cS V 0 rfl (fun w8 f8=>⟨M (G:=[aT r [.string (if(gF u.p (B.take q)).2=0 then u.p.name else⟨#[]⟩),d],bI .u8 eB d (gF u.p (B.take q)).1]) f8,?_⟩) rfl (fun x hx=>?_)⟩⟩
  ·refine qs5 f8 (by omega) (next f8) hq N (fun I=>?_) (fun he v' w9 f9=>?_)
   ·rw[if_pos I]at C
    rw[←C]
    exact⟨_,[],rfl,rfl,zG f8.old⟩
   ·rw[if_neg (by rw[he];decide)]at C
    rw[if_pos he]at f9
    refine⟨⟨j+1,us++[(u.p.name,d,(gF u.p (B.take q)).1)],B.drop q,by rw[aD (by omega) (by omega)];omega,by omega,by rw[List.length_append,al];rfl,fun X h=>?_,by rw[List.length_drop];omega,by rw[←C,List.map_append];rfl,by rw[←hR];exact f9⟩,by dsimp only;rw[aD (by omega) (by omega)];omega⟩
    have:=(J _ h).sub q B.length N (cJ _)
    rwa [gI (by rw[cQ];omega)]at this
  ·simp at hx;rcases hx with rfl|rfl
   ·rfl
   ·exact(V.nm 1 rfl).oc
 ·refine dX (z:=.agg #[.string ⟨#[]⟩,bR]) U (by kernel_rfl) fun r w6 f6=>⟨M (G:=[aT r [.string ⟨#[]⟩,bR]]) f6,?_⟩
  have ap:Nm .u8 w6 (oV 1 bv 0 q) (B.take q):=by
   have ay:=J _ (nA (G:=[aT r [.string ⟨#[]⟩,bR],aT ad (c5 u)]++zF out us) (by rw[gY];exact f6))
   have:=ay.sub 0 q (bW _) N
   rwa [ae]at this
  refine aO (MR (Y (G:=[aT r [.string ⟨#[]⟩,bR],aT ad (c5 u)]++zF out us) (by rw[gY];exact f6)) ap T.1 ak (by have:=T.2.2.1;omega)) ?_
  rw[←hE]
  rintro _ w7 ⟨d,rfl,g7⟩
  have V:=Fr.glue f6 g7
  have V:Fr w w7 (bI .u8 eB d (gF u.p (B.take q)).1::aT r [.string ⟨#[]⟩,bR]::aT ad (c5 u)::(zF out us++R)):=V
  refine⟨_,d,_,rfl,M (G:=[bI .u8 eB d (gF u.p (B.take q)).1,aT r [.string ⟨#[]⟩,bR]]) V,cS V 1 rfl (fun w8 f8=>?_) rfl (fun x hx=>?_)⟩
  ·have f8:Fr w w8 (aT r [.string (if(gF u.p (B.take q)).2=0 then u.p.name else⟨#[]⟩),d]::bI .u8 eB d (gF u.p (B.take q)).1::aT ad (c5 u)::(zF out us++R)):=f8.picksN 2 [1,0] (by decide) (by decide)
   refine⟨M (G:=[aT r [.string (if(gF u.p (B.take q)).2=0 then u.p.name else⟨#[]⟩),d],bI .u8 eB d (gF u.p (B.take q)).1]) f8,qs5 f8 (by omega) (next f8) hq N (fun I=>?_) (fun he v' w9 f9=>?_)⟩
   ·rw[if_pos I]at C
    rw[←C]
    exact⟨_,[],rfl,rfl,zG f8.old⟩
   ·rw[if_neg (by rw[he];decide)]at C
    rw[if_pos he]at f9
    refine⟨⟨j+1,us++[(u.p.name,d,(gF u.p (B.take q)).1)],B.drop q,by rw[aD (by omega) (by omega)];omega,by omega,by rw[List.length_append,al];rfl,fun X h=>?_,by rw[List.length_drop];omega,by rw[←C,List.map_append];rfl,by rw[←hR];exact f9⟩,by dsimp only;rw[aD (by omega) (by omega)];omega⟩
    have:=(J _ h).sub q B.length N (cJ _)
    rwa [gI (by rw[cQ];omega)]at this
  ·simp at hx;rcases hx with rfl|rfl
   ·rfl
   ·exact(V.nm 0 rfl).oc
def qsP(w:World)(r:En×Int)(e:Ending)(w':World):Prop:=∃v,e=bP #[.agg #[.string r.1.1,v],aB r.2]∧Fr w w' [bI .u8 eB v r.1.2]
theorem qn5{α:Type}(a b c d e f:α):([a,b,c]++[d,e,f]).Perm ([e,f,a]++[b,c,d]):=by
 show [a,b,c,d,e,f].Perm [e,f,a,b,c,d]
 exact(DM (l₁:=[a,b,c,d]) (l₂:=[e,f]))
theorem qj2{p:ItP}{b:List Int}(h:(gF p b).2≠0):(gF p b).1=[]:=by
 unfold gF at h⊢
 split
 ·rfl
 ·split
  ·rfl
  ·split
   ·rfl
   ·rename_i h1 h2 h3
    rw[if_neg h1,if_neg h2,if_neg h3]at h
    exact absurd rfl h
set_option maxHeartbeats 3200000 in
theorem qlC{b:Value}{most:Int}{name:ByteArray}(hb:Nm .u8 w b xs)(hl:xs.length≤1000000000):Calls P NB #[b,.string name,aB most] w (qsP w (yS xs name most)):=by
 have J:∀{w':World} {k:Int} {it:List It} {G:List It},yS xs name most=(NG,k)→Fr w w' G→qsP w (yS xs name most) (bP #[.agg #[.string ⟨#[]⟩,bR],aB k]) w':=fun{w' k it G} h1 h3=>by
  rw[h1]
  exact⟨bR,rfl,Fr.nil0 (F:=[]) h3.old .u8 eB⟩
 refine qho (dX (z:=.agg #[.string ⟨#[]⟩,bR]) (Fr.start w) (by kernel_rfl) fun C w0 f0=>aO (CX (hb.ev f0.old) hl) ?_)
 have hx:=hb.2
 rintro e w1 (⟨I,rfl,h1⟩|⟨h0,ra,y,pa,cv,iv,vs,rfl,hv,g1⟩)
 ·have e:yS xs name most=(NG,(aZ xs).1):=by unfold yS;rw[if_pos I]
  exact⟨_,_,rfl,cA (fun _=>cS (f0.ev h1) 0 rfl fun w2 Y=>gE Y 0 rfl (J (it:=[]) e Y)) (fun h=>absurd h I)⟩
 obtain⟨hok,ap,am,aj⟩:=qcE hx h0 hv
 refine⟨_,_,rfl,cA (fun h=>absurd rfl h) (fun _=>aC ?_)⟩
 have ae:yS xs name most=onA xs name most (vs.map ItV.p) 0:=by unfold yS;rw[if_neg (by rw[h0];decide),hv]
 have f1:Fr w w1 (fK ra y xs (aZ xs).2.st::aT pa (kN ra (aZ xs).2.o cv iv)::(C7 iv vs++[bI .i64 eN cv (aZ xs).2.o.chain,aT C [.string ⟨#[]⟩,bR]])):=by
  have h:=Fr.glue f0 g1
  have e:opF ra y xs (aZ xs).2.st pa (aZ xs).2.o cv iv vs []++[aT C [.string ⟨#[]⟩,bR]]=fK ra y xs (aZ xs).2.st::aT pa (kN ra (aZ xs).2.o cv iv)::(C7 iv vs++[bI .i64 eN cv (aZ xs).2.o.chain,aT C [.string ⟨#[]⟩,bR]]):=by
   unfold opF;simp
  rw[←e];exact h
 have eO:∀(p:ItP) (ps:List ItP) (a:Int),onA xs name most (p::ps) a=if p.name≠name then onA xs name most ps (a+p.packed)else if p.size>WA most then(NG,5)
  else if(nG xs (aZ xs).2.o (vs.map ItV.p) (aZ xs).2.st).2≠0 then(NG,(nG xs (aZ xs).2.o (vs.map ItV.p) (aZ xs).2.st).2)
  else if(gF p (((nG xs (aZ xs).2.o (vs.map ItV.p) (aZ xs).2.st).1.drop a.toNat).take p.packed.toNat)).2≠0 then(NG,(gF p (((nG xs (aZ xs).2.o (vs.map ItV.p) (aZ xs).2.st).1.drop a.toNat).take p.packed.toNat)).2)
  else((p.name,(gF p (((nG xs (aZ xs).2.o (vs.map ItV.p) (aZ xs).2.st).1.drop a.toNat).take p.packed.toNat)).1),0):=fun p ps a=>by rw[onA,hv]
 generalize(aZ xs).2.o=o at*
 generalize(aZ xs).2.st=s at*
 refine dY f1 1 9 rfl rfl (cK (H0 f1).1 ⟨fun a t w'=>∃j:Nat,t=(j:Int)∧j≤vs.length∧a=D5 ((vs.take j).map ItV.p)∧onA xs name most ((vs.drop j).map ItV.p) a=yS xs name most∧Fr w w' (fK ra y xs s::aT pa (kN ra o cv iv)::(C7 iv vs++[bI .i64 eN cv o.chain,aT C [.string ⟨#[]⟩,bR]])),fun _ t _=>(vs.length-t).toNat,⟨0,rfl,bW _,rfl,ae.symm,f1⟩,?_⟩)
 rintro _ a t w2 ⟨j,rfl,hj,rfl,r,Y⟩
 have ab:∀{w':World} {s':Nat×Int} {G:List It},Fr w w' (G++(fK ra y xs s'::aT pa (kN ra o cv iv)::(C7 iv vs++[bI .i64 eN cv o.chain,aT C [.string ⟨#[]⟩,bR]])))→Fr w w' (aT C [.string ⟨#[]⟩,bR]::(G++(fK ra y xs s'::aT pa (kN ra o cv iv)::(C7 iv vs++[bI .i64 eN cv o.chain])))):=fun{w' s' G} hf=>by
  refine hf.perm ?_
  have e:G++(fK ra y xs s'::aT pa (kN ra o cv iv)::(C7 iv vs++[bI .i64 eN cv o.chain,aT C [.string ⟨#[]⟩,bR]]))=(G++(fK ra y xs s'::aT pa (kN ra o cv iv)::(C7 iv vs++[bI .i64 eN cv o.chain])))++[aT C [.string ⟨#[]⟩,bR]]:=by simp
  rw[e];exact qfR _ _
 refine aG (fun cR=>?_) (fun ay=>?_)
 rotate_left
 ·obtain rfl:j=vs.length:=by omega
  rw[List.drop_length]at r
  exact cS (ab (G:=[]) Y) 0 rfl fun w3 f3=>gE f3 0 rfl (J (it:=[]) r.symm f3)
 have T:j<vs.length:=by omega
 have hu:=fR T
 have hd:vs.drop j=vs[j]::vs.drop (j+1):=GK T
 generalize vs[j]=u at hu hd
 have aa:u∈vs:=tM hu
 have N:=hok u.p (List.mem_map.2 ⟨u,aa,rfl⟩)
 have ai:=XR hok (j+1) (by omega)
 have ax:=XR hok j (by omega)
 rw[Z3 hu,gQ,EJ,TG]at ai
 rw[hd,U0,eO]at r
 refine qd2 Y (H0 Y) rfl hu fun ad w3 f3=>qiD f3 0 0 rfl rfl ?_
 have an:D5 (vs.map ItV.p)=D5 ((vs.take j).map ItV.p)+(u.p.packed+D5 ((vs.drop (j+1)).map ItV.p)):=by
  have e:vs.map ItV.p=(vs.take j).map ItV.p++(u.p::(vs.drop (j+1)).map ItV.p):=by rw[←U0,←hd,←gQ,MA]
  rw[e,EJ,LB]
 have ao:=OE (ps:=(vs.drop (j+1)).map ItV.p) fun p hp=>(hok p (by
  obtain⟨v,hv,rfl⟩:=List.mem_map.1 hp
  exact List.mem_map.2 ⟨v,List.mem_of_mem_drop hv,rfl⟩)).2.1.1
 rw[IT]
 refine cC (fun I=>cI f3 0 4 rfl rfl ?_) (fun hn=>cI f3 0 1 rfl rfl ?_)
 ·rw[if_pos I]at r
  refine⟨⟨j+1,by rw[aD (by omega) (by omega)];omega,by omega,?_,?_,f3.drop 0⟩,by dsimp only;rw[aD (by omega) (by omega)];omega⟩
  ·rw[Z3 hu,gQ,EJ,TG,aD (by omega) (by omega)]
  ·rw[aD (by omega) (by omega)];exact r
 rw[if_neg (not_not_intro hn)]at r
 refine aG (fun hg=>?_) (fun hg=>?_)
 ·rw[if_pos (by exact hg)]at r
  exact cS (ab (G:=[aT ad (c5 u)]) f3) 0 rfl fun w4 f4=>gE f4 0 rfl (J (it:=[]) r.symm f4)
 rw[if_neg (by exact hg)]at r
 have f3:Fr w w3 (opF ra y xs s pa o cv iv vs [aT C [.string ⟨#[]⟩,bR],aT ad (c5 u)]):=by
  have e:fK ra y xs s::aT pa (kN ra o cv iv)::(C7 iv vs++[bI .i64 eN cv o.chain,aT C [.string ⟨#[]⟩,bR]])++[aT ad (c5 u)]=opF ra y xs s pa o cv iv vs [aT C [.string ⟨#[]⟩,bR],aT ad (c5 u)]:=by unfold opF;simp
  rw[←e]
  exact f3.perm (qfR _ _).symm
 refine aO (UE f3 hok ap am aj hl) ?_
 rintro _ w4 ⟨av,s',rfl,f4⟩
 have f4:Fr w w4 (aT C [.string ⟨#[]⟩,bR]::aT ad (c5 u)::bI .u8 eB av (nG xs o (vs.map ItV.p) s).1::(C7 iv vs)):=by
  have hp:(bI .u8 eB av (nG xs o (vs.map ItV.p) s).1::opF ra y xs s' pa o cv iv vs [aT C [.string ⟨#[]⟩,bR],aT ad (c5 u)]).Perm ((aT C [.string ⟨#[]⟩,bR]::aT ad (c5 u)::bI .u8 eB av (nG xs o (vs.map ItV.p) s).1::C7 iv vs)++[fK ra y xs s',aT pa (kN ra o cv iv),bI .i64 eN cv o.chain]):=by
   unfold opF
   generalize bI .u8 eB av (nG xs o (vs.map ItV.p) s).1=U
   generalize fK ra y xs s'=V
   generalize aT pa (kN ra o cv iv)=i3
   generalize bI .i64 eN cv o.chain=i4
   generalize aT C [.string ⟨#[]⟩,bR]=i5
   generalize aT ad (c5 u)=X
   generalize C7 iv vs=L
   have h1:(U::V::i3::(L++[i4,i5,X])).Perm ([U,V,i3]++([i4,i5,X]++L)):=((DM (l₁:=L) (l₂:=[i4,i5,X])).append_left [U,V,i3])
   have h2:((i5::X::U::L)++[V,i3,i4]).Perm ([i5,X,U]++([V,i3,i4]++L)):=((DM (l₁:=L) (l₂:=[V,i3,i4])).append_left [i5,X,U])
   refine h1.trans (List.Perm.trans ?_ h2.symm)
   rw[←gY,←gY]
   exact List.Perm.append_right L (qn5 U V i3 i4 i5 X)
  exact Fr.left (f4.perm hp)
 refine⟨_,_,rfl,cA (fun I=>?_) (fun ha=>?_)⟩
 ·rw[if_pos I]at r
  exact cS f4 0 rfl fun w5 f5=>gE f5 0 rfl (J (it:=[]) r.symm f5)
 rw[if_neg (by rw[ha];decide)]at r
 have ah:=JE (s:=s) hx (ps:=vs.map ItV.p) (o:=o) (fun p hp=>(hok p hp).2.1.1) (by omega) ha
 generalize(nG xs o (vs.map ItV.p) s).1=A at f4 ah r
 obtain⟨q,hq⟩:∃q:Nat,u.p.packed=(q:Int):=⟨u.p.packed.toNat,by have:=N.2.1.1;omega⟩
 obtain⟨l,O⟩:∃l:Nat,D5 ((vs.take j).map ItV.p)=(l:Int):=⟨(D5 ((vs.take j).map ItV.p)).toNat,by omega⟩
 have az:q≤1052680:=by have:=N.2.1.2;omega
 rw[O,hq,dH,dH]at r
 have M:=f4.drew
 have al:l+q≤A.length:=by rw[O,hq]at an;omega
 have Z:i64 (D5 ((vs.take j).map ItV.p)+u.p.packed)=((l+q:Nat):Int):=by rw[O,hq,aD (by omega) (by omega)];omega
 have hB:∀{w':World} {it:It} {G:List It},Fr w w' (it::aT ad (c5 u)::G)→∀z x,(c5 u)[z]?=some x→w'.cell? (ad.add z)=some x:=fun hf z x hz=>hf.cell 1 z rfl hz
 refine⟨fun w'=>∀z x,(c5 u)[z]?=some x→w'.cell? (ad.add z)=some x,hB M,mB [.string u.p.name,aB u.p.size,.int .u32 u.p.sum,u.cv,aB u.p.packed] (fun w' hw z x hz=>hw z x hz) (aN (fun w' hw=>hw 4 _ rfl) (dJ (M.nm 2 rfl) l (l+q) (.inr ⟨.i64,by rw[O]⟩) (.inr ⟨.i64,by rw[Z]⟩) (by omega) al fun nT=>?_)) rfl (by kernel_rfl)⟩
 rw[MB]at nT
 have ak:Nm .i64 w4.drew u.cv u.p.chain:=(qca ((M.drop 0).drop 0|>.drop 0)).2 u aa
 refine aO (MR ak nT N.1 (by rw[eJ];omega) (by have:=N.2.2.1;omega)) ?_
 have hE:gF ⟨u.p.name,u.p.size,u.p.sum,u.p.chain,u.p.packed⟩ ((A.drop l).take q)=gF u.p ((A.drop l).take q):=rfl
 rw[hE]
 rintro _ w5 ⟨d,rfl,g5⟩
 have f5:=Fr.glue M g5
 have f5:Fr w w5 (aT C [.string ⟨#[]⟩,bR]::aT ad (c5 u)::bI .u8 eB d (gF u.p ((A.drop l).take q)).1::C7 iv vs):=f5.picksN 4 [1,2,0] (by decide) (by decide)
 refine⟨_,d,_,rfl,hB f5,cS f5 0 rfl (fun w6 f6=>⟨hB f6,gE f6 0 rfl ?_⟩) rfl (fun x hx=>?_)⟩
 ·by_cases he:(gF u.p ((A.drop l).take q)).2=0
  ·rw[if_neg (by rw[he];decide)]at r
   rw[←r,if_pos he,he]
   exact⟨d,rfl,f6.picks [2] (by decide)⟩
  ·rw[if_pos he]at r
   rw[←r,if_neg he]
   have hz:=qj2 he
   rw[hz]at f6
   exact⟨d,rfl,f6.picks [2] (by decide)⟩
 ·simp at hx;rcases hx with rfl|rfl
  ·rfl
  ·exact(f5.nm 2 rfl).oc
def OpE(w:World)(xs:List Int)(e:Ending)(w':World):Prop:=
 ∃cv,e=bP #[.agg #[.bool (aZ xs).2.o.auto,cv,aB (aZ xs).2.o.level,aB (aZ xs).2.o.block,.bool false,bR,bR,aB 0],aB (aZ xs).1]∧Fr w w' [bI .i64 eN cv (aZ xs).2.o.chain]
theorem qbr{b:Value}(hb:Nm .u8 w b xs)(hl:xs.length≤1000000000):Calls P N9 #[b] w (OpE w xs):=by
 refine WF (dX (z:=.agg #[.bool false,bR,aB 0,aB 0,.bool false,bR,bR,aB 0]) (Fr.start w) (by kernel_rfl) fun t2 w0 r=>aO (CX (hb.ev r.old) hl) ?_)
 rintro e w1 (⟨q,rfl,h1⟩|⟨h0,ra,y,pa,cv,iv,vs,rfl,hv,g1⟩)
 ·refine⟨_,_,rfl,cA (fun _=>cS (r.ev h1) 0 rfl fun w2 j=>gE j 0 rfl ?_) (fun h=>absurd h q)⟩
  unfold OpE
  rw[OB q]
  exact⟨bR,rfl,Fr.nil0 (F:=[]) j.old .i64 eN⟩
 have A:=Fr.glue r g1
 refine⟨_,_,rfl,cA (fun h=>absurd rfl h) (fun _=>aC ?_)⟩
 have A:Fr w w1 (fK ra y xs (aZ xs).2.st::aT pa (kN ra (aZ xs).2.o cv iv)::(C7 iv vs++[bI .i64 eN cv (aZ xs).2.o.chain]++[aT t2 zO])):=A
 have j:Fr w w1 (aT pa (kN ra (aZ xs).2.o cv iv)::[bI .i64 eN cv (aZ xs).2.o.chain,aT t2 zO]):=by
  have h:Fr w w1 (aT pa (kN ra (aZ xs).2.o cv iv)::([bI .i64 eN cv (aZ xs).2.o.chain,aT t2 zO]++C7 iv vs)):=(A.drop 0).perm (List.Perm.cons _ (by rw[gY];exact DM))
  exact Fr.left (F:=aT pa (kN ra (aZ xs).2.o cv iv)::[bI .i64 eN cv (aZ xs).2.o.chain,aT t2 zO]) h
 have C:=j.nm 1 rfl
 refine lR [.bool (aZ xs).2.o.auto,cv,aB (aZ xs).2.o.level,aB (aZ xs).2.o.block,.bool false,bR,bR,aB 0] (fun z x hz=>?_) ?_ rfl (by kernel_rfl)
 ·rw[Addr.add2']
  refine j.cell 0 (1+z) rfl ?_
  rw[Nat.add_comm]
  show([.bool (aZ xs).2.o.auto,cv,aB (aZ xs).2.o.level,aB (aZ xs).2.o.block,.bool false,bR,bR,aB 0]++[iv])[z]?=some x
  rw[T8 (List.getElem?_eq_some_iff.1 hz).1];exact hz
 ·refine cS j 2 rfl (fun w2 f3=>gE f3 2 rfl ⟨cv,by rw[h0],f3.picks [1] (by decide)⟩) rfl (fun u hu=>?_)
  simp at hu;rcases hu with rfl|rfl|rfl|rfl|rfl|rfl|rfl
  all_goals first|exact C.oc|rfl
end
end
section
def E0(e:Int):Prop:=0≤e∧e≤9
theorem ErR.b{e:Int}(h:ErR e):E0 e:=by unfold ErR at h;unfold E0;omega
theorem sY{xs:List Int}(m:Int){s:Nat×Int}(h:ErR s.2):ErR (jT xs m s).2.2:=X8 h
theorem qoh{xs:List Int}:∀(k:Nat) (r:List Int×(Nat×Int)),ErR r.2.2→ErR (tgN xs k r).2.2
 |0,_,h=>h
 |k+1,r,h=>by rw[tgN];exact qoh k _ (sY 6 h)
theorem qoi{xs:List Int}{s:Nat×Int}(h:ErR s.2):ErR (tgS xs s).2.2:=by
 unfold tgS
 split
 ·exact sY 4 h
 ·exact qoh _ _ (sY 4 h)
theorem qrV{xs:List Int}{s:Nat×Int}(h:ErR s.2):ErR (W5 xs s).2.2:=sY 2097152 (qoi (oK (sY 1048576 (E6 h))))
theorem qdI{xs:List Int}:∀(k:Nat) (l:List ItP) (z:Int) (s:Nat×Int) (r:List ItP×(Nat×Int)),ErR s.2→rP xs k l z s=some r→ErR r.2.2
 |0,l,z,s,r,h,e=>by rw[rP]at e;cases e;exact h
 |k+1,l,z,s,r,h,e=>by
  rw[rP]at e
  split at e
  ·exact qdI k _ _ _ r (qrV h) e
  ·cases e
theorem XK(xs:List Int):E0 (aZ xs).1∧((aZ xs).1=0→ErR (aZ xs).2.st.2):=by
 have e2:ErR (xo2 xs).2.2:=oK (oK (.inl rfl))
 have e3:ErR (xo3 xs).2.2:=qoi (sY 1 (sY 65536 (sY 3 e2)))
 have A:ErR (xo4 xs).2.2:=sY 4096 e3
 have h4:E0 4:=by unfold E0;omega
 have C:E0 9:=by unfold E0;omega
 unfold aZ
 by_cases j:(xo2 xs).2.2≠0
 ·rw[if_pos j];exact⟨e2.b,fun h=>absurd h j⟩
 rw[if_neg j]
 by_cases u:(ES xs).1≠qkN
 ·rw[if_pos u];exact⟨h4,fun h=>by cases h⟩
 rw[if_neg u]
 by_cases c3:xM (xs.drop 8)≠vX (IY (xo2 xs).1)
 ·rw[if_pos c3];exact⟨C,fun h=>by cases h⟩
 rw[if_neg c3]
 by_cases c4:(xo3 xs).1.2=false
 ·rw[if_pos c4];exact⟨h4,fun h=>by cases h⟩
 rw[if_neg c4]
 by_cases c5:(xo4 xs).1>4096
 ·rw[if_pos c5];exact⟨h4,fun h=>by cases h⟩
 rw[if_neg c5]
 cases hb:rP xs (xo4 xs).1.toNat [] 0 (xo4 xs).2 with
 |none=>exact⟨h4,fun h=>by cases h⟩
 |some r=>
  dsimp only
  have er:=qdI _ _ _ _ r A hb
  by_cases q:r.2.2≠0
  ·rw[if_pos q];exact⟨er.b,fun h=>absurd h q⟩
  ·rw[if_neg q];exact⟨by unfold E0;omega,fun _=>er⟩
theorem qrt{xs:List Int}{lv z:Int}{s:Nat×Int}(h:ErR s.2):ErR (bkS xs lv z s).1.1∧ErR (bkS xs lv z s).2.2:=by
 unfold bkS
 have h4:ErR 4:=.inr (.inr rfl)
 split
 ·exact⟨oK (sY 1 h),oK (sY 1 h)⟩
 ·split
  ·split
   ·exact⟨h4,E6 (sY 1 h)⟩
   ·exact⟨E6 (sY 1 h),E6 (sY 1 h)⟩
  ·exact⟨h4,sY 1 h⟩
theorem qlQ{xs:List Int}{lv bk:Int}{n:Nat}:∀(f:Nat) (out:List Int) (s:Nat×Int),ErR s.2→ErR (BA xs lv bk n f out s).1∧ErR (BA xs lv bk n f out s).2.2.2
 |0,out,s,h=>⟨.inl rfl,h⟩
 |f+1,out,s,h=>by
  rw[BA]
  have hb:=qrt (xs:=xs) (lv:=lv) (z:=bkZ bk n out) h
  split
  ·split
   ·exact hb
   ·exact qlQ f _ _ hb.2
  ·exact⟨.inl rfl,h⟩
theorem qim{xs:List Int}{o:OpB}{ps:List ItP}{s:Nat×Int}(h:ErR s.2):ErR (nG xs o ps s).2:=by
 unfold nG
 have:=qlQ (xs:=xs) (lv:=o.level) (bk:=o.block) (n:=(D5 ps).toNat) (D5 ps).toNat [] s h
 split
 ·exact this.1
 ·exact qbP this.2
theorem qjA{lim:Int}:∀(f:Nat) (xs out:List Int),E0 (D8 lim f xs out).2
 |0,xs,out=>by rw[D8];unfold E0;omega
 |f+1,[],out=>by rw[D8];unfold E0;omega
 |f+1,c::r,out=>by
  have h3:E0 3:=by unfold E0;omega
  have h4:E0 4:=by unfold E0;omega
  have next:∀r' j,E0 (YY lim f r' j).2:=fun r' j=>by
   unfold YY
   split
   ·unfold E0;omega
   ·exact qjA f r' j
  by_cases h1:c=2∨c=3
  ·cases r with
   |nil=>rw[YV h1];exact h3
   |cons d r=>
    by_cases h2:c=2∧97≤d∧d≤122
    ·rw[YU h2];exact next _ _
    ·by_cases h3:c=3∧(d=2∨d=3)
     ·rw[YW h3];exact next _ _
     ·rw[LS h1 h2 h3];exact h4
  ·rw[YX h1];exact next _ _
theorem qor{L:List (List Int)}{lim:Int}(xs:List Int):∀(n k:Nat) (ys:List Int),xs.length-k≤n→E0 (unS L lim (xs.drop k) ys).2
 |0,k,ys,hk=>by rw[zN (by omega),LR];unfold E0;omega
 |n+1,k,ys,hk=>by
  by_cases j:k<xs.length
  ·rw[YT j]
   repeat' split
   all_goals first
    |(unfold E0;omega)
    |exact qor xs n _ _ (by omega)
  ·rw[zN (by omega),LR];unfold E0;omega
theorem qbk{xs:List Int}{a0:Nat}:∀(j:Nat) (e:Int),rL xs a0 j=.inr e→E0 e
 |0,e,h=>by cases h
 |j+1,e,h=>by
  rw[rL]at h
  cases hw:rL xs a0 j with
  |inr q=>rw[hw]at h;cases h;exact qbk j _ hw
  |inl s=>
   rw[hw]at h
   dsimp only at h
   split at h
   ·cases h;exact(E6 (.inl rfl)).b
   ·split at h
    ·cases h;unfold E0;omega
    ·cases h
theorem qh7{t:Int}{xs:List Int}{most:Int}(hx:inR .u8 xs):E0 (gX t xs most).2:=by
 unfold gX
 split
 ·rcases GG xs most hx qpy with h|h
  ·rw[h.1];unfold E0;omega
  ·unfold E0;omega
 split
 ·rcases LV xs most hx with h|h
  ·rw[h.1];unfold E0;omega
  ·unfold E0;omega
 split
 ·unfold ER
  dsimp only
  repeat' split
  all_goals first
   |exact(X8 (X8 (.inl rfl))).b
   |(unfold E0;omega)
 split
 ·unfold T6
  dsimp only
  split
  ·exact(X8 (.inl rfl)).b
  split
  ·unfold E0;omega
  split
  ·rename_i e he;exact qbk _ e he
  ·rename_i c hc
   unfold YZ
   have:=qor (L:=List.take 64 c.1) (lim:=if 0>(if 1048576<most then 1048576 else most)then 0 else(if 1048576<most then 1048576 else most)) (xs.drop c.2) (xs.drop c.2).length 0 [] (by omega)
   rw[oL]at this
   exact this
 split
 ·unfold qll
  repeat' split
  all_goals(unfold E0;omega)
 ·exact qjA _ _ _
section
variable {w:World}
theorem qlm{t most:Int}{v:Value}{xs:List Int}(ht:1≤t∧t≤6)(hb:Nm .u8 w v xs)(hl:xs.length≤10000000)(hm:most≤9223372036854775807):∃w' v',Nm .u8 w' v' (gX t xs most).1:=by
 have j:∀{f:FuncId} {r:List Int×Int},Calls P f #[v,aB most] w (yQ w r)→∃w' v',Nm .u8 w' v' r.1:=fun h=>by
  obtain⟨e,w',fr,⟨v', -, -,q⟩, -⟩:=h []
  exact⟨w',v',q.nm⟩
 rcases qsu ht with rfl|rfl|rfl|rfl|rfl|rfl
 ·rw[qbc];exact j (OW hb (by omega) qpy)
 ·rw[qbd];exact j (TY hb (by omega))
 ·rw[qbe];exact j (QC hb (by omega) hm)
 ·rw[qbf];exact j (QI hb (by omega))
 ·rw[qbg];exact j (OV hb (by omega))
 ·rw[qbh];exact j (TW hb (by omega))
theorem qiW{ts:List Int}{most:Int}(hm:most≤9223372036854775807)(q:iL ts=true):∀(i:Nat) (x:List Int) (w:World) (v:Value),i≤ts.length→Nm .u8 w v x→x.length≤10000000→E0 (QX ts most i x).2
 |0,x,w,v,_,_,_=>by rw[QX];unfold E0;omega
 |i+1,x,w,v,hi,hn,hl=>by
  rw[QX]
  have e:=qh7 (t:=rd ts (i:Int)) (most:=if(i:Int)=0 then most else 1048576) hn.2
  have r:=QH (t:=rd ts (i:Int)) (most:=if(i:Int)=0 then most else 1048576) hn.2
  by_cases hc:(gX (rd ts (i:Int)) x (if(i:Int)=0 then most else 1048576)).2≠0
  ·rw[if_pos hc];exact e
  ·rw[if_neg hc]
   obtain⟨w',v',j⟩:=qlm (most:=if(i:Int)=0 then most else 1048576) (LH q (show i<ts.length by omega)) hn hl (by split<;>omega)
   exact qiW hm q i _ w' v' (by omega) j (by omega)
theorem qpJ{x ts:List Int}{most:Int}{v:Value}(hm:most≤9223372036854775807)(hn:Nm .u8 w v x)(hl:x.length≤10000000):E0 (rS x most ts).2:=by
 unfold rS
 by_cases j:iL ts=true
 ·rw[if_pos j]
  by_cases hc:ts.length=0∧(x.length:Int)>(if 0>most then 0 else most)
  ·rw[if_pos hc];unfold E0;omega
  ·rw[if_neg hc];exact qiW hm j _ _ w v (cJ _) hn hl
 ·rw[if_neg j];unfold E0;omega
theorem qdz{p:ItP}{x:List Int}{v:Value}(hm:p.size≤1048576)(hn:Nm .u8 w v x)(hl:x.length≤10000000):E0 (gF p x).2:=by
 unfold gF
 split
 ·exact qpJ (by omega) hn hl
 repeat' split
 all_goals(unfold E0;omega)
theorem UC{p:ItP}{x:List Int}(h:(gF p x).2=0):((gF p x).1.length:Int)=p.size∧xM (gF p x).1=p.sum:=by
 unfold gF at h⊢
 by_cases j:(rS x p.size p.chain).2≠0
 ·rw[if_pos j]at h;exact absurd h j
 rw[if_neg j]at h⊢
 by_cases q:((rS x p.size p.chain).1.length:Int)≠p.size
 ·rw[if_pos q]at h;cases h
 rw[if_neg q]at h⊢
 by_cases c3:xM (rS x p.size p.chain).1≠p.sum
 ·rw[if_pos c3]at h;cases h
 rw[if_neg c3]
 exact⟨Classical.not_not.1 q,Classical.not_not.1 c3⟩
def qmA(p:ItP)(e:En):Prop:=e.1=p.name∧(e.2.length:Int)=p.size∧xM e.2=p.sum
theorem qmn:∀(ps:List ItP) (b:List Int) (j:List En) (v:Value),(∀p∈ps,okI p)→(b.length:Int)=D5 ps→Nm .u8 w v b→E0 (enA ps b j).1∧((enA ps b j).1≠0→(enA ps b j).2=[])∧((enA ps b j).1=0→∃l,(enA ps b j).2=j++l∧l.length=ps.length∧∀(i:Nat) (p:ItP) (e:En),ps[i]?=some p→l[i]?=some e→qmA p e)
 |[],b,j,v,_,_,_=>⟨by rw[enA];unfold E0;omega,fun h=>absurd rfl h,fun _=>⟨[],by simp [enA],rfl,fun i p e h=>by simp at h⟩⟩
 |p::ps,b,j,v,hok,hbl,hn=>by
  have hp:=hok p xJ
  have u:=OE (ps:=ps) fun q hq=>(hok q (lL _ hq)).2.1.1
  rw[LB]at hbl
  obtain⟨⟨z1,z2⟩,⟨k1,k2⟩,_⟩:=hp
  have C:=hn.sub 0 p.packed.toNat (bW _) (by omega)
  rw[oL,Z9]at C
  have A:=hn.sub p.packed.toNat b.length (by omega) (cJ _)
  rw[gI (by rw[cQ];omega)]at A
  have e1:=qdz (p:=p) z2 C (by rw[eJ];omega)
  rw[enA]
  by_cases he:(gF p (b.take p.packed.toNat)).2≠0
  ·rw[if_pos he]
   exact⟨e1,fun _=>rfl,fun h=>absurd h he⟩
  ·rw[if_neg he]
   have hg:=UC (Classical.not_not.1 he)
   obtain⟨I,J,i3⟩:=qmn ps (b.drop p.packed.toNat) (j++[(p.name,(gF p (b.take p.packed.toNat)).1)]) _ (fun q hq=>hok q (lL _ hq)) (by rw[cQ];omega) A
   refine⟨I,J,fun h=>?_⟩
   obtain⟨l,M,N,O⟩:=i3 h
   refine⟨(p.name,(gF p (b.take p.packed.toNat)).1)::l,by rw[M,gY];rfl,by rw[iO,iO,N],fun i q e hq r=>?_⟩
   cases i with
   |zero=>simp at hq r;subst hq;subst r;exact⟨rfl,hg⟩
   |succ i=>exact O i q e (by simpa using hq) (by simpa using r)
end
end
section
theorem Calls.ex{P:Program}{f:FuncId}{args:Array Value}{w:World}{R:Ending→World→Prop}(h:Calls P f args w R):∃e w',R e w':=by
 obtain⟨e,w',_,h,_⟩:=h [];exact⟨e,w',h⟩
theorem qqA{l:List ItP}(h:l.Pairwise fun p q=>G5 p.name q.name=true){p q:ItP}(hp:p∈l)(hq:q∈l)(e:p.name=q.name):p=q:=by
 induction l with
 |nil=>cases hp
 |cons a l u=>
  obtain⟨h1,h2⟩:=List.pairwise_cons.1 h
  rcases List.mem_cons.1 hp with r|r
  ·rcases List.mem_cons.1 hq with j|j
   ·rw[r,j]
   ·have:=h1 q j;rw[←r,e,EE]at this;cases this
  ·rcases List.mem_cons.1 hq with j|j
   ·have:=h1 p r;rw[←j,e,EE]at this;cases this
   ·exact u h2 r j
section
variable {w0 w:World} {F:List It} {xs:List Int}
theorem qlR{b:Value}(hb:Nm .u8 w b xs)(hl:xs.length≤1000000000)(h0:(aZ xs).1=0):∃w' v,Nm .u8 w' v (nG xs (aZ xs).2.o (aZ xs).2.items (aZ xs).2.st).1:=by
 obtain⟨e,w1,h⟩:=Calls.ex (CX hb hl)
 rcases h with⟨r,_⟩|⟨_,ra,y,pa,cv,iv,vs, -,hv,C⟩
 ·exact absurd h0 r
 obtain⟨hok,u,q,j⟩:=qcE hb.2 h0 hv
 obtain⟨e,w2,v,s', -,A⟩:=Calls.ex (UE C hok u q j hl)
 rw[hv]at A
 exact⟨w2,v,A.nm 0 rfl⟩
theorem qgk{b:Value}{most:Int}(hb:Nm .u8 w b xs)(hl:xs.length≤1000000000):E0 (Q3 xs most).2∧((Q3 xs most).2≠0→(Q3 xs most).1=[])∧
  ((Q3 xs most).2=0→(aZ xs).1=0∧(Q3 xs most).1.length=(aZ xs).2.items.length∧QB (aZ xs).2.items≤WA most∧∀(i:Nat) (p:ItP) (e:En),(aZ xs).2.items[i]?=some p→(Q3 xs most).1[i]?=some e→qmA p e):=by
 have he:=XK xs
 unfold Q3
 by_cases h0:(aZ xs).1≠0
 ·rw[if_pos h0];exact⟨he.1,fun _=>rfl,fun h=>absurd h h0⟩
 rw[if_neg h0]
 have h0:=Classical.not_not.1 h0
 by_cases h1:QB (aZ xs).2.items>WA most
 ·rw[if_pos h1];exact⟨by unfold E0;omega,fun _=>rfl,fun h=>by cases h⟩
 rw[if_neg h1]
 have q:=KZ hb.2 h0
 have ha:=qim (xs:=xs) (o:=(aZ xs).2.o) (ps:=(aZ xs).2.items) (he.2 h0)
 by_cases h2:(nG xs (aZ xs).2.o (aZ xs).2.items (aZ xs).2.st).2≠0
 ·rw[if_pos h2];exact⟨ha.b,fun _=>rfl,fun h=>absurd h h2⟩
 rw[if_neg h2]
 have u:=(TE q.2.2.2.2.1).2.1
 have j:=JE (s:=(aZ xs).2.st) hb.2 (fun p hp=>(q.1 p hp).2.1.1) (by omega) (Classical.not_not.1 h2)
 obtain⟨w',v,hn⟩:=qlR hb hl h0
 obtain⟨e1,e2,e3⟩:=qmn _ _ [] v q.1 j hn
 refine⟨e1,e2,fun h=>?_⟩
 obtain⟨l,r,A,C⟩:=e3 h
 rw[sG]at r
 refine⟨h0,by dsimp only;rw[r,A],by omega,?_⟩
 dsimp only
 rw[r];exact C
theorem qny{most:Int}{name:ByteArray}{A:List Int}{v:Value}(hA:(nG xs (aZ xs).2.o (aZ xs).2.items (aZ xs).2.st).1=A)(j:ErR (nG xs (aZ xs).2.o (aZ xs).2.items (aZ xs).2.st).2)(hn:Nm .u8 w v A):
  ∀(ps:List ItP) (a:Int),(∀p∈ps,okI p)→0≤a→((nG xs (aZ xs).2.o (aZ xs).2.items (aZ xs).2.st).2=0→a+D5 ps=(A.length:Int))→E0 (onA xs name most ps a).2∧((onA xs name most ps a).2≠0→(onA xs name most ps a).1=NG)∧((onA xs name most ps a).2=0→∃p∈ps,p.name=name∧p.size≤WA most∧qmA p (onA xs name most ps a).1)
 |[],a,_,_,_=>⟨by rw[onA];unfold E0;omega,fun _=>rfl,fun h=>by rw[onA]at h;cases h⟩
 |p::ps,a,hok,ha0,ha=>by
  rw[onA,hA]
  have hp:=hok p xJ
  have r:=OE (ps:=ps) fun q hq=>(hok q (lL _ hq)).2.1.1
  rw[LB]at ha
  obtain⟨⟨z1,z2⟩,⟨k1,k2⟩,_⟩:=hp
  by_cases h1:p.name≠name
  ·rw[if_pos h1]
   obtain⟨I,J,i3⟩:=qny (most:=most) (name:=name) hA j hn ps (a+p.packed) (fun q hq=>hok q (lL _ hq)) (by omega) (fun h=>by have:=ha h;omega)
   exact⟨I,J,fun h=>by obtain⟨q,hq,h'⟩:=i3 h;exact⟨q,lL _ hq,h'⟩⟩
  rw[if_neg h1]
  by_cases h2:p.size>WA most
  ·rw[if_pos h2];exact⟨by unfold E0;omega,fun _=>rfl,fun h=>by cases h⟩
  rw[if_neg h2]
  by_cases h3:(nG xs (aZ xs).2.o (aZ xs).2.items (aZ xs).2.st).2≠0
  ·rw[if_pos h3];exact⟨j.b,fun _=>rfl,fun h=>absurd h h3⟩
  rw[if_neg h3]
  have C:=ha (Classical.not_not.1 h3)
  have u:=hn.sub a.toNat (a.toNat+p.packed.toNat) (by omega) (by omega)
  rw[MB]at u
  have e1:=qdz (p:=p) z2 u (by rw[eJ];omega)
  by_cases h4:(gF p ((A.drop a.toNat).take p.packed.toNat)).2≠0
  ·rw[if_pos h4];exact⟨e1,fun _=>rfl,fun h=>absurd h h4⟩
  rw[if_neg h4]
  have hg:=UC (Classical.not_not.1 h4)
  exact⟨by unfold E0;omega,fun h=>absurd rfl h,fun _=>⟨p,xJ,Classical.not_not.1 h1,by omega,rfl,hg⟩⟩
theorem qgm{b:Value}{most:Int}{name:ByteArray}(hb:Nm .u8 w b xs)(hl:xs.length≤1000000000):E0 (yS xs name most).2∧((yS xs name most).2≠0→(yS xs name most).1=NG)∧
  ((yS xs name most).2=0→(aZ xs).1=0∧∃p∈(aZ xs).2.items,p.name=name∧p.size≤WA most∧qmA p (yS xs name most).1):=by
 have he:=XK xs
 unfold yS
 by_cases h0:(aZ xs).1≠0
 ·rw[if_pos h0];exact⟨he.1,fun _=>rfl,fun h=>absurd h h0⟩
 rw[if_neg h0]
 have h0:=Classical.not_not.1 h0
 have j:=KZ hb.2 h0
 have q:=(TE j.2.2.2.2.1).2.1
 obtain⟨w',v,hn⟩:=qlR hb hl h0
 obtain⟨r,u,i3⟩:=qny (most:=most) (name:=name) rfl (qim (he.2 h0)) hn (aZ xs).2.items 0 j.1 (Int.le_refl 0) (fun h=>by
  have:=JE (s:=(aZ xs).2.st) hb.2 (fun p hp=>(j.1 p hp).2.1.1) (by omega) h;omega)
 exact⟨r,u,fun h=>⟨h0,i3 h⟩⟩
theorem UQ:∀{us:List ItV} {i:Nat} {u:ItV},us[i]?=some u→∀(j:Nat) (x:Value),j<4→(c4 u)[j]?=some x→(F0 us)[i*4+j]?=some x
 |[],_,_,h,_,_,_,_=>by simp at h
 |y::us,0,u,h,j,x,hj,hx=>by
  simp at h;subst h
  show(c4 y++F0 us)[0*4+j]?=_
  rw[qac,vV,T8 (by exact hj)];exact hx
 |y::us,i+1,u,h,j,x,hj,hx=>by
  have h2:=UQ (us:=us) (i:=i) (u:=u) (by simpa using h) j x hj hx
  show(c4 y++F0 us)[(i+1)*4+j]?=_
  rw[show(i+1)*4+j=4+(i*4+j)by omega,T9 (by show 4≤_;omega)]
  rw[show 4+(i*4+j)-(c4 y).length=i*4+j by show 4+(i*4+j)-4=_;omega];exact h2
theorem uD{i:Int}{r:IntKind}{v:Value}{us:List ItV}{j:Nat}{u:ItV}{K:Addr→Prop}(h:Sl w 4 v us.length (F0 us))(q:i=(j:Int))(hu:us[j]?=some u)(hk:∀ad,(∀z x,(c4 u)[z]?=some x→w.cell? (ad.add z)=some x)→K ad):aX P dC v (.int r i) K:=by
 subst q
 refine JS h (List.getElem?_eq_some_iff.1 hu).1 (fun ad hc _=>hk ad fun z x hx=>hc z x ?_ (UQ hu z x ?_ hx))
 ·exact(List.getElem?_eq_some_iff.1 hx).1
 ·exact(List.getElem?_eq_some_iff.1 hx).1
set_option maxHeartbeats 6400000 in
theorem OM{v:Value}{most:Int}{name:ByteArray}(hb:Nm .u8 w v xs)(hl:xs.length≤1000000000):Calls P kE #[v,aB most,.string name] w (fun e w'=>e=aW (.bool true)∧Ev w w'):=by
 obtain⟨a1,a2,a3⟩:=qgk (most:=most) hb hl
 obtain⟨o1,o2,o3⟩:=qgm (most:=most) (name:=name) hb hl
 have p1:=(XK xs).1
 have p2:(aZ xs).1≠0→(aZ xs).2.items=[]:=fun h=>by rw[OB h];rfl
 have p3:(aZ xs).1=0→(∀p∈(aZ xs).2.items,okI p)∧(aZ xs).2.items.Pairwise (fun p q=>G5 p.name q.name=true)∧QB (aZ xs).2.items≤1048576∧(aZ xs).2.items.length≤4096:=fun h=>by
  have:=KZ hb.2 h;exact⟨this.1,this.2.1,this.2.2.1,this.2.2.2.1⟩
 refine CV (aO (qjH hb hl) ?_)
 rintro _ w1 ⟨lv,vs,rfl,ac,f1⟩
 refine⟨_,_,rfl,aO (qlB (hb.ev f1.old) hl) ?_⟩
 rintro _ w2 ⟨av,us,rfl,be,g2⟩
 have f2:=Fr.glue f1 g2
 refine⟨_,_,rfl,aO (qlC (hb.ev f2.old) hl) ?_⟩
 rintro _ w3 ⟨U,rfl,g3⟩
 have f3:=Fr.glue f2 g3
 refine⟨_,_,_,rfl,dX (z:=.agg #[.string ⟨#[]⟩,bR]) f3 (by kernel_rfl) fun oa w4 f4=>cS f4 0 rfl (fun w5 f5=>?_) rfl (fun u hu=>?_)⟩
 rotate_left
 ·simp at hu;rcases hu with rfl|rfl
  ·rfl
  ·exact(f4.nm 1 rfl).oc
 refine aO (qbr (hb.ev f5.old) hl) ?_
 rintro _ w6 ⟨cv,rfl,g6⟩
 have f6:=Fr.glue f5 g6
 refine⟨_,_,_,_,_,_,_,_,_,rfl,dX (z:=.agg #[.bool false,bR,aB 0,aB 0,.bool false,bR,bR,aB 0]) f6 (by kernel_rfl) fun cn w7 f7=>cS f7 0 rfl (fun w8 f8=>?_) rfl (fun u hu=>?_)⟩
 rotate_left
 ·simp at hu;rcases hu with rfl|rfl|rfl|rfl|rfl|rfl|rfl
  all_goals first|exact(f7.nm 1 rfl).oc|rfl
 have f8:Fr w w8 (aT oa [.string (yS xs name most).1.1,U]::bI .u8 eB U (yS xs name most).1.2::(zF av us++lsF lv vs)):=(f8.drop 0).drop 0
 have am:=congrArg List.length ac
 have al:=qas be
 rw[fE]at am
 generalize(aZ xs).2.items=its at*
 generalize(aZ xs).1=le at*
 generalize Q3 xs most=A at*
 generalize yS xs name most=O at*
 obtain⟨J,X⟩:∃J,J=aT oa [.string O.1.1,U]::bI .u8 eB U O.1.2::(zF av us++lsF lv vs):=⟨_,rfl⟩
 rw[←X]at f8
 have hL:∀{w':World},Fr w w' J→Sl w' 4 lv vs.length (F0 vs):=fun hf=>by
  rw[X]at hf
  exact(Fr.right (F:=aT oa [.string O.1.1,U]::bI .u8 eB U O.1.2::zF av us) hf).row 0 rfl
 have hA:∀{w':World},Fr w w' J→Es w' av us:=fun hf=>by
  rw[X]at hf
  exact Es.own (Fr.left (hf.dropN 2))
 have hO:∀{w':World},Fr w w' J→Nm .u8 w' U O.1.2∧w'.cell? (oa.add 0)=some (.string O.1.1)∧w'.cell? (oa.add 1)=some U:=fun hf=>by
  rw[X]at hf
  exact⟨hf.nm 1 rfl,hf.cell 0 0 rfl rfl,hf.cell 0 1 rfl rfl⟩
 unfold E0 at a1 o1 p1
 have ao:∀{p:Prop},le≠0→vs.length>0→p:=fun h1 h2=>by rw[p2 h1]at am;exact absurd am (by rw[ME];omega)
 have an:∀{p:Prop},A.2≠0→us.length>0→p:=fun h1 h2=>by rw[a2 h1]at al;exact absurd al (by rw[ME];omega)
 refine⟨fun w'=>w'=w8,cC (fun _=>cC (fun _=>cC (fun _=>cC (fun _=>cC (fun _=>cC (fun _=>cC (fun _=>aG (fun h=>absurd h (by omega)) (fun _=>rfl)) (fun h=>absurd h (by omega))) (fun h=>absurd h (by omega))) (fun h=>absurd h (by omega))) (fun h=>absurd h (by omega))) (fun h=>absurd h (by omega))) (fun h=>absurd h (by omega))) (fun h=>absurd h (by omega)),?_⟩
 rintro _ _ rfl
 refine⟨fun w'=>Fr w w' J,?_,?_⟩
 ·have ab:A.2=0→le=0:=fun h=>(a3 h).1
  refine cA (fun h1=>cK (hL f8) (cC (fun _=>?_) (fun hc=>ao h1 (by omega)))) (fun h1=>?_)
  all_goals refine cA (fun h2=>cK (hA f8).1 (cC (fun _=>?_) (fun hc=>an h2 (by omega)))) (fun h2=>?_)
  all_goals refine cA (fun h3=>lR [.string O.1.1,U] (fun j u hj=>?_) (gC (qjM (O.1.1,U,O.1.2) (⟨#[]⟩,bR,[]) (hO f8).1 (Nm.nil .u8 _)) fun w9 h9=>yE (fun _=>cN (fun h4=>cA (fun h5=>absurd (ab h4) h5) (fun _=>f8.ev h9)) (fun _=>f8.ev h9)) (fun hc=>?_)) rfl (by kernel_rfl)) (fun h3=>cN (fun h4=>cA (fun h5=>absurd (ab h4) h5) (fun _=>f8)) (fun _=>f8))
  all_goals first
   |(rcases j with _|_|j
     ·simp at hj;subst hj;exact(hO f8).2.1
     ·simp at hj;subst hj;exact(hO f8).2.2
     ·simp at hj)
   |(rw[o2 h3]at hc;exact absurd (of_decide_eq_false hc) (by simp [er,NG]))
 rintro _ w9 f9
 refine⟨fun w'=>Fr w w' J,cK (hL f9) (cC (fun _=>cK (hA f9).1 (cC (fun _=>cN (fun h3=>dV (hO f9).2.2 (aP (hO f9).1 (aG (fun hc=>?_) (fun _=>f9)))) (fun _=>f9)) (fun hc=>?_))) (fun hc=>?_)),?_⟩
 ·obtain⟨h0,p,hp,aj,az,⟨Y,Z,aa⟩⟩:=o3 h3
  unfold WA at az
  exact absurd hc (by omega)
 ·by_cases hA0:A.2=0
  ·have h1:=a3 hA0
   have:=(p3 h1.1).2.2.2
   exact absurd hc (by omega)
  ·exact an hA0 (by omega)
 ·by_cases h0:le=0
  ·have:=(p3 h0).2.2.2
   exact absurd hc (by omega)
  ·exact ao h0 (by omega)
 rintro _ co f10
 refine⟨fun i w'=>∃j:Nat,i=(j:Int)∧j≤vs.length∧Fr w w' J,fun i _=>(vs.length-i).toNat,⟨0,rfl,bW _,f10⟩,?_⟩
 rintro _ i I ⟨j,rfl,hj,C⟩
 refine cK (hL C) (aG (fun cR=>?_) (fun bm=>?_))
 ·have T:j<vs.length:=by omega
  have hu:=fR T
  generalize vs[j]=u at hu
  have ab:le=0:=Classical.byContradiction fun h=>ao h (by omega)
  obtain⟨q1,q2,q3,q4⟩:=p3 ab
  have bb:its[j]?=some u.p:=by rw[←ac,jD,hu];rfl
  have bd:u.p∈its:=tM bb
  have N:=q1 u.p bd
  refine⟨fun w'=>Fr w w' J,?_,fun _ w' f'=>⟨⟨j+1,by rw[aD (by omega) (by omega)];omega,by omega,f'⟩,by dsimp only;rw[aD (by omega) (by omega)];omega⟩⟩
  refine⟨fun w'=>Fr w w' J,?_,?_⟩
  ·have fd:=C.drew
   refine⟨fun w'=>Ev I.drew w',Ch.refl _ _,uD (hL C) rfl hu fun ad hc=>kB (fun w' hw=>Ch.cell hw (Ch.cell (Ev.drew0 I) (hc 0 _ rfl) fun h=>h) fun h=>h) (gC (qcK u.p.name (by have:=N.2.2.2.2.1;omega)) fun r bl=>?_)⟩
   obtain rfl:r=I.drew:=bl
   rw[N.2.2.2.1]
   refine⟨Ch.refl _ _,yE (fun _=>aG (fun bn=>?_) (fun bn=>?_)) (fun h=>by cases h)⟩
   ·obtain⟨k,rfl⟩:∃k,j=k+1:=⟨j-1,by omega⟩
    have ak:=fR (show k<vs.length by omega)
    generalize vs[k]=u' at ak
    have bc:its[k]?=some u'.p:=by rw[←ac,jD,ak];rfl
    have ax:G5 u'.p.name u.p.name=true:=by
     obtain⟨g1,g2⟩:=List.getElem?_eq_some_iff.1 bc
     obtain⟨g3,g4⟩:=List.getElem?_eq_some_iff.1 bb
     have:=List.pairwise_iff_getElem.1 q2 k (k+1) g1 g3 (by omega)
     rwa [g2,g4]at this
    have hbl:Op.bytesLess u'.p.name.toList u.p.name.toList=true:=by rw[ZI,ZI];exact ax
    refine uD (hL C) (by rw[aD (by omega) (by omega)];omega) ak fun V hc2=>kB (fun w' hw=>Ch.cell hw (Ch.cell (Ev.drew0 I) (hc2 0 _ rfl) fun h=>h) fun h=>h) (uD (hL C) rfl hu fun bi hc3=>kB (fun w' hw=>Ch.cell hw (Ch.cell (Ev.drew0 I) (hc3 0 _ rfl) fun h=>h) fun h=>h) ?_)
    rw[hbl]
    exact VK (uD (hL C) rfl hu fun bj ah=>aN (fun w' hw=>Ch.cell hw (Ch.cell (Ev.drew0 I) (ah 1 _ rfl) fun h=>h) fun h=>h) (aG (fun h=>absurd h (by have:=N.1.1;omega)) (fun _=>fd)))
   ·exact uD (hL C) rfl hu fun bj ah=>aN (fun w' hw=>Ch.cell hw (Ch.cell (Ev.drew0 I) (ah 1 _ rfl) fun h=>h) fun h=>h) (aG (fun h=>absurd h (by have:=N.1.1;omega)) (fun _=>fd))
  ·rintro _ r f12
   have fd:=f12.drew
   have M:=hO fd
   refine⟨fun w'=>Ev r.drew w',Ch.refl _ _,cN (fun h3=>?_) (fun _=>fd)⟩
   obtain⟨_,p,hp,aj,az,⟨Y,Z,aa⟩⟩:=o3 h3
   refine uD (hL f12) rfl hu fun ad hc=>kB (fun w' hw=>Ch.cell hw (Ch.cell (Ev.drew0 r) (hc 0 _ rfl) fun h=>h) fun h=>h) ?_
   rw[IT]
   refine aG (fun bp=>?_) (fun _=>fd)
   have bq:p=u.p:=qqA q2 hp bd (by rw[aj,bp])
   subst bq
   refine dE (fun w' hw=>Ch.cell hw M.2.2 fun h=>h) (aP M.1 (uD (hL f12) rfl hu fun V hc2=>aN (fun w' hw=>Ch.cell hw (Ch.cell (Ev.drew0 r) (hc2 1 _ rfl) fun h=>h) fun h=>h) (iC (fun _=>?_) (fun h=>absurd Z h))))
   refine dE (fun w' hw=>Ch.cell hw M.2.2 fun h=>h) (uD (hL f12) rfl hu fun bi hc3=>aN (fun w' hw=>Ch.cell hw (Ch.cell (Ev.drew0 r) (hc3 2 _ rfl) fun h=>h) fun h=>h) ?_)
   refine bQ (qe4 M.1 (by have:=N.1.2;omega)) fun ap ag=>?_
   obtain rfl:ap=r.drew:=ag
   refine⟨Ch.refl _ _,iC (fun _=>kB (fun w' hw=>Ch.cell hw M.2.1 fun h=>h) ?_) (fun h=>absurd aa h)⟩
   rw[IT]
   exact cC (fun h=>absurd (Y.trans aj) h) (fun _=>fd)
 ·obtain rfl:j=vs.length:=by omega
  refine⟨fun t i w'=>∃j:Nat,i=(j:Int)∧j≤us.length∧t=gJ (A.1.take j)∧Fr w w' J,fun _ i _=>(us.length-i).toNat,⟨0,rfl,bW _,by rw[MC];rfl,C⟩,?_⟩
  rintro _ t i r ⟨k,rfl,hk,rfl,f12⟩
  refine cK (hA f12).1 (aG (fun cR=>?_) (fun bm=>?_))
  ·have T:k<us.length:=by omega
   have hA0:A.2=0:=Classical.byContradiction fun h=>an h (by omega)
   obtain⟨h0,h1,h2,h3⟩:=a3 hA0
   obtain⟨q1,q2,q3,q4⟩:=p3 h0
   have hu:=fR T
   have hv:=fR (show k<vs.length by omega)
   generalize us[k]=u at hu
   generalize vs[k]=v at hv
   have ba:A.1[k]?=some (er u):=by rw[←be,jD,hu];rfl
   have bf:its[k]?=some v.p:=by rw[←ac,jD,hv];rfl
   obtain⟨Y,Z,aa⟩:=h3 k v.p (er u) bf ba
   have aw:=q1 v.p (tM bf)
   have br:A.1.take (k+1)=A.1.take k++[er u]:=by
    obtain⟨g1,g2⟩:=List.getElem?_eq_some_iff.1 ba
    rw[iV g1,g2]
   have cj:gJ (A.1.take k)≤1048576*(k:Int)∧0≤gJ (A.1.take k):=by
    refine⟨?_,D6 _⟩
    have:∀l:List En,(∀e∈l,(e.2.length:Int)≤1048576)→gJ l≤1048576*(l.length:Int):=fun l=>by
     induction l with
     |nil=>intro _;simp [gJ]
     |cons e l ih=>
      intro h
      have h1:=ih fun e he=>h e (lL _ he)
      have h2:=h e xJ
      have e1:gJ (e::l)=(e.2.length:Int)+gJ l:=by simp [gJ]
      rw[e1,iO];push_cast;omega
    refine Int.le_trans (this _ fun e he=>?_) ?_
    ·obtain⟨i,hi⟩:=List.mem_iff_getElem?.1 (AK he)
     have ci:=(List.getElem?_eq_some_iff.1 hi).1
     have ae:=fR (show i<its.length by omega)
     have:=(h3 i _ e ae hi).2.1
     have:=(q1 _ (tM ae)).1.2
     omega
    ·rw[eJ];omega
   have ai:=(hA f12).2 u (tM hu)
   have ay:=ai.ev (Ev.drew0 r)
   have au:((u.2.2.length:Nat):Int)=v.p.size:=Z
   refine xP (hA f12) rfl hu fun ad h0 h1=>dV h1 (aP ai ?_)
   refine⟨fun w'=>Ev r.drew w',Ch.refl _ _,cK (hL f12) (cC (fun _=>xP (hA f12) rfl hu fun ad h0 h1=>kB (fun w' hw=>Ch.cell hw (Ch.cell (Ev.drew0 r) h0 fun h=>h) fun h=>h) (uD (hL f12) rfl hv fun V hc2=>kB (fun w' hw=>Ch.cell hw (Ch.cell (Ev.drew0 r) (hc2 0 _ rfl) fun h=>h) fun h=>h) ?_)) (fun h=>absurd h (by omega)))⟩
   rw[IT]
   refine DZ (fun _=>?_) (fun h=>absurd Y h)
   refine xP (hA f12) rfl hu fun ad h0 h1=>dE (fun w' hw=>Ch.cell hw (Ch.cell (Ev.drew0 r) h1 fun h=>h) fun h=>h) (aP ai (uD (hL f12) rfl hv fun V hc2=>aN (fun w' hw=>Ch.cell hw (Ch.cell (Ev.drew0 r) (hc2 1 _ rfl) fun h=>h) fun h=>h) (iC (fun _=>?_) (fun h=>absurd au h))))
   refine xP (hA f12) rfl hu fun ad h0 h1=>dE (fun w' hw=>Ch.cell hw (Ch.cell (Ev.drew0 r) h1 fun h=>h) fun h=>h) (uD (hL f12) rfl hv fun V hc2=>aN (fun w' hw=>Ch.cell hw (Ch.cell (Ev.drew0 r) (hc2 2 _ rfl) fun h=>h) fun h=>h) ?_)
   refine bQ (qe4 ay (by have:=aw.1.2;omega)) fun ap ag=>?_
   obtain rfl:ap=r.drew:=ag
   refine⟨Ch.refl _ _,cA (fun h=>absurd aa h) (fun _=>⟨⟨k+1,by rw[aD (by omega) (by omega)];omega,by omega,?_,f12.drew⟩,by dsimp only;rw[aD (by omega) (by omega)];omega⟩)⟩
   rw[br,DE]
   have e1:gJ [er u]=((u.2.2.length:Nat):Int):=by simp [gJ,er]
   have hk1:=aw.1
   rw[e1,aD (by omega) (by omega)]
  ·obtain rfl:k=us.length:=by omega
   refine iC (fun hA0=>cK (hA f12).1 (cK (hL f12) ?_)) (fun _=>⟨rfl,f12.old⟩)
   obtain⟨h0,h1,h2,h3⟩:=a3 hA0
   refine cN (fun _=>⟨?_,f12.old⟩) (fun h=>absurd (by omega) h)
   rw[al,qU]
   have hz:gJ A.1=QB its:=by
    have:∀(l:List En) (ps:List ItP),l.length=ps.length→(∀(i:Nat) (p:ItP) (e:En),ps[i]?=some p→l[i]?=some e→qmA p e)→gJ l=QB ps:=fun l=>by
     induction l with
     |nil=>intro ps hl _;cases ps with
      |nil=>rfl
      |cons p ps=>cases hl
     |cons e l ih=>
      intro ps hl hf
      cases ps with
      |nil=>cases hl
      |cons p ps=>
       have h1:=ih ps (by simpa using hl) fun i p' e' hp he=>hf (i+1) p' e' (by simpa using hp) (by simpa using he)
       have h2:=(hf 0 p e rfl rfl).2.1
       have e1:gJ (e::l)=(e.2.length:Int)+gJ l:=by simp [gJ]
       rw[e1,qod,h1,h2]
    exact this _ _ h1 h3
   rw[hz,decide_eq_true (by unfold WA at h2;exact h2)]
end
end
def qiQ(p:ItP):Prop:=okI p∧iL p.chain=true∧p.packed≤grI p.size∧(p.chain=[]→p.packed=p.size)
end Go.Proofs.YtabchipjjghhnaaGreatDoorV
