import Derived.Test.YtabchipjjghhnaaGreatDoorVPart11
set_option linter.unusedVariables false
set_option linter.unusedSimpArgs false
namespace Go.Proofs.YtabchipjjghhnaaGreatDoorV
open Go Go.RowKit
section
theorem ST{l:List Int}(h:∀x∈l,0≤x∧x<256):inR .u8 l:=fun x hx=>IZ (h x hx)
theorem qqe:inR .u8 qe8:=ST (by decide)
theorem qqC:inR .u8 qfK:=ST (by decide)
theorem qrL:inR .u8 qrJ:=ST (by decide)
theorem qrA:inR .u8 qpi:=ST (by decide)
theorem qqd{zs:List Int}(h:inR .u8 zs):((tO zs).toList==(ByteArray.mk #[82,73,70,70]).toList)=decide (zs=qe8):=yC h qqe
theorem qqB{zs:List Int}(h:inR .u8 zs):((tO zs).toList==(ByteArray.mk #[87,65,86,69]).toList)=decide (zs=qfK):=yC h qqC
theorem qrK{zs:List Int}(h:inR .u8 zs):((tO zs).toList==(ByteArray.mk #[102,109,116,32]).toList)=decide (zs=qrJ):=yC h qrL
theorem qrz{zs:List Int}(h:inR .u8 zs):((tO zs).toList==(ByteArray.mk #[100,97,116,97]).toList)=decide (zs=qpi):=yC h qrA
theorem qir(x y:Int):(x==y)=decide (x=y):=by by_cases h:x=y<;>simp [h]
def qnJ(ad:Addr)(w:World):Nat:=match w.cell? (ad.add 1)with
 |some (.int _ n)=>n.toNat
 |_=>0
theorem qr4{xs:List Int}{a:Nat}(ha:a+8≤xs.length)(hl:xs.length≤1000000000):i64 ((if(xs.length:Int)<((a+8+qH xs a:Nat):Int)then(xs.length:Int)else((a+8+qH xs a:Nat):Int))-((a+8:Nat):Int))=((yW xs a:Nat):Int):=by
 unfold yW
 split<;>split<;>rw[aD (by omega) (by omega)]<;>omega
theorem qfN(n:Int):IntKind.i64.wrap n=i64 n:=rfl
section
variable {w:World} {xs:List Int} {b:Value}
theorem QL(hb:Nm .u8 w b xs)(hl:xs.length≤1000000000):Calls P L8 #[b] w (qrl w (nZ xs)):=by
 refine qcy (qbU (Fr.start w) fun t2 w1 f1=>?_)
 have M:=hb.ev f1.old
 have bd:inR .u8 (R6 xs 0):=(hb.2.drop _).take _
 have be:inR .u8 (R6 xs 8):=(hb.2.drop _).take _
 refine⟨fun w'=>¬(xs.length<12∨R6 xs 0≠qe8∨R6 xs 8≠qfK)∧w'=w1,aP M (cC (fun cc=>?_) (fun cR=>?_)),?_⟩
 ·refine dJ M 0 4 (.inl ⟨rfl,rfl⟩) (.inr ⟨_,rfl⟩) (by omega) (by omega) fun hs=>lA hs ?_
  rw[show((tO ((xs.drop 0).take (4-0))).toList==(ByteArray.mk #[82,73,70,70]).toList)=decide (R6 xs 0=qe8)from qqd bd]
  refine DZ (fun hr=>dJ M 8 12 (.inr ⟨_,rfl⟩) (.inr ⟨_,rfl⟩) (by omega) (by omega) fun bh=>lA bh ?_) (fun hr=>?_)
  ·rw[show((tO ((xs.drop 8).take (12-8))).toList==(ByteArray.mk #[87,65,86,69]).toList)=decide (R6 xs 8=qfK)from qqB be]
   refine cC (fun hw=>?_) (fun hw=>⟨fun hh=>?_,rfl⟩)
   ·exact V5 (r:=noW) f1 0 rfl rfl (by unfold nZ;rw[if_pos (.inr (.inr hw))])
   ·rcases hh with hh|hh|hh
    ·omega
    ·exact hh hr
    ·exact hh hw
  ·exact V5 (r:=noW) f1 0 rfl rfl (by unfold nZ;rw[if_pos (.inr (.inl hr))])
 ·exact V5 (r:=noW) f1 0 rfl rfl (by unfold nZ;rw[if_pos (.inl (by omega))])
 rintro _ w7 ⟨hok,bi⟩
 obtain rfl:w1=w7:=bi.symm
 have bf:nZ xs=goW xs (xs.length+1) 12 false false 0 0:=by unfold nZ;rw[if_neg hok]
 refine qau f1 M (by omega) fun ad y w8 f8=>aP (hb.ev f8.old) (mL f8 fun c w9 f9=>?_)
 have f9:Fr w w9 (chF ad c y xs 0 [aT t2 Wv.z.c]):=f9.picks [1,2,0,3] (by decide)
 refine aC (fJ (v:=some ad) (f9.cell 2 0 rfl rfl) (qiG (n:=12) f9 (by omega) hl fun z bj f10=>?_))
 have f10:Fr w bj (chF ad c y xs 12 [aT t2 Wv.z.c]):=by
  have:=f10.drop 2
  exact this
 refine qbU f10 fun w5 bl X=>?_
 have X:Fr w bl (chF ad c y xs 12 [aT w5 (Wv.mk 0 0 0 0).c,aT t2 Wv.z.c]):=X.picks [1,2,3,0,4] (by decide)
 refine⟨fun has af w'=>∃(f a:Nat) (ch bits:Int),a≤xs.length∧(0≤ch∧ch<65536)∧(0≤bits∧bits<65536)∧nZ xs=goW xs f a has af ch bits∧xs.length<f+a∧Fr w w' (chF ad c y xs a [aT w5 (Wv.mk ch bits 0 0).c,aT t2 Wv.z.c]),fun _ _ w'=>xs.length+1-qnJ ad w',⟨xs.length+1,12,0,0,by omega,by omega,by omega,bf,by omega,X⟩,?_⟩
 rintro _ has af bm ⟨f,a,ch,bits,ha,bb,ac,hp,cf,f12⟩
 have am:qnJ ad bm=a:=by
  unfold qnJ
  rw[f12.cell (u:=aB (a:Int)) 0 1 rfl rfl];rfl
 obtain⟨f,rfl⟩:∃f',f=f'+1:=⟨f-1,by omega⟩
 refine aO (qkQ f12 ha hl) ?_
 rintro _ O (⟨cR,rfl,g⟩|⟨aj,rfl,g⟩)
 ·exact⟨_,_,_,_,rfl,oP (V5 (r:=noW) g 4 rfl rfl (by rw[hp,goW,if_pos cR]))⟩
 refine⟨_,_,_,_,rfl,V7 ?_⟩
 have hx:=hb.2
 have ak:inR .u8 (R6 xs a):=(hx.drop _).take _
 have cg:=qbW hx (a+4) 4 (by omega)
 have ci:((qH xs a:Nat):Int)=qX xs (a+4) 4:=by unfold qH;omega
 rw[goW,if_neg (by omega)]at hp
 have i1:i64 (((a+8+qH xs a:Nat):Int)-((a+8:Nat):Int))=((qH xs a:Nat):Int):=by rw[aD (by omega) (by omega)];omega
 have i2:i64 (((a+8:Nat):Int)+16)=((a+24:Nat):Int):=by rw[aD (by omega) (by omega)];omega
 rw[qrK ak,qrz ak,i1,i2]
 refine⟨fun T V w'=>∃ch' j:Int,(0≤ch'∧ch'<65536)∧(0≤j∧j<65536)∧nZ xs=(if H6 xs a>xs.length-(a+8)then noW else goW xs f (a+8+H6 xs a) T V ch' j)∧Fr w w' (chF ad c y xs (a+8) [aT w5 (Wv.mk ch' j 0 0).c,aT t2 Wv.z.c]),⟨fun t w'=>w'=O∧t=decide (PP xs a has),?_,?_⟩,?_⟩
 ·refine aG (fun h1=>oO (fun h2=>aG (fun h3=>aP (hb.ev g.old) ⟨rfl,?_⟩) (fun h3=>⟨rfl,?_⟩)) (fun h2=>⟨rfl,?_⟩)) (fun h1=>⟨rfl,?_⟩)
  ·rw[decide_eq_decide];unfold PP
   exact⟨fun h4=>⟨h1,h2,by omega,by omega⟩,fun h4=>by omega⟩
  ·rw[decide_eq_false];unfold PP;omega
  ·rw[decide_eq_false];unfold PP;rw[h2];simp
  ·rw[decide_eq_false];unfold PP;exact fun hh=>h1 hh.1
 ·rintro _ t bn ⟨an,ht⟩
  obtain rfl:O=bn:=an.symm
  subst ht
  refine aG (fun hf=>?_) (fun hf=>?_)
  ·rw[if_pos hf]at hp
   obtain⟨_,_,_,ab⟩:=id hf
   refine dJ (hb.ev g.old) (a+8) (a+24) (.inr ⟨_,rfl⟩) (.inr ⟨_,rfl⟩) (by omega) ab fun hs=>?_
   obtain⟨sl,C⟩:∃sl,sl=(xs.drop (a+8)).take 16:=⟨_,rfl⟩
   rw[show a+24-(a+8)=16 by omega,←C]at hs
   have bx:sl.length=16:=by rw[C,eJ,cQ];omega
   have e0:qX sl 0 2=qX xs (a+8) 2:=by rw[C,VE (by omega)]
   have e1:qX sl 2 2=qX xs (a+10) 2:=by rw[C,VE (by omega)]
   have e2:qX sl 14 2=qX xs (a+22) 2:=by rw[C,VE (by omega)]
   have r1:=qd8 hx (a+10)
   have r2:=qd8 hx (a+22)
   refine qau g hs (by omega) fun ag y2 cl aw=>JM (n:=2) aw (by omega) (by omega) (by omega) fun cm ax=>JM (n:=2) ax (by omega) (by omega) (by omega) fun cn ay=>?_
   rw[e0,show qX sl (0+2) 2=qX xs (a+10) 2 from e1,aD (n:=qX xs (a+10) 2) (by omega) (by omega)]
   refine dT ay 5 0 rfl fun bp Y=>?_
   have Y:Fr w bp (aT ag [y2,aB ((0+2+2:Nat):Int),aB 0]::bI .u8 eB y2 sl::chF ad c y xs (a+8) [aT w5 (Wv.mk (qX xs (a+10) 2) bits 0 0).c,aT t2 Wv.z.c]):=Y
   refine qiG (n:=10) Y (by omega) (by omega) fun z co Z=>?_
   have Z:=Z.drop 2
   refine JM (n:=2) (a:=14) Z (by omega) (by omega) (by omega) fun cp az=>?_
   rw[e2,aD (n:=qX xs (a+22) 2) (by omega) (by omega)]
   refine dT az 5 1 rfl fun bq aa=>?_
   have aa:Fr w bq (aT ag [y2,aB ((14+2:Nat):Int),aB 0]::bI .u8 eB y2 sl::chF ad c y xs (a+8) [aT w5 (Wv.mk (qX xs (a+10) 2) (qX xs (a+22) 2) 0 0).c,aT t2 Wv.z.c]):=aa
   refine⟨qX xs (a+10) 2,qX xs (a+22) 2,r1,r2,?_,(aa.drop 0).drop 0⟩
   rw[hp,qir]
  ·rw[if_neg hf]at hp
   refine⟨fun t w'=>w'=O∧t=decide (R6 xs a=qpi∧has=true),aG (fun h1=>⟨rfl,?_⟩) (fun h1=>⟨rfl,?_⟩),?_⟩
   ·cases has with
    |true=>rw[decide_eq_true ⟨h1,rfl⟩]
    |false=>rw[decide_eq_false (by simp)]
   ·rw[decide_eq_false (fun hh=>h1 hh.1)]
   rintro _ t br ⟨ao,ht⟩
   obtain rfl:O=br:=ao.symm
   subst ht
   refine aG (fun hd=>?_) (fun hd=>⟨ch,bits,bb,ac,by rw[hp,if_neg hd],g⟩)
   rw[if_pos hd]at hp
   refine fWv (Wv.mk ch bits 0 0) g 3 rfl (bQ (qgP (ch:=ch) (bits:=bits) (by omega) (by omega)) fun aq ab=>?_)
   have A:=g.ev ab
   have U:=qr4 (xs:=xs) (a:=a) aj hl
   have bw:yW xs a≤xs.length-(a+8):=by unfold yW;split<;>omega
   refine⟨fun w'=>(af=true∧mR ch bits≠0∧¬((yW xs a:Int)<mR ch bits))∧w'=aq,yE (fun h1=>jP (fun h2=>aP (hb.ev A.old) (U.symm▸aG (fun h3=>?_) (fun h3=>⟨⟨h1,h2,h3⟩,rfl⟩))) (fun h2=>?_)) (fun h1=>?_),?_⟩
   ·exact V5 (r:=noW) A 4 rfl rfl (by rw[hp];unfold BO;rw[if_neg (fun hh=>hh.2.2 h3)])
   ·exact V5 (r:=noW) A 4 rfl rfl (by rw[hp];unfold BO;rw[if_neg (fun hh=>hh.2.1 h2)])
   ·exact V5 (r:=noW) A 4 rfl rfl (by rw[hp];unfold BO;rw[if_neg (fun hh=>by rw[h1]at hh;cases hh.1)])
   rintro _ bt ⟨hc,ap⟩
   obtain rfl:aq=bt:=ap.symm
   obtain⟨q1,q2,q3,q4,q5⟩:=VF hc.2.1
   have q:nZ xs=(⟨ch,bits,(a+8:Nat),((a+8:Nat):Int)+(yW xs a:Int)/mR ch bits*mR ch bits⟩,true):=by rw[hp];unfold BO;rw[if_pos hc]
   obtain⟨fr,bc⟩:∃fr,fr=mR ch bits:=⟨_,rfl⟩
   rw[←bc]at q q5⊢
   have h7:(yW xs a:Int)/fr*fr≤(yW xs a:Int):=Int.ediv_mul_le _ (by omega)
   have h8:0≤(yW xs a:Int)/fr:=QS (by omega) (by omega)
   have h9:0≤(yW xs a:Int)/fr*fr:=DN h8 (by omega)
   have cb:(yW xs a:Int)/fr≤(yW xs a:Int):=ZM _ (by omega)
   refine⟨fun _=>True,trivial,aP (hb.ev A.old) ?_⟩
   rw[U]
   refine F4 (by omega) ?_
   rw[sH (by omega),qfN,aD (n:=(yW xs a:Int)/fr) (by omega) (by omega),aD (n:=(yW xs a:Int)/fr*fr) (by omega) (by omega),aD (n:=((a+8:Nat):Int)+(yW xs a:Int)/fr*fr) (by omega) (by omega)]
   refine dT A.drew 3 2 rfl fun cq ba=>⟨trivial,dT ba 3 3 rfl fun bu J=>⟨trivial,?_⟩⟩
   have J:Fr w bu (chF ad c y xs (a+8) [aT w5 (Wv.mk ch bits ((a+8:Nat):Int) (((a+8:Nat):Int)+(yW xs a:Int)/fr*fr)).c,aT t2 Wv.z.c]):=J
   refine fWv (Wv.mk ch bits ((a+8:Nat):Int) (((a+8:Nat):Int)+(yW xs a:Int)/fr*fr)) J 3 rfl ?_
   exact V5 (r:=(⟨ch,bits,((a+8:Nat):Int),((a+8:Nat):Int)+(yW xs a:Int)/fr*fr⟩,true)) J 4 rfl rfl (by rw[q])
 ·rintro _ T V cr ⟨ch',j,ai,N,al,av⟩
  refine aO (qla av aj hl) ?_
  rintro _ bv (⟨hs,rfl,I⟩|⟨hs,rfl,I⟩)
  ·exact⟨_,rfl,oP (V5 (r:=noW) I 4 rfl rfl (by rw[al,if_pos hs]))⟩
  ·refine⟨_,rfl,V7 ⟨⟨f,a+8+H6 xs a,ch',j,by omega,ai,N,by rw[al,if_neg (by omega)],by omega,I⟩,?_⟩⟩
   have ae:qnJ ad bv=a+8+H6 xs a:=by
    unfold qnJ
    rw[I.cell (u:=aB ((a+8+H6 xs a:Nat):Int)) 0 1 rfl rfl];rfl
   dsimp only
   rw[am,ae];omega
end
end
section
theorem qpH{p:Wv}{N:Nat}(h:InW p N):∃F T ch size n:Nat,p=⟨(ch:Int),((8*size:Nat):Int),(F:Int),(T:Int)⟩∧1≤ch∧ch≤8∧(size=1∨size=2)∧F<T∧T≤N∧T-F=n*(ch*size)∧1≤n:=by
 obtain⟨a1,a2,a3,a4,a5,a6,q,u⟩:=h
 obtain⟨ch,bits,fr,to⟩:=p
 simp only at*
 obtain⟨size,hs,hb⟩:∃size:Nat,(size=1∨size=2)∧bits=((8*size:Nat):Int):=by
  rcases a3 with rfl|rfl
  ·exact⟨1,.inl rfl,rfl⟩
  ·exact⟨2,.inr rfl,rfl⟩
 subst hb
 have hf:ch*((8*size:Nat):Int)/8=((ch.toNat*size:Nat):Int):=by
  rcases hs with rfl|rfl
  ·show ch*8/8=((ch.toNat*1:Nat):Int);omega
  ·show ch*16/8=((ch.toNat*2:Nat):Int);omega
 rw[hf]at q
 have hd:to-fr=((to.toNat-fr.toNat:Nat):Int):=by omega
 rw[hd,←QM]at q
 have r:(to.toNat-fr.toNat)%(ch.toNat*size)=0:=by omega
 have j:=ZL (to.toNat-fr.toNat) (ch.toNat*size)
 rw[r,Nat.add_zero,A4]at j
 have hn:1≤(to.toNat-fr.toNat)/(ch.toNat*size):=by
  refine Decidable.byContradiction fun hc=>?_
  rw[Nat.lt_one_iff.1 (Nat.lt_of_not_le hc),qac]at j
  omega
 refine⟨fr.toNat,to.toNat,ch.toNat,size,(to.toNat-fr.toNat)/(ch.toNat*size),?_,by omega,by omega,hs,by omega,by omega,j.symm,hn⟩
 congr 1<;>omega
def AA(r:List (Int×List Int)):List Int:=(r.map fun u=>eD u.1.toNat++eD u.2.length++u.2).flatten
theorem UK{r:List (Int×List Int)}{k:Nat}(hk:k<r.length):AA (r.take (k+1))=AA (r.take k)++eD r[k].1.toNat++(eD r[k].2.length++r[k].2):=by
 unfold AA
 rw[iV hk,gQ,LZ];simp
def NE(L:List Int):List Int:=(L.map fun y=>eD y.toNat).flatten
theorem qkO{L:List Int}{k:Nat}(hk:k<L.length):NE (L.take (k+1))=NE (L.take k)++eD L[k].toNat:=by
 unfold NE
 rw[iV hk,gQ,LZ];simp
theorem qnj{L:List Int}(h:∀x∈L,0≤x∧x<18446744073709551616):(NE L).length≤L.length*10:=by
 induction L with
 |nil=>simp [NE]
 |cons y L j=>
  have h1:=j fun x hx=>h x (lL _ hx)
  have h2:=h y xJ
  have h3:(eD y.toNat).length≤10:=fH (by omega)
  have h4:NE (y::L)=eD y.toNat++NE L:=rfl
  rw[h4,bD,iO];omega
noncomputable def XL(xs:List Int):List Int×Bool:=
 if(nZ xs).2=true∧xs.length≤1048576 then
  let p:=(nZ xs).1
  let F:=p.fr.toNat
  let T:=p.to.toNat
  let ch:=p.ch.toNat
  let size:=(p.bits/8).toNat
  let r:=MI (qI ((xs.drop F).take (T-F)) ch size ((T-F)/(ch*size)*ch))
  (NE [(xs.length:Int),p.fr,p.to,p.ch,p.bits]++eD (if r.2=true then 1 else 0)++(xs.take F++xs.drop T)++AA r.1,true)
 else([],false)
section
variable {w0 w:World} {F:List It}
theorem Fr.rot{x:It}:∀{G:List It},Fr w0 w (G++[x])→Fr w0 w (x::G)
 |[],h=>h
 |g::G,h=>by
  have h1:Fr w0 w (G++[x]):=h.2.2.2
  have j:=Fr.rot h1
  refine⟨j.1,j.2.1,fun jt hj k hk=>?_,⟨h.1,h.2.1,fun jt hj=>h.2.2.1 jt (qbq _ hj),j.2.2.2⟩⟩
  rcases List.mem_cons.1 hj with rfl|hj
  ·exact fun hg=>h.2.2.1 x (List.mem_append_right _ (List.mem_singleton.2 rfl)) k hg hk
  ·exact j.2.2.1 jt hj k hk
theorem qhU{xs:List Int}{ch size n:Nat}{ys:List Int}(h:ys∈qI xs ch size (n*ch)):ys.length=n:=by
 unfold qI at h
 obtain⟨k,hk,rfl⟩:=List.mem_map.1 h
 unfold H8
 rw[dS,qmk (List.mem_range.1 hk)]
theorem qj0{b:Value}{xs:List Int}(hb:Nm .u8 w b xs)(hl:xs.length≤1000000000):Calls P uI #[b] w (TV w (XL xs)):=by
 refine d9 (qaF (QL hb hl) fun w1 h1=>qbU ((Fr.start w).ev h1) fun w4 w2 f2=>qgM f2 0 rfl rfl fun w3 f3=>?_)
 have f3:Fr w w3 [aT w4 (nZ xs).1.c]:=f3
 have ac:¬((nZ xs).2=true∧xs.length≤1048576)→TV w (XL xs) (bP #[bR,.bool false]) w3:=fun hn=>by
  unfold XL;rw[if_neg hn]
  exact⟨_,rfl,f3.old,ON.nil _ _ _ _⟩
 refine⟨fun w'=>((nZ xs).2=true∧xs.length≤1048576)∧w'=w3,yE (fun ht=>aP (hb.ev f3.old) (aG (fun cy=>ac (by omega)) (fun az=>⟨⟨ht,by omega⟩,rfl⟩))) (fun hf=>ac (by rw[hf];simp)),?_⟩
 rintro _ cg ⟨⟨ht,az⟩,bx⟩
 obtain rfl:w3=cg:=bx.symm
 obtain⟨q,T,ch,size,n,hp,c1,c8,hs,cw,aj,hn,db⟩:=qpH (qkY ht)
 obtain⟨p,bc⟩:∃p,p=(nZ xs).1:=⟨_,rfl⟩
 rw[←bc]at hp f3
 have br:XL xs=(NE [(xs.length:Int),(q:Int),(T:Int),(ch:Int),((8*size:Nat):Int)]++eD (if(MI (qI ((xs.drop q).take (T-q)) ch size (n*ch))).2=true then 1 else 0)++(xs.take q++xs.drop T)++AA (MI (qI ((xs.drop q).take (T-q)) ch size (n*ch))).1,true):=by
  unfold XL
  rw[if_pos ⟨ht,az⟩,←bc,hp]
  dsimp only
  have e1:(((8*size:Nat):Int)/8).toNat=size:=by omega
  have e2:(T-q)/(ch*size)=n:=by rw[hn,Nat.mul_div_cancel _ (Nat.mul_pos (by omega) (by omega))]
  simp only[dH,e1,e2]
 rw[br]
 rw[hp]at f3
 have bn:1≤ch*size:=U3 c1 (show 1≤size by omega)
 have dc:n≤T-q:=by rw[hn];exact ZK _ bn
 obtain⟨A,aw⟩:∃A,A=(Wv.mk (ch:Int) ((8*size:Nat):Int) (q:Int) (T:Int)).c:=⟨_,rfl⟩
 rw[←aw]at f3
 have cj:A[0]?=some (aB (ch:Int))∧A[1]?=some (aB ((8*size:Nat):Int))∧A[2]?=some (aB (q:Int))∧A[3]?=some (aB (T:Int)):=by rw[aw];exact⟨rfl,rfl,rfl,rfl⟩
 obtain⟨ap,aq,ae,af⟩:=cj
 have hB:∀{w':World} {F':List It} (i:Nat),Fr w w' F'→F'[i]?=some (aT w4 A)→∀(j:Nat) (u:Value),A[j]?=some u→w'.cell? (w4.add j)=some u:=fun i f hi j u hj=>f.cell i j hi hj
 refine⟨fun w'=>∀(j:Nat) (u:Value),A[j]?=some u→w'.cell? (w4.add j)=some u,hB 0 f3.drew rfl,aN (fun w' hw=>hw 2 _ ae) (aN (fun w' hw=>hw 3 _ af) (dJ (hb.ev f3.drew.old) q T (.inr ⟨_,rfl⟩) (.inr ⟨_,rfl⟩) (by omega) aj fun bv=>aN (fun w' hw=>hw 0 _ ap) (aN (fun w' hw=>hw 1 _ aq) ?_)))⟩
 obtain⟨xss,am⟩:∃xss,xss=qI ((xs.drop q).take (T-q)) ch size (n*ch):=⟨_,rfl⟩
 have I:∀ys∈xss,ys.length=n:=fun ys h=>qhU (am▸h)
 have dg:xss.length=ch:=by rw[am,IS]
 refine aO (qjV (n:=n) bv c1 c8 hs (by rw[eJ,cQ];omega) (by rw[eJ,cQ];omega)) ?_
 rintro _ w5 ⟨v5,T5,rfl,ai,g5⟩
 rw[←am]at ai⊢
 have f5:=f3.drew.ev g5.old
 refine⟨_,_,rfl,hB 0 f5 rfl,cA (fun h=>(h rfl).elim) (fun _=>?_)⟩
 have cm:T5.length=ch:=by have:=congrArg List.length ai;rw[fE]at this;omega
 have bw:∀(i:Nat) (u:Value) (ys:List Int),(T5.map (·.1))[i]?=some u→xss[i]?=some ys→Nm .i32 w5 u ys:=fun i u ys h1 h2=>by
  rw[jD]at h1
  rw[←ai,jD]at h2
  cases ht:T5[i]? with
  |none=>rw[ht]at h1;cases h1
  |some t=>
   rw[ht]at h1 h2
   simp at h1 h2
   subst h1;subst h2
   exact g5.nm (i+1) (by unfold trF;rw[T7,jD,ht];rfl)
 refine aO (qoY (us:=T5.map (·.1)) (xss:=xss) (by rw[fE];exact g5.row 0 rfl) (by rw[fE];omega) bw (by rw[fE];omega) (fun ys h he=>by have:=I ys h;rw[he]at this;simp at this;omega) (fun ys h=>by have:=I ys h;omega) (fun ys h zs h2=>by rw[I ys h,I zs h2])) ?_
 rintro _ w6 ⟨v6,Q,rfl,hQ,g6⟩
 have f6:=(f5.glue g6).rot
 obtain⟨r,hr⟩:∃r,r=MI xss:=⟨_,rfl⟩
 rw[←hr]at hQ⊢
 have cx:Q.length≤8:=by
  have h1:=congrArg List.length hQ
  rw[fE]at h1
  have h2:r.1.length≤8:=by
   rw[hr];unfold MI
   split
   ·simp;omega
   ·split
    ·simp
    ·simp;omega
  omega
 have bq:∀ys:List Int,ys.length≤1048576→(K4 ys).2.length≤10000000:=fun ys h=>by have:=TH h;omega
 have bd:∀u∈r.1,0≤u.1∧u.1≤4∧u.2.length≤10000000:=fun u hu=>by
  have key:∃ys:List Int,ys.length≤1048576∧u=K4 ys:=by
   rw[hr]at hu
   unfold MI at hu
   have ab:u∈xss.map K4→∃ys:List Int,ys.length≤1048576∧u=K4 ys:=fun h=>by
    obtain⟨ys,h1,rfl⟩:=List.mem_map.1 h
    exact⟨ys,by have:=I ys h1;omega,rfl⟩
   have ax:(xss.getD 0 []).length≤1048576:=by
    rw[lH]
    cases h:xss[0]? with
    |none=>simp
    |some ys=>have:=I ys (tM h);simp;omega
   split at hu
   ·exact ab hu
   ·split at hu
    ·simp only[I5,GL,or_false]at hu
     rcases hu with rfl|rfl
     ·exact⟨_,by unfold zR;rw[dS];exact ax,rfl⟩
     ·exact⟨_,by unfold nC;rw[dS];exact ax,rfl⟩
    ·exact ab hu
  obtain⟨ys,h1,rfl⟩:=key
  have:=qnI (l:=ys)
  exact⟨this.1,this.2.1,bq ys h1⟩
 refine⟨_,_,rfl,qiE f6 fun J v7 w7 f7=>aP (hb.ev f7.old) (cI (n:=(q:Int)) f7 1 2 rfl ae (cI (n:=(T:Int)) f7 1 3 rfl af (cI (n:=(ch:Int)) f7 1 0 rfl ap (cI (n:=((8*size:Nat):Int)) f7 1 1 rfl aq ?_))))⟩
 obtain⟨L,hL⟩:∃L:List Int,L=[(xs.length:Int),(q:Int),(T:Int),(ch:Int),((8*size:Nat):Int)]:=⟨_,rfl⟩
 have ah:∀x∈L,0≤x∧x<9223372036854775807:=fun x hx=>by
  rw[hL]at hx
  simp only[I5,GL,or_false]at hx
  rcases hx with rfl|rfl|rfl|rfl|rfl<;>omega
 have av:L.length=5:=by rw[hL];rfl
 have bl:inR .i64 L:=fun x hx=>by
  have h1:IntKind.i64.min= -9223372036854775808:=by decide
  have h2:IntKind.i64.max=9223372036854775807:=by decide
  have:=ah x hx
  rw[h1,h2];omega
 refine jF L f7 (by rw[hL];rfl) av bl fun M w8 f8=>aP (f8.nm 0 rfl) ?_
 rw[av,←hL]
 have ba:∀k,(NE (L.take k)).length≤50:=fun k=>by
  have h1:=qnj (L:=L.take k) fun x hx=>by have:=ah x (AK hx);omega
  have h2:(L.take k).length≤5:=by rw[eJ];omega
  omega
 have f8:Fr w w8 (bI .i64 (dD P bJ) M L::rN eB J v7 []::aT w4 A::PU v6 Q):=f8
 refine⟨fun i w'=>∃(k:Nat) (v:Value),i=(k:Int)∧k≤5∧Fr w w' (bI .i64 (dD P bJ) M L::rN eB J v (NE (L.take k))::aT w4 A::PU v6 Q),fun i _=>(5-i).toNat,⟨0,v7,rfl,by omega,f8⟩,?_⟩
 rintro _ i w9 ⟨k,v9,rfl,hk,f9⟩
 refine aG (fun cR=>?_) (fun bp=>?_)
 ·have U:k<L.length:=by omega
  have al:=ah L[k] (kH U)
  refine uC (f9.nm 0 rfl) (by omega) (by omega) ?_
  rw[dK L k U,show gD L[k]=L[k]by rw[dW];omega]
  have hk1:=ba k
  refine c9 f9 1 rfl (by omega) (by omega) fun v' w' N=>⟨⟨k+1,v',by rw[aD (by omega) (by omega)];omega,by omega,?_⟩,by dsimp only;rw[aD (by omega) (by omega)];omega⟩
  rw[qkO U];exact N
 obtain rfl:k=5:=by omega
 have U:=ba 5
 rw[gI (by omega)]at f9 U
 obtain⟨fl,C⟩:∃fl:Nat,fl=if r.2=true then 1 else 0:=⟨_,rfl⟩
 rw[←C]
 have cn:(eD fl).length≤10:=fH (by rw[C];split<;>omega)
 refine⟨fun w'=>∃v:Value,Fr w w' (bI .i64 (dD P bJ) M L::rN eB J v (NE L++eD fl)::aT w4 A::PU v6 Q),iQ (fun h=>?_) (fun h=>?_),?_⟩
 ·rw[h,if_pos rfl]at C
  subst C
  exact c9 f9 1 rfl (by decide) (by omega) fun v' w' N=>⟨v',N⟩
 ·rw[h,if_neg (by decide)]at C
  subst C
  exact c9 f9 1 rfl (by decide) (by omega) fun v' w' N=>⟨v',N⟩
 rintro _ dk ⟨di,f13⟩
 refine⟨fun w'=>∀(j:Nat) (u:Value),A[j]?=some u→w'.cell? (w4.add j)=some u,hB 2 f13.drew rfl,aN (fun w' hw=>hw 2 _ ae) (dJ (hb.ev f13.drew.old) 0 q (.inl ⟨rfl,rfl⟩) (.inr ⟨_,rfl⟩) (bW _) (by omega) fun de=>aN (fun w' hw=>hw 3 _ af) (dJ (hb.ev f13.drew.old) T xs.length (.inr ⟨_,rfl⟩) (.inl ⟨rfl,rfl⟩) aj (cJ _) fun df=>?_))⟩
 have X:∀{w'},Ev w w'→Nm .u8 w' (oV 1 b 0 q) (xs.take q)∧Nm .u8 w' (oV 1 b T xs.length) (xs.drop T):=fun he=>by
  have h1:=(hb.ev he).sub 0 q (bW _) (by omega)
  have h2:=(hb.ev he).sub T xs.length aj (cJ _)
  rw[Z9,oL]at h1
  rw[gI (by rw[cQ];exact cJ _)]at h2
  exact⟨h1,h2⟩
 refine qiB [oV 1 b 0 q,oV 1 b T xs.length] f13.drew rfl rfl (fun v hv=>by
  simp only[I5,GL,or_false]at hv
  rcases hv with rfl|rfl
  ·exact(X f13.old).1.one
  ·exact(X f13.old).2.one) fun an dl f14=>⟨hB 3 f14 rfl,?_⟩
 have aa:[xs.take q,xs.drop T].flatten=xs.take q++xs.drop T:=by simp
 have co:(xs.take q++xs.drop T).length≤1048576:=by rw[bD,eJ,cQ];omega
 refine qmx (yss:=[xs.take q,xs.drop T]) f14 2 rfl (fun w' N=>NL.of (N.sl 0 rfl) rfl fun j u ys hu hy=>?_) (by rw[aa,bD];omega) (by simp) fun be cd f15=>⟨hB 3 f15 rfl,?_⟩
 ·rcases j with _|_|j
  ·simp at hu hy;subst hu;subst hy;exact(X N.old).1
  ·simp at hu hy;subst hu;subst hy;exact(X N.old).2
  ·simp at hu
 rw[aa]at f15
 obtain⟨Z,ag⟩:∃Z,Z=NE L++eD fl++(xs.take q++xs.drop T):=⟨_,rfl⟩
 have cl:Z.length≤2000000:=by rw[ag,bD,bD];omega
 have f15:Fr w cd (lIt (dD P aY) an [oV 1 b 0 q,oV 1 b T xs.length]::bI .i64 (dD P bJ) M L::rN eB J be Z::aT w4 A::PU v6 Q):=by rw[ag];exact f15
 rw[←ag]
 have bu:r.1.length=Q.length:=by rw[←hQ,fE]
 have hbl:∀k,k≤r.1.length→(AA (r.1.take k)).length≤k*20000000:=by
  intro k
  induction k with
  |zero=>intro _;simp [AA]
  |succ k ih=>
   intro hk
   have h1:=bd r.1[k] (kH (by omega))
   have h2:(eD r.1[k].1.toNat).length≤10:=fH (by omega)
   have h3:(eD r.1[k].2.length).length≤10:=fH (by omega)
   have h4:=ih (by omega)
   rw[UK (by omega)]
   simp only[bD];omega
 refine cK (qe2 (f15.dropN 4)).1 ⟨fun i w'=>∃(k:Nat) (v:Value),i=(k:Int)∧k≤Q.length∧Fr w w' (lIt (dD P aY) an [oV 1 b 0 q,oV 1 b T xs.length]::bI .i64 (dD P bJ) M L::rN eB J v (Z++AA (r.1.take k))::aT w4 A::PU v6 Q),fun i _=>(Q.length-i).toNat,⟨0,be,rfl,bW _,by simpa [AA]using f15⟩,?_⟩
 rintro _ i dm ⟨k,ca,rfl,hk,O⟩
 have bm:=hbl k (by omega)
 have cz:k*20000000≤8*20000000:=kR _ (by omega)
 refine aG (fun cR=>?_) (fun bp=>?_)
 ·have Y:k<Q.length:=by omega
  have ay:k<r.1.length:=by omega
  have hu:Q[k]?=some Q[k]:=fR Y
  have al:r.1[k]=pkp Q[k]:=by
   have h0:(Q.map pkp)[k]'(by rw[fE];exact Y)=pkp Q[k]:=LX _
   rw[←h0];simp only[hQ]
  have ak:=bd r.1[k] (kH ay)
  rw[al]at ak
  have ak:0≤Q[k].1∧Q[k].1≤4∧Q[k].2.2.length≤10000000:=ak
  have bb:∀{w'},Fr w w' (PU v6 Q)→Nm .u8 w' Q[k].2.1 Q[k].2.2:=fun f=>(qe2 f).2 _ (kH Y)
  refine gPk (qe2 (O.dropN 4)).1 hu (dX (z:=.agg #[aB 0,bR]) O (by kernel_rfl) fun bz dn bi=>cS bi 0 rfl (fun cf V=>?_) rfl (fun x hx=>?_))
  ·have V:Fr w cf (aT bz [aB Q[k].1,Q[k].2.1]::lIt (dD P aY) an [oV 1 b 0 q,oV 1 b T xs.length]::bI .i64 (dD P bJ) M L::rN eB J ca (Z++AA (r.1.take k))::aT w4 A::PU v6 Q):=V
   rw[Addr.add_zero']
   refine cI (n:=Q[k].1) V 0 0 rfl rfl ?_
   rw[show gD Q[k].1=Q[k].1 by rw[dW];omega]
   have dd:(eD Q[k].1.toNat).length≤10:=fH (by omega)
   refine c9 V 3 rfl (by omega) (by rw[bD];omega) fun dj dp f19=>dY f19 0 1 rfl rfl ?_
   refine qgL (ys:=Q[k].2.2) f19 3 rfl (fun w' N=>bb (N.dropN 4)) (by simp only[List.length_append];omega) fun cb dq f20=>⟨⟨k+1,cb,by rw[aD (by omega) (by omega)];omega,Y,?_⟩,by dsimp only;rw[aD (by omega) (by omega)];omega⟩
   have e:Z++AA (r.1.take (k+1))=Z++AA (r.1.take k)++eD Q[k].1.toNat++eD Q[k].2.2.length++Q[k].2.2:=by
    rw[UK ay,al];simp [pkp]
   rw[e]
   exact f20.drop 0
  ·simp at hx
   rcases hx with rfl|rfl
   ·rfl
   ·obtain⟨a,c,he,_⟩:=(bb (O.dropN 4)).shape
    rw[he];rfl
 ·obtain rfl:k=Q.length:=by omega
  rw[←bu,qU]at O bm
  refine qbQ O 2 rfl (by rw[bD];omega) fun y dr f21=>⟨y,rfl,f21.old,f21.on 0 rfl⟩
end
end
def FWr(w0 w:World)(ad:Addr)(xs:List Int):Prop:=∃v,W1 w ad v xs∧Ev w0 w∧w0.heap.size≤ad.block∧∀g,v.ownBlock=some g→w0.heap.size≤g
theorem FWr.to{w0 w w':World}{ad:Addr}{v:Value}{ys:List Int}(h1:Ev w0 w)(h2:w0.heap.size≤ad.block)(h3:∀g,v.ownBlock=some g→w0.heap.size≤g)(h:∃v',WS w w' ad v v' ys):FWr w0 w' ad ys:=by
 obtain⟨v',hW⟩:=h
 have:=WrS.evn h1 hW h2 h3
 exact⟨v',hW.1,this.1,h2,this.2⟩
theorem FWr.ev{w0 w w':World}{ad:Addr}{xs:List Int}(h:FWr w0 w ad xs)(he:Ev w w'):FWr w0 w' ad xs:=by
 obtain⟨v,h1,h2,h3,h4⟩:=h;exact⟨v,h1.ev he,h2.trans he,h3,h4⟩
theorem qun{w0 w:World}{K:Addr→World→Prop}(h0:Ev w0 w)(hk:∀ad w',FWr w0 w' ad []→K ad w'):cD P oB w K:=
 DY (z:=.agg #[bR]) (by kernel_rfl) fun ad w' h1 j hs hS=>hk ad w' ⟨bR,⟨hS,ON.nil _ _ _ _,fun h=>by cases h⟩,h0.trans h1,by rw[j];exact h0.size,fun g hg=>by cases hg⟩
theorem qtl{w0 w:World}{ad:Addr}{xs:List Int}{n:Int}{K:World→Prop}(h:FWr w0 w ad xs)(hn:0≤n∧n<18446744073709551616)(hl:xs.length+10≤10000000000)(hk:∀w',FWr w0 w' ad (xs++eD n.toNat)→K w'):aE P bY jO #[aH ad,.int .u64 n] w K:=by
 obtain⟨v,h1,h2,h3,h4⟩:=h;exact cZ (JD h1 hn hl) fun w' hw=>hk w' (FWr.to h2 h3 h4 hw)
theorem qrZ{w0 w:World}{ad:Addr}{xs:List Int}{K:Value→World→Prop}(h:FWr w0 w ad xs)(hl:xs.length≤10000000000)(hk:∀y w',Ev w w'→ON .u8 eB w' w.heap.size y xs→K y w'):aE P fF dM #[aH ad] w K:=by
 obtain⟨v,h1,h2,h3,h4⟩:=h;exact iY (SQ h1 hl) fun y w' hw=>hk y w' hw.1 hw.2
def JG(v:Int):Int:=if 1099511627776<v then 1099511627776 else v
def cL(xs:List Int):Nat→List Int×Nat×Int
 |0=>([],0,0)
 |k+1=>((cL xs k).1++[JG (jK xs (cL xs k).2.1 (cL xs k).2.2 18446744073709551615).1],(jK xs (cL xs k).2.1 (cL xs k).2.2 18446744073709551615).2)
theorem oN(xs:List Int):∀k,(cL xs k).1.length=k
 |0=>rfl
 |k+1=>by rw[cL,bD,oN];rfl
theorem qex{xs:List Int}{a:Nat}:∀(f n:Nat) (v:Int),(rT xs a f n v).2.2=0∨(rT xs a f n v).2.2=3∨(rT xs a f n v).2.2=4
 |0,_,_=>.inr (.inr rfl)
 |f+1,n,v=>by
  unfold rT
  split
  ·exact .inr (.inl rfl)
  ·split
   ·exact .inr (.inr rfl)
   ·split
    ·split
     ·exact .inr (.inr rfl)
     ·exact .inl rfl
    ·exact qex f _ _
def ErR(e:Int):Prop:=e=0∨e=3∨e=4
theorem X8{xs:List Int}{a:Nat}{er m:Int}(h:ErR er):ErR (jK xs a er m).2.2:=by
 unfold jK
 split
 ·exact h
 ·split
  ·exact .inr (.inr rfl)
  ·split
   ·exact qex 10 0 0
   ·exact .inl rfl
theorem WE(xs:List Int):∀k,ErR (cL xs k).2.2
 |0=>.inl rfl
 |k+1=>by rw[cL];exact X8 (WE xs k)
theorem oK{xs:List Int}{a:Nat}{er n:Int}(h:ErR er):ErR (eV xs a er n).2.2:=by
 unfold eV
 split
 ·exact h
 ·split
  ·exact .inr (.inl rfl)
  ·exact .inl rfl
theorem qbP{n a:Nat}{er:Int}(h:ErR er):ErR (I8 n a er):=by
 unfold I8
 split
 ·exact h
 ·split
  ·exact .inr (.inr rfl)
  ·exact .inl rfl
theorem A0{xs:List Int}{a:Nat}{er n:Int}(hn:0≤n)(h:(eV xs a er n).2.2=0):(eV xs a er n).1.length=n.toNat∧er=0:=by
 have he:=qqa h
 subst he
 unfold eV at h⊢
 by_cases h0:n≤0
 ·rw[if_pos (.inr h0)];exact⟨by simp;omega,rfl⟩
 ·rw[if_neg (by omega)]at h⊢
  split at h
  ·cases h
  ·rename_i j
   rw[if_neg j]
   exact⟨by rw[eJ,cQ];omega,rfl⟩
def A8(j:List Nat):List Int:=(j.map eD).flatten
theorem qhj(j:List Nat)(q:Nat):A8 (j++[q])=A8 j++eD q:=by simp [A8]
theorem MN{v:Int}(h:0≤v):0≤JG v∧JG v≤1099511627776:=by unfold JG;split<;>omega
theorem R7{xs:List Int}(hx:inR .u8 xs):∀k,∀x∈(cL xs k).1,0≤x∧x≤1099511627776
 |0,_,h=>by cases h
 |k+1,x,h=>by
  rw[cL]at h
  rcases List.mem_append.1 h with h|h
  ·exact R7 hx k x h
  ·simp at h;subst h;exact MN (qF hx).1
theorem CF(xs:List Int):∀k,(cL xs k).2.1≤xs.length
 |0=>bW _
 |k+1=>by rw[cL];exact KH (CF xs k)
theorem TI{xs:List Int}{a:Nat}{er n:Int}:(eV xs a er n).1.length≤xs.length:=by
 unfold eV;split
 ·simp
 ·split
  ·simp
  ·rw[eJ,cQ];omega
theorem qq9{k:IntKind}{xs:List Int}{j:Nat}(h:j<xs.length):(xs.map (Value.int k))[j]?=some (.int k (rd xs (j:Int))):=by
 rw[jD,fR h,dK xs j h];rfl
theorem qqW{l:List Int}{k:Nat}(hl:l.length=k)(hk:k<6)(x:Int):((l++List.replicate (6-k) 0).map (Value.int .i64)).set k (aB x)=((l++[x])++List.replicate (6-(k+1)) 0).map (Value.int .i64):=by
 rw[←DR]
 congr 1
 rw[show 6-k=(6-(k+1))+1 by omega,DQ,DP _ _ (by omega),hl,pH,MD,gY];rfl
section
def okM(n F T ch bits mid:Int):Bool:=decide ((1≤ch∧ch≤8)∧(bits=8∨bits=16)∧mid≤1∧(mid=0∨ch=2)∧F≤T∧T≤n∧(T-F)%(ch*bits/8)=0)
def qr5(xs:List Int):Array Value:= #[aB (rd (cL xs 6).1 3),aB (rd (cL xs 6).1 4),aB (rd (cL xs 6).1 1),aB (rd (cL xs 6).1 2),aB (rd (cL xs 6).1 0),aB (rd (cL xs 6).1 5)]
def okX(xs:List Int):Bool:=okM (rd (cL xs 6).1 0) (rd (cL xs 6).1 1) (rd (cL xs 6).1 2) (rd (cL xs 6).1 3) (rd (cL xs 6).1 4) (rd (cL xs 6).1 5)
def qqJ(w0:World)(ad:Addr)(y:Value)(xs:List Int)(G:List It)(e:Ending)(w':World):Prop:=
 e=bP #[.agg (qr5 xs),.bool (okX xs)]∧Fr w0 w' (aT ad [y,aB ((cL xs 6).2.1:Nat),aB (cL xs 6).2.2]::bI .u8 eB y xs::G)
section
variable {w0 w:World} {G:List It} {ad:Addr} {y:Value} {xs:List Int}
theorem qnT(f:Fr w0 w (aT ad [y,aB ((0:Nat):Int),aB 0]::bI .u8 eB y xs::G))(hl:xs.length≤1000000000):Calls P W7 #[aH ad] w (qqJ w0 ad y xs G):=by
 have hx:inR .u8 xs:=(f.nm 1 rfl).2
 refine e8 (dX (z:=.agg #[aB 0,aB 0,aB 0,aB 0,aB 0,aB 0]) f (by kernel_rfl) fun t2 w1 f1=>dX (z:=.agg (Array.replicate 6 (aB 0))) f1 (by kernel_rfl) fun l4 w2 V=>?_)
 obtain⟨U,Z⟩:∃U:List Value,U=[aB 0,aB 0,aB 0,aB 0,aB 0,aB 0]:=⟨_,rfl⟩
 have V:Fr w0 w2 (aT l4 (((cL xs 0).1++List.replicate (6-0) 0).map (.int .i64))::aT t2 U::aT ad [y,aB ((cL xs 0).2.1),aB (cL xs 0).2.2]::bI .u8 eB y xs::G):=by rw[Z];exact V
 have V:Fr w0 w2 (aT ad [y,aB ((cL xs 0).2.1),aB (cL xs 0).2.2]::bI .u8 eB y xs::aT l4 (((cL xs 0).1++List.replicate (6-0) 0).map (.int .i64))::aT t2 U::G):=V.picksN 4 [2,3,0,1] (by decide) (by decide)
 refine⟨fun i w'=>∃k:Nat,i=(k:Int)∧k≤6∧Fr w0 w' (aT ad [y,aB ((cL xs k).2.1),aB (cL xs k).2.2]::bI .u8 eB y xs::aT l4 (((cL xs k).1++List.replicate (6-k) 0).map (.int .i64))::aT t2 U::G),fun i _=>(6-i).toNat,⟨0,rfl,by omega,V⟩,?_⟩
 rintro _ i w3 ⟨k,rfl,hk,f3⟩
 refine aG (fun cR=>?_) (fun be=>?_)
 ·have J:k<6:=by omega
  refine qiF f3 (CF xs k) (by omega) fun w4 f4=>gT 6 k rfl J ?_
  have M:=MN (qF (xs:=xs) (a:=(cL xs k).2.1) (er:=(cL xs k).2.2) (most:=18446744073709551615) hx).1
  have hc:i64 (if 1099511627776<(jK xs (cL xs k).2.1 (cL xs k).2.2 18446744073709551615).1 then 1099511627776 else(jK xs (cL xs k).2.1 (cL xs k).2.2 18446744073709551615).1)=JG (jK xs (cL xs k).2.1 (cL xs k).2.2 18446744073709551615).1:=by
   show i64 (JG _)=_;rw[aD (by omega) (by omega)]
  rw[hc]
  refine dT f4 2 k rfl (fun w5 f5=>?_) (by rw[fE,bD,oN,sF];omega)
  rw[qqW (oN xs k) J]at f5
  exact⟨⟨k+1,by rw[aD (by omega) (by omega)];omega,by omega,f5⟩,by dsimp only;rw[aD (by omega) (by omega)];omega⟩
 have J:k=6:=by omega
 subst J
 have aq:=oN xs 6
 have Y:=R7 hx 6
 rw[show List.replicate (6-6) (0:Int)=[]from rfl,iW]at f3
 unfold qqJ qr5 okX
 obtain⟨l,ao⟩:∃l:List Int,l=(cL xs 6).1:=⟨_,rfl⟩
 rw[←ao]at aq Y f3⊢
 have M:∀j:Nat,j<6→0≤rd l (j:Int)∧rd l (j:Int)≤1099511627776:=fun j hj=>Y _ (OG (xs:=l) (i:=(j:Int)) (by omega) (by omega))
 have O:∀{j:Nat} {K:Int→Prop},j<6→K (rd l (j:Int))→aX P gS (aH l4) (aB (j:Int)) fun au=>aF P aK bA (aH au) w3 K:=fun{j K} hj hk=>
  gT 6 j rfl hj (cI (n:=rd l (j:Int)) f3 2 j rfl (qq9 (k:=.i64) (xs:=l) (by omega)) hk)
 refine O (j:=1) (by omega) (O (j:=2) (by omega) (O (j:=3) (by omega) (O (j:=4) (by omega) (O (j:=0) (by omega) (O (j:=5) (by omega) ?_)))))
 have r0:=M 0 (by omega)
 have r1:=M 1 (by omega)
 have r2:=M 2 (by omega)
 have r3:=M 3 (by omega)
 have r4:=M 4 (by omega)
 have r5:=M 5 (by omega)
 simp only[show(((0:Nat):Int))=0 from rfl,show(((1:Nat):Int))=1 from rfl,show(((2:Nat):Int))=2 from rfl,show(((3:Nat):Int))=3 from rfl,show(((4:Nat):Int))=4 from rfl,show(((5:Nat):Int))=5 from rfl]at r0 r1 r2 r3 r4 r5⊢
 generalize rd l 0=n at*
 generalize rd l 1=C at*
 generalize rd l 2=T at*
 generalize rd l 3=ch at*
 generalize rd l 4=bits at*
 generalize rd l 5=mid at*
 refine dX (z:=.agg #[aB 0,aB 0,aB 0,aB 0,aB 0,aB 0]) f3 (by kernel_rfl) fun m6 w6 f6=>cS f6 0 rfl (fun w7 N=>?_) rfl
 obtain⟨I,r⟩:∃I:List Value,I=[aB ch,aB bits,aB C,aB T,aB n,aB mid]:=⟨_,rfl⟩
 have N:Fr w0 w7 (aT m6 I::aT ad [y,aB ((cL xs 6).2.1),aB (cL xs 6).2.2]::bI .u8 eB y xs::aT l4 (l.map (.int .i64))::aT t2 U::G):=by rw[r];exact N
 have m0:I[0]?=some (aB ch):=by rw[r];rfl
 have m1:I[1]?=some (aB bits):=by rw[r];rfl
 have m2:I[2]?=some (aB C):=by rw[r];rfl
 have m3:I[3]?=some (aB T):=by rw[r];rfl
 have m4:I[4]?=some (aB n):=by rw[r];rfl
 have m5:I[5]?=some (aB mid):=by rw[r];rfl
 rw[Addr.add_zero']
 refine cI (n:=ch) N 0 0 rfl m0 (cI (n:=bits) N 0 1 rfl m1 ?_)
 have q:∀{bb:Bool},okM n C T ch bits mid=bb→aL P aU (aH t2) (.agg #[aB ch,aB bits,aB C,aB T,aB n,aB mid]) w7.drew fun ww=>(∀(j:Nat) (u:Value),I[j]?=some u→ww.cell? (m6.add j)=some u)∧aF P aU (.part (.agg [.int .i64,.int .i64,.int .i64,.int .i64,.int .i64,.int .i64])) (aH t2) ww fun(ac:Int) (ae:Int) (af:Int) (ag:Int) (ah:Int) (ai:Int)=>
   (Ending.returned (.tuple #[.agg #[aB ac,aB ae,aB af,aB ag,aB ah,aB ai],.bool bb])=Ending.returned (.tuple #[.agg #[aB ch,aB bits,aB C,aB T,aB n,aB mid],.bool (okM n C T ch bits mid)])∧Fr w0 ww (aT ad [y,aB ((cL xs 6).2.1:Nat),aB (cL xs 6).2.2]::bI .u8 eB y xs::G)):=fun{bb} an=>by
  refine cS N.drew 4 rfl (fun w' f'=>⟨fun j u h=>f'.cell 0 j rfl h,?_⟩) (by rw[Z];rfl)
  refine gE f' 4 rfl ?_ rfl (by kernel_rfl)
  exact⟨by rw[an],f'.picksN 5 [1,2] (by decide) (by decide)⟩
 have no:¬((1≤ch∧ch≤8)∧(bits=8∨bits=16)∧mid≤1∧(mid=0∨ch=2)∧C≤T∧T≤n∧(T-C)%(ch*bits/8)=0)→okM n C T ch bits mid=false:=fun h=>decide_eq_false h
 have l0:∀(j:Nat) (u:Value),I[j]?=some u→∀w':World,(∀(j:Nat) (u:Value),I[j]?=some u→w'.cell? (m6.add j)=some u)→w'.cell? (m6.add j)=some u:=fun j u h w' hw=>hw j u h
 refine⟨fun w'=>∀(j:Nat) (u:Value),I[j]?=some u→w'.cell? (m6.add j)=some u,fun j u h=>N.drew.cell 0 j rfl h,mB [aB ch,aB bits,aB C,aB T,aB n,aB mid] (fun w' hw j u hj=>hw j u (by rw[r];exact hj)) ?_ rfl (by kernel_rfl)⟩
 show aI _ _ _ _ _ _
 refine aN (l0 0 _ m0) (aG (fun c1=>aN (l0 0 _ m0) (aG (fun c8=>aN (l0 1 _ m1) (jP (fun b8=>aN (l0 1 _ m1) (cN (fun ak=>?_) (fun ak=>q (no (by omega))))) (fun b8=>?_))) (fun c8=>q (no (by omega))))) (fun c1=>q (no (by omega))))
 all_goals
  have A:bits=8∨bits=16:=by omega
  refine aN (l0 5 _ m5) (aG (fun d1=>aN (l0 5 _ m5) (jP (fun d0=>aN (l0 0 _ m0) (cN (fun d2=>?_) (fun d2=>q (no (by omega))))) (fun d0=>?_))) (fun d1=>q (no (by omega))))
  all_goals
   refine aN (l0 2 _ m2) (aN (l0 3 _ m3) (aG (fun e1=>aN (l0 3 _ m3) (aN (l0 4 _ m4) (aG (fun e2=>aN (l0 3 _ m3) (aN (l0 2 _ m2) ?_)) (fun e2=>q (no (by omega)))))) (fun e1=>q (no (by omega)))))
   have ap:i64 (Int.tdiv (i64 (ch*bits)) 8)=ch*bits/8:=by
    rcases A with e|e
    ·rw[e,aD (n:=ch*8) (by omega) (by omega),sH (by omega),aD (by omega) (by omega)]
    ·rw[e,aD (n:=ch*16) (by omega) (by omega),sH (by omega),aD (by omega) (by omega)]
   have bf:1≤ch*bits/8:=by rcases A with e|e<;>rw[e]<;>omega
   rw[ap,aD (n:=T-C) (by omega) (by omega)]
   refine kZ (by omega) (q ?_)
   rw[N0 (by omega)]
   have X:((T-C)%(ch*bits/8)==0)=decide ((T-C)%(ch*bits/8)=0):=qir _ _
   rw[X]
   unfold okM
   rw[decide_eq_decide]
   exact⟨fun h=>h.2.2.2.2.2.2,fun h=>⟨by omega,A,d1,by omega,e1,e2,h⟩⟩
end
end
section
noncomputable def pK(xs:List Int)(n:Int)(a0:Nat)(er0:Int):Nat→(List (List Int)×Nat×Int)⊕Int
 |0=>.inl ([],a0,er0)
 |j+1=>match pK xs n a0 er0 j with
  |.inr e=>.inr e
  |.inl s=>
   let k:=jK xs s.2.1 s.2.2 18446744073709551615
   let t:=fZ xs k.2.1 k.2.2 ((xs.length:Int)-(k.2.1:Nat))
   if t.2.2≠0 then .inr t.2.2
   else if(rK true t.1 n).2≠0∨k.1>4 then .inr 4
   else .inl (s.1++[kF (pM k.1) (rK true t.1 n).1 (rK true t.1 n).1.length],t.2.1,t.2.2)
def qmr(xs:List Int)(hd q:List Int)(bits mid n:Int)(s:List (List Int)×Nat×Int):List Int×Int:=
 if I8 xs.length s.2.1 s.2.2≠0 then([],I8 xs.length s.2.1 s.2.2)
 else
  let ls:=if mid=1 then [A7 (s.1.getD 0 []) (s.1.getD 1 []),lP (s.1.getD 0 []) (s.1.getD 1 [])]else s.1
  let j:=JY (bits/8).toNat ls n.toNat
  if j.2≠0 then([],4)else(hd++j.1++q,0)
noncomputable def mQ(xs:List Int)(most:Int):List Int×Int:=
 let s:=cL xs 6
 if s.2.2≠0 then([],s.2.2)
 else if rd s.1 0>(if 0>most then 0 else most)∨rd s.1 0>1048576 then([],5)
 else if okX xs=false then([],4)
 else
  let h:=eV xs s.2.1 0 (rd s.1 1)
  let t:=eV xs h.2.1 h.2.2 (rd s.1 0-rd s.1 2)
  let n:=(rd s.1 2-rd s.1 1)/(rd s.1 3*rd s.1 4/8)
  match pK xs n t.2.1 t.2.2 (rd s.1 3).toNat with
  |.inr e=>([],e)
  |.inl c=>qmr xs h.1 t.1 (rd s.1 4) (rd s.1 5) n c
noncomputable def trP(v:Value)(T:List (Value×List Int)):List It:=lK eT 1 v T.length (T.map (·.1))::T.reverse.map fun u=>bI .i32 eI u.1 u.2
section
variable {w0 w:World} {F:List It}
theorem US{xs:List Int}{n:Int}{a0:Nat}{er0:Int}(q:∀b:List Int,(rK true b n).2=0→(rK true b n).1.length=n.toNat):∀(j:Nat) {s:List (List Int)×Nat×Int},pK xs n a0 er0 j=.inl s→s.1.length=j∧∀l∈s.1,l.length=n.toNat∧inR .i32 l
 |0,s,h=>by
  rw[pK]at h
  injection h with h;subst h
  exact⟨rfl,fun l hl=>by cases hl⟩
 |j+1,s,h=>by
  rw[pK]at h
  split at h
  ·cases h
  ·rename_i s' r
   have u:=US q j r
   dsimp only at h
   split at h
   ·cases h
   ·split at h
    ·cases h
    ·rename_i h1 h2
     injection h with h;subst h
     refine⟨by simp [u.1],fun l hl=>?_⟩
     rcases List.mem_append.1 hl with hl|hl
     ·exact u.2 l hl
     ·rw[List.mem_singleton.1 hl]
      refine⟨?_,XW _ _ _⟩
      rw[xY]
      exact q _ (Decidable.byContradiction fun hc=>h2 (.inl hc))
end
end
section
theorem qmg{xs:List Int}{n:Int}{a0:Nat}{er0 e:Int}{j:Nat}(h:pK xs n a0 er0 j=.inr e):∀k,j≤k→pK xs n a0 er0 k=.inr e:=by
 intro k hk
 induction k with
 |zero=>rw[show j=0 by omega]at h;exact h
 |succ k r=>
  by_cases q:j=k+1
  ·rw[←q];exact h
  ·rw[pK,r (by omega)]
theorem qog{xs:List Int}{a:Nat}{er m:Int}(ha:a≤xs.length):(fZ xs a er m).2.1≤xs.length:=by
 unfold fZ
 dsimp only
 generalize(if 0>m then 0 else m)=j
 by_cases h:er≠0
 ·rw[if_pos h];exact ha
 ·rw[if_neg h]
  split
  ·exact ha
  ·exact M0 (KH ha)
theorem qfB{xs:List Int}{a:Nat}{er m:Int}:(fZ xs a er m).1.length≤xs.length:=by
 unfold fZ
 dsimp only
 generalize(if 0>m then 0 else m)=j
 by_cases h:er≠0
 ·rw[if_pos h];exact bW _
 ·rw[if_neg h]
  split
  ·exact bW _
  ·exact TI
section
variable {w0 w:World} {F:List It}
theorem qrI{ad:Addr}{y:Value}{xs:List Int}{a:Nat}{er n:Int}{K:Value→World→Prop}(f:Fr w0 w (aT ad [y,aB a,aB er]::bI .u8 eB y xs::F))(ha:a≤xs.length)(hl:xs.length≤10000000000)(hn:n≤9223372036854775807)
  (hk:∀z w',Fr w0 w' (aT ad [y,aB (fZ xs a er n).2.1,aB (fZ xs a er n).2.2]::bI .u8 eB y xs::F)→Nm .u8 w' z (fZ xs a er n).1→K z w'):aE P gG dM #[aH ad,aB n] w K:=by
 refine aO (EK (f.rd 0 1 rfl rfl (by decide) ha hl) hn) ?_
 rintro _ w' ⟨z,rfl,h1,h2⟩
 exact⟨z,rfl,hk z w' (f.rs 0 rfl h1) h2.nm⟩
theorem qsv{v:Value}{T:List (Value×List Int)}{ls:List (List Int)}(j:T.map (·.2)=ls)(f:Fr w0 w (trP v T++F)):Sl w 1 v (T.map (·.1)).length (T.map (·.1))∧(T.map (·.1)).length=ls.length∧∀(i:Nat) (u:Value) (ys:List Int),(T.map (·.1))[i]?=some u→ls[i]?=some ys→Nm .i32 w u ys:=by
 refine⟨by rw[fE];exact f.row 0 rfl,by rw[←j,fE,fE],fun i u ys h1 h2=>?_⟩
 rw[jD]at h1
 rw[←j,jD]at h2
 cases ht:T[i]? with
 |none=>rw[ht]at h1;cases h1
 |some t=>
  rw[ht]at h1 h2
  simp at h1 h2
  subst h1;subst h2
  have hm:bI .i32 eI t.1 t.2∈trP v T++F:=qbq _ (lL _ (List.mem_map.2 ⟨t,List.mem_reverse.2 (tM ht),rfl⟩))
  obtain⟨q,hq⟩:=List.mem_iff_getElem?.1 hm
  exact f.nm q hq
theorem qkb{ad:Addr}{y V:Value}{xs:List Int}{n:Int}{a0:Nat}{er0:Int}{j:Nat}{s:List (List Int)×Nat×Int}{T:List (Value×List Int)}{R:Ending→World→Prop}{K:Value→World→Prop}
  (f:Fr w0 w (aT ad [y,aB (s.2.1:Nat),aB s.2.2]::bI .u8 eB y xs::(trP V T++F))) (hT:T.map (·.2)=s.1) (hj:s.1.length=j) (bb:j≤8) (ha:s.2.1≤xs.length) (hl:xs.length≤1000000000) (hs:pK xs n a0 er0 j=.inl s)
  (q:∀e w',pK xs n a0 er0 (j+1)=.inr e→Ev w0 w'→R (bP #[bR,aB e]) w')
  (hk:∀v' w' s' T',pK xs n a0 er0 (j+1)=.inl s'→T'.map (·.2)=s'.1→s'.2.1≤xs.length→Fr w0 w' (aT ad [y,aB (s'.2.1:Nat),aB s'.2.2]::bI .u8 eB y xs::(trP v' T'++F))→K v' w') (ao:∀b:List Int,(rK true b n).1.length≤1000000000):
  aE P fQ (dQ .u64) #[aH ad] w fun(aa:Int) ac=>aE P fD bA #[aH ad] ac fun(au:Int) ae=>aE P gG dM #[aH ad,aB au] ae fun(av:Value) af=>aE P cO bA #[aH ad] af fun(ab:Int) C=>aQ (ab !=0) (R (bP #[bR,aB ab]) C) (aE P yL (.tup [.one .val,.one (.int .i64)]) #[av,aB n] C fun(M:Value) (N:Int) r=>aQ (!(N !=0)) (aQ (decide (aa>4)) (R (bP #[bR,aB 4]) r) (aE P iZ dM #[.agg #[aB (i64 aa)],M] r fun(X:Value) ag=>eG P cF 1 #[(0,X)] ag fun(Y:Value) ah=>fV P #[cF,cF] cF #[V,Y] ah fun(Z:Value) ai=>K Z ai)) (R (bP #[bR,aB 4]) r)):=by
 have hx:inR .u8 xs:=(f.nm 1 rfl).2
 have ba:T.length=j:=by have:=congrArg List.length hT;rw[fE]at this;omega
 refine qiF f ha (by omega) fun w1 f1=>?_
 have am:=(qF (xs:=xs) (a:=s.2.1) (er:=s.2.2) (most:=18446744073709551615) hx).1
 have A:=KH (xs:=xs) (a:=s.2.1) (er:=s.2.2) (m:=18446744073709551615) ha
 obtain⟨k,O⟩:∃k,k=jK xs s.2.1 s.2.2 18446744073709551615:=⟨_,rfl⟩
 rw[←O]at f1 am A⊢
 refine bQ (T0 (f1.rd 0 1 rfl rfl (by decide) A (by omega))) fun w2 h2=>qrI (f1.ev h2) A (by omega) (by omega) fun z w3 f3 nz=>?_
 obtain⟨t,U⟩:∃t,t=fZ xs k.2.1 k.2.2 ((xs.length:Int)-(k.2.1:Nat)):=⟨_,rfl⟩
 have J:=qog (xs:=xs) (er:=k.2.2) (m:=(xs.length:Int)-(k.2.1:Nat)) A
 have ap:=qfB (xs:=xs) (a:=k.2.1) (er:=k.2.2) (m:=(xs.length:Int)-(k.2.1:Nat))
 rw[←U]at f3 nz J ap
 have hC:pK xs n a0 er0 (j+1)=if t.2.2≠0 then .inr t.2.2 else if(rK true t.1 n).2≠0∨k.1>4 then .inr 4 else .inl (s.1++[kF (pM k.1) (rK true t.1 n).1 (rK true t.1 n).1.length],t.2.1,t.2.2):=by
  rw[pK,hs];dsimp only;rw[←O,←U]
 refine PK f3 J (by omega) (cA (fun I=>q _ _ (by rw[hC,if_pos I]) f3.old) (fun ak=>?_))
 rw[if_neg (fun h=>h ak)]at hC
 refine aO (qe5 (n:=n) nz (by omega)) ?_
 rintro _ w4 ⟨v4,rfl,h4,o4⟩
 refine⟨_,_,rfl,iC (fun h0=>aG (fun al=>q 4 _ (by rw[hC,if_pos (.inr al)]) (f3.ev h4).old) (fun an=>?_)) (fun I=>q 4 _ (by rw[hC,if_pos (.inl I)]) (f3.ev h4).old)⟩
 rw[if_neg (fun h=>h.elim (fun h=>h h0) an)]at hC
 have ik:i64 k.1=k.1:=by rw[aD (by omega) (by omega)]
 rw[ik]
 refine aO (qkW (k:=k.1) o4.nm (ao _)) ?_
 rintro _ w5 ⟨v5,rfl,h5,o5⟩
 have f5:=(f3.ev h4).newO h5 o5
 have ar:v5.oneCell'=true:=by obtain⟨a,c,rfl,_⟩:=o5.nm.shape;rfl
 refine⟨v5,rfl,qiB [v5] f5 rfl rfl (fun u hu=>by rw[List.mem_singleton.1 hu];exact o5.nm.one) fun t6 w6 f6=>?_⟩
 refine BI 24 (m:=1) f6 4 rfl (f6.sl 0 rfl) (fun x hx=>by rw[List.mem_singleton.1 hx];exact ar) (by omega) (by unfold maxLen;omega) (fun v' w7 f7=>hk v' w7 _ (T++[(v5,kF (pM k.1) (rK true t.1 n).1 (rK true t.1 n).1.length)]) hC ?_ J ?_) (by kernel_rfl)
 ·rw[gQ,hT];rfl
 ·have f8:=f7.picksN 5 [2,3,4,1] (by decide) (by decide)
  have e1:trP v' (T++[(v5,kF (pM k.1) (rK true t.1 n).1 (rK true t.1 n).1.length)])++F=lK eT 1 v' (T.length+1) (T.map (·.1)++[v5])::bI .i32 eI v5 (kF (pM k.1) (rK true t.1 n).1 (rK true t.1 n).1.length)::((T.reverse.map fun u=>bI .i32 eI u.1 u.2)++F):=by
   unfold trP;rw[gQ,bD,ZJ];rfl
  rw[e1];exact f8
end
end
section
theorem len2{α:Type}{l:List α}(h:l.length=2):∃a b,l=[a,b]:=by
 match l,h with
 |[a,b],_=>exact⟨a,b,rfl⟩
section
variable {w:World}
theorem OW{x:Value}{xs:List Int}{most:Int}(hb:Nm .u8 w x xs)(hl:xs.length≤1000000000)(bh:∀(b:List Int) (n:Int),0≤n→n≤1048576→(rK true b n).1.length≤1048576∧((rK true b n).2=0→(rK true b n).1.length=n.toNat)):Calls P pO #[x,aB most] w (yQ w (mQ xs most)):=by
 have hx:=hb.2
 refine RA (qau (Fr.start w) hb (by omega) fun ad y w1 f1=>aO (qnT f1 hl) ?_)
 rintro _ w2 ⟨rfl,f2⟩
 unfold qr5
 refine⟨_,_,_,_,_,_,_,rfl,?_⟩
 have cd:=oN xs 6
 have bf:=R7 hx 6
 have Z:=CF xs 6
 obtain⟨l,aj⟩:∃l:List Int,l=(cL xs 6).1:=⟨_,rfl⟩
 obtain⟨a6,ap⟩:∃a6,a6=(cL xs 6).2.1:=⟨_,rfl⟩
 obtain⟨J,aw⟩:∃J,J=(cL xs 6).2.2:=⟨_,rfl⟩
 have hr:∀j:Nat,j<6→0≤rd l (j:Int)∧rd l (j:Int)≤1099511627776:=fun j hj=>by rw[←aj]at bf cd;exact bf _ (OG (xs:=l) (i:=(j:Int)) (by omega) (by omega))
 have r0:=hr 0 (by omega)
 have r1:=hr 1 (by omega)
 have r2:=hr 2 (by omega)
 have r3:=hr 3 (by omega)
 have r4:=hr 4 (by omega)
 have r5:=hr 5 (by omega)
 have ac:okX xs=okM (rd l 0) (rd l 1) (rd l 2) (rd l 3) (rd l 4) (rd l 5):=by unfold okX;rw[←aj]
 obtain⟨ok,hok⟩:∃ok,ok=okX xs:=⟨_,rfl⟩
 have I:mQ xs most=if J≠0 then([],J)else if rd l 0>(if 0>most then 0 else most)∨rd l 0>1048576 then([],5)else if ok=false then([],4)else
   match pK xs ((rd l 2-rd l 1)/(rd l 3*rd l 4/8)) (eV xs (eV xs a6 0 (rd l 1)).2.1 (eV xs a6 0 (rd l 1)).2.2 (rd l 0-rd l 2)).2.1 (eV xs (eV xs a6 0 (rd l 1)).2.1 (eV xs a6 0 (rd l 1)).2.2 (rd l 0-rd l 2)).2.2 (rd l 3).toNat with
   |.inr e=>([],e)
   |.inl c=>qmr xs (eV xs a6 0 (rd l 1)).1 (eV xs (eV xs a6 0 (rd l 1)).2.1 (eV xs a6 0 (rd l 1)).2.2 (rd l 0-rd l 2)).1 (rd l 4) (rd l 5) ((rd l 2-rd l 1)/(rd l 3*rd l 4/8)) c:=by
  unfold mQ;dsimp only;(rw[←aj,←ap,←aw,←hok])<;>rfl
 rw[←aj,←hok]
 rw[←ap,←aw]at f2
 rw[←ap]at Z
 rw[←hok]at ac
 simp only[show(((0:Nat):Int))=0 from rfl,show(((1:Nat):Int))=1 from rfl,show(((2:Nat):Int))=2 from rfl,show(((3:Nat):Int))=3 from rfl,show(((4:Nat):Int))=4 from rfl,show(((5:Nat):Int))=5 from rfl]at r0 r1 r2 r3 r4 r5
 generalize rd l 0=n at*
 generalize rd l 1=Fm at*
 generalize rd l 2=T at*
 generalize rd l 3=ch at*
 generalize rd l 4=bits at*
 generalize rd l 5=mid at*
 obtain⟨A,O⟩:∃A:List Value,A=[aB ch,aB bits,aB Fm,aB T,aB n,aB mid]:=⟨_,rfl⟩
 have m0:A[0]?=some (aB ch):=by rw[O];rfl
 have m1:A[1]?=some (aB bits):=by rw[O];rfl
 have m2:A[2]?=some (aB Fm):=by rw[O];rfl
 have m3:A[3]?=some (aB T):=by rw[O];rfl
 have m4:A[4]?=some (aB n):=by rw[O];rfl
 have m5:A[5]?=some (aB mid):=by rw[O];rfl
 refine dX (z:=.agg #[aB 0,aB 0,aB 0,aB 0,aB 0,aB 0]) f2 (by kernel_rfl) fun U w3 f3=>cS f3 0 rfl (fun w4 f4=>?_) rfl
 have f4:Fr w w4 [aT U A,aT ad [y,aB a6,aB J],bI .u8 eB y xs]:=by rw[O];exact f4
 have f4:Fr w w4 [aT ad [y,aB a6,aB J],bI .u8 eB y xs,aT U A]:=f4.picks [1,2,0] (by decide)
 have err:∀{w'} (e:Int),Ev w w'→mQ xs most=([],e)→yQ w (mQ xs most) (bP #[bR,aB e]) w':=fun e he hu=>by rw[hu];exact⟨_,rfl,he,ON.nil _ _ _ _⟩
 have hB:∀{w':World} {F':List It} (i:Nat),Fr w w' F'→F'[i]?=some (aT U A)→∀(j:Nat) (u:Value),A[j]?=some u→w'.cell? (U.add j)=some u:=fun i f hi j u hj=>f.cell i j hi hj
 rw[Addr.add_zero']
 refine⟨fun w'=>(J=0∧¬(n>(if 0>most then 0 else most)∨n>1048576)∧ok=true)∧w'=w4,PK f4 Z (by omega) (cA (fun ab=>PK f4 Z (by omega) (err _ f4.old (by rw[I,if_pos ab]))) (fun h0=>?_)),?_⟩
 ·have ao:¬(J≠0):=fun h=>h h0
  refine cI (n:=n) f4 2 4 rfl m4 (cC (fun h1=>cI (n:=n) f4 2 4 rfl m4 (aG (fun h2=>err 5 f4.old (by rw[I,if_neg ao,if_pos (.inr h2)])) (fun h2=>oO (fun hf=>err 4 f4.old (by rw[I,if_neg ao,if_neg (fun h=>h.elim h1 h2),if_pos hf])) (fun ht=>⟨⟨h0,fun h=>h.elim h1 h2,ht⟩,rfl⟩)))) (fun h1=>err 5 f4.old (by rw[I,if_neg ao,if_pos (.inl h1)])))
 rintro _ w7 ⟨⟨h0,bd,al⟩,co⟩
 obtain rfl:w4=w7:=co.symm
 rw[if_neg (fun h=>h h0),if_neg bd,if_neg (by rw[al];decide)]at I
 rw[al]at ac
 have hm:=of_decide_eq_true (show decide _=true from ac.symm)
 obtain⟨⟨c1,c8⟩,N,dc,cc,dp,dq,db⟩:=hm
 subst h0
 obtain⟨h,hh⟩:∃h,h=eV xs a6 0 Fm:=⟨_,rfl⟩
 obtain⟨t,ak⟩:∃t,t=eV xs h.2.1 h.2.2 (n-T):=⟨_,rfl⟩
 rw[←hh,←ak]at I
 have ay:h.2.1≤xs.length:=by rw[hh];exact M0 Z
 have cm:t.2.1≤xs.length:=by rw[ak];exact M0 ay
 refine⟨fun w'=>∀(j:Nat) (u:Value),A[j]?=some u→w'.cell? (U.add j)=some u,hB 2 f4.drew rfl,aN (fun w' hw=>hw 2 _ m2) (aN (fun w' hw=>hw 4 _ m4) (aN (fun w' hw=>hw 3 _ m3) (PL f4.drew Z (by omega) (by omega) fun z1 w8 f8=>⟨?_,?_⟩)))⟩
 ·exact hB 3 f8 rfl
 rw[←hh]at f8
 rw[aD (n:=n-T) (by omega) (by omega)]
 refine PL f8 ay (by omega) (by omega) fun z2 w9 Y=>⟨?_,?_⟩
 ·exact hB 4 Y rfl
 rw[←ak]at Y
 have cb:i64 (Int.tdiv (i64 (ch*bits)) 8)=ch*bits/8:=by
  rcases N with e|e
  ·rw[e,aD (n:=ch*8) (by omega) (by omega),sH (by omega),aD (by omega) (by omega)]
  ·rw[e,aD (n:=ch*16) (by omega) (by omega),sH (by omega),aD (by omega) (by omega)]
 have be:1≤ch*bits/8:=by rcases N with e|e<;>rw[e]<;>omega
 refine cI (n:=T) Y 4 3 rfl m3 (cI (n:=Fm) Y 4 2 rfl m2 (cI (n:=ch) Y 4 0 rfl m0 (cI (n:=bits) Y 4 1 rfl m1 ?_)))
 rw[cb,aD (n:=T-Fm) (by omega) (by omega)]
 refine F4 (by omega) ?_
 have aq:0≤(T-Fm)/(ch*bits/8):=QS (by omega) (by omega)
 have cg:(T-Fm)/(ch*bits/8)≤T-Fm:=ZM _ (by omega)
 rw[sH (by omega),qfN,aD (n:=(T-Fm)/(ch*bits/8)) (by omega) (by omega)]
 obtain⟨V,cf⟩:∃V,V=(T-Fm)/(ch*bits/8):=⟨_,rfl⟩
 rw[←cf]at I aq cg⊢
 refine cI (n:=ch) Y 4 0 rfl m0 ?_
 have Y:=(Y.nilR eT 1).picksN 3 [1,2,0] (by decide) (by decide)
 have Y:Fr w w9 (aT ad [y,aB (t.2.1:Nat),aB t.2.2]::bI .u8 eB y xs::(trP (bR) []++[bI .u8 eB z2 t.1,bI .u8 eB z1 h.1,aT U A])):=Y
 refine⟨fun r i w'=>∃(j:Nat) (s:List (List Int)×Nat×Int) (Tr:List (Value×List Int)),i=(j:Int)∧(j:Int)≤ch∧pK xs V t.2.1 t.2.2 j=.inl s∧Tr.map (·.2)=s.1∧s.2.1≤xs.length∧Fr w w' (aT ad [y,aB (s.2.1:Nat),aB s.2.2]::bI .u8 eB y xs::(trP r Tr++[bI .u8 eB z2 t.1,bI .u8 eB z1 h.1,aT U A])),fun _ i _=>(ch-i).toNat,⟨0,([],t.2.1,t.2.2),[],rfl,by omega,rfl,rfl,cm,Y⟩,?_⟩
 rintro _ r i ee ⟨j,s,Tr,rfl,du,hs,ah,bg,f10⟩
 have aa:=US (fun b bv=>(bh b V aq (by omega)).2 bv) j hs
 refine aG (fun cR=>?_) (fun dr=>?_)
 ·refine qkb (n:=V) (a0:=t.2.1) (er0:=t.2.2) f10 ah aa.1 (by omega) bg hl hs (fun e w' he hev=>err e hev (by rw[I,qmg he ch.toNat (by omega)])) (fun v' w' s' T' ci br bu f'=>⟨⟨j+1,s',T',by rw[aD (by omega) (by omega)];omega,by omega,ci,br,bu,f'⟩,by dsimp only;rw[aD (by omega) (by omega)];omega⟩) (fun b=>by have:=(bh b V aq (by omega)).1;omega)
 have ba:ch.toNat=j:=by omega
 rw[ba,hs]at I
 have I:mQ xs most=qmr xs h.1 t.1 bits mid V s:=I
 unfold qmr at I
 refine qqS f10 bg (by omega) fun X av=>cA (fun ab=>err _ (f10.ev av).old (by rw[I,if_pos ab])) (fun ax=>?_)
 rw[if_neg (fun h=>h ax)]at I
 dsimp only at I
 have f19:Fr w X (trP r Tr++[bI .u8 eB z2 t.1,bI .u8 eB z1 h.1,aT U A]):=(f10.ev av).dropN 2
 have fW:Fr w X [bI .u8 eB z2 t.1,bI .u8 eB z1 h.1,aT U A]:=by
  have:=f19.dropN (trP r Tr).length
  rwa [List.drop_left]at this
 obtain⟨lf,ai⟩:∃lf,lf=if mid=1 then [A7 (s.1.getD 0 []) (s.1.getD 1 []),lP (s.1.getD 0 []) (s.1.getD 1 [])]else s.1:=⟨_,rfl⟩
 rw[←ai]at I
 obtain⟨size,am,bw⟩:∃size:Nat,(size=1∨size=2)∧bits=((8*size:Nat):Int):=by
  rcases N with e|e
  ·exact⟨1,.inl rfl,e⟩
  ·exact⟨2,.inr rfl,e⟩
 have cl:(bits/8).toNat=size:=by omega
 rw[cl]at I
 have bc:lf.length=s.1.length∧∀l∈lf,l.length=V.toNat:=by
  rw[ai]
  split
  ·rename_i hm
   have az:s.1.length=2:=by omega
   refine⟨by rw[az];rfl,fun l hl=>?_⟩
   have h0:(s.1.getD 0 []).length=V.toNat:=by
    rw[lH,fR (by omega)]
    exact(aa.2 _ (kH (by omega))).1
   simp only[I5,GL,or_false]at hl
   rcases hl with rfl|rfl
   ·unfold A7;rw[dS];exact h0
   ·unfold lP;rw[dS];exact h0
  ·exact⟨rfl,fun l hl=>(aa.2 l hl).1⟩
 refine⟨fun w'=>∃us:List Value,Sl w' 1 r us.length us∧us.length=lf.length∧(∀(i:Nat) (u:Value) (ys:List Int),us[i]?=some u→lf[i]?=some ys→Nm .i32 w' u ys)∧Fr w w' [bI .u8 eB z2 t.1,bI .u8 eB z1 h.1,aT U A],cI (n:=mid) fW 2 5 rfl m5 (cN (fun be=>?_) (fun ca=>?_)),?_⟩
 ·have az:s.1.length=2:=by omega
  have bt:Tr.length=2:=by have:=congrArg List.length ah;rw[fE]at this;omega
  obtain⟨C,q,rfl⟩:=len2 bt
  have ar:s.1=[C.2,q.2]:=ah.symm
  have f19:Fr w X [lK eT 1 r 2 [C.1,q.1],bI .i32 eI q.1 q.2,bI .i32 eI C.1 C.2,bI .u8 eB z2 t.1,bI .u8 eB z1 h.1,aT U A]:=f19
  have dw:C.2.length=V.toNat:=(aa.2 _ (by rw[ar];exact xJ)).1
  have dx:q.2.length=V.toNat:=(aa.2 _ (by rw[ar];exact lL _ xJ)).1
  have hS:=f19.row 0 rfl
  refine⟨fun _=>True,fun w'=>Ev X w',⟨trivial,Ev.drew0 X⟩,N7 hS (by decide) (by decide) fun dh v0 cn bx _=>dE (fun w' hw=>Ch.cell hw bx fun h=>h) (N7 hS (by decide) (by decide) fun di v1 hv1 hc1 _=>dE (fun w' hw=>Ch.cell hw hc1 fun h=>h) ?_)⟩
  obtain rfl:C.1=v0:=by simpa using cn
  obtain rfl:q.1=v1:=by simpa using hv1
  refine aO (qjY (f19.drew.nm 2 rfl) (f19.drew.nm 1 rfl) (by omega) (by omega)) ?_
  rintro _ bm ⟨a,b,rfl,ag⟩
  have f20:=f19.drew.glue ag
  have bj:a.oneCell'=true∧a.cells= #[a]:=by obtain⟨p,c,rfl,_⟩:=(ag.nm 1 rfl).shape;exact⟨rfl,rfl⟩
  have bl:b.oneCell'=true∧b.cells= #[b]:=by obtain⟨p,c,rfl,_⟩:=(ag.nm 0 rfl).shape;exact⟨rfl,rfl⟩
  have f20:Fr w bm [bI .i32 eI b (lP C.2 q.2),bI .i32 eI a (A7 C.2 q.2),lK eT 1 r 2 [C.1,q.1],bI .i32 eI q.1 q.2,bI .i32 eI C.1 C.2,bI .u8 eB z2 t.1,bI .u8 eB z1 h.1,aT U A]:=f20
  have cr:bm.ownsRow 0 eT 1 r 2 [C.1,q.1]:=f20.get 2 rfl
  refine⟨_,_,_,rfl,⟨trivial,(Ev.drew0 X).trans ag.old⟩,uE (j:=0) cr rfl (by decide) fun dj cj=>BJ f20 2 rfl cj (by decide) bj.1 bj.2 fun bn f21=>⟨trivial,?_⟩⟩
  have f21:Fr w bn [bI .i32 eI b (lP C.2 q.2),bI .i32 eI a (A7 C.2 q.2),lK eT 1 r 2 [a,q.1],bI .i32 eI q.1 q.2,bI .i32 eI C.1 C.2,bI .u8 eB z2 t.1,bI .u8 eB z1 h.1,aT U A]:=f21
  have ct:bn.ownsRow 0 eT 1 r 2 [a,q.1]:=f21.get 2 rfl
  refine uE (j:=1) ct rfl (by decide) fun dk ck=>BJ f21 2 rfl ck (by decide) bl.1 bl.2 fun cw f22=>⟨trivial,?_⟩
  have f22:Fr w cw [bI .i32 eI b (lP C.2 q.2),bI .i32 eI a (A7 C.2 q.2),lK eT 1 r 2 [a,b],bI .i32 eI q.1 q.2,bI .i32 eI C.1 C.2,bI .u8 eB z2 t.1,bI .u8 eB z1 h.1,aT U A]:=f22
  have M:lf=[A7 C.2 q.2,lP C.2 q.2]:=by rw[ai,if_pos be,ar];rfl
  refine⟨[a,b],f22.row 2 rfl,by rw[M];rfl,fun i u ys hu hy=>?_,f22.dropN 5⟩
  rw[M]at hy
  rcases i with _|_|i
  ·simp at hu hy;subst hu;subst hy;exact f22.nm 1 rfl
  ·simp at hu hy;subst hu;subst hy;exact f22.nm 0 rfl
  ·simp at hu
 ·obtain⟨q1,q2,q3⟩:=qsv ah f19
  have M:lf=s.1:=by rw[ai,if_neg ca]
  exact⟨Tr.map (·.1),q1,by rw[M];exact q2,by rw[M];exact q3,fW⟩
 rintro _ ef ⟨us,q,u2,u3,f23⟩
 refine cI (n:=bits) f23 2 1 rfl m1 ?_
 rw[bw]
 refine aO (qlI (size:=size) (n:=V.toNat) q u2 u3 (by omega) (by omega) am bc.2 (by omega)) ?_
 rintro _ eg ⟨ed,rfl,bq,cu⟩
 have f24:=f23.newO bq cu
 obtain⟨jj,bb⟩:∃jj,jj=JY size lf V.toNat:=⟨_,rfl⟩
 have dv:jj.1.length≤20000000:=by
  rw[bb];unfold JY
  split
  ·dsimp only
   rw[JZ am]
   have h5:lf.length*size≤8*2:=U3 (by omega) (by omega)
   have h6:V.toNat*(lf.length*size)≤1048576*16:=U3 (by omega) (by omega)
   omega
  ·exact bW _
 rw[←bb]at f24 I⊢
 refine⟨_,_,rfl,cA (fun ab=>err 4 f24.old (by rw[I,if_pos ab])) (fun bz=>?_)⟩
 rw[if_neg (fun h=>h bz)]at I
 have dt:h.1.length≤xs.length:=by rw[hh];exact TI
 have dy:t.1.length≤xs.length:=by rw[ak];exact TI
 rw[I]
 refine vZ f24 2 rfl (f24.nm 0 rfl) (by omega) fun dl eh f25=>?_
 refine vZ f25 2 rfl (f25.nm 1 rfl) (by rw[bD];omega) fun bp ei f26=>⟨bp,rfl,f26.old,f26.on 2 rfl⟩
end
end
theorem E6{xs:List Int}{a:Nat}{er m:Int}(h:ErR er):ErR (fZ xs a er m).2.2:=by
 unfold fZ
 dsimp only
 generalize(if 0>m then 0 else m)=j
 by_cases h0:er≠0
 ·rw[if_pos h0];exact h
 ·rw[if_neg h0]
  have:=oK (xs:=xs) (a:=(jK xs a er j).2.1) (n:=(jK xs a er j).1) (X8 (xs:=xs) (a:=a) (m:=j) h)
  split
  ·exact this
  ·exact this
theorem qlf{xs:List Int}{a:Nat}{er m:Int}(h:(fZ xs a er m).2.2=0):er=0:=by
 unfold fZ at h
 dsimp only at h
 by_cases h0:er≠0
 ·rw[if_pos h0]at h;exact absurd h h0
 ·exact Decidable.byContradiction h0
theorem qnr{xs:List Int}{a:Nat}{er m:Int}(h:(jK xs a er m).2.2=0):er=0:=by
 refine Decidable.byContradiction fun hn=>hn ?_
 unfold jK at h
 rw[if_pos hn]at h;exact h
theorem qiu{xs:List Int}{n:Int}{a0:Nat}{er0:Int}(h0:ErR er0):∀(j:Nat),(∀e,pK xs n a0 er0 j=.inr e→e=3∨e=4)∧(∀s,pK xs n a0 er0 j=.inl s→ErR s.2.2∧(1≤j→er0=0∧s.2.2=0))
 |0=>by
  refine⟨fun e h=>?_,fun s h=>?_⟩
  ·rw[pK]at h;cases h
  ·rw[pK]at h
   injection h with h
   subst h
   exact⟨h0,fun h=>by omega⟩
 |j+1=>by
  have A:=qiu h0 j (xs:=xs) (n:=n) (a0:=a0)
  refine⟨fun e h=>?_,fun s h=>?_⟩
  ·rw[pK]at h
   split at h
   ·rename_i C u
    injection h with h;subst h
    exact A.1 _ u
   ·rename_i s' q
    have h1:=(A.2 _ q).1
    dsimp only at h
    split at h
    ·rename_i r
     injection h with h
     have h2:=E6 (xs:=xs) (a:=(jK xs s'.2.1 s'.2.2 18446744073709551615).2.1) (m:=(xs.length:Int)-((jK xs s'.2.1 s'.2.2 18446744073709551615).2.1:Nat)) (X8 (xs:=xs) (a:=s'.2.1) (m:=18446744073709551615) h1)
     rw[h]at h2 r
     rcases h2 with h2|h2|h2
     ·exact absurd h2 r
     ·exact .inl h2
     ·exact .inr h2
    ·split at h
     ·injection h with h;exact .inr h.symm
     ·cases h
  ·rw[pK]at h
   split at h
   ·cases h
   ·rename_i s' q
    have h1:=A.2 _ q
    dsimp only at h
    split at h
    ·cases h
    ·rename_i r
     split at h
     ·cases h
     ·injection h with h;subst h
      have he:(fZ xs (jK xs s'.2.1 s'.2.2 18446744073709551615).2.1 (jK xs s'.2.1 s'.2.2 18446744073709551615).2.2 ((xs.length:Int)-((jK xs s'.2.1 s'.2.2 18446744073709551615).2.1:Nat))).2.2=0:=Decidable.byContradiction r
      have h3:=qnr (qlf he)
      refine⟨.inl he,fun _=>⟨?_,he⟩⟩
      cases j with
      |zero=>rw[pK]at q;injection q with q;subst q;exact h3
      |succ j=>exact(h1.2 (by omega)).1
theorem GG(xs:List Int)(most:Int)(hx:inR .u8 xs)(ak:∀(b:List Int) (n:Int),0≤n→n≤1048576→(rK true b n).1.length≤1048576∧((rK true b n).2=0→(rK true b n).1.length=n.toNat)):
  ((mQ xs most).2=0∧((mQ xs most).1.length:Int)≤(if 0>most then 0 else most)∧(mQ xs most).1.length≤1048576)∨((mQ xs most).1=[]∧((mQ xs most).2=3∨(mQ xs most).2=4∨(mQ xs most).2=5)):=by
 have ah:=R7 hx 6
 have ar:=oN xs 6
 have U:∀j:Nat,j<6→0≤rd (cL xs 6).1 (j:Int)∧rd (cL xs 6).1 (j:Int)≤1099511627776:=fun j hj=>ah _ (OG (xs:=(cL xs 6).1) (i:=(j:Int)) (by omega) (by omega))
 have e6:=WE xs 6
 unfold mQ
 dsimp only
 by_cases h0:(cL xs 6).2.2≠0
 ·rw[if_pos h0]
  refine .inr ⟨rfl,?_⟩
  rcases e6 with h|h|h
  ·exact absurd h h0
  ·exact .inl h
  ·exact .inr (.inl h)
 rw[if_neg h0]
 by_cases h1:rd (cL xs 6).1 0>(if 0>most then 0 else most)∨rd (cL xs 6).1 0>1048576
 ·rw[if_pos h1];exact .inr ⟨rfl,.inr (.inr rfl)⟩
 rw[if_neg h1]
 by_cases h2:okX xs=false
 ·rw[if_pos h2];exact .inr ⟨rfl,.inr (.inl rfl)⟩
 rw[if_neg h2]
 have A:okX xs=true:=by cases h:okX xs<;>simp_all
 have r0:=U 0 (by omega)
 have r1:=U 1 (by omega)
 have r2:=U 2 (by omega)
 have r3:=U 3 (by omega)
 have r4:=U 4 (by omega)
 unfold okX at A
 simp only[show(((0:Nat):Int))=0 from rfl,show(((1:Nat):Int))=1 from rfl,show(((2:Nat):Int))=2 from rfl,show(((3:Nat):Int))=3 from rfl,show(((4:Nat):Int))=4 from rfl]at r0 r1 r2 r3 r4
 generalize rd (cL xs 6).1 0=n at*
 generalize rd (cL xs 6).1 1=r at*
 generalize rd (cL xs 6).1 2=T at*
 generalize rd (cL xs 6).1 3=ch at*
 generalize rd (cL xs 6).1 4=bits at*
 generalize rd (cL xs 6).1 5=mid at*
 obtain⟨⟨c1,c8⟩,q,al,af,an,ao,J⟩:=of_decide_eq_true A
 obtain⟨size,C,Z⟩:∃size:Nat,(size=1∨size=2)∧bits=((8*size:Nat):Int):=by
  rcases q with e|e
  ·exact⟨1,.inl rfl,e⟩
  ·exact⟨2,.inr rfl,e⟩
 have ai:(bits/8).toNat=size:=by omega
 have ae:ch*bits/8=((ch.toNat*size:Nat):Int):=by
  rw[Z]
  rcases C with rfl|rfl
  ·show ch*8/8=((ch.toNat*1:Nat):Int);omega
  ·show ch*16/8=((ch.toNat*2:Nat):Int);omega
 have aq:1≤ch*bits/8:=by rcases q with e|e<;>rw[e]<;>omega
 obtain⟨h,hh⟩:∃h,h=eV xs (cL xs 6).2.1 0 r:=⟨_,rfl⟩
 obtain⟨t,u⟩:∃t,t=eV xs h.2.1 h.2.2 (n-T):=⟨_,rfl⟩
 rw[←hh,←u]
 have O:0≤(T-r)/(ch*bits/8):=QS (by omega) (by omega)
 have av:(T-r)/(ch*bits/8)≤T-r:=ZM _ (by omega)
 have ag:(T-r)/(ch*bits/8)*(ch*bits/8)=T-r:=Int.ediv_mul_cancel (Int.dvd_of_emod_eq_zero J)
 generalize au:(T-r)/(ch*bits/8)=V at*
 have ab:ErR h.2.2:=by rw[hh];exact oK (.inl rfl)
 have ac:ErR t.2.2:=by rw[u];exact oK ab
 have I:=qiu (xs:=xs) (n:=V) (a0:=t.2.1) ac ch.toNat
 cases hC:pK xs V t.2.1 t.2.2 ch.toNat with
 |inr e=>
  refine .inr ⟨rfl,?_⟩
  rcases I.1 e hC with h|h
  ·exact .inl h
  ·exact .inr (.inl h)
 |inl s=>
  have hs:=I.2 s hC
  have aa:=US (fun b Y=>(ak b V O (by omega)).2 Y) ch.toNat hC
  dsimp only
  unfold qmr
  by_cases he:I8 xs.length s.2.1 s.2.2≠0
  ·rw[if_pos he]
   refine .inr ⟨rfl,?_⟩
   rcases qbP (n:=xs.length) (a:=s.2.1) hs.1 with h|h|h
   ·exact absurd h he
   ·exact .inl h
   ·exact .inr (.inl h)
  rw[if_neg he]
  dsimp only
  obtain⟨X,M⟩:∃X,X=if mid=1 then [A7 (s.1.getD 0 []) (s.1.getD 1 []),lP (s.1.getD 0 []) (s.1.getD 1 [])]else s.1:=⟨_,rfl⟩
  rw[←M,ai]
  have N:X.length=ch.toNat:=by
   rw[M];split
   ·rename_i hm;simp;omega
   ·exact aa.1
  unfold JY
  split
  ·rw[if_neg (fun hh=>hh rfl)]
   have aj:=(hs.2 (by omega)).1
   obtain⟨k1,k2⟩:=A0 (xs:=xs) (a:=h.2.1) (er:=h.2.2) (n:=n-T) (by omega) (by rw[←u];exact aj)
   obtain⟨k3,_⟩:=A0 (xs:=xs) (a:=(cL xs 6).2.1) (er:=0) (n:=r) (by omega) (by rw[←hh];exact k2)
   rw[←u]at k1
   rw[←hh]at k3
   have hj:=JZ C X V.toNat
   rw[N]at hj
   have ap:((V.toNat*(ch.toNat*size):Nat):Int)=T-r:=by
    rw[rM,Int.toNat_of_nonneg O,←ae];exact ag
   refine .inl ⟨rfl,?_,?_⟩
   ·dsimp only;rw[List.length_append,List.length_append,k1,k3,hj];omega
   ·dsimp only;rw[List.length_append,List.length_append,k1,k3,hj];omega
  ·rw[if_pos (by decide)];exact .inr ⟨rfl,.inr (.inl rfl)⟩
section
section
variable {w:World} {xs:List Int} {b:Value}
end
end
section
section
variable {w0 w:World} {F:List It}
end
end
section
section
variable {ad:Addr} {v:Value} {bs:List Int} {w:World}
end
theorem B01.flat(l:List Int){j:Nat}(h:j≤chN 64 l.length):B01 (A6 l (List.range j)):=by rw[BN l j h];exact B01.pack _ _
end
theorem qdo{l:Value}{xs:List Int}{f:Int}{w:World}(h:Nm .u8 w l xs)(hl:xs.length≤1000000000)(hf:IntKind.u8.min≤f∧f≤IntKind.u8.max):
  Calls P lJ #[l,.int .u8 f] w (fun e w'=>∃v,e=aW v∧Ev w w'∧Owd .u8 w' v xs f∧ON .u8 (dD P aA) w' w.heap.size v xs):=by
 refine Y3 (aP h ?_)
 rw[show i64 ((xs.length:Int)+3)=((xs.length+3:Nat):Int)from aD (by omega) (by omega)]
 refine qky (k:=.u8) (by omega) fun w1 h1 O N=>?_
 generalize hg:w.heap.size=g at*
 have hz:(List.replicate (xs.length+3) (0:Int)).length=xs.length+3:=by simp
 refine qkv (n:=0) N hz (h.ev h1) (by omega) fun w2 h2 T u=>aP h ?_
 rw[show i64 ((xs.length:Int)+3)=((xs.length+3:Nat):Int)from aD (by omega) (by omega),vV]
 rw[vV]at u
 have J:List.replicate (xs.length+3) (0:Int)=List.replicate xs.length 0++[0,0,0]:=List.replicate_append_replicate.symm
 have M:List.take 0 (List.replicate (xs.length+3) (0:Int))++xs++List.drop xs.length (List.replicate (xs.length+3) 0)=xs++[0,0,0]:=by
  rw[J,List.drop_append_of_le_length (by simp),zN (by simp)];simp
 rw[M]at u
 refine iD (sz:=1) (l:=0) (h:=xs.length+3) (.inl ⟨rfl,rfl⟩) (.inr ⟨_,rfl⟩) (by omega) (by omega) ?_ (by kernel_rfl)
 rw[qcW (by omega)]
 have C:=u.on (xs.length+3) (by simp)
 rw[gI (by simp)]at C
 have e2:(xs++[(0:Int),0,0]).length=xs.length+3:=by simp
 rw[e2]at C
 have hev:Ev w w2:=h1.new h2 fun n i hh=>by rw[hh];omega
 refine aP h ⟨fun i w3=>∃j:Nat,i=((xs.length+j:Nat):Int)∧j≤3∧Ev w w3∧ON .u8 (dD P aA) w3 g (.slice (some ⟨g,0,none⟩) (xs.length+3) (xs.length+3)) (xs++(List.replicate j f++List.replicate (3-j) 0)),fun i _=>xs.length+3-i.toNat,⟨0,by omega,by omega,hev,C⟩,?_⟩
 rintro _ i w3 ⟨j,rfl,hj,h3,q⟩
 have r:(xs++(List.replicate j f++List.replicate (3-j) (0:Int))).length=xs.length+3:=by simp;omega
 refine aP q.nm (aG (fun cR=>?_) (fun I=>?_))
 ·rw[r]at cR
  refine C6 q (by omega) (by rw[r];omega) fun ad hs _=>qK q hs (by omega) (by rw[r];omega) hf fun w4 h4 _ A=>?_
  rw[show i64 (((xs.length+j:Nat):Int)+1)=((xs.length+(j+1):Nat):Int)by rw[aD (by omega) (by omega)];omega]
  refine⟨⟨j+1,rfl,by omega,h3.new h4 fun n i hh=>?_,?_⟩,by dsimp only;omega⟩
  ·have:n=g:=by simpa [Value.ownBlock]using hh.symm
   omega
  ·have e3:(xs++(List.replicate j f++List.replicate (3-j) (0:Int))).set (xs.length+j) f=xs++(List.replicate (j+1) f++List.replicate (3-(j+1)) 0):=by
    rw[DP _ _ (by omega),show xs.length+j-xs.length=j by omega,DP _ _ (by simp),sF,pH,show 3-j=(3-(j+1))+1 by omega,DQ,MD,List.replicate_succ']
    simp
   rw[dH,e3]at A
   exact A
 ·rw[r]at I
  obtain rfl:j=3:=by omega
  refine⟨_,rfl,h3,⟨some ⟨g,0,none⟩,xs.length+3,rfl,cJ _,q.nm⟩,?_⟩
  have:=q.pre xs.length (by omega)
  rw[List.take_left]at this
  exact this
theorem qbv{l:Value}{xs:List Int}{f:Int}{w:World}(h:Nm .u8 w l xs)(hl:xs.length≤1000000000)(hf:IntKind.u8.min≤f∧f≤IntKind.u8.max):
  Calls P lJ #[l,.int .u8 f] w (fun e w'=>∃v,e=aW v∧Ev w w'∧Owd .u8 w' v xs f):=
 (qdo h hl hf).mono fun _ _ ⟨v,h1,h2,h3,_⟩=>⟨v,h1,h2,h3⟩
theorem ZU{a b:Value}{xs ys:List Int}{w:World}(ha:Nm .u8 w a xs)(hb:Nm .u8 w b ys)(hl:xs.length≤1000000000):
  Calls P nX #[a,b,.func (.func lN) #[] #[]] w (fun e w'=>e=aW (.bool (decide (xs=ys)))∧Ev w w'):=by
 refine S7 (aP ha (aP hb (cA (fun r=>⟨by rw[decide_eq_false fun h=>r (by rw[h])],Ch.refl _ w⟩) (fun I=>?_))))
 have u:xs.length=ys.length:=by omega
 refine⟨fun i w'=>∃j:Nat,i=j∧j≤xs.length∧(∀q,q<j→rd xs q=rd ys q)∧Ev w w',fun i _=>xs.length-i.toNat,⟨0,rfl,by omega,by omega,Ch.refl _ w⟩,?_⟩
 rintro _ i w1 ⟨j,rfl,hj,hq,h1⟩
 refine aP ha (aG (fun cR=>?_) (fun J=>⟨?_,h1⟩))
 ·refine⟨fun w'=>w'=w1.drew,rfl,dL (ha.ev h1) (by omega) (by omega) fun a1 A _=>aN (mM A) (dL (hb.ev h1) (by omega) (by omega) fun a2 C _=>aN (mM C) (lQ rfl (by kernel_rfl) (G9 (R:=fun e w'=>e=aW (.bool (rd xs j==rd ys j))∧w'=w1.drew) ⟨rfl,rfl⟩) ?_))⟩
  rintro _ _ ⟨rfl,rfl⟩
  refine⟨_,rfl,rfl,?_⟩
  refine jP (fun r=>⟨?_,h1.drew⟩) (fun he=>?_)
  ·rw[decide_eq_false fun h=>r (by rw[h])]
  ·rw[aD (n:=(j:Int)+1) (by omega) (by omega)]
   refine⟨⟨j+1,by omega,by omega,fun q M=>?_,h1.drew⟩,by dsimp only;omega⟩
   rcases I6 q j with h|h
   ·exact hq q h
   ·have:q=j:=by omega
    subst this;exact he
 ·rw[decide_eq_true]
  refine List.ext_getElem u fun q h1 h2=>?_
  rw[←dK xs q h1,←dK ys q h2];exact hq q (by omega)
theorem TT{a b:Value}{xs ys:List Int}{w:World}(ha:Nm .u8 w a xs)(hb:Nm .u8 w b ys)(hl:xs.length≤1000000000):
  Calls P mX #[a,b] w (fun e w'=>e=aW (.bool (decide (xs=ys)))∧Ev w w'):=
 P8 (aO (ZU ha hb hl) fun _ _ ⟨h1,h2⟩=>⟨_,h1,rfl,h2⟩)
theorem ZT{o l:Value}{xs:List Int}{f:Int}{w:World}(A:Owd .u8 w o xs f)(h:Nm .u8 w l xs)(hl:xs.length≤1000000000):
  Calls P nW #[o,l,.int .u8 f] w (fun e w'=>e=aW (.bool true)∧Ev w w'):=by
 have hn:=A.nm
 obtain⟨a,c,rfl,hc,I⟩:=A
 have e3:i64 ((xs.length:Int)+3)=((xs.length+3:Nat):Int):=aD (by omega) (by omega)
 refine S6 ⟨fun w'=>Ev w w',aO (TT hn h hl) ?_,?_⟩
 ·rintro _ w1 ⟨rfl,h1⟩
  refine⟨_,rfl,?_⟩
  rw[decide_eq_true rfl]
  refine VK (qps (aP h ?_))
  rw[e3]
  exact aG (fun cR=>by omega) (fun _=>h1)
 ·rintro _ w2 h2
  refine aP h ?_
  rw[e3]
  refine iD (sz:=1) (l:=0) (h:=xs.length+3) (.inl ⟨rfl,rfl⟩) (.inr ⟨_,rfl⟩) (by omega) hc ?_ (by kernel_rfl)
  rw[qcW (by omega)]
  have q:=I.ev h2
  have r:(xs++[f,f,f]).length=xs.length+3:=by simp
  refine aP h ⟨fun i w3=>∃j:Nat,i=((xs.length+j:Nat):Int)∧j≤3∧w3=w2,fun i _=>xs.length+3-i.toNat,⟨0,by omega,by omega,rfl⟩,?_⟩
  rintro _ i _ ⟨j,rfl,hj,rfl⟩
  refine aP q (aG (fun cR=>?_) (fun J=>⟨rfl,h2⟩))
  rw[r]at cR
  refine dL q (by omega) (by rw[r];omega) fun ad C _=>bG C (cA (fun u=>(u ?_).elim) (fun _=>?_))
  ·rw[rd,dH,lH,T9 (by omega),show xs.length+j-xs.length=j by omega]
   have:j=0∨j=1∨j=2:=by omega
   rcases this with rfl|rfl|rfl<;>rfl
  ·rw[show i64 (((xs.length+j:Nat):Int)+1)=((xs.length+(j+1):Nat):Int)by rw[aD (by omega) (by omega)];omega]
   exact⟨⟨j+1,rfl,by omega,rfl⟩,by dsimp only;omega⟩
section
section
variable {w0 w:World} {F:List It} {f:FuncId} {args:Array Value}
end
theorem hasAt.more{xs bs:List Int}(ys:List Int)(h:hasAt xs 0 bs):hasAt (xs++ys) 0 bs:=by
 obtain⟨h1,h2⟩:=h
 refine⟨by rw[bD];omega,fun k hk=>?_⟩
 rw[←h2 k hk]
 unfold yT
 rw[qnQ,if_pos (by omega)]
theorem qow(xs:List Int){n:Int}(h0:0≤n)(h1:n≤1048576):((rK true xs n).2=4∧(rK true xs n).1=[])∨((rK true xs n).2=0∧(rK true xs n).1.length=n.toNat∧pkB (lO (rK true xs n).1 (rK true xs n).1.length)=xs):=by
 unfold rK
 rw[if_neg (by omega),if_neg (by omega)]
 split
 ·exact .inl ⟨rfl,rfl⟩
 ·rename_i l hl
  split
  ·rename_i he;exact .inr ⟨rfl,qaT _ _ _ _ hl,he⟩
  ·exact .inl ⟨rfl,rfl⟩
end
section
theorem qpy(b:List Int)(n:Int)(h0:0≤n)(h1:n≤1048576):(rK true b n).1.length≤1048576∧((rK true b n).2=0→(rK true b n).1.length=n.toNat):=by
 rcases qow b h0 h1 with⟨h2,h3⟩|⟨_,h3,_⟩
 ·rw[h3];exact⟨bW _,fun h=>by omega⟩
 ·exact⟨by omega,fun _=>h3⟩
section
variable {w:World}
end
end
def QZ(l:List Int)(i:Int):Int:=if i<0∨i≥l.length then 0 else rd l i
theorem qhl{l:List Int}(h:inR .u8 l)(i:Int):0≤QZ l i∧QZ l i<256:=by
 unfold QZ;split
 ·omega
 ·exact jB h i
def F2(a b:Int):Int:=if b-a>a-b then b-a else a-b
def Y6(a b c:Int):Int:=
 if F2 (a+b-c) a≤F2 (a+b-c) b∧F2 (a+b-c) a≤F2 (a+b-c) c then a
 else if F2 (a+b-c) b≤F2 (a+b-c) c then b else c
def N8(j a b c:Int):Int:=
 if j=1 then a else if j=2 then b else if j=3 then Y6 a b c else if j=4 then(a+b)/2 else 0
theorem qhm{l:Value}{xs:List Int}{i:Int}{w:World}(h:Nm .u8 w l xs):Calls P yY #[l,aB i] w (fun e w'=>e=aW (aB (QZ xs i))∧w'=w):=by
 refine qcp (cC (fun h0=>aP h (aG (fun h1=>⟨?_,rfl⟩) (fun h1=>?_))) (fun h0=>⟨?_,rfl⟩))
 ·unfold QZ;rw[if_pos (.inr h1)]
 ·refine dL h (by omega) (by omega) fun ad hc _=>bG hc ⟨?_,rfl⟩
  have:=jB h.2 i
  unfold QZ;rw[if_neg (by omega),aD (by omega) (by omega)]
 ·unfold QZ;rw[if_pos (.inl h0)]
theorem qbV{a b:Int}{w:World}(ha: -100000≤a∧a≤100000)(hb: -100000≤b∧b≤100000):Calls P uQ #[aB a,aB b] w (fun e w'=>e=aW (aB (F2 a b))∧w'=w):=by
 refine p7 ⟨?_,rfl⟩
 rw[aD (by omega) (by omega),aD (by omega) (by omega)];rfl
abbrev rng(x:Int):Prop:=0≤x∧x<256
theorem qkX{ad:Addr}{a b c:Int}{w:World}{r:List Value}(h:St w ad (aB a::aB b::aB c::r))(ha:rng a)(hb:rng b)(hc:rng c):
  Calls P oR #[aH ad] w (fun e w'=>e=aW (aB (Y6 a b c))∧Ev w w'):=by
 refine Y1 (aC (aN (mM (h.cell (j:=0) rfl)) (aC (aN (mM (h.cell (j:=1) rfl)) (aC (aN (mM (h.cell (j:=2) rfl)) ?_))))))
 refine⟨fun w'=>w'=w.drew.drew,rfl,aC (aN (mM (h.drew.cell (j:=0) rfl)) (aC (aN (mM (h.drew.cell (j:=1) rfl)) (aC (aN (mM (h.drew.cell (j:=2) rfl)) ?_)))))⟩
 rw[aD (n:=a+b) (by omega) (by omega),aD (n:=a+b-c) (by omega) (by omega)]
 refine aO (qbV (by omega) (by omega)) ?_
 rintro _ _ ⟨rfl,rfl⟩
 refine⟨_,rfl,rfl,aO (qbV (by omega) (by omega)) ?_⟩
 rintro _ _ ⟨rfl,rfl⟩
 refine⟨_,rfl,rfl,aO (qbV (by omega) (by omega)) ?_⟩
 rintro _ _ ⟨rfl,rfl⟩
 refine⟨_,rfl,rfl,?_⟩
 have hev:Ev w w.drew.drew:=(Ev.drew0 w).drew
 have hB:F2 (a+b-c) b≤F2 (a+b-c) c→¬(F2 (a+b-c) a≤F2 (a+b-c) b∧F2 (a+b-c) a≤F2 (a+b-c) c)→Y6 a b c=b:=fun h1 h2=>by unfold Y6;rw[if_neg h2,if_pos h1]
 have hC:¬F2 (a+b-c) b≤F2 (a+b-c) c→¬(F2 (a+b-c) a≤F2 (a+b-c) b∧F2 (a+b-c) a≤F2 (a+b-c) c)→Y6 a b c=c:=fun h1 h2=>by unfold Y6;rw[if_neg h2,if_neg h1]
 refine aG (fun h1=>aG (fun h2=>aC (bG (h.drew.drew.cell (j:=0) rfl) ⟨?_,hev⟩)) (fun h2=>?_)) (fun h1=>?_)
 ·unfold Y6;rw[if_pos ⟨h1,h2⟩]
 all_goals
  have hn:¬(F2 (a+b-c) a≤F2 (a+b-c) b∧F2 (a+b-c) a≤F2 (a+b-c) c):=fun h=>by first|exact h2 h.2|exact h1 h.1
  refine aG (fun h3=>aC (bG (h.drew.drew.cell (j:=1) rfl) ⟨by rw[hB h3 hn],hev⟩)) (fun h3=>aC (bG (h.drew.drew.cell (j:=2) rfl) ⟨by rw[hC h3 hn],hev⟩))
theorem qhF{a b c:Int}(ha:rng a)(hb:rng b)(hc:rng c):rng (Y6 a b c):=by unfold Y6;split<;>first|exact ha|skip;split<;>assumption
theorem qkA{ad:Addr}{k a b c:Int}{w:World}{r:List Value}(h:St w ad (aB a::aB b::aB c::r))(ha:rng a)(hb:rng b)(hc:rng c):
  Calls P jA #[aH ad,aB k] w (fun e w'=>e=aW (.int .u8 (N8 k a b c))∧Ev w w'):=by
 refine Y0 (cN (fun h1=>aC (bG (h.cell (j:=0) rfl) ⟨?_,Ch.refl _ w⟩)) (fun h1=>cN (fun h2=>aC (bG (h.cell (j:=1) rfl) ⟨?_,Ch.refl _ w⟩)) (fun h2=>
  cN (fun h3=>aO (qkX h ha hb hc) ?_) (fun h3=>cN (fun h4=>aC (aN (mM (h.cell (j:=0) rfl)) (aC (aN (mM (h.cell (j:=1) rfl)) ⟨?_,Ev.drew0 w⟩)))) (fun h4=>⟨?_,Ch.refl _ w⟩)))))
 ·unfold N8;rw[if_pos h1,LQ ha.1 ha.2]
 ·unfold N8;rw[if_neg h1,if_pos h2,LQ hb.1 hb.2]
 ·rintro _ w1 ⟨rfl,hw⟩
  have:=qhF ha hb hc
  refine⟨_,rfl,?_,hw⟩
  unfold N8;rw[if_neg h1,if_neg h2,if_pos h3,LQ this.1 this.2]
 ·unfold N8;rw[if_neg h1,if_neg h2,if_neg h3,if_pos h4,aD (n:=a+b) (by omega) (by omega),sH (by omega),aD (by omega) (by omega),LQ (by omega) (by omega)]
 ·unfold N8;rw[if_neg h1,if_neg h2,if_neg h3,if_neg h4]
def nbs(a b c:Int)(row up:Value)(p:Int):List Value:=[aB a,aB b,aB c,row,up,aB p]
theorem qkR{ad:Addr}{a b c p i:Int}{row up:Value}{xs us:List Int}{w:World}(h:St w ad (nbs a b c row up p))(q:Nm .u8 w row xs)(hu:Nm .u8 w up us)(hp:0≤p∧p≤9223372036854775807)(hi:0≤i∧i≤9223372036854775807):
  Calls P gV #[aH ad,aB i] w (fun e w'=>e=bP #[]∧Ch (Rg ad 3) w w'∧St w' ad (nbs (QZ xs (i-p)) (QZ us i) (QZ us (i-p)) row up p)):=by
 refine J6 ⟨fun w'=>St w' (ad.add 3) [row,up,aB p],?_,?_⟩
 ·exact(h.sub 3 3).drew
 have cell:∀{w':World} (_:St w' (ad.add 3) [row,up,aB p]) (j:Nat) (u:Value),([row,up,aB p]:List Value)[j]?=some u→w'.cell? (ad.add (3+j))=some u:=fun{w'} hw j u hj=>by
  have:=hw.cell hj
  rw[Addr.add_none h.1,Addr.add_lit]at this
  rw[Addr.add_none h.1];rwa [Nat.add_assoc]at this
 refine aC (dE (fun w' hw=>cell hw 0 _ rfl) (aC (aN (fun w' hw=>cell hw 2 _ rfl) (aC (dE (fun w' hw=>cell hw 1 _ rfl) (aC (dE (fun w' hw=>cell hw 1 _ rfl) (aC (aN (fun w' hw=>cell hw 2 _ rfl) ?_)))))))))
 rw[aD (n:=i-p) (by omega) (by omega)]
 refine aO (qhm q.drew) ?_
 rintro _ _ ⟨rfl,rfl⟩
 refine⟨_,rfl,(h.sub 3 3).drew,aO (qhm hu.drew) ?_⟩
 rintro _ _ ⟨rfl,rfl⟩
 refine⟨_,rfl,(h.sub 3 3).drew,aO (qhm hu.drew) ?_⟩
 rintro _ _ ⟨rfl,rfl⟩
 refine⟨_,rfl,(h.sub 3 3).drew,aC (W0 h.drew (j:=0) (by simp [nbs]) (by simp;exact⟨rfl,rfl,rfl⟩) ?_ (by kernel_rfl))⟩
 intro w' hc _ hS
 refine⟨(h.sub 3 3).drew.ch hc fun j hj hh=>?_,rfl,?_,hS⟩
 ·have h1:=hh.2.2
  rw[Addr.add_none h.1,Addr.add_none h.1]at h1
  simp at h1
  omega
 ·refine Ch.trans (Ev.drew0 w|>.mono fun _ _ _ h=>h.elim) hc fun n i _ hh=>?_
  rw[Addr.add_zero']at hh;exact hh
def qfb(q:Int)(xs us:List Int)(p:Int):Nat→List Int
 |0=>[]
 |j+1=>qfb q xs us p j++[(rd xs j-N8 q (QZ xs (j-p)) (QZ us j) (QZ us (j-p)))%256]
def Q2(q:Int)(xs us:List Int)(p:Int):Nat→List Int
 |0=>[]
 |j+1=>Q2 q xs us p j++[(rd xs j+N8 q (QZ (Q2 q xs us p j) (j-p)) (QZ us j) (QZ us (j-p)))%256]
theorem H5(q:Int)(xs us:List Int)(p:Int):∀j,(qfb q xs us p j).length=j
 |0=>rfl
 |j+1=>by simp [qfb,H5 q xs us p j]
theorem I0(q:Int)(xs us:List Int)(p:Int):∀j,(Q2 q xs us p j).length=j
 |0=>rfl
 |j+1=>by simp [Q2,I0 q xs us p j]
theorem qrT{xs:List Int}(h:∀x∈xs,rng x):inR .u8 xs:=fun x hx=>by
 have:=h x hx;simp [IntKind.min,IntKind.max,IntKind.signed,IntKind.bits];omega
theorem qaA{A:List Int}{n j:Nat}(x:Int)(ha:A.length=j)(h:j<n):(A++List.replicate (n-j) 0).set j x=(A++[x])++List.replicate (n-(j+1)) 0:=by
 rw[DP _ _ (by omega),ha,pH,show n-j=(n-(j+1))+1 by omega,DQ]
 simp
theorem St.add0{w:World}{ad:Addr}{cs:List Value}(h:St w ad cs):St w (ad.add 0) cs:=by rw[Addr.add_zero'];exact h
theorem qaz{A:List Int}{n j:Nat}(ha:A.length=j)(h:j≤n):(A++List.replicate (n-j) 0).length=n:=by simp [ha];omega
theorem qns{A:List Int}{m:Nat}{i:Int}(h:i<A.length):QZ (A++List.replicate m 0) i=QZ A i:=by
 unfold QZ
 by_cases h0:i<0
 ·rw[if_pos (.inl h0),if_pos (.inl h0)]
 ·rw[if_neg (by simp;omega),if_neg (by omega)]
  unfold rd
  rw[lH,T8 (by omega),←lH]
def jM(p:Int):Int:=if 1>p then 1 else p
theorem qaW{row up v:Value}{xs us ys:List Int}{r p:Int}{j B:Nat}{w3:World}{ad:Addr}{R:World→Prop}
  (hr:Nm .u8 w3 row xs) (hu:Nm .u8 w3 up us) (hS:∃a b c,St w3 ad (nbs a b c row up p)) (hO:ON .u8 eB w3 B v ys) (hj:(j:Int)<ys.length) (hp:1≤p∧p≤9223372036854775807) (hB:∀g,v.ownBlock=some g→g≠ad.block) (Z:j≤1000000000) {f:Int→Int} (hf:∀x,rng (f x))
  (hk:∀w6,Ch (fun k i=>Rg ad 3 k i∨Ob v k i) w3 w6→(∃a b c,St w6 ad (nbs a b c row up p))→ON .u8 eB w6 B v (ys.set j (f (N8 r (QZ xs (j-p)) (QZ us j) (QZ us (j-p)))))→R w6):
  aE P gV jO #[aH ad,aB j] w3 fun V=>aS (some ad) fun(T:Addr)=>aE P jA (dQ .u8) #[aH (T.add 0),aB r] V fun(t39:Int) X=>
   aX P aA v (aB j) fun(U:Addr)=>aL P bK (aH U) (.int .u8 (f t39)) X fun Y=>R Y:=by
 obtain⟨a,b,c,hS⟩:=hS
 have M:=hB
 refine aO (qkR hS hr hu (by omega) (by omega)) ?_
 rintro _ w4 ⟨rfl,I,C⟩
 refine⟨rfl,aC (aO (qkA C.add0 (qhl hr.2 _) (qhl hu.2 _) (qhl hu.2 _)) ?_)⟩
 rintro _ w5 ⟨rfl,u⟩
 have A:ON .u8 eB w5 B v ys:=(hO.ch I fun g i hg hh=>M g hg hh.1).ev u
 refine⟨_,rfl,C6 A (by omega) hj fun a2 O _=>qK A O (by omega) hj ?_ fun w6 J _ N=>hk w6 ?_ ⟨_,_,_,(C.ev u).ch J fun q _ hh=>M _ hh rfl⟩ N⟩
 ·have:=hf (N8 r (QZ xs (j-p)) (QZ us j) (QZ us (j-p)))
  simp [IntKind.min,IntKind.max,IntKind.signed,IntKind.bits];omega
 ·refine Ch.trans (Ch.trans (I.mono fun _ _ _ h=>.inl h) (u.mono fun _ _ _ h=>h.elim) fun _ _ _ h=>h) (J.mono fun _ _ _ h=>.inr h) fun _ _ _ h=>h
theorem qij{row up:Value}{xs us:List Int}{q p:Int}{w:World}(M:Nm .u8 w row xs)(hu:Nm .u8 w up us)(hl:xs.length≤1000000000)(hp:p≤9223372036854775807):
  Calls P qO #[aB q,row,up,aB p] w (JC w (qfb q xs us (jM p) xs.length)):=by
 refine o0 ⟨M.one,hu.one,V6 fun ad w1 A T aa hS=>?_⟩
 refine aP (M.ev A) (SY (k:=.u8) (by omega) (by omega) fun v w2 C Y=>aP ((M.ev A).ev C) ?_)
 have hS:St w1 ad (nbs 0 0 0 row up (jM p)):=hS
 have V:1≤jM p∧jM p≤9223372036854775807:=by unfold jM;split<;>omega
 have Z:ad.block=w.heap.size:=by rw[T]
 refine⟨fun i w3=>∃j:Nat,i=j∧j≤xs.length∧Ev w w3∧(∃a b c,St w3 ad (nbs a b c row up (jM p)))∧ON .u8 eB w3 w1.heap.size v (qfb q xs us (jM p) j++List.replicate (xs.length-j) 0),
  fun i _=>xs.length-i.toNat,⟨0,rfl,by omega,A.trans C,⟨_,_,_,hS.ev C⟩,by simpa [qfb]using Y⟩,?_⟩
 rintro _ i w3 ⟨j,rfl,hj,r,N,u⟩
 refine aG (fun h=>?_) (fun h=>⟨v,rfl,r,?_⟩)
 ·have J:j<xs.length:=by omega
  have X:=qaz (H5 q xs us (jM p) j) hj
  refine dL (M.ev r) (by omega) (by omega) fun a1 hc1 _=>bG hc1 (qaW (f:=fun g=>u8 (rd xs j-g)) (M.ev r) (hu.ev r) N u (by omega) V (fun g hg=>by have:=(u.base hg).1;omega) (by omega) (fun x=>by rw[nF];exact⟨by omega,by omega⟩) fun w6 U O I=>?_)
  rw[aD (n:=(j:Int)+1) (by omega) (by omega)]
  refine⟨⟨j+1,by omega,J,r.new U fun n i hh=>?_,O,?_⟩,by dsimp only;omega⟩
  ·rcases hh with hh|hh
   ·have:=hh.1;omega
   ·have:=(u.base hh).1;omega
  ·rw[qaA _ (H5 ..) J,nF]at I;exact I
 ·have:j=xs.length:=by omega
  subst this
  simpa using u.low (by omega)
theorem qjZ{row up:Value}{xs us:List Int}{q p:Int}{w:World}(X:Nm .u8 w row xs)(hu:Nm .u8 w up us)(hl:xs.length≤1000000000)(hp:p≤9223372036854775807):
  Calls P F8 #[aB q,row,up,aB p] w (JC w (Q2 q xs us (jM p) xs.length)):=by
 refine RJ (aP X (SY (k:=.u8) (by omega) (by omega) fun v w1 A M=>⟨M.one,hu.one,V6 fun ad w2 C T ab hS=>aP ((X.ev A).ev C) ?_⟩))
 have hS:St w2 ad (nbs 0 0 0 v up (jM p)):=hS
 have V:1≤jM p∧jM p≤9223372036854775807:=by unfold jM;split<;>omega
 have aa:ad.block=w1.heap.size:=by rw[T]
 have Y:∀{w3:World} {ys:List Int},ON .u8 eB w3 w.heap.size v ys→∀g,v.ownBlock=some g→g<w1.heap.size:=fun _ g hg=>(M.base hg).2
 refine⟨fun i w3=>∃j:Nat,i=j∧j≤xs.length∧Ev w w3∧(∃a b c,St w3 ad (nbs a b c v up (jM p)))∧ON .u8 eB w3 w.heap.size v (Q2 q xs us (jM p) j++List.replicate (xs.length-j) 0),
  fun i _=>xs.length-i.toNat,⟨0,rfl,by omega,A.trans C,⟨_,_,_,hS⟩,by simpa [Q2]using M.ev C⟩,?_⟩
 rintro _ i w3 ⟨j,rfl,hj,u,N,r⟩
 refine aG (fun h=>?_) (fun h=>⟨v,rfl,u,?_⟩)
 ·have J:j<xs.length:=by omega
  have Z:=qaz (I0 q xs us (jM p) j) hj
  refine dL (X.ev u) (by omega) (by omega) fun a1 hc1 _=>bG hc1 (qaW (f:=fun g=>u8 (rd xs j+g)) r.nm (hu.ev u) N r (by omega) V (fun g hg=>by have:=Y r g hg;omega) (by omega) (fun x=>by rw[nF];exact⟨by omega,by omega⟩) fun w6 U O I=>?_)
  rw[aD (n:=(j:Int)+1) (by omega) (by omega)]
  refine⟨⟨j+1,by omega,J,u.new U fun n i hh=>?_,O,?_⟩,by dsimp only;omega⟩
  ·rcases hh with hh|hh
   ·have:=hh.1;have:=A.size;omega
   ·have:=(r.base hh).1;omega
  ·rw[qns (by rw[I0];omega),qaA _ (I0 ..) J,nF]at I;exact I
 ·have:j=xs.length:=by omega
  subst this
  simpa using r
def wt(c:Int):Int:=if 256-c<c then 256-c else c
theorem qrg{c:Int}(h:rng c):0≤wt c∧wt c≤128:=by unfold wt;split<;>omega
def M7(xs:List Int):Nat→Int
 |0=>0
 |j+1=>M7 xs j+wt (rd xs j)
theorem ZA{xs:List Int}(h:inR .u8 xs):∀j,0≤M7 xs j∧M7 xs j≤128*j
 |0=>by simp [M7]
 |j+1=>by have:=ZA h j;have:=qrg (jB h j);simp only[M7];omega
theorem qic{l:Value}{xs:List Int}{w:World}(h:Nm .u8 w l xs)(hl:xs.length≤1000000000):Calls P oE #[l] w (fun e w'=>e=aW (aB (M7 xs xs.length))∧w'=w):=by
 refine NM (aP h ⟨fun n i w'=>∃j:Nat,i=j∧j≤xs.length∧n=M7 xs j∧w'=w,fun _ i _=>xs.length-i.toNat,⟨0,rfl,by omega,rfl,rfl⟩,?_⟩)
 rintro _ n i _ ⟨j,rfl,hj,rfl,rfl⟩
 refine aG (fun cR=>?_) (fun q=>⟨?_,rfl⟩)
 ·refine dL h (by omega) (by omega) fun ad hc _=>bG hc ?_
  have r:=jB h.2 j
  have hb:=ZA h.2 j
  have hw:=qrg r
  have e1:i64 (rd xs j)=rd xs j:=aD (by omega) (by omega)
  have e2:i64 (256-rd xs j)=256-rd xs j:=aD (by omega) (by omega)
  have e3:i64 ((j:Int)+1)=j+1:=aD (by omega) (by omega)
  rw[e1,e2,e3,show(if 256-rd xs j<rd xs j then 256-rd xs j else rd xs j)=wt (rd xs j)from rfl,aD (by omega) (by omega)]
  exact⟨⟨j+1,by omega,by omega,rfl,rfl⟩,by dsimp only;omega⟩
 ·rw[show j=xs.length by omega]
def Q4(f:Int→Int):Nat→Int×Int
 |0=>(0,f 0)
 |k+1=>if f ((k+1:Nat):Int)<(Q4 f k).2 then(((k+1:Nat):Int),f ((k+1:Nat):Int))else Q4 f k
theorem qdB(f:Int→Int):∀k,0≤(Q4 f k).1∧(Q4 f k).1≤k∧(Q4 f k).2=f (Q4 f k).1
 |0=>by simp [Q4]
 |k+1=>by
  have:=qdB f k
  simp only[Q4];split
  ·exact⟨by dsimp only;omega,by dsimp only;omega,rfl⟩
  ·exact⟨this.1,by omega,this.2.2⟩
def leftW(xs us:List Int)(p k:Int):Int:=M7 (qfb k xs us (jM p) xs.length) xs.length
def PA(xs us:List Int)(p:Int):Int:=(Q4 (leftW xs us p) 4).1
theorem qjI{row up:Value}{xs us:List Int}{p:Int}{w:World}(J:Nm .u8 w row xs)(hu:Nm .u8 w up us)(hl:xs.length≤1000000000)(hp:p≤9223372036854775807):
  Calls P O3 #[row,up,aB p] w (fun e w'=>e=aW (aB (PA xs us p))∧Ev w w'):=by
 have one:∀{w1:World} (_:Ev w w1) (k:Int) (K:Int→World→Prop),(∀w2,Ev w w2→K (leftW xs us p k) w2)→
   aE P qO dM #[aB k,row,up,aB p] w1 fun(v:Value) w2=>aE P oE bA #[v] w2 K:=fun{w1} he k K A=>by
  refine aO (qij (J.ev he) (hu.ev he) hl hp) ?_
  rintro _ w2 ⟨v,rfl,h2,C⟩
  refine⟨v,rfl,aO (qic C.nm (by rw[H5];exact hl)) ?_⟩
  rintro _ _ ⟨rfl,rfl⟩
  refine⟨_,rfl,?_⟩
  rw[H5];exact A _ (he.trans h2)
 refine WN (one (Ch.refl _ w) 0 _ fun w2 h2=>⟨fun r q k w'=>∃j:Nat,k=j+1∧j≤4∧(r,q)=Q4 (leftW xs us p) j∧Ev w w',fun _ _ k _=>5-k.toNat,⟨0,rfl,by omega,rfl,h2⟩,?_⟩)
 rintro _ r q k w3 ⟨j,rfl,hj,hb,h3⟩
 refine aG (fun cR=>?_) (fun I=>⟨?_,h3⟩)
 ·refine one h3 _ _ fun w5 h5=>?_
  have e3:i64 ((j:Int)+1+1)=j+1+1:=aD (by omega) (by omega)
  rw[e3]
  have u:q=(Q4 (leftW xs us p) j).2:=congrArg Prod.snd hb
  refine aG (fun hs=>⟨⟨j+1,by omega,by omega,?_,h5⟩,by dsimp only;omega⟩) (fun hs=>⟨⟨j+1,by omega,by omega,?_,h5⟩,by dsimp only;omega⟩)
  ·simp only[Q4];rw[←u,if_pos (by simpa using hs)];simp
  ·simp only[Q4];rw[←u,if_neg (by simpa using hs)];exact hb
 ·obtain rfl:j=4:=by omega
  have:r=PA xs us p:=congrArg Prod.fst hb
  rw[this]
def xZ(j p:Int):Bool:=decide (j≥1)&&decide (j≤1048576)&&decide (p≥1)&&decide (p≤4)
theorem qaU{j p:Int}{w:World}:Calls P uR #[aB j,aB p] w (fun e w'=>e=aW (.bool (xZ j p))∧w'=w):=by
 refine RK (aG (fun h1=>aG (fun h2=>aG (fun h3=>⟨?_,rfl⟩) (fun h3=>⟨?_,rfl⟩)) (fun h2=>⟨?_,rfl⟩)) (fun h1=>⟨?_,rfl⟩))<;>simp [xZ, *]
def AD(xs:List Int)(j i:Nat):List Int:=(xs.drop (i*j)).take j
def qln(xs:List Int)(j:Nat):Nat→List Int
 |0=>[]
 |i+1=>AD xs j i
def xK(xs:List Int)(j:Nat)(p:Int):Nat→List Int
 |0=>[]
 |i+1=>xK xs j p i++[PA (AD xs j i) (qln xs j i) p]++qfb (PA (AD xs j i) (qln xs j i) p) (AD xs j i) (qln xs j i) (jM p) (AD xs j i).length
theorem qaX{xs:List Int}{j i n:Nat}(h:xs.length=n*j)(hi:i<n):(AD xs j i).length=j:=by
 unfold AD
 rw[eJ,cQ,h]
 have:(i+1)*j≤n*j:=kR _ hi
 rw[mJ]at this
 omega
theorem GP{xs:List Int}{j n:Nat}{p:Int}(h:xs.length=n*j):∀{i},i≤n→(xK xs j p i).length=i*(j+1)
 |0,_=>by simp [xK]
 |i+1,hi=>by
  simp only[xK,bD,GP h (show i≤n by omega),H5,qaX h (show i<n by omega),N1,mJ]
  omega
theorem qlX(xs us:List Int)(p:Int):0≤PA xs us p∧PA xs us p≤4:=by have:=qdB (leftW xs us p) 4;unfold PA;omega
def TR(w:World)(r:Option (List Int))(er:Int)(e:Ending)(w':World):Prop:=Ev w w'∧match r with
 |some xs=>∃v,e=bP #[v,aB 0]∧ON .u8 eB w' w.heap.size v xs
 |none=>e=bP #[bR,aB er]
def oW(n:Nat)(j p:Int):Bool:=xZ j p&&decide ((n:Int)%j=0)&&decide (n≤1048576)
theorem qdx{n W:Nat}{p:Int}(h:oW n W p=true):1≤W∧W≤1048576∧1≤p∧p≤4∧n=n/W*W∧n≤1048576:=by
 simp only[oW,xZ,mK,decide_eq_true_eq]at h
 obtain⟨⟨⟨⟨⟨h1,h2⟩,h3⟩,h4⟩,h5⟩,h6⟩:=h
 have:n%W=0:=by omega
 have:=ZL n W
 rw[A4]at this
 omega
theorem qjG{b:Value}{xs:List Int}{j p:Int}{w:World}(hb:Nm .u8 w b xs)(hl:xs.length≤1000000000)(hp:p≤9223372036854775807):
  Calls P F7 #[b,aB j,aB p] w (TR w (if oW xs.length j p then some (xK xs j.toNat p (xs.length/j.toNat))else none) 1):=by
 have C:oW xs.length j p=false→TR w (if oW xs.length j p then some (xK xs j.toNat p (xs.length/j.toNat))else none) 1 (bP #[bR,aB 1]) w:=fun h=>by
  rw[h];exact⟨Ch.refl _ w,rfl⟩
 refine RH ⟨fun w'=>oW xs.length j p=true∧w'=w,aO qaU ?_,?_⟩
 ·rintro _ _ ⟨rfl,rfl⟩
  refine⟨_,rfl,?_⟩
  cases U:xZ j p with
  |false=>exact qiL (C (by simp [oW,U]))
  |true=>
   have hw:1≤j:=by simp [xZ]at U;omega
   refine VK (aP hb (kZ (by omega) (iC (fun h0=>aP hb (aG (fun h1=>C ?_) (fun h1=>⟨?_,rfl⟩))) (fun h0=>C ?_))))
   all_goals rw[N0 (by omega)]at h0
   ·simp [oW];omega
   ·simp [oW,U];omega
   ·simp [oW,h0]
 rintro _ _ ⟨hok,rfl⟩
 rw[hok,if_pos rfl]
 clear C
 obtain⟨W,rfl⟩:∃W:Nat,j=W:=⟨j.toNat,by simp [oW,xZ]at hok;omega⟩
 obtain⟨aa,ak,aq,ar,hn,ap⟩:=qdx hok
 rw[dH]
 generalize xs.length/W=n at hn
 rename_i w
 refine⟨fun N out up w3=>∃i:Nat,i≤n∧Nm .u8 w N (xs.drop (i*W))∧ON .u8 eB w3 w.heap.size out (xK xs W p i)∧Nm .u8 w up (qln xs W i)∧Ev w w3,
  fun N _ _ _=>qjr N,⟨0,by omega,by simpa using hb,ON.nil _ _ _ _,Nm.nil _ _,Ch.refl _ w⟩,?_⟩
 rintro _ N out up w3 ⟨i,hi,q,Y,M,I⟩
 have am:i*W≤n*W:=kR _ hi
 have ab:(xs.drop (i*W)).length=n*W-i*W:=by rw[cQ,←hn]
 refine aP q (aG (fun ai=>?_) (fun ag=>⟨I,out,rfl,?_⟩))
 ·have cR:i<n:=by
   rcases I6 i n with h|h
   ·exact h
   ·have:i=n:=by omega
    subst this;omega
  have ac:(i+1)*W≤n*W:=kR _ cR
  rw[mJ]at ac
  have A:∀{w':World},Nm .u8 w (oV 1 N 0 W) (AD xs W i):=fun{_}=>by
   have:=q.sub 0 W (by omega) (by omega)
   simpa [AD]using this
  have ae:(AD xs W i).length=W:=qaX hn cR
  have aj:=M
  refine dJ q 0 W (.inl ⟨rfl,rfl⟩) (.inr ⟨_,rfl⟩) (by omega) (by omega) fun _=>aO (qjI ((A (w':=w)).ev I) (M.ev I) (by omega) hp) ?_
  rintro _ w4 ⟨rfl,h4⟩
  have al:=qlX (AD xs W i) (qln xs W i) p
  generalize hk:PA (AD xs W i) (qln xs W i) p=k at*
  have V:Ev w w4.drew:=(I.trans h4).drew
  refine⟨k,rfl,fun _=>True,trivial,dJ q 0 W (.inl ⟨rfl,rfl⟩) (.inr ⟨_,rfl⟩) (by omega) (by omega) fun _=>qb2 (k:=.u8) [k] (by rw[LQ (by omega) (by omega)];rfl) rfl (by decide) (qrT (by simp;exact⟨by omega,by omega⟩)) fun y w5 h5 hy=>⟨trivial,?_⟩⟩
  have T:=GP hn (p:=p) hi
  have ah:i*(W+1)≤3000000:=by rw[Nat.mul_succ];have:n*1≤n*W:=qih _ aa;omega
  refine lS (((Y.ev h4).drew).ev h5) hy.nm (by rw[T];simp;omega) ((V.trans h5).size) fun o1 w6 O hc1 an=>⟨trivial,?_⟩
  have J:Ev w w6:=(V.trans h5).new hc1 fun g _ hg=>(Y.base hg).1
  refine aO (qij ((A (w':=w)).ev J) (M.ev J) (by omega) hp) ?_
  rintro _ w7 ⟨r,rfl,X,U⟩
  refine⟨r,rfl,trivial,lS (O.ev X) U.nm (by rw[bD,T,H5,ae];simp;omega) ((J.trans X).size) fun o2 w8 Z hc2 ao=>⟨trivial,?_⟩⟩
  have af:Ev w w8:=(J.trans X).new hc2 fun g _ hg=>(O.base hg).1
  refine dJ q 0 W (.inl ⟨rfl,rfl⟩) (.inr ⟨_,rfl⟩) (by omega) (by omega) fun _=>dJ q W (n*W-i*W) (.inr ⟨_,rfl⟩) (.inl ⟨rfl,ab.symm⟩) (by omega) (by omega) fun u=>⟨⟨i+1,cR,?_,?_,A (w':=w),af⟩,?_⟩
  ·rw[U2,gI (by rw[cQ,←hn];omega)]at u
   rwa [mJ]
  ·simp only[xK,hk];exact Z
  ·dsimp only
   rw[u.slen,q.slen,eJ,cQ];omega
 ·have:i=n:=by
   rcases I6 i n with h|h
   ·have:(i+1)*W≤n*W:=kR _ h
    rw[mJ]at this;omega
   ·omega
  subst this;exact Y
end Go.Proofs.YtabchipjjghhnaaGreatDoorV
