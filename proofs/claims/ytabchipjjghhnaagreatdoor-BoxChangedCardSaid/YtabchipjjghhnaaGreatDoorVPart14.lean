import Derived.Maps.Own
import Derived.Maps.Views
import Derived.Maps.Range
import Derived.Carry
import Derived.StringKeys
import Derived.Test.YtabchipjjghhnaaGreatDoorVPart13
set_option linter.unusedVariables false
set_option linter.unusedSimpArgs false
namespace Go.Proofs.YtabchipjjghhnaaGreatDoorV
open Go Go.RowKit
section
section
variable {w0 w w':World} {G:List It}
theorem TY{x:Value}{xs:List Int}{most:Int}(hb:Nm .u8 w x xs)(hl:xs.length≤1000000000):Calls P pV #[x,aB most] w (yQ w (kP xs most)):=by
 have hx:=hb.2
 refine RN (qau (Fr.start w) hb (by omega) fun ad y w1 f1=>dX (z:=.agg (Array.replicate 6 (aB 0))) f1 (by kernel_rfl) fun l7 w2 f2=>?_)
 have f2:Fr w w2 [aT l7 (((cL xs 0).1++List.replicate (6-0) 0).map (.int .i64)),aT ad [y,aB ((cL xs 0).2.1),aB (cL xs 0).2.2],bI .u8 eB y xs]:=f2
 have f2:Fr w w2 [aT ad [y,aB ((cL xs 0).2.1),aB (cL xs 0).2.2],bI .u8 eB y xs,aT l7 (((cL xs 0).1++List.replicate (6-0) 0).map (.int .i64))]:=f2.picks [1,2,0] (by decide)
 refine⟨fun i w'=>∃k:Nat,i=(k:Int)∧k≤6∧Fr w w' [aT ad [y,aB ((cL xs k).2.1),aB (cL xs k).2.2],bI .u8 eB y xs,aT l7 (((cL xs k).1++List.replicate (6-k) 0).map (.int .i64))],fun i _=>(6-i).toNat,⟨0,rfl,by omega,f2⟩,?_⟩
 rintro _ i w3 ⟨k,rfl,hk,f3⟩
 refine aG (fun cR=>?_) (fun cc=>?_)
 ·have am:k<6:=by omega
  refine qiF f3 (CF xs k) (by omega) fun w4 f4=>gT 6 k rfl am ?_
  have hr:=MN (qF (xs:=xs) (a:=(cL xs k).2.1) (er:=(cL xs k).2.2) (most:=18446744073709551615) hx).1
  have hc:i64 (if 1099511627776<(jK xs (cL xs k).2.1 (cL xs k).2.2 18446744073709551615).1 then 1099511627776 else(jK xs (cL xs k).2.1 (cL xs k).2.2 18446744073709551615).1)=JG (jK xs (cL xs k).2.1 (cL xs k).2.2 18446744073709551615).1:=by
   show i64 (JG _)=_;rw[aD (by omega) (by omega)]
  rw[hc]
  refine dT f4 2 k rfl (fun w5 f5=>?_) (by rw[fE,bD,oN,sF];omega)
  rw[qqW (oN xs k) am]at f5
  exact⟨⟨k+1,by rw[aD (by omega) (by omega)];omega,by omega,f5⟩,by dsimp only;rw[aD (by omega) (by omega)];omega⟩
 have am:k=6:=by omega
 subst am
 have aj:=CF xs 6
 have dg:=oN xs 6
 have cj:=R7 hx 6
 obtain⟨a6,aw⟩:∃a6,a6=(cL xs 6).2.1:=⟨_,rfl⟩
 obtain⟨au,ax⟩:∃au,au=(cL xs 6).2.2:=⟨_,rfl⟩
 rw[←aw]at aj
 rw[←aw,←ax,show List.replicate (6-6) (0:Int)=[]from rfl,iW]at f3
 refine PK f3 aj (by omega) (cA (fun ay=>?_) (fun df=>?_))
 ·have hU:kP xs most=([],au):=by unfold kP;dsimp only;rw[←ax,if_pos ay]
  rw[hU];exact⟨_,rfl,f3.old,ON.nil _ _ _ _⟩
 subst df
 obtain⟨l,cd⟩:∃l:List Int,l=(cL xs 6).1:=⟨_,rfl⟩
 rw[←cd]at dg cj f3
 have N:∀j:Nat,j<6→∃q:Nat,rd l (j:Int)=(q:Int)∧q≤1099511627776:=fun j hj=>by
  have:=cj _ (OG (xs:=l) (i:=(j:Int)) (by omega) (by omega))
  exact⟨(rd l (j:Int)).toNat,by omega,by omega⟩
 obtain⟨n,hn,bn⟩:=N 0 (by omega)
 obtain⟨F,hF,bF⟩:=N 1 (by omega)
 obtain⟨Wd,cb,eb⟩:=N 2 (by omega)
 obtain⟨H,hH,bH⟩:=N 3 (by omega)
 obtain⟨L,hL,bL⟩:=N 4 (by omega)
 obtain⟨S,hS,bS⟩:=N 5 (by omega)
 have hU:kP xs most=if(n:Int)>(if 0>most then 0 else most)∨(n:Int)>1048576 then([],5)else if FX n F Wd H L S=true then([],4)else FZ xs a6 n F Wd H L S:=by
  unfold kP;dsimp only
  rw[←ax,if_neg (show ¬((0:Int)≠0)from fun h=>h rfl),←cd,←aw]
  rw[show rd l 0=(n:Int)from hn,show rd l 1=(F:Int)from hF,show rd l 2=(Wd:Int)from cb,show rd l 3=(H:Int)from hH,show rd l 4=(L:Int)from hL,show rd l 5=(S:Int)from hS]
 have ld:∀{j:Nat} {q:Nat} {K:Int→Prop},j<6→rd l (j:Int)=(q:Int)→K (q:Int)→aX P gS (aH l7) (aB (j:Int)) fun dj=>aF P aK bA (aH dj) w3 K:=fun{j q K} hj hq hk=>
  gT 6 j rfl hj (cI (n:=(q:Int)) f3 2 j rfl (by rw[←hq];exact qq9 (k:=.i64) (xs:=l) (by omega)) hk)
 refine ld (j:=0) (by omega) hn (ld (j:=1) (by omega) hF (ld (j:=2) (by omega) cb (ld (j:=3) (by omega) hH (ld (j:=4) (by omega) hL (ld (j:=5) (by omega) hS (mL f3 fun A w7 f7=>?_))))))
 have f7:Fr w w7 [aT A (EI F Wd H L S),aT ad [y,aB a6,aB 0],bI .u8 eB y xs,aT l7 (l.map (.int .i64))]:=f7
 have f7:Fr w w7 [aT ad [y,aB a6,aB 0],bI .u8 eB y xs,aT A (EI F Wd H L S)]:=f7.picks [1,2,0] (by decide)
 have hB:∀{w':World} {F':List It} (i:Nat),Fr w w' F'→F'[i]?=some (aT A (EI F Wd H L S))→∀(j:Nat) (u:Value),(EI F Wd H L S)[j]?=some u→w'.cell? (A.add j)=some u:=fun i f hi j u hj=>f.cell i j hi hj
 have O:∀{w':World} {F':List It} (i:Nat),Fr w w' F'→F'[i]?=some (aT A (EI F Wd H L S))→St w' A (EI F Wd H L S):=fun i f hi=>f.get i hi
 have err:∀{w'} (e:Int),Ev w w'→kP xs most=([],e)→yQ w (kP xs most) (bP #[bR,aB e]) w':=fun e he hu=>by rw[hu];exact⟨_,rfl,he,ON.nil _ _ _ _⟩
 refine⟨fun w'=>¬((n:Int)>(if 0>most then 0 else most)∨(n:Int)>1048576)∧FX n F Wd H L S=false∧Fr w w' [aT ad [y,aB a6,aB 0],bI .u8 eB y xs,aT A (EI F Wd H L S)],⟨fun t w'=>t=decide ((n:Int)>(if 0>most then 0 else most)∨(n:Int)>1048576)∧Fr w w' [aT ad [y,aB a6,aB 0],bI .u8 eB y xs,aT A (EI F Wd H L S)],?_,?_⟩,?_⟩
 ·refine cC (fun h=>⟨?_,f7⟩) (fun h=>⟨?_,f7⟩)
  ·rw[decide_eq_decide];exact⟨.inr,fun hh=>hh.resolve_left h⟩
  ·rw[decide_eq_true (.inl h)]
 ·rintro _ t w8 ⟨rfl,f8⟩
  refine aG (fun h=>err 5 f8.old (by rw[hU,if_pos h])) (fun ap=>?_)
  have I:((F:Int)>n∨(Wd:Int)<1∨(Wd:Int)>n∨(H:Int)<1∨(H:Int)>n∨(L:Int)<1∨(L:Int)>3∨(S:Int)<(Wd:Int)*L∨(S:Int)>n∨(F:Int)+S*H>n)→true=FX n F Wd H L S:=fun h=>(decide_eq_true h).symm
  refine⟨fun t w'=>t=FX n F Wd H L S∧Fr w w' [aT ad [y,aB a6,aB 0],bI .u8 eB y xs,aT A (EI F Wd H L S)],⟨fun w'=>∀(j:Nat) (u:Value),(EI F Wd H L S)[j]?=some u→w'.cell? (A.add j)=some u,hB 2 f8.drew rfl,aC ?_⟩,?_⟩
  ·rw[add0]
   refine aN (fun w' hw=>hw 4 _ rfl) (cC (fun h1=>aC ?_) (fun h=>⟨I (by omega),f8.drew⟩))
   rw[add0]
   refine aN (fun w' hw=>hw 0 _ rfl) (cC (fun h2=>aC ?_) (fun h=>⟨I (by omega),f8.drew⟩))
   rw[add0]
   refine aN (fun w' hw=>hw 0 _ rfl) (cC (fun h3=>aC ?_) (fun h=>⟨I (by omega),f8.drew⟩))
   rw[add0]
   refine aN (fun w' hw=>hw 1 _ rfl) (cC (fun h4=>aC ?_) (fun h=>⟨I (by omega),f8.drew⟩))
   rw[add0]
   refine aN (fun w' hw=>hw 1 _ rfl) (cC (fun h5=>aC ?_) (fun h=>⟨I (by omega),f8.drew⟩))
   rw[add0]
   refine aN (fun w' hw=>hw 2 _ rfl) (cC (fun h6=>aC ?_) (fun h=>⟨I (by omega),f8.drew⟩))
   rw[add0]
   refine aN (fun w' hw=>hw 2 _ rfl) (cC (fun h7=>aC ?_) (fun h=>⟨I (by omega),f8.drew⟩))
   rw[add0]
   have el:Wd*L≤n*3:=U3 (by omega) (by omega)
   have ek:S*H≤1099511627776*1048576:=U3 bS (by omega)
   refine aN (fun w' hw=>hw 3 _ rfl) (bQ (zL (O 2 f8.drew rfl) (by omega)) fun w9 h9=>⟨hB 2 (f8.drew.ev h9) rfl,cC (fun h8=>aC ?_) (fun h=>⟨I (by rw[←rM];omega),f8.drew.ev h9⟩)⟩)
   rw[add0]
   refine aN (fun w' hw=>hw 3 _ rfl) (cC (fun ei=>bQ (SX (O 2 (f8.drew.ev h9) rfl) (by omega)) fun eq bq=>⟨hB 2 ((f8.drew.ev h9).ev bq) rfl,?_,(f8.drew.ev h9).ev bq⟩) (fun h=>⟨I (by omega),f8.drew.ev h9⟩))
   unfold FX
   rw[decide_eq_decide,←rM,←rM]
   omega
  ·rintro _ t et ⟨rfl,bm⟩
   refine iQ (fun de=>err 4 bm.old (by rw[hU,if_neg ap,if_pos de])) (fun ak=>⟨ap,ak,bm⟩)
 rintro _ eu ⟨ap,ak,f12⟩
 have dd:kP xs most=FZ xs a6 n F Wd H L S:=by rw[hU,if_neg ap,if_neg (by rw[ak];decide)]
 obtain⟨b1,b2,b3,b4,b5,b6,b7,b8,b9,ct⟩:=qiq ak
 obtain⟨W,hW⟩:∃W,W=Wd*L:=⟨_,rfl⟩
 have bl:(Wd:Int)*(L:Int)=(W:Int):=by rw[hW,rM]
 have bj:(S:Int)*(H:Int)=((S*H:Nat):Int):=by rw[rM]
 rw[bl]at b8
 rw[bj]at ct
 have dq:Wd≤W:=by rw[hW];exact ZK _ (by omega)
 have ej:H*(W+1)≤1048576*1048577:=U3 (by omega) (by omega)
 have dc:H*(S-W)≤1048576*1048576:=U3 (by omega) (by omega)
 obtain⟨r,bw⟩:∃r,r=S-W:=⟨_,rfl⟩
 rw[←bw]at dc
 have e2:(H:Int)*((W:Int)+1)=((H*(W+1):Nat):Int):=by rw[rM];rfl
 have e3:(H:Int)*((S:Int)-(W:Int))=((H*r:Nat):Int):=by rw[rM,bw,Int.natCast_sub (by omega)]
 have e4:(n:Int)-((F:Int)+((S*H:Nat):Int))=((n-(F+S*H):Nat):Int):=by omega
 obtain⟨r1,ac⟩:∃r1,r1=eV xs a6 0 (F:Int):=⟨_,rfl⟩
 obtain⟨r2,aa⟩:∃r2,r2=eV xs r1.2.1 r1.2.2 ((H*(W+1):Nat):Int):=⟨_,rfl⟩
 obtain⟨r3,ae⟩:∃r3,r3=eV xs r2.2.1 r2.2.2 ((H*r:Nat):Int):=⟨_,rfl⟩
 obtain⟨r4,af⟩:∃r4,r4=eV xs r3.2.1 r3.2.2 ((n-(F+S*H):Nat):Int):=⟨_,rfl⟩
 have g1:r1.2.1≤xs.length:=by rw[ac];exact M0 aj
 have g2:r2.2.1≤xs.length:=by rw[aa];exact M0 g1
 have g3:r3.2.1≤xs.length:=by rw[ae];exact M0 g2
 have g4:r4.2.1≤xs.length:=by rw[af];exact M0 g3
 have U:kP xs most=if I8 xs.length r4.2.1 r4.2.2≠0 then([],I8 xs.length r4.2.1 r4.2.2)
   else if vT r2.1.length (W:Int) L=true∧L4 r2.1 W (r2.1.length/(W+1))=true then
    (r1.1++SD (DI r2.1 W L (r2.1.length/(W+1))) r3.1 W r L (r2.1.length/(W+1))++r4.1,0)else([],4):=by
  rw[dd]
  unfold FZ
  dsimp only
  rw[bl,bj,e2,e3,e4,←ac,←aa,←ae,←af,dH,dH,show((S:Int)-(W:Int)).toNat=r by omega]
 refine aC ?_
 rw[add0]
 refine bG (hB 2 f12 rfl 4 _ rfl) (PL f12 aj (by omega) (by omega) fun ar ew f13=>?_)
 rw[←ac]at f13
 refine⟨fun w'=>∀(j:Nat) (u:Value),(EI F Wd H L S)[j]?=some u→w'.cell? (A.add j)=some u,hB 3 f13.drew rfl,aC ?_⟩
 rw[add0]
 refine aN (fun w' hw=>hw 1 _ rfl) (bQ (zL (O 3 f13.drew rfl) (by omega)) fun ex br=>⟨hB 3 (f13.drew.ev br) rfl,?_⟩)
 have f14:=f13.drew.ev br
 rw[←hW,aD (n:=(W:Int)+1) (by omega) (by omega),e2,aD (n:=((H*(W+1):Nat):Int)) (by omega) (by omega)]
 refine PL f14 g1 (by omega) (by omega) fun co ey f15=>⟨?_,?_⟩
 ·exact hB 4 f15 rfl
 rw[←aa]at f15
 refine⟨fun w'=>∀(j:Nat) (u:Value),(EI F Wd H L S)[j]?=some u→w'.cell? (A.add j)=some u,hB 4 f15.drew rfl,aC ?_⟩
 rw[add0]
 refine aN (fun w' hw=>hw 1 _ rfl) (aC ?_)
 rw[add0]
 refine aN (fun w' hw=>hw 3 _ rfl) (bQ (zL (O 4 f15.drew rfl) (by omega)) fun ez bt=>⟨hB 4 (f15.drew.ev bt) rfl,?_⟩)
 have cu:=f15.drew.ev bt
 rw[←hW,aD (n:=(S:Int)-(W:Int)) (by omega) (by omega),e3,aD (n:=((H*r:Nat):Int)) (by omega) (by omega)]
 refine PL cu g2 (by omega) (by omega) fun Z fa ai=>⟨?_,?_⟩
 ·exact hB 5 ai rfl
 rw[←ae]at ai
 refine bQ (SX (O 5 ai rfl) (by omega)) fun fb cx=>?_
 have cw:=ai.ev cx
 rw[show(n:Int)-((F+S*H:Nat):Int)=((n-(F+S*H):Nat):Int)by omega,aD (n:=((n-(F+S*H):Nat):Int)) (by omega) (by omega)]
 refine PL cw g3 (by omega) (by omega) fun ag fc f19=>?_
 rw[←af]at f19
 refine qqS f19 g4 (by omega) fun dk cy=>?_
 have f20:=f19.ev cy
 refine cA (fun ay=>err _ f20.old (by rw[U,if_pos ay])) (fun X=>?_)
 have db:r4.2.2=0:=by
  refine Decidable.byContradiction fun ao=>ao ?_
  unfold I8 at X;rw[if_pos ao]at X;exact X
 obtain⟨m4,k4⟩:=A0 (n:=((n-(F+S*H):Nat):Int)) (by omega) (af▸db)
 obtain⟨m3,k3⟩:=A0 (n:=((H*r:Nat):Int)) (by omega) (ae▸k4)
 obtain⟨m2,k2⟩:=A0 (n:=((H*(W+1):Nat):Int)) (by omega) (aa▸k3)
 obtain⟨m1,_⟩:=A0 (n:=(F:Int)) (by omega) (ac▸k2)
 rw[←af,dH]at m4
 rw[←ae,dH]at m3
 rw[←aa,dH]at m2
 rw[←ac,dH]at m1
 have l2:r2.1.length≤xs.length:=by rw[aa];exact TI
 have aq:H*(W+1)/(W+1)=H:=Nat.mul_div_cancel _ (by omega)
 rw[if_neg (fun h=>h X),m2,aq]at U
 have f20:Fr w dk [bI .u8 eB ag r4.1,bI .u8 eB Z r3.1,bI .u8 eB co r2.1,bI .u8 eB ar r1.1,aT A (EI F Wd H L S)]:=f20.picks [2,3,4,5,6] (by decide)
 refine⟨fun w'=>∀(j:Nat) (u:Value),(EI F Wd H L S)[j]?=some u→w'.cell? (A.add j)=some u,hB 4 f20.drew rfl,aC ?_⟩
 rw[add0]
 refine aN (fun w' hw=>hw 2 _ rfl) (bQ (zL (O 4 f20.drew rfl) (by omega)) fun fd bu=>⟨hB 4 (f20.drew.ev bu) rfl,?_⟩)
 have f21:=f20.drew.ev bu
 rw[←hW]
 refine aO (qlP (f21.nm 2 rfl) (by omega) (by omega)) ?_
 intro ee dl J
 unfold qag at J
 rw[m2,dH,aq]at J
 by_cases hok:vT (H*(W+1)) (W:Int) L=true
 ·rw[if_pos hok]at J
  by_cases an:L4 r2.1 W H=true
  ·rw[if_pos an]at J
   rw[if_pos ⟨hok,an⟩]at U
   obtain⟨T,ah,rfl,cg⟩:=J
   have C:=EQ r2.1 W L H
   have av:∀k,k≤H→(SD (DI r2.1 W L H) r3.1 W r L k).length=k*(W+r):=fun k hk=>qeQ C m3 hk
   generalize DI r2.1 W L H=M at cg C U av
   have f22:=f21.newO T cg
   have f22:Fr w dl [bI .u8 eB ar r1.1,bI .u8 eB ah M,bI .u8 eB Z r3.1,bI .u8 eB ag r4.1,aT A (EI F Wd H L S)]:=f22.picks [4,0,2,1,5] (by decide)
   refine⟨_,_,rfl,hB 4 f22 rfl,cA (fun h=>(h rfl).elim) (fun _=>bQ (zL (O 4 f22 rfl) (by omega)) fun fe cz=>?_)⟩
   have f23:=f22.ev cz
   rw[←hW]
   refine⟨fun bs px out w'=>∃i:Nat,i≤H∧(∀{V},Nm .u8 V ah M→Nm .u8 V px (M.drop (i*W)))∧(∀{V},Nm .u8 V Z r3.1→Nm .u8 V bs (r3.1.drop (i*r)))∧Fr w w' [bI .u8 eB out (r1.1++SD M r3.1 W r L i),bI .u8 eB ah M,bI .u8 eB Z r3.1,bI .u8 eB ag r4.1,aT A (EI F Wd H L S)],fun _ px _ _=>qjr px,?_,?_⟩
   ·refine⟨0,bW _,fun h=>by simpa using h,fun h=>by simpa using h,?_⟩
    rw[SD,iW];exact f23
   rintro _ bs px out ff ⟨i,hi,ba,al,f24⟩
   have bd:=ba (f24.nm 1 rfl)
   have nbs:=al (f24.nm 2 rfl)
   have cm:=bd.slen
   have en:i*W≤H*W:=kR _ hi
   have em:i*r≤H*r:=kR _ hi
   refine aP bd ?_
   rw[cQ,C]at cm⊢
   refine aG (fun cR=>?_) (fun cc=>?_)
   ·have ab:i<H:=by
     refine Decidable.byContradiction fun ao=>?_
     have:i=H:=by omega
     subst this;simp at cR
    have b1:(i+1)*W≤H*W:=kR _ ab
    have b2:(i+1)*r≤H*r:=kR _ ab
    have c1:(i+1)*W=i*W+W:=by rw[M9,AI]
    have c2:(i+1)*r=i*r+r:=by rw[M9,AI]
    have Y:=av i hi
    have dr:i*(W+r)≤H*(W+r):=kR _ hi
    have bz:H*(W+r)=H*W+H*r:=Nat.mul_add _ _ _
    have bx:H*(W+1)=H*W+H:=Nat.mul_succ _ _
    refine⟨fun w'=>∀(j:Nat) (u:Value),(EI F Wd H L S)[j]?=some u→w'.cell? (A.add j)=some u,hB 4 f24.drew rfl,?_⟩
    refine dJ bd 0 W (.inl ⟨rfl,rfl⟩) (.inr ⟨_,rfl⟩) (bW _) (by rw[cQ,C];omega) fun ck=>aC ?_
    rw[Z9,oL]at ck
    rw[add0]
    refine aN (fun w' hw=>hw 3 _ rfl) ?_
    rw[show i64 ((S:Int)-(W:Int))=(r:Int)by rw[aD (by omega) (by omega)];omega]
    refine dJ nbs 0 r (.inl ⟨rfl,rfl⟩) (.inr ⟨_,rfl⟩) (bW _) (by rw[cQ,m3];omega) fun dh=>?_
    rw[Z9,oL]at dh
    refine iY (qkZ (O 4 f24.drew rfl) (ck.ev (Ev.drew0 _)) (by rw[eJ,cQ,C];omega)) fun dt fg ⟨bv,cf⟩=>⟨hB 4 (f24.drew.ev bv) rfl,?_⟩
    have f25:=f24.drew.ev bv
    refine vZ f25 0 rfl cf (by rw[bD,Y,MK,eJ,cQ,C];omega) fun du dm f26=>⟨hB 4 f26 rfl,?_⟩
    have cl:Nm .u8 dm (oV 1 bs 0 r) ((r3.1.drop (i*r)).take r):=by
     have:=(al (f26.nm 2 rfl)).sub 0 r (bW _) (by rw[cQ,m3];omega)
     rwa [Z9,oL]at this
    refine vZ f26 0 rfl cl (by rw[bD,bD,Y,MK,eJ,cQ,C,eJ,cQ,m3];omega) fun dv fh f27=>⟨hB 4 f27 rfl,aC ?_⟩
    rw[add0]
    refine bG (hB 4 f27 rfl 3 _ rfl) ?_
    rw[show i64 ((S:Int)-(W:Int))=(r:Int)by rw[aD (by omega) (by omega)];omega]
    have bc:=al (f27.nm 2 rfl)
    have be:=ba (f27.nm 1 rfl)
    refine dJ bc r (r3.1.drop (i*r)).length (.inr ⟨_,rfl⟩) (.inl ⟨rfl,rfl⟩) (by rw[cQ,m3];omega) (cJ _) fun _=>dJ be W (M.drop (i*W)).length (.inr ⟨_,rfl⟩) (.inl ⟨rfl,rfl⟩) (by rw[cQ,C];omega) (cJ _) fun ci=>?_
    have az:r1.1++SD M r3.1 W r L (i+1)=r1.1++SD M r3.1 W r L i++qak L ((M.drop (i*W)).take W)++(r3.1.drop (i*r)).take r:=by rw[SD];simp
    refine⟨⟨i+1,ab,fun{V} h=>?_,fun{V} h=>?_,by rw[az];exact f27⟩,?_⟩
    ·have:=(ba h).sub W (M.drop (i*W)).length (by rw[cQ,C];omega) (cJ _)
     rw[gI (by rw[cQ];exact cJ _),U2,←c1]at this;exact this
    ·have:=(al h).sub r (r3.1.drop (i*r)).length (by rw[cQ,m3];omega) (cJ _)
     rw[gI (by rw[cQ];exact cJ _),U2,←c2]at this;exact this
    ·dsimp only
     rw[ci.slen,cm,eJ,cQ,cQ,C];omega
   ·have ab:i=H:=by
     refine Decidable.byContradiction fun ao=>cc ?_
     have b1:(i+1)*W≤H*W:=kR _ (by omega)
     rw[M9,AI]at b1;omega
    subst ab
    have Y:=av i (cJ _)
    have bz:i*(W+r)=i*W+i*r:=Nat.mul_add _ _ _
    have bx:i*(W+1)=i*W+i:=Nat.mul_succ _ _
    refine vZ f24 0 rfl (f24.nm 3 rfl) (by rw[bD,Y];omega) fun cp fi f28=>?_
    rw[U]
    exact⟨cp,rfl,f28.old,f28.on 0 rfl⟩
  ·rw[if_neg an]at J
   obtain⟨T,rfl⟩:=J
   refine⟨_,_,rfl,hB 4 (f21.ev T) rfl,cA (fun _=>err 4 (f21.ev T).old (by rw[U,if_neg (fun h=>an h.2)])) (fun h=>by cases h)⟩
 ·rw[if_neg hok]at J
  obtain⟨T,rfl⟩:=J
  refine⟨_,_,rfl,hB 4 (f21.ev T) rfl,cA (fun _=>err 4 (f21.ev T).old (by rw[U,if_neg (fun h=>hok h.1)])) (fun h=>by cases h)⟩
end
end
def A1(xs:List Int)(W:Nat):Nat→Int
 |0=>0
 |j+1=>A1 xs W j+(if W≤j∧rd xs (j:Int)=rd xs ((j-W:Nat):Int)then 1 else 0)
theorem qa0(xs:List Int)(W:Nat):∀j,0≤A1 xs W j∧A1 xs W j≤j
 |0=>by simp [A1]
 |j+1=>by have:=qa0 xs W j;rw[A1];split<;>omega
theorem YF(xs:List Int)(W:Nat):∀j,j≤W→A1 xs W j=0
 |0,_=>rfl
 |j+1,h=>by rw[A1,YF xs W j (by omega),if_neg (by omega)];rfl
def YE(xs:List Int)(j:Int):Int:=if j<1 then 0 else A1 xs j.toNat xs.length
theorem qjT{b:Value}{xs:List Int}{q:Int}{w:World}(hb:Nm .u8 w b xs)(hl:xs.length≤1000000000)(hw:q≤9223372036854775807):Calls P P1 #[b,aB q] w (fun e w'=>e=aW (aB (YE xs q))∧Ev w w'):=by
 refine XC (aG (fun h=>⟨by unfold YE;rw[if_pos h],Ch.refl _ w⟩) (fun h=>?_))
 obtain⟨W,rfl⟩:∃W:Nat,q=W:=⟨q.toNat,by omega⟩
 unfold YE
 rw[if_neg h,dH]
 refine⟨fun n i w'=>∃j:Nat,i=j∧W≤j∧n=A1 xs W (min j xs.length)∧Ev w w',fun _ i _=>xs.length-i.toNat,⟨W,rfl,by omega,(YF xs W _ (by omega)).symm,Ch.refl _ w⟩,?_⟩
 rintro _ n i w1 ⟨j,rfl,hj,rfl,h1⟩
 refine aP hb (aG (fun cR=>?_) (fun A=>⟨by rw[Nat.min_eq_right (by omega)],h1⟩))
 rw[vU (by omega)]
 have hs:=qa0 xs W j
 rw[show i64 ((j:Int)-W)=((j-W:Nat):Int)by rw[aD (by omega) (by omega)];omega,aD (n:=(j:Int)+1) (by omega) (by omega),aD (n:=A1 xs W j+1) (by omega) (by omega)]
 refine dL (hb.ev h1) (by omega) cR fun a1 r _=>aN (mM r) (dL (hb.ev h1) (by omega) (by omega) fun a2 u _=>aN (mM u) (cN (fun e=>⟨⟨j+1,rfl,by omega,?_,h1.drew⟩,by dsimp only;omega⟩) (fun e=>⟨⟨j+1,rfl,by omega,?_,h1.drew⟩,by dsimp only;omega⟩)))
 ·rw[vU (by omega),A1,if_pos ⟨hj,e⟩]
 ·rw[vU (by omega),A1,if_neg (fun hh=>e hh.2),Int.add_zero]
def Z7(xs:List Int):Nat→Int×Int
 |0=>(0,(xs.length:Int)/2)
 |W+1=>if 2≤W∧4*W≤xs.length∧YE xs W>(Z7 xs W).2 then(W,YE xs W)else Z7 xs W
def Z6(xs:List Int):Int:=(Z7 xs 17).1
theorem ZB(xs:List Int)(W:Nat)(h:xs.length<4*W):∀d,(Z7 xs (W+d)).1=(Z7 xs W).1
 |0=>rfl
 |d+1=>by
  have:=ZB xs W h d
  rw[←Nat.add_assoc,Z7,if_neg (by omega),this]
theorem qoC(xs:List Int):Z7 xs 2=(0,(xs.length:Int)/2):=by simp [Z7]
theorem qai{b:Value}{xs:List Int}{w:World}(hb:Nm .u8 w b xs)(hl:xs.length≤1000000000):Calls P yN #[b] w (fun e w'=>e=aW (aB (Z6 xs))∧Ev w w'):=by
 refine XD (aP hb ?_)
 rw[show i64 (Int.tdiv (xs.length:Int) 2)=(xs.length:Int)/2 by rw[sH (by omega),aD (by omega) (by omega)]]
 refine⟨fun j most i w'=>∃W:Nat,i=W∧2≤W∧W≤17∧(j,most)=Z7 xs W∧Ev w w',fun _ _ i _=>17-i.toNat,⟨2,rfl,by omega,by omega,(qoC xs).symm,Ch.refl _ w⟩,?_⟩
 rintro _ j most i w1 ⟨W,rfl,A,hW,q,h1⟩
 have r:j=(Z7 xs W).1:=congrArg Prod.fst q
 have u:most=(Z7 xs W).2:=congrArg Prod.snd q
 refine aG (fun J=>aP hb ?_) (fun I=>⟨?_,h1⟩)
 ·rw[aD (n:=4*(W:Int)) (by omega) (by omega),aD (n:=(W:Int)+1) (by omega) (by omega)]
  refine aG (fun C=>bQ (qjT (hb.ev h1) hl (by omega)) fun w2 h2=>aG (fun hs=>⟨⟨W+1,rfl,by omega,by omega,?_,h1.trans h2⟩,by dsimp only;omega⟩) (fun hs=>⟨⟨W+1,rfl,by omega,by omega,?_,h1.trans h2⟩,by dsimp only;omega⟩)) (fun M=>⟨?_,h1⟩)
  ·rw[Z7,if_pos ⟨A,by omega,by rw[←u];exact hs⟩]
  ·rw[Z7,if_neg (fun hh=>hs (by rw[u];exact hh.2.2))];exact q
  ·obtain⟨d,hd⟩:∃d,17=W+d:=⟨17-W,by omega⟩
   rw[Z6,hd,ZB xs W (by omega),r]
 ·obtain rfl:W=17:=by omega
  rw[r];rfl
def wOf(j:Int):Nat:=(if 1>j then 1 else j).toNat
theorem qjE(j:Int):1≤wOf j:=by unfold wOf;split<;>omega
theorem qoy(j:Int):(if 1>j then 1 else j)=(wOf j:Int):=by unfold wOf;split<;>omega
def qbN(xs:List Int)(W:Nat):List Int:=rJ xs.length fun i=>if i<W then rd xs i else(rd xs i-rd xs ((i-W:Nat):Int))%256
def zK(xs:List Int)(W i:Nat):Int:=if h:i<W∨W=0 then rd xs i else(rd xs i+zK xs W (i-W))%256
def LT(xs:List Int)(W:Nat):List Int:=rJ xs.length fun i=>zK xs W i
theorem qjL{b:Value}{xs:List Int}{r:Int}{w:World}(hb:Nm .u8 w b xs)(hl:xs.length≤1000000000)(hw:r≤9223372036854775807):Calls P P0 #[b,aB r] w (JC w (qbN xs (wOf r))):=by
 refine XB (lS (ON.nil .u8 eB w w.heap.size) hb (by simp;omega) (cJ _) fun v w1 C hc hm=>?_)
 have h1:Ev w w1:=hc.mono fun _ _ _ hh=>by cases hh
 have hW:=qjE r
 have M:(wOf r:Int)≤9223372036854775807:=by unfold wOf;split<;>omega
 rw[qoy]
 generalize wOf r=W at*
 rw[sG]at C
 refine⟨fun i w'=>∃j:Nat,i=j∧W≤j∧Ev w w'∧ON .u8 eB w' w.heap.size v (rJ xs.length fun i=>if i<W then rd xs i else if i<j then(rd xs i-rd xs ((i-W:Nat):Int))%256 else rd xs i),fun i _=>xs.length-i.toNat,⟨W,rfl,by omega,h1,?_⟩,?_⟩
 ·have:(rJ xs.length fun i=>if i<W then rd xs i else if i<W then(rd xs i-rd xs ((i-W:Nat):Int))%256 else rd xs i)=xs:=by
   conv=>rhs;rw[←YP xs]
   exact mA fun i _=>by split<;>simp_all
  rw[this];exact C
 rintro _ i w2 ⟨j,rfl,hj,h2,u⟩
 refine aP hb (aG (fun cR=>?_) (fun N=>⟨v,rfl,h2,?_⟩))
 ·rw[show i64 ((j:Int)-W)=((j-W:Nat):Int)by rw[aD (by omega) (by omega)];omega,aD (n:=(j:Int)+1) (by omega) (by omega)]
  refine⟨fun _=>True,fun w'=>w'=w2.drew,⟨trivial,rfl⟩,dL (hb.ev h2.drew) (by omega) cR fun a1 I _=>aN (fun w' h=>by subst h;exact I) (dL (hb.ev h2.drew) (by omega) (by omega) fun a2 J _=>aN (fun w' h=>by subst h;exact J) ?_)⟩
  have r1:=jB hb.2 j
  have r2:=jB hb.2 ((j-W:Nat):Int)
  rw[aD (n:=rd xs j) (by omega) (by omega),aD (n:=rd xs ((j-W:Nat):Int)) (by omega) (by omega),aD (n:=rd xs j-rd xs ((j-W:Nat):Int)) (by omega) (by omega),nF]
  refine C6 u.drew (by omega) (by rw[dS];omega) fun a3 O _=>qK u.drew O (by omega) (by rw[dS];omega) (IZ (by omega)) fun w3 h3 _ A=>⟨trivial,⟨j+1,rfl,by omega,h2.drew.new h3 fun g _ hg=>(u.base hg).1,?_⟩,by dsimp only;omega⟩
  rw[dH,EO (by omega)]at A
  rw[show(rJ xs.length fun i=>if i<W then rd xs i else if i<j+1 then(rd xs i-rd xs ((i-W:Nat):Int))%256 else rd xs i)=rJ xs.length fun q=>if q=j then(rd xs j-rd xs ((j-W:Nat):Int))%256 else if q<W then rd xs q else if q<j then(rd xs q-rd xs ((q-W:Nat):Int))%256 else rd xs q from mA fun q _=>by
   by_cases e:q=j
   ·subst e;rw[if_pos rfl,if_neg (by omega),if_pos (by omega)]
   ·rw[if_neg e]
    by_cases e2:q<W
    ·rw[if_pos e2,if_pos e2]
    ·rw[if_neg e2,if_neg e2]
     by_cases e3:q<j
     ·rw[if_pos e3,if_pos (by omega)]
     ·rw[if_neg e3,if_neg (by omega)]]
  exact A
 ·unfold qbN
  rw[show(rJ xs.length fun i=>if i<W then rd xs i else(rd xs i-rd xs ((i-W:Nat):Int))%256)=rJ xs.length fun i=>if i<W then rd xs i else if i<j then(rd xs i-rd xs ((i-W:Nat):Int))%256 else rd xs i from mA fun q hq=>by
   by_cases e2:q<W
   ·rw[if_pos e2,if_pos e2]
   ·rw[if_neg e2,if_neg e2,if_pos (by omega)]]
  exact u
theorem qdr{b:Value}{xs:List Int}{r:Int}{w:World}(hb:Nm .u8 w b xs)(hl:xs.length≤1000000000)(hw:r≤9223372036854775807):Calls P zY #[b,aB r] w (JC w (LT xs (wOf r))):=by
 refine NY (lS (ON.nil .u8 eB w w.heap.size) hb (by simp;omega) (cJ _) fun v w1 J hc hm=>?_)
 have h1:Ev w w1:=hc.mono fun _ _ _ hh=>by cases hh
 have hW:=qjE r
 have O:(wOf r:Int)≤9223372036854775807:=by unfold wOf;split<;>omega
 rw[qoy]
 generalize wOf r=W at*
 rw[sG]at J
 refine⟨fun i w'=>∃j:Nat,i=j∧W≤j∧Ev w w'∧ON .u8 eB w' w.heap.size v (rJ xs.length fun i=>if i<j then zK xs W i else rd xs i),fun i _=>xs.length-i.toNat,⟨W,rfl,by omega,h1,?_⟩,?_⟩
 ·have:(rJ xs.length fun i=>if i<W then zK xs W i else rd xs i)=xs:=by
   conv=>rhs;rw[←YP xs]
   exact mA fun i _=>by
    split
    ·rename_i h;rw[zK,dif_pos (.inl h)]
    ·rfl
  rw[this];exact J
 rintro _ i w2 ⟨j,rfl,hj,h2,u⟩
 refine aP hb (aG (fun cR=>?_) (fun T=>⟨v,rfl,h2,?_⟩))
 ·rw[show i64 ((j:Int)-W)=((j-W:Nat):Int)by rw[aD (by omega) (by omega)];omega,aD (n:=(j:Int)+1) (by omega) (by omega)]
  have C:rd (rJ xs.length fun i=>if i<j then zK xs W i else rd xs i) ((j-W:Nat):Int)=zK xs W (j-W):=by rw[Y7 (by omega),if_pos (by omega)]
  have I:zK xs W j=(rd xs j+zK xs W (j-W))%256:=by rw[zK,dif_neg (by omega)]
  refine⟨fun _=>True,fun w'=>w'=w2.drew,⟨trivial,rfl⟩,dL (hb.ev h2.drew) (by omega) cR fun a1 M _=>aN (fun w' h=>by subst h;exact M) (dL u.drew.nm (by omega) (by rw[dS];omega) fun a2 N _=>aN (fun w' h=>by subst h;exact N) ?_)⟩
  have r1:=jB hb.2 j
  have r2:=jB u.2 ((j-W:Nat):Int)
  rw[C]at r2⊢
  rw[aD (n:=rd xs j) (by omega) (by omega),aD (n:=zK xs W (j-W)) (by omega) (by omega),aD (n:=rd xs j+zK xs W (j-W)) (by omega) (by omega),nF]
  refine C6 u.drew (by omega) (by rw[dS];omega) fun a3 U _=>qK u.drew U (by omega) (by rw[dS];omega) (IZ (by omega)) fun w3 h3 _ A=>⟨trivial,⟨j+1,rfl,by omega,h2.drew.new h3 fun g _ hg=>(u.base hg).1,?_⟩,by dsimp only;omega⟩
  rw[dH,EO (by omega),←I]at A
  rw[show(rJ xs.length fun i=>if i<j+1 then zK xs W i else rd xs i)=rJ xs.length fun q=>if q=j then zK xs W j else if q<j then zK xs W q else rd xs q from mA fun q _=>by
   by_cases e:q=j
   ·subst e;rw[if_pos rfl,if_pos (by omega)]
   ·rw[if_neg e]
    by_cases e3:q<j
    ·rw[if_pos e3,if_pos (by omega)]
    ·rw[if_neg e3,if_neg (by omega)]]
  exact A
 ·unfold LT
  rw[show(rJ xs.length fun i=>zK xs W i)=rJ xs.length fun i=>if i<j then zK xs W i else rd xs i from mA fun q hq=>by rw[if_pos (by omega)]]
  exact u
def UT(n:Int):Nat:=(if(if 16<n then 16 else n)>1 then(if 16<n then 16 else n)else 1).toNat
theorem qiw(n:Int):(if(if 16<n then 16 else n)>1 then(if 16<n then 16 else n)else 1)=(UT n:Int):=by unfold UT;split<;>split<;>omega
theorem qiv(n:Int):1≤UT n∧UT n≤16:=by unfold UT;split<;>split<;>omega
def ZV(xs:List Int)(n m q:Nat):Int:=if q<n*m then rd xs ((q%m*n+q/m:Nat):Int)else rd xs q
def LN(xs:List Int)(n m q:Nat):Int:=if q<n*m then rd xs ((q%n*m+q/n:Nat):Int)else rd xs q
def qby(xs:List Int)(n:Nat):List Int:=rJ xs.length (ZV xs n (xs.length/n))
def EP(xs:List Int)(n:Nat):List Int:=rJ xs.length (LN xs n (xs.length/n))
theorem UA(xs:List Int)(n:Nat):(qby xs n).length=xs.length:=dS _ _
theorem GF(xs:List Int)(n:Nat):(EP xs n).length=xs.length:=dS _ _
theorem qpx{n m i k:Nat}(hi:i<m)(hk:k<n):i*n+k<n*m∧(i*n+k)%n=k∧(i*n+k)/n=i:=by
 have h1:(i+1)*n≤m*n:=kR _ hi
 rw[mJ,A4 m n]at h1
 refine⟨by omega,?_,?_⟩
 ·rw[A4,Nat.mul_add_mod,zM hk]
 ·rw[A4,Nat.mul_add_div (by omega),QQ hk];omega
theorem qjh{a n:Nat}(ha:a≤1000000000):IntKind.wrap .i64 (Int.tdiv (a:Int) (n:Int))=((a/n:Nat):Int):=by
 rw[sH (by omega)]
 have h1:a/n≤a:=Nat.div_le_self _ _
 have:((a/n:Nat):Int)=(a:Int)/n:=by rw[Int.natCast_ediv]
 rw[←this];clear this;generalize a/n=t at h1⊢;exact aD (by omega) (by omega)
theorem qjF{b:Value}{xs:List Int}{n:Int}{w:World}(hb:Nm .u8 w b xs)(hl:xs.length≤1000000000):Calls P F6 #[b,aB n] w (JC w (qby xs (UT n))):=by
 refine RG (aP hb ?_)
 rw[qiw]
 have hn:=qiv n
 generalize UT n=N at hn
 refine F4 (by omega) ?_
 rw[qjh hl]
 unfold qby
 have hm:=Nat.div_mul_le_self xs.length N
 rw[A4]at hm
 have O:xs.length/N≤xs.length:=Nat.div_le_self _ _
 generalize xs.length/N=M at*
 refine lS (ON.nil .u8 eB w w.heap.size) hb (by simp;omega) (cJ _) fun v w1 J hc ac=>?_
 have h1:Ev w w1:=hc.mono fun _ _ _ hh=>by cases hh
 rw[sG]at J
 have t0:∀c,c=0→(rJ xs.length fun q=>if q<c then ZV xs N M q else rd xs q)=xs:=fun c hc=>by
  subst hc
  conv=>rhs;rw[←YP xs]
  exact mA fun q _=>by rw[if_neg (by omega)]
 refine⟨fun k w'=>∃K:Nat,k=K∧K≤N∧Ev w w'∧ON .u8 eB w' w.heap.size v (rJ xs.length fun q=>if q<K*M then ZV xs N M q else rd xs q),fun k _=>N-k.toNat,⟨0,rfl,by omega,h1,by rw[t0 _ (by simp)];exact J⟩,?_⟩
 rintro _ k w2 ⟨K,rfl,hK,h2,u⟩
 refine aG (fun cR=>?_) (fun Z=>⟨v,rfl,h2,?_⟩)
 ·have r:K<N:=by omega
  refine⟨fun i w'=>∃I:Nat,i=I∧I≤M∧Ev w w'∧ON .u8 eB w' w.heap.size v (rJ xs.length fun q=>if q<K*M+I then ZV xs N M q else rd xs q),fun i _=>M-i.toNat,⟨0,rfl,by omega,h2,u⟩,?_⟩
  rintro _ i w3 ⟨I,rfl,hI,h3,j⟩
  refine aG (fun ab=>?_) (fun aa=>?_)
  ·obtain⟨g1,g2,g3⟩:=qpx (n:=N) (m:=M) (i:=I) (k:=K) (by omega) r
   obtain⟨C,U,V⟩:=qpx (n:=M) (m:=N) (i:=K) (k:=I) r (by omega)
   rw[A4 M N]at C
   have X:I*N≤1000000000:=by omega
   have Y:K*M≤1000000000:=by omega
   rw[show i64 ((I:Int)*(N:Int))=((I*N:Nat):Int)by rw[←rM];exact aD (by omega) (by omega),show i64 (((I*N:Nat):Int)+K)=((I*N+K:Nat):Int)by rw[aD (by omega) (by omega)];omega,
    show i64 ((K:Int)*(M:Int))=((K*M:Nat):Int)by rw[←rM];exact aD (by omega) (by omega),show i64 (((K*M:Nat):Int)+I)=((K*M+I:Nat):Int)by rw[aD (by omega) (by omega)];omega,aD (n:=(I:Int)+1) (by omega) (by omega)]
   refine dL (hb.ev h3) (by omega) (by omega) fun a1 T _=>bG T (C6 j (by omega) (by rw[dS];omega) fun a2 s2 _=>qK j s2 (by omega) (by rw[dS];omega) (IZ (jB hb.2 _)) fun w4 h4 _ A=>⟨⟨I+1,by omega,by omega,h3.new h4 fun g _ hg=>(j.base hg).1,?_⟩,by dsimp only;omega⟩)
   rw[dH,EO (by omega)]at A
   rw[show(rJ xs.length fun q=>if q<K*M+(I+1)then ZV xs N M q else rd xs q)=rJ xs.length fun q=>if q=K*M+I then rd xs ((I*N+K:Nat):Int)else if q<K*M+I then ZV xs N M q else rd xs q from mA fun q hq=>by
    by_cases e:q=K*M+I
    ·subst e
     rw[if_pos rfl,if_pos (by omega),ZV,if_pos C,U,V]
    ·rw[if_neg e]
     by_cases e3:q<K*M+I
     ·rw[if_pos e3,if_pos (by omega)]
     ·rw[if_neg e3,if_neg (by omega)]]
   exact A
  ·have:I=M:=by omega
   subst this
   rw[aD (n:=(K:Int)+1) (by omega) (by omega)]
   exact⟨⟨K+1,by omega,by omega,h3,by rw[Nat.succ_mul];exact j⟩,by dsimp only;omega⟩
 ·have:K=N:=by omega
  subst this
  rw[show rJ xs.length (ZV xs K M)=rJ xs.length fun q=>if q<K*M then ZV xs K M q else rd xs q from mA fun q hq=>by
   by_cases e:q<K*M
   ·rw[if_pos e]
   ·rw[if_neg e,ZV,if_neg e]]
  exact u
theorem qbx{b:Value}{xs:List Int}{n:Int}{w:World}(hb:Nm .u8 w b xs)(hl:xs.length≤1000000000):Calls P uP #[b,aB n] w (JC w (EP xs (UT n))):=by
 refine HS (aP hb ?_)
 rw[qiw]
 have hn:=qiv n
 generalize UT n=N at hn
 refine F4 (by omega) ?_
 rw[qjh hl]
 unfold EP
 have hm:=Nat.div_mul_le_self xs.length N
 rw[A4]at hm
 have J:xs.length/N≤xs.length:=Nat.div_le_self _ _
 generalize xs.length/N=M at*
 refine lS (ON.nil .u8 eB w w.heap.size) hb (by simp;omega) (cJ _) fun v w1 C hc aa=>?_
 have h1:Ev w w1:=hc.mono fun _ _ _ hh=>by cases hh
 rw[sG]at C
 refine⟨fun k w'=>∃K:Nat,k=K∧K≤N∧Ev w w'∧ON .u8 eB w' w.heap.size v (rJ xs.length fun q=>if q<N*M∧q%N<K then LN xs N M q else rd xs q),fun k _=>N-k.toNat,⟨0,rfl,by omega,h1,?_⟩,?_⟩
 ·rw[show(rJ xs.length fun q=>if q<N*M∧q%N<0 then LN xs N M q else rd xs q)=xs by
   conv=>rhs;rw[←YP xs]
   exact mA fun q _=>by rw[if_neg (by omega)]]
  exact C
 rintro _ k w2 ⟨K,rfl,hK,h2,u⟩
 refine aG (fun cR=>?_) (fun X=>⟨v,rfl,h2,?_⟩)
 ·have r:K<N:=by omega
  refine⟨fun i w'=>∃I:Nat,i=I∧I≤M∧Ev w w'∧ON .u8 eB w' w.heap.size v (rJ xs.length fun q=>if q<N*M∧(q%N<K∨q%N=K∧q/N<I)then LN xs N M q else rd xs q),fun i _=>M-i.toNat,⟨0,rfl,by omega,h2,?_⟩,?_⟩
  ·rw[show(rJ xs.length fun q=>if q<N*M∧(q%N<K∨q%N=K∧q/N<0)then LN xs N M q else rd xs q)=rJ xs.length fun q=>if q<N*M∧q%N<K then LN xs N M q else rd xs q from mA fun q _=>by
    by_cases e:q<N*M∧q%N<K
    ·rw[if_pos e,if_pos ⟨e.1,.inl e.2⟩]
    ·rw[if_neg e,if_neg (fun hh=>hh.2.elim (fun h=>e ⟨hh.1,h⟩) (fun h=>Nat.not_lt_zero _ h.2))]]
   exact u
  rintro _ i w3 ⟨I,rfl,hI,h3,j⟩
  refine aG (fun Z=>?_) (fun Y=>?_)
  ·obtain⟨g1,g2,g3⟩:=qpx (n:=N) (m:=M) (i:=I) (k:=K) (by omega) r
   obtain⟨T,g5,g6⟩:=qpx (n:=M) (m:=N) (i:=K) (k:=I) r (by omega)
   rw[A4 M N]at T
   have U:I*N≤1000000000:=by omega
   have V:K*M≤1000000000:=by omega
   rw[show i64 ((I:Int)*(N:Int))=((I*N:Nat):Int)by rw[←rM];exact aD (by omega) (by omega),show i64 (((I*N:Nat):Int)+K)=((I*N+K:Nat):Int)by rw[aD (by omega) (by omega)];omega,
    show i64 ((K:Int)*(M:Int))=((K*M:Nat):Int)by rw[←rM];exact aD (by omega) (by omega),show i64 (((K*M:Nat):Int)+I)=((K*M+I:Nat):Int)by rw[aD (by omega) (by omega)];omega,aD (n:=(I:Int)+1) (by omega) (by omega)]
   refine dL (hb.ev h3) (by omega) (by omega) fun a1 O _=>bG O (C6 j (by omega) (by rw[dS];omega) fun a2 s2 _=>qK j s2 (by omega) (by rw[dS];omega) (IZ (jB hb.2 _)) fun w4 h4 _ A=>⟨⟨I+1,by omega,by omega,h3.new h4 fun g _ hg=>(j.base hg).1,?_⟩,by dsimp only;omega⟩)
   rw[dH,EO (by omega)]at A
   rw[show(rJ xs.length fun q=>if q<N*M∧(q%N<K∨q%N=K∧q/N<I+1)then LN xs N M q else rd xs q)=rJ xs.length fun q=>if q=I*N+K then rd xs ((K*M+I:Nat):Int)else if q<N*M∧(q%N<K∨q%N=K∧q/N<I)then LN xs N M q else rd xs q from mA fun q hq=>by
    by_cases e:q=I*N+K
    ·subst e
     rw[if_pos rfl,if_pos ⟨g1,.inr ⟨g2,by omega⟩⟩,LN,if_pos g1,g2,g3]
    ·rw[if_neg e]
     by_cases e3:q<N*M∧(q%N<K∨q%N=K∧q/N<I)
     ·rw[if_pos e3,if_pos ⟨e3.1,e3.2.elim .inl fun h=>.inr ⟨h.1,by omega⟩⟩]
     ·have:¬(q<N*M∧(q%N<K∨q%N=K∧q/N<I+1)):=fun hh=>e3 ⟨hh.1,hh.2.elim .inl fun h=>.inr ⟨h.1,by
       have hd:=ZL q N
       rcases I6 (q/N) I with h4|h4
       ·exact h4
       ·exfalso
        have:q/N=I:=by omega
        rw[this,h.1,A4]at hd
        exact e hd.symm⟩⟩
      rw[if_neg e3,if_neg this]]
   exact A
  ·have:I=M:=by omega
   subst this
   rw[aD (n:=(K:Int)+1) (by omega) (by omega)]
   refine⟨⟨K+1,by omega,by omega,h3,?_⟩,by dsimp only;omega⟩
   rw[show(rJ xs.length fun q=>if q<N*I∧q%N<K+1 then LN xs N I q else rd xs q)=rJ xs.length fun q=>if q<N*I∧(q%N<K∨q%N=K∧q/N<I)then LN xs N I q else rd xs q from mA fun q hq=>by
    by_cases e:q<N*I∧q%N<K+1
    ·have hd:q/N<I:=by rw[Nat.div_lt_iff_lt_mul (by omega),A4];exact e.1
     have:q%N<K∨q%N=K∧q/N<I:=by
      rcases I6 (q%N) K with h|h
      ·exact .inl h
      ·exact .inr ⟨by omega,hd⟩
     rw[if_pos e,if_pos ⟨e.1,this⟩]
    ·rw[if_neg e,if_neg (fun hh=>e ⟨hh.1,by rcases hh.2 with h|h<;>omega⟩)]]
   exact j
 ·have:K=N:=by omega
  subst this
  rw[show rJ xs.length (LN xs K M)=rJ xs.length fun q=>if q<K*M∧q%K<K then LN xs K M q else rd xs q from mA fun q hq=>by
   have hk:=Nat.mod_lt q (show K>0 by omega)
   by_cases e:q<K*M
   ·rw[if_pos ⟨e,hk⟩]
   ·rw[if_neg (fun hh=>e hh.1),LN,if_neg e]]
  exact u
def FR(w0 w:World)(ad:Addr)(xs:List Int)(a:Nat)(er:Int):Prop:=∃b,Rd w ad b xs a er∧Ev w0 w∧w0.heap.size≤ad.block
theorem FR.to{w0 w w':World}{ad:Addr}{b:Value}{xs:List Int}{a:Nat}{er:Int}(h1:Ev w0 w)(h2:w0.heap.size≤ad.block)(h:RS w w' ad b xs a er):FR w0 w' ad xs a er:=
 ⟨b,h.1,h1.new h.2 fun n i hh=>by rw[hh.1];exact h2,h2⟩
theorem FR.ev{w0 w w':World}{ad:Addr}{xs:List Int}{a:Nat}{er:Int}(h:FR w0 w ad xs a er)(he:Ev w w'):FR w0 w' ad xs a er:=by
 obtain⟨b,h1,h2,h3⟩:=h;exact⟨b,h1.ev he,h2.trans he,h3⟩
theorem FR.old{w0 w:World}{ad:Addr}{xs:List Int}{a:Nat}{er:Int}(h:FR w0 w ad xs a er):Ev w0 w:=by obtain⟨_,_,h,_⟩:=h;exact h
theorem FR.u8{w0 w:World}{ad:Addr}{xs:List Int}{a:Nat}{er:Int}(h:FR w0 w ad xs a er):inR .u8 xs:=by obtain⟨_,h,_⟩:=h;exact h.2.1.2
theorem FWr.old{w0 w:World}{ad:Addr}{xs:List Int}(h:FWr w0 w ad xs):Ev w0 w:=by obtain⟨_,_,h,_⟩:=h;exact h
theorem qqD(xs:List Int):Z6 xs=0∨(2≤Z6 xs∧Z6 xs≤16∧4*Z6 xs≤xs.length):=by
 have:∀W,(Z7 xs W).1=0∨(2≤(Z7 xs W).1∧(Z7 xs W).1<W∧4*(Z7 xs W).1≤xs.length):=by
  intro W
  induction W with
  |zero=>simp [Z7]
  |succ W j=>
   rw[Z7];split
   ·exact .inr ⟨by dsimp only;omega,by dsimp only;omega,by dsimp only;omega⟩
   ·rcases j with h|h
    ·exact .inl h
    ·exact .inr ⟨h.1,by omega,h.2.2⟩
 have h:=this 17
 unfold Z6;omega
def Y5(xs:List Int):Bool:=decide (Z6 xs≠0)&&decide (xs.length≤1048576)
def qjc(xs:List Int):List Int:=eD (Z6 xs).toNat++eD xs.length++qby (qbN xs (wOf (Z6 xs))) (UT (Z6 xs))
theorem GV(xs:List Int)(W:Nat):(qbN xs W).length=xs.length:=dS _ _
def qqI(w:World)(xs:List Int)(e:Ending)(w':World):Prop:=Ev w w'∧if Y5 xs then ∃v,e=bP #[v,.bool true]∧ON .u8 eB w' w.heap.size v (qjc xs)else e=bP #[bR,.bool false]
theorem qld{b:Value}{xs:List Int}{w:World}(hb:Nm .u8 w b xs)(hl:xs.length≤1000000000):Calls P vE #[b] w (qqI w xs):=by
 refine r9 (bQ (qai hb hl) fun w1 h1=>?_)
 have V:=qqD xs
 refine⟨fun w'=>Y5 xs=true∧w'=w1,jP (fun C=>aP hb (aG (fun hg=>⟨h1,?_⟩) (fun T=>⟨?_,rfl⟩))) (fun h0=>⟨h1,?_⟩),?_⟩
 ·rw[if_neg (by simp [Y5];omega)]
 ·simp [Y5,C];omega
 ·rw[if_neg (by simp [Y5,h0])]
 rintro _ _ ⟨hok,rfl⟩
 have M:Z6 xs≠0∧xs.length≤1048576:=by simpa [Y5]using hok
 have U:2≤Z6 xs∧Z6 xs≤16:=by omega
 have r:∀{z:Value} {w':World},Ev w w'→ON .u8 eB w' w.heap.size z (qjc xs)→qqI w xs (bP #[z,.bool true]) w':=fun{z w'} a b=>⟨a,by rw[if_pos hok];exact⟨z,rfl,b⟩⟩
 have l1:=fH (n:=(Z6 xs).toNat) (by omega)
 have l2:=fH (n:=xs.length) (by omega)
 rename_i w1
 refine qun (Ch.refl _ w1) fun ad w2 h2=>?_
 rw[show gD (Z6 xs)=Z6 xs by rw[dW];omega]
 refine qtl h2 (by omega) (by simp) fun w3 h3=>aP hb ?_
 rw[show gD (xs.length:Int)=xs.length by rw[dW];omega]
 refine qtl h3 (by omega) (by rw[sG];omega) fun w4 h4=>?_
 obtain⟨v,hv,J,A,I⟩:=h4
 rw[sG,dH]at hv
 refine iY (qjL (hb.ev (h1.trans J)) hl (by omega)) fun d w5 ⟨h5,X⟩=>iY (qjF X.nm (by rw[GV];exact hl)) fun y w6 ⟨h6,N⟩=>?_
 have j:Ev w4 w6:=h5.trans h6
 have q:∀{g i:Nat},Ft ad v g i→g<w4.heap.size:=fun hf=>hv.lt hf
 refine T2 (hv.ev j) (N.nm.stab fun g i hg _ hf=>?_) (by rw[bD,UA,GV];omega) fun v2 Z hW=>?_
 ·have:=(N.base hg).1;have:=q (i:=i) hf;have:=h5.size;omega
 have u:FWr w1 Z ad _:=FWr.to (J.trans j) A I ⟨v2,hW⟩
 refine qrZ u (by rw[bD,bD,UA,GV];omega) fun z w8 O Y=>r (h1.trans (u.old.trans O)) (Y.low ?_)
 exact nJ h1.size (u.old.size)
def ER(x:List Int)(most:Int):List Int×Int:=
 let p:=jK x 0 0 18446744073709551615
 let q:=jK x p.2.1 p.2.2 18446744073709551615
 if q.2.2≠0 then([],q.2.2)
 else if p.1<2∨p.1>16 then([],4)
 else if q.1>(if 0>most then 0 else most)∨q.1>1048576 then([],5)
 else if(x.length:Int)-q.2.1≠q.1 then([],4)
 else(LT (EP (eV x q.2.1 0 q.1).1 (UT p.1)) (wOf p.1),0)
theorem QC{x:Value}{xs:List Int}{most:Int}{w:World}(hx:Nm .u8 w x xs)(hl:xs.length≤1000000000)(hm:most≤9223372036854775807):Calls P qA #[x,aB most] w (yQ w (ER xs most)):=by
 refine RU (aO (qnO hx (by omega)) ?_)
 rintro _ w1 ⟨ad,y,rfl,h1,ab,hR⟩
 refine⟨some ad,rfl,DY (z:=.agg #[.pointer none]) (by kernel_rfl) fun J w2 h2 ac _ hS=>L0 hS (by simp [Value.cells]) (by simp;rfl) (fun w3 h3 _ ai=>?_) (by kernel_rfl)⟩
 have e3:Ev w1 w3:=h2.new h3 fun n i hh=>by rw[hh.1,ac];exact cJ _
 have av:J.block=w1.heap.size:=by rw[ac]
 have aj:=hR.1.lt
 have aa:St w3 J [aH ad]:=ai
 have ah:=hR.ev e3
 have keep:∀{wa wb:World} {a:Nat} {er:Int},St wa J [aH ad]→RS wa wb ad y xs a er→St wb J [aH ad]:=fun h hs=>h.ch hs.2 fun _ _ hh=>by have:=hh.1;omega
 have p1:=qF (xs:=xs) (a:=0) (er:=0) (most:=18446744073709551615) hx.2
 unfold ER
 refine⟨fun w'=>St w' J [aH ad],aa.drew,?_⟩
 rw[Addr.add_zero']
 have O:∀{w':World},St w' J [aH ad]→w'.cell? J=some (aH ad):=fun h=>by have:=h.cell (j:=0) rfl;rwa [Addr.add_zero']at this
 refine mS (fun w' h=>O h) (mS (fun w' h=>O h) (bQ (LD ah.drew) fun w4 h4=>?_))
 dsimp only
 generalize jK xs 0 0 18446744073709551615=p at*
 have p2:=qF (xs:=xs) (a:=p.2.1) (er:=p.2.2) (most:=18446744073709551615) hx.2
 have Z:=keep aa.drew h4
 refine⟨Z,bQ (LD h4.1) fun w5 h5=>?_⟩
 generalize jK xs p.2.1 p.2.2 18446744073709551615=q at*
 have A:=keep Z h5
 have T:RS w3.drew w5 ad y xs q.2.1 q.2.2:=h4.trans h5
 have f5:Ev w w5:=Ev.new (h1.trans e3).drew T.2 fun n i hh=>by rw[hh.1];exact ab
 refine⟨A,fun w'=>(q.2.2=0∧¬(p.1<2∨p.1>16)∧¬(q.1>(if 0>most then 0 else most)∨q.1>1048576)∧¬((xs.length:Int)-q.2.1≠q.1))∧Rd w' ad y xs q.2.1 q.2.2∧St w' J [aH ad]∧Ev w w',?_,?_⟩
 ·refine fJ (O A) (bX (vO T.1) (cA (fun C=>fJ (O A) (bX (vO T.1) ?_)) (fun he=>?_)))
  ·rw[if_pos C];exact⟨_,rfl,f5,ON.nil _ _ _ _⟩
  rw[if_neg (by omega)]
  refine⟨fun t w'=>t=decide (p.1<2∨p.1>16)∧w'=w5,cC (fun h=>⟨by simp only[h,false_or],rfl⟩) (fun h=>⟨by simp [h],rfl⟩),?_⟩
  rintro _ t _ ⟨rfl,rfl⟩
  refine aG (fun h=>?_) (fun hw=>?_)
  ·rw[if_pos h];exact⟨_,rfl,f5,ON.nil _ _ _ _⟩
  rw[if_neg hw]
  have ar:0≤(if 0>most then 0 else most)∧(if 0>most then 0 else most)≤9223372036854775807:=by split<;>omega
  generalize(if 0>most then 0 else most)=mm at*
  rw[show gD mm=mm by rw[dW];omega]
  refine cC (fun M=>aG (fun N=>?_) (fun N=>?_)) (fun M=>?_)
  ·rw[if_pos (.inr N)];exact⟨_,rfl,f5,ON.nil _ _ _ _⟩
  ·have I:¬(q.1>mm∨q.1>1048576):=fun h=>h.elim M N
   rw[if_neg I]
   have aq:=T.1.2.2.2.1
   refine fJ (O A) (bQ (T0 T.1) fun w6 h6=>?_)
   rw[show gD ((xs.length:Int)-q.2.1)=(xs.length:Int)-q.2.1 by rw[dW];omega]
   refine cA (fun C=>?_) (fun ak=>?_)
   ·rw[if_pos C];exact⟨_,rfl,f5.trans h6,ON.nil _ _ _ _⟩
   ·exact⟨⟨he,hw,I,fun h=>h ak⟩,T.1.ev h6,A.ev h6,f5.trans h6⟩
  ·rw[if_pos (.inl M)];exact⟨_,rfl,f5,ON.nil _ _ _ _⟩
 ·rintro _ az ⟨⟨he,hw,I,C⟩,X,Y,ae⟩
  rw[if_neg (by omega),if_neg hw,if_neg I,if_neg C]
  have hq:q.1≤1048576:=by omega
  rw[aD (n:=q.1) (by omega) (by omega),aD (n:=p.1) (by omega) (by omega)]
  refine fJ (O Y) (aO (T1 X (by omega)) ?_)
  rw[he]
  have au:=LE (xs:=xs) (a:=q.2.1) (er:=0) (n:=q.1) (m:=q.1.toNat) (by omega)
  generalize eV xs q.2.1 0 q.1=r at*
  rintro _ am ⟨z,rfl,af,oz⟩
  have U:Ev w am:=ae.new af.2 fun n i hh=>by rw[hh.1];exact ab
  refine⟨z,rfl,iY (qbx oz.nm (by omega)) fun t ba ⟨V,ot⟩=>iY (qdr ot.nm (by rw[GF];omega) (by omega)) fun u bb ⟨ag,ou⟩=>⟨u,rfl,U.trans (V.trans ag),ou.low ?_⟩⟩
  exact(U.trans V).size
section
def qg5(c:Int):Bool:=decide (97≤c∧c≤122∨65≤c∧c≤90)
def lZ:List Int→Nat
 |[]=>0
 |c::r=>if qg5 c then lZ r+1 else 0
theorem EM:∀xs:List Int,lZ xs≤xs.length
 |[]=>cJ _
 |c::r=>by
  have:=EM r
  rw[lZ,iO];split<;>omega
theorem qcO:∀{xs:List Int} {k:Nat},k≤xs.length→(∀j,j<k→qg5 (rd xs (j:Int))=true)→(∀h:k<xs.length,qg5 (rd xs (k:Int))=false)→lZ xs=k
 |[],k,h,_,_=>by
  rw[lZ];simp at h;exact h.symm
 |c::r,0,_,_,h2=>by
  have:=h2 (by simp)
  rw[dK _ 0 (by simp),List.getElem_cons_zero]at this
  rw[lZ,if_neg (by rw[this];decide)]
 |c::r,k+1,h,h1,h2=>by
  have h0:=h1 0 (by omega)
  rw[dK _ 0 (by simp),List.getElem_cons_zero]at h0
  have q:∀j:Nat,j<r.length→rd (c::r) ((j+1:Nat):Int)=rd r (j:Int):=fun j hj=>by
   rw[dK (c::r) (j+1) (by simp;omega),dK r j hj,List.getElem_cons_succ]
  rw[lZ,if_pos h0,qcO (k:=k) (by simp at h;omega) (fun j hj=>by rw[←q j (by simp at h;omega)];exact h1 (j+1) (by omega)) (fun hk=>by rw[←q k hk];exact h2 (by simp;omega))]
section
variable {w:World}
theorem qg6{c:Int}:Calls P G4 #[.int .u8 c] w (fun e w'=>e=aW (.bool (qg5 c))∧w'=w):=by
 refine SC (aG (fun h1=>cC (fun h2=>aG (fun h3=>⟨?_,rfl⟩) (fun h3=>⟨?_,rfl⟩)) (fun h2=>⟨?_,rfl⟩)) (fun h1=>aG (fun h3=>⟨?_,rfl⟩) (fun h3=>⟨?_,rfl⟩)))
 all_goals
  unfold qg5
  congr 2
  first|exact(decide_eq_true (by omega)).symm|exact(decide_eq_false (by omega)).symm|exact decide_eq_decide.2 (by omega)
theorem qn0{c:Int}:Calls P rZ #[.int .u8 c] w (fun e w'=>e=aW (.bool (!qg5 c))∧w'=w):=by
 refine XI (aO qg6 ?_)
 rintro _ _ ⟨rfl,rfl⟩
 exact⟨_,rfl,rfl,rfl⟩
theorem qbu{b:Value}{xs:List Int}(hb:Nm .u8 w b xs)(hl:xs.length≤1000000000):Calls P fY #[b,.func (.func rZ) #[] #[]] w (fun e w'=>e=aW (aB (if lZ xs<xs.length then(lZ xs:Int)else -1))∧w'=w):=by
 refine mY (aP hb ⟨fun i w'=>∃k:Nat,i=(k:Int)∧k≤xs.length∧(∀j,j<k→qg5 (rd xs (j:Int))=true)∧w'=w,fun i _=>xs.length-i.toNat,⟨0,rfl,by omega,(fun j h=>by omega),rfl⟩,?_⟩)
 rintro _ i _ ⟨k,rfl,hk,hall,rfl⟩
 refine aG (fun cR=>uC hb (by omega) (by omega) (lQ rfl (by kernel_rfl) (show Calls P rZ #[.int .u8 (rd xs (k:Int))] _ _ from qn0) ?_)) (fun r=>?_)
 ·rintro _ _ ⟨rfl,rfl⟩
  refine⟨_,rfl,oO (fun h=>?_) (fun h=>?_)⟩
  ·have e:lZ xs=k:=qcO hk hall fun _=>h
   rw[e,if_pos (by omega)];exact⟨rfl,rfl⟩
  ·refine⟨⟨k+1,by rw[aD (by omega) (by omega)];omega,by omega,fun j hj=>?_,rfl⟩,by dsimp only;rw[aD (by omega) (by omega)];omega⟩
   by_cases q:j=k
   ·subst q;exact h
   ·exact hall j (by omega)
 ·have e:lZ xs=k:=qcO hk hall fun h=>by omega
  rw[e,if_neg (by omega)];exact⟨rfl,rfl⟩
theorem qcP{b:Value}{xs:List Int}(hb:Nm .u8 w b xs)(hl:xs.length≤1000000000):Calls P zB #[b] w (fun e w'=>e=aW (aB (lZ xs:Nat))∧w'=w):=by
 have j:=EM xs
 refine qcA (aO (qbu hb hl) ?_)
 rintro _ _ ⟨rfl,rfl⟩
 refine⟨_,rfl,?_⟩
 by_cases h:lZ xs<xs.length
 ·rw[if_pos h]
  exact aG (fun h=>by omega) (fun _=>⟨rfl,rfl⟩)
 ·rw[if_neg h]
  refine aG (fun _=>aP hb ⟨?_,rfl⟩) (fun h=>absurd (by decide) h)
  rw[show lZ xs=xs.length by omega]
def MP(x y:Int):Int:=if x<y then -1 else if x>y then 1 else 0
theorem qgE{x y:Int}:Calls P uO #[aB x,aB y] w (fun e w'=>e=aW (aB (MP x y))∧w'=w):=by
 have hn:∀{z:Int},Calls P sL #[aB z] w (fun e w'=>e=aW (.bool false)∧w'=w):=fun{z}=>NK ⟨by simp,rfl⟩
 refine HQ (aO hn ?_)
 rintro _ _ ⟨rfl,rfl⟩
 refine⟨_,rfl,aO hn ?_⟩
 rintro _ _ ⟨rfl,rfl⟩
 refine⟨_,rfl,iR (iR (aG (fun h=>⟨?_,rfl⟩) (fun h=>aG (fun h2=>⟨?_,rfl⟩) (fun h2=>⟨?_,rfl⟩))))⟩
 ·unfold MP;rw[if_pos h]
 ·unfold MP;rw[if_neg h,if_pos h2]
 ·unfold MP;rw[if_neg h,if_neg h2]
def ZX(a b:List UInt8):Int:=if Op.bytesLess a b then -1 else if a=b then 0 else 1
theorem qgF{a b:List UInt8}:Calls P pU #[.string (kI a),.string (kI b)] w (fun e w'=>e=aW (aB (ZX a b))∧w'=w):=by
 have hn:∀{z:ByteArray},Calls P nL #[.string z] w (fun e w'=>e=aW (.bool false)∧w'=w):=fun{z}=>FC ⟨by simp,rfl⟩
 refine AR (aO hn ?_)
 rintro _ _ ⟨rfl,rfl⟩
 refine⟨_,rfl,aO hn ?_⟩
 rintro _ _ ⟨rfl,rfl⟩
 refine⟨_,rfl,iR (iR ?_)⟩
 rw[YQ,YQ]
 unfold ZX
 cases hb:Op.bytesLess a b
 ·refine iR ?_
  by_cases he:a=b
  ·subst he
   rw[show(a==a)=true by simp]
   simp only[Bool.or_true,Bool.not_true]
   exact iR ⟨by simp,trivial⟩
  ·rw[show(a==b)=false by simp [he]]
   simp only[Bool.or_self,Bool.not_false]
   exact qS ⟨by simp [he],trivial⟩
 ·exact qS ⟨by simp,rfl⟩
end
end
def bU(l:List Int):List UInt8:=l.map fun x=>UInt8.ofNat x.toNat
def iU(l:List UInt8):List Int:=l.map fun b=>(b.toNat:Int)
theorem qlV(l:List Int):(bU l).length=l.length:=fE _
theorem qrQ(l:List UInt8):(iU l).length=l.length:=fE _
theorem qo3(l:List Int):tO l=kI (bU l):=rfl
theorem qsl(l:List UInt8):TJ (kI l)=iU l:=by unfold TJ iU;rw[rV]
def LJ:Nat→List Int→List (List UInt8)
 |0,_=>[]
 |f+1,xs=>if xs=[]then []else(if 3≤lZ xs∧lZ xs≤24 then [bU (xs.take (lZ xs))]else [])++LJ f (xs.drop (if 1>lZ xs then 1 else lZ xs))
def I3(xs:List Int):List (List UInt8):=LJ xs.length xs
theorem EN:∀f,LJ f []=[]
 |0=>rfl
 |f+1=>by rw[LJ,if_pos rfl]
theorem YD:∀(f g:Nat) (xs:List Int),xs.length≤f→xs.length≤g→LJ f xs=LJ g xs
 |0,g,xs,h,_=>by
  obtain rfl:xs=[]:=xI (by omega)
  rw[EN,EN]
 |f+1,0,xs,_,h=>by
  obtain rfl:xs=[]:=xI (by omega)
  rw[EN,EN]
 |f+1,g+1,xs,h1,h2=>by
  rw[LJ,LJ]
  by_cases hx:xs=[]
  ·rw[if_pos hx,if_pos hx]
  ·have:0<xs.length:=List.length_pos_iff.2 hx
   rw[if_neg hx,if_neg hx,YD f g _ (by rw[cQ];split<;>omega) (by rw[cQ];split<;>omega)]
theorem QK{xs:List Int}(h:xs≠[]):I3 xs=(if 3≤lZ xs∧lZ xs≤24 then [bU (xs.take (lZ xs))]else [])++I3 (xs.drop (if 1>lZ xs then 1 else lZ xs)):=by
 have h0:0<xs.length:=List.length_pos_iff.2 h
 unfold I3
 conv=>lhs;rw[show xs.length=xs.length-1+1 by omega,LJ,if_neg h]
 rw[YD _ (xs.drop (if 1>lZ xs then 1 else lZ xs)).length _ (by rw[cQ];split<;>omega) (cJ _)]
theorem ZC:I3 []=[]:=rfl
theorem IX:∀(n:Nat) (xs:List Int),xs.length≤n→(I3 xs).length≤xs.length∧∀s∈I3 xs,3≤s.length∧s.length≤24
 |0,xs,h=>by
  obtain rfl:xs=[]:=xI (by omega)
  rw[ZC]
  exact⟨cJ _,fun s h=>by cases h⟩
 |n+1,xs,h=>by
  by_cases hx:xs=[]
  ·subst hx;exact⟨cJ _,fun s h=>by cases h⟩
  ·have h0:0<xs.length:=List.length_pos_iff.2 hx
   have j:=IX n (xs.drop (if 1>lZ xs then 1 else lZ xs)) (by rw[cQ];split<;>omega)
   have q:=EM xs
   rw[QK hx]
   refine⟨?_,fun s hs=>?_⟩
   ·have:=j.1
    have hd:(xs.drop (if 1>lZ xs then 1 else lZ xs)).length≤xs.length-1:=by rw[cQ];split<;>omega
    rw[bD]
    have h1:(if 3≤lZ xs∧lZ xs≤24 then [bU (xs.take (lZ xs))]else []).length≤1:=by split<;>simp
    omega
   ·rcases List.mem_append.1 hs with hs|hs
    ·split at hs
     ·rename_i hc
      rw[List.mem_singleton.1 hs,qlV,eJ,vU q];exact hc
     ·cases hs
    ·exact j.2 s hs
def OT(c:List UInt8→Nat)(s:List UInt8):Int:=((c s:Int)-1)*s.length
def cfU(c:List UInt8→Nat)(x y:List UInt8):Int:=if MP (OT c y) (OT c x)≠0 then MP (OT c y) (OT c x)else ZX x y
def AY(c:List UInt8→Nat)(x y:List UInt8):Bool:=decide (cfU c x y<0)
theorem N3:∀{a b:List UInt8},Op.bytesLess a b=true↔a<b
 |[],[]=>by simp [Op.bytesLess]
 |[],b::q=>by simp [Op.bytesLess]
 |a::r,[]=>by simp [Op.bytesLess]
 |a::r,b::q=>by
  unfold Op.bytesLess
  rw[List.cons_lt_cons_iff]
  by_cases h:a=b
  ·subst h
   simp [N3 (a:=r) (b:=q)]
  ·simp [h]
theorem qpe{a b:List UInt8}:ZX a b<0↔a<b:=by
 unfold ZX
 by_cases h:Op.bytesLess a b=true
 ·rw[if_pos h];exact⟨fun _=>N3.1 h,fun _=>by decide⟩
 ·rw[if_neg h]
  exact⟨fun h2=>by split at h2<;>simp at h2,fun h2=>absurd (N3.2 h2) h⟩
theorem TB{c:List UInt8→Nat}{x y:List UInt8}:AY c x y=true↔OT c y<OT c x∨(OT c y=OT c x∧x<y):=by
 unfold AY cfU MP
 rw[decide_eq_true_iff,←qpe]
 by_cases h1:OT c y<OT c x
 ·simp [h1]
 ·by_cases h2:OT c y>OT c x
  ·rw[if_neg h1,if_pos h2,if_pos (by decide)]
   constructor
   ·intro h;simp at h
   ·intro h;omega
  ·rw[if_neg h1,if_neg h2]
   simp only[ne_eq,not_true,if_false]
   constructor
   ·intro h;exact .inr ⟨by omega,h⟩
   ·intro h
    rcases h with h|h
    ·omega
    ·exact h.2
theorem qpQ(x:List UInt8):¬x<x:=List.lt_irrefl x
theorem KA(c:List UInt8→Nat)(x:List UInt8):AY c x x=false:=by
 cases h:AY c x x with
 |false=>rfl
 |true=>
  rcases TB.1 h with h|h
  ·omega
  ·exact absurd h.2 (qpQ x)
theorem EB{c:List UInt8→Nat}{x y z:List UInt8}(h1:AY c x y=true)(h2:AY c y z=true):AY c x z=true:=by
 rw[TB]at*
 rcases h1 with h1|h1<;>rcases h2 with h2|h2
 ·exact .inl (by omega)
 ·exact .inl (by omega)
 ·exact .inl (by omega)
 ·exact .inr ⟨by omega,List.lt_trans h1.2 h2.2⟩
theorem MY{c:List UInt8→Nat}{x y:List UInt8}(h1:AY c x y=false)(h2:AY c y x=false):x=y:=by
 have q:¬_:=fun h=>by rw[TB.2 h]at h1;cases h1
 have r:¬_:=fun h=>by rw[TB.2 h]at h2;cases h2
 have e:OT c y=OT c x:=by
  refine Decidable.byContradiction fun j=>?_
  rcases Int.lt_or_gt_of_ne j with h|h
  ·exact q (.inl h)
  ·exact r (.inl h)
 have a:¬x<y:=fun h=>q (.inr ⟨e,h⟩)
 have b:¬y<x:=fun h=>r (.inr ⟨e.symm,h⟩)
 exact List.le_antisymm b a
def dd:List (List UInt8)→List (List UInt8)
 |[]=>[]
 |x::l=>if x∈dd l then dd l else x::dd l
theorem VX:∀{l:List (List UInt8)} {x:List UInt8},x∈dd l↔x∈l
 |[],x=>by simp [dd]
 |y::l,x=>by
  rw[dd]
  split
  ·rename_i h
   rw[VX,I5]
   exact⟨.inr,fun h'=>by rcases h' with rfl|h';exact VX.1 h;exact h'⟩
  ·rw[I5,I5,VX]
theorem KG:∀l:List (List UInt8),(dd l).Nodup
 |[]=>List.nodup_nil
 |y::l=>by
  rw[dd]
  split
  ·exact KG l
  ·rename_i h;exact List.nodup_cons.2 ⟨h,KG l⟩
def sP(ws:List (List UInt8)):List (List UInt8):=(dd ws).mergeSort fun x y=>!AY (fun s=>ws.count s) y x
def qaB(ws:List (List UInt8)):List (List UInt8):=((sP ws).filter fun s=>decide (1<ws.count s)).take 64
theorem qeX:∀{l m:List (List UInt8)},l.Nodup→m.Nodup→(∀x,x∈l↔x∈m)→l.Perm m:=fun{l m} hl hm h=>by
 refine List.perm_iff_count.2 fun a=>?_
 rw[hl.count,hm.count]
 by_cases ha:a∈l
 ·rw[if_pos ha,if_pos ((h a).1 ha)]
 ·rw[if_neg ha,if_neg fun hh=>ha ((h a).2 hh)]
theorem Z1(ws:List (List UInt8)):(sP ws).Perm (dd ws):=List.mergeSort_perm _ _
theorem qaK(c:List UInt8→Nat)(x y z:List UInt8)(h1:(!AY c y x)=true)(h2:(!AY c z y)=true):(!AY c z x)=true:=by
 cases h:AY c z x with
 |false=>rfl
 |true=>
  exfalso
  simp only[Bool.not_eq_true']at h1 h2
  cases h3:AY c x y with
  |true=>rw[EB h h3]at h2;cases h2
  |false=>
   have:=MY h3 h1
   subst this
   rw[h]at h2;cases h2
theorem qkI(c:List UInt8→Nat)(x y:List UInt8):(!AY c y x|| !AY c x y)=true:=by
 cases h1:AY c y x with
 |false=>rfl
 |true=>
  cases h2:AY c x y with
  |false=>rfl
  |true=>have:=EB h1 h2;rw[KA]at this;cases this
theorem qhG(c:List UInt8→Nat){l:List (List UInt8)}(hn:l.Nodup)(h:l.Pairwise fun x y=>(!AY c y x)=true):l.Pairwise fun x y=>AY c x y=true:=by
 have:=List.Pairwise.and hn h
 refine this.imp fun{x y} ⟨h1,h2⟩=>?_
 simp only[Bool.not_eq_true']at h2
 cases h3:AY c x y with
 |true=>rfl
 |false=>exact absurd (MY h3 h2) h1
theorem GE(c:List UInt8→Nat){l:List (List UInt8)}(hn:l.Nodup):(l.mergeSort fun x y=>!AY c y x).Pairwise fun x y=>AY c x y=true:=
 qhG c ((List.mergeSort_perm _ _).nodup_iff.2 hn) (List.pairwise_mergeSort (fun a b c' h1 h2=>qaK c a b c' h1 h2) (fun a b=>qkI c a b) l)
theorem qjp(c:List UInt8→Nat):∀{l m:List (List UInt8)},l.Pairwise (fun x y=>AY c x y=true)→m.Pairwise (fun x y=>AY c x y=true)→(∀x,x∈l↔x∈m)→l=m
 |[],[],_,_,_=>rfl
 |[],y::m,_,_,h=>absurd ((h y).2 xJ) (by simp)
 |x::l,[],_,_,h=>absurd ((h x).1 xJ) (by simp)
 |x::l,y::m,hl,hm,h=>by
  have j:=List.pairwise_cons.1 hl
  have q:=List.pairwise_cons.1 hm
  have u:x=y:=by
   rcases List.mem_cons.1 ((h x).1 xJ)with e|hx
   ·exact e
   ·rcases List.mem_cons.1 ((h y).2 xJ)with e|A
    ·exact e.symm
    ·have:=EB (j.1 y A) (q.1 x hx)
     rw[KA]at this;cases this
  subst u
  rw[qjp c j.2 q.2 fun z=>?_]
  constructor
  ·intro hz
   rcases List.mem_cons.1 ((h z).1 (lL _ hz))with e|r
   ·subst e;have:=j.1 z hz;rw[KA]at this;cases this
   ·exact r
  ·intro hz
   rcases List.mem_cons.1 ((h z).2 (lL _ hz))with e|r
   ·subst e;have:=q.1 z hz;rw[KA]at this;cases this
   ·exact r
theorem qcS(ws:List (List UInt8)):(sP ws).Pairwise fun x y=>AY (fun s=>ws.count s) x y=true:=GE _ (KG ws)
theorem BS{ws:List (List UInt8)}{x:List UInt8}:x∈sP ws↔x∈ws:=by rw[(Z1 ws).mem_iff,VX]
theorem qa3{ws ss:List (List UInt8)}(hn:ss.Nodup)(hm:∀x,x∈ss↔x∈ws):(ss.mergeSort fun x y=>!AY (fun s=>ws.count s) y x)=sP ws:=
 qjp (fun s=>ws.count s) (GE _ hn) (qcS ws) fun x=>by rw[(List.mergeSort_perm _ _).mem_iff,hm,BS]
theorem PZ(ws:List (List UInt8)):(sP ws).length≤ws.length:=by
 rw[(Z1 ws).length_eq]
 induction ws with
 |nil=>exact cJ _
 |cons y l j=>rw[dd];split<;>simp<;>omega
theorem qsy{ws:List (List UInt8)}{s:List UInt8}(h1:ws.length≤1000000000)(h2:s.length≤24): -24≤OT (fun s=>ws.count s) s∧OT (fun s=>ws.count s) s≤24000000000:=by
 have hc:ws.count s≤ws.length:=List.count_le_length
 unfold OT
 show -24≤(((ws.count s:Nat):Int)-1)*((s.length:Nat):Int)∧(((ws.count s:Nat):Int)-1)*((s.length:Nat):Int)≤24000000000
 generalize ws.count s=k at*
 have hk:((s.length:Nat):Int)≤24:=by omega
 by_cases h0:k=0
 ·subst h0
  omega
 ·have a:=DN (show 0≤(k:Int)-1 by omega) (show 0≤(s.length:Int)by omega)
  have b:=Int.mul_le_mul (show(k:Int)-1≤1000000000 by omega) hk (by omega) (by omega)
  omega
section
open Go Go.RowKit Go.Maps
theorem keyS:Keyed P bE:=string_keyed (by kernel_rfl)
theorem qtI:P.underlying dB=some (.map bE aK):=by kernel_rfl
theorem qtH:P.underlying aK=some (.int .i64):=by kernel_rfl
theorem qtN(w:World):(zeroValue aK).run P w=.ok (aB 0) w:=by kernel_rfl
abbrev Dt:=DataW Unit
noncomputable abbrev RI:Value→Option (DataW Unit×List MemPlace):=plainElem P aK
def MapI(w:World)(b:Nat)(ws:List (List UInt8)):Prop:=∃D:Dt,w.ownsMap P bE RI b ws.length D∧IsMap D∧(∀s,D.atKey (.string s) (.lit (.int .i64 0))=.lit (.int .i64 (ws.count s:Nat)))∧∀s,Maps.has D (.string s)=true↔s∈ws
theorem MapI.keep{w w':World}{b:Nat}{ws:List (List UInt8)}(h:MapI w b ws)(hb:∀o,w.heap[b]?=some o→w'.heap[b]?=some o):MapI w' b ws:=by
 obtain⟨D,⟨es,j,h1,h2,h3,h4⟩,q⟩:=h
 exact⟨D,⟨es,j,hb _ h1,h2,h3,h4⟩,q⟩
theorem MapI.block{w:World}{b:Nat}{ws:List (List UInt8)}(h:MapI w b ws):∃o,w.heap[b]?=some o∧o.isCells=false:=by
 obtain⟨D,⟨es,j,h1,_⟩,_⟩:=h
 exact⟨_,h1,rfl⟩
theorem MapI.ch{S:SS}{w w':World}{b:Nat}{ws:List (List UInt8)}(h:MapI w b ws)(hc:Ch S w w'):MapI w' b ws:=by
 obtain⟨o,h1,h2⟩:=h.block
 exact h.keep fun o' j=>by rw[h1]at j;injection j with j;subst j;exact hc.oth _ _ h1 h2
section
variable {w0 w:World} {F:List It} {b:Nat} {ws:List (List UInt8)}
theorem qmF{K:Value→World→Prop}(hk:∀w',Ev w w'→MapI w' w.heap.size []→K (.map (some w.heap.size)) w'):QW P dM (do pure (Next.value (←Instr.makeMap dB none))) w K:=
 ⟨.map (some w.heap.size),w.alloc (.map #[] 0),rfl,hk _ (Ev.alloc w _) ⟨_,World.ownsMap_made w P bE RI,isMap_empty,fun s=>by simp [DataW.atKey],fun s=>by simp [Maps.has]⟩⟩
theorem qb3{s:List UInt8}{K:Int→World→Prop}(h:MapI w b ws)(hs:s.length≤1000)(hk:K (ws.count s:Nat) w):QW P bA (do pure (Next.value (←Instr.lookup dB (.map (some b)) (.string (kI s)) false))) w K:=by
 obtain⟨D,h1,_,h3,_⟩:=h
 have q:keyOf P bE (.string (kI s))=some (.string s):=by
  have:=Go.WideMaps.keyOf_string_mk (P:=P) (k:=bE) (by kernel_rfl) (s:=kI s) (by rw[pN];unfold maxLen;omega)
  rwa [rV]at this
 obtain⟨c,r,j,_⟩:=h1.lookup_int keyS qtI qtH (qtN w) q
 rw[h3 s]at j
 injection j with j
 injection j with _ j
 subst j
 exact⟨_,w,PY r,hk⟩
theorem qta{s:List UInt8}{n:Int}{K:World→Prop}(h:MapI w b ws)(hs:s.length≤1000)(hl:ws.length≤1000000000)(hn:n=((ws.count s:Nat):Int)+1)(hk:∀w',w.grownBy w' (some b)→MapI w' b (ws++[s])→K w'):
  qiK P (do Instr.mapUpdate dB (.map (some b)) (.string (kI s)) (aB n);pure Next.skip) w K:=by
 obtain⟨D,h1,h2,h3,h4⟩:=h
 have hc:ws.count s≤ws.length:=List.count_le_length
 have j:keyOf P bE (.string (kI s))=some (.string s):=by
  have:=Go.WideMaps.keyOf_string_mk (P:=P) (k:=bE) (by kernel_rfl) (s:=kI s) (by rw[pN];unfold maxLen;omega)
  rwa [rV]at this
 have r:WideAt.IsKeyLit (.string s):=keyS.key j
 obtain⟨w',u,h5,h6⟩:=h1.update keyS qtI (by unfold maxLen;omega) j (plainElem_int (e:=aK) (q:=.i64) (a:=n) qtH (WalkArith.wf_i64 (by omega)))
 refine⟨w',?_,hk w' h6 ⟨_,by simpa using h5,h2.put _ _,fun s'=>?_,fun s'=>?_⟩⟩
 ·simp only[Sem.run_bind,u,Result.andThen_ok,Sem.run_pure]
 ·by_cases e:s'=s
  ·subst e
   rw[atKey_put_same h2 r,List.count_append,List.count_singleton_self,hn];rfl
  ·rw[atKey_put_other (by intro h;injection h with h;exact e h),h3 s',List.count_append,List.count_singleton]
   simp [Ne.symm e]
 ·by_cases e:s'=s
  ·subst e
   rw[has_put_same h2 r];simp
  ·rw[has_put_other (by intro h;injection h with h;exact e h),h4 s',List.mem_append,List.mem_singleton]
   simp [e]
theorem Fr.grownW{w':World}{row:Option Nat}(h:Fr w0 w F)(hg:w.grownBy w' row)(j:∀r,row=some r→w0.heap.size≤r∧∃o:Obj,w.heap[r]?=some o∧o.isCells=false):Fr w0 w' F:=
 h.gr hg.size hg.os hg.tape hg.output (fun k hk=>hg.block k (Nat.lt_of_lt_of_le hk h.old.size) fun e=>by have:=(j k e.symm).1;omega)
  fun k c e f hc=>hg.block k (cR hc) fun q=>by obtain⟨_,o,u,hn⟩:=j k q.symm;exact qE hc u hn rfl
theorem Fr.putObjW{D:Nat}{o o':Obj}(h:Fr w0 w F)(r:w0.heap.size≤D)(hk:w.heap[D]?=some o)(q:o.isCells=false):Fr w0 (w.putObj D o') F:=
 h.gr (by simp) rfl rfl rfl (fun k j=>World.putObj_heap_other (by omega)) fun k c e f hc=>World.putObj_heap_other (qE hc hk q).symm
theorem Fr.cell0W{ad:Addr}{u:Value}(h:Fr w0 w F)(i:Nat)(hi:F[i]?=some (aT ad [u])):w.cell? ad=some u:=by
 have:=h.cell i 0 hi rfl
 rwa [Addr.add_zero']at this
end
end
section
def MV(L:List (List Int))(u:List Int):Nat:=L.findIdx fun x=>decide (x=u)
def qfC(L:List (List Int))(xs:List Int):List Int:=
 if 0<lZ xs∧MV L (xs.take (lZ xs))<L.length then [128+(MV L (xs.take (lZ xs)):Int)]
 else if 0<lZ xs then xs.take (lZ xs)
 else if rd xs 0≥128 then [255,rd xs 0]else [rd xs 0]
def mxR(xs:List Int):Nat:=if 1>lZ xs then 1 else lZ xs
def apS(L:List (List Int)):Nat→List Int→List Int
 |0,_=>[]
 |f+1,xs=>if xs=[]then []else qfC L xs++apS L f (xs.drop (mxR xs))
def N2(L:List (List Int))(xs:List Int):List Int:=apS L xs.length xs
theorem KD(xs:List Int):1≤mxR xs:=by unfold mxR;split<;>omega
theorem SR(L:List (List Int)):∀f,apS L f []=[]
 |0=>rfl
 |f+1=>by rw[apS,if_pos rfl]
theorem qdw(L:List (List Int)):∀(f g:Nat) (xs:List Int),xs.length≤f→xs.length≤g→apS L f xs=apS L g xs
 |0,g,xs,h,_=>by
  obtain rfl:xs=[]:=xI (by omega)
  rw[SR,SR]
 |f+1,0,xs,_,h=>by
  obtain rfl:xs=[]:=xI (by omega)
  rw[SR,SR]
 |f+1,g+1,xs,h1,h2=>by
  rw[apS,apS]
  by_cases hx:xs=[]
  ·rw[if_pos hx,if_pos hx]
  ·have:0<xs.length:=List.length_pos_iff.2 hx
   have:=KD xs
   rw[if_neg hx,if_neg hx,qdw L f g _ (by rw[cQ];omega) (by rw[cQ];omega)]
theorem qgh(L:List (List Int)):N2 L []=[]:=rfl
theorem qdy{L:List (List Int)}{xs:List Int}(h:xs≠[]):N2 L xs=qfC L xs++N2 L (xs.drop (mxR xs)):=by
 have h0:0<xs.length:=List.length_pos_iff.2 h
 have:=KD xs
 unfold N2
 conv=>lhs;rw[show xs.length=xs.length-1+1 by omega,apS,if_neg h]
 rw[qdw L _ (xs.drop (mxR xs)).length _ (by rw[cQ];omega) (cJ _)]
def unS(L:List (List Int))(lim:Int):List Int→List Int→List Int×Int
 |[],out=>(out,0)
 |[c],out=>if c<128 then(if((out++[c]).length:Int)>lim then([],5)else(out++[c],0))else if c=255 then([],3)else if c-128<L.length then(if((out++L.getD (c-128).toNat []).length:Int)>lim then([],5)else(out++L.getD (c-128).toNat [],0))else([],4)
 |c::d::r,out=>if c<128 then(if((out++[c]).length:Int)>lim then([],5)else unS L lim (d::r) (out++[c]))
  else if c=255 then(if d<128 then([],4)else if((out++[d]).length:Int)>lim then([],5)else unS L lim r (out++[d]))
  else if c-128<L.length then(if((out++L.getD (c-128).toNat []).length:Int)>lim then([],5)else unS L lim (d::r) (out++L.getD (c-128).toNat []))else([],4)
def YZ(L:List (List Int))(x:List Int)(limit:Int):List Int×Int:=unS (L.take 64) (if 0>limit then 0 else limit) x []
section
variable {w0 w:World} {F:List It}
theorem NL.take{v:Value}{L:List (List Int)}{m:Nat}(h:NL .u8 w v L)(hm:m≤L.length):NL .u8 w (oV 1 v 0 m) (L.take m):=by
 obtain⟨us,h1,h2⟩:=h
 have hs:=h1.sub 0 m (bW _) hm
 rw[qac,oL,Z9,K6]at hs
 refine⟨us.take m,by rw[eJ,vU hm];exact hs,fun i u xs hu hx=>?_⟩
 rw[vW]at hu hx
 split at hu
 ·rename_i hi
  rw[if_pos hi]at hx
  exact h2 i u xs hu hx
 ·cases hu
theorem qaD{v:Value}{L:List (List Int)}(h:NL .u8 w v L):Calls P yO #[v] w (fun e w'=>e=aW (oV 1 v 0 (min 64 L.length))∧w'=w):=by
 obtain⟨us,h1,h2⟩:=h
 refine XH (cK h1 ?_)
 have e:(if(64:Int)<((L.length:Nat):Int)then(64:Int)else((L.length:Nat):Int))=((min 64 L.length:Nat):Int):=by split<;>omega
 rw[e]
 obtain⟨a,c,rfl,hc⟩:=h1.shape
 exact iD (sz:=1) (l:=0) (h:=min 64 L.length) (.inl ⟨rfl,rfl⟩) (.inr ⟨_,rfl⟩) (bW _) (by omega) ⟨rfl,rfl⟩ (by kernel_rfl)
theorem NL.first{v:Value}{L:List (List Int)}(h:NL .u8 w v L):NL .u8 w (oV 1 v 0 (min 64 L.length)) (L.take 64):=by
 have:=h.take (m:=min 64 L.length) (by omega)
 rwa [List.take_eq_take_iff.2 (show min (min 64 L.length) L.length=min 64 L.length by omega)]at this
theorem NL.at{v:Value}{L:List (List Int)}{k:Nat}{K:Value→Prop}(h:NL .u8 w v L)(hk:k<L.length)(q:∀u,Nm .u8 w u L[k]→K u):aX P aY v (aB (k:Int)) fun ad=>aF P aA dM (aH ad) w K:=by
 obtain⟨us,h1,h2⟩:=h
 refine N7 h1 (by omega) (by omega) fun a u j hc _=>dV hc (q u (h2 k u _ ?_ (fR hk)))
 rwa [dH]at j
theorem qf9{a c:Value}{xs ys:List Int}(ha:Nm .u8 w a xs)(hc:Nm .u8 w c ys):Calls P gU #[a,c] w (fun e w'=>e=aW (.bool (decide (xs=ys)))∧w'=w):=
 G7 (lA ha (lA hc ⟨by rw[yC ha.2 hc.2],rfl⟩))
theorem qpL{u q:Value}{ys xs:List Int}{A r:Addr}{n:Nat}(hu:Nm .u8 w u ys)(hn:w.cell? A=some (aB (n:Int)))(hb:w.cell? r=some q)(hx:Nm .u8 w q xs)(j:n≤xs.length):
  Calls P oI #[u,aH A,aH r] w (fun e w'=>e=aW (.bool (decide (0<n∧ys=xs.take n)))∧w'=w):=by
 refine NZ (bG hn (aG (fun h=>dV hb (bG hn (dJ hx 0 n (.inl ⟨rfl,rfl⟩) (.inr ⟨_,rfl⟩) (bW _) j fun hs=>aO (qf9 hu hs) ?_))) (fun h=>⟨?_,rfl⟩)))
 ·rintro _ _ ⟨rfl,rfl⟩
  refine⟨_,rfl,?_,rfl⟩
  rw[oL,Z9]
  congr 2
  exact decide_eq_decide.2 ⟨fun h'=>⟨by omega,h'⟩,fun h'=>h'.2⟩
 ·congr 2
  exact(decide_eq_false (by omega)).symm
theorem qpE{L:List (List Int)}{u:List Int}{k:Nat}(hk:k<L.length)(h1:∀j (hj:j<k),L[j]'(by omega)≠u)(h2:L[k]=u):MV L u=k:=by
 unfold MV
 refine(List.findIdx_eq hk).2 ⟨by simp [h2],fun j hj=>by simpa using h1 j hj⟩
theorem qkD{L:List (List Int)}{u:List Int}(h:∀j (hj:j<L.length),L[j]≠u):MV L u=L.length:=by
 unfold MV
 refine List.findIdx_eq_length.2 fun x hx=>?_
 obtain⟨j,hj,rfl⟩:=List.mem_iff_getElem.1 hx
 simpa using h j hj
theorem qjR{v O:Value}{L:List (List Int)}{xs:List Int}{N r:Addr}{n:Nat}(h:NL .u8 w v L)(U:L.length≤1000)(hn:w.cell? N=some (aB (n:Int)))(hb:w.cell? r=some O)(hx:Nm .u8 w O xs)(C:n≤xs.length):
  Calls P jX #[v,.func (.func oI) #[] #[aH N,aH r]] w (fun e w'=>e=aW (aB (if 0<n∧MV L (xs.take n)<L.length then(MV L (xs.take n):Int)else -1))∧w'=w):=by
 have I:∃us,Sl w 1 v L.length us:=let⟨us,h1,_⟩:=h;⟨us,h1⟩
 obtain⟨us,hS⟩:=I
 refine zE (cK hS ⟨fun i w'=>∃k:Nat,i=(k:Int)∧k≤L.length∧(∀j (hj:j<k) (hl:j<L.length),¬(0<n∧L[j]=xs.take n))∧w'=w,fun i _=>(L.length-i).toNat,⟨0,rfl,bW _,(fun j h=>by omega),rfl⟩,?_⟩)
 rintro _ i w1 ⟨k,rfl,hk,hall,J⟩
 obtain rfl:w=w1:=J.symm
 refine aG (fun cR=>h.at (k:=k) (by omega) fun u hu=>lQ rfl (by kernel_rfl) (show Calls P oI #[u,aH N,aH r] _ _ from qpL hu hn hb hx C) ?_) (fun T=>⟨?_,rfl⟩)
 ·rintro _ w2 ⟨rfl,M⟩
  obtain rfl:w=w2:=M.symm
  refine⟨_,rfl,aG (fun q=>⟨?_,rfl⟩) (fun q=>⟨⟨k+1,by rw[aD (by omega) (by omega)];omega,by omega,fun j hj hl=>?_,rfl⟩,by dsimp only;rw[aD (by omega) (by omega)];omega⟩)⟩
  ·have e:MV L (xs.take n)=k:=qpE (by omega) (fun j hj he=>hall j hj (by omega) ⟨q.1,he⟩) q.2
   rw[e,if_pos ⟨q.1,by omega⟩]
  ·by_cases A:j=k
   ·subst A;exact q
   ·exact hall j (by omega) hl
 ·by_cases h0:0<n
  ·rw[qkD (u:=xs.take n) fun j hj he=>hall j (by omega) hj ⟨h0,he⟩,if_neg (by omega)]
  ·rw[if_neg (by omega)]
theorem qfD(L:List (List Int))(xs:List Int):(qfC L xs).length≤2*mxR xs:=by
 have:=KD xs
 unfold qfC
 split
 ·simp;omega
 ·split
  ·rw[eJ];unfold mxR;split<;>omega
  ·split<;>simp<;>omega
theorem qh9{b v:Value}{L:List (List Int)}{xs:List Int}(hb:Nm .u8 w b xs)(hl:xs.length≤10000000)(hv:NL .u8 w v L):Calls P P4 #[b,v] w (JC w (N2 (L.take 64) xs)):=by
 refine XG (mL (Fr.start w) fun N w1 f1=>aO (qaD (hv.ev f1.old)) ?_)
 rintro _ w2 ⟨rfl,bb⟩
 obtain rfl:w1=w2:=bb.symm
 have ac:=hv.first
 obtain⟨t9,am⟩:∃t9,t9=oV 1 v 0 (min 64 L.length):=⟨_,rfl⟩
 obtain⟨M,hM⟩:∃M,M=L.take 64:=⟨_,rfl⟩
 rw[←hM,←am]at ac
 rw[←hM,←am]
 have bm:M.length≤64:=by rw[hM,eJ];omega
 have au:b.cells.toList=[b]:=by rw[hb.one]
 rw[au]at f1
 have cl:∀{u:Value} {zs:List Int},Nm .u8 w u zs→u.cells= #[u]∧u.oneCell'=true:=fun hu=>by
  obtain⟨a,c,rfl,_⟩:=hu.shape;exact⟨rfl,rfl⟩
 refine⟨_,rfl,fun out w'=>∃(p:Nat) (O:Value) (ys:List Int),p≤xs.length∧Nm .u8 w O (xs.drop p)∧ys++N2 M (xs.drop p)=N2 M xs∧ys.length≤2*p∧Fr w w' [bI .u8 eB out ys,aT N [O]],fun _ w'=>(match w'.cell? N with|some (.slice _ n _)=>n|_=>0),⟨0,b,[],bW _,by rw[oL];exact hb,by rw[oL];rfl,cJ _,f1.nil0 .u8 eB⟩,?_⟩
 rintro _ out w4 ⟨p,O,ys,hp,j,Y,bu,f4⟩
 have bn:(xs.drop p).length=xs.length-p:=cQ
 have af:=j.ev f4.old
 have X:w4.cell? N=some O:=by have:=f4.cell 1 0 rfl rfl;rwa [Addr.add_zero']at this
 refine dV X (aP af (aG (fun ah=>?_) (fun bq=>?_)))
 ·refine dV X (aO (qcP af (by omega)) ?_)
  rintro _ w5 ⟨rfl,bc⟩
  obtain rfl:w4=w5:=bc.symm
  have az:=EM (xs.drop p)
  have ax:xs.drop p≠[]:=fun h=>by rw[h]at ah;simp at ah
  have al:=qdy (L:=M) ax
  have ba:=qfD M (xs.drop p)
  have aw:=KD (xs.drop p)
  obtain⟨n,hn⟩:∃n,n=lZ (xs.drop p):=⟨_,rfl⟩
  have aj:mxR (xs.drop p)=if 1>n then 1 else n:=by unfold mxR;rw[hn]
  rw[←hn]at az⊢
  refine⟨_,rfl,dX (z:=aB 0) f4 (by kernel_rfl) fun V w6 f6=>?_⟩
  have f6:Fr w w6 [aT V [aB 0],bI .u8 eB out ys,aT N [O]]:=f6
  refine xR (f6.get 0 rfl) (by decide) rfl rfl fun w7 av _ ar=>?_
  have r:Fr w w7 [aT V [aB (n:Int)],bI .u8 eB out ys,aT N [O]]:=f6.upd (jt:=aT V [aB (n:Int)]) 0 rfl av (fun k _ hh=>.inl hh.1) ar fun k hk=>.inl hk
  have cn:∀{w':World} {F':List It},Fr w w' (aT V [aB (n:Int)]::F')→w'.cell? V=some (aB (n:Int)):=fun f=>by have:=f.cell 0 0 rfl rfl;rwa [Addr.add_zero']at this
  have cb:∀{w':World} {o:It},Fr w w' [aT V [aB (n:Int)],o,aT N [O]]→w'.cell? N=some O:=fun f=>by have:=f.cell 2 0 rfl rfl;rwa [Addr.add_zero']at this
  refine aO (qjR (ac.ev r.old) (by omega) (cn r) (cb r) (j.ev r.old) (by omega)) ?_
  rintro _ w8 ⟨rfl,bd⟩
  obtain rfl:w7=w8:=bd.symm
  have bt:0≤rd (xs.drop p) 0∧rd (xs.drop p) 0<256:=jB j.2 0
  refine⟨_,rfl,fun J w'=>Fr w w' [aT V [aB (n:Int)],bI .u8 eB J (ys++qfC M (xs.drop p)),aT N [O]],?_,?_⟩
  ·have an:qfC M (xs.drop p)=if 0<n∧MV M ((xs.drop p).take n)<M.length then [128+(MV M ((xs.drop p).take n):Int)]else if 0<n then(xs.drop p).take n else if rd (xs.drop p) 0≥128 then [255,rd (xs.drop p) 0]else [rd (xs.drop p) 0]:=by unfold qfC;rw[←hn]
   rw[an]
   by_cases hq:0<n∧MV M ((xs.drop p).take n)<M.length
   ·rw[if_pos hq,if_pos hq]
    obtain⟨q,ay⟩:∃q,q=MV M ((xs.drop p).take n):=⟨_,rfl⟩
    rw[←ay]at hq⊢
    refine aG (fun _=>?_) (fun h=>by omega)
    rw[aD (n:=128+(q:Int)) (by omega) (by omega),show u8 (128+(q:Int))=128+(q:Int)by rw[nF];omega]
    refine jF [128+(q:Int)] r rfl rfl (fun y U=>by simp at U;subst U;exact IZ (by omega)) fun t w9 T=>vZ T 2 rfl (T.nm 0 rfl) (by simp;omega) fun v' Z f10=>f10.drop 0
   ·rw[if_neg hq,if_neg hq]
    refine aG (fun h=>by omega) (fun _=>bG (cn r) (aG (fun h0=>?_) (fun h0=>?_)))
    ·rw[if_pos (by omega)]
     refine dV (cb r) (bG (cn r) (dJ (j.ev r.old) 0 n (.inl ⟨rfl,rfl⟩) (.inr ⟨_,rfl⟩) (bW _) (by omega) fun hs=>?_))
     rw[oL,Z9]at hs
     exact vZ r 1 rfl hs (by rw[eJ];omega) fun v' Z f10=>f10
    ·rw[if_neg (by omega)]
     refine dV (cb r) (uC (j.ev r.old) (by omega) (by omega) (aG (fun I=>?_) (fun I=>?_)))
     ·rw[if_pos I]
      refine dV (cb r) (uC (j.ev r.old) (by omega) (by omega) ?_)
      refine jF [255,rd (xs.drop p) 0] r rfl rfl (fun y U=>by simp at U;rcases U with rfl|rfl<;>exact IZ (by omega)) fun t w9 T=>vZ T 2 rfl (T.nm 0 rfl) (by simp;omega) fun v' Z f10=>f10.drop 0
     ·rw[if_neg I]
      refine dV (cb r) (uC (j.ev r.old) (by omega) (by omega) ?_)
      refine jF [rd (xs.drop p) 0] r rfl rfl (fun y U=>by simp at U;subst U;exact IZ (by omega)) fun t w9 T=>vZ T 2 rfl (T.nm 0 rfl) (by simp;omega) fun v' Z f10=>f10.drop 0
  ·rintro _ J bv C
   have ai:(if 1>((n:Nat):Int)then(1:Int)else((n:Nat):Int))=((mxR (xs.drop p):Nat):Int):=by rw[aj];split<;>split<;>omega
   obtain⟨m,hm⟩:∃m,m=mxR (xs.drop p):=⟨_,rfl⟩
   rw[←hm]at al ba aw ai
   have br:m≤xs.length-p:=by rw[hm,aj];split<;>omega
   refine dV (cb C) (bG (cn C) ?_)
   rw[ai]
   refine dJ (j.ev C.old) m (xs.drop p).length (.inr ⟨_,rfl⟩) (.inl ⟨rfl,rfl⟩) (by omega) (cJ _) fun hs=>?_
   have A:=j.sub m (xs.drop p).length (by omega) (cJ _)
   rw[gI (by rw[cQ];omega),U2]at A
   obtain⟨c1,c2⟩:=cl A
   refine xR (C.get 2 rfl) (Nat.zero_lt_succ _) c2 c1 fun be ag _ ae=>?_
   have f12:Fr w be [aT V [aB (n:Int)],bI .u8 eB J (ys++qfC M (xs.drop p)),aT N [_]]:=C.upd (jt:=aT N [_]) 2 rfl ag (fun k _ hh=>.inl hh.1) ae fun k hk=>.inl hk
   have ab:=f12.cell 2 0 rfl rfl
   rw[Addr.add_zero']at ab
   refine⟨⟨p+m,_,_,by omega,A,?_,by rw[bD];omega,f12.drop 0⟩,?_⟩
   ·rw[gY,←U2,←al];exact Y
   ·dsimp only
    rw[ab,X]
    obtain⟨a1,d1,e1,_⟩:=j.shape
    obtain⟨a2,d2,e2,_⟩:=A.shape
    rw[e2,e1]
    dsimp only
    rw[cQ,cQ];omega
 ·have ak:xs.drop p=[]:=xI (by omega)
  rw[ak,qgh,iW]at Y
  subst Y
  exact⟨out,rfl,f4.old,f4.on 0 rfl⟩
theorem YT{M:List (List Int)}{lim:Int}{xs ys:List Int}{k:Nat}(hk:k<xs.length):unS M lim (xs.drop k) ys=
  if rd xs (k:Int)<128 then(if((ys++[rd xs (k:Int)]).length:Int)>lim then([],5)else unS M lim (xs.drop (k+1)) (ys++[rd xs (k:Int)]))
  else if rd xs (k:Int)=255 then(if k+1=xs.length then([],3)else if rd xs ((k+1:Nat):Int)<128 then([],4)else if((ys++[rd xs ((k+1:Nat):Int)]).length:Int)>lim then([],5)else unS M lim (xs.drop (k+2)) (ys++[rd xs ((k+1:Nat):Int)]))
  else if rd xs (k:Int)-128<M.length then(if((ys++M.getD (rd xs (k:Int)-128).toNat []).length:Int)>lim then([],5)else unS M lim (xs.drop (k+1)) (ys++M.getD (rd xs (k:Int)-128).toNat []))else([],4):=by
 rw[GK hk,dK xs k hk]
 by_cases h1:k+1<xs.length
 ·rw[GK h1,dK xs (k+1) h1,unS,if_neg (show ¬(k+1=xs.length)by omega)]
 ·rw[zN (show xs.length≤k+1 by omega),unS,if_pos (show k+1=xs.length by omega)]
  simp only[unS]
theorem LR(M:List (List Int))(lim:Int)(ys:List Int):unS M lim [] ys=(ys,0):=by rw[unS]
theorem qlp{x v:Value}{L:List (List Int)}{xs:List Int}{limit:Int}(hx:Nm .u8 w x xs)(hl:xs.length≤10000000)(hv:NL .u8 w v L)(hL:∀u∈L,u.length≤100000):Calls P X7 #[x,aB limit,v] w (yQ w (YZ L xs limit)):=by
 refine u9 (aO (qaD hv) ?_)
 rintro _ w1 ⟨rfl,ag⟩
 obtain rfl:w=w1:=ag.symm
 have U:=hv.first
 obtain⟨t9,Y⟩:∃t9,t9=oV 1 v 0 (min 64 L.length):=⟨_,rfl⟩
 unfold YZ
 obtain⟨M,Z⟩:∃M,M=L.take 64:=⟨_,rfl⟩
 rw[←Z,←Y]at U
 rw[←Z,←Y]
 have ah:M.length≤64:=by rw[Z,eJ];omega
 have aa:∀u∈M,u.length≤100000:=fun u hu=>hL u (by rw[Z]at hu;exact AK hu)
 obtain⟨lim,X⟩:∃lim,lim=if 0>limit then 0 else limit:=⟨_,rfl⟩
 rw[←X]
 obtain⟨A,N⟩:∃A,A=unS M lim xs []:=⟨_,rfl⟩
 rw[←N]
 refine⟨_,rfl,fun out i w'=>∃(k:Nat) (ys:List Int),i=(k:Int)∧k≤xs.length∧A=unS M lim (xs.drop k) ys∧ys.length≤k*100000∧Fr w w' [bI .u8 eB out ys],fun _ i _=>(xs.length-i).toNat,⟨0,[],rfl,bW _,N,bW _,(Fr.start w).nil0 .u8 eB⟩,?_⟩
 rintro _ out i w2 ⟨k,ys,rfl,hk,hr,am,J⟩
 have r:=hx.ev J.old
 have nil:∀{w':World} {e:Int},Ev w w'→A=([],e)→yQ w A (bP #[bR,aB e]) w':=fun h he=>by
  rw[he];exact⟨_,rfl,h,ON.nil _ _ _ _⟩
 refine aP r (aG (fun cR=>?_) (fun ai=>?_))
 ·have ac:k<xs.length:=by omega
  have j:=YT (M:=M) (lim:=lim) (ys:=ys) ac
  rw[←hr]at j
  have hc:=jB hx.2 (k:Int)
  have aj:k*100000+100000≤10000000*100000:=by have:=kR 100000 (show k+1≤10000000 by omega);rwa [mJ]at this
  refine uC r (by omega) (by omega) ?_
  rw[aD (n:=rd xs (k:Int)) (by omega) (by omega)]
  refine aG (fun C=>?_) (fun C=>?_)
  ·rw[if_pos C]at j
   refine uC r (by omega) (by omega) (qqR rfl J hc (by omega) fun v' w3 f3=>aP (f3.nm 0 rfl) (aG (fun hg=>?_) (fun hg=>?_)))
   ·rw[if_pos hg]at j;exact nil f3.old j
   ·rw[if_neg hg]at j
    exact⟨⟨k+1,_,by rw[aD (by omega) (by omega)];omega,by omega,j,by rw[List.length_append,Nat.succ_mul,List.length_singleton];omega,f3⟩,by dsimp only;rw[aD (by omega) (by omega)];omega⟩
  ·rw[if_neg C]at j
   refine cN (fun I=>aP r ?_) (fun I=>?_)
   ·rw[if_pos I]at j
    rw[aD (n:=(k:Int)+1) (by omega) (by omega)]
    refine cN (fun he=>?_) (fun ak=>?_)
    ·rw[if_pos (by omega)]at j;exact nil J.old j
    ·rw[if_neg (by omega)]at j
     have hd:=jB hx.2 ((k+1:Nat):Int)
     rw[show(k:Int)+1=((k+1:Nat):Int)by omega]
     refine uC r (by omega) (by omega) (aG (fun O=>?_) (fun O=>?_))
     ·rw[if_pos O]at j;exact nil J.old j
     ·rw[if_neg O]at j
      refine uC r (by omega) (by omega) (qqR rfl J hd (by omega) fun v' w3 f3=>aP (f3.nm 0 rfl) (aG (fun hg=>?_) (fun hg=>?_)))
      ·rw[if_pos hg]at j;exact nil f3.old j
      ·rw[if_neg hg]at j
       refine⟨⟨k+2,_,by rw[aD (by omega) (by omega)];omega,by omega,j,?_,f3⟩,by dsimp only;rw[aD (by omega) (by omega)];omega⟩
       rw[bD,show(k+2)*100000=k*100000+200000 by omega,N1];omega
   ·rw[if_neg I]at j
    have V:=U.ev J.old
    have ab:∃us,Sl w2 1 t9 M.length us:=let⟨us,h1,_⟩:=V;⟨us,h1⟩
    obtain⟨us,hS⟩:=ab
    rw[aD (n:=rd xs (k:Int)-128) (by omega) (by omega)]
    refine cK hS (aG (fun hq=>?_) (fun hq=>?_))
    ·rw[if_pos hq]at j
     obtain⟨q,ae⟩:∃q:Nat,rd xs (k:Int)-128=(q:Int):=⟨(rd xs (k:Int)-128).toNat,by omega⟩
     rw[ae]at j hq⊢
     have T:q<M.length:=by omega
     rw[dH,lH,fR T,Option.getD_some]at j
     have al:=aa M[q] (kH T)
     refine V.at T fun u hu=>vZ J 0 rfl hu (by omega) fun v' w3 f3=>aP (f3.nm 0 rfl) (aG (fun hg=>?_) (fun hg=>?_))
     ·rw[if_pos hg]at j;exact nil f3.old j
     ·rw[if_neg hg]at j
      exact⟨⟨k+1,_,by rw[aD (by omega) (by omega)];omega,by omega,j,by rw[List.length_append,Nat.succ_mul];omega,f3⟩,by dsimp only;rw[aD (by omega) (by omega)];omega⟩
    ·rw[if_neg hq]at j;exact nil J.old j
 ·obtain rfl:k=xs.length:=by omega
  rw[List.drop_length,LR]at hr
  rw[hr]
  exact⟨out,rfl,J.old,J.on 0 rfl⟩
end
end
section
section
variable {b:Value} {xs:List Int} {w:World}
def MU(p:Int→Bool):Nat→List Int→Int
 |_,[]=> -1
 |j,c::r=>if p c=true then(j:Int)else MU p (j+1) r
theorem JW{p:Int→Bool}:∀{l:List Int} {j:Nat},(MU p j l≥0)↔l.any p=true
 |[],j=>by simp [MU]
 |c::r,j=>by
  rw[MU,List.any_cons]
  by_cases h:p c=true
  ·rw[if_pos h,h];simp
  ·rw[if_neg h,JW,Bool.eq_false_iff.2 h];simp
theorem ZS{f:FuncId}{pf:Int→Bool}(hok:zP P f=true)(hf:∀{c:Int} {w:World},Calls P f #[.int .u8 c] w (fun e w'=>e=aW (.bool (pf c))∧w'=w))(hb:Nm .u8 w b xs)(hl:xs.length≤1000000000):
  Calls P fY #[b,.func (.func f) #[] #[]] w (fun e w'=>e=aW (aB (MU pf 0 xs))∧w'=w):=by
 refine mY (aP hb ⟨fun i w'=>∃j:Nat,i=j∧j≤xs.length∧MU pf 0 xs=MU pf j (xs.drop j)∧w=w',fun i _=>xs.length-i.toNat,⟨0,rfl,by omega,rfl,rfl⟩,?_⟩)
 rintro _ i _ ⟨j,rfl,hj,hi,rfl⟩
 refine aG (fun cR=>?_) (fun u=>?_)
 ·have q:j<xs.length:=by omega
  rw[GK q,MU,←dK xs j q]at hi
  refine dL hb (by omega) cR fun a1 r _=>bG r (lQ rfl hok hf ?_)
  rintro _ _ ⟨rfl,rfl⟩
  refine⟨_,rfl,iQ (fun h=>?_) (fun h=>?_)⟩
  ·exact⟨by rw[hi,if_pos h],rfl⟩
  ·rw[if_neg (by rw[h];simp)]at hi
   rw[aD (n:=(j:Int)+1) (by omega) (by omega)]
   exact⟨⟨j+1,rfl,by omega,hi,rfl⟩,by dsimp only;omega⟩
 ·exact⟨by rw[hi,zN (by omega)];rfl,rfl⟩
theorem MH{f:FuncId}{pf:Int→Bool}(hok:zP P f=true)(hf:∀{c:Int} {w:World},Calls P f #[.int .u8 c] w (fun e w'=>e=aW (.bool (pf c))∧w'=w))(hb:Nm .u8 w b xs)(hl:xs.length≤1000000000):
  Calls P iX #[b,.func (.func f) #[] #[]] w (fun e w'=>e=aW (.bool (xs.any pf))∧w'=w):=by
 have e:decide (MU pf 0 xs≥0)=xs.any pf:=by
  cases h:xs.any pf
  ·exact decide_eq_false fun hh=>by rw[JW,h]at hh;cases hh
  ·exact decide_eq_true (JW.2 h)
 exact vN (bX (ZS hok hf hb hl) ⟨by rw[e],rfl⟩)
theorem qjO{v:Int}(hb:Nm .u8 w b xs)(hl:xs.length≤1000000000):Calls P mH #[b,.int .u8 v] w (fun e w'=>e=aW (aB (MU (fun c=>v==c) 0 xs))∧w'=w):=by
 refine J9 (aP hb ⟨fun i w'=>∃j:Nat,i=j∧j≤xs.length∧MU (fun c=>v==c) 0 xs=MU (fun c=>v==c) j (xs.drop j)∧w=w',fun i _=>xs.length-i.toNat,⟨0,rfl,by omega,rfl,rfl⟩,?_⟩)
 rintro _ i _ ⟨j,rfl,hj,hi,rfl⟩
 refine aG (fun cR=>?_) (fun u=>?_)
 ·have q:j<xs.length:=by omega
  rw[GK q,MU,←dK xs j q]at hi
  refine dL hb (by omega) cR fun a1 r _=>bG r (iQ (fun h=>?_) (fun h=>?_))
  ·exact⟨by rw[hi,if_pos h],rfl⟩
  ·rw[if_neg (by rw[h];simp)]at hi
   rw[aD (n:=(j:Int)+1) (by omega) (by omega)]
   exact⟨⟨j+1,rfl,by omega,hi,rfl⟩,by dsimp only;omega⟩
 ·exact⟨by rw[hi,zN (by omega)];rfl,rfl⟩
theorem qbs{v:Int}(hb:Nm .u8 w b xs)(hl:xs.length≤1000000000):Calls P kL #[b,.int .u8 v] w (fun e w'=>e=aW (.bool (xs.any fun c=>v==c))∧w'=w):=by
 refine zZ (bX (qjO hb hl) ⟨?_,rfl⟩)
 congr 2
 cases h:xs.any fun c=>v==c
 ·exact decide_eq_false fun hh=>by rw[JW,h]at hh;cases hh
 ·exact decide_eq_true (JW.2 h)
end
end
section
def QU(c:Int):Bool:=decide (65≤c∧c≤90)
def MO(c:Int):List Int:=if QU c=true then [2,c+32]else if c=2∨c=3 then [3,c]else [c]
def UN(xs:List Int):List Int:=xs.flatMap MO
def UO(xs:List Int):List Int×Bool:=if xs.any QU=true∧xs.length≤1048576 then(UN xs,true)else([],false)
def BQ(most:Int):Int:=if 0>most then 0 else if 1048576<most then 1048576 else most
def D8(lim:Int):Nat→List Int→List Int→List Int×Int
 |0,_,out=>(out,0)
 |_+1,[],out=>(out,0)
 |f+1,c::r,out=>
  if c=2∨c=3 then
   (match r with
    |[]=>([],3)
    |d::r'=>
     if c=2∧97≤d∧d≤122 then(if((out++[d-32]).length:Int)>lim then([],5)else D8 lim f r' (out++[d-32]))
     else if c=3∧(d=2∨d=3)then(if((out++[d]).length:Int)>lim then([],5)else D8 lim f r' (out++[d]))
     else([],4))
  else if((out++[c]).length:Int)>lim then([],5)else D8 lim f r (out++[c])
theorem qo8{c:Int}(h:0≤c∧c<256):inR .u8 (MO c):=fun x hx=>by
 unfold MO QU at hx
 split at hx
 ·rename_i hc
  have hc:=of_decide_eq_true hc
  simp at hx;exact IZ (by omega)
 ·split at hx<;>(simp at hx;exact IZ (by omega))
theorem qmf(c:Int):(MO c).length≤2∧1≤(MO c).length:=by unfold MO;split;simp;split<;>simp
theorem qdO:∀(xs:List Int),(UN xs).length≤2*xs.length
 |[]=>by simp [UN]
 |c::r=>by
  have:=qdO r
  have h2:=qmf c
  unfold UN at this⊢
  simp only[List.flatMap_cons,bD,iO];omega
theorem qj9(xs:List Int)(i:Nat)(h:i<xs.length):UN (xs.take (i+1))=UN (xs.take i)++MO (rd xs i):=by
 unfold UN
 rw[iV h,dK xs i h,List.flatMap_append,List.flatMap_cons,List.flatMap_nil,iW]
section
variable {b:Value} {xs:List Int} {w:World}
theorem BC{c:Int}{w:World}:Calls P qC #[.int .u8 c] w (fun e w'=>e=aW (.bool (QU c))∧w'=w):=by
 refine RW (aG (fun h=>⟨?_,rfl⟩) (fun h=>⟨?_,rfl⟩))
 ·unfold QU;congr 2;exact decide_eq_decide.2 ⟨fun h2=>⟨h,h2⟩,fun h2=>h2.2⟩
 ·unfold QU;rw[decide_eq_false (fun h2=>h h2.1)]
theorem qol{ad:Addr}{v l:Value}{ys:List Int}(h:Wr eB w ad v xs)(hl:Nm .u8 w l ys)(hb:(xs.length+ys.length)*8≤140737488355328):Calls P dA #[aH ad,l] w (fun e w'=>e=bP #[]∧∃v',WrS eB w w' ad v v' (xs++ys)):=
 IC (aC (dV (h.1.cell (j:=0) rfl) (qtL h hl hb fun v' w' hw=>⟨rfl,v',hw⟩)))
theorem qpZ(most:Int):(if(if 1048576<most then 1048576 else most)>0 then(if 1048576<most then 1048576 else most)else 0)=BQ most:=by unfold BQ;split<;>split<;>split<;>omega
theorem qeR{ad:Addr}{v:Value}{most:Int}(h:Wr eB w ad v xs):Calls P jI #[aH ad,aB most] w (fun e w'=>e=aW (.bool (decide ((xs.length:Int)>BQ most)))∧w'=w):=by
 refine FO (aC (dV (h.1.cell (j:=0) rfl) (aP h.2.1.nm ⟨?_,rfl⟩)))
 rw[qpZ]
theorem C5{w0:World}{F:List It}{ad:Addr}{v:Value}{K:World→Prop}{j:Array (Nat×Value)}{n:Nat}(ys:List Int)(hp:j.toList=Q7 0 (ys.map (.int .u8)))(hn:ys.length=n)(u:inR .u8 ys)(h:Fr w0 w (rN eB ad v xs::F))(hb:xs.length≤1000000000)(r:n≤100)(hk:∀v' w',Fr w0 w' (rN eB ad v' (xs++ys)::F)→K w'):
  eG P aA n j w fun l w1=>aE P dA jO #[aH ad,l] w1 K:=
 jF ys h hp hn u (fun l w1 q=>cZ (qol (q.get 1 rfl) (q.nm 0 rfl) (by omega)) fun w2 ⟨v',hw⟩=>hk v' w2 ((q.wr 1 rfl hw).drop 0)) (by omega)
theorem qlF(hb:Nm .u8 w b xs)(hl:xs.length≤100000000):Calls P zA #[b] w (TV w (UO xs)):=by
 have I:¬(xs.any QU=true∧xs.length≤1048576)→UO xs=([],false):=fun h=>by unfold UO;rw[if_neg h]
 refine qcx ⟨fun w'=>(xs.any QU=true∧xs.length≤1048576)∧w=w',hZ (MH (by kernel_rfl) BC hb (by omega)) (iQ (fun h=>?_) (fun h=>?_)),?_⟩
 ·have h:xs.any QU=true:=by simpa using h
  refine aP hb (aG (fun hg=>?_) (fun hg=>⟨⟨h,by omega⟩,rfl⟩))
  rw[I (by omega)];exact⟨_,rfl,Ch.refl _ w,ON.nil _ _ _ _⟩
 ·have h:xs.any QU=false:=by simpa using h
  rw[I (by rw[h];simp)];exact⟨_,rfl,Ch.refl _ w,ON.nil _ _ _ _⟩
 rintro _ _ ⟨hok,rfl⟩
 refine dX (z:=.agg #[bR]) (Fr.start w) (by kernel_rfl) fun ad w1 J=>?_
 have J:=J.asW (e:=eB) 0 rfl
 rw[Addr.add_zero' ad]
 refine aP hb ⟨fun i w'=>∃(j:Nat) (v:Value),i=j∧j≤xs.length∧Fr w w' [rN eB ad v (UN (xs.take j))],fun i _=>xs.length-i.toNat,⟨0,_,rfl,by omega,J⟩,?_⟩
 rintro _ i w2 ⟨j,v,rfl,hj,A⟩
 have N:=qdO (xs.take j)
 rw[eJ,vU hj]at N
 refine aG (fun cR=>?_) (fun Y=>?_)
 ·have C:j<xs.length:=by omega
  have hc:=jB hb.2 j
  have hs:=qj9 xs j C
  have r:=qo8 hc
  rw[aD (n:=(j:Int)+1) (by omega) (by omega)]
  refine dL (hb.ev A.old) (by omega) cR fun a1 X _=>bG X (hZ BC (iQ (fun q=>?_) (fun q=>?_)))
  ·have he:MO (rd xs j)=[2,u8 (rd xs j+32)]:=by
    have:=of_decide_eq_true q
    unfold MO;rw[if_pos q,LQ (by omega) (by omega)]
   rw[he]at hs r
   refine C5 [2,u8 (rd xs j+32)] rfl rfl r A (by omega) (by decide) fun v' w3 f3=>?_
   rw[←hs]at f3
   exact⟨⟨j+1,v',rfl,by omega,f3⟩,by dsimp only;omega⟩
  ·have u:(rd xs j=2∨rd xs j=3)→eG P aA 2 #[(0,.int .u8 3),(1,.int .u8 (rd xs j))] w2 fun(T:Value) U=>aE P dA jO #[aH ad,T] U fun V=>(∃(O:Nat) (v:Value),((j:Int)+1)=O∧O≤xs.length∧Fr w V [rN eB ad v (UN (xs.take O))])∧xs.length-((j:Int)+1).toNat<xs.length-(j:Int).toNat:=fun M=>by
    have he:MO (rd xs j)=[3,rd xs j]:=by unfold MO;rw[if_neg (by rw[q];simp),if_pos M]
    rw[he]at hs r
    refine C5 [3,rd xs j] rfl rfl r A (by omega) (by decide) fun v' w3 f3=>?_
    rw[←hs]at f3
    exact⟨⟨j+1,v',rfl,by omega,f3⟩,by omega⟩
   refine jP (fun Z=>cN (fun e3=>u (.inr e3)) (fun n3=>?_)) (fun e2=>u (.inl e2))
   have he:MO (rd xs j)=[rd xs j]:=by unfold MO;rw[if_neg (by rw[q];simp),if_neg (by omega)]
   rw[he]at hs r
   refine C5 [rd xs j] rfl rfl r A (by omega) (by decide) fun v' w3 f3=>?_
   rw[←hs]at f3
   exact⟨⟨j+1,v',rfl,by omega,f3⟩,by dsimp only;omega⟩
 ·obtain rfl:j=xs.length:=by omega
  have hW:Wr eB w2 ad v (UN (xs.take xs.length)):=A.get 0 rfl
  refine dV (hW.1.cell (j:=0) rfl) ?_
  have hc:UO xs=(UN (xs.take xs.length),true):=by unfold UO;rw[if_pos hok,qU]
  rw[hc]
  refine⟨v,rfl,A.old,?_⟩
  exact qhw hW.2.1 fun g hg=>(A.ft 0 rfl (k:=g) (.inr hg)).1
end
end
end Go.Proofs.YtabchipjjghhnaaGreatDoorV
