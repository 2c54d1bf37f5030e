import Derived.Laws.StructEq
import Derived.Test.YtabchipjjghhnaaGreatDoorVPart5
set_option linter.unusedVariables false
set_option linter.unusedSimpArgs false
namespace Go.Proofs.YtabchipjjghhnaaGreatDoorV
section
open Go Go.Proofs.Tryz
variable {w:World} {R:Ending→World→Prop}
set_option maxRecDepth 100000
theorem D4{q:Value}{j:Value}(h:aE P tH dM #[q] w fun A r=>aE P mI jO #[A,j] r fun u=>R (aW (A)) u):
  Calls P lF #[q,j] w R:=
 dI func203 rfl h
theorem qG{q:Value}(h:kA P dB q w fun m1 j=>R (aW (.func (.func dR) #[] #[aH m1])) j):
  Calls P gO #[q] w R:=
 dI func204 rfl h
theorem SA{T:ByteArray}{U:ByteArray}{t2:Value}(h:∃B:World→Prop,B w.drew∧aI P pG dM t2 B fun V=>aI P pG dM t2 B fun t9=>iB P V bA #[.string U] w.drew fun(X:Int) j=>B j∧iB P t9 bA #[.string T] j fun(I:Int) q=>B q∧aE P uO bA #[aB X,aB I] q fun(J:Int) r=>B r∧aE P pU bA #[.string T,.string U] r fun(M:Int) u=>B u∧eG P bJ 2 #[(0,aB J),(1,aB M)] u fun N A=>B A∧aE P W9 bA #[N] A fun(O:Int) C=>B C∧R (aW (aB O)) C):
  Calls P lG #[.string T,.string U,t2] w R:=
 dI func205 rfl h
theorem n8{j:Value}(h:bC P bJ j fun C=>∃(I:Int→World→Prop) (μ:Int→World→Nat),I 0 w∧∀(_:bV) (r:Int) (q:World),I r q→aQ (decide (r<(C:Int))) (aX P bJ j (aB r) fun A=>aF P aK bA (aH A) q fun(u:Int)=>aQ (u !=0) (R (aW (aB u)) q) (I (i64 (r+1)) q∧μ (i64 (r+1)) q<μ r q)) (R (aW (aB 0)) q)):
  Calls P W9 #[j] w R:=
 cX ⟨[(3,[(8,.int .i64)])],[]⟩ func206 rfl h
theorem HQ{r:Int}{u:Int}(h:aE P sL kG #[aB r] w fun(C:Bool) A=>aE P sL kG #[aB u] A fun(q:Bool) j=>aQ C (aQ q (R (aW (aB 0)) j) (R (aW (aB (-1))) j)) (aQ q (R (aW (aB 1)) j) (aQ (decide (r<u)) (R (aW (aB (-1))) j) (aQ (decide (r>u)) (R (aW (aB 1)) j) (R (aW (aB 0)) j))))):
  Calls P uO #[aB r,aB u] w R:=
 dI func207 rfl h
theorem AR{r:ByteArray}{u:ByteArray}(h:aE P nL kG #[.string r] w fun(C:Bool) A=>aE P nL kG #[.string u] A fun(q:Bool) j=>aQ C (aQ q (R (aW (aB 0)) j) (R (aW (aB (-1))) j)) (aQ q (R (aW (aB 1)) j) (aQ (Op.bytesLess r.toList u.toList) (R (aW (aB (-1))) j) (aQ (!(Op.bytesLess r.toList u.toList||r.toList==u.toList)) (R (aW (aB 1)) j) (R (aW (aB 0)) j))))):
  Calls P pU #[.string r,.string u] w R:=
 dI func208 rfl h
theorem XH{j:Value}(h:bC P aY j fun t5=>cH P aY j none (some (aB (if 64<(t5:Int)then 64 else(t5:Int)))) none fun q=>R (aW (q)) w):
  Calls P yO #[j] w R:=
 dI func209 rfl h
theorem zE{u:Value}{M:Value}(h:bC P aY u fun N=>∃(I:Int→World→Prop) (μ:Int→World→Nat),I 0 w∧∀(_:bV) (q:Int) (j:World),I q j→aQ (decide (q<(N:Int))) (aX P aY u (aB q) fun A=>aF P aA dM (aH A) j fun C=>iB P M kG #[C] j fun(J:Bool) r=>aQ J (R (aW (aB q)) r) (I (i64 (q+1)) r∧μ (i64 (q+1)) r<μ q j)) (R (aW (aB (-1))) j)):
  Calls P jX #[u,M] w R:=
 cX ⟨[(2,[(8,.int .i64)])],[]⟩ func210 rfl h
theorem NZ{w0:Value}{t1:Value}{t2:Value}(h:aF P aK bA t1 w fun(t5:Int)=>aQ (decide (t5>0)) (aF P aA dM t2 w fun t9=>aF P aK bA t1 w fun(j:Int)=>cH P aA t9 none (some (aB j)) none fun q=>aE P gU kG #[w0,q] w fun(r:Bool) u=>R (aW (.bool r)) u) (R (aW (.bool false)) w)):
  Calls P oI #[w0,t1,t2] w R:=
 dI func211 rfl h
theorem mY{u:Value}{M:Value}(h:bC P aA u fun N=>∃(I:Int→World→Prop) (μ:Int→World→Nat),I 0 w∧∀(_:bV) (q:Int) (j:World),I q j→aQ (decide (q<(N:Int))) (aX P aA u (aB q) fun A=>aF P bK (dQ .u8) (aH A) j fun(C:Int)=>iB P M kG #[.int .u8 C] j fun(J:Bool) r=>aQ J (R (aW (aB q)) r) (I (i64 (q+1)) r∧μ (i64 (q+1)) r<μ q j)) (R (aW (aB (-1))) j)):
  Calls P fY #[u,M] w R:=
 cX ⟨[(2,[(8,.int .i64)])],[]⟩ func212 rfl h
theorem XI{q:Int}(h:aE P G4 kG #[.int .u8 q] w fun(t4:Bool) j=>R (aW (.bool (!t4))) j):
  Calls P rZ #[.int .u8 q] w R:=
 dI func213 rfl h
theorem SC{j:Int}(h:aQ (decide (j≥97)) (aQ (!(decide (j≤122))) (aQ (decide (j≥65)) (R (aW (.bool (decide (j≤90)))) w) (R (aW (.bool false)) w)) (R (aW (.bool true)) w)) (aQ (decide (j≥65)) (R (aW (.bool (decide (j≤90)))) w) (R (aW (.bool false)) w))):
  Calls P G4 #[.int .u8 j] w R:=
 dI func214 rfl h
theorem WH{N:Value}{r:Value}(h:bC P aA r fun C=>aQ ((C:Int)==0) (R (aW (aB 0)) w) (aQ ((C:Int)==1) (aX P aA r (aB 0) fun bl=>aF P bK (dQ .u8) (aH bl) w fun(bm:Int)=>aE P uN bA #[N,.int .u8 bm] w fun(bn:Int) cc=>R (aW (aB bn)) cc) (bC P aA N fun bp=>aQ ((C:Int)==(bp:Int)) (aE P gU kG #[r,N] w fun(t40:Bool) bc=>aQ t40 (R (aW (aB 0)) bc) (R (aW (aB (-1))) bc)) (bC P aA N fun bq=>aQ (decide ((C:Int)>(bq:Int))) (R (aW (aB (-1))) w) (aF P aK bA (aH (⟨0,0,none⟩)) w fun(br:Int)=>aQ (decide ((C:Int)≤br)) (bC P aA N fun t51=>aQ (decide ((t51:Int)≤64)) (qbX P rW bA #[N,r] w fun(t55:Int) cd=>R (aW (aB t55)) cd) (aX P aA r (aB 0) fun bt=>aF P bK (dQ .u8) (aH bt) w fun(az:Int)=>aX P aA r (aB 1) fun bu=>aF P bK (dQ .u8) (aH bu) w fun(bv:Int)=>bC P aA N fun ba=>∃(I:Int→Int→World→Prop) (μ:Int→Int→World→Nat),I 0 0 w∧∀(_:bV) (i8:Int) (u:Int) (U:World),I i8 u U→aQ (decide (i8<(i64 ((i64 ((ba:Int)-(C:Int)))+1)))) (∃J0:Int→World→Prop,(aX P aA N (aB i8) fun bw=>aF P bK (dQ .u8) (aH bw) U fun(bx:Int)=>aQ (bx !=az) (cH P aA N (some (aB (i64 (i8+1)))) (some (aB (i64 ((i64 ((ba:Int)-(C:Int)))+1)))) none fun bz=>aE P uN bA #[bz,.int .u8 az] U fun(bb:Int) bd=>aQ (decide (bb<0)) (R (aW (aB (-1))) bd) (J0 (i64 (i8+(i64 (bb+1)))) bd)) (J0 i8 U))∧∀(_:bV) (A:Int) (X:World),J0 A X→∃J1:World→Prop,(aX P aA N (aB (i64 (A+1))) fun ca=>aF P bK (dQ .u8) (aH ca) X fun(cb:Int)=>aQ (cb==bv) (cH P aA N (some (aB A)) (some (aB (i64 (A+(C:Int))))) none fun ai=>aE P gU kG #[ai,r] X fun(aj:Bool) be=>aQ aj (R (aW (aB A)) be) (J1 be)) (J1 X))∧∀(_:bV) (bf:World),J1 bf→aE P pW bA #[aB (i64 (A+1))] bf fun(ak:Int) ah=>aQ (decide ((i64 (u+1))>ak)) (cH P aA N (some (aB (i64 (A+1)))) none none fun al=>qbX P rW bA #[al,r] ah fun(Y:Int) ac=>aQ (decide (Y≥0)) (R (aW (aB (i64 (Y+(i64 (A+1)))))) ac) (R (aW (aB (-1))) ac)) (I (i64 (A+1)) (i64 (u+1)) ah∧μ (i64 (A+1)) (i64 (u+1)) ah<μ i8 u U)) (R (aW (aB (-1))) U))) (aX P aA r (aB 0) fun am=>aF P bK (dQ .u8) (aH am) w fun(Z:Int)=>aX P aA r (aB 1) fun an=>aF P bK (dQ .u8) (aH an) w fun(ao:Int)=>bC P aA N fun V=>∃(I:Int→Int→World→Prop) (μ:Int→Int→World→Nat),I 0 0 w∧∀(_:bV) (O:Int) (q:Int) (J:World),I O q J→aQ (decide (O<(i64 ((i64 ((V:Int)-(C:Int)))+1)))) (∃J2:Int→World→Prop,(aX P aA N (aB O) fun ap=>aF P bK (dQ .u8) (aH ap) J fun(aq:Int)=>aQ (aq !=Z) (cH P aA N (some (aB (i64 (O+1)))) (some (aB (i64 ((i64 ((V:Int)-(C:Int)))+1)))) none fun ar=>aE P uN bA #[ar,.int .u8 Z] J fun(aa:Int) ae=>aQ (decide (aa<0)) (R (aW (aB (-1))) ae) (J2 (i64 (O+(i64 (aa+1)))) ae)) (J2 O J))∧∀(_:bV) (j:Int) (T:World),J2 j T→∃J3:World→Prop,(aX P aA N (aB (i64 (j+1))) fun au=>aF P bK (dQ .u8) (aH au) T fun(av:Int)=>aQ (av==ao) (cH P aA N (some (aB j)) (some (aB (i64 (j+(C:Int))))) none fun aw=>aE P gU kG #[aw,r] T fun(ax:Bool) af=>aQ ax (R (aW (aB j)) af) (J3 af)) (J3 T))∧∀(_:bV) (M:World),J3 M→aQ (decide ((i64 (q+1))≥(i64 (4+(cV .i64 (i64 (j+1)) 4))))) (aQ (decide ((i64 (j+1))<(i64 ((i64 ((V:Int)-(C:Int)))+1)))) (cH P aA N (some (aB (i64 (j+1)))) none none fun ay=>aE P pX bA #[ay,r] M fun(ab:Int) ag=>aQ (decide (ab<0)) (R (aW (aB (-1))) ag) (R (aW (aB (i64 ((i64 (j+1))+ab)))) ag)) (I (i64 (j+1)) (i64 (q+1)) M∧μ (i64 (j+1)) (i64 (q+1)) M<μ O q J)) (I (i64 (j+1)) (i64 (q+1)) M∧μ (i64 (j+1)) (i64 (q+1)) M<μ O q J)) (R (aW (aB (-1))) J))))))):
  Calls P yG #[N,r] w R:=
 cX ⟨[(20,[(8,.int .i64),(10,.int .i64)]),(41,[(15,.int .i64),(16,.int .i64)])],[(26,[(8,.int .i64)]),(28,[]),(46,[(15,.int .i64)]),(48,[])]⟩ func217 rfl h
theorem NH{s0:Value}{u:Value}{J:Value}{n3:Int}(h:∃J0:Int→World→Prop,(aQ (n3 !=0) (aE P mE bA #[s0,u] w fun(be:Int) bp=>J0 be bp) (J0 0 w))∧∀(_:bV) (m9:Int) (ab:World),J0 m9 ab→aQ (m9==0) (fV P #[aA,aA] aA #[bR,s0] ab fun t25 bq=>R (aW (t25)) bq) (∃J1:Int→World→Prop,(aQ (!(decide (n3<0))) (aQ (decide (m9<n3)) (J1 m9 ab) (J1 n3 ab)) (J1 m9 ab))∧∀(_:bV) (C:Int) (ax:World),J1 C ax→bC P aA s0 fun ar=>bC P aA J fun au=>bC P aA u fun t40=>mT P aA (aB (i64 ((ar:Int)+(i64 (C*(i64 ((au:Int)-(t40:Int)))))))) (aB (i64 ((ar:Int)+(i64 (C*(i64 ((au:Int)-(t40:Int)))))))) ax fun A ay=>bC P aA u fun t46=>aQ (decide ((t46:Int)>0)) (∃(I:Int→Int→Int→World→Prop) (μ:Int→Int→Int→World→Nat),I 0 0 0 ay∧∀(_:bV) (M:Int) (q:Int) (Z:Int) (ac:World),I M q Z ac→aQ (decide (Z<C)) (cH P aA s0 (some (aB q)) none none fun bf=>aE P yG bA #[bf,u] ac fun(al:Int) az=>∃B:World→Prop,B az.drew∧cH P aA A (some (aB M)) none none fun bg=>cH P aA s0 (some (aB q)) (some (aB (i64 (q+al)))) none fun bh=>AB P #[aA,aA] aK #[bg,bh] az.drew fun(t66:Int) ba=>B ba∧cH P aA A (some (aB (i64 (M+t66)))) none none fun bi=>AB P #[aA,aA] aK #[bi,J] ba fun(av:Int) bb=>bC P aA u fun t77=>I (i64 ((i64 (M+t66))+av)) (i64 ((i64 (q+al))+(t77:Int))) (i64 (Z+1)) bb∧μ (i64 ((i64 (M+t66))+av)) (i64 ((i64 (q+al))+(t77:Int))) (i64 (Z+1)) bb<μ M q Z ac) (∃B1:World→Prop,B1 ac.drew∧cH P aA A (some (aB M)) none none fun U=>cH P aA s0 (some (aB q)) none none fun V=>AB P #[aA,aA] aK #[U,V] ac.drew fun(X:Int) ag=>B1 ag∧cH P aA A (some (aB 0)) (some (aB (i64 (M+X)))) none fun Y=>R (aW (Y)) ag)) (cH P aA A (some (aB 0)) none none fun bj=>AB P #[aA,aA] aK #[bj,J] ay fun(bl:Int) aw=>∃(I:Int→Int→Int→World→Prop) (μ:Int→Int→Int→World→Nat),I (i64 (0+bl)) 0 0 aw∧∀(_:bV) (r:Int) (j:Int) (aa:Int) (N:World),I r j aa N→aQ (decide (aa<(i64 (C-1)))) (cH P aA s0 (some (aB j)) none none fun bm=>aE P I9 (.tup [.one (.int .i32),.one (.int .i64)]) #[bm] N fun(bn:Int) (O:Int) ah=>∃B2:World→Prop,B2 ah.drew∧cH P aA A (some (aB r)) none none fun ao=>cH P aA s0 (some (aB j)) (some (aB (i64 (j+O)))) none fun ap=>AB P #[aA,aA] aK #[ao,ap] ah.drew fun(T:Int) ai=>B2 ai∧cH P aA A (some (aB (i64 (r+T)))) none none fun aq=>AB P #[aA,aA] aK #[aq,J] ai fun(af:Int) aj=>I (i64 ((i64 (r+T))+af)) (i64 (j+O)) (i64 (aa+1)) aj∧μ (i64 ((i64 (r+T))+af)) (i64 (j+O)) (i64 (aa+1)) aj<μ r j aa N) (∃B3:World→Prop,B3 N.drew∧cH P aA A (some (aB r)) none none fun U=>cH P aA s0 (some (aB j)) none none fun V=>AB P #[aA,aA] aK #[U,V] N.drew fun(X:Int) ak=>B3 ak∧cH P aA A (some (aB 0)) (some (aB (i64 (r+X)))) none fun Y=>R (aW (Y)) ak)))):
  Calls P zS #[s0,u,J,aB n3] w R:=
 cX ⟨[(13,[(11,.int .i64),(12,.int .i64),(49,.int .i64)]),(21,[(11,.int .i64),(12,.int .i64),(89,.int .i64)])],[(4,[(9,.int .i64)]),(8,[(3,.int .i64)])]⟩ func218 rfl h
theorem J9{r:Value}{v1:Int}(h:bC P aA r fun C=>∃(I:Int→World→Prop) (μ:Int→World→Nat),I 0 w∧∀(_:bV) (q:Int) (j:World),I q j→aQ (decide (q<(C:Int))) (aX P aA r (aB q) fun u=>aF P bK (dQ .u8) (aH u) j fun(A:Int)=>aQ (v1==A) (R (aW (aB q)) j) (I (i64 (q+1)) j∧μ (i64 (q+1)) j<μ q j)) (R (aW (aB (-1))) j)):
  Calls P mH #[r,.int .u8 v1] w R:=
 cX ⟨[(2,[(8,.int .i64)])],[]⟩ func219 rfl h
theorem tQ{r:ByteArray}{q:Int}(h:qbX P sV bA #[.string r,.int .u8 q] w fun(u:Int) j=>R (aW (aB u)) j):
  Calls P iF #[.string r,.int .u8 q] w R:=
 dI func220 rfl h
theorem rI{j:Value}{a1:Int}{U:Int}{Z:Int}{O:Value}(h:∃(I:Int→World→Prop) (μ:Int→World→Nat),I 0 w∧∀(_:bV) (q:Int) (r:World),I q r→aQ (decide (q<Z)) (∃B C:World→Prop,(B r.drew∧C r.drew)∧aX P aJ j (aB (i64 (U+q))) fun V=>aI P aR (.part (.agg [.str,.val])) (aH V) C fun(u:ByteArray) A=>aX P aJ j (aB (i64 (a1+q))) fun X=>aI P aR (.part (.agg [.str,.val])) (aH X) C fun(J:ByteArray) M=>aX P aJ j (aB (i64 (a1+q))) fun Y=>aL P aR (aH Y) (.agg #[.string u,A]) r.drew fun T=>B T∧aX P aJ j (aB (i64 (U+q))) fun t37=>aL P aR (aH t37) (.agg #[.string J,M]) T fun N=>B N∧I (i64 (q+1)) N∧μ (i64 (q+1)) N<μ q r) (R (bP #[]) r)):
  Calls P eH #[j,aB a1,aB U,aB Z,O] w R:=
 cX ⟨[(1,[(10,.int .i64)])],[]⟩ func227 rfl h
theorem P6{j:Int}(h:R (aW (.bool (j==35))) w):
  Calls P mW #[.int .u8 j] w R:=
 dI func228 rfl h
theorem S2{q:Option Addr}(h:aS q fun t5=>aF P aK bA (aH (t5.add 1)) w fun(O:Int)=>∃(I:Int→World→Prop) (μ:Int→World→Nat),I O w∧∀(_:bV) (i3:Int) (j:World),I i3 j→aS q fun r=>aF P aA dM (aH (r.add 0)) j fun u=>bC P aA u fun A=>aQ (decide (i3<(A:Int))) (aS q fun C=>aF P aA dM (aH (C.add 0)) j fun J=>aX P aA J (aB i3) fun t22=>aF P bK (dQ .u8) (aH t22) j fun(t23:Int)=>aQ (t23==10) (aS q fun M=>aL P aK (aH (M.add 1)) (aB (i64 (i3+1))) j fun N=>R (aW (.bool true)) N) (I (i64 (i3+1)) j∧μ (i64 (i3+1)) j<μ i3 j)) (R (aW (.bool false)) j)):
  Calls P nR #[.pointer q] w R:=
 cX ⟨[(2,[(3,.int .i64)])],[]⟩ func229 rfl h
theorem J7{j:Int}(h:aQ (decide (j≥48)) (R (aW (.bool (decide (j≤57)))) w) (R (aW (.bool false)) w)):
  Calls P mF #[.int .u8 j] w R:=
 dI func230 rfl h
theorem HT{t0:Option Addr}(h:AX P .eql cW (.pointer t0) (.pointer none) fun(t4:Bool)=>aQ t4 (R (aW (aB 0)) w) (aS t0 fun q=>aF P kQ dM (.pointer (some (Addr.add (q.add 0) 0))) w fun t9=>bC P kQ t9 fun j=>R (aW (aB (j:Int))) w)):
  Calls P pC #[.pointer t0] w R:=
 dI func231 rfl h
theorem RM{p0:Int}(h:R (aW (aB (if(i64 (cV .u16 p0 4))>1 then(i64 (cV .u16 p0 4))else 1))) w):
  Calls P BZ #[.int .u16 p0] w R:=
 dI func232 rfl h
theorem CL{u:Option Addr}{A:Int}(h:aS u fun C=>aF P kQ dM (aH (C.add 0)) w fun t9=>bC P kQ t9 fun j=>kY P .rem aK bA (aB A) (aB (j:Int)) fun(q:Int)=>kY P .rem aK bA (aB (i64 (q+(j:Int)))) (aB (j:Int)) fun(r:Int)=>R (aW (aB r)) w):
  Calls P mO #[.pointer u,aB A] w R:=
 dI func233 rfl h
theorem HV{A:Option Addr}{j:Int}(h:aS A fun C=>aF P gH dM (aH (C.add 7)) w fun t9=>bC P gH t9 fun q=>kY P .rem aK bA (aB j) (aB (q:Int)) fun(r:Int)=>kY P .rem aK bA (aB (i64 (r+(q:Int)))) (aB (q:Int)) fun(u:Int)=>R (aW (aB u)) w):
  Calls P uV #[.pointer A,aB j] w R:=
 dI func234 rfl h
theorem WZ{i0:Int}{j:Int}(h:kY P .rem aK bA (aB i0) (aB j) fun(r:Int)=>kY P .rem aK bA (aB (i64 (r+j))) (aB j) fun(q:Int)=>R (aW (aB q)) w):
  Calls P O9 #[aB i0,aB j] w R:=
 dI func235 rfl h
theorem p9{p0:Int}{q:Int}{j:Int}(h:aQ (q !=0) (kY P .shr DG (dQ .u16) (.int .u16 (u16 (65535-p0))) (aB (if(if 15<j then 15 else j)>1 then(if 15<j then 15 else j)else 1)) fun(r:Int)=>R (aW (.int .u16 (u16 (p0+r)))) w) (kY P .shr DG (dQ .u16) (.int .u16 p0) (aB (if(if 15<j then 15 else j)>1 then(if 15<j then 15 else j)else 1)) fun(u:Int)=>R (aW (.int .u16 (u16 (p0-u)))) w)):
  Calls P X1 #[.int .u16 p0,aB q,aB j] w R:=
 dI func236 rfl h
theorem p8{l0:Value}(h:aE P uS (dQ .u64) #[l0] w fun(O:Int) M=>∃(I:Int→Int→Int→World→Prop) (μ:Int→Int→Int→World→Nat),I 0 O 1 M∧∀(_:bV) (q:Int) (j:Int) (r:Int) (u:World),I q j r u→aQ (decide (r≤3)) (aE P qQ dM #[l0,aB r] u fun J N=>aE P uS (dQ .u64) #[J] N fun(C:Int) A=>aQ (decide (C<j)) (I r C (i64 (r+1)) A∧μ r C (i64 (r+1)) A<μ q j r u) (I q j (i64 (r+1)) A∧μ q j (i64 (r+1)) A<μ q j r u)) (R (aW (aB q)) u)):
  Calls P X0 #[l0] w R:=
 cX ⟨[(3,[(3,.int .i64),(4,.int .u64),(5,.int .i64)])],[]⟩ func237 rfl h
theorem D1{q:Int}{r:Value}(h:kA P pF (.agg #[aB q]) w fun p2 j=>aF P aK bA (aH (p2.add 0)) j fun(J:Int)=>aQ (J==4) (aE P F9 dM #[r] j fun t9 C=>R (aW (t9)) C) (aF P aK bA (aH (p2.add 0)) j fun(u:Int)=>aE P qQ dM #[r,aB u] j fun A I=>R (aW (A)) I)):
  Calls P iE #[.agg #[aB q],r] w R:=
 dI func238 rfl h
theorem KI{r0:Option Addr}(h:AX P .eql kV (.pointer r0) (.pointer none) fun(t4:Bool)=>aQ t4 (R (aW (.pointer none)) w) (aS r0 fun j=>aF P fL jN (aH (j.add 0)) w fun(q:Option Addr)=>R (aW (.pointer q)) w)):
  Calls P mU #[.pointer r0] w R:=
 dI func239 rfl h
theorem KL{p0:Option Addr}{J:Int}(h:∃r:World→Prop,(aS p0 fun M=>aF P iT bA (aH (M.add 2)) w fun(N:Int)=>aQ (N==0) (aE P uK bA #[.pointer p0] w fun(u:Int) q=>aQ (decide (u<J)) (aS p0 fun A=>aL P iT (aH (A.add 2)) (aB 3) q fun I=>r I) (r q)) (r w))∧∀(_:bV) (j:World),r j→aS p0 fun C=>aF P iT bA (aH (C.add 2)) j fun(t22:Int)=>R (aW (.bool (t22==0))) j):
  Calls P qL #[.pointer p0,aB J] w R:=
 cX ⟨[],[(3,[])]⟩ func240 rfl h
theorem HM{p0:Option Addr}(h:aS p0 fun t5=>aI P aA dM (aH (t5.add 0)) (fun w'=>w'=w.drew) fun N=>aS p0 fun t9=>aI P aK bA (aH (t9.add 1)) (fun w'=>w'=w.drew) fun(j:Int)=>aX P aA N (aB (i64 (Int.tdiv j 8))) fun q=>aI P bK (dQ .u8) (aH q) (fun w'=>w'=w.drew) fun(r:Int)=>aS p0 fun u=>aI P aK bA (aH (u.add 1)) (fun w'=>w'=w.drew) fun(A:Int)=>kY P .shr bK (dQ .u8) (.int .u8 r) (aB (i64 (7-(Int.tmod A 8)))) fun(C:Int)=>aS p0 fun t25=>aF P aK bA (aH (t25.add 1)) w.drew fun(I:Int)=>aS p0 fun J=>aL P aK (aH (J.add 1)) (aB (i64 (I+1))) w.drew fun M=>R (aW (aB (i64 (xS .u8 C 1)))) M):
  Calls P oY #[.pointer p0] w R:=
 dI func241 rfl h
theorem CG{r0:Option Addr}{j:Int}(h:∃J0:World→Prop,(aE P mU jN #[.pointer r0] w fun(t8:Option Addr) q=>AX P .eql fL (.pointer t8) (.pointer none) fun(t9:Bool)=>aQ (!t9) (aS r0 fun J=>aF P fL jN (aH (J.add 0)) q fun(M:Option Addr)=>aS M fun N=>aF P iT bA (aH (N.add 2)) q fun(O:Int)=>aQ (O !=0) (R (aW (aB 0)) q) (J0 q)) (R (aW (aB 0)) q))∧∀(_:bV) (u:World),J0 u→aS r0 fun T=>aF P fL jN (aH (T.add 0)) u fun(t23:Option Addr)=>aS t23 fun U=>aF P aK bA (aH (U.add 1)) u fun(t26:Int)=>∃(I:Int→World→Prop) (μ:Int→World→Nat),I 0 u∧∀(_:bV) (n6:Int) (r:World),I n6 r→aQ (decide (n6≥j)) (R (aW (aB n6)) r) (aS r0 fun V=>aF P fL jN (aH (V.add 0)) r fun(X:Option Addr)=>aE P qL kG #[.pointer X,aB 1] r fun(t37:Bool) A=>aQ (!t37) (aS r0 fun t40=>aF P fL jN (aH (t40.add 0)) A fun(Y:Option Addr)=>aS Y fun Z=>aL P aK (aH (Z.add 1)) (aB t26) A fun ac=>R (aW (aB 0)) ac) (aS r0 fun aa=>aF P fL jN (aH (aa.add 0)) A fun(ab:Option Addr)=>aE P oY bA #[.pointer ab] A fun(t50:Int) C=>aQ (t50==0) (R (aW (aB n6)) C) (I (i64 (n6+1)) C∧μ (i64 (n6+1)) C<μ n6 r)))):
  Calls P qZ #[.pointer r0,aB j] w R:=
 cX ⟨[(6,[(6,.int .i64)])],[(3,[])]⟩ func242 rfl h
theorem r8{j:Int}(h:R (aW (aB (lU .i64 (i64 (cV .u64 j 1)) (i64 (0-(i64 (xS .u64 j 1))))))) w):
  Calls P C9 #[.int .u64 j] w R:=
 dI func243 rfl h
theorem KJ{p0:Option Addr}(h:AX P .eql fL (.pointer p0) (.pointer none) fun(t4:Bool)=>aQ t4 (R (aW (aB 2)) w) (aS p0 fun j=>aF P iT bA (aH (j.add 2)) w fun(q:Int)=>R (aW (aB q)) w)):
  Calls P xU #[.pointer p0] w R:=
 dI func244 rfl h
theorem D3{A:Value}{r:Int}(h:kA P aM A w fun C q=>kA P aK (aB r) q fun u j=>aF P aK bA (aH u) j fun(t5:Int)=>aQ (decide (t5<1)) (QW P dM (do pure (Next.value (←Instr.makeInterface 9 (.string (ByteArray.mk #[99,97,110,110,111,116,32,98,101,32,108,101,115,115,32,116,104,97,110,32,49]))))) j fun J I=>False) (R (aW (.func (.func dZ) #[] #[aH C,aH u])) j)):
  Calls P lE #[A,aB r] w R:=
 dI func245 rfl h
theorem qct{l0:Value}(h:aE P L7 bA #[l0,aB 0] w fun(M:Int) J=>∃(I:Int→Int→Int→World→Prop) (μ:Int→Int→Int→World→Nat),I 0 M 1 J∧∀(_:bV) (j:Int) (q:Int) (r:Int) (u:World),I j q r u→aQ (decide (r≤24)) (aE P L7 bA #[l0,aB r] u fun(C:Int) A=>aQ (decide (C<q)) (I r C (i64 (r+1)) A∧μ r C (i64 (r+1)) A<μ j q r u) (I j q (i64 (r+1)) A∧μ j q (i64 (r+1)) A<μ j q r u)) (R (aW (aB j)) u)):
  Calls P CB #[l0] w R:=
 cX ⟨[(3,[(3,.int .i64),(4,.int .i64),(5,.int .i64)])],[]⟩ func246 rfl h
theorem EW{w0:Option Addr}{v1:Int}{r:Int}(h:∃(I:Int→World→Prop) (μ:Int→World→Nat),I (i64 ((if(if 32<r then 32 else r)>0 then(if 32<r then 32 else r)else 0)-1)) w∧∀(_:bV) (q:Int) (j:World),I q j→aQ (decide (q≥0)) (kY P .shr eC (dQ .u32) (.int .u32 v1) (aB q) fun(A:Int)=>aE P jU jO #[.pointer w0,aB (i64 (xS .u32 A 1))] j fun u=>I (i64 (q-1)) u∧μ (i64 (q-1)) u<μ q j) (R (bP #[]) j)):
  Calls P lC #[.pointer w0,.int .u32 v1,aB r] w R:=
 cX ⟨[(1,[(6,.int .i64)])],[]⟩ func247 rfl h
theorem IA{p0:Option Addr}{v1:Int}{k2:Int}(h:aE P X4 (dQ .u64) #[aB (i64 v1)] w fun(r:Int) A=>kY P .shr eC (dQ .u32) (.int .u32 (vX r)) (aB k2) fun(u:Int)=>aQ (decide (u<24)) (aS p0 fun J=>aE P rB jO #[aH (J.add 0),aB (i64 u)] A fun O=>aS p0 fun M=>aE P lC jO #[aH (M.add 0),.int .u32 (vX r),aB k2] O fun T=>R (bP #[]) T) (∃(I:Int→World→Prop) (μ:Int→World→Nat),I 0 A∧∀(_:bV) (j:Int) (q:World),I j q→aQ (decide (j<24)) (aS p0 fun N=>aE P jU jO #[aH (N.add 0),aB 1] q fun C=>I (i64 (j+1)) C∧μ (i64 (j+1)) C<μ j q) (aS p0 fun t37=>aE P lC jO #[aH (t37.add 0),.int .u32 (vX r),aB 32] q fun U=>R (bP #[]) U))):
  Calls P vA #[.pointer p0,.int .i32 v1,aB k2] w R:=
 cX ⟨[(6,[(29,.int .i64)])],[]⟩ func248 rfl h
theorem CH{w0:Option Addr}(h:AX P .eql T3 (.pointer w0) (.pointer none) fun(t4:Bool)=>aQ t4 (R (aW (bR)) w) (aS w0 fun q=>aF P aA dM (aH (q.add 0)) w fun r=>fV P #[aA,aA] aA #[bR,r] w fun t9 j=>R (aW (t9)) j)):
  Calls P rA #[.pointer w0] w R:=
 dI func249 rfl h
theorem qhr(h:kA P qc0 (.agg #[aB 0,aB 0,aB 0,aB 0,aB 0,aB 0,aB 0,aB 0,.int .i32 0,.int .i32 0,.int .i32 0,.int .i32 0,.int .i32 0,.int .i32 0,.int .i32 0,.int .i32 0]) w fun t2 j=>R (aW (aH t2)) j):
  Calls P EC #[] w R:=
 dI func250 rfl h
theorem FI{V:Option Addr}(h:AX P .eql AF (.pointer V) (.pointer none) fun(Z:Bool)=>aQ Z (R (aW (.int .i32 0)) w) (aS V fun t9=>aF P tL (.part (.agg [.int .i64,.int .i64,.int .i64,.int .i64,.int .i64,.int .i64,.int .i64,.int .i64])) (.pointer (some (Addr.add (t9.add 0) 0))) w fun(u:Int) (A:Int) (C:Int) (J:Int) (M:Int) (N:Int) (O:Int) (T:Int)=>∃(I:Int→Int→World→Prop) (μ:Int→Int→World→Nat),I 0 0 w∧∀(_:bV) (j:Int) (q:Int) (r:World),I j q r→aQ (decide (q<8)) (xQ P tL bA (.agg #[aB u,aB A,aB C,aB J,aB M,aB N,aB O,aB T]) (aB q) fun(U:Int)=>aS V fun X=>aX P tK (.pointer (some (Addr.add (X.add 0) 8))) (aB q) fun Y=>aF P cT (dQ .i32) (aH Y) r fun(t25:Int)=>I (i64 (j+(i64 (U*(i64 t25))))) (i64 (q+1)) r∧μ (i64 (j+(i64 (U*(i64 t25))))) (i64 (q+1)) r<μ j q r) (R (aW (.int .i32 (lT (cV .i64 j 8)))) r))):
  Calls P lD #[.pointer V] w R:=
 cX ⟨[(5,[(3,.int .i64),(13,.int .i64)])],[]⟩ func251 rfl h
theorem FJ{r:Option Addr}{v1:Int}(h:AX P .eql AF (.pointer r) (.pointer none) fun(t8:Bool)=>aQ t8 (R (bP #[]) w) (aE P lD (dQ .i32) #[.pointer r] w fun(ai:Int) ao=>aE P G0 bA #[.int .i32 (lT (v1-ai))] ao fun(ab:Int) af=>aS r fun aj=>aF P tK (.part (.agg [.int .i32,.int .i32,.int .i32,.int .i32,.int .i32,.int .i32,.int .i32,.int .i32])) (.pointer (some (Addr.add (aj.add 0) 8))) af fun(A:Int) (C:Int) (J:Int) (M:Int) (N:Int) (O:Int) (T:Int) (U:Int)=>∃(I:Int→World→Prop) (μ:Int→World→Nat),I 0 af∧∀(_:bV) (j:Int) (q:World),I j q→aQ (decide (j<8)) (xQ P tK (dQ .i32) (.agg #[.int .i32 A,.int .i32 C,.int .i32 J,.int .i32 M,.int .i32 N,.int .i32 O,.int .i32 T,.int .i32 U]) (aB j) fun(t22:Int)=>∃B:World→Prop,B q.drew∧aS r fun t25=>aX P tL (.pointer (some (Addr.add (t25.add 0) 0))) (aB j) fun ac=>aS r fun ae=>(aF P LL bA (aH ac) q.drew fun(V:Int)=>B q.drew∧aE P G0 bA #[.int .i32 t22] q.drew fun(X:Int) ag=>B ag∧aX P tL (.pointer (some (Addr.add (ae.add 0) 0))) (aB j) fun Y=>aL P LL (aH Y) (aB (i64 (V+(i64 (ab*X))))) ag fun Z=>B Z∧I (i64 (j+1)) Z∧μ (i64 (j+1)) Z<μ j q)∧(aE P G0 bA #[.int .i32 t22] q.drew fun(X:Int) u=>B u∧aF P LL bA (aH ac) u fun(V:Int)=>B u∧aX P tL (.pointer (some (Addr.add (ae.add 0) 0))) (aB j) fun Y=>aL P LL (aH Y) (aB (i64 (V+(i64 (ab*X))))) u fun aa=>B aa∧I (i64 (j+1)) aa∧μ (i64 (j+1)) aa<μ j q)) (∃B1:World→Prop,B1 q.drew∧aS r fun ak=>cH P tK (.pointer (some (Addr.add (ak.add 0) 8))) (some (aB 1)) none none fun al=>aS r fun t46=>cH P tK (.pointer (some (Addr.add (t46.add 0) 8))) none none none fun am=>AB P #[aM,aM] aK #[al,am] q.drew fun(t50:Int) ah=>B1 ah∧aS r fun t53=>aX P tK (.pointer (some (Addr.add (t53.add 0) 8))) (aB 0) fun an=>aL P cT (aH an) (.int .i32 v1) ah fun ap=>R (bP #[]) ap))):
  Calls P nP #[.pointer r,.int .i32 v1] w R:=
 cX ⟨[(3,[(19,.int .i64)])],[]⟩ func252 rfl h
end
section
open Go Go.Proofs.Tryz
variable {w:World} {R:Ending→World→Prop}
set_option maxRecDepth 100000
theorem WP{l0:Value}{Y:Int}{j:Int}(h:kA P aM l0 w fun r M=>kA P aK (aB Y) M fun i4 q=>aQ (j==1) (iB P (.func (.func iS) #[] #[aH i4,aH r]) (dQ .i32) #[aB 1] q fun(u:Int) N=>R (aW (.int .i32 u)) N) (aQ (j==2) (iB P (.func (.func iS) #[] #[aH i4,aH r]) (dQ .i32) #[aB 1] q fun(A:Int) O=>iB P (.func (.func iS) #[] #[aH i4,aH r]) (dQ .i32) #[aB 2] O fun(C:Int) T=>R (aW (.int .i32 (lT ((lT (2*A))-C)))) T) (aQ (j==3) (iB P (.func (.func iS) #[] #[aH i4,aH r]) (dQ .i32) #[aB 1] q fun(t25:Int) U=>iB P (.func (.func iS) #[] #[aH i4,aH r]) (dQ .i32) #[aB 2] U fun(I:Int) V=>iB P (.func (.func iS) #[] #[aH i4,aH r]) (dQ .i32) #[aB 3] V fun(J:Int) X=>R (aW (.int .i32 (lT ((lT ((lT (3*t25))-(lT (3*I))))+J)))) X) (R (aW (.int .i32 0)) q)))):
  Calls P yI #[l0,aB Y,aB j] w R:=
 dI func253 rfl h
theorem WQ{j:Int}(h:R (aW (aB (if(if 3<j then 3 else j)>0 then(if 3<j then 3 else j)else 0))) w):
  Calls P yJ #[aB j] w R:=
 dI func254 rfl h
theorem NM{l0:Value}(h:bC P aA l0 fun C=>∃(I:Int→Int→World→Prop) (μ:Int→Int→World→Nat),I 0 0 w∧∀(_:bV) (u:Int) (r:Int) (q:World),I u r q→aQ (decide (r<(C:Int))) (aX P aA l0 (aB r) fun A=>aF P bK (dQ .u8) (aH A) q fun(j:Int)=>I (i64 (u+(if(i64 (256-(i64 j)))<(i64 j)then(i64 (256-(i64 j)))else(i64 j)))) (i64 (r+1)) q∧μ (i64 (u+(if(i64 (256-(i64 j)))<(i64 j)then(i64 (256-(i64 j)))else(i64 j)))) (i64 (r+1)) q<μ u r q) (R (aW (aB u)) q)):
  Calls P oE #[l0] w R:=
 cX ⟨[(3,[(3,.int .i64),(8,.int .i64)])],[]⟩ func255 rfl h
theorem J6{j:Option Addr}{C:Int}(h:∃B:World→Prop,B w.drew∧aS j fun Z=>aI P aA dM (aH (Z.add 3)) B fun t8=>aS j fun I=>aI P aK bA (aH (I.add 5)) B fun(J:Int)=>aS j fun N=>aI P aA dM (aH (N.add 4)) B fun O=>aS j fun t23=>aI P aA dM (aH (t23.add 4)) B fun t25=>aS j fun U=>aI P aK bA (aH (U.add 5)) B fun(V:Int)=>aE P yY bA #[t8,aB (i64 (C-J))] w.drew fun(M:Int) q=>B q∧aE P yY bA #[O,aB C] q fun(T:Int) r=>B r∧aE P yY bA #[t25,aB (i64 (C-V))] r fun(X:Int) u=>B u∧aS j fun Y=>aL P SJ (aH (Y.add 0)) (.agg #[aB M,aB T,aB X]) u fun A=>B A∧R (bP #[]) A):
  Calls P gV #[.pointer j,aB C] w R:=
 dI func256 rfl h
theorem Y0{a0:Option Addr}{j:Int}(h:aQ (j==1) (aS a0 fun t9=>aF P aK bA (aH (t9.add 0)) w fun(q:Int)=>R (aW (.int .u8 (u8 q))) w) (aQ (j==2) (aS a0 fun r=>aF P aK bA (aH (r.add 1)) w fun(u:Int)=>R (aW (.int .u8 (u8 u))) w) (aQ (j==3) (aE P oR bA #[.pointer a0] w fun(t23:Int) M=>R (aW (.int .u8 (u8 t23))) M) (aQ (j==4) (aS a0 fun A=>aI P aK bA (aH (A.add 0)) (fun w'=>w'=w.drew) fun(C:Int)=>aS a0 fun I=>aI P aK bA (aH (I.add 1)) (fun w'=>w'=w.drew) fun(J:Int)=>R (aW (.int .u8 (u8 (i64 (Int.tdiv (i64 (C+J)) 2))))) w.drew) (R (aW (.int .u8 0)) w))))):
  Calls P jA #[.pointer a0,aB j] w R:=
 dI func257 rfl h
theorem P7{j:Value}(h:aE P iH dM #[bR,j] w fun t4 q=>R (aW (t4)) q):
  Calls P tH #[j] w R:=
 dI func258 rfl h
theorem NK{j:Int}(h:R (aW (.bool (j !=j))) w):
  Calls P sL #[aB j] w R:=
 dI func261 rfl h
theorem FC{j:ByteArray}(h:R (aW (.bool (!(j.toList==j.toList)))) w):
  Calls P nL #[.string j] w R:=
 dI func262 rfl h
theorem RL{l0:Value}(h:bC P aM l0 fun A=>∃(I:Int→Int→World→Prop) (μ:Int→Int→World→Nat),I 0 0 w∧∀(_:bV) (r:Int) (t9:Int) (q:World),I r t9 q→aQ (decide (t9<(A:Int))) (aX P aM l0 (aB t9) fun u=>aF P cT (dQ .i32) (aH u) q fun(j:Int)=>I (gD (r+(gD (if(i64 (0-(i64 j)))>(i64 j)then(i64 (0-(i64 j)))else(i64 j))))) (i64 (t9+1)) q∧μ (gD (r+(gD (if(i64 (0-(i64 j)))>(i64 j)then(i64 (0-(i64 j)))else(i64 j))))) (i64 (t9+1)) q<μ r t9 q) (R (aW (.int .u64 r)) q)):
  Calls P uS #[l0] w R:=
 cX ⟨[(3,[(3,.int .u64),(9,.int .i64)])],[]⟩ func270 rfl h
theorem KP{l0:Value}{q:Int}(h:bC P aM l0 fun t9=>mT P aM (aB (t9:Int)) (aB (t9:Int)) w fun u T=>bC P aM l0 fun C=>∃(I:Int→World→Prop) (μ:Int→World→Nat),I 0 T∧∀(_:bV) (j:Int) (r:World),I j r→aQ (decide (j<(C:Int))) (aX P aM l0 (aB j) fun J=>aF P cT (dQ .i32) (aH J) r fun(M:Int)=>aE P yJ bA #[aB q] r fun(N:Int) U=>aE P yI (dQ .i32) #[l0,aB j,aB N] U fun(t25:Int) V=>aX P aM u (aB j) fun O=>aL P cT (aH O) (.int .i32 (lT (M-t25))) V fun A=>I (i64 (j+1)) A∧μ (i64 (j+1)) A<μ j r) (R (aW (u)) r)):
  Calls P qQ #[l0,aB q] w R:=
 cX ⟨[(3,[(13,.int .i64)])],[]⟩ func271 rfl h
theorem RO{l0:Value}(h:aE P EC jN #[] w fun(V:Option Addr) N=>bC P aM l0 fun t9=>mT P aM (aB (t9:Int)) (aB (t9:Int)) N fun r O=>bC P aM l0 fun C=>∃(I:Int→World→Prop) (μ:Int→World→Nat),I 0 O∧∀(_:bV) (j:Int) (q:World),I j q→aQ (decide (j<(C:Int))) (aX P aM l0 (aB j) fun J=>aF P cT (dQ .i32) (aH J) q fun(u:Int)=>aE P lD (dQ .i32) #[.pointer V] q fun(t22:Int) T=>aX P aM r (aB j) fun M=>aL P cT (aH M) (.int .i32 (lT (u-t22))) T fun U=>aE P nP jO #[.pointer V,.int .i32 u] U fun A=>I (i64 (j+1)) A∧μ (i64 (j+1)) A<μ j q) (R (aW (r)) q)):
  Calls P F9 #[l0] w R:=
 cX ⟨[(4,[(13,.int .i64)])],[]⟩ func272 rfl h
theorem HL{p0:Option Addr}(h:AX P .eql fL (.pointer p0) (.pointer none) fun(t4:Bool)=>aQ t4 (R (aW (aB 0)) w) (aS p0 fun r=>aI P aA dM (aH (r.add 0)) (fun w'=>w'=w.drew) fun u=>bC P aA u fun t9=>aS p0 fun j=>aI P aK bA (aH (j.add 1)) (fun w'=>w'=w.drew) fun(q:Int)=>R (aW (aB (i64 ((i64 (8*(t9:Int)))-q)))) w.drew)):
  Calls P uK #[.pointer p0] w R:=
 dI func273 rfl h
theorem zD{q:Value}{t1:Value}{t2:Value}(h:∃(I:Int→World→Prop) (μ:Int→World→Nat),I 0 w∧∀(_:bV) (i4:Int) (j:World),I i4 j→aF P aM dM t1 j fun U=>bC P aM U fun V=>aQ (decide (i4<(V:Int))) (aI P aK bA t2 (fun w'=>w'=j.drew) fun(r:Int)=>aI P aM dM t1 (fun w'=>w'=j.drew) fun J=>cH P aM J (some (aB i4)) none none fun M=>bC P aM M fun u=>aF P aM dM t1 j.drew fun N=>cH P aM N (some (aB i4)) (some (aB (i64 (i4+(if(u:Int)<r then(u:Int)else r))))) (some (aB (i64 (i4+(if(u:Int)<r then(u:Int)else r))))) fun O=>qgQ P q kG #[O] j.drew fun(T:Bool) A=>aQ (!T) (R (bP #[]) A) (aF P aK bA t2 A fun(C:Int)=>I (i64 (i4+C)) A∧μ (i64 (i4+C)) A<μ i4 j)) (R (bP #[]) j)):
  Calls P dZ #[q,t1,t2] w R:=
 qal qgV (An:=⟨[(1,[(4,.int .i64)])],[]⟩) (fn:=f274) func274 rfl rfl (by kernel_rfl) (Eq.mpr (by kernel_rfl) h)
theorem qcu{l0:Value}{k1:Int}(h:bC P aM l0 fun A=>∃(I:Int→Int→World→Prop) (μ:Int→Int→World→Nat),I 0 0 w∧∀(_:bV) (u:Int) (j:Int) (q:World),I u j q→aQ (decide (j<(A:Int))) (aX P aM l0 (aB j) fun C=>aF P cT (dQ .i32) (aH C) q fun(J:Int)=>aE P X4 (dQ .u64) #[aB (i64 J)] q fun(M:Int) r=>kY P .shr eC (dQ .u32) (.int .u32 (vX M)) (aB (if(if 24<k1 then 24 else k1)>0 then(if 24<k1 then 24 else k1)else 0)) fun(t23:Int)=>aQ (decide (t23<24)) (I (i64 (u+(i64 ((i64 ((i64 t23)+1))+(if(if 24<k1 then 24 else k1)>0 then(if 24<k1 then 24 else k1)else 0))))) (i64 (j+1)) r∧μ (i64 (u+(i64 ((i64 ((i64 t23)+1))+(if(if 24<k1 then 24 else k1)>0 then(if 24<k1 then 24 else k1)else 0))))) (i64 (j+1)) r<μ u j q) (I (i64 (u+56)) (i64 (j+1)) r∧μ (i64 (u+56)) (i64 (j+1)) r<μ u j q)) (R (aW (aB u)) q)):
  Calls P L7 #[l0,aB k1] w R:=
 cX ⟨[(4,[(5,.int .i64),(14,.int .i64)])],[]⟩ func275 rfl h
theorem HK{w0:Option Addr}{v1:Int}(h:AX P .eql T3 (.pointer w0) (.pointer none) fun(t5:Bool)=>aQ t5 (R (bP #[]) w) (∃C:World→Prop,(aS w0 fun t7=>aF P aK bA (aH (t7.add 1)) w fun(t9:Int)=>aQ ((Int.tmod t9 8)==0) (aS w0 fun I=>aF P aA dM (aH (I.add 0)) w fun J=>eG P aA 1 #[(0,.int .u8 0)] w fun M Z=>fV P #[aA,aA] aA #[J,M] Z fun N aa=>aS w0 fun O=>aL P aA (aH (O.add 0)) N aa fun ab=>C ab) (C w))∧∀(_:bV) (j:World),C j→aQ (v1 !=0) (∃B:World→Prop,B j.drew∧aS w0 fun T=>aI P aA dM (aH (T.add 0)) B fun t26=>aS w0 fun U=>aI P aK bA (aH (U.add 1)) B fun(A:Int)=>aX P aA t26 (aB (i64 (Int.tdiv A 8))) fun V=>aS w0 fun X=>aI P aK bA (aH (X.add 1)) B fun(t37:Int)=>kY P .shr bK (dQ .u8) (.int .u8 128) (aB (Int.tmod t37 8)) fun(t39:Int)=>aF P bK (dQ .u8) (aH V) j.drew fun(t33:Int)=>B j.drew∧aX P aA t26 (aB (i64 (Int.tdiv A 8))) fun Y=>aL P bK (aH Y) (.int .u8 (L3 .u8 t33 t39)) j.drew fun u=>B u∧aS w0 fun q=>aF P aK bA (aH (q.add 1)) u fun(t45:Int)=>aS w0 fun r=>aL P aK (aH (r.add 1)) (aB (i64 (t45+1))) u fun ac=>R (bP #[]) ac) (aS w0 fun q=>aF P aK bA (aH (q.add 1)) j fun(t45:Int)=>aS w0 fun r=>aL P aK (aH (r.add 1)) (aB (i64 (t45+1))) j fun ae=>R (bP #[]) ae))):
  Calls P jU #[.pointer w0,aB v1] w R:=
 cX ⟨[],[(3,[])]⟩ func276 rfl h
theorem qeN{v0:Int}(h:R (aW (.int .u64 (lU .u64 (qY .u64 (gD v0) 1) (gD (cV .i64 v0 63))))) w):
  Calls P X4 #[aB v0] w R:=
 dI func277 rfl h
theorem CI{w0:Option Addr}{q:Int}(h:∃(I:Int→World→Prop) (μ:Int→World→Nat),I 0 w∧∀(_:bV) (r:Int) (j:World),I r j→aQ (decide (r<(if 0>(if 4096<q then 4096 else q)then 0 else(if 4096<q then 4096 else q)))) (aE P jU jO #[.pointer w0,aB 1] j fun u=>I (i64 (r+1)) u∧μ (i64 (r+1)) u<μ r j) (aE P jU jO #[.pointer w0,aB 0] j fun A=>R (bP #[]) A)):
  Calls P rB #[.pointer w0,aB q] w R:=
 cX ⟨[(1,[(7,.int .i64)])],[]⟩ func278 rfl h
theorem qeM{v0:Int}(h:aQ (decide (v0>0)) (R (aW (aB 1)) w) (aQ (decide (v0<0)) (R (aW (aB (-1))) w) (R (aW (aB 0)) w))):
  Calls P G0 #[.int .i32 v0] w R:=
 dI func279 rfl h
theorem NO{k0:Int}{t1:Value}{t2:Value}(h:aF P aK bA t1 w fun(t5:Int)=>aQ (decide (t5<k0)) (R (aW (.int .i32 0)) w) (aF P aM dM t2 w fun r=>aF P aK bA t1 w fun(t9:Int)=>aX P aM r (aB (i64 (t9-k0))) fun j=>aF P cT (dQ .i32) (aH j) w fun(q:Int)=>R (aW (.int .i32 q)) w)):
  Calls P iS #[aB k0,t1,t2] w R:=
 dI func280 rfl h
theorem qcp{l0:Value}{j:Int}(h:aQ (!(decide (j<0))) (bC P aA l0 fun q=>aQ (decide (j≥(q:Int))) (R (aW (aB 0)) w) (aX P aA l0 (aB j) fun r=>aF P bK (dQ .u8) (aH r) w fun(u:Int)=>R (aW (aB (i64 u))) w)) (R (aW (aB 0)) w)):
  Calls P yY #[l0,aB j] w R:=
 dI func281 rfl h
theorem Y1{a0:Option Addr}(h:aS a0 fun t8=>aI P aK bA (aH (t8.add 0)) (fun w'=>w'=w.drew) fun(q:Int)=>aS a0 fun U=>aI P aK bA (aH (U.add 1)) (fun w'=>w'=w.drew) fun(r:Int)=>aS a0 fun V=>aI P aK bA (aH (V.add 2)) (fun w'=>w'=w.drew) fun(u:Int)=>∃B:World→Prop,B w.drew.drew∧aS a0 fun t23=>aI P aK bA (aH (t23.add 0)) B fun(t25:Int)=>aS a0 fun X=>aI P aK bA (aH (X.add 1)) B fun(Y:Int)=>aS a0 fun Z=>aI P aK bA (aH (Z.add 2)) B fun(t37:Int)=>aE P uQ bA #[aB (i64 ((i64 (q+r))-u)),aB t25] w.drew.drew fun(t26:Int) O=>B O∧aE P uQ bA #[aB (i64 ((i64 (q+r))-u)),aB Y] O fun(A:Int) T=>B T∧aE P uQ bA #[aB (i64 ((i64 (q+r))-u)),aB t37] T fun(C:Int) j=>B j∧aQ (decide (t26≤A)) (aQ (decide (t26≤C)) (aS a0 fun aa=>aF P aK bA (aH (aa.add 0)) j fun(t51:Int)=>R (aW (aB t51)) j) (aQ (decide (A≤C)) (aS a0 fun I=>aF P aK bA (aH (I.add 1)) j fun(J:Int)=>R (aW (aB J)) j) (aS a0 fun M=>aF P aK bA (aH (M.add 2)) j fun(N:Int)=>R (aW (aB N)) j))) (aQ (decide (A≤C)) (aS a0 fun I=>aF P aK bA (aH (I.add 1)) j fun(J:Int)=>R (aW (aB J)) j) (aS a0 fun M=>aF P aK bA (aH (M.add 2)) j fun(N:Int)=>R (aW (aB N)) j))):
  Calls P oR #[.pointer a0] w R:=
 dI func282 rfl h
theorem tR{U:Value}{j:Value}(h:kA P dU U w fun u J=>GZ P j J (fun v5 r (V:World→Prop)=>aF P dU dM (aH u) r fun X=>eG P dU 1 #[(0,v5)] r fun A M=>fV P #[dU,dU] dU #[X,A] M fun C N=>aL P dU (aH u) C N fun O=>V O) (fun T q=>aF P dU dM (aH u) q fun I=>q.heap[T]?=some (.deferred (some []))∧R (aW (I)) (q.putObj T (.deferred none)))):
  Calls P iH #[U,j] w R:=
 MM qgV (An:=⟨[],[]⟩) (fn:=f283) func283 rfl rfl (by kernel_rfl) (Eq.mpr (by kernel_rfl) h)
theorem p7{a0:Int}{j:Int}(h:R (aW (aB (if(i64 (j-a0))>(i64 (a0-j))then(i64 (j-a0))else(i64 (a0-j))))) w):
  Calls P uQ #[aB a0,aB j] w R:=
 dI func289 rfl h
end
section
open Go Go.Proofs.Tryz
set_option maxRecDepth 100000
end
end Go.Proofs.YtabchipjjghhnaaGreatDoorV
namespace Go.Proofs.YtabchipjjghhnaaGreatDoorV
open Go Go.RowKit
section
noncomputable abbrev eB:TypeId:=dD P aA
theorem IZ{x:Int}(h:0≤x∧x<256):IntKind.u8.min≤x∧x≤IntKind.u8.max:=by simp [IntKind.min,IntKind.max,IntKind.signed,IntKind.bits];omega
theorem qpA{a:Int}(h:IntKind.i32.min≤a∧a≤IntKind.i32.max): -2147483648≤a∧a≤2147483647:=by simp [IntKind.min,IntKind.max,IntKind.signed,IntKind.bits]at h;omega
def JC(w:World)(xs:List Int)(e:Ending)(w':World):Prop:=∃v,e=aW v∧Ev w w'∧ON .u8 eB w' w.heap.size v xs
def yQ(w:World)(r:List Int×Int)(e:Ending)(w':World):Prop:=∃v,e=bP #[v,aB r.2]∧Ev w w'∧ON .u8 eB w' w.heap.size v r.1
section
variable {P:Program} {w:World} {f:FuncId} {args:Array Value}
theorem VJ{p:Option Addr}{K:Option Addr→World→Prop}(h:Calls P f args w fun e w'=>e=aW (.pointer p)∧w'=w)(hk:K p w):aE P f jN args w K:=
 aO h fun _ w' ⟨h1,h2⟩=>⟨p,h1,by subst h2;exact hk⟩
end
end
abbrev W1(w:World)(ad:Addr)(v:Value)(xs:List Int):Prop:=Wr eB w ad v xs
abbrev WS(w w':World)(ad:Addr)(v v':Value)(xs:List Int):Prop:=WrS eB w w' ad v v' xs
theorem qp9{ad:Addr}{v p:Value}{xs:List Int}{yss:List (List Int)}{w:World}(h:W1 w ad v xs)(hp:Stab (Ft ad v) w fun w'=>NL .u8 w' p yss)(hl:xs.length+yss.flatten.length≤10000000000)(hn:yss.length≤10000000000):
  Calls P xX #[aH ad,p] w (fun e w'=>e=bP #[]∧∃v',WS w w' ad v v' (xs++yss.flatten)):=by
 obtain⟨us,A,C⟩:=hp.now
 refine KY (cK A ?_)
 refine⟨fun i w1=>∃j:Nat,i=j∧j≤yss.length∧∃v',WS w w1 ad v v' (xs++(yss.take j).flatten),fun i _=>yss.length-i.toNat,⟨0,rfl,by omega,v,by simpa using h.step⟩,?_⟩
 rintro _ i w1 ⟨j,rfl,hj,v',hW⟩
 refine aG (fun cR=>?_) (fun V=>⟨rfl,v',?_⟩)
 ·obtain⟨us,A,C⟩:=hp w1 hW.2.1
  refine N7 A (by omega) (by omega) fun a u hu hc _=>dV hc (aC (dV (v:=v') ?_ ?_))
  ·have:=hW.1.1.cell (j:=0) rfl;exact this
  have q:j<yss.length:=by omega
  have hx:=C j u yss[j] (by simpa using hu) (by simp [q])
  have I:(yss.take (j+1)).flatten=(yss.take j).flatten++yss[j]:=by rw[iV q,LZ];simp
  have T:(yss.take (j+1)).flatten.length≤yss.flatten.length:=by
   have:yss.flatten=(yss.take (j+1)).flatten++(yss.drop (j+1)).flatten:=by rw[←LZ,MA]
   rw[this,bD];omega
  rw[I,bD]at T
  refine lS hW.1.2.1 hx (by rw[bD];omega) (bW _) fun v2 w2 r hc2 J=>aC ?_
  have U:∀i,¬Ob v' ad.block i:=fun _ hh=>hW.1.2.2 hh
  have N:St w2 ad [v']:=hW.1.1.ch hc2 fun _ _=>U _
  rw[Addr.add_zero']
  refine xR N (by simp) (by obtain⟨a,c,rfl,_⟩:=r.nm.shape;rfl) r.one fun w3 h3 X O=>?_
  rw[aD (n:=(j:Int)+1) (by omega) (by omega)]
  have hv2:v2.ownBlock≠some ad.block:=by
   rcases J with h|h
   ·rw[h];exact hW.1.2.2
   ·intro hh;have:=h _ hh;have:=hW.1.1.lt;omega
  have M:ON .u8 eB w3 0 v2 (xs++(yss.take j).flatten++yss[j]):=r.ch h3 fun g i hg hh=>hv2 (by rw[hg,hh.1])
  refine⟨⟨j+1,by omega,q,v2,hW.trans ⟨⟨by simpa using O,?_,hv2⟩,Ch.trans (hc2.mono fun _ _ _ h=>.inr h) h3 fun n i _ hh=>.inl hh.1,J⟩⟩,by dsimp only;omega⟩
  rw[I,←gY];exact M
 ·have:j=yss.length:=by omega
  subst this
  rw[qU]at hW;exact hW
theorem qii{ad:Addr}{v p:Value}{xs:List Int}{yss:List (List Int)}{w:World}(h:W1 w ad v xs)(hp:Stab (Ft ad v) w fun w'=>NL .u8 w' p yss)(hl:xs.length+yss.flatten.length≤10000000000)(hn:yss.length≤10000000000):
  Calls P cY #[aH ad,p] w (fun e w'=>e=bP #[]∧∃v',WS w w' ad v v' (xs++yss.flatten)):=by
 refine KX (qmG (qS (aC ?_)))
 rw[Addr.add_zero']
 exact cZ (qp9 h hp hl hn) fun w' hw=>⟨rfl,hw⟩
theorem NL.one{k:IntKind}{B:Nat}{e:TypeId}{w:World}{p x:Value}{xs:List Int}(h:w.ownsRow B e 1 p 1 [x])(hx:Nm k w x xs):NL k w p [xs]:=
 ⟨[x],Sl.of_own h,fun i u ys hu j=>by
  cases i with
  |zero=>simp at hu j;subst hu;subst j;exact hx
  |succ i=>simp at hu⟩
theorem T2{ad:Addr}{v x:Value}{xs ys:List Int}{w:World}{K:World→Prop}(h:W1 w ad v xs)(hx:Stab (Ft ad v) w fun w'=>Nm .u8 w' x ys)(hl:xs.length+ys.length≤10000000000)(hk:∀v' w',WS w w' ad v v' (xs++ys)→K w'):
  eG P aY 1 #[(0,x)] w fun(p:Value) w1=>aE P cY jO #[aH ad,p] w1 K:=by
 refine qb1 [x] rfl rfl (by decide) (by simpa using hx.now.one) fun p w1 h1 hp=>cZ (qii (yss:=[ys]) (h.ev h1) ?_ (by simpa using hl) (by simp)) ?_
 ·intro w2 h2
  have q:Nm .u8 w2 x ys:=hx w2 (Ch.trans (h1.mono fun _ _ _ h=>h.elim) h2 fun _ _ _ h=>h)
  have hb:∀g,p.ownBlock=some g→w.heap.size≤g:=fun g hg=>(hp.lt g hg).1
  refine NL.one (B:=0) (e:=dD P aY) ?_ q
  refine⟨rfl,?_⟩
  rcases hp.2 with⟨_,h0⟩|⟨g,cap,j,hv,u,hg,r⟩
  ·cases h0
  ·refine .inr ⟨g,cap,j,hv,bW _,?_,r⟩
   rw[h2.blk g (cR hg) fun i hh=>?_];exact hg
   have:=hb g (by rw[hv];rfl)
   have:=h.lt (k:=g) (i:=i) hh;omega
 ·rintro w2 ⟨v',hW⟩
  exact hk v' w2 (WrS.pre h1 (by simpa using hW))
theorem XU{ad:Addr}{v:Value}{xs:List Int}{x:Int}{w:World}{K:World→Prop}(h:W1 w ad v xs)(hx:0≤x∧x<256)(hl:xs.length+1≤10000000000)(hk:∀v' w',WS w w' ad v v' (xs++[x])→K w'):
  eG P aA 1 #[(0,.int .u8 x)] w fun(y:Value) w1=>eG P aY 1 #[(0,y)] w1 fun(p:Value) w2=>aE P cY jO #[aH ad,p] w2 K:=
 qb2 (k:=.u8) [x] rfl rfl (by decide) (fun y j=>by simp at j;subst j;exact IZ hx) fun y w1 h1 j=>T2 (h.ev h1) (j.nm.stab fun g i hg cR hf=>by
  have:=(j.base hg).1;have:=h.lt (k:=g) (i:=i) hf;omega) (by simpa using hl) fun v' w' hW=>hk v' w' (WrS.pre h1 hW)
def eD(v:Nat):List Int:=if v<128 then [(v:Int)]else((v%128+128:Nat):Int)::eD (v/128)
theorem qcj{v:Nat}(h:v<128):eD v=[(v:Int)]:=by rw[eD,if_pos h]
theorem qi4{v:Nat}(h:¬v<128):eD v=((v%128+128:Nat):Int)::eD (v/128):=by rw[eD,if_neg h]
theorem lY:∀(k v:Nat),v<128^(k+1)→(eD v).length≤k+1
 |0,v,h=>by rw[qcj (by simpa using h)];simp
 |k+1,v,h=>by
  by_cases hv:v<128
  ·rw[qcj hv];simp
  ·rw[qi4 hv]
   have:v/128<128^(k+1):=by rw[Nat.div_lt_iff_lt_mul (by decide)];rwa [Nat.pow_succ]at h
   have:=lY k (v/128) this
   simp;omega
theorem JD{ad:Addr}{v:Value}{xs:List Int}{n:Int}{w:World}(h:W1 w ad v xs)(hn:0≤n∧n<18446744073709551616)(hl:xs.length+10≤10000000000):
  Calls P bY #[aH ad,.int .u64 n] w (fun e w'=>e=bP #[]∧∃v',WS w w' ad v v' (xs++eD n.toNat)):=by
 have A:=lY 9 n.toNat (by rw[show(128:Nat)^(9+1)=1180591620717411303424 by decide];omega)
 refine KW ⟨fun m w1=>∃(q:Nat) (ys:List Int) (v':Value),m=q∧q<18446744073709551616∧eD n.toNat=ys++eD q∧WS w w1 ad v v' (xs++ys),fun m _=>m.toNat,⟨n.toNat,[],v,by omega,by omega,by simp,by simpa using h.step⟩,?_⟩
 rintro _ m w1 ⟨q,ys,v',rfl,hq,j,hW⟩
 refine aG (fun C=>?_) (fun cR=>?_)
 ·have e1:L3 .u8 (u8 (q:Int)) 128=((q%128+128:Nat):Int):=by
   have h1:u8 (q:Int)=((q%256:Nat):Int):=by rw[nF,QM];rfl
   rw[h1]
   have h2:=qb7 (k:=.u8) rfl (a:=q%256) (b:=128) (by rw[ql0];omega) (by decide)
   have h3:∀a:Nat,a<256→a|||128=a%128+128:=by decide +kernel
   rw[show((128:Nat):Int)=128 from rfl]at h2
   rw[h2,h3 _ (by omega)];omega
  rw[e1]
  rw[qi4 (v:=q) (by omega)]at j
  have r:=congrArg List.length j
  simp only[bD,iO]at r
  have e2:cV .u64 (q:Int) 7=((q/128:Nat):Int):=by
   have:=uH (k:=.u64) (a:=(q:Int)) (n:=7) (by decide) (by omega)
   rw[show((7:Nat):Int)=7 from rfl]at this
   rw[this,Int.natCast_ediv]
  rw[e2]
  refine XU hW.1 (by omega) (by rw[List.length_append];omega) fun v2 w2 u=>⟨⟨q/128,ys++[((q%128+128:Nat):Int)],v2,rfl,by omega,?_,?_⟩,by dsimp only;omega⟩
  ·rw[j];simp
  ·rw[←gY];exact hW.trans u
 ·have h1:u8 (q:Int)=q:=LQ (by omega) (by omega)
  rw[h1]
  rw[qcj (v:=q) (by omega)]at j
  have r:=congrArg List.length j
  simp only[bD,iO]at r
  refine XU hW.1 (by omega) (by rw[bD];omega) fun v2 w2 u=>⟨rfl,v2,?_⟩
  rw[j,←gY];exact hW.trans u
theorem SQ{ad:Addr}{v:Value}{xs:List Int}{w:World}(h:W1 w ad v xs)(hl:xs.length≤10000000000):
  Calls P fF #[aH ad] w (fun e w'=>∃y,e=aW y∧Ev w w'∧ON .u8 eB w' w.heap.size y xs):=by
 refine FK (fO (iR (aC ?_)))
 rw[Addr.add_zero',Addr.add_zero']
 refine dV (v:=v) (by have:=h.1.cell (j:=0) rfl;rwa [Addr.add_zero']at this) (lS (ON.nil .u8 eB w w.heap.size) h.2.1.nm (by simp;omega) (cJ _) fun y w' q hc hm=>⟨y,rfl,?_,by simpa using q⟩)
 exact hc.mono fun _ _ _ hh=>by cases hh
def oD(v:Int):Int:=if v≥0 then 2*v else -2*v-1
def qda(u:Int):Int:=if u%2=0 then u/2 else -(u/2)-1
theorem qfO{k:IntKind}{a:Nat}(ha:a<2^k.bits):lU k (a:Int) (-1)=k.wrap ((2^k.bits-1-a:Nat):Int):=by
 unfold lU
 have h1:BitVec.ofInt k.bits (-1)=BitVec.allOnes k.bits:=by cases k<;>decide
 rw[h1,BitVec.xor_allOnes,BitVec.toNat_not,tI,BitVec.toNat_ofNat,zM ha]
theorem xor_zero{k:IntKind}(a:Int)(h:k.wrap a=a)(h0:0≤a)(ha:a<2^k.bits):lU k a 0=a:=by
 obtain⟨a,rfl⟩:=LY h0
 unfold lU
 have h1:BitVec.ofInt k.bits 0=0#k.bits:=rfl
 rw[h1,BitVec.xor_zero,tI,BitVec.toNat_ofNat,zM (by exact_mod_cast ha),h]
theorem qdm{v:Int}{w:World}(h: -9223372036854775808≤v∧v≤9223372036854775807):Calls P X4 #[aB v] w (fun e w'=>e=aW (.int .u64 (oD v))∧w'=w):=by
 refine qeN ⟨?_,rfl⟩
 have e2:cV .i64 v 63=if v≥0 then 0 else -1:=by
  unfold cV
  rw[show min (Int.toNat 63) IntKind.i64.bits=63 from rfl,show(2:Int)^63=9223372036854775808 by decide,Int.fdiv_eq_ediv_of_nonneg _ (by decide)]
  split<;>omega
 have e1:qY .u64 (gD v) 1=(gD v*2)%18446744073709551616:=by
  have:=HC (k:=.u64) (a:=gD v) (n:=1) rfl (by decide) (by rw[dW];omega)
  rw[show((1:Nat):Int)=1 from rfl]at this
  rw[this,GQ];rfl
 rw[e1,e2,dW]
 unfold oD
 split
 ·rename_i h0
  rw[show gD 0=0 by decide,xor_zero _ ?_ (by omega) (by rw[show(2:Int)^IntKind.u64.bits=18446744073709551616 by decide];omega)]
  ·congr 2;omega
  ·show gD _=_;rw[dW];omega
 ·rename_i h0
  have e3:gD (-1)=18446744073709551615:=by decide
  have j:v%18446744073709551616*2%18446744073709551616=((2*v+18446744073709551616).toNat:Int):=by omega
  have q:BitVec.ofInt IntKind.u64.bits 18446744073709551615=BitVec.ofInt IntKind.u64.bits (-1):=by decide
  have r:∀a:Int,lU .u64 a 18446744073709551615=lU .u64 a (-1):=fun a=>by unfold lU;rw[q]
  rw[e3,j,r,qfO (by rw[GQ];omega),GQ]
  congr 2
  show gD _=_;rw[dW];omega
theorem TX{u:Int}{w:World}(h:0≤u∧u<18446744073709551616):Calls P C9 #[.int .u64 u] w (fun e w'=>e=aW (aB (qda u))∧w'=w):=by
 refine r8 ⟨?_,rfl⟩
 have e1:cV .u64 u 1=u/2:=by
  have:=uH (k:=.u64) (a:=u) (n:=1) (by decide) (by omega)
  rw[show((1:Nat):Int)=1 from rfl]at this
  rw[this];rfl
 have e2:xS .u64 u 1=u%2:=by
  have:=E2 (k:=.u64) (a:=u) (m:=1) (n:=1) rfl (by omega) (by rw[show(2:Int)^IntKind.u64.bits=18446744073709551616 by decide];omega) rfl (by decide)
  rw[show((1:Nat):Int)=1 from rfl]at this
  rw[this];rfl
 rw[e1,e2,aD (n:=u/2) (by omega) (by omega),aD (n:=u%2) (by omega) (by omega)]
 unfold qda
 split
 ·rename_i h0
  rw[h0,show i64 (0-0)=0 by decide,xor_zero _ (aD (by omega) (by omega)) (by omega) (by rw[show(2:Int)^IntKind.i64.bits=18446744073709551616 by decide];omega)]
 ·rename_i h0
  rw[show u%2=1 by omega,show i64 (0-1)= -1 by decide]
  have j:u/2=((u/2).toNat:Int):=by omega
  rw[j,qfO (by rw[show(2:Nat)^IntKind.i64.bits=18446744073709551616 by decide];omega),show(2:Nat)^IntKind.i64.bits=18446744073709551616 by decide]
  congr 2
  show i64 _=_;rw[qpB];omega
theorem fH{n:Nat}(h:n<18446744073709551616):(eD n).length≤10:=lY 9 n (by rw[show(128:Nat)^(9+1)=1180591620717411303424 by decide];omega)
theorem qdq{ad:Addr}{v b:Value}{xs ys:List Int}{w:World}(h:W1 w ad v xs)(hb:Stab (Ft ad v) w fun w'=>Nm .u8 w' b ys)(hl:xs.length+ys.length+10≤10000000000):
  Calls P iG #[aH ad,b] w (fun e w'=>e=bP #[]∧∃v',WS w w' ad v v' (xs++eD ys.length++ys)):=by
 refine HZ (aP hb.now ?_)
 rw[show gD (ys.length:Int)=ys.length by rw[dW];omega]
 refine cZ (JD h (by omega) (by omega)) fun w1 ⟨v1,hW⟩=>?_
 have:=fH (n:=ys.length) (by omega)
 rw[dH]at hW
 refine T2 hW.1 (fun w2 h2=>hb w2 (Ch.trans hW.2.1 h2 fun n i hn hf=>?_)) (by rw[bD];omega) fun v2 w2 j=>⟨rfl,v2,hW.trans j⟩
 rcases hf with hf|hf
 ·exact .inl hf
 ·rcases hW.2.2 with hm|hm
  ·exact .inr (hm▸hf)
  ·have:=hm n hf;omega
def clN(n:Int):Nat:=(if 8<n then 8 else n).toNat
theorem qrw(n:Int):clN n≤8:=by unfold clN;split<;>omega
theorem cl1(n:Int):(if 0>(if 8<n then 8 else n)then 0 else(if 8<n then 8 else n))=(clN n:Int):=by unfold clN;split<;>split<;>omega
def UL(v:Int)(k:Nat):Int:=v/((2^(8*k):Nat):Int)%256
def sJ(v:Int):Nat→List Int
 |0=>[]
 |k+1=>sJ v k++[UL v k]
theorem lV(v:Int):∀k,(sJ v k).length=k
 |0=>rfl
 |k+1=>by simp [sJ,lV v k]
theorem qgw(v:Int)(k:Nat):0≤UL v k∧UL v k<256:=by unfold UL;omega
theorem qus{v:Int}{j:Nat}(hv:0≤v)(hj:j≤8):u8 (cV .u64 v (i64 (8*(j:Int))))=UL v j:=by
 rw[show i64 (8*(j:Int))=((8*j:Nat):Int)by rw[aD (by omega) (by omega)];omega,uH (by have:IntKind.u64.bits=64:=rfl;omega) hv,nF];rfl
theorem qga{ad:Addr}{v:Value}{xs:List Int}{z n:Int}{w:World}(h:W1 w ad v xs)(hz:0≤z∧z<18446744073709551616)(hl:xs.length+10≤10000000000):
  Calls P kD #[aH ad,.int .u64 z,aB n] w (fun e w'=>e=bP #[]∧∃v',WS w w' ad v v' (xs++sJ z (clN n))):=by
 refine CR ?_
 rw[cl1]
 have:=qrw n
 refine⟨fun i w1=>∃(j:Nat) (v':Value),i=j∧j≤clN n∧WS w w1 ad v v' (xs++sJ z j),fun i _=>clN n-i.toNat,⟨0,v,rfl,by omega,by simpa [sJ]using h.step⟩,?_⟩
 rintro _ i w1 ⟨j,v',rfl,hj,hW⟩
 refine aG (fun cR=>pL (by rw[aD (by omega) (by omega)];omega) ?_) (fun r=>⟨rfl,v',?_⟩)
 ·rw[qus hz.1 (by omega),aD (n:=(j:Int)+1) (by omega) (by omega)]
  refine XU hW.1 (qgw _ _) (by rw[List.length_append,lV];omega) fun v2 w2 q=>⟨⟨j+1,v2,by omega,by omega,?_⟩,by dsimp only;omega⟩
  rw[sJ,←gY];exact hW.trans q
 ·rw[show clN n=j by omega];exact hW
theorem qrP(a b:Int):0≤L3 .u8 a b∧L3 .u8 a b<256:=by unfold L3;show 0≤u8 _∧u8 _<256;rw[nF];omega
def Rd(w:World)(ad:Addr)(b:Value)(xs:List Int)(a:Nat)(er:Int):Prop:=St w ad [b,aB a,aB er]∧Nm .u8 w b xs∧b.ownBlock≠some ad.block∧a≤xs.length∧xs.length≤10000000000
theorem Rd.ev{w w':World}{ad:Addr}{b:Value}{xs:List Int}{a:Nat}{er:Int}(h:Rd w ad b xs a er)(he:Ev w w'):Rd w' ad b xs a er:=⟨h.1.ev he,h.2.1.ev he,h.2.2⟩
theorem Rd.ch{S:SS}{w w':World}{ad:Addr}{b:Value}{xs:List Int}{a:Nat}{er:Int}(h:Rd w ad b xs a er)(hc:Ch S w w')(hs:∀k i,(k=ad.block∨b.ownBlock=some k)→¬S k i):Rd w' ad b xs a er:=
 ⟨h.1.ch hc fun _ _=>hs _ _ (.inl rfl),h.2.1.ch hc fun g i hg=>hs g i (.inr hg),h.2.2⟩
theorem Rd.drew{w:World}{ad:Addr}{b:Value}{xs:List Int}{a:Nat}{er:Int}(h:Rd w ad b xs a er):Rd w.drew ad b xs a er:=h
def RS(w w':World)(ad:Addr)(b:Value)(xs:List Int)(a:Nat)(er:Int):Prop:=Rd w' ad b xs a er∧Ch (Rg ad 3) w w'
theorem RS.trans{w w1 w2:World}{ad:Addr}{b:Value}{xs:List Int}{a a2:Nat}{er er2:Int}(h:RS w w1 ad b xs a er)(h2:RS w1 w2 ad b xs a2 er2):RS w w2 ad b xs a2 er2:=
 ⟨h2.1,Ch.trans h.2 h2.2 fun _ _ _ h=>h⟩
theorem RS.ev{w w1 w2:World}{ad:Addr}{b:Value}{xs:List Int}{a:Nat}{er:Int}(h:RS w w1 ad b xs a er)(he:Ev w1 w2):RS w w2 ad b xs a er:=
 ⟨h.1.ev he,Ch.trans h.2 he fun _ _ _ h=>h.elim⟩
theorem Rd.step{w:World}{ad:Addr}{b:Value}{xs:List Int}{a:Nat}{er:Int}(h:Rd w ad b xs a er):RS w w ad b xs a er:=⟨h,Ch.refl _ w⟩
theorem Rd.set{w w':World}{ad:Addr}{b:Value}{xs:List Int}{a:Nat}{er:Int}(h:Rd w ad b xs a er){j:Nat}{u:Value}{a2:Nat}{er2:Int}(hj:j<3)(hc:Ch (Rg (ad.add j) 1) w w')
  (hS:St w' ad ([b,aB a,aB er].set j u)) (he:([b,aB a,aB er]:List Value).set j u=[b,aB a2,aB er2]) (ha:a2≤xs.length):RS w w' ad b xs a2 er2:=by
 have hc3:Ch (Rg ad 3) w w':=hc.mono fun n i _ hh=>by
  have h1:=hh.1;have h2:=hh.2
  rw[Addr.add_none h.1.1]at h1 h2
  exact⟨h1,by dsimp only at h2;omega,by dsimp only at h2;omega⟩
 exact⟨⟨he▸hS,h.2.1.ch hc3 fun g i hg hh=>h.2.2.1 (by rw[hg,hh.1]),h.2.2.1,ha,h.2.2.2.2⟩,hc3⟩
def rT(xs:List Int)(a:Nat):Nat→Nat→Int→Int×Int×Int
 |0,_,_=>(0,0,4)
 |f+1,n,v=>
  if xs.length≤a+n then(0,0,3)
  else if n=9∧rd xs ((a+n:Nat):Int)>1 then(0,0,4)
  else if rd xs ((a+n:Nat):Int)<128 then
   (if rd xs ((a+n:Nat):Int)=0∧n>0 then(0,0,4)else(v+rd xs ((a+n:Nat):Int)%128*((2^(7*n):Nat):Int),((a+n+1:Nat):Int),0))
  else rT xs a f (n+1) (v+rd xs ((a+n:Nat):Int)%128*((2^(7*n):Nat):Int))
def tF(xs:List Int)(a:Nat):Int×Int×Int:=rT xs a 10 0 0
def qsN(w:World)(r:Int×Int×Int)(e:Ending)(w':World):Prop:=e=bP #[.int .u64 r.1,aB r.2.1,aB r.2.2]∧Ev w w'
theorem qjg{n:Nat}(h:n≤8):(2^(7*n):Nat)≤72057594037927936:=nJ (GI (by decide) (show 7*n≤56 by omega)) (by decide)
theorem qm2{ad:Addr}{b:Value}{xs:List Int}{a:Nat}{er:Int}{w:World}(h:Rd w ad b xs a er):Calls P uY #[aH ad] w (qsN w (tF xs a)):=by
 have ae:=h.2.2.2.1
 have ai:=h.2.2.2.2
 refine HY ⟨fun w'=>tF xs a=(0,0,4)∧Ev w w',?_,fun _ w' ⟨h1,h2⟩=>⟨by rw[h1],h2⟩⟩
 refine⟨fun v i w1=>∃n:Nat,i=n∧n≤10∧rT xs a (10-n) n v=tF xs a∧0≤v∧(n≤9→v<((2^(7*n):Nat):Int))∧Ev w w1,fun _ i _=>10-i.toNat,⟨0,rfl,by omega,rfl,by omega,(fun _=>by decide),Ch.refl _ w⟩,?_⟩
 rintro _ v i w1 ⟨n,rfl,hn,hL,C,hv1,h1⟩
 have M:Rd w1.drew ad b xs a er:=(h.ev h1).drew
 refine aG (fun cR=>aC (aN (mM ((h.ev h1).1.cell (j:=1) rfl)) (aC (dE (mM ((h.ev h1).1.cell (j:=0) rfl)) (aP h.2.1 (aG (fun r=>?_) (fun O=>?_))))))) (fun r=>?_)
 ·rw[aD (by omega) (by omega)]at r
  rw[show 10-n=(9-n)+1 by omega,rT,if_pos (by omega)]at hL
  exact⟨by rw[←hL],h1.drew⟩
 ·rw[aD (by omega) (by omega)]at O
  refine aC (dE (mM (M.1.cell (j:=0) rfl)) (aC (aN (mM (M.1.cell (j:=1) rfl)) ?_)))
  rw[show i64 ((a:Int)+n)=((a+n:Nat):Int)by rw[aD (by omega) (by omega)];omega]
  refine dL M.2.1 (by omega) (by omega) fun Z c2 _=>aN (mM c2) (JQ (by rw[aD (by omega) (by omega)];omega) ?_)
  have hc:=jB h.2.1.2 ((a+n:Nat):Int)
  generalize N:rd xs ((a+n:Nat):Int)=c at hc
  have eA:xS .u8 c 127=c%128:=by
   have:=E2 (k:=.u8) (a:=c) (m:=7) (n:=127) rfl (by omega) (by rw[show(2:Int)^IntKind.u8.bits=256 by decide];omega) rfl (by decide)
   rw[show((127:Nat):Int)=127 from rfl]at this
   rw[this];rfl
  have eU:gD (c%128)=c%128:=by rw[dW];omega
  have e7:i64 (7*(n:Int))=((7*n:Nat):Int):=by rw[aD (by omega) (by omega)];omega
  rw[eA,eU,e7]
  have A:rT xs a (10-n) n v=if n=9∧c>1 then(0,0,4)else if c<128 then(if c=0∧n>0 then(0,0,4)else(v+c%128*((2^(7*n):Nat):Int),((a+n+1:Nat):Int),0))else rT xs a (10-(n+1)) (n+1) (v+c%128*((2^(7*n):Nat):Int)):=by
   rw[show 10-n=(10-(n+1))+1 by omega,rT,if_neg (by omega),N]
  rw[A]at hL
  have T:¬(n=9∧c>1)→L3 .u64 v (qY .u64 (c%128) ((7*n:Nat):Int))=v+c%128*((2^(7*n):Nat):Int)∧v+c%128*((2^(7*n):Nat):Int)<18446744073709551616:=fun u=>by
   have hb:v+c%128*((2^(7*n):Nat):Int)<18446744073709551616:=by
    by_cases Y:n=9
    ·subst Y
     have:=hv1 (by omega)
     have e:((2^(7*9):Nat):Int)=9223372036854775808:=by decide
     rw[e]at this⊢;omega
    ·have h1:=hv1 (by omega)
     have hq:((2^(7*n):Nat):Int)≤((72057594037927936:Nat):Int):=Int.ofNat_le.2 (qjg (n:=n) (by omega))
     generalize((2^(7*n):Nat):Int)=q at*
     have:c%128*q≤127*q:=Int.mul_le_mul_of_nonneg_right (by omega) (by omega)
     omega
   refine⟨?_,hb⟩
   rw[HC (k:=.u64) rfl (by have:IntKind.u64.bits=64:=rfl;omega) (by omega),GQ,ZE (DN (by omega) (by omega)) (by have:(0:Int)≤v:=C;show _<(18446744073709551616:Int);omega)]
   exact SZ rfl C (hv1 (by omega)) (by omega) (by rw[GQ];exact hb)
  refine⟨fun w'=>¬(n=9∧c>1)∧Ev w w',?_,?_⟩
  ·refine cN (fun X=>aG (fun hg=>⟨?_,h1.drew.drew⟩) (fun hg=>⟨fun hh=>hg hh.2,h1.drew.drew⟩)) (fun X=>⟨fun hh=>X (by rw[hh.1];rfl),h1.drew.drew⟩)
   rw[if_pos ⟨by omega,hg⟩]at hL;exact hL.symm
  ·rintro _ w2 ⟨u,h2⟩
   obtain⟨ho,ah⟩:=T u
   rw[if_neg u]at hL
   rw[ho]
   have I:¬(c=0∧n>0)→c<128→aS (some ad) fun(U:Addr)=>aI P aK bA (aH (U.add 1)) (fun w'=>w'=w2.drew) fun(V:Int)=>qsN w (tF xs a) (bP #[.int .u64 (v+c%128*((2^(7*n):Nat):Int)),aB (i64 ((i64 (V+n))+1)),aB 0]) w2.drew:=fun hz cR=>by
    refine aC (aN (mM ((h.ev h2).1.cell (j:=1) rfl)) ⟨?_,h2.drew⟩)
    rw[if_pos cR,if_neg hz]at hL
    rw[←hL,aD (n:=(a:Int)+n) (by omega) (by omega),aD (by omega) (by omega)];rfl
   refine aG (fun cR=>cN (fun J=>aG (fun hp=>⟨?_,h2⟩) (fun hp=>I (fun hh=>hp (by omega)) cR)) (fun J=>I (fun hh=>J hh.1) cR)) (fun r=>?_)
   ·rw[if_pos cR,if_pos ⟨J,by omega⟩]at hL;exact hL.symm
   ·rw[if_neg r]at hL
    rw[aD (n:=(n:Int)+1) (by omega) (by omega)]
    have af:n≠9:=fun e=>u ⟨e,by omega⟩
    refine⟨⟨n+1,by omega,by omega,hL,Int.add_nonneg C (Int.mul_nonneg (by omega) (by omega)),fun Y=>?_,h2⟩,by dsimp only;omega⟩
    have h3:=hv1 (by omega)
    rw[show 7*(n+1)=7*n+7 by omega,Nat.pow_add]
    have e:((2^(7*n)*2^7:Nat):Int)=((2^(7*n):Nat):Int)*128:=by rw[rM];rfl
    rw[e]
    have:c%128*((2^(7*n):Nat):Int)≤127*((2^(7*n):Nat):Int):=Int.mul_le_mul_of_nonneg_right (by omega) (by omega)
    omega
 ·have:n=10:=by omega
  subst this
  rw[show 10-10=0 from rfl,rT]at hL
  exact⟨hL.symm,h1⟩
theorem MX{xs:List Int}{a:Nat}:∀(f n:Nat) (v:Int),(rT xs a f n v).2.2=0→0≤v→(a+n:Int)<(rT xs a f n v).2.1∧(rT xs a f n v).2.1≤xs.length∧0≤(rT xs a f n v).1
 |0,n,v,h,_=>by simp [rT]at h
 |f+1,n,v,h,hv=>by
  rw[rT]at h⊢
  split at h
  ·simp at h
  ·rename_i h1
   rw[if_neg h1]
   split at h
   ·simp at h
   ·rename_i h2
    rw[if_neg h2]
    split at h
    ·rename_i h3
     rw[if_pos h3]
     split at h
     ·simp at h
     ·rename_i h4
      rw[if_neg h4]
      exact⟨by dsimp only;omega,by dsimp only;omega,Int.add_nonneg hv (Int.mul_nonneg (by omega) (Int.natCast_nonneg _))⟩
    ·rename_i h3
     rw[if_neg h3]
     have:=MX f (n+1) _ h (Int.add_nonneg hv (DN (by omega) (GJ _)))
     exact⟨by omega,this.2⟩
theorem qaM{xs:List Int}{a:Nat}(h:(tF xs a).2.2=0):(a:Int)<(tF xs a).2.1∧(tF xs a).2.1≤xs.length∧0≤(tF xs a).1:=by
 unfold tF at h⊢
 have:=MX 10 0 0 h (by decide);exact⟨by simpa using this.1,this.2⟩
theorem RS.pre{w w1 w2:World}{ad:Addr}{b:Value}{xs:List Int}{a:Nat}{er:Int}(he:Ev w w1)(h:RS w1 w2 ad b xs a er):RS w w2 ad b xs a er:=⟨h.1,Ch.trans (he.mono fun _ _ _ h=>h.elim) h.2 fun _ _ _ h=>h⟩
def jK(xs:List Int)(a:Nat)(er most:Int):Int×Nat×Int:=
 if er≠0 then(0,a,er)
 else if(tF xs a).2.2=0∧(tF xs a).1>most then(0,a,4)
 else if(tF xs a).2.2≠0 then(0,a,(tF xs a).2.2)
 else((tF xs a).1,(tF xs a).2.1.toNat,0)
theorem qi5{ad:Addr}{b:Value}{xs:List Int}{a:Nat}{er most:Int}{w:World}(h:Rd w ad b xs a er):Calls P qR #[aH ad,.int .u64 most] w (fun e w'=>e=aW (.int .u64 (jK xs a er most).1)∧RS w w' ad b xs (jK xs a er most).2.1 (jK xs a er most).2.2):=by
 refine KV ⟨fun w'=>er=0∧w'=w,fO (oP (aC (bG (h.1.cell (j:=2) rfl) (cA (fun C=>?_) (fun he=>⟨he,rfl⟩))))),?_⟩
 ·unfold jK;rw[if_pos C];exact⟨rfl,h.step⟩
 rintro _ _ ⟨rfl,rfl⟩
 rename_i w
 have hl:=qaM (xs:=xs) (a:=a)
 unfold jK
 rw[if_neg (by simp)]
 refine aO (qm2 h) ?_
 rintro _ w1 ⟨rfl,h1⟩
 generalize tF xs a=r at hl
 obtain⟨v,a2,e⟩:=r
 dsimp only at hl⊢
 have I:=h.ev h1
 refine⟨v,a2,e,rfl,fun J w'=>J=(if e=0∧v>most then 4 else e)∧w'=w1,?_,?_⟩
 ·exact cN (fun M=>aG (fun hg=>⟨by rw[if_pos ⟨M,hg⟩],rfl⟩) (fun hg=>⟨by rw[if_neg (fun hh=>hg hh.2)],rfl⟩)) (fun M=>⟨by rw[if_neg (fun hh=>M hh.1)],rfl⟩)
 ·rintro _ J _ ⟨q,rfl⟩
  refine cA (fun C=>?_) (fun N=>?_)
  ·refine aC (iP I.1 (j:=2) (by simp) rfl rfl fun w2 h2 _ A=>?_)
   have u:=I.set (j:=2) (a2:=a) (er2:=J) (by decide) h2 A rfl I.2.2.2.1
   have:RS w w2 ad b xs a J:=⟨u.1,Ch.trans (h1.mono fun _ _ _ h=>h.elim) u.2 fun _ _ _ h=>h⟩
   by_cases hc:e=0∧v>most
   ·rw[if_pos hc]at q⊢;subst q;exact⟨rfl,this⟩
   ·rw[if_neg hc]at q⊢;subst q;rw[if_pos C];exact⟨rfl,this⟩
  ·subst N
   have hc:¬(e=0∧v>most):=fun hc=>by rw[if_pos hc]at q;cases q
   rw[if_neg hc]at q⊢
   rw[←q]at hl⊢
   rw[if_neg (by simp)]
   have O:=hl rfl
   refine aC (iP I.1 (j:=1) (by simp) rfl rfl fun w2 h2 _ A=>⟨rfl,?_⟩)
   have u:=I.set (j:=1) (a2:=a2.toNat) (er2:=0) (by decide) h2 A (by rw[show((a2.toNat:Nat):Int)=a2 by omega];rfl) (by omega)
   exact⟨u.1,Ch.trans (h1.mono fun _ _ _ h=>h.elim) u.2 fun _ _ _ h=>h⟩
theorem LD{ad:Addr}{b:Value}{xs:List Int}{a:Nat}{er:Int}{w:World}(h:Rd w ad b xs a er):Calls P fQ #[aH ad] w (fun e w'=>e=aW (.int .u64 (jK xs a er 18446744073709551615).1)∧RS w w' ad b xs (jK xs a er 18446744073709551615).2.1 (jK xs a er 18446744073709551615).2.2):=
 KT (bQ (qi5 h) fun _ h=>⟨rfl,h⟩)
theorem qew{xs:List Int}{a:Nat}(hx:inR .u8 xs):∀(f n:Nat) (v:Int),f+n=10→0≤v→(n≤9→v<((2^(7*n):Nat):Int))→(rT xs a f n v).1<18446744073709551616
 |0,n,v,_,_,_=>by simp [rT]
 |f+1,n,v,hf,h0,h1=>by
  rw[rT]
  split
  ·simp
  ·split
   ·simp
   ·rename_i q
    have h3:=h1 (by omega)
    split
    ·split
     ·simp
     ·show v+_<_
      by_cases j:n=9
      ·subst j
       have:=jB hx ((a+9:Nat):Int)
       have e:((2^(7*9):Nat):Int)=9223372036854775808:=by decide
       rw[e]at h3⊢;omega
      ·have hq:((2^(7*n):Nat):Int)≤((72057594037927936:Nat):Int):=Int.ofNat_le.2 (qjg (n:=n) (by omega))
       have:rd xs ((a+n:Nat):Int)%128*((2^(7*n):Nat):Int)≤127*((2^(7*n):Nat):Int):=Int.mul_le_mul_of_nonneg_right (by omega) (by omega)
       omega
    ·refine qew hx f (n+1) _ (by omega) (Int.add_nonneg h0 (DN (by omega) (GJ _))) fun j=>?_
     rw[show 7*(n+1)=7*n+7 by omega,Nat.pow_add]
     have e:((2^(7*n)*2^7:Nat):Int)=((2^(7*n):Nat):Int)*128:=by rw[rM];rfl
     rw[e]
     have:rd xs ((a+n:Nat):Int)%128*((2^(7*n):Nat):Int)≤127*((2^(7*n):Nat):Int):=Int.mul_le_mul_of_nonneg_right (by omega) (by omega)
     omega
theorem qkL{xs:List Int}{a:Nat}(hx:inR .u8 xs)(h:(tF xs a).2.2=0):0≤(tF xs a).1∧(tF xs a).1<18446744073709551616:=⟨(MX 10 0 0 h (by decide)).2.2,qew hx 10 0 0 rfl (by decide) (fun _=>by decide)⟩
theorem qF{xs:List Int}{a:Nat}{er most:Int}(hx:inR .u8 xs):0≤(jK xs a er most).1∧(jK xs a er most).1<18446744073709551616:=by
 unfold jK
 split
 ·simp
 ·split
  ·simp
  ·split
   ·simp
   ·rename_i h;exact qkL hx (by omega)
theorem qkS{xs:List Int}{a:Nat}{er most:Int}(hm:0≤most):(jK xs a er most).1≤most:=by
 unfold jK
 split
 ·exact hm
 ·split
  ·exact hm
  ·rename_i h2
   split
   ·exact hm
   ·rename_i h3;dsimp only;omega
theorem qpW{xs:List Int}{a:Nat}{er most:Int}(ha:a≤xs.length):a≤(jK xs a er most).2.1∧(jK xs a er most).2.1≤xs.length:=by
 unfold jK
 split
 ·exact⟨cJ _,ha⟩
 ·split
  ·exact⟨cJ _,ha⟩
  ·split
   ·exact⟨cJ _,ha⟩
   ·rename_i h
    have:=qaM (xs:=xs) (a:=a) (by simpa using h)
    dsimp only;omega
def eV(xs:List Int)(a:Nat)(er n:Int):List Int×Nat×Int:=
 if er≠0∨n≤0 then([],a,er)else if n>(xs.length:Int)-a then([],a,3)else((xs.drop a).take n.toNat,a+n.toNat,0)
def qrj(w:World)(ad:Addr)(b:Value)(xs:List Int)(r:List Int×Nat×Int)(e:Ending)(w':World):Prop:=∃y,e=aW y∧RS w w' ad b xs r.2.1 r.2.2∧ON .u8 eB w' w.heap.size y r.1
theorem T1{ad:Addr}{b:Value}{xs:List Int}{a:Nat}{er n:Int}{w:World}(h:Rd w ad b xs a er)(hn:n≤9223372036854775807):Calls P cP #[aH ad,aB n] w (qrj w ad b xs (eV xs a er n)):=by
 have C:=h.2.2.2.1
 have O:=h.2.2.2.2
 refine KU ⟨fun w'=>er=0∧0<n∧w'=w,fO (oP (aC (bG (h.1.cell (j:=2) rfl) (iC (fun he=>aG (fun r=>?_) (fun M=>⟨he,by omega,rfl⟩)) (fun I=>?_))))),?_⟩
 ·unfold eV;rw[if_pos (.inr r)];exact⟨_,rfl,h.step,ON.nil _ _ _ _⟩
 ·unfold eV;rw[if_pos (.inl I)];exact⟨_,rfl,h.step,ON.nil _ _ _ _⟩
 rintro _ _ ⟨rfl,N,rfl⟩
 rename_i w
 unfold eV
 rw[if_neg (by omega)]
 refine aC (dE (mM (h.1.cell (j:=0) rfl)) (aP h.2.1 (aC (aN (mM (h.1.cell (j:=1) rfl)) ?_))))
 rw[aD (n:=(xs.length:Int)-a) (by omega) (by omega)]
 refine aG (fun hg=>?_) (fun r=>?_)
 ·rw[if_pos hg]
  refine aC (iP h.drew.1 (j:=2) (by simp) rfl rfl fun w2 h2 _ q=>⟨_,rfl,?_,ON.nil _ _ _ _⟩)
  exact RS.pre (Ev.drew0 w) (h.drew.set (j:=2) (a2:=a) (er2:=3) (by decide) h2 q rfl C)
 ·rw[if_neg r]
  obtain⟨m,rfl⟩:∃m:Nat,n=m:=⟨n.toNat,by omega⟩
  rw[dH]
  refine aC (bG (h.drew.1.cell (j:=1) rfl) (aC (iP h.drew.1 (j:=1) (by simp) rfl rfl fun w2 h2 J q=>?_)))
  have u:RS w w2 ad b xs (a+m) 0:=RS.pre (Ev.drew0 w)<|h.drew.set (j:=1) (a2:=a+m) (er2:=0) (by decide) h2 q (by rw[aD (by omega) (by omega)];rfl) (by omega)
  have A:=u.1.drew
  refine⟨fun w'=>Rd w' ad b xs (a+m) 0,A,aC (dE (fun w' h=>h.1.cell (j:=0) rfl) (aC (aN (fun w' h=>h.1.cell (j:=1) rfl) (aC (aN (fun w' h=>h.1.cell (j:=1) rfl) ?_)))))⟩
  rw[show i64 (((a+m:Nat):Int)-(m:Int))=(a:Int)by rw[aD (by omega) (by omega)];omega]
  refine dJ A.2.1 a (a+m) (.inr ⟨_,rfl⟩) (.inr ⟨_,rfl⟩) (by omega) (by omega) fun hs=>?_
  rw[MB]at hs
  refine lS (ON.nil .u8 eB w2.drew w.heap.size) hs (by rw[eJ,cQ];simp;omega) (Nat.le_of_eq J.symm) fun y w3 T hc hm=>?_
  have h3:Ev w2.drew w3:=hc.mono fun _ _ _ hh=>by cases hh
  exact⟨A.ev h3,y,rfl,RS.ev u ((Ev.drew0 w2).trans h3),by simpa using T⟩
theorem qad{a b:Value}{xs ys:List Int}{w:World}(ha:Nm .u8 w a xs)(hb:Nm .u8 w b ys):Calls P nU #[a,b] w (fun e w'=>e=aW (.bool (decide (xs=ys)))∧w'=w):=
 FP (lA ha (lA hb ⟨by rw[yC ha.2 hb.2],rfl⟩))
theorem T0{ad:Addr}{b:Value}{xs:List Int}{a:Nat}{er:Int}{w:World}(h:Rd w ad b xs a er):Calls P fD #[aH ad] w (fun e w'=>e=aW (aB ((xs.length:Int)-a))∧Ev w w'):=by
 have q:=h.2.2.2.1
 have r:=h.2.2.2.2
 refine HW (fO (iR (aC (dE (mM (h.1.cell (j:=0) rfl)) (aP h.2.1 (aC (aN (mM (h.1.cell (j:=1) rfl)) ⟨?_,Ev.drew0 w⟩)))))))
 rw[aD (by omega) (by omega)]
theorem vO{ad:Addr}{b:Value}{xs:List Int}{a:Nat}{er:Int}{w:World}(h:Rd w ad b xs a er):Calls P cO #[aH ad] w (fun e w'=>e=aW (aB er)∧w'=w):=
 KS (fO (iR (aC (bG (h.1.cell (j:=2) rfl) ⟨rfl,rfl⟩))))
def I8(n a:Nat)(er:Int):Int:=if er≠0 then er else if(n:Int)-a>0 then 4 else 0
theorem qe3{ad:Addr}{b:Value}{xs:List Int}{a:Nat}{er:Int}{w:World}(h:Rd w ad b xs a er):Calls P kU #[aH ad] w (fun e w'=>e=aW (aB (I8 xs.length a er))∧Ev w w'):=by
 refine KR (bX (vO h) (cA (fun j=>⟨?_,Ch.refl _ w⟩) (fun he=>bQ (T0 h) fun w1 h1=>aG (fun hg=>⟨?_,h1⟩) (fun hg=>⟨?_,h1⟩))))
 ·unfold I8;rw[if_pos j]
 ·unfold I8;rw[if_neg (by omega),if_pos hg]
 ·unfold I8;rw[if_neg (by omega),if_neg hg]
theorem qnO{b:Value}{xs:List Int}{w:World}(hb:Nm .u8 w b xs)(hl:xs.length≤10000000000):Calls P kT #[b] w (fun e w'=>∃ad y,e=aW (aH ad)∧Ev w w'∧w.heap.size≤ad.block∧Rd w' ad y xs 0 0):=by
 refine WV (lS (ON.nil .u8 eB w w.heap.size) hb (by simp;omega) (cJ _) fun y w1 q hc hm=>⟨q.one,V6 fun ad w2 h2 j hs hS=>?_⟩)
 have h1:Ev w w1:=hc.mono fun _ _ _ hh=>by cases hh
 have r:=q.ev h2
 refine⟨ad,y,rfl,h1.trans h2,by rw[j];exact h1.size,hS,by simpa using r.nm,fun hh=>?_,by omega,hl⟩
 have:=(q.base hh).2
 rw[j]at this;dsimp only at this;omega
def fZ(xs:List Int)(a:Nat)(er most:Int):List Int×Nat×Int:=
 if er≠0 then([],a,er)
 else
  let p:=jK xs a er (if 0>most then 0 else most)
  let q:=eV xs p.2.1 p.2.2 p.1
  if q.2.2≠0 then([],a,q.2.2)else q
theorem qqa{xs:List Int}{a:Nat}{er n:Int}(h:(eV xs a er n).2.2=0):er=0:=by
 unfold eV at h;split at h
 ·exact h
 ·omega
theorem EK{ad:Addr}{b:Value}{xs:List Int}{a:Nat}{er most:Int}{w:World}(h:Rd w ad b xs a er)(hm:most≤9223372036854775807):Calls P gG #[aH ad,aB most] w (qrj w ad b xs (fZ xs a er most)):=by
 refine HX ⟨fun w'=>er=0∧w'=w,fO (oP (aC (bG (h.1.cell (j:=2) rfl) (cA (fun u=>?_) (fun he=>⟨he,rfl⟩))))),?_⟩
 ·unfold fZ;rw[if_pos u];exact⟨_,rfl,h.step,ON.nil _ _ _ _⟩
 rintro _ _ ⟨rfl,rfl⟩
 rename_i w
 unfold fZ
 rw[if_neg (show ¬((0:Int)≠0)by simp)]
 have A:0≤(if 0>most then 0 else most)∧(if 0>most then 0 else most)≤9223372036854775807:=by split<;>omega
 generalize(if 0>most then 0 else most)=C at A
 rw[show gD C=C by rw[dW];omega]
 refine aC (bG (h.1.cell (j:=1) rfl) (bQ (qi5 h) fun w1 h1=>?_))
 have N:=qF (xs:=xs) (a:=a) (er:=0) (most:=C) h.2.1.2
 have J:=qkS (xs:=xs) (a:=a) (er:=0) (most:=C) A.1
 dsimp only
 generalize jK xs a 0 C=p at*
 rw[aD (n:=p.1) (by omega) (by omega)]
 refine aO (T1 h1.1 (by omega)) ?_
 rintro _ w2 ⟨y,rfl,h2,M⟩
 have r:=h1.trans h2
 generalize eV xs p.2.1 p.2.2 p.1=q at*
 refine⟨y,rfl,aC (bG (r.1.1.cell (j:=2) rfl) (cA (fun u=>aC (iP r.1.1 (j:=1) (by simp) rfl rfl fun w3 h3 _ I=>?_)) (fun he=>?_)))⟩
 ·rw[if_pos u]
  exact⟨_,rfl,r.trans (r.1.set (j:=1) (a2:=a) (er2:=q.2.2) (by decide) h3 I rfl h.2.2.2.1),ON.nil _ _ _ _⟩
 ·rw[if_neg (by omega)]
  exact⟨y,rfl,r,M.low h1.2.size⟩
def IY:List Int→Int
 |[]=>0
 |c::r=>c+256*IY r
theorem LE{xs:List Int}{a:Nat}{er n:Int}{m:Nat}(hm:n≤m):(eV xs a er n).1.length≤m:=by
 unfold eV;split
 ·simp
 ·split
  ·simp
  ·rw[eJ];omega
theorem qqc{xs:List Int}{a:Nat}{er n:Int}(h:inR .u8 xs):inR .u8 (eV xs a er n).1:=by
 unfold eV;split
 ·intro x hx;cases hx
 ·split
  ·intro x hx;cases hx
  ·exact(h.drop _).take _
theorem qeu{ys:List Int}:∀{j:Nat},j<ys.length→IY (ys.take (j+1))=IY (ys.take j)+rd ys j*((2^(8*j):Nat):Int):=by
 induction ys with
 |nil=>intro j h;simp at h
 |cons c r u=>
  intro j h
  cases j with
  |zero=>simp [IY,rd]
  |succ j=>
   have q:rd (c::r) ((j+1:Nat):Int)=rd r j:=by simp [rd]
   rw[ZF,ZF,IY,IY,u (by simpa using h),q,show 8*(j+1)=8*j+8 by omega,Nat.pow_add]
   have e:((2^(8*j)*2^8:Nat):Int)=((2^(8*j):Nat):Int)*256:=by rw[rM];rfl
   rw[e,Int.mul_add];ac_rfl
theorem qg2{ys:List Int}(h:inR .u8 ys):0≤IY ys∧IY ys<((2^(8*ys.length):Nat):Int):=by
 induction ys with
 |nil=>simp [IY]
 |cons c r j=>
  have h1:=j fun x hx=>h x (by simp [hx])
  have h2:=h.u8 (x:=c) (by simp)
  rw[IY,iO,show 8*(r.length+1)=8*r.length+8 by omega,Nat.pow_add]
  have e:((2^(8*r.length)*2^8:Nat):Int)=((2^(8*r.length):Nat):Int)*256:=by rw[rM];rfl
  rw[e];omega
def qt5(w:World)(ad:Addr)(b:Value)(xs:List Int)(v:Int)(r:List Int×Nat×Int)(e:Ending)(w':World):Prop:=e=aW (.int .u64 v)∧RS w w' ad b xs r.2.1 r.2.2
theorem L9{ad:Addr}{b:Value}{xs:List Int}{a:Nat}{er n:Int}{w:World}(h:Rd w ad b xs a er):Calls P fA #[aH ad,aB n] w (qt5 w ad b xs (IY (eV xs a er (if 8<n then 8 else n)).1) (eV xs a er (if 8<n then 8 else n))):=by
 have M:(if 8<n then 8 else n)≤8:=by split<;>omega
 refine CQ ?_
 generalize(if 8<n then 8 else n)=m at*
 refine aO (T1 h (by omega)) ?_
 have A:=LE (xs:=xs) (a:=a) (er:=er) (n:=m) (m:=8) (by omega)
 rintro _ w1 ⟨y,rfl,h1,u⟩
 generalize eV xs a er m=r at*
 refine⟨y,rfl,aP u.nm ⟨fun v i w'=>∃j:Nat,i=j∧j≤r.1.length∧v=IY (r.1.take j)∧w'=w1,fun _ i _=>r.1.length-i.toNat,⟨0,rfl,by omega,by simp [IY],rfl⟩,?_⟩⟩
 rintro _ v i _ ⟨j,rfl,hj,rfl,rfl⟩
 refine aG (fun cR=>dL u.nm (by omega) cR fun a1 C _=>bG C (JQ (by rw[aD (by omega) (by omega)];omega) ?_)) (fun J=>?_)
 ·have hc:=jB u.2 j
  have hb:=qg2 (u.2.take j)
  have q:=qg2 (u.2.take (j+1))
  rw[qeu (by omega)]at q
  rw[show gD (rd r.1 j)=rd r.1 j by rw[dW];omega,show i64 (8*(j:Int))=((8*j:Nat):Int)by rw[aD (by omega) (by omega)];omega,aD (n:=(j:Int)+1) (by omega) (by omega)]
  rw[eJ,vU (by omega)]at hb q
  have I:((2^(8*(j+1)):Nat):Int)≤((18446744073709551616:Nat):Int):=Int.ofNat_le.2 (nJ (GI (by decide) (show 8*(j+1)≤64 by omega)) (by decide))
  rw[HC (k:=.u64) rfl (by have:IntKind.u64.bits=64:=rfl;omega) (by omega),GQ,ZE (DN (by omega) (GJ _)) (by show _<(18446744073709551616:Int);omega),SZ rfl hb.1 hb.2 hc.1 (by rw[GQ];show _<(18446744073709551616:Int);omega)]
  exact⟨⟨j+1,by omega,by omega,by rw[qeu (by omega)],rfl⟩,by dsimp only;omega⟩
 ·rw[gI (by omega)];exact⟨rfl,h1⟩
section
structure It where
 ft:Nat→Prop
 ok:World→Prop
 ce:∀(w:World) (k:Nat),ok w→ft k→∃c e f,w.heap[k]?=some (Obj.cells c e f)
 st:∀(w w':World) S,ok w→Ch S w w'→(∀k i,ft k→¬S k i)→ok w'
 gr:∀w w':World,ok w→w.heap.size≤w'.heap.size→(∀(k:Nat) c e f,w.heap[k]?=some (Obj.cells c e f)→w'.heap[k]?=w.heap[k]?)→ok w'
theorem It.lt(it:It)(w:World)(k:Nat)(h:it.ok w)(hk:it.ft k):k<w.heap.size:=let⟨_,_,_,hc⟩:=it.ce w k h hk;cR hc
def Fr(w0 w:World):List It→Prop
 |[]=>Ev w0 w
 |it::F=>it.ok w∧(∀k,it.ft k→w0.heap.size≤k)∧(∀jt∈F,∀k,it.ft k→¬jt.ft k)∧Fr w0 w F
section
variable {w0 w w':World} {F:List It}
theorem Fr.old:∀{F:List It},Fr w0 w F→Ev w0 w
 |[],h=>h
 |_::_,h=>Fr.old h.2.2.2
theorem Fr.start(w:World):Fr w w []:=Ch.refl _ w
theorem Fr.mem:∀{F:List It} {it:It},Fr w0 w F→it∈F→it.ok w∧∀k,it.ft k→w0.heap.size≤k
 |_::_,_,h,hm=>by
  rcases List.mem_cons.1 hm with rfl|hm
  ·exact⟨h.1,h.2.1⟩
  ·exact Fr.mem h.2.2.2 hm
theorem Fr.get{it:It}(h:Fr w0 w F)(i:Nat)(hi:F[i]?=some it):it.ok w:=(h.mem (tM hi)).1
theorem Fr.ft{it:It}(h:Fr w0 w F)(i:Nat)(hi:F[i]?=some it){k:Nat}(hk:it.ft k):w0.heap.size≤k∧k<w.heap.size:=
 ⟨(h.mem (tM hi)).2 k hk,it.lt w k (h.get i hi) hk⟩
theorem Fr.ch{S:SS}:∀{F:List It},Fr w0 w F→Ch S w w'→(∀k i,S k i→w0.heap.size≤k)→(∀it∈F,∀k i,it.ft k→¬S k i)→Fr w0 w' F
 |[],h,hc,h0,_=>Ev.new h hc h0
 |it::F,h,hc,h0,hs=>⟨it.st w w' S h.1 hc (hs it (by simp)),h.2.1,h.2.2.1,Fr.ch h.2.2.2 hc h0 fun jt hj=>hs jt (by simp [hj])⟩
theorem Fr.ev(h:Fr w0 w F)(he:Ev w w'):Fr w0 w' F:=h.ch he (fun _ _ h=>h.elim) fun _ _ _ _ _ h=>h
theorem Fr.drew(h:Fr w0 w F):Fr w0 w.drew F:=h.ev (Ev.drew0 w)
theorem Fr.new{jt:It}(h:Fr w0 w F)(he:Ev w w')(ok:jt.ok w')(hf:∀k,jt.ft k→w.heap.size≤k):Fr w0 w' (jt::F):=
 ⟨ok,fun k hk=>nJ h.old.size (hf k hk),fun it hi k hk j=>by
  have:=hf k hk
  have:=it.lt w k (h.mem hi).1 j
  omega,h.ev he⟩
theorem Fr.set_apart{it jt:It}:∀{F:List It} {i:Nat},Fr w0 w F→F[i]?=some it→(∀k,jt.ft k→it.ft k∨w.heap.size≤k)→∀{S:SS},Ch S w w'→(∀k i,S k i→it.ft k∨w.heap.size≤k)→jt.ok w'→Fr w0 w' (F.set i jt)
 |it'::F,0,h,hi,hf,S,hc,hS,ok=>by
  simp only[List.getElem?_cons_zero,Option.some.injEq]at hi
  subst hi
  have r:=h.2.2.2.old.size
  refine⟨ok,fun k hk=>?_,fun q hj k hk j=>?_,h.2.2.2.ch hc (fun k i hs=>?_) fun q hj k i j hs=>?_⟩
  ·rcases hf k hk with h1|h1
   ·exact h.2.1 k h1
   ·omega
  ·rcases hf k hk with h1|h1
   ·exact h.2.2.1 q hj k h1 j
   ·have:=q.lt w k (h.2.2.2.mem hj).1 j;omega
  ·rcases hS k i hs with h1|h1
   ·exact h.2.1 k h1
   ·omega
  ·rcases hS k i hs with h1|h1
   ·exact h.2.2.1 q hj k h1 j
   ·have:=q.lt w k (h.2.2.2.mem hj).1 j;omega
 |it'::F,i+1,h,hi,hf,S,hc,hS,ok=>by
  simp only[T7]at hi
  have hm:=tM hi
  refine⟨it'.st w w' S h.1 hc fun k i hk hs=>?_,h.2.1,fun q hj k hk j=>?_,Fr.set_apart h.2.2.2 hi hf hc hS ok⟩
  ·rcases hS k i hs with h1|h1
   ·exact h.2.2.1 it hm k hk h1
   ·have:=it'.lt w k h.1 hk;omega
  ·rcases List.mem_or_eq_of_mem_set hj with hj|rfl
   ·exact h.2.2.1 q hj k hk j
   ·rcases hf k j with h1|h1
    ·exact h.2.2.1 it hm k hk h1
    ·have:=it'.lt w k h.1 hk;omega
theorem Fr.upd{it jt:It}{S:SS}(h:Fr w0 w F)(i:Nat)(hi:F[i]?=some it)(hc:Ch S w w')(hS:∀k i,S k i→it.ft k∨w.heap.size≤k)(ok:jt.ok w')(hf:∀k,jt.ft k→it.ft k∨w.heap.size≤k):Fr w0 w' (F.set i jt):=
 h.set_apart hi hf hc hS ok
theorem Fr.apart{it jt:It}:∀{F:List It} {i j:Nat},Fr w0 w F→F[i]?=some it→F[j]?=some jt→i≠j→∀k,it.ft k→¬jt.ft k
 |_::_,0,0,_,_,_,hn,_,_=>absurd rfl hn
 |a::F,0,j+1,h,hi,hj,_,k,hk=>by
  simp only[List.getElem?_cons_zero,Option.some.injEq]at hi
  subst hi
  exact h.2.2.1 jt (tM (by simpa using hj)) k hk
 |a::F,i+1,0,h,hi,hj,_,k,hk=>by
  simp only[List.getElem?_cons_zero,Option.some.injEq]at hj
  subst hj
  exact fun hk2=>h.2.2.1 it (tM (by simpa using hi)) k hk2 hk
 |a::F,i+1,j+1,h,hi,hj,hn,k,hk=>Fr.apart h.2.2.2 (by simpa using hi) (by simpa using hj) (by omega) k hk
theorem Fr.gr:∀{F:List It},Fr w0 w F→w.heap.size≤w'.heap.size→w'.os=w.os→w'.tape=w.tape→w'.output=w.output→(∀k:Nat,k<w0.heap.size→w'.heap[k]?=w.heap[k]?)→(∀(k:Nat) c e f,w.heap[k]?=some (Obj.cells c e f)→w'.heap[k]?=w.heap[k]?)→Fr w0 w' F
 |[],h,hs,h1,h2,h3,hb,hc=>⟨h1.trans h.os,h2.trans h.tape,h3.trans h.output,nJ h.size hs,fun k hk _=>(hb k hk).trans (h.blk k hk fun _ h=>h),
   fun k c e f hk=>⟨c,by rw[hb k (cR hk),h.blk k (cR hk) fun _ h=>h];exact hk,rfl,fun _ _=>rfl⟩,fun k o hk _=>by rw[hb k (cR hk),h.blk k (cR hk) fun _ h=>h];exact hk⟩
 |it::F,h,hs,h1,h2,h3,hb,hc=>⟨it.gr w w' h.1 hs hc,h.2.1,h.2.2.1,Fr.gr h.2.2.2 hs h1 h2 h3 hb hc⟩
theorem Fr.eraseM:∀{F:List It} {i:Nat},Fr w0 w F→Fr w0 w (F.eraseIdx i)
 |[],_,h=>by simpa using h
 |_::_,0,h=>h.2.2.2
 |it::F,i+1,h=>⟨h.1,h.2.1,fun jt hj=>h.2.2.1 jt (List.mem_of_mem_eraseIdx hj),Fr.eraseM h.2.2.2⟩
theorem Fr.drop(h:Fr w0 w F)(i:Nat):Fr w0 w (F.eraseIdx i):=h.eraseM
end
theorem DZ{p:Prop}[Decidable p]{A B:Prop}(ha:p→A)(hb:¬p→B):aQ (!(!decide p)) A B:=V8 (fun h=>ha (by simpa using h)) (fun h=>hb (by simpa using h))
theorem iQ{b:Bool}{A B:Prop}(ha:b=true→A)(hb:b=false→B):aQ b A B:=V8 ha hb
theorem oO{b:Bool}{A B:Prop}(ha:b=false→A)(hb:b=true→B):aQ (!b) A B:=by cases b;exact ha rfl;exact hb rfl
theorem St.gr{w w':World}{ad:Addr}{cs:List Value}(h:St w ad cs)(hc:∀(k:Nat) c e f,w.heap[k]?=some (Obj.cells c e f)→w'.heap[k]?=w.heap[k]?):St w' ad cs:=by
 obtain⟨h0,c,e,h1,h2⟩:=h;exact⟨h0,c,e,by rw[hc _ _ _ _ h1];exact h1,h2⟩
theorem ON.gr{k:IntKind}{e:TypeId}{w w':World}{B:Nat}{v:Value}{xs:List Int}(h:ON k e w B v xs)(hc:∀(k:Nat) c e f,w.heap[k]?=some (Obj.cells c e f)→w'.heap[k]?=w.heap[k]?):ON k e w' B v xs:=by
 refine⟨⟨h.1.1,?_⟩,h.2⟩
 rcases h.1.2 with hn|⟨g,cap,j,rfl,hb,hg,r⟩
 ·exact .inl hn
 ·exact .inr ⟨g,cap,j,rfl,hb,by rw[hc _ _ _ _ hg];exact hg,r⟩
theorem ON.ce{k:IntKind}{e:TypeId}{w:World}{B:Nat}{v:Value}{xs:List Int}(h:ON k e w B v xs){g:Nat}(hg:v.ownBlock=some g):∃c e f,w.heap[g]?=some (Obj.cells c e f):=by
 rcases h.1.2 with⟨rfl,_⟩|⟨q,cap,j,rfl,hb,hh,r⟩
 ·cases hg
 ·simp [Value.ownBlock]at hg;subst hg;exact⟨_,_,_,hh⟩
theorem St.ce{w:World}{ad:Addr}{cs:List Value}(h:St w ad cs):∃c e f,w.heap[ad.block]?=some (Obj.cells c e f):=let⟨_,c,e,h1,_⟩:=h;⟨c,e,_,h1⟩
def aT(ad:Addr)(cs:List Value):It:=⟨fun k=>k=ad.block,fun w=>St w ad cs,fun _ _ h hk=>by rw[hk];exact h.ce,fun _ _ _ h hc hs=>h.ch hc fun j _=>hs _ _ rfl,fun _ _ h _ hc=>h.gr hc⟩
def bI(k:IntKind)(e:TypeId)(v:Value)(xs:List Int):It:=⟨fun b=>v.ownBlock=some b,fun w=>ON k e w 0 v xs,fun _ _ h hk=>h.ce hk,fun _ _ _ h hc hs=>h.ch hc hs,fun _ _ h _ hc=>h.gr hc⟩
def rN(e:TypeId)(ad:Addr)(v:Value)(xs:List Int):It:=⟨fun k=>k=ad.block∨v.ownBlock=some k,fun w=>Wr e w ad v xs,fun _ _ h hk=>by rcases hk with hk|hk;(rw[hk];exact h.1.ce);exact h.2.1.ce hk,fun _ _ _ h hc hs=>h.ch hc fun k i hk=>hs k i hk,fun _ _ h _ hc=>⟨h.1.gr hc,h.2.1.gr hc,h.2.2⟩⟩
section
variable {P:Program} {w0 w:World} {F:List It}
theorem Fr.cell{ad:Addr}{cs:List Value}(h:Fr w0 w F)(i:Nat)(j:Nat){u:Value}(hi:F[i]?=some (aT ad cs))(hj:cs[j]?=some u):w.cell? (ad.add j)=some u:=St.cell (h.get i hi) hj
theorem dX{t:TypeId}{z:Value}{K:Addr→World→Prop}(h:Fr w0 w F)(hz:(P.info? t).bind (·.zero)=some z)(hk:∀ad w',Fr w0 w' (aT ad z.cells.toList::F)→K ad w'):cD P t w K:=
 DY hz fun ad w' he ha _ hS=>hk ad w' (h.new he hS fun k hk=>by have hk:k=ad.block:=hk;subst ha;dsimp only at hk;omega)
theorem mL{t:TypeId}{v:Value}{K:Addr→World→Prop}(h:Fr w0 w F)(hk:∀ad w',Fr w0 w' (aT ad v.cells.toList::F)→K ad w'):kA P t v w K:=
 V6 fun ad w' he ha _ hS=>hk ad w' (h.new he hS fun k hk=>by have hk:k=ad.block:=hk;subst ha;dsimp only at hk;omega)
theorem dT{t:TypeId}{ad:Addr}{cs:List Value}{u:Value}{K:World→Prop}(h:Fr w0 w F)(i j:Nat)(hi:F[i]?=some (aT ad cs))(hk:∀w',Fr w0 w' (F.set i (aT ad (cs.set j u)))→K w')(hj:j<cs.length:=by exact qbo rfl)(hu:u.oneCell'=true:=by rfl)(q:u.cells= #[u]:=by rfl)(ht:BM P t=true:=by kernel_rfl):
  aL P t (aH (ad.add j)) u w K:=
 iP (h.get i hi) hj hu q (fun w' hc _ hS=>hk w' (h.upd i hi hc (fun k _ hh=>.inl (by
  have h0:ad.spot=none:=(show St w ad cs from h.get i hi).1
  have h1:=hh.1
  rw[Addr.add_none h0]at h1;exact h1)) hS fun k hk=>.inl hk)) ht
theorem cS{t:TypeId}{ad:Addr}{cs:List Value}{ds:Array Value}{K:World→Prop}(h:Fr w0 w F)(i:Nat)(hi:F[i]?=some (aT ad cs))(hk:∀w',Fr w0 w' (F.set i (aT ad ds.toList))→K w')(hj:ds.size=cs.length:=by rfl)(h1:∀u∈ds.toList,u.oneCell'=true:=by simp [Value.oneCell'])(ht:Y9 P t ds.size=true:=by kernel_rfl):
  aL P t (aH ad) (.agg ds) w K:=
 L0 (h.get i hi) (by omega) h1 (fun w' hc _ hS=>hk w' (h.upd i hi hc (fun k _ hh=>.inl hh.1) (by
  have:cs.drop ds.size=[]:=zN (by omega)
  rw[this,iW]at hS;exact hS) fun k hk=>.inl hk)) ht
theorem gE{t:TypeId}{cks:List Ck}{ad:Addr}{K:TF cks Prop}{cs:List Value}(h:Fr w0 w F)(i:Nat)(hi:F[i]?=some (aT ad cs))(hk:vR False cks K cs)(hl:cs.length=cks.length:=by rfl)(ht:qds P t cs.length=true:=by kernel_rfl):aF P t (.part (.agg cks)) (aH ad) w K:=
 lR cs (fun j u hj=>h.cell i j hi hj) hk hl ht
theorem cI{t:TypeId}{k:IntKind}{n:Int}{ad:Addr}{cs:List Value}{K:Int→Prop}(h:Fr w0 w F)(i j:Nat)(hi:F[i]?=some (aT ad cs))(hj:cs[j]?=some (.int k n))(hk:K n)(ht:flat P t=true:=by kernel_rfl):aF P t (dQ k) (aH (ad.add j)) w K:=bG (h.cell i j hi hj) hk ht
theorem dY{t:TypeId}{v:Value}{ad:Addr}{cs:List Value}{K:Value→Prop}(h:Fr w0 w F)(i j:Nat)(hi:F[i]?=some (aT ad cs))(hj:cs[j]?=some v)(hk:K v)(ht:flat P t=true:=by kernel_rfl):aF P t dM (aH (ad.add j)) w K:=dV (h.cell i j hi hj) hk ht
theorem lI{t:TypeId}{v:Option Addr}{ad:Addr}{cs:List Value}{K:Option Addr→Prop}(h:Fr w0 w F)(i j:Nat)(hi:F[i]?=some (aT ad cs))(hj:cs[j]?=some (.pointer v))(hk:K v)(ht:flat P t=true:=by kernel_rfl):aF P t jN (aH (ad.add j)) w K:=fJ (h.cell i j hi hj) hk ht
theorem JN{t:TypeId}{v:Bool}{ad:Addr}{cs:List Value}{K:Bool→Prop}(h:Fr w0 w F)(i j:Nat)(hi:F[i]?=some (aT ad cs))(hj:cs[j]?=some (.bool v))(hk:K v)(ht:flat P t=true:=by kernel_rfl):aF P t kG (aH (ad.add j)) w K:=qiM (h.cell i j hi hj) hk ht
theorem jF{t:TypeId}{n:Nat}{k:IntKind}{j:Array (Nat×Value)}{K:Value→World→Prop}(xs:List Int)(h:Fr w0 w F)(hp:j.toList=Q7 0 (xs.map (.int k)))(hn:xs.length=n)(r:inR k xs)
  (hk:∀v w',Fr w0 w' (bI k (dD P t) v xs::F)→K v w') (hm:n≤1000000:=by decide) (ht:sl1 P t=true:=by kernel_rfl):eG P t n j w K:=
 qb2 xs hp hn hm r (fun v w' he q=>hk v w' (h.new he (q.low (bW _)) fun k hk=>(q.base hk).1)) ht
theorem vZ{t r:TypeId}{k:IntKind}{v y:Value}{xs ys:List Int}{K:Value→World→Prop}(h:Fr w0 w F)(i:Nat)(hi:F[i]?=some (bI k (dD P t) v xs))(q:Nm k w y ys)(hb:(xs.length+ys.length)*8≤140737488355328)
  (hk:∀v' w',Fr w0 w' (F.set i (bI k (dD P t) v' (xs++ys)))→K v' w') (ht:zH P t k=true:=by kernel_rfl):fV P #[t,t] r #[v,y] w K:=
 lS (h.get i hi) q hb (bW _) (fun v' w' j hc hm=>hk v' w' (h.upd i hi hc (fun k _ hh=>.inl hh) j fun k hk=>by
  rcases hm with hm|hm
  ·exact .inl (by have hk:v'.ownBlock=some k:=hk;rw[hm]at hk;exact hk)
  ·exact .inr (hm k hk))) ht
theorem qat{t r:TypeId}{k:IntKind}{y:Value}{ys:List Int}{K:Value→World→Prop}(h:Fr w0 w F)(q:Nm k w y ys)(hb:ys.length*8≤140737488355328)
  (hk:∀v' w',Fr w0 w' (bI k (dD P t) v' ys::F)→K v' w') (ht:zH P t k=true:=by kernel_rfl):fV P #[t,t] r #[bR,y] w K:=
 lS (ON.nil k (dD P t) w w.heap.size) q (by simpa using hb) (cJ _) (fun v' w' j hc hm=>hk v' w' (h.new (hc.mono fun _ _ _ hh=>by cases hh) (by rw[sG]at j;exact j.low (bW _)) fun k hk=>(j.base hk).1)) ht
theorem qhw{k:IntKind}{e:TypeId}{B:Nat}{v:Value}{xs:List Int}(q:ON k e w 0 v xs)(hb:∀g,v.ownBlock=some g→B≤g):ON k e w B v xs:=by
 refine⟨⟨q.1.1,?_⟩,q.2⟩
 rcases q.1.2 with hn|⟨g,cap,j,rfl,_,r⟩
 ·exact .inl hn
 ·exact .inr ⟨g,cap,j,rfl,hb g rfl,r⟩
theorem Fr.on{k:IntKind}{e:TypeId}{v:Value}{xs:List Int}(h:Fr w0 w F)(i:Nat)(hi:F[i]?=some (bI k e v xs)):ON k e w w0.heap.size v xs:=by
 have q:ON k e w 0 v xs:=h.get i hi
 refine⟨⟨q.1.1,?_⟩,q.2⟩
 rcases q.1.2 with hn|⟨g,cap,j,rfl,hb,r⟩
 ·exact .inl hn
 ·exact .inr ⟨g,cap,j,rfl,(h.ft i hi (k:=g) rfl).1,r⟩
theorem Fr.nm{k:IntKind}{e:TypeId}{v:Value}{xs:List Int}(h:Fr w0 w F)(i:Nat)(hi:F[i]?=some (bI k e v xs)):Nm k w v xs:=(h.on i hi).nm
theorem Fr.nil0(h:Fr w0 w F)(k:IntKind)(e:TypeId):Fr w0 w (bI k e (bR) []::F):=
 h.new (Ch.refl _ w) (ON.nil k e w 0) fun _ hk=>by cases hk
theorem Fr.newO{k:IntKind}{e:TypeId}{w':World}{v:Value}{xs:List Int}(h:Fr w0 w F)(he:Ev w w')(j:ON k e w' w.heap.size v xs):Fr w0 w' (bI k e v xs::F):=
 h.new he (j.low (bW _)) fun _ hk=>(j.base hk).1
end
end
end Go.Proofs.YtabchipjjghhnaaGreatDoorV
