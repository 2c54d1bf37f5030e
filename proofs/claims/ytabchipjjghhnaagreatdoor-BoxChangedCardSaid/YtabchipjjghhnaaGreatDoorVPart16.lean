import Derived.Test.YtabchipjjghhnaaGreatDoorVPart15
set_option linter.unusedVariables false
set_option linter.unusedSimpArgs false
namespace Go.Proofs.YtabchipjjghhnaaGreatDoorV
open Go Go.RowKit
section
section
variable {w0 w:World} {F:List It} {b:Nat} {ws:List (List UInt8)}
theorem qtb{t:TypeId}{n:Nat}{j:Array (Nat×Value)}{K:Value→World→Prop}(vs:List Value)(hp:j.toList=Q7 0 vs)(hn:vs.length=n)(h0:0<n)(hm:n≤1000000)(h1:∀v∈vs,v.cells= #[v])
  (hk:∀v o,(w.alloc o).ownsRow w.heap.size (dD P t) 1 v n vs→K v (w.alloc o)) (ht:sl1 P t=true:=by kernel_rfl):eG P t n j w K:=by
 obtain⟨hu,i,z,hi,u,hz⟩:=qn6 ht
 obtain⟨q,A,r⟩:∃q:Array Value,q.size=n∧(Instr.buildSlice t n j).run P w=.ok (.slice (some ⟨w.heap.size,0,none⟩) n n) (w.alloc (.cells (jR q 0 vs) (dD P t))):=by
  simp only[Instr.buildSlice,Sem.run_bind,run_underlying hu,Result.andThen_ok,sizeOf,typeInfo,run_program,hi,Sem.run_pure,u,K6]
  rw[if_neg (by omega)]
  refine⟨(Array.range n).map (z.cells[· %z.cells.size]!),by simp,?_⟩
  rw[if_neg (by omega)]
  simp only[Sem.run_bind,zeroValue,typeInfo,run_program,Result.andThen_ok,hi,hz,Sem.run_pure]
  rw[hp,show(fun i=>some (i,1))=(fun i=>some (i*1,1))by funext i;rw[K6],MS vs h1 0 _ (by simp;omega)]
  simp [newRow]
 have hl:=M4 vs 0 q (by omega)
 simp only[MC,sG]at hl
 refine⟨_,_,r,hk _ _ ?_⟩
 have hs:(jR q 0 vs).size=n:=by rw[←LW,hl,hn]
 exact CZ w (dD P t) _ n n (cJ _) (by unfold maxLen;omega) hs (by rw[hl,gI (by omega)]) hn
theorem qoR{v:Value}{a c:Int}(h:Nm .i64 w v [a,c]):Calls P W9 #[v] w (fun e w'=>e=aW (aB (if a≠0 then a else c))∧w'=w):=by
 refine n8 (aP h ⟨fun i w'=>w'=w∧(i=0∨(i=1∧a=0)∨(i=2∧a=0∧c=0)),fun i _=>(2-i).toNat,⟨rfl,.inl rfl⟩,?_⟩)
 rintro _ i _ ⟨rfl,hi⟩
 refine aG (fun cR=>uC h (by omega) (by simp at cR;simp;omega) ?_) (fun q=>?_)
 ·rcases hi with rfl|⟨rfl,ha⟩|⟨rfl,_⟩
  ·refine cA (fun j=>⟨?_,rfl⟩) (fun he=>⟨⟨rfl,.inr (.inl ⟨by decide,he⟩)⟩,by dsimp only;decide⟩)
   rw[show rd [a,c] 0=a from rfl]at j⊢
   rw[if_pos j]
  ·refine cA (fun j=>⟨?_,rfl⟩) (fun he=>⟨⟨rfl,.inr (.inr ⟨by decide,ha,he⟩)⟩,by dsimp only;decide⟩)
   rw[show rd [a,c] 1=c from rfl]at j⊢
   rw[if_neg (by omega)]
  ·simp at cR
 ·rcases hi with rfl|⟨rfl,ha⟩|⟨rfl,ha,hc⟩
  ·simp at q
  ·simp at q
  ·rw[if_neg (by omega),hc];exact⟨rfl,rfl⟩
theorem qbm{tp:Addr}{s:List UInt8}(hc:w.cell? tp=some (.map (some b)))(q:MapI w b ws)(hs:s.length≤24)(hl:ws.length≤1000000000):Calls P gN #[.string (kI s),aH tp] w (fun e w'=>e=aW (aB (OT (fun s=>ws.count s) s))∧w'=w):=by
 have j:=qsy hl hs
 have r:ws.count s≤ws.length:=List.count_le_length
 refine RZ (dV hc (qb3 q (by omega) ⟨?_,rfl⟩))
 unfold OT at j⊢
 rw[pN,aD (n:=((ws.count s:Nat):Int)-1) (by omega) (by omega),aD (n:=(((ws.count s:Nat):Int)-1)*((s.length:Nat):Int)) (by dsimp only at j;omega) (by dsimp only at j;omega)]
theorem qpd(x y:Int): -1≤MP x y∧MP x y≤1:=by unfold MP;split<;>(try split)<;>omega
theorem qpf(x y:List UInt8): -1≤ZX x y∧ZX x y≤1:=by unfold ZX;split<;>(try split)<;>omega
theorem qkU{wp tp:Addr}{x y:List UInt8}(hw:w.cell? wp=some (.func (.func gN) #[] #[aH tp]))(hc:w.cell? tp=some (.map (some b)))(r:MapI w b ws)(hx:x.length≤24)(I:y.length≤24)(hl:ws.length≤1000000000):
  Calls P lG #[.string (kI x),.string (kI y),aH wp] w (fun e w'=>e=aW (aB (cfU (fun s=>ws.count s) x y))∧∃o,w'=w.drew.alloc o):=by
 have q:MapI w.drew b ws:=r.ch (Ev.drew0 w)
 refine SA ⟨fun w'=>w'.cell? wp=some (.func (.func gN) #[] #[aH tp]),hw,dE (fun w' h=>h) (dE (fun w' h=>h) (lQ rfl (by kernel_rfl) (show Calls P gN #[.string (kI y),aH tp] _ _ from qbm hc q I hl) ?_))⟩
 rintro _ _ ⟨rfl,rfl⟩
 refine⟨_,rfl,hw,lQ rfl (by kernel_rfl) (show Calls P gN #[.string (kI x),aH tp] _ _ from qbm hc q hx hl) ?_⟩
 rintro _ _ ⟨rfl,rfl⟩
 refine⟨_,rfl,hw,aO qgE ?_⟩
 rintro _ _ ⟨rfl,rfl⟩
 refine⟨_,rfl,hw,aO qgF ?_⟩
 rintro _ _ ⟨rfl,rfl⟩
 obtain⟨d1,A⟩:∃d,d=MP (OT (fun s=>ws.count s) y) (OT (fun s=>ws.count s) x):=⟨_,rfl⟩
 have r1:=qpd (OT (fun s=>ws.count s) y) (OT (fun s=>ws.count s) x)
 have r2:=qpf x y
 refine⟨_,rfl,hw,qtb [aB (MP (OT (fun s=>ws.count s) y) (OT (fun s=>ws.count s) x)),aB (ZX x y)] rfl rfl (by decide) (by decide) (fun v hv=>by simp at hv;rcases hv with rfl|rfl<;>rfl) fun v o C=>?_⟩
 have j:(w.drew.alloc o).cell? wp=some (.func (.func gN) #[] #[aH tp]):=(Ev.alloc w.drew o).cell hw fun h=>h
 have u:Nm .i64 (w.drew.alloc o) v [MP (OT (fun s=>ws.count s) y) (OT (fun s=>ws.count s) x),ZX x y]:=⟨Sl.of_ownS (sz:=1) C,fun z hz=>by
  have h1:IntKind.i64.min= -9223372036854775808:=by decide
  have h2:IntKind.i64.max=9223372036854775807:=by decide
  rw[h1,h2]
  simp at hz
  rcases hz with rfl|rfl<;>omega⟩
 refine⟨j,aO (qoR u) ?_⟩
 rintro _ _ ⟨rfl,rfl⟩
 exact⟨_,rfl,j,rfl,o,rfl⟩
noncomputable abbrev eS:TypeId:=dD P dU
abbrev Wd:={s:List UInt8//s.length≤24}
instance:Inhabited Wd:=⟨⟨[],by decide⟩⟩
def enW(x:Wd):Value:=.string (kI x.1)
def cfW(c:List UInt8→Nat)(x y:Wd):Int:=cfU c x.1 y.1
theorem qut(c:List UInt8→Nat):Sort.SWO (ltOf (cfW c)) where
 irrefl x:=KA c x.1
 trans x y z h1 h2:=EB (c:=c) (x:=x.1) (y:=y.1) (z:=z.1) h1 h2
 ntrans x y z h1 h2:=by
  have h1:AY c x.1 y.1=false:=h1
  have h2:AY c y.1 z.1=false:=h2
  show AY c x.1 z.1=false
  have:=qaK c z.1 y.1 x.1 (by rw[h2];rfl) (by rw[h1];rfl)
  simpa using this
theorem y3{α:Type}[Inhabited α](enc:α→Value)(d:Array α)(c:Array Value)(h:d.size≤c.size):(Sort.putCells enc 0 d c).size=c.size∧(Sort.putCells enc 0 d c).toList.take d.size=d.toList.map enc:=by
 refine⟨by simp [Sort.putCells],qbp fun i=>?_⟩
 by_cases hi:i<d.size
 ·rw[vW,if_pos hi,M8,jD,M8]
  simp only[Sort.putCells,Array.getElem?_mapIdx]
  rw[Array.getElem?_eq_getElem (by omega),Array.getElem?_eq_getElem hi]
  simp [hi]
 ·rw[I4 (by simp;omega),I4 (by simp;omega)]
theorem LK{α:Type}[Inhabited α]{enc:α→Value}{g m:Nat}{d:Array α}{os:Array Obj}{u:Array Value}{e:TypeId}{f:Nat×Nat}(hg:w.heap[g]?=some (.cells u e f)):
  Ch (Bk g) w (sortWorld enc w g 0 m d os)∧(sortWorld enc w g 0 m d os).heap[g]?=some (.cells (Sort.putCells enc 0 d u) e f):=by
 have j:∀k,k<w.heap.size→(sortWorld enc w g 0 m d os).heap[k]?=(w.heap[k]?).map fun o=>if k=g then Sort.onCells (Sort.putCells enc 0 d) o else o:=fun k hk=>by
  show(((w.heap.modify g (Sort.onCells (Sort.putCells enc 0 d)))++os))[k]?=_
  rw[Array.getElem?_append_left (by simpa using hk),Array.getElem?_modify]
  by_cases e:g=k
  ·subst e;simp
  ·rw[if_neg e];simp [Ne.symm e]
 have r:(sortWorld enc w g 0 m d os).heap[g]?=some (.cells (Sort.putCells enc 0 d u) e f):=by rw[j g (cR hg),hg];simp [Sort.onCells]
 refine⟨⟨rfl,rfl,rfl,?_,fun k hk hn=>?_,fun k c I J hc=>?_,fun k o hk C=>?_⟩,r⟩
 ·show w.heap.size≤(((w.heap.modify g (Sort.onCells (Sort.putCells enc 0 d)))++os)).size
  simp
 ·have A:k≠g:=fun h=>hn 0 h
  rw[j k hk];simp [A]
 ·by_cases q:k=g
  ·subst q
   rw[hg]at hc
   injection hc with hc
   injection hc with h1 h2 h3
   subst h1;subst h2;subst h3
   exact⟨_,r,by simp [Sort.putCells],fun i hi=>(hi rfl).elim⟩
  ·exact⟨c,by rw[j k (cR hc),hc];simp [q],rfl,fun _ _=>rfl⟩
 ·have q:k≠g:=qE hg hk C
  rw[j k (cR hk),hk];simp [q]
theorem qs6{v:Value}{wp tp:Addr}{ss:List (List UInt8)}{K:World→Prop}(f:Fr w0 w (lK eS 1 v ss.length (ss.map fun s=>Value.string (kI s))::F))(hs:∀s∈ss,s.length≤24)(hn:ss.length≤1000000000)
  (hw:aT wp [.func (.func gN) #[] #[aH tp]]∈F) (hc:aT tp [.map (some b)]∈F) (X:MapI w b ws) (hl:ws.length≤1000000000)
  (hk:∀w',MapI w' b ws→Fr w0 w' (lK eS 1 v ss.length ((ss.mergeSort fun x y=>!AY (fun s=>ws.count s) y x).map fun s=>Value.string (kI s))::F)→K w'):
  aE P mI jO #[v,.func (.func lG) #[] #[aH wp]] w K:=by
 have J:w.ownsRow 0 eS 1 v ss.length (ss.map fun s=>Value.string (kI s)):=f.get 0 rfl
 rcases qk6 J with⟨rfl,h0⟩|⟨g,c,rfl⟩
 ·have e0:ss=[]:=xI h0
  subst e0
  refine aO (Tryz.slices_SortFunc_none (α:=Unit) none 0 _ w) ?_
  rintro _ _ ⟨rfl,rfl⟩
  exact⟨rfl,hk _ X (by simpa using f)⟩
 obtain⟨C,hg,aa,Y,hcs,af,_⟩:=qk5 J
 obtain⟨d,hd⟩:∃d:Array Wd,d=(ss.attach.map fun s=>(⟨s.1,hs s.1 s.2⟩:Wd)).toArray:=⟨_,rfl⟩
 have M:d.toList.map (·.1)=ss:=by rw[hd];simp
 have T:d.size=ss.length:=by rw[←LW,←fE (·.1),M]
 have Z:d.toList.map enW=ss.map fun s=>Value.string (kI s):=by rw[←M,List.map_map];rfl
 have hH:Sort.Holds enW w g 0 d:=fun j hj=>by
  have h1:C[j]?=some (enW d[j]!):=by
   have:(C.toList.take (ss.length*1))[j]?=some (enW d[j]!):=by
    rw[af,←Z,jD,M8,Array.getElem?_eq_getElem hj]
    simp [hj]
   rw[vW,if_pos (by omega),M8]at this
   exact this
  refine⟨?_,?_⟩
  ·simp only[World.cell?,hg,vV];exact h1
  ·simp [World.frozen?,hg]
 have ab:∀{q:Addr} {u:Value},aT q [u]∈F→q.block≠g:=fun{q u} hq e=>by
  refine f.2.2.1 _ hq g (show Value.ownBlock _=some g from rfl) ?_
  exact e.symm
 have hcell:∀{q:Addr} {u:Value},aT q [u]∈F→w.cell? q=some u:=fun{q u} hq=>by
  have:=St.cell (j:=0) (u:=u) (f.mem (lL _ hq)).1 rfl
  rwa [Addr.add_zero']at this
 have I:CmpLays1 P lG #[aH wp] enW (cfW fun s=>ws.count s) g 0 d.size w:=fun m os dk ak x y=>by
  have r:=(LK (enc:=enW) (m:=m) (d:=dk) (os:=os) hg).1
  have keep:∀{q:Addr} {u:Value},aT q [u]∈F→(sortWorld enW w g 0 m dk os).cell? q=some u:=fun hq=>r.cell (hcell hq) (ab hq)
  refine(qkU (keep hw) (keep hc) (X.ch r) x.2 y.2 hl).mono ?_
  rintro e w' ⟨rfl,o,rfl⟩
  refine⟨rfl,1, #[o],?_⟩
  show _=Sort.grow _ _
  rw[←Sort.alloc_eq_grow];rfl
 have A:=Tryz.slices_SortFunc_total enW (fun _=>rfl) (cfW fun s=>ws.count s) (qut _) lG #[aH wp] g 0 c d w (BB (by kernel_rfl)) I hH (cR hg) (by omega) (fun x y h1 h2=>Subtype.ext (MY (c:=fun s=>ws.count s) h1 h2))
 rw[T]at A
 refine aO A ?_
 clear A I
 rintro _ w' ⟨rfl,n,os,V⟩
 refine⟨rfl,?_⟩
 obtain⟨O,N⟩:∃O:Array Wd,O=(d.toList.mergeSort fun x y=>!(ltOf (cfW fun s=>ws.count s)) y x).toArray:=⟨_,rfl⟩
 rw[←N]at V
 have ae:O.size=ss.length:=by rw[N];simp [←T]
 have ac:O.toList.map enW=(ss.mergeSort fun x y=>!AY (fun s=>ws.count s) y x).map fun s=>Value.string (kI s):=by
  have h1:(d.toList.mergeSort fun x y=>!(ltOf (cfW fun s=>ws.count s)) y x).map (·.1)=(d.toList.map (·.1)).mergeSort fun x y=>!AY (fun s=>ws.count s) y x:=List.map_mergeSort fun a _ b _=>rfl
  rw[M]at h1
  rw[←h1,N,List.map_map];rfl
 have aj:C.size=c:=by omega
 obtain⟨r,U⟩:=LK (enc:=enW) (m:=n) (d:=O) (os:=os) hg
 rw[←V]at r U
 obtain⟨p1,p2⟩:=y3 enW O C (by omega)
 rw[ae,ac]at p2
 have ok:w'.ownsRow 0 eS 1 (qnZ g ss.length c) ss.length ((ss.mergeSort fun x y=>!AY (fun s=>ws.count s) y x).map fun s=>Value.string (kI s)):=qsj U aa Y (by rw[p1,hcs]) (by rw[K6];exact p2)
 exact hk w' (X.ch r) (f.upd (jt:=lK eS 1 (qnZ g ss.length c) ss.length ((ss.mergeSort fun x y=>!AY (fun s=>ws.count s) y x).map fun s=>Value.string (kI s))) 0 rfl r (fun k _ hh=>.inl (by rw[hh];rfl)) ok fun k hk=>.inl hk)
end
end
section
open Go Go.RowKit Go.Maps
section
variable {w0 w:World} {F:List It} {b:Nat} {ws:List (List UInt8)}
theorem y5{D:Dt}{n:Nat}(h:w.ownsMap P bE RI b n D):(strKeys D).Nodup:=by
 obtain⟨es,rfl,hp,_⟩:=h.entries keyS
 obtain⟨j,he,hk⟩:=h.keysOf
 have he:es=j:=by injection he
 subst he
 unfold strKeys
 refine List.pairwise_map.2 (hp.imp_of_mem fun{p q} u A r e=>r ?_)
 obtain⟨v,hv⟩:=hk p u
 obtain⟨v2,hv2⟩:=hk q A
 obtain⟨x,_,hx,_⟩:=Maps.keyOf_str (by kernel_rfl) hv
 obtain⟨y,_,C,_⟩:=Maps.keyOf_str (by kernel_rfl) hv2
 rw[hx,C]at e⊢
 have:x=y:=e
 rw[this]
theorem MapI.kept{w':World}(h:MapI w b ws)(k:KeepsOthers w w'):MapI w' b ws:=by
 obtain⟨o,h1,h2⟩:=h.block
 exact h.keep fun o' j=>by rw[h1]at j;injection j with j;subst j;exact k.same _ _ h1 h2
theorem qiA{t:TypeId}{z:Value}{K:Addr→World→Prop}(h:Fr w0 w F)(hz:(P.info? t).bind (·.zero)=some z)(hk:∀ad w',KeepsOthers w w'→Fr w0 w' (aT ad z.cells.toList::F)→K ad w'):cD P t w K:=
 DY hz fun ad w' he ha _ hS=>hk ad w' he.others (h.new he hS fun k hk=>by have hk:k=ad.block:=hk;subst ha;dsimp only at hk;omega)
theorem Fr.leftW:∀{F G:List It},Fr w0 w (F++G)→Fr w0 w F
 |[],_,h=>h.old
 |_::_,_,h=>⟨h.1,h.2.1,fun jt hj=>h.2.2.1 jt (qbq _ hj),Fr.leftW h.2.2.2⟩
theorem qlJ{K:Value→World→Prop}(f:Fr w0 w F)(j:Value)(hm:j.cells= #[j])(hk:∀mb w',KeepsOthers w w'→(mb.off=0∧mb.spot=none)→Fr w0 w' (aT mb [j]::F)→K (.func (.func dR) #[] #[aH mb]) w'):aE P gO dM #[j] w K:=by
 refine aO (R:=fun e w'=>∃mb,e=aW (.func (.func dR) #[] #[aH mb])∧KeepsOthers w w'∧(mb.off=0∧mb.spot=none)∧Fr w0 w' (aT mb [j]::F)) (qG (V6 fun mb w1 he ha _ hS=>?_)) ?_
 ·have q:=f.new (jt:=aT mb j.cells.toList) he hS fun k hk=>by have hk:k=mb.block:=hk;subst ha;dsimp only at hk;omega
  rw[hm]at q
  exact⟨mb,rfl,he.others,by subst ha;exact⟨rfl,rfl⟩,q⟩
 ·rintro _ w' ⟨mb,rfl,h1,h2,q⟩
  exact⟨_,rfl,hk mb w' h1 h2 q⟩
theorem qmw{t:TypeId}{n:Nat}{j:Array (Nat×Value)}{K:Value→World→Prop}(us:List Value)(h:Fr w0 w F)(hp:j.toList=Q7 0 us)(hn:us.length=n)(h1:∀v∈us,v.cells= #[v])
  (hk:∀v w',KeepsOthers w w'→Fr w0 w' F→Sl w' 1 v n us→K v w') (hm:n≤1000000:=by decide) (ht:sl1 P t=true:=by kernel_rfl):eG P t n j w K:=
 qb1 us hp hn hm h1 (fun v w' he q=>hk v w' he.others (h.ev he) (Sl.of_ownS (sz:=1) q)) ht
theorem qms{t I:TypeId}{sz n m:Nat}{v y:Value}{cs ds:List Value}{K:Value→World→Prop}(b:Nat)(h:Fr w0 w F)(i:Nat)(hi:F[i]?=some (lK (dD P t) sz v n cs))(N:Sl w sz y m ds)(h1:∀u∈ds,u.oneCell'=true)(hb:(n+m)*b≤140737488355328)(hm:n+m≤maxLen)
  (hk:∀v' w',KeepsOthers w w'→Fr w0 w' (F.set i (lK (dD P t) sz v' (n+m) (cs++ds)))→K v' w') (ht:qfp P t sz b=true:=by kernel_rfl) (A:0<sz:=by decide):fV P #[t,t] I #[v,y] w K:=by
 obtain⟨hu,O,z,r,hz,hs,C,q⟩:=YI ht
 obtain⟨v',w',M,J,hc,j⟩:=AE (P:=P) t I hu r hz hs C A (h.get i hi) N h1 (nJ (qih _ q) hb) hm (bW _)
 refine⟨v',w',M,hk v' w' hc.others (h.upd i hi hc (fun k _ hh=>.inl hh) J fun k hk=>?_)⟩
 rcases j with j|j
 ·have hk:v'.ownBlock=some k:=hk
  rw[j]at hk;exact .inl hk
 ·exact .inr (j k hk)
theorem qbT{t:TypeId}{ad:Addr}{c u:Value}{K:World→Prop}(h:Fr w0 w F)(i:Nat)(hi:F[i]?=some (aT ad [c]))(hk:∀w',KeepsOthers w w'→Fr w0 w' (F.set i (aT ad [u]))→K w')(hu:u.oneCell'=true)(j:u.cells= #[u])(ht:BM P t=true:=by kernel_rfl):
  aL P t (aH ad) u w K:=
 xR (h.get i hi) (Nat.zero_lt_succ _) hu j (fun w' hc _ hS=>hk w' hc.others (h.upd i hi hc (fun k _ hh=>.inl hh.1) hS fun k hk=>.inl hk)) ht
def qqE(w:World)(ws:List (List UInt8))(e:Ending)(w':World):Prop:=∃(v:Value) (ss:List (List UInt8)),e=aW v∧ss.Nodup∧(∀x,x∈ss↔x∈ws)∧Fr w w' [lK eS 1 v ss.length (ss.map fun s=>Value.string (kI s))]
theorem qf0{mb:Addr}(hc:w.cell? mb=some (.map (some b)))(h0:mb.off=0∧mb.spot=none)(Z:MapI w b ws)(hl:ws.length≤1000000000):Calls P iH #[bR,.func (.func dR) #[] #[aH mb]] w (qqE w ws):=by
 obtain⟨D,O,hI,aa,J⟩:=Z
 obtain⟨g,o,sp⟩:=mb
 obtain⟨rfl,rfl⟩:=h0
 have ab:Maps.size D≤ws.length:=by
  obtain⟨es,j,_,_,h3,rfl⟩:=O
  have:Maps.size (DataW.map ((es.toList.map (WideElems.rg P bE RI)).foldr DataW.insert []))=es.size:=by
   simp [Maps.size,length_sorted]
  omega
 refine tR (mL (Fr.start w) fun Y w1 q=>?_)
 have q:Fr w w1 [aT Y [bR]]:=q
 have I:∀{w':World},Ev w w'→w'.ownsMap P bE RI b ws.length D:=fun{w'} he=>by
  obtain⟨es,j,h1,h2⟩:=O
  exact⟨es,j,he.oth _ _ h1 rfl,h2⟩
 have M:=AnyZ.keys_stops Tryz.laysKeys Fence.wide 4 trivial rfl (by decide) g b ws.length D w1 (World.block_lt_of_cell? w1 _ (q.old.cell hc fun h=>h)) (q.old.cell hc fun h=>h) (I q.old)
 refine⟨_,_,rfl,by kernel_rfl,List UInt8,encStr,KeepsWalks,_,_,Maps.size D,fun pre W=>∃v,Fr w W [lK eS 1 v pre.length (pre.map fun s=>Value.string (kI s)),aT Y [v]],M,fun h k=>walksK_t h k,fun W l o o' h1 h2 h3 h4=>walksK_b W l o o' h1 h2 h3 h4,?_,⟨_,q.nilR eS 1⟩,?_,?_⟩
 ·rintro pre W W' row ⟨v,A⟩ hg V
  exact⟨v,A.grownW hg fun r e=>⟨nJ q.old.size (V r e).1,(V r e).2⟩⟩
 ·rintro pre x W ⟨v,A⟩ U
  have hv:v.cells= #[v]∧v.oneCell'=true:=by
   have:=A.row 0 rfl
   obtain⟨a,c,rfl,_⟩:=this
   exact⟨rfl,rfl⟩
  refine dV (A.cell0W 1 rfl) (qmw [encStr x] A rfl rfl (fun u hu=>by rw[List.mem_singleton.1 hu];rfl) fun ah w4 k4 f4 s4=>?_)
  refine qms 16 (m:=1) f4 0 rfl s4 (fun u hu=>by rw[List.mem_singleton.1 hu];rfl) (by omega) (by unfold maxLen;omega) (fun v' w5 k5 f5=>?_) (by kernel_rfl)
  have N:v'.cells= #[v']∧v'.oneCell'=true:=by
   have:=f5.row 0 rfl
   obtain⟨a,c,rfl,_⟩:=this
   exact⟨rfl,rfl⟩
  refine qbT f5 1 rfl (fun w6 k6 f6=>?_) N.2 N.1
  have X:=k4.trans (k5.trans k6)
  refine⟨X,X.walks,v',?_⟩
  rw[bD,gQ]
  exact f6
 ·rintro DD xs W T ⟨hp,hx⟩ ⟨v,A⟩ C
  refine dV (A.cell0W 1 rfl) ⟨C,v,xs,rfl,?_,fun x=>?_,?_⟩
  ·exact hp.nodup_iff.2 (y5 O)
  ·rw[hx x,J x]
  ·exact(A.putObjW (nJ q.old.size T) C rfl).picksN 2 [0] (by decide) (by decide)
theorem qpp{mb wp tp:Addr}{K:Value→World→Prop}(f:Fr w0 w F)(h0:mb.off=0∧mb.spot=none)(hm:aT mb [.map (some b)]∈F)(hw:aT wp [.func (.func gN) #[] #[aH tp]]∈F)(hc:aT tp [.map (some b)]∈F)(J:MapI w b ws)(hl:ws.length≤1000000000)(r:∀s∈ws,s.length≤24)
  (hk:∀v w',MapI w' b ws→Fr w0 w' (lK eS 1 v (sP ws).length ((sP ws).map fun s=>Value.string (kI s))::F)→K v w'):
  aE P lF dM #[.func (.func dR) #[] #[aH mb],.func (.func lG) #[] #[aH wp]] w K:=by
 have hcell:∀{q:Addr} {u:Value},aT q [u]∈F→w.cell? q=some u:=fun{q u} hq=>by
  have:=St.cell (j:=0) (u:=u) (f.mem hq).1 rfl
  rwa [Addr.add_zero']at this
 refine aO (R:=fun e w'=>∃v,e=aW v∧MapI w' b ws∧Fr w0 w' (lK eS 1 v (sP ws).length ((sP ws).map fun s=>Value.string (kI s))::F)) (D4 (aO (R:=qqE w ws) (P7 (aO (qf0 (hcell hm) h0 J hl) ?_)) ?_)) ?_
 ·rintro e w1 ⟨v,ss,rfl,h⟩
  exact⟨v,rfl,v,ss,rfl,h⟩
 ·rintro _ w1 ⟨v,ss,rfl,hn,hx,g1⟩
  have N:=f.glue g1
  have M:ss.length≤ws.length:=by
   have:ss.Perm (dd ws):=qeX hn (KG ws) fun x=>by rw[hx x,VX]
   rw[this.length_eq,←(Z1 ws).length_eq];exact PZ ws
  refine⟨v,rfl,qs6 N (fun s hs=>r s ((hx s).1 hs)) (by omega) hw hc (J.ch g1.old) hl fun w2 A I=>?_⟩
  rw[qa3 hn hx]at I
  refine⟨v,rfl,A,?_⟩
  have C:ss.length=(sP ws).length:=by rw[←qa3 hn hx,(List.mergeSort_perm _ _).length_eq]
  rw[←C]
  exact I
 ·rintro _ w' ⟨v,rfl,h1,h2⟩
  exact⟨v,rfl,hk v w' h1 h2⟩
end
end
section
section
variable {w0 w:World} {F:List It}
theorem qpo{s d:TypeId}{l:List UInt8}{K:Value→World→Prop}(f:Fr w0 w F)(hl:l.length≤1000000)(hk:∀v w',KeepsOthers w w'→Fr w0 w' (tIt (dD P d) v (iU l)::F)→K v w')(ht:YL P s d=true:=by kernel_rfl):tC P s d dM (.string (kI l)) w K:=
 qd1 f (by rw[pN];omega) (fun v w' j hf=>hk v w' j (by rw[←qsl];exact hf)) ht
noncomputable abbrev eW:TypeId:=dD P aY
noncomputable abbrev eB1:TypeId:=dD P aA
noncomputable def wdP(v:Value)(T:List (Value×List Int)):List It:=lK eW 1 v T.length (T.map (·.1))::T.reverse.map fun u=>tIt eB1 u.1 u.2
theorem qoB{out v:Value}{T:List (Value×List Int)}{xs:List Int}{K:Value→World→Prop}(f:Fr w0 w (tIt eB1 v xs::wdP out T++F))(hl:T.length≤1000)(hk:∀j w',KeepsOthers w w'→Fr w0 w' (wdP j (T++[(v,xs)])++F)→K j w'):
  eG P aY 1 #[(0,v)] w fun q w5=>fV P #[aY,aY] aY #[out,q] w5 K:=by
 have hn:Nm .u8 w v xs:=Tx.nm (f.get 0 rfl)
 have A:v.oneCell'=true:=by obtain⟨a,c,rfl,_⟩:=hn.shape;rfl
 refine qmw [v] f rfl rfl (fun u hu=>by rw[List.mem_singleton.1 hu];exact hn.one) fun t5 w5 C f5 J=>?_
 refine qms 24 (m:=1) f5 1 rfl J (fun x hx=>by rw[List.mem_singleton.1 hx];exact A) (by omega) (by unfold maxLen;omega) (fun v' w6 I f6=>hk v' w6 (C.trans I) ?_) (by kernel_rfl)
 have r:=f6.picksN 2 [1,0] (by decide) (by decide)
 have e1:wdP v' (T++[(v,xs)])++F=lK eW 1 v' (T.length+1) (T.map (·.1)++[v])::tIt eB1 v xs::((T.reverse.map fun u=>tIt eB1 u.1 u.2)++F):=by
  unfold wdP;rw[gQ,bD,ZJ];rfl
 rw[e1];exact r
theorem qib{v:Value}{T:List (Value×List Int)}(f:Fr w0 w (wdP v T++F)):Sl w 1 v T.length (T.map (·.1))∧∀u∈T,Nm .u8 w u.1 u.2:=by
 refine⟨f.row 0 rfl,fun u hu=>Tx.nm (e:=eB1) ?_⟩
 have hm:tIt eB1 u.1 u.2∈wdP v T++F:=qbq _ (lL _ (List.mem_map.2 ⟨u,List.mem_reverse.2 hu,rfl⟩))
 exact(f.mem hm).1
def FindE(w:World)(L:List (List UInt8))(e:Ending)(w':World):Prop:=∃(v:Value) (T:List (Value×List Int)),e=aW v∧T.map (·.2)=L.map iU∧Fr w w' (wdP v T)
theorem qgO{ws:List (List UInt8)}{c:List UInt8→Bool}{k:Nat}(hk:k<ws.length):((ws.take (k+1)).filter c).take 64=if c ws[k]=true∧(((ws.take k).filter c).take 64).length<64 then((ws.take k).filter c).take 64++[ws[k]]else((ws.take k).filter c).take 64:=by
 rw[iV hk,List.filter_append]
 by_cases hc:c ws[k]=true
 ·rw[List.filter_cons_of_pos hc,List.filter_nil]
  by_cases hl:(((ws.take k).filter c).take 64).length<64
  ·rw[if_pos ⟨hc,hl⟩]
   have:((ws.take k).filter c).length<64:=by rw[eJ]at hl;omega
   rw[gI (l:=(ws.take k).filter c++[ws[k]]) (by simp;omega),gI (l:=(ws.take k).filter c) (by omega)]
  ·rw[if_neg fun h=>hl h.2]
   have:64≤((ws.take k).filter c).length:=by rw[eJ]at hl;omega
   rw[List.take_append_of_le_length this]
 ·rw[if_neg fun h=>hc h.1,List.filter_cons_of_neg hc,List.filter_nil,iW]
theorem qlG{b:Value}{xs:List Int}(hb:Nm .u8 w b xs)(hl:xs.length≤10000000):Calls P X6 #[b] w (FindE w (qaB (I3 xs))):=by
 obtain⟨W,hW⟩:∃W,W=I3 xs:=⟨_,rfl⟩
 have aa:=IX xs.length xs (cJ _)
 rw[←hW]at aa⊢
 refine u5 (qmF fun w1 e1 ae=>?_)
 obtain⟨B,hB⟩:∃B,B=w.heap.size:=⟨_,rfl⟩
 rw[←hB]at ae⊢
 refine qiA (z:=.map none) ((Fr.start w).ev e1) (by kernel_rfl) fun tp w2 k2 f2=>qbT f2 0 rfl (fun w3 k3 f3=>?_) rfl rfl
 have f3:Fr w w3 [aT tp [.map (some B)]]:=f3
 have aq:=(ae.kept k2).kept k3
 refine⟨fun b' w'=>∃(p:Nat) (ws:List (List UInt8)),p≤xs.length∧Nm .u8 w b' (xs.drop p)∧ws++I3 (xs.drop p)=W∧MapI w' B ws∧Fr w w' [aT tp [.map (some B)]],fun b' _=>(match b' with|.slice _ n _=>n|_=>0),⟨0,[],bW _,by rw[oL];exact hb,by rw[oL,hW];rfl,aq,f3⟩,?_⟩
 rintro _ b' w4 ⟨p,ws,hp,I,M,C,f4⟩
 have Y:=I.ev f4.old
 have bl:(xs.drop p).length=xs.length-p:=cQ
 have bd:ws.length≤xs.length:=by have:=congrArg List.length M;rw[bD]at this;omega
 refine aP Y (aG (fun ag=>?_) (fun bn=>?_))
 ·refine aO (qcP Y (by omega)) ?_
  rintro _ w5 ⟨rfl,ay⟩
  obtain rfl:w4=w5:=ay.symm
  have aw:=EM (xs.drop p)
  have av:xs.drop p≠[]:=fun h=>by rw[h]at ag;simp at ag
  obtain⟨n,hn⟩:∃n,n=lZ (xs.drop p):=⟨_,rfl⟩
  have Z:=QK av
  rw[←hn]at aw Z⊢
  refine⟨_,rfl,fun w'=>MapI w' B (ws++(if 3≤n∧n≤24 then [bU ((xs.drop p).take n)]else []))∧Fr w w' [aT tp [.map (some B)]],aG (fun h3=>aG (fun ao=>?_) (fun ao=>?_)) (fun h3=>?_),?_⟩
  ·refine⟨fun w'=>w'.cell? tp=some (.map (some B)),f4.drew.cell0W 0 rfl,dE (fun w' h=>h) (dJ (Y.drew) 0 n (.inl ⟨rfl,rfl⟩) (.inr ⟨_,rfl⟩) (bW _) (by omega) fun hs=>lA hs ⟨f4.drew.cell0W 0 rfl,?_⟩)⟩
   rw[qo3,oL,Z9]
   have N:(bU ((xs.drop p).take n)).length≤1000:=by rw[qlV,eJ];omega
   have O:MapI w4.drew B ws:=C.ch (Ev.drew0 w4)
   have bj:ws.count (bU ((xs.drop p).take n))≤ws.length:=List.count_le_length
   refine qb3 O N ⟨f4.drew.cell0W 0 rfl,qta O N (by omega) (by rw[aD (by omega) (by omega)]) fun w6 hg U=>?_⟩
   have f6:Fr w w6 [aT tp [.map (some B)]]:=f4.drew.grownW hg fun r e=>by
    injection e with e;subst e
    exact⟨by omega,O.block⟩
   refine⟨f6.cell0W 0 rfl,?_,f6⟩
   rw[if_pos (by omega)];exact U
  ·rw[if_neg (by omega),iW];exact⟨C,f4⟩
  ·rw[if_neg (by omega),iW];exact⟨C,f4⟩
  ·rintro _ w7 ⟨V,f7⟩
   have au:(if 1>((n:Nat):Int)then(1:Int)else((n:Nat):Int))=(((if 1>n then 1 else n):Nat):Int):=by split<;>split<;>omega
   obtain⟨m,hm⟩:∃m,m=(if 1>n then 1 else n):=⟨_,rfl⟩
   rw[au,←hm]
   rw[←hm]at Z
   have bp:1≤m∧m≤xs.length-p:=by rw[hm];split<;>omega
   refine dJ (I.ev f7.old) m (xs.drop p).length (.inr ⟨_,rfl⟩) (.inl ⟨rfl,rfl⟩) (by omega) (cJ _) fun hs=>?_
   have A:=I.sub m (xs.drop p).length (by omega) (cJ _)
   rw[gI (by rw[cQ];omega),U2]at A
   refine⟨⟨p+m,_,by omega,A,?_,V,f7⟩,?_⟩
   ·rw[gY,←U2,←Z];exact M
   ·obtain⟨a1,c1,e1,_⟩:=I.shape
    obtain⟨a2,c2,e2,_⟩:=A.shape
    rw[e2,e1]
    dsimp only
    rw[cQ,cQ];omega
 ·have ai:xs.drop p=[]:=xI (by omega)
  rw[ai,ZC,iW]at M
  subst M
  refine qiA (z:=.nilFunc) f4 (by kernel_rfl) fun wp w5 k5 f5=>qbT f5 0 rfl (fun w6 k6 f6=>?_) rfl rfl
  have f6:Fr w w6 [aT wp [.func (.func gN) #[] #[aH tp]],aT tp [.map (some B)]]:=f6
  have U:=(C.kept k5).kept k6
  refine dV (f6.cell0W 1 rfl) (qlJ f6 _ rfl fun mb w7 k7 h0 f7=>?_)
  have V:=U.kept k7
  refine qpp (mb:=mb) (wp:=wp) (tp:=tp) f7 h0 (by simp) (by simp) (by simp) V (by omega) (fun s hs=>(aa.2 s hs).2) fun v w8 ar f8=>?_
  obtain⟨S,hS⟩:∃S,S=sP ws:=⟨_,rfl⟩
  rw[←hS]at f8
  have bh:S.length≤ws.length:=by rw[hS];exact PZ ws
  have af:∀s∈S,s.length≤24:=fun s hs=>(aa.2 s (BS.1 (hS▸hs))).2
  refine cK (f8.row 0 rfl) ⟨fun out i w'=>∃(k:Nat) (T:List (Value×List Int)),i=(k:Int)∧k≤S.length∧T.map (·.2)=(((S.take k).filter fun s=>decide (1<ws.count s)).take 64).map iU∧MapI w' B ws∧Fr w w' (wdP out T++[lK eS 1 v S.length (S.map fun s=>Value.string (kI s)),aT tp [.map (some B)]]),fun _ i _=>(S.length-i).toNat,⟨0,[],rfl,bW _,rfl,ar,?_⟩,?_⟩
  ·have:=(f8.picksN 4 [0,3] (by decide) (by decide)).nilR eW 1
   exact this
  rintro _ out i w9 ⟨k,T,rfl,hk,hT,X,f9⟩
  have bi:T.length≤64:=by have:=congrArg List.length hT;rw[fE,fE,eJ]at this;omega
  have aj:∀{w':World} {out:Value} {T:List (Value×List Int)},Fr w w' (wdP out T++[lK eS 1 v S.length (S.map fun s=>Value.string (kI s)),aT tp [.map (some B)]])→Sl w' 1 v S.length (S.map fun s=>Value.string (kI s))∧w'.cell? tp=some (.map (some B)):=fun{w' out T} f=>by
   refine⟨Sl.of_ownS (sz:=1) (f.mem (it:=lK eS 1 v S.length (S.map fun s=>Value.string (kI s))) (by simp)).1,?_⟩
   have:=St.cell (j:=0) (u:=Value.map (some B)) (f.mem (it:=aT tp [.map (some B)]) (by simp)).1 rfl
   rwa [Addr.add_zero']at this
  refine aG (fun cR=>?_) (fun bm=>?_)
  ·have J:k<S.length:=by omega
   obtain⟨h1,h2⟩:=aj f9
   refine N7 h1 (by omega) (by omega) fun a u ak hc _=>?_
   have ax:u=.string (kI S[k]):=by
    rw[dH,jD,fR J]at ak
    simpa using ak.symm
   subst ax
   refine yF hc (dV h2 (qb3 X (by have:=af S[k] (kH J);omega) ?_))
   have q:=qgO (ws:=S) (c:=fun s=>decide (1<ws.count s)) J
   have ah:(((S.take k).filter fun s=>decide (1<ws.count s)).take 64).length=T.length:=by have:=congrArg List.length hT;simpa using this.symm
   rw[ah]at q
   have skip:¬((fun s=>decide (1<ws.count s)) S[k]=true∧T.length<64)→(∃(k':Nat) (T':List (Value×List Int)),i64 ((k:Int)+1)=(k':Int)∧k'≤S.length∧T'.map (·.2)=(((S.take k').filter fun s=>decide (1<ws.count s)).take 64).map iU∧MapI w9 B ws∧Fr w w9 (wdP out T'++[lK eS 1 v S.length (S.map fun s=>Value.string (kI s)),aT tp [.map (some B)]]))∧(S.length-i64 ((k:Int)+1)).toNat<(S.length-(k:Int)).toNat:=fun hn=>by
    rw[if_neg hn]at q
    exact⟨⟨k+1,T,by rw[aD (by omega) (by omega)];omega,by omega,by rw[q];exact hT,X,f9⟩,by rw[aD (by omega) (by omega)];omega⟩
   refine aG (fun hc1=>cK (qib f9).1 (aG (fun ap=>?_) (fun ap=>skip fun h=>by omega))) (fun hc1=>skip fun h=>by have:=of_decide_eq_true h.1;omega)
   rw[if_pos ⟨decide_eq_true (by omega),by omega⟩]at q
   refine qpo f9 (by have:=af S[k] (List.getElem_mem J);omega) fun u bu ba f10=>qoB f10 (by omega) fun be bv bb an=>⟨⟨k+1,_,by rw[aD (by omega) (by omega)];omega,by omega,?_,(X.kept ba).kept bb,an⟩,by dsimp only;rw[aD (by omega) (by omega)];omega⟩
   rw[q,gQ,gQ,hT];rfl
  ·obtain rfl:k=S.length:=by omega
   rw[qU]at hT
   refine⟨out,T,rfl,by rw[hT,hS];rfl,?_⟩
   exact f9.leftW
end
end
section
def SN(L:List (List Int)):List Int:=(L.map fun u=>eD u.length++u).flatten
theorem qlj{L:List (List Int)}{k:Nat}(hk:k<L.length):SN (L.take (k+1))=SN (L.take k)++eD L[k].length++L[k]:=by
 unfold SN
 rw[iV hk,gQ,LZ];simp
def K9(xs:List Int):List (List Int):=(qaB (I3 xs)).map iU
def OC(xs:List Int):List Int×Bool:=if K9 xs=[]∨xs.length>1048576 then([],false)else(eD (K9 xs).length++SN (K9 xs)++N2 (K9 xs) xs,true)
theorem qaC(ws:List (List UInt8)):(qaB ws).length≤64∧∀s∈qaB ws,s∈ws∧1<ws.count s:=by
 unfold qaB
 refine⟨by rw[eJ];omega,fun s hs=>?_⟩
 have:=List.mem_filter.1 (AK hs)
 exact⟨BS.1 this.1,of_decide_eq_true this.2⟩
theorem qmz(xs:List Int):(K9 xs).length≤64∧∀u∈K9 xs,3≤u.length∧u.length≤24:=by
 unfold K9
 refine⟨by rw[fE];exact(qaC _).1,fun u hu=>?_⟩
 obtain⟨s,hs,rfl⟩:=List.mem_map.1 hu
 rw[qrQ]
 exact(IX xs.length xs (cJ _)).2 s ((qaC _).2 s hs).1
theorem qin(L:List (List Int)):∀(f:Nat) (xs:List Int),xs.length≤f→(apS L f xs).length≤2*xs.length
 |0,xs,_=>by simp [apS]
 |f+1,xs,h=>by
  rw[apS]
  by_cases hx:xs=[]
  ·rw[if_pos hx];exact bW _
  ·have h0:0<xs.length:=List.length_pos_iff.2 hx
   have h1:=KD xs
   have h2:=qfD L xs
   have h3:mxR xs≤xs.length:=by unfold mxR;have:=EM xs;split<;>omega
   have j:=qin L f (xs.drop (mxR xs)) (by rw[cQ];omega)
   rw[cQ]at j
   rw[if_neg hx,bD];omega
theorem qgg(L:List (List Int))(xs:List Int):(N2 L xs).length≤2*xs.length:=qin L _ xs (cJ _)
theorem qfH{L:List (List Int)}(h:∀u∈L,u.length≤24):(SN L).length≤L.length*34:=by
 induction L with
 |nil=>simp [SN]
 |cons u L j=>
  have h1:=j fun x hx=>h x (lL _ hx)
  have h2:=h u xJ
  have h3:(eD u.length).length≤10:=fH (by omega)
  have e:SN (u::L)=eD u.length++u++SN L:=rfl
  rw[e,bD,bD,iO,mJ];omega
section
variable {w0 w:World} {F:List It}
theorem qoA{v:Value}{T:List (Value×List Int)}(f:Fr w0 w (wdP v T++F)):NL .u8 w v (T.map (·.2)):=by
 obtain⟨h1,h2⟩:=qib f
 refine⟨T.map (·.1),by rw[fE];exact h1,fun i u xs hu hx=>?_⟩
 rw[jD]at hu hx
 cases ht:T[i]? with
 |none=>rw[ht]at hu;cases hu
 |some t=>
  rw[ht]at hu hx
  simp at hu hx
  subst hu;subst hx
  exact h2 t (tM ht)
theorem FindE.nl{xs:List Int}{e:Ending}{w':World}(h:FindE w (qaB (I3 xs)) e w'):∃(v:Value) (T:List (Value×List Int)),e=aW v∧T.map (·.2)=K9 xs∧Fr w w' (wdP v T)∧NL .u8 w' v (K9 xs):=by
 obtain⟨v,T,rfl,j,f⟩:=h
 refine⟨v,T,rfl,j,f,?_⟩
 have:=qoA (F:=[]) (by rw[iW];exact f)
 rwa [j]at this
theorem qb0{v:Value}{L:List (List Int)}{K:Nat→Prop}(h:NL .u8 w v L)(hk:K L.length):bC P aY v K:=let⟨_,h1,_⟩:=h;cK h1 hk
theorem qlo{b:Value}{xs:List Int}(hb:Nm .u8 w b xs)(hl:xs.length≤10000000):Calls P vL #[b] w (TV w (OC xs)):=by
 refine u7 (aO (qlG hb hl) ?_)
 intro e w1 hF
 obtain⟨t9,T,rfl,U,V,I⟩:=hF.nl
 obtain⟨C,q⟩:=qmz xs
 have Y:=qgg (K9 xs) xs
 have Z:=qfH (L:=K9 xs) fun u hu=>(q u hu).2
 have no:(K9 xs=[]∨xs.length>1048576)→TV w (OC xs) (bP #[bR,.bool false]) w1:=fun h=>by
  unfold OC;rw[if_pos h];exact⟨_,rfl,V.old,ON.nil _ _ _ _⟩
 refine⟨t9,rfl,fun w'=>w'=w1∧¬(K9 xs=[]∨xs.length>1048576),qb0 I (jP (fun J=>aP (hb.ev V.old) (aG (fun am=>no (.inr (by omega))) (fun ao=>⟨rfl,fun h=>?_⟩))) (fun he=>no (.inl (xI (by omega))))),?_⟩
 ·rcases h with h|h
  ·rw[h]at J;exact J rfl
  ·omega
 rintro _ w2 ⟨ab,hok⟩
 obtain rfl:w1=w2:=ab.symm
 unfold OC
 rw[if_neg hok]
 obtain⟨L,hL⟩:∃L,L=K9 xs:=⟨_,rfl⟩
 rw[←hL]at U I C q Y Z hok⊢
 have aq:xs.length≤1048576:=by omega
 have A:∀{w':World} {G:List It},Fr w w' (G++wdP t9 T)→NL .u8 w' t9 L:=fun{w' G} f=>by
  have:=qoA (F:=[]) (by rw[iW];exact(by have h:=f.dropN G.length;rwa [List.drop_left' rfl]at h))
  rwa [U]at this
 refine qiE V fun o v w3 f3=>qb0 (A (G:=[_]) f3) ?_
 rw[show gD (L.length:Int)=(L.length:Int)by rw[dW];omega]
 refine c9 f3 0 rfl (by omega) (by simp) fun v4 w4 f4=>qb0 (A (G:=[_]) f4) ?_
 have f4:Fr w w4 (rN eB o v4 ([]++eD (L.length:Int).toNat)::wdP t9 T):=f4
 rw[sG,dH]at f4
 have ap:(eD L.length).length≤10:=fH (by omega)
 have M:∀k,(SN (L.take k)).length≤64*34:=fun k=>by
  have h1:=qfH (L:=L.take k) fun u hu=>(q u (AK hu)).2
  have h2:=kR 34 (show(L.take k).length≤64 by rw[eJ];omega)
  omega
 refine⟨fun i w'=>∃(k:Nat) (v':Value),i=(k:Int)∧k≤L.length∧Fr w w' (rN eB o v' (eD L.length++SN (L.take k))::wdP t9 T),fun i _=>(L.length-i).toNat,⟨0,v4,rfl,bW _,by simpa [SN]using f4⟩,?_⟩
 rintro _ i w5 ⟨k,v5,rfl,hk,f5⟩
 have an:=M k
 refine aG (fun cR=>?_) (fun al=>?_)
 ·have r:k<L.length:=by omega
  have hu:=q L[k] (kH r)
  have ak:T.length=L.length:=by rw[←U,fE]
  have X:T[k].2=L[k]:=by simp only[←U,LX]
  have wd:∀{w':World},Fr w w' (wdP t9 T)→Sl w' 1 t9 T.length (T.map (·.1))∧∀u∈T,Nm .u8 w' u.1 u.2:=fun f=>qib (F:=[]) (by rw[iW];exact f)
  refine N7 (wd (f5.dropN 1)).1 (by omega) (by omega) fun a u N hc _=>?_
  have aa:u=T[k].1:=by
   rw[dH,jD,fR (by omega)]at N
   simpa using N.symm
  subst aa
  refine dV hc ?_
  refine qgL (ys:=L[k]) f5 0 rfl (fun w' O=>by rw[←X];exact(wd O).2 T[k] (List.getElem_mem _)) (by rw[List.length_append];omega) fun v6 w6 f6=>⟨⟨k+1,v6,by rw[aD (by omega) (by omega)];omega,r,?_⟩,by dsimp only;rw[aD (by omega) (by omega)];omega⟩
  ·rw[qlj r];simpa [gY]using f6
 ·obtain rfl:k=L.length:=by omega
  rw[qU]at f5
  have af:(SN L).length≤64*34:=by have:=M L.length;rwa [qU]at this
  refine iY (qh9 (hb.ev f5.old) (by omega) (A (G:=[_]) f5)) fun t33 w7 ⟨h7,o7⟩=>?_
  rw[gI (show L.length≤64 by omega)]at o7
  have f7:=f5.newO h7 o7
  refine qiB [t33] f7 rfl rfl (fun u hu=>by rw[List.mem_singleton.1 hu];exact o7.nm.one) fun ar w8 f8=>?_
  refine qmx (yss:=[N2 L xs]) f8 2 rfl (fun w' O=>NL.of (O.sl 0 rfl) rfl fun j u ys hu hy=>?_) (by simp only[QN,List.flatten_nil,iW,bD];omega) (by simp) fun v9 w9 f9=>?_
  ·rcases j with _|j
   ·simp at hu hy;subst hu;subst hy;exact O.nm 1 rfl
   ·simp at hu
  ·simp only[QN,List.flatten_nil,iW]at f9
   refine qbQ f9 2 rfl (by simp only[bD];omega) fun y au f10=>⟨y,rfl,f10.old,f10.on 0 rfl⟩
end
end
section
def rL(xs:List Int)(a0:Nat):Nat→(List (List Int)×Nat)⊕Int
 |0=>.inl ([],a0)
 |j+1=>match rL xs a0 j with
  |.inr e=>.inr e
  |.inl s=>
   let t:=fZ xs s.2 0 24
   if t.2.2≠0 then .inr t.2.2
   else if t.1.length<3∨lZ t.1<t.1.length then .inr 4
   else .inl (s.1++[t.1],t.2.1)
def T6(xs:List Int)(limit:Int):List Int×Int:=
 let s:=jK xs 0 0 18446744073709551615
 if s.2.2≠0 then([],s.2.2)
 else if s.1<1∨s.1>64 then([],4)
 else match rL xs s.2.1 s.1.toNat with
  |.inr e=>([],e)
  |.inl c=>YZ c.1 (xs.drop c.2) (if 1048576<limit then 1048576 else limit)
theorem qfA{xs:List Int}{a:Nat}{er m:Int}(ha:a≤xs.length):(fZ xs a er m).2.1≤xs.length:=by
 unfold fZ
 dsimp only
 generalize(if 0>m then 0 else m)=j
 by_cases h:er≠0
 ·rw[if_pos h];exact ha
 ·rw[if_neg h]
  split
  ·exact ha
  ·exact M0 (KH ha)
theorem QF{xs:List Int}{a:Nat}:(fZ xs a 0 24).1.length≤24:=by
 unfold fZ
 dsimp only
 rw[if_neg (show ¬((0:Int)≠0)from fun h=>h rfl),if_neg (show ¬((0:Int)>24)by decide)]
 have hn:(jK xs a 0 24).1≤24:=by
  unfold jK
  rw[if_neg (show ¬((0:Int)≠0)from fun h=>h rfl)]
  split
  ·exact(by decide:(0:Int)≤24)
  ·split
   ·exact(by decide:(0:Int)≤24)
   ·rename_i h1 h2
    have:(tF xs a).2.2=0:=Decidable.byContradiction h2
    exact Decidable.byContradiction fun h3=>h1 ⟨this,Int.lt_of_not_ge h3⟩
 generalize jK xs a 0 24=q at*
 split
 ·exact bW _
 ·unfold eV
  split
  ·exact bW _
  ·split
   ·exact bW _
   ·rw[eJ];omega
theorem qbl{xs:List Int}{a0:Nat}(ha:a0≤xs.length):∀(j:Nat) {s:List (List Int)×Nat},rL xs a0 j=.inl s→s.1.length=j∧s.2≤xs.length∧∀u∈s.1,u.length≤24
 |0,s,h=>by
  rw[rL]at h;injection h with h;subst h
  exact⟨rfl,ha,fun u hu=>by cases hu⟩
 |j+1,s,h=>by
  rw[rL]at h
  split at h
  ·cases h
  ·rename_i s' q
   have r:=qbl ha j q
   dsimp only at h
   split at h
   ·cases h
   ·split at h
    ·cases h
    ·injection h with h;subst h
     refine⟨by simp [r.1],qfA r.2.1,fun u hu=>?_⟩
     rcases List.mem_append.1 hu with hu|hu
     ·exact r.2.2 u hu
     ·rw[List.mem_singleton.1 hu];exact QF
theorem qie{xs:List Int}{a0:Nat}{e:Int}{j:Nat}(h:rL xs a0 j=.inr e):∀k,j≤k→rL xs a0 k=.inr e:=by
 intro k hk
 induction k with
 |zero=>rw[show j=0 by omega]at h;exact h
 |succ k r=>
  by_cases q:j=k+1
  ·rw[←q];exact h
  ·rw[rL,r (by omega)]
section
variable {w0 w:World} {F:List It}
variable {G:List It}
theorem Fr.permW(hp:F.Perm G):Fr w0 w F→Fr w0 w G:=by
 induction hp with
 |nil=>exact fun h=>h
 |cons a hp u=>exact fun h=>⟨h.1,h.2.1,fun jt hj=>h.2.2.1 jt (hp.mem_iff.2 hj),u h.2.2.2⟩
 |swap a b l=>
  intro h
  refine⟨h.2.2.2.1,h.2.2.2.2.1,fun jt hj k hk j=>?_,h.1,h.2.1,fun jt hj=>h.2.2.1 jt (by simp [hj]),h.2.2.2.2.2.2⟩
  rcases List.mem_cons.1 hj with rfl|hj
  ·exact h.2.2.1 a (by simp) k j hk
  ·exact h.2.2.2.2.2.1 jt hj k hk j
 |trans _ _ q r=>exact fun h=>r (q h)
noncomputable def wdO(v:Value)(T:List (Value×List Int)):List It:=lK eW 1 v T.length (T.map (·.1))::T.reverse.map fun u=>bI .u8 eB u.1 u.2
theorem qoz{out v:Value}{T:List (Value×List Int)}{xs:List Int}{K:Value→World→Prop}(f:Fr w0 w (bI .u8 eB v xs::wdO out T++F))(hl:T.length≤1000)(hk:∀j w',Fr w0 w' (wdO j (T++[(v,xs)])++F)→K j w'):
  eG P aY 1 #[(0,v)] w fun q w5=>fV P #[aY,aY] aY #[out,q] w5 K:=by
 have hn:=f.nm 0 rfl
 have A:v.oneCell'=true:=by obtain⟨a,c,rfl,_⟩:=hn.shape;rfl
 refine qmw [v] f rfl rfl (fun u hu=>by rw[List.mem_singleton.1 hu];exact hn.one) fun t5 w5 I f5 C=>?_
 refine qms 24 (m:=1) f5 1 rfl C (fun x hx=>by rw[List.mem_singleton.1 hx];exact A) (by omega) (by unfold maxLen;omega) (fun v' w6 J f6=>hk v' w6 ?_) (by kernel_rfl)
 have r:=f6.picksN 2 [1,0] (by decide) (by decide)
 have e1:wdO v' (T++[(v,xs)])++F=lK eW 1 v' (T.length+1) (T.map (·.1)++[v])::bI .u8 eB v xs::((T.reverse.map fun u=>bI .u8 eB u.1 u.2)++F):=by
  unfold wdO;rw[gQ,bD,ZJ];rfl
 rw[e1];exact r
theorem qsx{v:Value}{T:List (Value×List Int)}(f:Fr w0 w (wdO v T++F)):NL .u8 w v (T.map (·.2)):=by
 refine⟨T.map (·.1),by rw[fE];exact f.row 0 rfl,fun i u xs hu hx=>?_⟩
 rw[jD]at hu hx
 cases ht:T[i]? with
 |none=>rw[ht]at hu;cases hu
 |some t=>
  rw[ht]at hu hx
  simp at hu hx
  subst hu;subst hx
  have hm:bI .u8 eB t.1 t.2∈wdO v T++F:=qbq _ (lL _ (List.mem_map.2 ⟨t,List.mem_reverse.2 (tM ht),rfl⟩))
  exact ON.nm (e:=eB) (B:=0) (f.mem hm).1
theorem qrH{ad:Addr}{y:Value}{xs:List Int}{a:Nat}{er n:Int}{K:Value→World→Prop}(f:Fr w0 w (aT ad [y,aB a,aB er]::bI .u8 eB y xs::F))(ha:a≤xs.length)(hl:xs.length≤10000000000)(hn:n≤9223372036854775807)
  (hk:∀z w',Fr w0 w' (aT ad [y,aB (fZ xs a er n).2.1,aB (fZ xs a er n).2.2]::bI .u8 eB y xs::bI .u8 eB z (fZ xs a er n).1::F)→K z w'):aE P gG dM #[aH ad,aB n] w K:=by
 refine aO (EK (f.rd 0 1 rfl rfl (by decide) ha hl) hn) ?_
 rintro _ w' ⟨z,rfl,h1,h2⟩
 refine⟨z,rfl,hk z w' ?_⟩
 have j:Fr w0 w' (aT ad [y,aB (fZ xs a er n).2.1,aB (fZ xs a er n).2.2]::bI .u8 eB y xs::F):=f.rs 0 rfl h1
 have hz:∀k,z.ownBlock=some k→w.heap.size≤k:=fun k hk=>(h2.base hk).1
 have cR:∀it∈(aT ad [y,aB (fZ xs a er n).2.1,aB (fZ xs a er n).2.2]::bI .u8 eB y xs::F),∀k,it.ft k→k<w.heap.size:=fun it hi k hk=>by
  rcases List.mem_cons.1 hi with rfl|hi
  ·exact It.lt (aT ad [y,aB a,aB er]) w k (f.get 0 rfl) hk
  ·exact It.lt it w k (f.mem (lL _ hi)).1 hk
 have q:=j.cons (jt:=bI .u8 eB z (fZ xs a er n).1) f.old.size cR (h2.low (bW _)) hz
 exact q.picksN 3 [1,2,0] (by decide) (by decide)
theorem QI{x:Value}{xs:List Int}{limit:Int}(hb:Nm .u8 w x xs)(hl:xs.length≤10000000):Calls P qD #[x,aB limit] w (yQ w (T6 xs limit)):=by
 refine SB (qau (Fr.start w) hb (by omega) fun ad y w1 f1=>qiF f1 (bW _) (by omega) fun w2 A=>?_)
 have ha:=KH (xs:=xs) (a:=0) (er:=0) (m:=18446744073709551615) (bW _)
 have Y:=(qF (xs:=xs) (a:=0) (er:=0) (most:=18446744073709551615) hb.2).1
 obtain⟨s,hs⟩:∃s,s=jK xs 0 0 18446744073709551615:=⟨_,rfl⟩
 unfold T6
 rw[←hs]at A ha Y⊢
 dsimp only
 have nil:∀{w':World} {e:Int} {R:List Int×Int},Ev w w'→R=([],e)→yQ w R (bP #[bR,aB e]) w':=fun h he=>by
  rw[he];exact⟨_,rfl,h,ON.nil _ _ _ _⟩
 refine⟨fun w'=>w'=w2∧s.2.2=0∧1≤s.1∧s.1≤64,PK A ha (by omega) (cA (fun M=>PK A ha (by omega) (nil A.old (by rw[if_pos M]))) (fun he=>cC (fun h1=>aG (fun I=>nil A.old (by rw[if_neg (by omega),if_pos (.inr I)])) (fun I=>⟨rfl,he,by omega,by omega⟩)) (fun h1=>nil A.old (by rw[if_neg (by omega),if_pos (.inl (by omega))])))),?_⟩
 rintro _ w3 ⟨Z,he,h1,I⟩
 obtain rfl:w2=w3:=Z.symm
 rw[if_neg (by omega),if_neg (by omega)]
 obtain⟨n,hn⟩:∃n:Nat,s.1=(n:Int):=⟨s.1.toNat,by omega⟩
 obtain⟨a0,ha0⟩:∃a0,a0=s.2.1:=⟨_,rfl⟩
 rw[he,←ha0]at A
 rw[←ha0]at ha⊢
 rw[hn,dH]
 obtain⟨C,j⟩:∃C,C=(match rL xs a0 n with|.inr e=>([],e)|.inl c=>YZ c.1 (xs.drop c.2) (if 1048576<limit then 1048576 else limit)):=⟨_,rfl⟩
 rw[←j]
 refine⟨fun out i w'=>∃(k:Nat) (T:List (Value×List Int)) (a:Nat),i=(k:Int)∧k≤n∧rL xs a0 k=.inl (T.map (·.2),a)∧Fr w w' (aT ad [y,aB a,aB 0]::bI .u8 eB y xs::wdO out T),fun _ i _=>(n-i).toNat,⟨0,[],a0,rfl,bW _,rfl,?_⟩,?_⟩
 ·exact(A.nilR eW 1).picksN 3 [1,2,0] (by decide) (by decide)
 rintro _ out i w4 ⟨k,T,a,rfl,hk,hW,f4⟩
 obtain⟨r1,r2,r3⟩:=qbl ha k hW
 have ah:T.length=k:=by rw[←r1,fE]
 refine aG (fun cR=>?_) (fun ai=>?_)
 ·refine qrH f4 r2 (by omega) (by decide) fun z w5 f5=>?_
  have J:=qfA (xs:=xs) (a:=a) (er:=0) (m:=24) r2
  have hsh:=QF (xs:=xs) (a:=a)
  have r:rL xs a0 (k+1)=if(fZ xs a 0 24).2.2≠0 then .inr (fZ xs a 0 24).2.2 else if(fZ xs a 0 24).1.length<3∨lZ (fZ xs a 0 24).1<(fZ xs a 0 24).1.length then .inr 4 else .inl (T.map (·.2)++[(fZ xs a 0 24).1],(fZ xs a 0 24).2.1):=by rw[rL,hW]
  obtain⟨t,ht⟩:∃t,t=fZ xs a 0 24:=⟨_,rfl⟩
  rw[←ht]at f5 J hsh r
  have q:∀{e:Int} {w':World},Ev w w'→rL xs a0 (k+1)=.inr e→yQ w C (bP #[bR,aB e]) w':=fun{e w'} hev h=>nil hev (by rw[j,qie h n (by omega)])
  refine PK f5 J (by omega) (cA (fun M=>PK f5 J (by omega) (q f5.old (by rw[r,if_pos M]))) (fun V=>?_))
  rw[if_neg (by omega)]at r
  have U:=f5.nm 2 rfl
  refine aP U (cC (fun h3=>aO (qcP U (by omega)) ?_) (fun h3=>q f5.old (by rw[r,if_pos (.inl (by omega))])))
  rintro _ w6 ⟨rfl,aa⟩
  obtain rfl:w5=w6:=aa.symm
  refine⟨_,rfl,aP U (aG (fun hr=>q f5.old (by rw[r,if_pos (.inr (by omega))])) (fun hr=>?_))⟩
  rw[if_neg (by omega)]at r
  rw[V]at f5
  have f7:Fr w w5 (bI .u8 eB z t.1::wdO out T++[aT ad [y,aB t.2.1,aB 0],bI .u8 eB y xs]):=
   (f5.picksN 3 [2,0,1] (by decide) (by decide)).permW (by
    have e:([aT ad [y,aB (t.2.1:Nat),aB 0],bI .u8 eB y xs]++wdO out T).Perm (wdO out T++[aT ad [y,aB (t.2.1:Nat),aB 0],bI .u8 eB y xs]):=DM
    exact List.Perm.cons (bI .u8 eB z t.1) e)
  refine qoz f7 (by omega) fun ac w8 f8=>⟨⟨k+1,T++[(z,t.1)],t.2.1,by rw[dW];omega,by omega,?_,?_⟩,by dsimp only;rw[dW];omega⟩
  ·rw[r,gQ];rfl
  ·exact f8.permW (DM (l₂:=[aT ad [y,aB (t.2.1:Nat),aB 0],bI .u8 eB y xs]))
 ·obtain rfl:k=n:=by omega
  rw[hW]at j
  dsimp only at j
  refine bQ (T0 (f4.rd 0 1 rfl rfl (by decide) r2 (by omega))) fun w5 h5=>?_
  have f5:=f4.ev h5
  refine PL f5 r2 (by omega) (by omega) fun z w6 f6=>?_
  have O:eV xs a 0 ((xs.length:Int)-(a:Nat))=(xs.drop a,xs.length,0):=by
   unfold eV
   by_cases h0:(xs.length:Int)-(a:Nat)≤0
   ·rw[if_pos (.inr h0),zN (by omega)]
    have:a=xs.length:=by omega
    rw[this]
   ·rw[if_neg (by omega),if_neg (by omega),gI (by rw[cQ];omega)]
    congr 2;omega
  rw[O]at f6
  have X:NL .u8 w6 out (T.map (·.2)):=qsx (F:=[]) (by rw[iW];exact f6.dropN 3)
  have N:∀u∈T.map (·.2),u.length≤100000:=fun u hu=>by have:=r3 u hu;omega
  refine aO (qlp (limit:=if 1048576<limit then 1048576 else limit) (f6.nm 2 rfl) (by rw[cQ];omega) X N) ?_
  rintro _ w7 ⟨v,rfl,h7,o7⟩
  rw[←j]at o7
  refine⟨v,_,rfl,v,by rw[j],f6.old.trans h7,o7.low f6.old.size⟩
end
end
def AP:List Int→Option Nat
 |[]=>none
 |a::r=>if a=13∧r.head?=some 10 then some 0 else(AP r).map (· +1)
def oJ:List Int→Nat
 |13::10::r=>1+oJ r
 |_::r=>oJ r
 |[]=>0
def DB:List Int→List Int
 |13::10::r=>10::DB r
 |c::r=>c::DB r
 |[]=>[]
theorem qeV{a:Int}{r:List Int}(h:¬(a=13∧r.head?=some 10)):oJ (a::r)=oJ r∧DB (a::r)=a::DB r:=by
 constructor
 ·rw[oJ]
  rintro r' rfl rfl;exact h ⟨rfl,rfl⟩
 ·rw[DB]
  rintro r' rfl rfl;exact h ⟨rfl,rfl⟩
theorem xT:∀{xs:List Int},AP xs=none→oJ xs=0∧DB xs=xs
 |[],_=>⟨rfl,rfl⟩
 |a::r,h=>by
  rw[AP]at h
  split at h
  ·cases h
  ·rename_i hn
   obtain⟨h1,h2⟩:=xT (Option.map_eq_none_iff.1 h)
   obtain⟨h3,h4⟩:=qeV hn
   rw[h3,h4,h1,h2];exact⟨rfl,rfl⟩
theorem tE:∀{xs:List Int} {i:Nat},AP xs=some i→i+2≤xs.length∧oJ xs=1+oJ (xs.drop (i+2))∧DB xs=xs.take i++10::DB (xs.drop (i+2))
 |[],_,h=>by cases h
 |a::r,i,h=>by
  rw[AP]at h
  split at h
  ·rename_i hc
   injection h with h;subst h
   obtain⟨rfl,q⟩:=hc
   cases r with
   |nil=>cases q
   |cons b r=>injection q with q;subst q;exact⟨by simp,rfl,rfl⟩
  ·rename_i hn
   rw[QP]at h
   obtain⟨j,hj,rfl⟩:=h
   obtain⟨h1,h2,h3⟩:=tE hj
   obtain⟨h4,h5⟩:=qeV hn
   rw[h4,h5,h2,h3]
   exact⟨by simp;omega,rfl,rfl⟩
theorem qh2{a b:Int}(ha:0≤a∧a<256)(hb:0≤b∧b<256):(UInt8.ofNat a.toNat==UInt8.ofNat b.toNat)=decide (a=b):=by
 by_cases h:a=b
 ·subst h;simp
 ·rw[decide_eq_false h]
  apply beq_eq_false_iff_ne.2
  intro e
  have e2:=congrArg UInt8.toNat e
  rw[UInt8.toNat_ofNat',UInt8.toNat_ofNat',zM (by omega),zM (by omega)]at e2
  omega
theorem VR:∀{xs:List Int},inR .u8 xs→Lib.index (Lib.bytesOf xs) (Lib.bytesOf [13,10])=(match AP xs with|none=> -1|some i=>(i:Int))
 |[],_=>rfl
 |a::r,h=>by
  have ha:=h.u8 (x:=a) (by simp)
  have j:inR .u8 r:=fun x hx=>h x (lL _ hx)
  have q:=VR j
  have hp:(Lib.bytesOf [13,10]).isPrefixOf (Lib.bytesOf (a::r))=decide (a=13∧r.head?=some 10):=by
   show(UInt8.ofNat (13:Int).toNat==UInt8.ofNat a.toNat&&(Lib.bytesOf [10]).isPrefixOf (Lib.bytesOf r))=_
   rw[qh2 (by decide) ha]
   cases r with
   |nil=>simp [Lib.bytesOf]
   |cons b r=>
    have hb:=j.u8 (x:=b) (by simp)
    show(_&&(UInt8.ofNat (10:Int).toNat==UInt8.ofNat b.toNat&&List.isPrefixOf [] _))=_
    rw[qh2 (by decide) hb]
    simp only[List.isPrefixOf_nil_left,Bool.and_true,List.head?_cons,Option.some.injEq]
    by_cases h1:a=13<;>by_cases h2:b=10<;>simp [h1,h2,eq_comm]
  have hu:Lib.index (Lib.bytesOf (a::r)) (Lib.bytesOf [13,10])=if(Lib.bytesOf [13,10]).isPrefixOf (Lib.bytesOf (a::r))then 0 else if Lib.index (Lib.bytesOf r) (Lib.bytesOf [13,10])== -1 then -1 else Lib.index (Lib.bytesOf r) (Lib.bytesOf [13,10])+1:=rfl
  rw[hu,hp,q,AP]
  by_cases hc:a=13∧r.head?=some 10
  ·rw[if_pos hc,if_pos (by simpa using hc)];rfl
  ·rw[if_neg hc,if_neg (by simpa using hc)]
   cases AP r with
   |none=>rfl
   |some i=>
    have:(((i:Int))== -1)=false:=beq_eq_false_iff_ne.2 (by omega)
    simp only[this,Option.map_some];simp
theorem qdT:∀(n:Nat) {xs:List Int},xs.length≤n→inR .u8 xs→Lib.count (Lib.bytesOf xs) (Lib.bytesOf [13,10])=oJ xs
 |n,xs,hn,h=>by
  have hi:=VR h
  cases hx:AP xs with
  |none=>
   rw[hx]at hi
   rw[Lib.count_miss hi,(xT hx).1]
  |some i=>
   rw[hx]at hi
   obtain⟨h1,h2,_⟩:=tE hx
   cases n with
   |zero=>omega
   |succ n=>
    rw[Lib.count_hit (by decide) hi,h2]
    have e:(Lib.bytesOf xs).drop (i+(Lib.bytesOf [13,10]).length)=Lib.bytesOf (xs.drop (i+2)):=by simp [Lib.bytesOf,List.map_drop]
    rw[e,qdT n (by rw[cQ];omega) (h.drop _)]
def qkd(c:Int)(xs:List Int):Nat:=xs.countP (fun x=>decide (x=c))
theorem JI{c:Int}(hc:0≤c∧c<256):∀{xs:List Int},inR .u8 xs→Lib.countByte (Lib.bytesOf xs) c.toNat.toUInt8=qkd c xs
 |[],_=>rfl
 |a::r,h=>by
  have ha:=h.u8 (x:=a) (by simp)
  have j:inR .u8 r:=fun x hx=>h x (lL _ hx)
  have q:=JI hc j
  unfold Lib.countByte qkd at*
  have e:Lib.bytesOf (a::r)=UInt8.ofNat a.toNat::Lib.bytesOf r:=rfl
  rw[e,List.count_cons,q,List.countP_cons]
  have:=qh2 ha hc
  rw[show(UInt8.ofNat a.toNat==c.toNat.toUInt8)=decide (a=c)from this]
section
section
variable {w:World} {b sep:Value} {xs:List Int}
def MaxL(w:World):Prop:=∃m:Int,w.cell? ⟨0,0,none⟩=some (aB m)
theorem maxL_of{w:World}(h:w.ShapedOpen P):MaxL w:=Tryz.laysM185.s1_3 w h
theorem MaxL.ev{w w':World}(h:MaxL w)(he:Ev w w'):MaxL w':=let⟨m,hm⟩:=h;⟨m,he.cell hm fun h=>h⟩
theorem Nm.at{k:IntKind}{ad:Addr}{n c:Nat}(h:Nm k w (.slice (some ad) n c) xs):n=xs.length∧n≤c∧∀i,i<n→w.cell? (ad.add i)=some (.int k (xs.getD i 0)):=by
 obtain⟨a,c',e,h1,h2,h3,h4⟩:=h.1
 injection e with e1 e2 e3
 subst e2
 refine⟨rfl,by omega,fun i hi=>h3 ad e1.symm i _ ?_⟩
 rw[jD,lH,fR hi];rfl
theorem Ev.drewN(w:World)(q:Nat):Ev w (w.drewN q):=⟨rfl,rfl,rfl,cJ _,fun _ _ _=>rfl,fun _ c _ _ h=>⟨c,h,rfl,fun _ _=>rfl⟩,fun _ _ h _=>h⟩
theorem qbL:∀y∈([13,10]:List Int),0≤y∧y<256:=fun y j=>by simp at j;rcases j with rfl|rfl<;>decide
def qpD(xs:List Int):Int:=match AP xs with|none=> -1|some i=>(i:Int)
theorem qgW{xs:List Int}(h:xs.length<2):qpD xs= -1:=by
 unfold qpD
 cases hx:AP xs with
 |none=>rfl
 |some i=>have:=(tE hx).1;omega
theorem UD(hb:Nm .u8 w b xs)(hs:Nm .u8 w sep [13,10])(j:MaxL w)(hl:xs.length≤1000000000):Calls P yG #[b,sep] w (fun e w'=>e=aW (aB (qpD xs))∧Ev w w'):=by
 obtain⟨m,j⟩:=j
 obtain⟨a1,r,rfl,hc1⟩:=hb.shape
 obtain⟨a2,u,rfl,hc2⟩:=hs.shape
 cases a2 with
 |none=>obtain⟨a,c,e,h1,h2,h3,h4⟩:=hs.1;injection e with e1 e2 e3;have:=h4 e1.symm;cases this
 |some a2=>
  cases a1 with
  |none=>
   have h0:xs.length=0:=by obtain⟨a,c,e,h1,h2,h3,h4⟩:=hb.1;injection e with e1 e2 e3;exact h4 e1.symm
   rw[qgW (by omega)]
   refine WH (aP hs (iR (iR (aP hb (cN (fun e=>?_) (fun _=>aP hb (aG (fun _=>⟨rfl,Ch.refl _ w⟩) (fun h=>?_))))))))
   ·simp at e;omega
   ·simp at h;omega
  |some a1=>
   have h1:=hb.at
   have h2:=hs.at
   refine(Tryz.bytes_Index_at a1 a2 xs.length r 2 u xs [13,10] m w rfl rfl (fun x hx=>hb.2.u8 hx) qbL h1.2.2 h2.2.2 hc1 (by omega) (by decide) j).mono fun e w' ⟨he,q,hw⟩=>⟨?_,by rw[hw];exact Ev.drewN w q⟩
   rw[he,VR hb.2];rfl
theorem OZ(hb:Nm .u8 w b xs)(hs:Nm .u8 w sep [13,10])(j:MaxL w)(hl:xs.length≤1000000000):Calls P mE #[b,sep] w (fun e w'=>e=aW (aB (oJ xs))∧Ev w w'):=by
 have r:=j
 obtain⟨m,j⟩:=j
 obtain⟨a1,u,rfl,hc1⟩:=hb.shape
 obtain⟨a2,A,rfl,hc2⟩:=hs.shape
 cases a2 with
 |none=>obtain⟨a,c,e,h1,h2,h3,h4⟩:=hs.1;injection e with e1 e2 e3;have:=h4 e1.symm;cases this
 |some a2=>
  cases a1 with
  |none=>
   have h0:xs.length=0:=by obtain⟨a,c,e,h1,h2,h3,h4⟩:=hb.1;injection e with e1 e2 e3;exact h4 e1.symm
   obtain rfl:=xI h0
   refine CJ (aP hs (iR (aP hs (iR ⟨fun v n w'=>v=.slice none 0 u∧n=0∧w'=w,fun _ _ _=>0,⟨rfl,rfl,rfl⟩,?_⟩))))
   rintro _ _ _ _ ⟨rfl,rfl,rfl⟩
   exact bQ (UD hb hs r (by simp)) fun w' h'=>qS ⟨rfl,h'⟩
  |some a1=>
   have h1:=hb.at
   have h2:=hs.at
   refine(Tryz.bytes_Count_at a1 a2 xs.length u 2 A xs [13,10] m w rfl rfl (fun x hx=>hb.2.u8 hx) qbL h1.2.2 h2.2.2 hc1 (by omega) (by decide) (by decide) j).mono fun e w' ⟨he,q,hw⟩=>⟨?_,by rw[hw];exact Ev.drewN w q⟩
   rw[he,qdT xs.length (cJ _) hb.2]
theorem qhS(hb:Nm .u8 w b xs){c:Int}(hc:0≤c∧c<256):(Extern.BytealgCount.count #[b,.int .u8 c]).run P w=.ok (aB (qkd c xs)) w:=by
 obtain⟨a1,j,rfl,hc1⟩:=hb.shape
 cases a1 with
 |none=>
  have h0:xs.length=0:=by obtain⟨a,c,e,h1,h2,h3,h4⟩:=hb.1;injection e with e1 e2 e3;exact h4 e1.symm
  obtain rfl:=xI h0
  exact Lib.run_countNil w 0 j c
 |some a1=>
  have h1:=hb.at
  rw[Lib.run_countAt w a1 xs.length j xs rfl h1.2.2 c,JI hc hb.2]
theorem OY{c:Int}(hb:Nm .u8 w b xs)(hs:Nm .u8 w sep [c]):Calls P mE #[b,sep] w (fun e w'=>e=aW (aB (qkd c xs))∧w'=w):=by
 have hc:=hs.2.u8 (x:=c) (by simp)
 exact CJ (aP hs (iR (aP hs (qS (dL hs (by decide) (by simp) fun ad j _=>bG j (qbY (e:=Extern.BytealgCount.count) (by kernel_rfl) (qhS hb hc) ⟨rfl,rfl⟩))))))
theorem LG:∀(n:Nat) (xs:List Int),xs.length≤n→(DB xs).length+oJ xs=xs.length
 |n,xs,hn=>by
  cases hx:AP xs with
  |none=>obtain⟨h1,h2⟩:=xT hx;rw[h1,h2];rfl
  |some i=>
   obtain⟨h1,h2,h3⟩:=tE hx
   cases n with
   |zero=>omega
   |succ n=>
    have:=LG n (xs.drop (i+2)) (by rw[cQ];omega)
    rw[h2,h3]
    simp only[bD,iO,eJ,cQ]at this⊢
    omega
theorem qbA{nw:Value}(hb:Nm .u8 w b xs)(hs:Nm .u8 w sep [13,10])(hn:Nm .u8 w nw [10])(hM:MaxL w)(hl:xs.length≤1000000000):Calls P zS #[b,sep,nw,aB (-1)] w (JC w (DB xs)):=by
 refine NH ⟨fun m w'=>m=(oJ xs:Int)∧Ev w w',qS (bQ (OZ hb hs hM hl) fun w' h'=>⟨rfl,h'⟩),?_⟩
 rintro _ _ w2 ⟨rfl,h2⟩
 refine cN (fun e0=>?_) (fun an=>⟨fun n w'=>n=(oJ xs:Int)∧w'=w2,iR ⟨rfl,rfl⟩,?_⟩)
 ·have M:AP xs=none:=by
   cases hx:AP xs with
   |none=>rfl
   |some i=>have:=(tE hx).2.1;omega
  rw[(xT M).2]
  exact qat (Fr.start w|>.ev h2) (hb.ev h2) (by omega) fun v w3 f3=>⟨v,rfl,f3.old,f3.on 0 rfl⟩
 rintro _ _ _ ⟨rfl,rfl⟩
 rename_i w2
 have aq:=LG xs.length xs (cJ _)
 obtain⟨L,hL⟩:∃L,L=(DB xs).length:=⟨_,rfl⟩
 refine aP hb (aP hn (aP hs ?_))
 have eL:i64 ((xs.length:Int)+i64 ((oJ xs:Int)*i64 (((1:Nat):Int)-((2:Nat):Int))))=(L:Int):=by
  rw[show i64 (((1:Nat):Int)-((2:Nat):Int))= -1 by decide,aD (n:=(oJ xs:Int)* -1) (by omega) (by omega),aD (by omega) (by omega)];omega
 have X:i64 ((xs.length:Int)+i64 ((oJ xs:Int)*i64 ((([10]:List Int).length:Int)-(([13,10]:List Int).length:Int))))=(L:Int):=eL
 rw[X]
 refine qko (k:=.u8) ((Fr.start w).ev h2) (by omega) fun g w3 f3=>aP hs (qS ?_)
 obtain⟨sa,sc,rfl,U⟩:=hb.shape
 refine⟨fun wv st t w'=>∃(j s p:Nat) (zs:List Int),t=j∧st=s∧wv=p∧j+oJ (xs.drop s)=oJ xs∧s≤xs.length∧zs.length=L∧p≤L∧DB xs=zs.take p++DB (xs.drop s)∧Fr w w' [qdH .u8 eB g zs],fun _ _ t _=>oJ xs-t.toNat,⟨0,0,0,_,rfl,rfl,rfl,by simp,by omega,by simp,by omega,by simp,f3⟩,?_⟩
 rintro _ _ _ _ w4 ⟨j,s,p,zs,rfl,rfl,rfl,hj,af,V,hp,r,f4⟩
 have Z:=hb.ev f4.old
 have C:=Z.sub s xs.length af (cJ _)
 rw[gI (by simp)]at C
 have ae:=LG _ (xs.drop s) (cJ _)
 have u:=congrArg List.length r
 rw[bD,eJ,vU (by omega),←hL]at u
 rw[cQ]at ae
 refine aG (fun cR=>?_) (fun am=>?_)
 ·refine iD (sz:=1) (l:=s) (h:=xs.length) (.inr ⟨_,rfl⟩) (.inl ⟨rfl,rfl⟩) (by omega) U ?_ (by kernel_rfl)
  refine bQ (UD C (hs.ev f4.old) (hM.ev f4.old) (by rw[cQ];omega)) fun w5 h5=>⟨fun _=>True,trivial,?_⟩
  have f5:=(f4.ev h5).drew
  unfold qpD
  cases hx:AP (xs.drop s)with
  |none=>have:=(xT hx).1;omega
  |some i=>
   obtain⟨g1,g2,g3⟩:=tE hx
   rw[cQ]at g1
   rw[U2]at g2 g3
   have T:=LG _ (xs.drop (s+(i+2))) (cJ _)
   rw[cQ]at T
   dsimp only
   rw[show i64 ((s:Int)+(i:Int))=((s+i:Nat):Int)by rw[aD (by omega) (by omega)];omega]
   have O:=hb.ev f5.old
   have I:=O.sub s (s+i) (by omega) (by omega)
   rw[MB]at I
   have aa:=congrArg List.length g3
   simp only[bD,iO,eJ,cQ]at aa
   refine iD (sz:=1) (l:=p) (h:=L) (.inr ⟨_,rfl⟩) (.inl ⟨rfl,rfl⟩) (by omega) (by omega) ?_ (by kernel_rfl)
   refine iD (sz:=1) (l:=s) (h:=s+i) (.inr ⟨_,rfl⟩) (.inr ⟨_,rfl⟩) (by omega) (by omega) ?_ (by kernel_rfl)
   refine qmu f5 0 rfl V hp (cJ _) I fun w6 m hm f6=>⟨trivial,?_⟩
   have ab:m=i:=by rw[hm,eJ,cQ];omega
   subst ab
   rw[gI (l:=(xs.drop s).take m) (by rw[eJ];omega)]at f6
   rw[show i64 ((p:Int)+(m:Int))=((p+m:Nat):Int)by rw[aD (by omega) (by omega)];omega]
   refine iD (sz:=1) (l:=p+m) (h:=L) (.inr ⟨_,rfl⟩) (.inl ⟨rfl,rfl⟩) (by omega) (by omega) ?_ (by kernel_rfl)
   have J:(zs.take p++(xs.drop s).take m++zs.drop (p+m)).length=L:=by simp;omega
   refine qmu f6 0 rfl J (by omega) (cJ _) (hn.ev f6.old) fun w7 q hq f7=>aP hs ?_
   have ac:q=1:=by rw[hq,N1];omega
   subst ac
   obtain⟨A,hA⟩:∃A,A=zs.take p++(xs.drop s).take m:=⟨_,rfl⟩
   have N:A.length=p+m:=by rw[hA];simp;omega
   rw[←hA,List.take_left' N]at f7
   rw[←hA]at J
   rw[show i64 (((p+m:Nat):Int)+((1:Nat):Int))=((p+m+1:Nat):Int)by rw[aD (by omega) (by omega)];omega,show i64 (((s+m:Nat):Int)+(([13,10]:List Int).length:Int))=((s+(m+2):Nat):Int)by show i64 (((s+m:Nat):Int)+((2:Nat):Int))=_;rw[aD (by omega) (by omega)];omega,aD (n:=(j:Int)+1) (by omega) (by omega)]
   refine⟨⟨j+1,s+(m+2),p+m+1,_,rfl,rfl,rfl,by omega,by omega,?_,by omega,?_,f7⟩,by omega⟩
   ·have:=J
    simp only[bD,cQ,ZF,List.take_nil,iO,ME]at this⊢
    omega
   ·rw[r,g3]
    have e1:(A++List.take 1 [(10:Int)]++(A++zs.drop (p+m)).drop (p+m+1)).take (p+m+1)=A++[10]:=by
     rw[show List.take 1 [(10:Int)]=[10]from rfl,List.take_left' (by simp [N])]
    rw[e1,hA];simp
 ·have ao:oJ (xs.drop s)=0:=by omega
  have M:AP (xs.drop s)=none:=by
   cases hx:AP (xs.drop s)with
   |none=>rfl
   |some i=>have:=(tE hx).2.1;omega
  rw[(xT M).2]at r u
  rw[cQ]at u
  have f5:=f4.drew
  refine⟨fun _=>True,trivial,?_⟩
  refine iD (sz:=1) (l:=p) (h:=L) (.inr ⟨_,rfl⟩) (.inl ⟨rfl,rfl⟩) (by omega) (by omega) ?_ (by kernel_rfl)
  refine iD (sz:=1) (l:=s) (h:=xs.length) (.inr ⟨_,rfl⟩) (.inl ⟨rfl,rfl⟩) (by omega) U ?_ (by kernel_rfl)
  refine qmu f5 0 rfl V hp (cJ _) C fun w6 m hm f6=>⟨trivial,?_⟩
  rw[cQ]at hm
  have ap:p+m=L:=by omega
  rw[show i64 ((p:Int)+(m:Int))=(L:Int)by rw[aD (by omega) (by omega)];omega]
  refine iD (sz:=1) (l:=0) (h:=L) (.inr ⟨_,rfl⟩) (.inr ⟨_,rfl⟩) (by omega) (by omega) ?_ (by kernel_rfl)
  have Y:0<L:=by
   cases hx:AP xs with
   |none=>have:=(xT hx).1;omega
   |some i=>rw[hL,(tE hx).2.2,bD,iO];omega
  rw[qcW Y]
  have ag:zs.take p++(xs.drop s).take m++zs.drop (p+m)=DB xs:=by
   rw[zN (l:=zs) (by omega),iW,gI (l:=xs.drop s) (by rw[cQ];omega),←r]
  rw[ag]at f6
  have hB:FB .u8 eB w6 g (DB xs):=f6.get 0 rfl
  have ho:=hB.on L (by omega)
  rw[←hL,gI (by omega)]at ho
  exact⟨_,rfl,f6.old,ho.low (f6.ft 0 rfl (k:=g) rfl).1⟩
theorem QT{j:Value}(hb:Nm .u8 w b xs)(hs:Nm .u8 w sep [13,10])(hn:Nm .u8 w j [10])(q:MaxL w)(hl:xs.length≤1000000000):Calls P sT #[b,sep,j] w (JC w (DB xs)):=
 FA (iY (qbA hb hs hn q hl) fun v w' ⟨h1,h2⟩=>⟨v,rfl,h1,h2⟩)
end
end
section
def qei(xs:List Int):Prop:=qkd 13 xs=oJ xs∧qkd 10 xs=oJ xs
instance (xs:List Int):Decidable (qei xs):=inferInstanceAs (Decidable (_∧_))
def MW(xs:List Int):List Int×Bool:=if xs.length≤1048576∧oJ xs≠0∧qei xs then(DB xs,true)else([],false)
def qh6(c:Int):List Int:=if c=10 then [13,10]else [c]
def SO(xs:List Int):List Int:=xs.flatMap qh6
def qll(xs:List Int)(most:Int):List Int×Int:=if 13∈xs then([],4)else if((SO xs).length:Int)>BQ most then([],5)else(SO xs,0)
theorem qov(xs:List Int)(i:Nat)(h:i<xs.length):SO (xs.take (i+1))=SO (xs.take i)++qh6 (rd xs i):=by
 unfold SO
 rw[iV h,dK xs i h,List.flatMap_append,List.flatMap_cons,List.flatMap_nil,iW]
theorem qqy(xs:List Int):(SO xs).length≤2*xs.length:=by
 induction xs with
 |nil=>simp [SO]
 |cons c r j=>
  have:SO (c::r)=qh6 c++SO r:=by unfold SO;rw[List.flatMap_cons]
  rw[this,bD,iO]
  have:(qh6 c).length≤2:=by unfold qh6;split<;>simp
  omega
theorem qou(xs:List Int){i:Nat}:(SO (xs.take i)).length≤(SO xs).length:=by
 have:SO xs=SO (xs.take i)++SO (xs.drop i):=by unfold SO;rw[←List.flatMap_append,MA]
 rw[this,bD];omega
section
variable {b:Value} {xs:List Int} {w:World}
theorem qjP(hb:Nm .u8 w b xs)(C:MaxL w)(hl:xs.length≤100000000):Calls P vF #[b] w (TV w (MW xs)):=by
 have j:∀{w':World},Ev w w'→¬(xs.length≤1048576∧oJ xs≠0∧qei xs)→TV w (MW xs) (bP #[bR,.bool false]) w':=fun he h=>by unfold MW;rw[if_neg h];exact⟨_,rfl,he,ON.nil _ _ _ _⟩
 have A:inR .u8 [13,10]:=fun x hx=>IZ (qbL x hx)
 have u:inR .u8 [13]:=fun x hx=>by simp at hx;subst hx;decide
 have q:inR .u8 [10]:=fun x hx=>by simp at hx;subst hx;decide
 refine s7 (jF [13,10] (Fr.start w) rfl rfl A fun s1 w1 r=>bQ (OZ (hb.ev r.old) (r.nm 0 rfl) (C.ev r.old) (by omega)) fun w2 h2=>⟨fun w'=>(xs.length≤1048576∧oJ xs≠0∧qei xs)∧Fr w w' [],jP (fun N=>?_) (fun h0=>j (r.ev h2).old (by omega)),?_⟩)
 ·have J:=(r.ev h2).drop 0
  refine jF [13] J rfl rfl u fun T w3 f3=>bX (OY (hb.ev f3.old) (f3.nm 0 rfl)) (iC (fun u=>?_) (fun h=>j f3.old fun hh=>h (by rw[hh.2.2.1])))
  have f3:=f3.drop 0
  refine jF [10] f3 rfl rfl q fun O w4 f4=>bX (OY (hb.ev f4.old) (f4.nm 0 rfl)) (iC (fun q=>aP hb (aG (fun I=>j f4.old (by omega)) (fun M=>⟨⟨by omega,by omega,by unfold qei;omega⟩,f4.drop 0⟩))) (fun h=>j f4.old fun hh=>h (by rw[hh.2.2.2])))
 ·rintro _ w3 ⟨hg,f3⟩
  refine jF [13,10] f3 rfl rfl A fun O w4 f4=>jF [10] f4 rfl rfl q fun U w5 f5=>?_
  refine qmt f5 (QT (hb.ev f5.old) (f5.nm 1 rfl) (f5.nm 0 rfl) (C.ev f5.old) (by omega)) fun v w6 f6=>?_
  unfold MW
  rw[if_pos hg]
  exact⟨v,rfl,f6.old,f6.on 0 rfl⟩
theorem OV{most:Int}(hb:Nm .u8 w b xs)(hl:xs.length≤100000000):Calls P qB #[b,aB most] w (yQ w (qll xs most)):=by
 unfold qll
 have q:(xs.any fun c=>(13:Int)==c)=true↔13∈xs:=by rw[List.any_eq_true];constructor;(rintro⟨x,hx,he⟩;rw[show(13:Int)=x by simpa using he];exact hx);exact fun h=>⟨13,h,by simp⟩
 refine RV (hZ (qbs hb (by omega)) (iQ (fun h=>?_) (fun h=>?_)))
 ·rw[if_pos (q.1 h)];exact⟨_,rfl,Ch.refl _ w,ON.nil _ _ _ _⟩
 ·rw[if_neg fun hh=>by rw[q.2 hh]at h;cases h]
  refine dX (z:=.agg #[bR]) (Fr.start w) (by kernel_rfl) fun ad w1 N=>?_
  have N:=N.asW (e:=eB) 0 rfl
  rw[Addr.add_zero' ad]
  have X:0≤BQ most:=by unfold BQ;split;omega;split<;>omega
  refine aP hb ⟨fun i w'=>∃(j:Nat) (v:Value),i=j∧j≤xs.length∧¬(((SO (xs.take j)).length:Int)>BQ most)∧Fr w w' [rN eB ad v (SO (xs.take j))],fun i _=>xs.length-i.toNat,⟨0,_,rfl,by omega,by simp [SO];omega,N⟩,?_⟩
  rintro _ i w2 ⟨j,v,rfl,hj,C,r⟩
  have T:=qqy (xs.take j)
  rw[eJ,vU hj]at T
  refine aG (fun cR=>?_) (fun Z=>?_)
  ·have I:j<xs.length:=by omega
   have hc:=jB hb.2 j
   have hs:=qov xs j I
   have U:=qou xs (i:=j+1)
   have hc1:inR .u8 [rd xs j]:=fun x hx=>by rw[List.mem_singleton.1 hx];exact IZ hc
   have O:inR .u8 [13]:=fun x hx=>by simp at hx;subst hx;decide
   have A:∀{v':Value} {w3:World},Fr w w3 [rN eB ad v' (SO (xs.take (j+1)))]→aE P jI kG #[aH ad,aB most] w3 fun(V:Bool) J=>aQ V (yQ w (if((SO xs).length:Int)>BQ most then([],5)else(SO xs,0)) (bP #[bR,aB 5]) J) ((∃(M:Nat) (v:Value),i64 ((j:Int)+1)=M∧M≤xs.length∧¬(((SO (xs.take M)).length:Int)>BQ most)∧Fr w J [rN eB ad v (SO (xs.take M))])∧xs.length-(i64 ((j:Int)+1)).toNat<xs.length-(j:Int).toNat):=fun{v' w3} f3=>by
    refine hZ (qeR (f3.get 0 rfl)) (aG (fun h=>?_) (fun h=>?_))
    ·rw[if_pos (by omega)];exact⟨_,rfl,f3.old,ON.nil _ _ _ _⟩
    ·rw[aD (n:=(j:Int)+1) (by omega) (by omega)]
     exact⟨⟨j+1,v',rfl,by omega,h,f3⟩,by omega⟩
   refine dL (hb.ev r.old) (by omega) cR fun a1 Y _=>bG Y (cN (fun u=>?_) (fun n10=>?_))
   ·refine C5 [13] rfl rfl O r (by omega) (by decide) fun v3 w3 f3=>C5 [rd xs j] rfl rfl hc1 f3 (by simp;omega) (by decide) fun v4 w4 f4=>A (v':=v4) ?_
    rw[hs];unfold qh6;rw[if_pos u]
    rw[gY,u]at f4;exact f4
   ·refine C5 [rd xs j] rfl rfl hc1 r (by omega) (by decide) fun v4 w4 f4=>A (v':=v4) ?_
    rw[hs];unfold qh6;rw[if_neg n10];exact f4
  ·obtain rfl:j=xs.length:=by omega
   have hW:Wr eB w2 ad v (SO (xs.take xs.length)):=r.get 0 rfl
   rw[Addr.add_zero' ad]at*
   refine dV (hW.1.cell (j:=0) rfl) ?_
   rw[qU]at hW C
   rw[if_neg C]
   refine⟨v,rfl,r.old,?_⟩
   exact qhw hW.2.1 fun g hg=>(r.ft 0 rfl (k:=g) (.inr hg)).1
end
end
noncomputable def tJ(t:Int)(xs:List Int):List Int×Bool:=
 if t=1 then XL xs else if t=2 then XN xs else if t=3 then(if Y5 xs=true then(qjc xs,true)else([],false))else if t=4 then OC xs else if t=5 then MW xs else UO xs
noncomputable def gX(t:Int)(xs:List Int)(most:Int):List Int×Int:=
 if t=1 then mQ xs most else if t=2 then kP xs most else if t=3 then ER xs most else if t=4 then T6 xs most else if t=5 then qll xs most else qlk xs most
theorem qjB{lim:Int}(hl:0≤lim):∀(f:Nat) (xs out:List Int),(out.length:Int)≤lim→((D8 lim f xs out).1.length:Int)≤lim
 |0,xs,out,h=>by rw[D8];exact h
 |f+1,[],out,h=>by rw[D8];exact h
 |f+1,c::r,out,h=>by
  have next:∀r' j,((YY lim f r' j).1.length:Int)≤lim:=fun r' j=>by
   unfold YY
   split
   ·exact hl
   ·exact qjB hl f r' j (by omega)
  by_cases h1:c=2∨c=3
  ·cases r with
   |nil=>rw[YV h1];exact hl
   |cons d r=>
    by_cases h2:c=2∧97≤d∧d≤122
    ·rw[YU h2];exact next _ _
    ·by_cases h3:c=3∧(d=2∨d=3)
     ·rw[YW h3];exact next _ _
     ·rw[LS h1 h2 h3];exact hl
  ·rw[YX h1];exact next _ _
theorem qos{L:List (List Int)}{lim:Int}(hl:0≤lim)(xs:List Int):∀(n k:Nat) (ys:List Int),xs.length-k≤n→(ys.length:Int)≤lim→((unS L lim (xs.drop k) ys).1.length:Int)≤lim
 |0,k,ys,hk,h=>by rw[zN (by omega),LR];exact h
 |n+1,k,ys,hk,h=>by
  by_cases j:k<xs.length
  ·rw[YT j]
   repeat' split
   all_goals first
    |exact hl
    |exact qos hl xs n _ _ (by omega) (by omega)
  ·rw[zN (by omega),LR];exact h
theorem qot(L:List (List Int))(x:List Int){limit:Int}(h:limit≤1048576):(YZ L x limit).1.length≤1048576:=by
 unfold YZ
 have h0:0≤(if 0>limit then 0 else limit)∧(if 0>limit then 0 else limit)≤1048576:=by split<;>omega
 have:=qos (L:=L.take 64) h0.1 x x.length 0 [] (by omega) h0.1
 rw[oL]at this
 omega
theorem qiY(most:Int):0≤BQ most∧BQ most≤1048576:=by unfold BQ;split<;>(try split)<;>omega
theorem QH{t:Int}{xs:List Int}{most:Int}(hx:inR .u8 xs):(gX t xs most).1.length≤1048576:=by
 unfold gX
 split
 ·rcases GG xs most hx qpy with h|h
  ·exact h.2.2
  ·rw[h.1];exact bW _
 split
 ·rcases LV xs most hx with h|h
  ·exact h.2.2
  ·rw[h.1];exact bW _
 split
 ·unfold ER
  dsimp only
  repeat' split
  all_goals first
   |exact bW _
   |(unfold LT;rw[dS,GF];exact LE (m:=1048576) (by omega))
 split
 ·unfold T6
  dsimp only
  repeat' split
  all_goals first
   |exact bW _
   |exact qot _ _ (by first|omega|decide)
 split
 ·unfold qll
  repeat' split
  ·exact bW _
  ·exact bW _
  ·have:=qiY most
   dsimp only
   omega
 ·unfold qlk
  have h1:=qiY most
  have:=qjB h1.1 (xs.length+1) xs [] (by simpa using h1.1)
  omega
noncomputable def yV(xs ts:List Int):Nat→List Int×List Int
 |0=>(xs,[])
 |k+1=>if(tJ (rd ts (k:Int)) (yV xs ts k).1).2=true∧(tJ (rd ts (k:Int)) (yV xs ts k).1).1.length≤1048576 then((tJ (rd ts (k:Int)) (yV xs ts k).1).1,(yV xs ts k).2++[rd ts (k:Int)])else yV xs ts k
noncomputable def N6(xs ts:List Int):List Int×List Int:=if iL ts=true then yV xs ts ts.length else(xs,[])
noncomputable def QX(ts:List Int)(most:Int):Nat→List Int→List Int×Int
 |0,x=>(x,0)
 |i+1,x=>if(gX (rd ts (i:Int)) x (if(i:Int)=0 then most else 1048576)).2≠0 then([],(gX (rd ts (i:Int)) x (if(i:Int)=0 then most else 1048576)).2)else QX ts most i (gX (rd ts (i:Int)) x (if(i:Int)=0 then most else 1048576)).1
noncomputable def rS(xs:List Int)(most:Int)(ts:List Int):List Int×Int:=
 if iL ts=true then(if ts.length=0∧(xs.length:Int)>(if 0>most then 0 else most)then([],5)else QX ts most ts.length xs)else([],1)
noncomputable def vY(xs ts:List Int):List Int×List Int:=
 if(rS (N6 xs ts).1 (xs.length:Int) (N6 xs ts).2).2=0∧(rS (N6 xs ts).1 (xs.length:Int) (N6 xs ts).2).1=xs then N6 xs ts else(xs,[])
theorem qea{xs ts:List Int}:∀{k:Nat},k≤ts.length→(yV xs ts k).2.Sublist (ts.take k)
 |0,_=>by simp [yV]
 |k+1,h=>by
  have j:=qea (xs:=xs) (ts:=ts) (k:=k) (by omega)
  rw[yV,iV (by omega),←dK ts k (by omega)]
  split
  ·exact j.append (List.Sublist.refl _)
  ·exact j.trans (List.sublist_append_left _ _)
theorem VI(xs ts:List Int):iL (N6 xs ts).2=true:=by
 unfold N6
 split
 ·rename_i h
  have:=qea (xs:=xs) (ts:=ts) (k:=ts.length) (cJ _)
  rw[qU]at this
  exact qhP this h
 ·rfl
theorem qeq(y:List Int)(m:Int):rS y m []=if(y.length:Int)>(if 0>m then 0 else m)then([],5)else(y,0):=by
 unfold rS
 rw[if_pos qhO]
 by_cases h:(y.length:Int)>(if 0>m then 0 else m)
 ·rw[if_pos ⟨rfl,h⟩,if_pos h]
 ·rw[if_neg fun hh=>h hh.2,if_neg h];rfl
theorem qan(xs ts:List Int):rS (vY xs ts).1 (xs.length:Int) (vY xs ts).2=(xs,0)∧iL (vY xs ts).2=true∧((vY xs ts).2=[]→(vY xs ts).1=xs)∧(iL ts=false→(vY xs ts).2=[]):=by
 have j:rS xs (xs.length:Int) []=(xs,0):=by
  rw[qeq,if_neg (by split<;>omega)]
 unfold vY
 split
 ·rename_i h
  refine⟨Prod.ext h.2 h.1,VI xs ts,fun he=>?_,fun q=>?_⟩
  ·have h1:=h.1
   have h2:=h.2
   rw[he,qeq]at h1 h2
   by_cases hc:((N6 xs ts).1.length:Int)>(if 0>(xs.length:Int)then 0 else(xs.length:Int))
   ·rw[if_pos hc]at h1;cases h1
   ·rw[if_neg hc]at h2;exact h2
  ·unfold N6;rw[if_neg (by rw[q];decide)]
 ·exact⟨j,rfl,fun _=>rfl,fun _=>rfl⟩
section
section
variable {w0 w:World} {F:List It}
theorem qp1(xs:List Int):tJ 1 xs=XL xs:=if_pos rfl
theorem qp2(xs:List Int):tJ 2 xs=XN xs:=by unfold tJ;rw[if_neg (by decide),if_pos rfl]
theorem qp3(xs:List Int):tJ 3 xs=(if Y5 xs=true then(qjc xs,true)else([],false)):=by unfold tJ;rw[if_neg (by decide),if_neg (by decide),if_pos rfl]
theorem qp4(xs:List Int):tJ 4 xs=OC xs:=by unfold tJ;rw[if_neg (by decide),if_neg (by decide),if_neg (by decide),if_pos rfl]
theorem qp5(xs:List Int):tJ 5 xs=MW xs:=by unfold tJ;rw[if_neg (by decide),if_neg (by decide),if_neg (by decide),if_neg (by decide),if_pos rfl]
theorem qp6(xs:List Int):tJ 6 xs=UO xs:=by unfold tJ;rw[if_neg (by decide),if_neg (by decide),if_neg (by decide),if_neg (by decide),if_neg (by decide)]
theorem qbc(xs:List Int)(m:Int):gX 1 xs m=mQ xs m:=if_pos rfl
theorem qbd(xs:List Int)(m:Int):gX 2 xs m=kP xs m:=by unfold gX;rw[if_neg (by decide),if_pos rfl]
theorem qbe(xs:List Int)(m:Int):gX 3 xs m=ER xs m:=by unfold gX;rw[if_neg (by decide),if_neg (by decide),if_pos rfl]
theorem qbf(xs:List Int)(m:Int):gX 4 xs m=T6 xs m:=by unfold gX;rw[if_neg (by decide),if_neg (by decide),if_neg (by decide),if_pos rfl]
theorem qbg(xs:List Int)(m:Int):gX 5 xs m=qll xs m:=by unfold gX;rw[if_neg (by decide),if_neg (by decide),if_neg (by decide),if_neg (by decide),if_pos rfl]
theorem qbh(xs:List Int)(m:Int):gX 6 xs m=qlk xs m:=by unfold gX;rw[if_neg (by decide),if_neg (by decide),if_neg (by decide),if_neg (by decide),if_neg (by decide)]
theorem qrO{t:Int}{out:Value}{xs:List Int}{K:Value→Bool→World→Prop}(ht:1≤t∧t≤6)(hb:Nm .u8 w out xs)(hl:xs.length≤10000000)(r:MaxL w)(hk:∀v w',Ev w w'→ON .u8 eB w' w.heap.size v (tJ t xs).1→K v (tJ t xs).2 w'):
  iB P (cpV t) (.tup [.one .val,.one .bool]) #[out] w K:=by
 have j:∀{f:FuncId} (hv:cpV t=.func (.func f) #[] #[]) (hok:zP P f=true),Calls P f #[out] w (TV w (tJ t xs))→iB P (cpV t) (.tup [.one .val,.one .bool]) #[out] w K:=fun hv hok h=>
  lQ (R:=TV w (tJ t xs)) hv hok (by simpa using h) fun e w' ⟨v,he,hev,q⟩=>⟨v,_,he,hk v w' hev q⟩
 rcases qsu ht with rfl|rfl|rfl|rfl|rfl|rfl
 ·exact j rfl (by kernel_rfl) (by rw[qp1];exact qj0 hb (by omega))
 ·exact j rfl (by kernel_rfl) (by rw[qp2];exact qlM hb (by omega))
 ·refine j rfl (by kernel_rfl) ((qld hb (by omega)).mono fun e w' ⟨hev,h⟩=>?_)
  rw[qp3]
  by_cases hok:Y5 xs=true
  ·rw[if_pos hok]at h⊢
   obtain⟨v,rfl,q⟩:=h
   exact⟨v,rfl,hev,q⟩
  ·rw[if_neg hok]at h⊢
   exact⟨_,h,hev,ON.nil _ _ _ _⟩
 ·exact j rfl (by kernel_rfl) (by rw[qp4];exact qlo hb (by omega))
 ·exact j rfl (by kernel_rfl) (by rw[qp5];exact qjP hb r (by omega))
 ·exact j rfl (by kernel_rfl) (by rw[qp6];exact qlF hb (by omega))
theorem qmH{t most:Int}{out:Value}{xs:List Int}{K:Value→Int→World→Prop}(ht:1≤t∧t≤6)(hb:Nm .u8 w out xs)(hl:xs.length≤10000000)(hm:most≤9223372036854775807)(hk:∀v w',Ev w w'→ON .u8 eB w' w.heap.size v (gX t xs most).1→K v (gX t xs most).2 w'):
  iB P (cuV t) (.tup [.one .val,.one (.int .i64)]) #[out,aB most] w K:=by
 have j:∀{f:FuncId} (hv:cuV t=.func (.func f) #[] #[]) (hok:zP P f=true),Calls P f #[out,aB most] w (yQ w (gX t xs most))→iB P (cuV t) (.tup [.one .val,.one (.int .i64)]) #[out,aB most] w K:=fun hv hok h=>
  lQ (R:=yQ w (gX t xs most)) hv hok (by simpa using h) fun e w' ⟨v,he,hev,q⟩=>⟨v,_,he,hk v w' hev q⟩
 rcases qsu ht with rfl|rfl|rfl|rfl|rfl|rfl
 ·exact j rfl (by kernel_rfl) (by rw[qbc];exact OW hb (by omega) qpy)
 ·exact j rfl (by kernel_rfl) (by rw[qbd];exact TY hb (by omega))
 ·exact j rfl (by kernel_rfl) (by rw[qbe];exact QC hb (by omega) hm)
 ·exact j rfl (by kernel_rfl) (by rw[qbf];exact QI hb (by omega))
 ·exact j rfl (by kernel_rfl) (by rw[qbg];exact OV hb (by omega))
 ·exact j rfl (by kernel_rfl) (by rw[qbh];exact TW hb (by omega))
end
end
section
theorem VH{xs ts:List Int}(h:xs.length≤10000000):∀k,(yV xs ts k).1.length≤10000000
 |0=>h
 |k+1=>by
  rw[yV]
  split
  ·rename_i hc
   dsimp only;omega
  ·exact VH h k
theorem qd9(xs ts:List Int):∀k,(yV xs ts k).2.length≤k
 |0=>cJ _
 |k+1=>by
  have:=qd9 xs ts k
  rw[yV]
  split
  ·dsimp only;rw[List.length_append,List.length_singleton];omega
  ·omega
theorem qmD{xs ts:List Int}(h:xs.length≤10000000):(N6 xs ts).1.length≤10000000:=by
 unfold N6;split
 ·exact VH h _
 ·exact h
section
variable {w0 w:World} {F:List It} {b tags:Value} {xs ts:List Int}
theorem qdn(hb:Nm .u8 w b xs)(ht:Nm .i64 w tags ts)(hl:xs.length≤10000000)(X:ts.length≤1000000)(N:MaxL w):Calls P zT #[b,tags] w (qlH w (N6 xs ts)):=by
 refine NI (iY (GU hb (by omega)) fun x w1 ⟨h1,Y⟩=>gC (U8 (ht.ev h1) (by omega)) fun w2 h2=>?_)
 have C:=((Fr.start w).newO h1 Y).ev h2
 refine oO (fun u=>?_) (fun u=>?_)
 ·have e:N6 xs ts=(xs,[]):=by unfold N6;rw[if_neg (by rw[u];decide)]
  rw[e]
  exact⟨x,_,rfl,C.old,C.on 0 rfl,ON.nil .i64 eN w2 _⟩
 have e:N6 xs ts=yV xs ts ts.length:=by unfold N6;rw[if_pos u]
 rw[e]
 refine aP ((ht.ev h1).ev h2) ⟨fun out j i w'=>∃k:Nat,i=(k:Int)∧k≤ts.length∧Fr w w' [bI .i64 eN j (yV xs ts k).2,bI .u8 eB out (yV xs ts k).1],fun _ _ i _=>(ts.length-i).toNat,⟨0,rfl,bW _,C.nil0 .i64 eN⟩,?_⟩
 rintro _ out j i w3 ⟨k,rfl,hk,f3⟩
 refine aG (fun cR=>uC (ht.ev f3.old) (by omega) (by omega) (gOf fun w4 h4=>dX (z:=.agg #[.nilFunc,.nilFunc]) (f3.ev h4) (by kernel_rfl) fun ad w5 f5=>cS f5 0 rfl (fun w6 f6=>?_) rfl (fun x hx=>?_))) (fun T=>?_)
 ·have f6:Fr w w6 (aT ad [cpV (rd ts (k:Int)),cuV (rd ts (k:Int))]::[bI .i64 eN j (yV xs ts k).2,bI .u8 eB out (yV xs ts k).1]):=f6
  have r:k<ts.length:=by omega
  have q:=f6.drop 0
  have q:Fr w w6 [bI .i64 eN j (yV xs ts k).2,bI .u8 eB out (yV xs ts k).1]:=q
  refine dY f6 0 0 rfl rfl (qrO (LH u r) (q.nm 1 rfl) (VH hl k) (N.ev q.old) fun v w7 M Z=>?_)
  have I:=q.newO M Z
  have O:=qd9 xs ts k
  have skip:¬((tJ (rd ts (k:Int)) (yV xs ts k).1).2=true∧(tJ (rd ts (k:Int)) (yV xs ts k).1).1.length≤1048576)→(∃A:Nat,i64 ((k:Int)+1)=(A:Int)∧A≤ts.length∧Fr w w7 [bI .i64 eN j (yV xs ts A).2,bI .u8 eB out (yV xs ts A).1])∧(ts.length-i64 ((k:Int)+1)).toNat<(ts.length-(k:Int)).toNat:=fun h=>by
   refine⟨⟨k+1,by rw[aD (by omega) (by omega)];omega,r,?_⟩,by rw[aD (by omega) (by omega)];omega⟩
   rw[yV,if_neg h]
   exact I.drop 0
  refine iQ (fun hp=>aP (I.nm 0 rfl) (aG (fun V=>?_) (fun U=>skip fun h=>by omega))) (fun hp=>skip fun h=>by rw[hp]at h;cases h.1)
  refine jF [rd ts (k:Int)] I rfl rfl (fun x hx=>?_) fun aa w8 f8=>vZ f8 2 rfl (f8.nm 0 rfl) (by simp;omega) fun v' w9 J=>⟨⟨k+1,by rw[aD (by omega) (by omega)];omega,r,?_⟩,by dsimp only;rw[aD (by omega) (by omega)];omega⟩
  ·rw[List.mem_singleton.1 hx]
   have:=LH u r
   have h1:IntKind.i64.min= -9223372036854775808:=by decide
   have h2:IntKind.i64.max=9223372036854775807:=by decide
   rw[h1,h2];omega
  ·rw[yV,if_pos ⟨hp,by omega⟩]
   exact J.picks [2,1] (by decide)
 ·simp at hx;rcases hx with rfl|rfl
  ·exact qbK _
  ·exact qbM _
 ·obtain rfl:k=ts.length:=by omega
  exact⟨out,j,rfl,f3.old,f3.on 1 rfl,f3.on 0 rfl⟩
theorem OU{x:Value}{most:Int}(hx:Nm .u8 w x xs)(ht:Nm .i64 w tags ts)(hl:xs.length≤10000000)(aa:ts.length≤1000000)(hm:most≤9223372036854775807):Calls P sK #[x,aB most,tags] w (yQ w (rS xs most ts)):=by
 refine NJ (gC (U8 ht (by omega)) fun w1 h1=>?_)
 refine oO (fun u=>?_) (fun u=>?_)
 ·have e:rS xs most ts=([],1):=by unfold rS;rw[if_neg (by rw[u];decide)]
  rw[e]
  exact⟨_,rfl,h1,ON.nil _ _ _ _⟩
 refine⟨fun w'=>w'=w1∧¬(ts.length=0∧(xs.length:Int)>(if 0>most then 0 else most)),aP (ht.ev h1) (cN (fun h0=>aP (hx.ev h1) (aG (fun hg=>?_) (fun hg=>⟨rfl,fun h=>hg h.2⟩))) (fun h0=>⟨rfl,fun h=>h0 (by omega)⟩)),?_⟩
 ·have e:rS xs most ts=([],5):=by unfold rS;rw[if_pos u,if_pos ⟨by omega,hg⟩]
  rw[e]
  exact⟨_,rfl,h1,ON.nil _ _ _ _⟩
 rintro _ w2 ⟨M,J⟩
 obtain rfl:w1=w2:=M.symm
 have eI:rS xs most ts=QX ts most ts.length xs:=by unfold rS;rw[if_pos u,if_neg J]
 rw[eI]
 refine iY (GU (hx.ev h1) (by omega)) fun out w3 ⟨h3,o3⟩=>aP ((ht.ev h1).ev h3) ?_
 have f3:=((Fr.start w).ev h1).newO h3 o3
 refine⟨fun out i w'=>∃(j:Nat) (X:List Int),i=(j:Int)-1∧j≤ts.length∧X.length≤10000000∧Fr w w' [bI .u8 eB out X]∧QX ts most ts.length xs=QX ts most j X,fun _ i _=>(i+1).toNat,⟨ts.length,xs,by rw[aD (by omega) (by omega)],cJ _,hl,f3,rfl⟩,?_⟩
 rintro _ out i w4 ⟨j,X,rfl,hj,Y,f4,A⟩
 refine aG (fun Z=>?_) (fun cR=>?_)
 ·obtain⟨i,rfl⟩:∃i,j=i+1:=⟨j-1,by omega⟩
  have hi:((i+1:Nat):Int)-1=(i:Int):=by omega
  rw[hi]
  refine⟨fun limit w'=>w'=w4∧limit=if(i:Int)=0 then most else 1048576,cN (fun h=>⟨rfl,(if_pos h).symm⟩) (fun h=>⟨rfl,(if_neg h).symm⟩),?_⟩
  rintro _ limit w5 ⟨N,r⟩
  obtain rfl:w4=w5:=N.symm
  have C:limit≤9223372036854775807:=by rw[r];split<;>omega
  refine uC (ht.ev f4.old) (by omega) (by omega) (gOf fun w6 h6=>dX (z:=.agg #[.nilFunc,.nilFunc]) (f4.ev h6) (by kernel_rfl) fun ad w7 U=>cS U 0 rfl (fun T f8=>?_) rfl (fun x hx=>?_))
  ·have f8:Fr w T (aT ad [cpV (rd ts (i:Int)),cuV (rd ts (i:Int))]::[bI .u8 eB out X]):=f8
   have q:=f8.drop 0
   have q:Fr w T [bI .u8 eB out X]:=q
   refine dY f8 0 1 rfl rfl (qmH (LH u (show i<ts.length by omega)) (q.nm 0 rfl) Y C fun v w9 O o9=>?_)
   refine cA (fun I=>?_) (fun he=>?_)
   ·have e:QX ts most ts.length xs=([],(gX (rd ts (i:Int)) X limit).2):=by rw[A,QX,←r,if_pos I]
    rw[e]
    exact⟨_,rfl,q.old.trans O,ON.nil _ _ _ _⟩
   ·have V:=(q.newO O o9).picks [0] (by decide)
    refine⟨⟨i,_,by rw[aD (by omega) (by omega)],by omega,Nat.le_trans (QH (q.nm 0 rfl).2) (by decide),V,?_⟩,by dsimp only;rw[aD (by omega) (by omega)];omega⟩
    rw[A,QX,←r,if_neg (by omega)]
  ·simp at hx;rcases hx with rfl|rfl
   ·exact qbK _
   ·exact qbM _
 ·obtain rfl:j=0:=by omega
  rw[A,QX]
  exact⟨out,rfl,f4.old,f4.on 0 rfl⟩
theorem qf3(hb:Nm .u8 w b xs)(ht:Nm .i64 w tags ts)(hl:xs.length≤10000000)(u:ts.length≤1000000)(J:MaxL w):Calls P pS #[b,tags] w (qlH w (vY xs ts)):=by
 refine RD (aO (qdn hb ht hl u J) ?_)
 rintro _ w1 ⟨x,d,rfl,h1,I,C⟩
 have q:=VI xs ts
 have M:=OJ q
 refine⟨_,_,rfl,aP (hb.ev h1) (aO (OU I.nm C.nm (qmD hl) (by omega) (by omega)) ?_)⟩
 rintro _ w2 ⟨y,rfl,h2,O⟩
 have j:=(hb.ev h1).ev h2
 have no:¬((rS (N6 xs ts).1 (xs.length:Int) (N6 xs ts).2).2=0∧(rS (N6 xs ts).1 (xs.length:Int) (N6 xs ts).2).1=xs)→aE P mD dM #[b] w2 fun(t33:Value) A=>qlH w (vY xs ts) (bP #[t33,bR]) A:=fun h=>by
  have e:vY xs ts=(xs,[]):=by unfold vY;rw[if_neg h]
  rw[e]
  exact iY (GU j (by omega)) fun z w3 ⟨h3,N⟩=>⟨z,_,rfl,(h1.trans h2).trans h3,N.low (h1.trans h2).size,ON.nil .i64 eN w3 _⟩
 refine⟨_,_,rfl,iC (fun he=>hZ (UZ O.nm j) (oO (fun h=>no fun hc=>of_decide_eq_false h hc.2) (fun h=>?_))) (fun r=>no fun hc=>r hc.1)⟩
 have e:vY xs ts=N6 xs ts:=by unfold vY;rw[if_pos ⟨he,of_decide_eq_true h⟩]
 rw[e]
 exact⟨x,d,rfl,h1.trans h2,I.ev h2,C.ev h2⟩
def txB(c:Int):Bool:=decide (32≤c∧c≤126∨c=9∨c=10∨c=13)
def B9(xs:List Int):List Int:=
 if(nZ xs).2=true then [1]else if(sX xs).2=true then [2]else if 10*((xs.countP txB:Nat):Int)>9*(xs.length:Int)then [5,6,4]else if Z6 xs≠0 then [3]else []
theorem qmm(xs:List Int):(B9 xs).length≤3:=by unfold B9;(repeat' split)<;>simp
theorem qdR{xs:List Int}{k:Nat}(hk:k<xs.length):(xs.take (k+1)).countP txB=(xs.take k).countP txB+if txB (rd xs (k:Int))=true then 1 else 0:=by
 rw[iV hk,List.countP_append,dK xs k hk]
 simp [List.countP_cons,List.countP_nil]
theorem qlg{c:Int}:Calls P O0 #[.int .u8 c] w (fun e w'=>e=aW (.bool (txB c))∧w'=w):=by
 have h2:aQ (!(c==9)) (aQ (!(c==10)) (Ending.returned (.bool (c==13))=aW (.bool (decide (c=9∨c=10∨c=13)))∧w=w) (Ending.returned (.bool true)=aW (.bool (decide (c=9∨c=10∨c=13)))∧w=w)) (Ending.returned (.bool true)=aW (.bool (decide (c=9∨c=10∨c=13)))∧w=w):=by
  refine jP (fun h1=>jP (fun h2=>⟨?_,rfl⟩) (fun h2=>⟨?_,rfl⟩)) (fun h1=>⟨?_,rfl⟩)
  ·congr 2
   by_cases h:c=13
   ·subst h;rfl
   ·rw[decide_eq_false (by omega)];simpa using h
  ·rw[decide_eq_true (by omega)]
  ·rw[decide_eq_true (by omega)]
 refine WJ (aG (fun h1=>cC (fun h3=>?_) (fun h3=>⟨?_,rfl⟩)) (fun h1=>?_))
 ·rw[show txB c=decide (c=9∨c=10∨c=13)from decide_eq_decide.2 (by omega)];exact h2
 ·rw[show txB c=true from decide_eq_true (by omega)]
 ·rw[show txB c=decide (c=9∨c=10∨c=13)from decide_eq_decide.2 (by omega)];exact h2
theorem qf6(hb:Nm .u8 w b xs)(hl:xs.length≤100000000):Calls P pT #[b] w (qrh w (B9 xs)):=by
 refine RE (qaF (QL hb (by omega)) fun w1 h1=>qbU ((Fr.start w).ev h1) fun t3 w2 O=>qgM O 0 rfl rfl fun w3 f3=>iQ (fun hw=>?_) (fun hw=>?_))
 ·refine jF [1] f3 rfl rfl (fun x hx=>by rw[List.mem_singleton.1 hx];decide) fun v w4 f4=>⟨v,rfl,f4.old,?_⟩
  rw[show B9 xs=[1]by unfold B9;rw[if_pos hw]]
  exact f4.nm 0 rfl
 refine E1 (qae (hb.ev f3.old) (by omega)) fun w5 h5=>C0 (f3.ev h5) fun t5 w6 f6=>DV f6 0 rfl rfl fun M q=>iQ (fun hp=>?_) (fun hp=>?_)
 ·refine jF [2] q rfl rfl (fun x hx=>by rw[List.mem_singleton.1 hx];decide) fun v N f8=>⟨v,rfl,f8.old,?_⟩
  rw[show B9 xs=[2]by unfold B9;rw[if_neg (by rw[hw];decide),if_pos hp]]
  exact f8.nm 0 rfl
 have j:=hb.ev q.old
 have A:∀k:Nat,(xs.take k).countP txB≤k:=fun k=>nJ List.countP_le_length (by rw[eJ];omega)
 refine aP j ⟨fun n i w'=>∃k:Nat,i=(k:Int)∧k≤xs.length∧n=(((xs.take k).countP txB:Nat):Int)∧w'=M,fun _ i _=>(xs.length-i).toNat,⟨0,rfl,bW _,rfl,rfl⟩,?_⟩
 rintro _ n i U ⟨k,rfl,hk,rfl,I⟩
 obtain rfl:M=U:=I.symm
 have u:=A k
 refine aG (fun cR=>uC j (by omega) (by omega) (hZ qlg (iQ (fun h=>?_) (fun h=>?_)))) (fun T=>?_)
 ·exact⟨⟨k+1,by rw[aD (by omega) (by omega)];omega,by omega,by rw[qdR (by omega),if_pos h,aD (by omega) (by omega)];omega,rfl⟩,by dsimp only;rw[aD (n:=(k:Int)+1) (by omega) (by omega)];omega⟩
 ·exact⟨⟨k+1,by rw[aD (by omega) (by omega)];omega,by omega,by rw[qdR (by omega),if_neg (by rw[h];decide)];rfl,rfl⟩,by dsimp only;rw[aD (n:=(k:Int)+1) (by omega) (by omega)];omega⟩
 ·obtain rfl:k=xs.length:=by omega
  rw[qU]at u⊢
  have d0:B9 xs=if 10*((xs.countP txB:Nat):Int)>9*(xs.length:Int)then [5,6,4]else if Z6 xs≠0 then [3]else []:=by unfold B9;rw[if_neg (by rw[hw];decide),if_neg (by rw[hp];decide)]
  refine aP j ?_
  rw[aD (n:=10*((xs.countP txB:Nat):Int)) (by omega) (by omega),aD (n:=9*(xs.length:Int)) (by omega) (by omega)]
  refine aG (fun hg=>?_) (fun hg=>bQ (qai j (by omega)) fun J r=>cA (fun C=>?_) (fun he=>?_))
  ·refine jF [5,6,4] q rfl rfl (fun x hx=>by simp at hx;rcases hx with rfl|rfl|rfl<;>decide) fun v N f8=>⟨v,rfl,f8.old,?_⟩
   rw[d0,if_pos hg]
   exact f8.nm 0 rfl
  ·refine jF [3] (q.ev r) rfl rfl (fun x hx=>by rw[List.mem_singleton.1 hx];decide) fun v N f8=>⟨v,rfl,f8.old,?_⟩
   rw[d0,if_neg hg,if_pos C]
   exact f8.nm 0 rfl
  ·refine⟨_,rfl,q.old.trans r,?_⟩
   rw[d0,if_neg hg,if_neg (by omega)]
   exact(ON.nil .i64 eN J 0).nm
end
end
section
theorem qfr{a b:List En}(h:a.Perm b):jV a=jV b:=by
 have h1:(a.any fun x=>!iA x.1)=(b.any fun x=>!iA x.1):=by
  rw[Bool.eq_iff_iff,List.any_eq_true,List.any_eq_true]
  exact⟨fun⟨x,hx,j⟩=>⟨x,h.mem_iff.1 hx,j⟩,fun⟨x,hx,j⟩=>⟨x,h.mem_iff.2 hx,j⟩⟩
 have h2:(a.map (·.1)).Nodup↔(b.map (·.1)).Nodup:=(h.map (·.1)).nodup_iff
 unfold jV
 rw[h1,qaN h]
 by_cases h3:(b.any fun x=>!iA x.1)=true
 ·rw[if_pos h3,if_pos h3]
 ·rw[if_neg h3,if_neg h3]
  by_cases h4:(b.map (·.1)).Nodup
  ·rw[if_neg (not_not_intro (h2.2 h4)),if_neg (not_not_intro h4)]
   have e:qft a=qft b:=qbi ((qcT a).up (((yA a).map (·.1)).nodup_iff.2 (h2.2 h4))) ((yA a).trans h)
   rw[e]
  ·rw[if_pos (fun h5=>h4 (h2.1 h5)),if_pos h4]
theorem qmh(xs ts:List Int):(vY xs ts).2.length≤10:=by
 have:=OJ (qan xs ts).2.1;omega
noncomputable def AC(auto:Bool)(ts:List Int)(level block:Int)(locked:Bool)(ns j rounds:Int)(l:List En):List Int×Int:=R4 (OS vY auto ts B9) (qV level) auto ts level block locked ns j rounds l
theorem qha{tr:En→List Int×List Int}{blk:List Int→List Int}{auto:Bool}{ts:List Int}{level block:Int}{locked:Bool}{ns j rounds:Int}{a b:List En}(h:a.Perm b):R4 tr blk auto ts level block locked ns j rounds a=R4 tr blk auto ts level block locked ns j rounds b:=by
 unfold R4;rw[qfr h]
section
variable {w0 w:World} {F:List It}
theorem DS{lv cv sv u:Value}{us:List E3}{auto locked:Bool}{level block rounds:Int}{ts ss ns:List Int}(A:Es w lv us)(hs:Small us)(hc:Nm .i64 w cv ts)(r:Nm .u8 w sv ss)(q:Nm .u8 w u ns)(j:ts.length≤1000000)(C:MaxL w):
  Calls P sR #[lv,.agg #[.bool auto,cv,aB level,aB block,.bool locked,sv,u,aB rounds]] w (yQ w (AC auto ts level block locked ss.length ns.length rounds (us.map er))):=
 qlK (ch:=vY) (dF:=B9) (blk:=qV level) A hs hc r q j (fun M xs=>qmh xs M)
  (fun e he {w' b N} hev hl hb ht=>qf3 hb ht (by omega) (by
   unfold K5
   split
   ·have:=qmm e.2;omega
   ·exact j) (C.ev hev))
  (fun ha e he {w' b} hev hl hb=>qf6 hb (by omega))
  (qgr level)
  (fun J {w' ad v b X ys} hev hl h hb I=>qj6 hl h hb I)
end
end
end Go.Proofs.YtabchipjjghhnaaGreatDoorV
