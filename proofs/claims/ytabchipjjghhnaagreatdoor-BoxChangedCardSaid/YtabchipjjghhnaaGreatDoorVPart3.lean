import Derived.RangeFuncNested
import Derived.RangeFuncLeaves
import Derived.RangeFuncCalls
import Derived.OwnWalkIn
import Derived.TacticsIn
import Derived.Test.YtabchipjjghhnaaGreatDoorProg
import Derived.Test.YtabchipjjghhnaaGreatDoorVPart2
set_option linter.unusedVariables false
set_option linter.unusedSimpArgs false
namespace Go.Proofs.YtabchipjjghhnaaGreatDoorV
open Go Go.RowKit
section
abbrev FW(ro:Option Nat):Fence:={fn:=fun _=>True,depth:=none,alive:=false,round:=ro}
theorem GT{ro:Option Nat}{m:Nat}{P:Program}{f:FuncId}{args:Array Value}{w:World}{R:Ending→World→Prop}:CallsIn (FW ro) m P f args w R↔Calls P f args w R:=callsIn_wide (n:=m)
theorem qhR{F:Fence}{ro:Option Nat}{m k l:Nat}{P:Program}{f:FuncId}{tmps:Array Value}{j bo:Code}{w:World}{R:Ending→World→Prop}(q:F=Fence.wide)(h:RoundIn F k P l f tmps j bo w R):RoundIn (FW ro) m P l f tmps j bo w R:=by
 subst q;exact⟨trivial,fun c cs _=>h.2 c cs (room_wide _)⟩
def qgQ(P:Program)(q:Value)(j:Sh)(args:Array Value)(w:World)(K:TF j.cks (World→Prop)):Prop:=
 iB P q j args w K∨∃l m,q=.func (.yield l) #[] #[]∧YieldAt Fence.wide m P l args w (qe7 j K)
def qbX(P:Program)(f:FuncId)(j:Sh)(args:Array Value)(w:World)(K:TF j.cks (World→Prop)):Prop:=QW P j (callFunc f args) w K
def opY(P:Program)(o:Oper)(σ:bV)(w:World)(K:Value→World→Prop):Prop:=match o.op with
 |.call c=>match c.callee with
  |.value (.tmp t)=>qgQ P (σ t) (xA P o.type) (c.args.map (jE σ)) w (Z4 _ fun vs w'=>K ((xA P o.type).mk vs) w')
  |_=>opG P o σ w K
 |_=>opG P o σ w K
section
variable {P:Program} {o:Oper} {a:Act} {σ:bV} {w:World} {K:Value→World→Prop} {next:Act→World→Prop} {Q:Exit→Act→World→Prop} {ro:Option Nat} {m:Nat}
theorem qhx(h:o.wp P a w next Q)(hd:∀c,o.op≠.defer c):o.wpIn (FW ro) m P a w next Q:=by
 refine⟨fun _ _=>trivial,?_⟩
 rw[Oper.semAt_plain (FW ro) _ _ hd]
 unfold Oper.wp at h
 generalize(execOp a.eval o).run P w=r at h⊢
 unfold Oper.upon at h
 unfold Oper.uponIn
 split at h
 ·exact h
 ·exact h
 ·exact h
 ·exact⟨fun h=>(by cases h),GT.2 h⟩
 ·exact⟨fun h=>(by cases h),fun c cs _=>let⟨v,w',r,s⟩:=h c cs;⟨v,w',r,stepsIn_wide.2 s⟩⟩
 ·exact h
 ·exact h.elim
theorem qr9(h:opG P o σ w K):∀c,o.op≠.defer c:=by
 intro c hc
 unfold opG isQ at h
 rw[hc]at h
 exact h
theorem qnA(he:a.eval=jE σ)(h:opY P o σ w K)(hn:∀v w',K v w'→next (a.put o.dst v) w'):o.wpIn (FW ro) m P a w next Q:=by
 have plain:opG P o σ w K→o.wpIn (FW ro) m P a w next Q:=fun h=>qhx (XJ he h hn) (qr9 h)
 unfold opY at h
 split at h
 ·rename_i c u
  split at h
  ·rename_i t hc
   rcases h with h|⟨l,k,hv,fn,tmps,r,bo,C,A⟩
   ·refine plain ?_
    unfold opG isQ
    rw[u];dsimp only;rw[hc];dsimp only
    unfold qit
    rw[hc];exact h
   ·refine⟨fun _ _=>trivial,?_⟩
    rw[Oper.semAt_plain (FW ro) _ _ (by rw[u];simp)]
    have q:(execOp a.eval o).run P w=.ok (.round l fn tmps r bo) w:=by
     rw[he];unfold execOp;rw[u];dsimp only
     unfold resolve;rw[hc];dsimp only[jE]
     rw[hv]
     simp only[Deferred.ofValue,Sem.run_bind,Sem.run_pure,Result.andThen_ok]
     simp only[Array.empty_append,invoke,Array.append_empty]
     exact C
    rw[q]
    refine⟨fun h=>(by cases h),(qhR rfl A).mono ?_⟩
    intro e w' j
    obtain⟨vs,hv,hk⟩:=jS j
    subst hv
    exact hn _ _ hk
  ·exact plain h
 ·exact plain h
end
structure RepD (ds:List Deferred) (n:Nat) (a:Act) (σ:bV):Prop where
 size:a.tmps.size=n
 defers:a.defers=ds
 get:∀t,a.tmps.getD t undef=σ t
theorem RepD.eval{ds:List Deferred}{n:Nat}{a:Act}{σ:bV}(h:RepD ds n a σ):a.eval=jE σ:=by
 funext x;cases x<;>simp only[Act.eval,jE,h.get]
theorem RepD.put{ds:List Deferred}{n:Nat}{a:Act}{σ:bV}(h:RepD ds n a σ){d:Option Nat}(hd:∀t,d=some t→t<n)(v:Value):RepD ds n (a.put d v) (AW σ d v):=by
 have h0:Rep n {a with defers:=[]} σ:=⟨h.size,rfl,h.get⟩
 have h1:=h0.put hd v
 exact⟨by have:=h1.size;cases d<;>simpa [Act.put]using this,by cases d<;>exact h.defers,fun t=>by have:=h1.get t;cases d<;>exact this⟩
def qhz(P:Program)(ops:Array Oper):List Oper→bV→World→(bV→World→Prop)→Prop
 |[],σ,w,K=>K σ w
 |o::r,σ,w,K=>match o.guard with
  |none=>opY P o σ w fun v w'=>qhz P ops r (AW σ o.dst v) w' K
  |some g=>aQ (BP ops σ g) (opY P o (y4 ops σ g true) w fun v w'=>qhz P ops r (AW (y4 ops σ g true) o.dst v) w' K) (qhz P ops r (AW (y4 ops σ g false) o.dst undef) w K)
section
variable {P:Program} {ops:Array Oper} {n:Nat} {ds:List Deferred} {ro:Option Nat} {m:Nat}
theorem qab{a:Act}{σ:bV}{o:Oper}{g:Nat×Bool}(j:RepD ds n a σ)(hg:o.guard=some g):Region.wanted o (yielded ops a.tmps)=BP ops σ g:=
 D9 (a:={a with defers:=[]}) (n:=n) ⟨j.size,rfl,j.get⟩ hg
theorem qjb{A:List Nat}{σ₀:bV}{K:bV→World→Prop}{Q:Exit→Act→World→Prop}(J:∀a σ w,RepD ds n a σ→agree A σ₀ σ→K σ w→Q .normal a w):
  ∀(l:List Oper) (a:Act) (σ:bV) (w:World),(∀t,t∈V3 l→t<n∧t∈A)→RepD ds n a σ→agree A σ₀ σ→qhz P ops l σ w K→wpListIn (FW ro) m P ops Q l a w
 |[],a,σ,w,_,q,j,h=>J a σ w q j h
 |o::r,a,σ,w,hd,q,j,h=>by
  have u:∀t,o.dst=some t→t<n∧t∈A:=fun t ht=>hd t (KC (by simp) ht)
  have I:∀t,t∈V3 r→t<n∧t∈A:=fun t ht=>hd t (by simp only[V3];split<;>simp [ht])
  have step:∀v w',qhz P ops r (AW σ o.dst v) w' K→wpListIn (FW ro) m P ops Q r (a.put o.dst v) w':=fun v w' h'=>
   qjb J r _ _ _ I (q.put (fun t ht=>(u t ht).1) v) (j.trans (GO (fun t ht=>(u t ht).2) v)) h'
  simp only[qhz]at h
  split at h
  ·rename_i hg
   exact wpListIn_plain hg fun M C=>qnA q.eval h fun v w' hk=>C _ _ (step v w' hk)
  ·rename_i g hg
   refine wpListIn_step fun M C=>?_
   rw[qab q hg]
   unfold aQ at h
   split at h
   ·rename_i hb;rw[hb,if_pos rfl];rw[M5 hb]at h;exact qnA q.eval h fun v w' hk=>C _ _ (step v w' hk)
   ·rename_i hb;rw[hb,if_neg (by simp)];rw[M5 hb]at h;exact⟨fun _ _=>trivial,C _ _ (step undef w h)⟩
end
def GW(P:Program)(dr:Bool)(An:An):Code→(bV→World→Prop)→(Nat→bV→World→Prop)→(bV→World→Prop)→bV→World→Prop
 |.skip,N,_,_,σ,w=>N σ w
 |.label _,N,_,_,σ,w=>N σ w
 |.region _ ops d,N,_,_,σ,w=>match d with
  |false=>qhz P ops ops.toList σ w N
  |true=>match dr with
   |true=>PI P ops σ w N
   |false=>False
 |.seq a b,N,X,R,σ,w=>match lk (key b) An.cut with
  |none=>GW P dr An a (fun j w'=>GW P dr An b N X R j w') X R σ w
  |some D=>∃J:TF (cks D) (World→Prop),GW P dr An a (fun j w'=>vR NoI (cks D) J ((ZO D).map j) w') X R σ w∧
    ∀g:bV,qfz (cks D) fun vs=>∀w',vR NoI (cks D) J vs w'→GW P dr An b N X R (over (ZO D) vs (qhb (tN a) g σ)) w'
 |.cond c a b,N,X,R,σ,w=>match jE σ c with
  |.bool t=>aQ t (GW P dr An a N X R σ w) (GW P dr An b N X R σ w)
  |_=>False
 |.block id c,N,X,R,σ,w=>GW P dr An c N (fun i=>match Nat.beq i id with|true=>N|false=>X i) R σ w
 |.loop c,_,X,R,σ,w=>∃(I:TF (cks (An.lp c)) (World→Prop)) (μ:TF (cks (An.lp c)) (World→Nat)),
   vR NoI _ I ((ZO (An.lp c)).map σ) w∧
   ∀g:bV,qfz (cks (An.lp c)) fun vs=>∀w',vR NoI _ I vs w'→
    GW P dr An c (fun j q=>vR NoI _ I ((ZO (An.lp c)).map j) q∧vR NoM _ μ ((ZO (An.lp c)).map j) q<vR NoM _ μ vs w') X R
     (over (ZO (An.lp c)) vs (qhb (tN c) g σ)) w'
 |.exit id,_,X,_,σ,w=>X id σ w
 |.ret,_,_,R,σ,w=>R σ w
 |_,_,_,_,_,_=>False
def qsQ(ds:List Deferred)(n:Nat)(A:List Nat)(σ₀:bV)(N:bV→World→Prop)(X:Nat→bV→World→Prop)(R:bV→World→Prop):Exit→Act→World→Prop
 |.normal,a,w=>∃σ,RepD ds n a σ∧agree A σ₀ σ∧N σ w
 |.exit id,a,w=>∃σ,RepD ds n a σ∧agree A σ₀ σ∧X id σ w
 |.ret,a,w=>∃σ,RepD ds n a σ∧R σ w
 |_,_,_=>False
section
variable {P:Program} {An:An} {n:Nat} {ds:List Deferred} {ro:Option Nat} {m:Nat}
theorem qbO{dr:Bool}(ah:dr=true→ro=none∧ds=[]∧P.follows .mixedOrders=true):∀(c:Code) (A:List Nat),(∀t,t∈tN c→t∈A)→EU n (tN c)=true→∀(N:bV→World→Prop) (X:Nat→bV→World→Prop) (R:bV→World→Prop) (σ₀ σ:bV) (a:Act) (w:World),
  RepD ds n a σ→agree A σ₀ σ→GW P dr An c N X R σ w→c.wpIn (FW ro) m P (qsQ ds n A σ₀ N X R) a w:=by
 have T:∀{l m:List Nat},EU n (l++m)=true→EU n l=true:=by
  intro l;induction l with
  |nil=>intros;rfl
  |cons x l ih=>intro m h;simp only[List.cons_append,EU]at h⊢;split<;>simp_all;exact ih h
 have U:∀{l m:List Nat},EU n (l++m)=true→EU n m=true:=by
  intro l;induction l with
  |nil=>intro m h;exact h
  |cons x l ih=>intro m h;simp only[List.cons_append,EU]at h;split at h;exact ih h;cases h
 intro c
 induction c with
 |skip=>intro A _ _ N X R σ₀ σ a w u q h;exact wpIn_skip ⟨σ,u,q,h⟩
 |label l=>intro A _ _ N X R σ₀ σ a w u q h;exact wpIn_label ⟨σ,u,q,h⟩
 |region id ops d=>
  intro A hA hn N X R σ₀ σ a w u q h
  cases d with
  |false=>exact wpIn_region_list (qjb (A:=A) (σ₀:=σ₀) (fun a σ w u q hk=>⟨σ,u,q,hk⟩) _ a σ w (fun t ht=>⟨qb8 hn ht,hA t ht⟩) u q h)
  |true=>
   cases dr with
   |false=>exact h.elim
   |true=>
    obtain⟨rfl,rfl,hm⟩:=ah rfl
    have h0:(Code.region id ops true).wp P (qsQ [] n A σ₀ N X R) a w:=JK hm id n ops σ a w N _ hn ⟨u.size,u.defers,u.get⟩ (fun _ _ _ h=>h) (fun a C w r j hk=>⟨C,⟨r.size,r.defers,r.get⟩,q.trans (j.mono hA),hk⟩) h
    exact(wpIn_wide (n:=m)).2 h0
 |seq x y V Y=>
  intro A hA hn N X R σ₀ σ a w u q h
  simp only[tN,List.mem_append]at hA
  have ae:=T (l:=tN x) (m:=tN y) hn
  have af:=U (l:=tN x) (m:=tN y) hn
  simp only[GW]at h
  split at h
  ·refine wpIn_seq (wpIn_mono (V A (fun t ht=>hA t (.inl ht)) ae _ X R σ₀ σ a w u q h) ?_)
   intro e a w hq
   cases e<;>try exact hq
   obtain⟨C,r,j,hk⟩:=hq
   exact Y A (fun t ht=>hA t (.inr ht)) af N X R σ₀ C a w r j hk
  ·rename_i D hD
   obtain⟨J,h1,h2⟩:=h
   have ag:=V (tN x) (fun t ht=>ht) ae _ X R σ σ a w u (agree.refl _ _) h1
   refine wpIn_seq (wpIn_mono ag ?_)
   intro e a w hq
   cases e with
   |normal=>
    obtain⟨C,r,j,hk⟩:=hq
    have:=DH hk (h2 C) w hk
    rw[KB j,CY rfl]at this
    exact Y A (fun t ht=>hA t (.inr ht)) af N X R σ₀ C a w r (q.trans (j.mono fun t ht=>hA t (.inl ht))) this
   |exit id=>obtain⟨C,r,j,hk⟩:=hq;exact⟨C,r,q.trans (j.mono fun t ht=>hA t (.inl ht)),hk⟩
   |ret=>exact hq
   |goto l=>exact hq
   |panic ch=>exact hq
   |outgrown=>exact hq
 |cond c x y V Y=>
  intro A hA hn N X R σ₀ σ a w u q h
  simp only[tN,List.mem_append]at hA
  simp only[GW]at h
  split at h
  ·rename_i t ht
   have hc:a.eval c=.bool t:=by rw[u.eval];exact ht
   unfold aQ at h
   split at h
   ·exact wpIn_cond_true hc (V A (fun t ht=>hA t (.inl ht)) (T (l:=tN x) (m:=tN y) hn) N X R σ₀ σ a w u q h)
   ·exact wpIn_cond_false hc (Y A (fun t ht=>hA t (.inr ht)) (U (l:=tN x) (m:=tN y) hn) N X R σ₀ σ a w u q h)
  ·exact h.elim
 |block id x ih=>
  intro A hA hn N X R σ₀ σ a w u q h
  refine wpIn_block (wpIn_mono (ih A hA hn N _ R σ₀ σ a w u q h) ?_)
  intro e a w hq
  cases e<;>try exact hq
  rename_i i
  simp only[Exit.inBlock]
  obtain⟨C,r,j,hk⟩:=hq
  by_cases hi:i=id
  ·rw[if_pos hi]
   rw[show Nat.beq i id=true by rw[hi];exact Nat.beq_refl id]at hk
   exact⟨C,r,j,hk⟩
  ·rw[if_neg hi]
   rw[show Nat.beq i id=false by cases hb:Nat.beq i id with|false=>rfl|true=>exact absurd (Nat.eq_of_beq_eq_true hb) hi]at hk
   exact⟨C,r,j,hk⟩
 |loop x ih=>
  intro A hA hn N X R σ₀ σ a w u q h
  obtain⟨I,μ,h0,h1⟩:=h
  refine wpIn_loop (I:=fun a' w'=>∃C,RepD ds n a' C∧agree (tN x) σ C∧vR NoI _ I ((ZO (An.lp x)).map C) w')
   (μ:=fun a' w'=>vR NoM _ μ ((ZO (An.lp x)).map fun t=>a'.tmps.getD t undef) w') ⟨σ,u,agree.refl _ _,h0⟩ ?_
  intro a' w' ⟨C,r,j,hI⟩
  have:=DH hI (h1 C) w' hI
  rw[KB j,CY rfl]at this
  refine wpIn_mono (ih (tN x) (fun t ht=>ht) hn _ X R σ C a' w' r j this) ?_
  intro e aj ak hq
  have Z:∀{a:Act} {σ:bV},RepD ds n a σ→(fun t=>a.tmps.getD t undef)=σ:=fun u=>funext u.get
  cases e with
  |normal=>
   obtain⟨ab,O,M,hk1,hk2⟩:=hq
   refine⟨⟨ab,O,M,hk1⟩,?_⟩
   rw[Z O,Z r];exact hk2
  |exit id=>obtain⟨ab,O,M,hk⟩:=hq;exact⟨ab,O,q.trans (M.mono hA),hk⟩
  |ret=>exact hq
  |goto l=>exact hq
  |panic ch=>exact hq
  |outgrown=>exact hq
 |exit id=>intro A _ _ N X R σ₀ σ a w u q h;exact wpIn_exit ⟨σ,u,q,h⟩
 |ret=>intro A _ _ N X R σ₀ σ a w u _ h;exact wpIn_ret ⟨σ,u,h⟩
 |rangeFunc=>intro A _ _ N X R σ₀ σ a w _ _ h;exact h.elim
 |scope=>intro A _ _ N X R σ₀ σ a w _ _ h;exact h.elim
 |goto=>intro A _ _ N X R σ₀ σ a w _ _ h;exact h.elim
 |refuse=>intro A _ _ N X R σ₀ σ a w _ _ h;exact h.elim
end
theorem qtC{args:Array Value}{k:Nat}(hs:args.size+(k-args.size)=k):RepD [] k {tmps:=args++Array.replicate (k-args.size) undef,defers:=[]} (fun t=>args.getD t undef):=by
 refine⟨by simpa using hs,rfl,fun t=>?_⟩
 simp only[Array.getD_eq_getD_getElem?,Array.getElem?_append,Array.getElem?_replicate]
 split
 ·rfl
 ·rename_i cR;rw[Array.getElem?_eq_none (by omega)];split<;>rfl
theorem qal{P:Program}(hm:P.follows .mixedOrders=true){An:An}{f:FuncId}{fn:Func}{c:Code}{args:Array Value}{w:World}{R:Ending→World→Prop}
  (hf:P.funcs[f]?=some fn) (hb:fn.body=some c) (hs:args.size+(fn.ntmps-args.size)=fn.ntmps) (hn:EU fn.ntmps (tN c)=true)
  (h:GW P true An c (OH P fn R) (fun _ _ _=>False) (OH P fn R) (fun t=>args.getD t undef) w):Calls P f args w R:=by
 refine GT (ro:=none) (m:=0)|>.1 (callsIn_of_wp hf hb trivial (wpIn_mono (qbO (An:=An) (dr:=true) (fun _=>⟨rfl,rfl,hm⟩) c (tN c) (fun _ h=>h) hn _ _ _ _ _ _ w (qtC hs) (agree.refl _ _) h) ?_))
 intro e a w hq
 cases e with
 |normal=>obtain⟨σ,j,_,hk⟩:=hq;exact⟨j.defers,EL j.get hk⟩
 |ret=>obtain⟨σ,j,hk⟩:=hq;exact⟨j.defers,EL j.get hk⟩
 |exit id=>obtain⟨_,_,_,hk⟩:=hq;exact hk.elim
 |goto l=>exact hq
 |panic ch=>exact hq.elim
 |outgrown=>exact hq.elim
structure RF where
 g:Operand
 p:Nat
 d:Nat
 bo:Code
def qnW(g:Operand)(ps:Array Tmp)(j bo:Code):Option RF:=match ps.toList with
 |[p]=>match j with
  |.region _ ops d=>match d with
   |true=>none
   |false=>match ops.toList with
    |[o]=>match o.op with
     |.assign x=>match x with
      |.tmp q=>match o.dst with
       |some d=>match o.guard with
        |none=>match Nat.beq p q with
         |true=>some ⟨g,p,d,bo⟩
         |false=>none
        |some _=>none
       |none=>none
      |_=>none
     |_=>none
    |_=>none
  |_=>none
 |_=>none
def GZ(P:Program)(r:Value)(w:World)(j:Value→World→(World→Prop)→Prop)(q:Nat→World→Prop):Prop:=
 ∃(gf:Nat) (lb:Array Value),r=.func (.func gf) #[] lb∧zP P gf=true∧
 ∃(α:Type) (enc:α→Value) (Kp:World→World→Prop) (S Sp:List α→Prop) (N:Nat) (I:List α→World→Prop),
  SeqStopsK Fence.wide 4 P gf lb (fun x=> #[enc x]) Kp S Sp N w∧(∀{A B C:World},Kp A B→Kp B C→Kp A C)∧
  (∀(W:World) (l:Nat) (o o':Obj),w.heap.size≤l→W.heap[l]?=some o→o.isCells=false→o.isWalk=false→Kp W (W.putObj l o'))∧
  OwnFrom w.heap.size I∧I [] w∧
  (∀pre x W,I pre W→pre.length<N→j (enc x) W fun W'=>KeepsOthers W W'∧Kp W W'∧I (pre++[x]) W')∧
  (∀D xs W,w.heap.size≤D→S xs→I xs W→W.heap[D]?=some (.deferred (some []))→q D W)
def qmN:Code→Bool
 |.rangeFunc .. =>true
 |.seq a b=>match qmN a with|true=>true|false=>qmN b
 |.block _ c=>qmN c
 |_=>false
def qgi:Code→List Nat
 |.seq a b=>match qmN a with
  |true=>qgi a++tN b
  |false=>tN a++qgi b
 |.block _ c=>qgi c
 |.rangeFunc g ps j bo=>match qnW g ps j bo with
  |some r=>r.p::r.d::tN r.bo
  |none=>[]
 |_=>[]
def qdY(P:Program)(An:An):Code→(Nat→bV→World→Prop)→(bV→World→Prop)→(Nat→bV→World→Prop)→bV→World→Prop
 |.rangeFunc g ps A bo,N,_,_,σ,w=>match qnW g ps A bo with
  |some r=>GZ P (jE σ r.g) w (fun x W K=>GW P false An r.bo (fun _ w'=>K w') (fun _ _ _=>False) (fun _ _=>False) (upd (upd σ r.p x) r.d x) W) (fun D w'=>N D σ w')
  |none=>False
 |.block _ c,N,j,q,σ,w=>qdY P An c N j q σ w
 |.seq a b,N,j,q,σ,w=>match qmN a with
  |true=>qdY P An a (fun D u w'=>GW P false An b (N D) (fun _ _ _=>False) (q D) u w') j q σ w
  |false=>match lk (key b) An.cut with
   |none=>den P (PI P) An a (fun u w'=>qdY P An b N j q u w') (fun _ _ _=>False) j σ w
   |some D=>∃J:TF (cks D) (World→Prop),den P (PI P) An a (fun u w'=>vR NoI (cks D) J ((ZO D).map u) w') (fun _ _ _=>False) j σ w∧
    ∀g:bV,qfz (cks D) fun vs=>∀w',vR NoI (cks D) J vs w'→qdY P An b N j q (over (ZO D) vs (qhb (tN a) g σ)) w'
 |_,_,_,_,_,_=>False
abbrev mkD(D:Nat):List Deferred:=[{target:=.collected D,args:= #[]}]
def QR(n:Nat)(N:Nat→bV→World→Prop)(j:bV→World→Prop)(q:Nat→bV→World→Prop):Exit→Act→World→Prop
 |.normal,a,w=>∃D σ,RepD (mkD D) n a σ∧N D σ w
 |.ret,a,w=>(∃σ,RepD [] n a σ∧j σ w)∨(∃D σ,RepD (mkD D) n a σ∧q D σ w)
 |_,_,_=>False
section
variable {P:Program} {An:An} {n:Nat}
theorem qiU{l m:List Nat}(h:EU n (l++m)=true):EU n l=true∧EU n m=true:=by
 induction l with
 |nil=>exact⟨rfl,h⟩
 |cons x l j=>
  simp only[List.cons_append,EU]at h⊢
  split at h
  ·exact j h
  ·cases h
theorem qk3{g:Operand}{ps:Array Tmp}{j bo:Code}{r:RF}(h:qnW g ps j bo=some r):
  r.g=g∧r.bo=bo∧ps= #[r.p]∧∃id o,j=.region id #[o] false∧o.op=.assign (.tmp r.p)∧o.dst=some r.d∧o.guard=none:=by
 unfold qnW at h
 split at h
 ·rename_i p hp
  split at h
  ·rename_i id ops d
   split at h
   ·cases h
   ·split at h
    ·rename_i o u
     split at h
     ·rename_i x h1
      split at h
      ·rename_i q
       split at h
       ·rename_i d h2
        split at h
        ·rename_i h3
         split at h
         ·rename_i hb
          injection h with h
          subst h
          have:=Nat.eq_of_beq_eq_true hb
          subst this
          have e1:ps= #[p]:=by cases ps;simp_all
          have e2:ops= #[o]:=by cases ops;simp_all
          subst e1;subst e2
          exact⟨rfl,rfl,rfl,id,o,rfl,h1,h2,h3⟩
         ·cases h
        ·cases h
       ·cases h
      ·cases h
     ·cases h
    ·cases h
  ·cases h
 ·cases h
theorem BB{P:Program}{gf:Nat}(hok:zP P gf=true):∀args w,(callFunc gf args).run P w=.ok (.enter gf args) w:=fun args w=>GR hok
theorem qnP{r:RF}{g:Operand}{ps:Array Tmp}{C bo:Code}(ab:qnW g ps C bo=some r)(hn:EU n (r.p::r.d::tN r.bo)=true){σ:bV}{a:Act}{w:World}(q:RepD [] n a σ){N:Nat→bV→World→Prop}{R0:bV→World→Prop}{R1:Nat→bV→World→Prop}
  (h:GZ P (jE σ r.g) w (fun x W K=>GW P false An r.bo (fun _ w'=>K w') (fun _ _ _=>False) (fun _ _=>False) (upd (upd σ r.p x) r.d x) W) (fun D w'=>N D σ w')):
  (Code.rangeFunc g ps C bo).wpIn (FW none) 5 P (QR n N R0 R1) a w:=by
 obtain⟨hg,X,rfl,id,o,rfl,J,Y,Z⟩:=qk3 ab
 subst hg;subst X
 obtain⟨gf,lb,hv,hok,α,enc,Kp,S,Sp,Nn,I,O,V,U,hI,h0,u,A⟩:=h
 have hp:r.p<n∧r.d<n∧EU n (tN r.bo)=true:=by
  simp only[EU]at hn
  split at hn
  ·rename_i h1
   split at hn
   ·rename_i h2;exact⟨by simpa [Nat.blt_eq]using h1,by simpa [Nat.blt_eq]using h2,hn⟩
   ·cases hn
  ·cases hn
 have j:∀{a:Act} {σ:bV} {d:Nat} (v:Value),RepD [] n a σ→d<n→RepD [] n {tmps:=a.tmps.setIfInBounds d v,defers:=[]} (upd σ d v):=fun{a σ d} v q hd=>by
  have:=RepD.put (ds:=[]) (n:=n) (a:=a) q (d:=some d) (fun t ht=>by injection ht with ht;omega) v
  exact⟨this.size,rfl,this.get⟩
 refine wpIn_rangeFunc_ownF (F:=FW none) (n:=5) rfl (by decide) (gf:=gf) (lb:=lb) (by rw[q.eval];exact hv) trivial (BB hok) (encs:=fun x=> #[enc x]) (Kp:=Kp) (S:=S) (Sp:=Sp) (N:=Nn) (w0:=w) ?_ V U (Below.refl _ w) (fun _=>rfl) I (fun _ _ _=>False) hI
  (fun c s W W' row h _ _=>h.elim) h0 (fun x=>{tmps:=(a.tmps.setIfInBounds r.p (enc x)).setIfInBounds r.d (enc x),defers:=[]}) ?_ ?_ ?_ ?_
 ·exact O
 ·intro l x W K hK
  refine wpIn_region_list ?_
  refine wpListIn_plain Z fun K' T=>?_
  refine⟨fun _ _=>trivial,?_⟩
  rw[Oper.semAt_plain _ _ _ (by rw[J];simp)]
  have hz:(#[r.p].zip #[enc x]).foldl (fun t (p:Tmp×Value)=>t.setIfInBounds p.1 p.2) a.tmps=a.tmps.setIfInBounds r.p (enc x):=by simp
  have M:∀ρ:Operand→Value,(execOp ρ o).run P W=.ok (.value (ρ (.tmp r.p))) W:=fun ρ=>by unfold execOp;rw[J];rfl
  rw[M]
  have hval:(a.tmps.setIfInBounds r.p (enc x)).getD r.p undef=enc x:=by
   have:=(j (enc x) q hp.1).get r.p
   rw[this,qdb,if_pos rfl]
  show K' _ W
  refine T _ _ ?_
  show wpListIn _ _ _ _ _ [] _ W
  show Exit.then K _ .normal _ W
  have he:∀{t:Array Value},t=a.tmps.setIfInBounds r.p (enc x)→(({tmps:=t,defers:=[]}:Act).put o.dst (({tmps:=t,defers:=[]}:Act).eval (.tmp r.p)))={tmps:=(a.tmps.setIfInBounds r.p (enc x)).setIfInBounds r.d (enc x),defers:=[]}:=fun ht=>by
   subst ht
   rw[Y]
   simp only[Act.put,Act.eval,hval]
  rw[he (by simp)]
  exact hK
 ·intro l pre x W hi hl
  have aa:RepD [] n {tmps:=(a.tmps.setIfInBounds r.p (enc x)).setIfInBounds r.d (enc x),defers:=[]} (upd (upd σ r.p (enc x)) r.d (enc x)):=
   j (a:={tmps:=a.tmps.setIfInBounds r.p (enc x),defers:=[]}) (enc x) (j (enc x) q hp.1) hp.2.1
  refine wpIn_mono (qbO (ro:=some l) (An:=An) (dr:=false) (fun h=>by cases h) r.bo (tN r.bo) (fun _ h=>h) hp.2.2 _ _ _ _ _ _ W aa (agree.refl _ _) (u pre x W hi hl)) ?_
  intro e a' W' hq
  cases e with
  |normal=>obtain⟨_,_,_,hk⟩:=hq;exact hk
  |exit id=>obtain⟨_,_,_,hk⟩:=hq;exact hk.elim
  |ret=>obtain⟨_,_,hk⟩:=hq;exact hk.elim
  |goto l=>exact hq.elim
  |panic ch=>exact hq.elim
  |outgrown=>exact hq.elim
 ·intro D xs W hD hS hi hk
  exact⟨D,σ,⟨q.size,by rw[q.defers],q.get⟩,A D xs W hD hS hi hk⟩
 ·intro D c pre W _ _ h _
  exact h.elim
theorem qpj:∀(c:Code),EU n (qgi c)=true→∀(N:Nat→bV→World→Prop) (q:bV→World→Prop) (u:Nat→bV→World→Prop) (σ:bV) (a:Act) (w:World) (hm:P.follows .mixedOrders=true),
  RepD [] n a σ→qdY P An c N q u σ w→c.wpIn (FW none) 5 P (QR n N q u) a w:=by
 intro c
 induction c with
 |rangeFunc g ps Z bo=>
  intro hn N q u σ a w hm M h
  simp only[qdY]at h
  simp only[qgi]at hn
  split at h
  ·rename_i r V
   rw[V]at hn
   exact qnP V hn M h
  ·exact h.elim
 |block id c ih=>
  intro hn N q u σ a w hm M h
  refine wpIn_block (wpIn_mono (ih hn N q u σ a w hm M h) ?_)
  intro e a w hq
  cases e<;>try exact hq
  exact hq.elim
 |seq x y Y X=>
  intro hn N q u σ a w hm M h
  simp only[qdY]at h
  simp only[qgi]at hn
  split at h
  ·rename_i hx
   rw[hx]at hn
   have A:=qiU hn
   refine wpIn_seq (wpIn_mono (Y A.1 _ q u σ a w hm M h) ?_)
   intro e a w hq
   cases e with
   |normal=>
    obtain⟨D,I,j,hk⟩:=hq
    refine wpIn_mono (qbO (ro:=none) (An:=An) (dr:=false) (fun h=>by cases h) y (tN y) (fun _ h=>h) A.2 _ _ _ _ _ _ w j (agree.refl _ _) hk) ?_
    intro e a w hq
    cases e with
    |normal=>obtain⟨O,C,_,hk⟩:=hq;exact⟨D,O,C,hk⟩
    |exit id=>obtain⟨_,_,_,hk⟩:=hq;exact hk.elim
    |ret=>obtain⟨O,C,hk⟩:=hq;exact .inr ⟨D,O,C,hk⟩
    |goto l=>exact hq
    |panic ch=>exact hq
    |outgrown=>exact hq
   |ret=>exact hq
   |exit id=>exact hq
   |goto l=>exact hq
   |panic ch=>exact hq
   |outgrown=>exact hq
  ·rename_i hx
   rw[hx]at hn
   have A:=qiU hn
   have U:Rep n a σ:=⟨M.size,M.defers,M.get⟩
   have wide:∀{Q:Exit→Act→World→Prop} {a:Act} {w:World},x.wp P Q a w→x.wpIn (FW none) 5 P Q a w:=fun h=>(wpIn_wide (n:=5)).2 h
   split at h
   ·refine wpIn_seq (wpIn_mono (wide (qgI (An:=An) (JK hm) x (tN x) (fun _ h=>h) A.1 _ _ _ _ _ _ w U (agree.refl _ _) h)) ?_)
    intro e a w hq
    cases e with
    |normal=>obtain⟨I,j,_,hk⟩:=hq;exact X A.2 N q u I a w hm ⟨j.size,j.defers,j.get⟩ hk
    |exit id=>obtain⟨_,_,_,hk⟩:=hq;exact hk.elim
    |ret=>obtain⟨I,j,hk⟩:=hq;exact .inl ⟨I,⟨j.size,j.defers,j.get⟩,hk⟩
    |goto l=>exact hq
    |panic ch=>exact hq
    |outgrown=>exact hq
   ·rename_i D hD
    obtain⟨J,h1,h2⟩:=h
    refine wpIn_seq (wpIn_mono (wide (qgI (An:=An) (JK hm) x (tN x) (fun _ h=>h) A.1 _ _ _ _ _ _ w U (agree.refl _ _) h1)) ?_)
    intro e a w hq
    cases e with
    |normal=>
     obtain⟨I,j,T,hk⟩:=hq
     have:=DH hk (h2 I) w hk
     rw[KB T,CY rfl]at this
     exact X A.2 N q u I a w hm ⟨j.size,j.defers,j.get⟩ this
    |exit id=>obtain⟨_,_,_,hk⟩:=hq;exact hk.elim
    |ret=>obtain⟨I,j,hk⟩:=hq;exact .inl ⟨I,⟨j.size,j.defers,j.get⟩,hk⟩
    |goto l=>exact hq
    |panic ch=>exact hq
    |outgrown=>exact hq
 |skip=>intro _ N q u σ a w _ _ h;exact h.elim
 |label=>intro _ N q u σ a w _ _ h;exact h.elim
 |region=>intro _ N q u σ a w _ _ h;exact h.elim
 |cond=>intro _ N q u σ a w _ _ h;exact h.elim
 |loop=>intro _ N q u σ a w _ _ h;exact h.elim
 |exit=>intro _ N q u σ a w _ _ h;exact h.elim
 |ret=>intro _ N q u σ a w _ _ h;exact h.elim
 |scope=>intro _ N q u σ a w _ _ h;exact h.elim
 |goto=>intro _ N q u σ a w _ _ h;exact h.elim
 |refuse=>intro _ N q u σ a w _ _ h;exact h.elim
end
def qnU(P:Program)(fn:Func)(R:Ending→World→Prop)(D:Nat)(σ:bV)(w:World):Prop:=w.heap[D]?=some (.deferred (some []))∧OH P fn R σ (w.putObj D (.deferred none))
theorem MM{P:Program}(hm:P.follows .mixedOrders=true){An:An}{f:FuncId}{fn:Func}{c:Code}{args:Array Value}{w:World}{R:Ending→World→Prop}
  (hf:P.funcs[f]?=some fn) (hb:fn.body=some c) (hs:args.size+(fn.ntmps-args.size)=fn.ntmps) (hn:EU fn.ntmps (qgi c)=true)
  (h:qdY P An c (qnU P fn R) (OH P fn R) (qnU P fn R) (fun t=>args.getD t undef) w):Calls P f args w R:=by
 refine GT (ro:=none) (m:=5)|>.1 (callsIn_of_wp_marks hf hb trivial (wpIn_mono (qpj (An:=An) c hn _ _ _ _ _ w hm (qtC hs) h) ?_))
 have q:∀{a:Act} {w:World} {D:Nat} {σ:bV},RepD (mkD D) fn.ntmps a σ→qnU P fn R D σ w→LeavesInM (FW none) 5 P fn a.tmps R a.defers .returning w:=fun{a w D σ} j hk=>by
  rw[j.defers]
  exact⟨by simp,.inl ⟨D,_,rfl,run_takeDeferred hk.1,EL j.get hk.2⟩⟩
 intro e a w hq
 cases e with
 |normal=>obtain⟨D,σ,j,hk⟩:=hq;exact q j hk
 |ret=>
  rcases hq with⟨σ,j,hk⟩|⟨D,σ,j,hk⟩
  ·show LeavesInM _ _ _ _ _ _ a.defers .returning w
   rw[j.defers];exact EL j.get hk
  ·exact q j hk
 |exit id=>exact hq.elim
 |goto l=>exact hq
 |panic ch=>exact hq.elim
 |outgrown=>exact hq.elim
end
end Go.Proofs.YtabchipjjghhnaaGreatDoorV
namespace Go.Proofs.YtabchipjjghhnaaGreatDoorV
section
open Go
noncomputable abbrev P:Program:=Go.Proofs.Tryz.prog
theorem qgV:P.follows .mixedOrders=true:=by kernel_rfl
theorem cX(An:An){f:FuncId}{fn:Func}{c:Code}{args:Array Value}{w:World}{R:Ending→World→Prop}{T:Prop}(hf:P.funcs[f]?=some fn)(hb:fn.body=some c)(h:T)(hs:args.size+(fn.ntmps-args.size)=fn.ntmps:=by rfl)(hn:EU fn.ntmps (tN c)=true:=by kernel_rfl)(e:den P (PI P) An c (OH P fn R) (fun _ _ _=>False) (OH P fn R) (fun t=>args.getD t undef) w=T:=by kernel_rfl):Calls P f args w R:=
 qdN qgV hf hb hs hn (Eq.mpr e h)
theorem dI{f:FuncId}{fn:Func}{c:Code}{args:Array Value}{w:World}{R:Ending→World→Prop}{T:Prop}(hf:P.funcs[f]?=some fn)(hb:fn.body=some c)(h:T)(hs:args.size+(fn.ntmps-args.size)=fn.ntmps:=by rfl)(hn:EU fn.ntmps (tN c)=true:=by kernel_rfl)(e:den P (PI P) ⟨[],[]⟩ c (OH P fn R) (fun _ _ _=>False) (OH P fn R) (fun t=>args.getD t undef) w=T:=by kernel_rfl):Calls P f args w R:=
 qdN qgV hf hb hs hn (Eq.mpr e h)
abbrev xG:Nat:=3
abbrev vH:Nat:=4
abbrev rY:Nat:=5
abbrev pD:Nat:=6
abbrev bZ:Nat:=7
abbrev sR:Nat:=8
abbrev nU:Nat:=9
abbrev lJ:Nat:=10
abbrev kE:Nat:=11
abbrev nW:Nat:=12
abbrev nV:Nat:=13
abbrev BW:Nat:=14
abbrev L5:Nat:=15
abbrev X2:Nat:=16
abbrev W8:Nat:=17
abbrev bY:Nat:=18
abbrev pA:Nat:=19
abbrev sS:Nat:=20
abbrev mG:Nat:=21
abbrev nK:Nat:=22
abbrev fF:Nat:=23
abbrev cY:Nat:=24
abbrev kD:Nat:=25
abbrev E4:Nat:=26
abbrev HH:Nat:=27
abbrev NA:Nat:=28
abbrev NB:Nat:=29
abbrev N9:Nat:=30
abbrev jJ:Nat:=31
abbrev rG:Nat:=32
abbrev pE:Nat:=33
abbrev mX:Nat:=34
abbrev KE:Nat:=35
abbrev oM:Nat:=36
abbrev gB:Nat:=37
abbrev pY:Nat:=38
abbrev yK:Nat:=39
abbrev gZ:Nat:=40
abbrev fX:Nat:=41
abbrev uX:Nat:=42
abbrev X3:Nat:=43
abbrev CA:Nat:=44
abbrev pT:Nat:=45
abbrev pS:Nat:=46
abbrev BX:Nat:=47
abbrev iG:Nat:=48
abbrev eR:Nat:=49
abbrev yM:Nat:=50
abbrev xX:Nat:=51
abbrev NC:Nat:=52
abbrev xV:Nat:=53
abbrev qM:Nat:=54
abbrev yX:Nat:=55
abbrev vI:Nat:=56
abbrev nX:Nat:=57
abbrev lN:Nat:=58
abbrev F5:Nat:=59
abbrev lM:Nat:=60
abbrev gL:Nat:=61
abbrev sW:Nat:=62
abbrev gW:Nat:=63
abbrev zX:Nat:=64
abbrev oG:Nat:=65
abbrev iK:Nat:=66
abbrev vD:Nat:=67
abbrev L8:Nat:=68
abbrev sM:Nat:=69
abbrev O0:Nat:=70
abbrev yN:Nat:=71
abbrev zT:Nat:=72
abbrev sK:Nat:=73
abbrev gU:Nat:=74
abbrev mD:Nat:=75
abbrev vC:Nat:=76
abbrev nO:Nat:=77
abbrev L6:Nat:=78
abbrev rF:Nat:=79
abbrev oQ:Nat:=80
abbrev BY:Nat:=81
abbrev kT:Nat:=82
abbrev cP:Nat:=83
abbrev fA:Nat:=84
abbrev cO:Nat:=85
abbrev pR:Nat:=86
abbrev eQ:Nat:=87
abbrev uM:Nat:=88
abbrev zV:Nat:=89
abbrev gG:Nat:=90
abbrev kU:Nat:=91
abbrev uI:Nat:=92
abbrev pO:Nat:=93
abbrev uT:Nat:=94
abbrev pV:Nat:=95
abbrev vE:Nat:=96
abbrev qA:Nat:=97
abbrev vL:Nat:=98
abbrev qD:Nat:=99
abbrev vF:Nat:=100
abbrev qB:Nat:=101
abbrev zA:Nat:=102
abbrev rX:Nat:=103
abbrev vB:Nat:=104
abbrev oH:Nat:=105
abbrev iI:Nat:=106
abbrev G1:Nat:=107
abbrev fB:Nat:=108
abbrev dP:Nat:=109
abbrev lX:Nat:=110
abbrev vJ:Nat:=111
abbrev CD:Nat:=112
abbrev vK:Nat:=113
abbrev O7:Nat:=114
abbrev O8:Nat:=115
abbrev P1:Nat:=116
abbrev yH:Nat:=117
abbrev tG:Nat:=118
abbrev ND:Nat:=119
abbrev CC:Nat:=120
abbrev nN:Nat:=121
abbrev jQ:Nat:=122
abbrev mP:Nat:=123
abbrev oZ:Nat:=124
abbrev fQ:Nat:=125
abbrev sU:Nat:=126
abbrev nS:Nat:=127
abbrev qR:Nat:=128
abbrev fD:Nat:=129
abbrev G2:Nat:=130
abbrev BV:Nat:=131
abbrev W7:Nat:=132
abbrev yL:Nat:=133
abbrev iZ:Nat:=134
abbrev G3:Nat:=135
abbrev P2:Nat:=136
abbrev jG:Nat:=137
abbrev rD:Nat:=138
abbrev eY:Nat:=139
abbrev F7:Nat:=140
abbrev O4:Nat:=141
abbrev rC:Nat:=142
abbrev F6:Nat:=143
abbrev P0:Nat:=144
abbrev zY:Nat:=145
abbrev uP:Nat:=146
abbrev X6:Nat:=147
abbrev P4:Nat:=148
abbrev zB:Nat:=149
abbrev X7:Nat:=150
abbrev mE:Nat:=151
abbrev sT:Nat:=152
abbrev kL:Nat:=153
abbrev dA:Nat:=154
abbrev jI:Nat:=155
abbrev iX:Nat:=156
abbrev qC:Nat:=157
abbrev oF:Nat:=158
abbrev KF:Nat:=159
abbrev zW:Nat:=160
abbrev iJ:Nat:=161
abbrev nH:Nat:=162
abbrev dN:Nat:=163
abbrev uZ:Nat:=164
abbrev sN:Nat:=165
abbrev oT:Nat:=166
abbrev nQ:Nat:=167
abbrev jH:Nat:=168
abbrev sO:Nat:=169
abbrev uW:Nat:=170
abbrev pB:Nat:=171
abbrev qN:Nat:=172
abbrev gK:Nat:=173
abbrev kK:Nat:=174
abbrev fP:Nat:=175
abbrev fS:Nat:=176
abbrev jW:Nat:=177
abbrev gM:Nat:=178
abbrev kC:Nat:=179
abbrev uU:Nat:=180
abbrev rE:Nat:=181
abbrev lW:Nat:=182
abbrev nM:Nat:=183
abbrev uY:Nat:=184
abbrev D0:Nat:=185
abbrev pQ:Nat:=186
abbrev X5:Nat:=187
abbrev C8:Nat:=188
abbrev HG:Nat:=189
abbrev lB:Nat:=190
abbrev pZ:Nat:=191
abbrev uJ:Nat:=192
abbrev yZ:Nat:=193
abbrev O6:Nat:=194
abbrev zU:Nat:=195
abbrev O2:Nat:=196
abbrev uR:Nat:=197
abbrev O3:Nat:=198
abbrev qO:Nat:=199
abbrev F8:Nat:=200
abbrev O1:Nat:=201
abbrev gN:Nat:=202
abbrev lF:Nat:=203
abbrev gO:Nat:=204
abbrev lG:Nat:=205
abbrev W9:Nat:=206
abbrev uO:Nat:=207
abbrev pU:Nat:=208
abbrev yO:Nat:=209
abbrev jX:Nat:=210
abbrev oI:Nat:=211
abbrev fY:Nat:=212
abbrev rZ:Nat:=213
abbrev G4:Nat:=214
abbrev P3:Nat:=215
abbrev O5:Nat:=216
abbrev yG:Nat:=217
abbrev zS:Nat:=218
abbrev mH:Nat:=219
abbrev iF:Nat:=220
abbrev mV:Nat:=221
abbrev pW:Nat:=222
abbrev oS:Nat:=223
abbrev vG:Nat:=224
abbrev xW:Nat:=226
abbrev eH:Nat:=227
abbrev mW:Nat:=228
abbrev nR:Nat:=229
abbrev mF:Nat:=230
abbrev pC:Nat:=231
abbrev BZ:Nat:=232
abbrev mO:Nat:=233
abbrev uV:Nat:=234
abbrev O9:Nat:=235
abbrev X1:Nat:=236
abbrev X0:Nat:=237
abbrev iE:Nat:=238
abbrev mU:Nat:=239
abbrev qL:Nat:=240
abbrev oY:Nat:=241
abbrev qZ:Nat:=242
abbrev C9:Nat:=243
abbrev xU:Nat:=244
abbrev lE:Nat:=245
abbrev CB:Nat:=246
abbrev lC:Nat:=247
abbrev vA:Nat:=248
abbrev rA:Nat:=249
abbrev EC:Nat:=250
abbrev lD:Nat:=251
abbrev nP:Nat:=252
abbrev yI:Nat:=253
abbrev yJ:Nat:=254
abbrev oE:Nat:=255
abbrev gV:Nat:=256
abbrev jA:Nat:=257
abbrev tH:Nat:=258
abbrev mI:Nat:=259
abbrev dR:Nat:=260
abbrev sL:Nat:=261
abbrev nL:Nat:=262
abbrev uN:Nat:=263
abbrev rW:Nat:=264
abbrev pX:Nat:=265
abbrev I9:Nat:=266
abbrev sV:Nat:=267
abbrev uS:Nat:=270
abbrev qQ:Nat:=271
abbrev F9:Nat:=272
abbrev uK:Nat:=273
abbrev dZ:Nat:=274
abbrev L7:Nat:=275
abbrev jU:Nat:=276
abbrev X4:Nat:=277
abbrev rB:Nat:=278
abbrev G0:Nat:=279
abbrev iS:Nat:=280
abbrev yY:Nat:=281
abbrev oR:Nat:=282
abbrev iH:Nat:=283
abbrev uQ:Nat:=289
abbrev LL:Nat:=2
abbrev aK:Nat:=3
abbrev Q1:Nat:=4
abbrev bK:Nat:=5
abbrev bE:Nat:=9
abbrev cT:Nat:=21
abbrev aJ:Nat:=22
abbrev bJ:Nat:=23
abbrev aA:Nat:=24
abbrev cB:Nat:=26
abbrev qhY:Nat:=29
abbrev aR:Nat:=31
abbrev iT:Nat:=32
abbrev bB:Nat:=46
abbrev eC:Nat:=47
abbrev bO:Nat:=49
abbrev oB:Nat:=55
abbrev qcZ:Nat:=57
abbrev YO:Nat:=58
abbrev dC:Nat:=70
abbrev AG:Nat:=94
abbrev qJ:Nat:=98
abbrev aY:Nat:=99
abbrev bN:Nat:=104
abbrev qcY:Nat:=108
abbrev tV:Nat:=113
abbrev cG:Nat:=115
abbrev dU:Nat:=122
abbrev dO:Nat:=127
abbrev aV:Nat:=131
abbrev oC:Nat:=139
abbrev kW:Nat:=141
abbrev SM:Nat:=144
abbrev iM:Nat:=147
abbrev qc3:Nat:=165
abbrev Z2:Nat:=173
abbrev A2:Nat:=176
abbrev cW:Nat:=177
abbrev iN:Nat:=182
abbrev gP:Nat:=183
abbrev z7:Nat:=185
abbrev qc1:Nat:=193
abbrev H7:Nat:=199
abbrev LM:Nat:=202
abbrev cF:Nat:=205
abbrev cU:Nat:=208
abbrev pF:Nat:=212
abbrev dG:Nat:=214
abbrev aU:Nat:=216
abbrev aM:Nat:=219
abbrev DF:Nat:=228
abbrev gS:Nat:=229
abbrev T4:Nat:=231
abbrev qc2:Nat:=241
abbrev QD:Nat:=244
abbrev OP:Nat:=247
abbrev SK:Nat:=251
abbrev qfx:Nat:=252
abbrev kO:Nat:=253
abbrev jL:Nat:=254
abbrev kQ:Nat:=256
abbrev y9:Nat:=260
abbrev gH:Nat:=261
abbrev fC:Nat:=262
abbrev qhX:Nat:=264
abbrev qfw:Nat:=266
abbrev fU:Nat:=267
abbrev qaa:Nat:=269
abbrev sZ:Nat:=270
abbrev SI:Nat:=280
abbrev DG:Nat:=284
abbrev kV:Nat:=288
abbrev SL:Nat:=291
abbrev dB:Nat:=297
abbrev pG:Nat:=298
abbrev fL:Nat:=319
abbrev qcX:Nat:=321
abbrev y6:Nat:=323
abbrev nE:Nat:=326
abbrev z8:Nat:=330
abbrev AF:Nat:=336
abbrev SJ:Nat:=343
abbrev B0:Nat:=345
abbrev T3:Nat:=356
abbrev tL:Nat:=358
abbrev tK:Nat:=359
abbrev qc0:Nat:=363
end
section
open Go Go.Proofs.Tryz
variable {w:World} {R:Ending→World→Prop}
set_option maxRecDepth 100000
theorem Y4{l0:Value}{A:Bool}{C:Value}{J:Int}{M:Int}{N:Bool}{O:Value}{T:Value}{U:Int}{r:Int}(h:kA P cB (.agg #[.bool A,C,aB J,aB M,.bool N,O,T,aB U]) w fun o4 aw=>∃J0:World→Prop,(aF P bJ dM (aH (o4.add 1)) aw fun bf=>bC P bJ bf fun bg=>aQ (!(decide ((bg:Int)>60))) (aE P pD bA #[l0] aw fun(bh:Int) ax=>aQ (!(decide (bh>1200))) (bC P aJ l0 fun t25=>aQ ((t25:Int)==0) (aE P bZ kG #[] ax fun(q:Bool) bn=>R (aW (.bool q)) bn) (J0 ax)) (aE P bZ kG #[] ax fun(q:Bool) bp=>R (aW (.bool q)) bp)) (aE P bZ kG #[] aw fun(q:Bool) bq=>R (aW (.bool q)) bq))∧∀(_:bV) (bb:World),J0 bb→bC P aJ l0 fun bi=>kY P .rem qhY (dQ .u64) (.int .u64 (gD r)) (.int .u64 (gD (bi:Int))) fun(bj:Int)=>bC P aJ l0 fun t37=>∃(I:Value→Int→World→Prop) (μ:Value→Int→World→Nat),I (bR) (i64 ((t37:Int)-1)) bb∧∀(_:bV) (m8:Value) (i9:Int) (j:World),I m8 i9 j→aQ (decide (i9≥0)) (bC P aJ l0 fun bl=>kY P .rem aK bA (aB (i64 (i9+(i64 bj)))) (aB (bl:Int)) fun(t50:Int)=>aX P aJ l0 (aB t50) fun t51=>aF P aR (.part (.agg [.str,.val])) (aH t51) j fun(X:ByteArray) Y=>eG P aJ 1 #[(0,.agg #[.string X,Y])] j fun t53 br=>fV P #[aJ,aJ] aJ #[m8,t53] br fun ay bc=>I ay (i64 (i9-1)) bc∧μ ay (i64 (i9-1)) bc<μ m8 i9 j) (aF P cB (.part (.agg [.bool,.val,.int .i64,.int .i64,.bool,.val,.val,.int .i64])) (aH o4) j fun(Z:Bool) aa (ab:Int) (ac:Int) (ae:Bool) af ag (ah:Int)=>aE P sR (.tup [.one .val,.one (.int .i64)]) #[l0,.agg #[.bool Z,aa,aB ab,aB ac,.bool ae,af,ag,aB ah]] j fun ai (aj:Int) V=>aF P cB (.part (.agg [.bool,.val,.int .i64,.int .i64,.bool,.val,.val,.int .i64])) (aH o4) V fun(ak:Bool) al (am:Int) (an:Int) (ao:Bool) ap aq (ar:Int)=>aE P sR (.tup [.one .val,.one (.int .i64)]) #[m8,.agg #[.bool ak,al,aB am,aB an,.bool ao,ap,aq,aB ar]] V fun au (av:Int) az=>aE P bZ kG #[] az fun(bm:Bool) u=>aQ bm (aQ (aj==av) (aE P nU kG #[ai,au] u fun(t76:Bool) ba=>R (aW (.bool t76)) ba) (R (aW (.bool false)) u)) (R (aW (.bool false)) u))):
  Calls P xG #[l0,.agg #[.bool A,C,aB J,aB M,.bool N,O,T,aB U],aB r] w R:=
 cX ⟨[(6,[(8,.val),(9,.int .i64)])],[(3,[])]⟩ func3 rfl h
theorem S8{C:Value}{j:Int}{q:ByteArray}(h:∃Z:World→Prop,(bC P aA C fun I=>aQ (!(decide ((I:Int)>3000))) (aQ (!(decide ((q.size:Int)>300))) (aQ (decide (j>1048576)) (aE P bZ kG #[] w fun(r:Bool) O=>R (aW (.bool r)) O) (Z w)) (aE P bZ kG #[] w fun(r:Bool) T=>R (aW (.bool r)) T)) (aE P bZ kG #[] w fun(r:Bool) U=>R (aW (.bool r)) U))∧∀(_:bV) (A:World),Z A→aE P lJ dM #[C,.int .u8 71] A fun t23 V=>aE P kE kG #[t23,aB j,.string q] V fun(J:Bool) X=>aE P bZ kG #[] X fun(M:Bool) u=>aQ M (aQ J (aE P nW kG #[t23,C,.int .u8 71] u fun(N:Bool) Y=>R (aW (.bool N)) Y) (R (aW (.bool false)) u)) (R (aW (.bool false)) u)):
  Calls P vH #[C,aB j,.string q] w R:=
 cX ⟨[],[(3,[])]⟩ func4 rfl h
theorem K0{l0:Value}{Y:Bool}{Z:Value}{aa:Int}{ab:Int}{ac:Bool}{ae:Value}{af:Value}{ag:Int}{V:Value}{aw:Value}{X:Int}{j:Int}{q:ByteArray}(h:kA P cB (.agg #[.bool Y,Z,aB aa,aB ab,.bool ac,ae,af,aB ag]) w fun o8 ax=>∃J0:World→Prop,(aF P bJ dM (aH (o8.add 1)) ax fun bj=>bC P bJ bj fun bl=>aQ (!(decide ((bl:Int)>60))) (aE P pD bA #[l0] ax fun(t25:Int) U=>aQ (!(decide (t25>600))) (bC P bJ V fun bm=>aQ (!(decide ((bm:Int)>20))) (aQ (!(decide ((q.size:Int)>300))) (aQ (decide (j>1048576)) (aE P bZ kG #[] U fun(r:Bool) cb=>R (aW (.bool r)) cb) (J0 U)) (aE P bZ kG #[] U fun(r:Bool) cc=>R (aW (.bool r)) cc)) (aE P bZ kG #[] U fun(r:Bool) cd=>R (aW (.bool r)) cd)) (aE P bZ kG #[] U fun(r:Bool) cf=>R (aW (.bool r)) cf)) (aE P bZ kG #[] ax fun(r:Bool) cg=>R (aW (.bool r)) cg))∧∀(_:bV) (ay:World),J0 ay→aF P cB (.part (.agg [.bool,.val,.int .i64,.int .i64,.bool,.val,.val,.int .i64])) (aH o8) ay fun(ak:Bool) al (am:Int) (an:Int) (ao:Bool) ap aq (ar:Int)=>aE P sR (.tup [.one .val,.one (.int .i64)]) #[l0,.agg #[.bool ak,al,aB am,aB an,.bool ao,ap,aq,aB ar]] ay fun u (au:Int) ci=>∃J1:World→Prop,(aE P bZ kG #[] ci fun(bn:Bool) M=>aQ (!(!bn)) (aQ (!(au !=0)) (bC P aA u fun bp=>aQ ((bp:Int)==0) (aE P bZ kG #[] M fun(O:Bool) bd=>R (aW (.bool O)) bd) (J1 M)) (aE P bZ kG #[] M fun(O:Bool) be=>R (aW (.bool O)) be)) (aE P bZ kG #[] M fun(O:Bool) bf=>R (aW (.bool O)) bf))∧∀(_:bV) (ah:World),J1 ah→aE P nV dM #[u] ah fun av bg=>∃J2:World→Prop,(∃(I:Int→World→Prop) (μ:Int→World→Nat),I 0 bg∧∀(_:bV) (A:Int) (J:World),I A J→∃J3:World→Prop,(bC P bJ V fun bq=>aQ (decide (A<(bq:Int))) (bC P aA aw fun t70=>aQ (decide (A<(t70:Int))) (J3 J) (J2 J)) (J2 J))∧∀(_:bV) (N:World),J3 N→∃B C:World→Prop,(B N.drew∧C N.drew)∧aX P bJ V (aB A) fun br=>aI P aK bA (aH br) C fun(bt:Int)=>bC P aA av fun bu=>kY P .rem qhY (dQ .u64) (.int .u64 (gD bt)) (.int .u64 (gD (bu:Int))) fun(bv:Int)=>aX P aA aw (aB A) fun bw=>aI P bK (dQ .u8) (aH bw) C fun(bx:Int)=>aX P aA av (aB (i64 bv)) fun bz=>aL P bK (aH bz) (.int .u8 bx) N.drew fun T=>B T∧I (i64 (A+1)) T∧μ (i64 (A+1)) T<μ A J)∧∀(_:bV) (ai:World),J2 ai→aE P kE kG #[av,aB j,.string q] ai fun(ca:Bool) aj=>aQ ca (bC P aA u fun az=>kY P .rem qhY (dQ .u64) (.int .u64 (gD X)) (.int .u64 (gD (az:Int))) fun(ba:Int)=>cH P aA u none (some (aB (i64 ba))) none fun bb=>aE P kE kG #[bb,aB j,.string q] aj fun(bc:Bool) bh=>R (aW (.bool bc)) bh) (R (aW (.bool false)) aj)):
  Calls P rY #[l0,.agg #[.bool Y,Z,aB aa,aB ab,.bool ac,ae,af,aB ag],V,aw,aB X,aB j,.string q] w R:=
 cX ⟨[(8,[(18,.int .i64)])],[(3,[]),(6,[]),(10,[]),(11,[])]⟩ func5 rfl h
theorem ID{l0:Value}(h:∃(I:Int→Int→World→Prop) (μ:Int→Int→World→Nat),I 0 0 w∧∀(_:bV) (u:Int) (i4:Int) (j:World),I u i4 j→∃N:World→Prop,(bC P aJ l0 fun O=>aQ (decide (i4<(O:Int))) (aQ (decide (i4<100)) (N j) (bC P aJ l0 fun r=>aQ (decide ((r:Int)≥100)) (R (aW (aB 1073741824)) j) (R (aW (aB u)) j))) (bC P aJ l0 fun r=>aQ (decide ((r:Int)≥100)) (R (aW (aB 1073741824)) j) (R (aW (aB u)) j)))∧∀(_:bV) (q:World),N q→aX P aJ l0 (aB i4) fun J=>aI P aA dM (aH (J.add 1)) (fun w'=>w'=q.drew) fun M=>bC P aA M fun A=>aX P aJ l0 (aB i4) fun t25=>aI P bE P9 (aH (t25.add 0)) (fun w'=>w'=q.drew) fun(C:ByteArray)=>I (i64 ((i64 (u+(A:Int)))+(C.size:Int))) (i64 (i4+1)) q.drew∧μ (i64 ((i64 (u+(A:Int)))+(C.size:Int))) (i64 (i4+1)) q.drew<μ u i4 j):
  Calls P pD #[l0] w R:=
 cX ⟨[(3,[(3,.int .i64),(4,.int .i64)])],[(5,[])]⟩ func6 rfl h
theorem CU(h:eG P aA 1 #[(0,.int .u8 98)] w fun t4 C=>tC P aA aA dM t4 C fun t5 I=>uF t5 (eG P aJ 1 #[(0,.agg #[.string (ByteArray.mk #[97]),t5])] I fun N J=>aE P sR (.tup [.one .val,.one (.int .i64)]) #[N,.agg #[.bool false,bR,aB 0,aB 16,.bool false,bR,bR,aB 0]] J fun q (r:Int) j=>aQ (r==0) (bC P aA q fun u=>aQ (decide ((u:Int)>0)) (aE P BW bA #[bR,aB 16] j fun(A:Int) M=>R (aW (.bool (A==64))) M) (R (aW (.bool false)) j)) (R (aW (.bool false)) j))):
  Calls P bZ #[] w R:=
 dI func7 rfl h
theorem qeJ{l0:Value}{ah:Bool}{ai:Value}{aj:Int}{ak:Int}{al:Bool}{am:Value}{an:Value}{ao:Int}(h:kA P cB (.agg #[.bool ah,ai,aB aj,aB ak,.bool al,am,an,aB ao]) w fun o3 cj=>aF P cB (.part (.agg [.bool,.val,.int .i64,.int .i64,.bool,.val,.val,.int .i64])) (aH o3) cj fun(bb:Bool) bc (bd:Int) (be:Int) (bf:Bool) bg bh (bi:Int)=>aE P L5 kG #[.agg #[.bool bb,bc,aB bd,aB be,.bool bf,bg,bh,aB bi]] cj fun(dh:Bool) cl=>aQ (!dh) (R (bP #[bR,aB 1]) cl) (aE P X2 (.tup [.one .val,.one (.int .i64)]) #[l0] cl fun N (O:Int) cu=>aQ (O !=0) (R (bP #[bR,aB O]) cu) (bC P aJ N fun di=>∃(I:Value→Value→Int→World→Prop) (μ:Value→Value→Int→World→Nat),I (bR) (bR) 0 cu∧∀(_:bV) (q:Value) (j:Value) (u:Int) (M:World),I q j u M→aQ (decide (u<(di:Int))) (aX P aJ N (aB u) fun t33=>aF P aR (.part (.agg [.str,.val])) (aH t33) M fun(bj:ByteArray) bl=>cD P aR M fun de dv=>aL P aR (aH de) (.agg #[.string bj,bl]) dv fun cf=>aF P aR (.part (.agg [.str,.val])) (aH de) cf fun(bm:ByteArray) bn=>aF P cB (.part (.agg [.bool,.val,.int .i64,.int .i64,.bool,.val,.val,.int .i64])) (aH o3) cf fun(bp:Bool) bq (br:Int) (bt:Int) (bu:Bool) bv bw (bx:Int)=>aE P W8 (.tup [.one .val,.agg [.str,.int .i64,.int .u32,.val,.int .i64]]) #[.agg #[.string bm,bn],.agg #[.bool bp,bq,aB br,aB bt,.bool bu,bv,bw,aB bx]] cf fun T (bz:ByteArray) (ca:Int) (cb:Int) cc (cd:Int) dw=>cD P bO dw fun J dx=>aL P bO (aH J) (.agg #[.string bz,aB ca,.int .u32 cb,cc,aB cd]) dx fun cg=>∃B:World→Prop,B cg.drew∧aI P bO (.part (.agg [.str,.int .i64,.int .u32,.val,.int .i64])) (aH J) B fun(V:ByteArray) (X:Int) (Y:Int) Z (aa:Int)=>(fV P #[aA,aA] aA #[q,T] cg.drew fun U aq=>B aq∧eG P bB 1 #[(0,.agg #[.string V,aB X,.int .u32 Y,Z,aB aa])] aq fun t46 ar=>B ar∧fV P #[bB,bB] bB #[j,t46] ar fun ab ac=>B ac∧I U ab (i64 (u+1)) ac∧μ U ab (i64 (u+1)) ac<μ q j u M)∧(eG P bB 1 #[(0,.agg #[.string V,aB X,.int .u32 Y,Z,aB aa])] cg.drew fun t46 au=>B au∧fV P #[aA,aA] aA #[q,T] au fun U av=>B av∧fV P #[bB,bB] bB #[j,t46] av fun ab ae=>B ae∧I U ab (i64 (u+1)) ae∧μ U ab (i64 (u+1)) ae<μ q j u M)) (cD P qcZ M fun A af=>∃J0:Int→World→Prop,(aF P Q1 kG (aH (o3.add 0)) af fun(t50:Bool)=>aQ t50 (J0 1 af) (J0 0 af))∧∀(_:bV) (C:Int) (ag:World),J0 C ag→aF P aK bA (aH (o3.add 2)) ag fun(t53:Int)=>aE P bY jO #[aH (A.add 0),.int .u64 (gD t53)] ag fun aw=>aF P aK bA (aH (o3.add 3)) aw fun(dj:Int)=>aE P bY jO #[aH (A.add 0),.int .u64 (gD dj)] aw fun ck=>aE P bY jO #[aH (A.add 0),.int .u64 C] ck fun ax=>aF P bJ dM (aH (o3.add 1)) ax fun dk=>aE P pA jO #[aH A,dk] ax fun cm=>aE P sS jO #[aH A,j] cm fun ay=>aF P aK bA (aH (o3.add 3)) ay fun(dl:Int)=>aE P mG dM #[q,aB dl] ay fun dm cn=>GZ P dm cn (fun dg az (KK:World→Prop)=>aF P aK bA (aH (o3.add 2)) az fun(t76:Int)=>aE P nK jO #[aH A,dg,aB t76] az fun cp=>KK cp) (fun DD co=>aE P fF dM #[aH (A.add 0)] co fun ci cq=>cD P oB cq fun r cr=>eG P aA 4 #[(0,.int .u8 118),(1,.int .u8 98),(2,.int .u8 120),(3,.int .u8 1)] cr fun dn ct=>tC P aA aA dM dn ct fun dp cw=>eG P aY 1 #[(0,dp)] cw fun dq cx=>aE P cY jO #[aH r,dq] cx fun cy=>aE P E4 (dQ .u32) #[ci] cy fun(dr:Int) cz=>aE P kD jO #[aH r,.int .u64 (gD dr),aB 4] cz fun db=>eG P aY 1 #[(0,ci)] db fun dt dc=>aE P cY jO #[aH r,dt] dc fun dd=>aE P fF dM #[aH r] dd fun du ba=>ba.heap[DD]?=some (.deferred (some []))∧R (bP #[du,aB 0]) (ba.putObj DD (.deferred none))))))):
  Calls P sR #[l0,.agg #[.bool ah,ai,aB aj,aB ak,.bool al,am,an,aB ao]] w R:=
 MM qgV (An:=⟨[(9,[(7,.val),(8,.val),(31,.int .i64)])],[(18,[(14,.int .u64)])]⟩) (fn:=f8) func8 rfl rfl (by kernel_rfl) (Eq.mpr (by kernel_rfl) h)
theorem FP{a0:Value}{r:Value}(h:tC P aA bE P9 a0 w fun(u:ByteArray) j=>tC P aA bE P9 r j fun(A:ByteArray) q=>R (aW (.bool (u.toList==A.toList))) q):
  Calls P nU #[a0,r] w R:=
 dI func9 rfl h
theorem Y3{l0:Value}{j:Int}(h:bC P aA l0 fun t9=>mT P aA (aB 0) (aB (i64 ((t9:Int)+3))) w fun J U=>fV P #[aA,aA] aA #[J,l0] U fun u V=>bC P aA l0 fun M=>cH P aA u none (some (aB (i64 ((M:Int)+3)))) none fun A=>bC P aA l0 fun N=>∃(I:Int→World→Prop) (μ:Int→World→Nat),I (N:Int) V∧∀(_:bV) (r:Int) (q:World),I r q→bC P aA A fun O=>aQ (decide (r<(O:Int))) (aX P aA A (aB r) fun T=>aL P bK (aH T) (.int .u8 j) q fun C=>I (i64 (r+1)) C∧μ (i64 (r+1)) C<μ r q) (R (aW (u)) q)):
  Calls P lJ #[l0,.int .u8 j] w R:=
 cX ⟨[(5,[(7,.int .i64)])],[]⟩ func10 rfl h
theorem CV{x0:Value}{O:Int}{aa:ByteArray}(h:aE P HH (.tup [.one .val,.one (.int .i64)]) #[x0] w fun j (u:Int) dn=>aE P NA (.tup [.one .val,.one (.int .i64)]) #[x0,aB O] dn fun C (q:Int) dp=>aE P NB (.tup [.agg [.str,.val],.one (.int .i64)]) #[x0,.string aa,aB O] dp fun(av:ByteArray) aw (J:Int) dq=>cD P aR dq fun A dr=>aL P aR (aH A) (.agg #[.string av,aw]) dr fun dt=>aE P N9 (.tup [.agg [.bool,.val,.int .i64,.int .i64,.bool,.val,.val,.int .i64],.one (.int .i64)]) #[x0] dt fun(ax:Bool) ay (az:Int) (ba:Int) (bb:Bool) bc bd (be:Int) (ao:Int) du=>cD P cB du fun dl dv=>aL P cB (aH dl) (.agg #[.bool ax,ay,aB az,aB ba,.bool bb,bc,bd,aB be]) dv fun ab=>∃J0:World→Prop,(aQ (!(decide (u<0))) (aQ (!(decide (u>11))) (aQ (!(decide (q<0))) (aQ (!(decide (q>11))) (aQ (!(decide (J<0))) (aQ (!(decide (J>11))) (aQ (!(decide (ao<0))) (aQ (decide (ao>11)) (R (aW (.bool false)) ab) (J0 ab)) (R (aW (.bool false)) ab)) (R (aW (.bool false)) ab)) (R (aW (.bool false)) ab)) (R (aW (.bool false)) ab)) (R (aW (.bool false)) ab)) (R (aW (.bool false)) ab)) (R (aW (.bool false)) ab))∧∀(_:bV) (r:World),J0 r→∃J1:World→Prop,(aQ (u !=0) (bC P dC j fun dm=>aQ (!(decide ((dm:Int)>0))) (aQ (q !=0) (bC P aJ C fun bf=>aQ (!(decide ((bf:Int)>0))) (aQ (J !=0) (aF P aR (.part (.agg [.str,.val])) (aH A) r fun(T:ByteArray) U=>aE P jJ kG #[.agg #[.string T,U],.agg #[.string (ByteArray.mk #[]),bR]] r fun(af:Bool) ag=>aQ (!(!af)) (aQ (q==0) (aQ (u !=0) (R (aW (.bool false)) ag) (J1 ag)) (J1 ag)) (R (aW (.bool false)) ag)) (aQ (q==0) (aQ (u !=0) (R (aW (.bool false)) r) (J1 r)) (J1 r))) (R (aW (.bool false)) r)) (aQ (J !=0) (aF P aR (.part (.agg [.str,.val])) (aH A) r fun(T:ByteArray) U=>aE P jJ kG #[.agg #[.string T,U],.agg #[.string (ByteArray.mk #[]),bR]] r fun(af:Bool) ah=>aQ (!(!af)) (aQ (q==0) (aQ (u !=0) (R (aW (.bool false)) ah) (J1 ah)) (J1 ah)) (R (aW (.bool false)) ah)) (aQ (q==0) (aQ (u !=0) (R (aW (.bool false)) r) (J1 r)) (J1 r)))) (R (aW (.bool false)) r)) (aQ (q !=0) (bC P aJ C fun bf=>aQ (!(decide ((bf:Int)>0))) (aQ (J !=0) (aF P aR (.part (.agg [.str,.val])) (aH A) r fun(T:ByteArray) U=>aE P jJ kG #[.agg #[.string T,U],.agg #[.string (ByteArray.mk #[]),bR]] r fun(af:Bool) ai=>aQ (!(!af)) (aQ (q==0) (aQ (u !=0) (R (aW (.bool false)) ai) (J1 ai)) (J1 ai)) (R (aW (.bool false)) ai)) (aQ (q==0) (aQ (u !=0) (R (aW (.bool false)) r) (J1 r)) (J1 r))) (R (aW (.bool false)) r)) (aQ (J !=0) (aF P aR (.part (.agg [.str,.val])) (aH A) r fun(T:ByteArray) U=>aE P jJ kG #[.agg #[.string T,U],.agg #[.string (ByteArray.mk #[]),bR]] r fun(af:Bool) aj=>aQ (!(!af)) (aQ (q==0) (aQ (u !=0) (R (aW (.bool false)) aj) (J1 aj)) (J1 aj)) (R (aW (.bool false)) aj)) (aQ (q==0) (aQ (u !=0) (R (aW (.bool false)) r) (J1 r)) (J1 r)))))∧∀(_:bV) (X:World),J1 X→∃J2:World→Prop,(bC P dC j fun bg=>aQ (!(decide ((bg:Int)>4096))) (bC P aJ C fun bh=>aQ (!(decide ((bh:Int)>4096))) (aQ (J==0) (aF P aA dM (aH (A.add 1)) X fun bi=>bC P aA bi fun bj=>aQ (decide ((bj:Int)>(if 0>O then 0 else O))) (R (aW (.bool false)) X) (J2 X)) (J2 X)) (R (aW (.bool false)) X)) (R (aW (.bool false)) X))∧∀(_:bV) (au:World),J2 au→∃(I:Int→World→Prop) (μ:Int→World→Nat),I 0 au∧∀(_:bV) (i16:Int) (ae:World),I i16 ae→bC P dC j fun bl=>aQ (decide (i16<(bl:Int))) (∃J3:World→Prop,(∃J4:World→Prop,(∃B:World→Prop,B ae.drew∧aX P dC j (aB i16) fun bm=>aI P bE P9 (aH (bm.add 0)) B fun(bn:ByteArray)=>aE P rG kG #[.string bn] ae.drew fun(bp:Bool) Y=>B Y∧aQ (!(!bp)) (aQ (decide (i16>0)) (aX P dC j (aB (i64 (i16-1))) fun bq=>aI P bE P9 (aH (bq.add 0)) B fun(br:ByteArray)=>aX P dC j (aB i16) fun bt=>aI P bE P9 (aH (bt.add 0)) B fun(bu:ByteArray)=>aQ (!(!(Op.bytesLess br.toList bu.toList))) (aX P dC j (aB i16) fun am=>aI P aK bA (aH (am.add 1)) B fun(an:Int)=>aQ (decide (an<0)) (R (aW (.bool false)) Y) (J4 Y)) (R (aW (.bool false)) Y)) (aX P dC j (aB i16) fun am=>aI P aK bA (aH (am.add 1)) B fun(an:Int)=>aQ (decide (an<0)) (R (aW (.bool false)) Y) (J4 Y))) (R (aW (.bool false)) Y))∧∀(_:bV) (Z:World),J4 Z→∃B1:World→Prop,B1 Z.drew∧aQ (J==0) (aX P dC j (aB i16) fun bv=>aI P bE P9 (aH (bv.add 0)) B1 fun(bw:ByteArray)=>aQ (bw.toList==aa.toList) (aI P aA dM (aH (A.add 1)) B1 fun bx=>bC P aA bx fun bz=>aX P dC j (aB i16) fun ca=>aI P aK bA (aH (ca.add 1)) B1 fun(cb:Int)=>aQ (!((bz:Int) !=cb)) (aI P aA dM (aH (A.add 1)) B1 fun cc=>aX P dC j (aB i16) fun cf=>aI P eC (dQ .u32) (aH (cf.add 2)) B1 fun(cg:Int)=>aE P pE (dQ .u32) #[cc] Z.drew fun(cd:Int) ak=>B1 ak∧aQ (!(cd !=cg)) (aI P bE P9 (aH (A.add 0)) B1 fun(ci:ByteArray)=>aQ (!(ci.toList==aa.toList)) (R (aW (.bool false)) ak) (J3 ak)) (R (aW (.bool false)) ak)) (R (aW (.bool false)) Z.drew)) (J3 Z.drew)) (J3 Z.drew))∧∀(_:bV) (ap:World),J3 ap→I (i64 (i16+1)) ap∧μ (i64 (i16+1)) ap<μ i16 ae) (∃(I1:Int→Int→World→Prop) (μ1:Int→Int→World→Nat),I1 0 0 ae∧∀(_:bV) (M:Int) (V:Int) (N:World),I1 M V N→bC P aJ C fun cj=>aQ (decide (V<(cj:Int))) (aX P aJ C (aB V) fun ck=>aF P aA dM (aH (ck.add 1)) N fun cl=>bC P aA cl fun ar=>∃B2:World→Prop,B2 N.drew∧bC P dC j fun cm=>aQ (!(decide (V≥(cm:Int)))) (aX P aJ C (aB V) fun cn=>aI P bE P9 (aH (cn.add 0)) B2 fun(co:ByteArray)=>aX P dC j (aB V) fun cp=>aI P bE P9 (aH (cp.add 0)) B2 fun(cq:ByteArray)=>aQ (!(!(co.toList==cq.toList))) (aX P aJ C (aB V) fun cr=>aI P aA dM (aH (cr.add 1)) B2 fun ct=>bC P aA ct fun cu=>aX P dC j (aB V) fun cw=>aI P aK bA (aH (cw.add 1)) B2 fun(cx:Int)=>aQ (!((cu:Int) !=cx)) (aX P aJ C (aB V) fun cy=>aI P aA dM (aH (cy.add 1)) B2 fun cz=>aX P dC j (aB V) fun dc=>aI P eC (dQ .u32) (aH (dc.add 2)) B2 fun(dd:Int)=>aE P pE (dQ .u32) #[cz] N.drew fun(db:Int) al=>B2 al∧aQ (db !=dd) (R (aW (.bool false)) al) (I1 (i64 (M+(ar:Int))) (i64 (V+1)) al∧μ1 (i64 (M+(ar:Int))) (i64 (V+1)) al<μ1 M V N)) (R (aW (.bool false)) N.drew)) (R (aW (.bool false)) N.drew)) (R (aW (.bool false)) N.drew)) (aQ (!(q !=0)) (bC P aJ C fun de=>bC P dC j fun df=>aQ ((de:Int)==(df:Int)) (R (aW (.bool (decide (M≤(if 0>O then 0 else O))))) N) (R (aW (.bool false)) N)) (R (aW (.bool true)) N)))):
  Calls P kE #[x0,aB O,.string aa] w R:=
 cX ⟨[(13,[(16,.int .i64)]),(20,[(15,.int .i64),(17,.int .i64)])],[(7,[]),(9,[]),(11,[]),(14,[]),(17,[])]⟩ func11 rfl h
theorem S6{q:Value}{A:Value}{r:Int}(h:∃V:World→Prop,(aE P mX kG #[q,A] w fun(J:Bool) u=>aQ (!(!J)) (qrM P aA q fun M=>bC P aA A fun N=>aQ (decide ((M:Int)<(i64 ((N:Int)+3)))) (R (aW (.bool false)) u) (V u)) (R (aW (.bool false)) u))∧∀(_:bV) (C:World),V C→bC P aA A fun t23=>cH P aA q none (some (aB (i64 ((t23:Int)+3)))) none fun t25=>bC P aA A fun O=>∃(I:Int→World→Prop) (μ:Int→World→Nat),I (O:Int) C∧∀(_:bV) (i8:Int) (j:World),I i8 j→bC P aA t25 fun T=>aQ (decide (i8<(T:Int))) (aX P aA t25 (aB i8) fun U=>aF P bK (dQ .u8) (aH U) j fun(t37:Int)=>aQ (t37 !=r) (R (aW (.bool false)) j) (I (i64 (i8+1)) j∧μ (i64 (i8+1)) j<μ i8 j)) (R (aW (.bool true)) j)):
  Calls P nW #[q,A,.int .u8 r] w R:=
 cX ⟨[(5,[(8,.int .i64)])],[(3,[])]⟩ func12 rfl h
theorem S5{q:Value}(h:fV P #[aA,aA] aA #[bR,q] w fun t4 j=>R (aW (t4)) j):
  Calls P nV #[q] w R:=
 dI func13 rfl h
theorem qcl{l0:Value}{q:Int}(h:bC P aJ l0 fun O=>∃(I:Int→Int→Int→World→Prop) (μ:Int→Int→Int→World→Nat),I 0 0 0 w∧∀(_:bV) (C:Int) (j:Int) (r:Int) (u:World),I C j r u→aQ (decide (r<(O:Int))) (aX P aJ l0 (aB r) fun T=>aF P aR (.part (.agg [.str,.val])) (aH T) u fun(J:ByteArray) M=>cD P aR u fun x8 Y=>aL P aR (aH x8) (.agg #[.string J,M]) Y fun A=>aF P aA dM (aH (x8.add 1)) A fun U=>bC P aA U fun N=>aF P bE P9 (aH (x8.add 0)) A fun(t22:ByteArray)=>I (i64 (C+(N:Int))) (i64 (j+(t22.size:Int))) (i64 (r+1)) A∧μ (i64 (C+(N:Int))) (i64 (j+(t22.size:Int))) (i64 (r+1)) A<μ C j r u) (bC P aJ l0 fun V=>aE P KE bA #[aB C,aB (if 16>q then 16 else q)] u fun(X:Int) Z=>R (aW (aB (i64 ((i64 ((i64 ((i64 ((i64 (C+(i64 (Int.tdiv (i64 ((i64 (C+128))-1)) 128))))+j))+(i64 (31*(V:Int)))))+(i64 (32*X))))+64)))) Z)):
  Calls P BW #[l0,aB q] w R:=
 cX ⟨[(3,[(5,.int .i64),(6,.int .i64),(11,.int .i64)])],[]⟩ func14 rfl h
theorem qcm{I:Bool}{J:Value}{M:Int}{N:Int}{O:Bool}{T:Value}{U:Value}{V:Int}(h:kA P cB (.agg #[.bool I,J,aB M,aB N,.bool O,T,U,aB V]) w fun r q=>∃J0:World→Prop,(∃X:Bool→World→Prop,(aF P aK bA (aH (r.add 2)) q fun(t5:Int)=>aQ (!(decide (t5<0))) (aF P aK bA (aH (r.add 2)) q fun(t9:Int)=>aQ (!(decide (t9≥3))) (aF P aK bA (aH (r.add 3)) q fun(Z:Int)=>aQ (!(decide (Z<16))) (aF P aK bA (aH (r.add 3)) q fun(aa:Int)=>X (decide (aa>65536)) q) (X true q)) (X true q)) (X true q))∧∀(_:bV) (t3:Bool) (C:World),X t3 C→aQ t3 (R (aW (.bool false)) C) (∃Y:Bool→World→Prop,(aF P bJ dM (aH (r.add 1)) C fun ab=>aE P oM kG #[ab] C fun(t25:Bool) A=>aQ (!(!t25)) (aF P Q1 kG (aH (r.add 0)) A fun(ac:Bool)=>aQ ac (aF P bJ dM (aH (r.add 1)) A fun ae=>bC P bJ ae fun t33=>Y (decide ((t33:Int)>0)) A) (Y false A)) (Y true A))∧∀(_:bV) (t22:Bool) (j:World),Y t22 j→aQ t22 (R (aW (.bool false)) j) (aF P Q1 kG (aH (r.add 4)) j fun(t39:Bool)=>aQ t39 (aF P aA dM (aH (r.add 5)) j fun af=>bC P aA af fun ag=>aQ ((ag:Int)==16) (aF P aA dM (aH (r.add 6)) j fun t46=>bC P aA t46 fun ah=>aQ ((ah:Int)==12) (aF P aK bA (aH (r.add 7)) j fun(ai:Int)=>aQ (decide (ai≥1)) (aF P aK bA (aH (r.add 7)) j fun(aj:Int)=>R (aW (.bool (decide (aj≤1000)))) j) (R (aW (.bool false)) j)) (R (aW (.bool false)) j)) (R (aW (.bool false)) j)) (J0 j))))∧∀(_:bV) (u:World),J0 u→aF P aA dM (aH (r.add 5)) u fun ak=>bC P aA ak fun al=>aQ ((al:Int)==0) (aF P aA dM (aH (r.add 6)) u fun t66=>bC P aA t66 fun am=>aQ ((am:Int)==0) (aF P aK bA (aH (r.add 7)) u fun(an:Int)=>R (aW (.bool (an==0))) u) (R (aW (.bool false)) u)) (R (aW (.bool false)) u)):
  Calls P L5 #[.agg #[.bool I,J,aB M,aB N,.bool O,T,U,aB V]] w R:=
 cX ⟨[],[(2,[(3,.bool)]),(4,[(22,.bool)]),(7,[])]⟩ func15 rfl h
theorem q9{l0:Value}(h:aE P gB kG #[l0,.func (.func pY) #[] #[]] w fun(V:Bool) r=>aQ V (R (bP #[bR,aB 6]) r) (aE P gZ dM #[l0] r fun t9 O=>aE P fX jO #[t9,.func (.func uX) #[] #[]] O fun T=>bC P aJ t9 fun A=>∃(I:Int→World→Prop) (μ:Int→World→Nat),I 0 T∧∀(_:bV) (j:Int) (q:World),I j q→aQ (decide (j<(A:Int))) (aQ (decide (j>0)) (aX P aJ t9 (aB j) fun t22=>aI P bE P9 (aH (t22.add 0)) (fun w'=>w'=q.drew) fun(C:ByteArray)=>aX P aJ t9 (aB (i64 (j-1))) fun J=>aI P bE P9 (aH (J.add 0)) (fun w'=>w'=q.drew) fun(M:ByteArray)=>aQ (C.toList==M.toList) (R (bP #[bR,aB 7]) q.drew) (I (i64 (j+1)) q.drew∧μ (i64 (j+1)) q.drew<μ j q)) (I (i64 (j+1)) q.drew∧μ (i64 (j+1)) q.drew<μ j q)) (aE P X3 kG #[t9] q fun(N:Bool) u=>aQ N (R (bP #[bR,aB 5]) u) (aE P CA dM #[t9] u fun t37 U=>R (bP #[t37,aB 0]) U)))):
  Calls P X2 #[l0] w R:=
 cX ⟨[(6,[(14,.int .i64)])],[]⟩ func16 rfl h
theorem l9{V:ByteArray}{X:Value}{C:Bool}{I:Value}{J:Int}{M:Int}{N:Bool}{O:Value}{T:Value}{U:Int}(h:kA P aR (.agg #[.string V,X]) w fun x2 bb=>kA P cB (.agg #[.bool C,I,aB J,aB M,.bool N,O,T,aB U]) bb fun o3 bc=>cD P bO bc fun t5 A=>aF P bJ dM (aH (o3.add 1)) A fun an=>∃J0:Value→World→Prop,(aF P Q1 kG (aH (o3.add 0)) A fun(ao:Bool)=>aQ ao (aF P aA dM (aH (x2.add 1)) A fun ap=>aE P pT dM #[ap] A fun aq bd=>J0 aq bd) (J0 an A))∧∀(_:bV) (r:Value) (Z:World),J0 r Z→aF P aA dM (aH (x2.add 1)) Z fun ar=>aE P pS (.tup [.one .val,.one .val]) #[ar,r] Z fun q Y aj=>∃J1:Value→Value→World→Prop,(bC P aA q fun au=>aF P aA dM (aH (x2.add 1)) aj fun t26=>bC P aA t26 fun av=>aE P BX bA #[aB (av:Int)] aj fun(aw:Int) aa=>aQ (decide ((au:Int)>aw)) (aF P aA dM (aH (x2.add 1)) aa fun ax=>J1 ax (bR) aa) (J1 q Y aa))∧∀(_:bV) (y7:Value) (j:Value) (ab:World),J1 y7 j ab→∃B:World→Prop,B ab.drew∧aI P bE P9 (aH (x2.add 0)) B fun(ay:ByteArray)=>aI P aA dM (aH (x2.add 1)) B fun az=>bC P aA az fun t37=>aI P aA dM (aH (x2.add 1)) B fun t39=>bC P aA y7 fun ba=>aE P E4 (dQ .u32) #[t39] ab.drew fun(t40:Int) ak=>B ak∧uF j (aL P bO (aH t5) (.agg #[.string ay,aB (t37:Int),.int .u32 t40,j,aB (ba:Int)]) ak fun u=>B u∧aF P bO (.part (.agg [.str,.int .i64,.int .u32,.val,.int .i64])) (aH t5) u fun(ae:ByteArray) (af:Int) (ag:Int) ah (ai:Int)=>R (bP #[y7,.agg #[.string ae,aB af,.int .u32 ag,ah,aB ai]]) u)):
  Calls P W8 #[.agg #[.string V,X],.agg #[.bool C,I,aB J,aB M,.bool N,O,T,aB U]] w R:=
 cX ⟨[],[(4,[(6,.val)]),(7,[(7,.val),(8,.val)])]⟩ func17 rfl h
theorem KW{w0:Option Addr}{v1:Int}(h:∃(I:Int→World→Prop) (μ:Int→World→Nat),I v1 w∧∀(_:bV) (j:Int) (q:World),I j q→aQ (decide (j≥128)) (eG P aA 1 #[(0,.int .u8 (L3 .u8 (u8 j) 128))] q fun u M=>eG P aY 1 #[(0,u)] M fun A N=>aE P cY jO #[.pointer w0,A] N fun r=>I (cV .u64 j 7) r∧μ (cV .u64 j 7) r<μ j q) (eG P aA 1 #[(0,.int .u8 (u8 j))] q fun C O=>eG P aY 1 #[(0,C)] O fun J T=>aE P cY jO #[.pointer w0,J] T fun U=>R (bP #[]) U)):
  Calls P bY #[.pointer w0,.int .u64 v1] w R:=
 cX ⟨[(0,[(1,.int .u64)])],[]⟩ func18 rfl h
theorem HP{w0:Option Addr}{u:Value}(h:aS w0 fun T=>bC P bJ u fun A=>aE P bY jO #[aH (T.add 0),.int .u64 (gD (A:Int))] w fun O=>bC P bJ u fun C=>∃(I:Int→World→Prop) (μ:Int→World→Nat),I 0 O∧∀(_:bV) (j:Int) (q:World),I j q→aQ (decide (j<(C:Int))) (aX P bJ u (aB j) fun J=>aF P aK bA (aH J) q fun(M:Int)=>aS w0 fun N=>aE P bY jO #[aH (N.add 0),.int .u64 (gD M)] q fun r=>I (i64 (j+1)) r∧μ (i64 (j+1)) r<μ j q) (R (bP #[]) q)):
  Calls P pA #[.pointer w0,u] w R:=
 cX ⟨[(2,[(15,.int .i64)])],[]⟩ func19 rfl h
theorem EZ{w0:Option Addr}{Z:Value}(h:aS w0 fun t7=>bC P bB Z fun ac=>aE P bY jO #[aH (t7.add 0),.int .u64 (gD (ac:Int))] w fun an=>bC P bB Z fun ae=>∃(I:Int→World→Prop) (μ:Int→World→Nat),I 0 an∧∀(_:bV) (j:Int) (r:World),I j r→aQ (decide (j<(ae:Int))) (aX P bB Z (aB j) fun af=>aF P bO (.part (.agg [.str,.int .i64,.int .u32,.val,.int .i64])) (aH af) r fun(u:ByteArray) (A:Int) (C:Int) J (M:Int)=>cD P bO r fun U ao=>aL P bO (aH U) (.agg #[.string u,aB A,.int .u32 C,J,aB M]) ao fun V=>∃B:World→Prop,B V.drew∧aS w0 fun ag=>aI P bE P9 (aH (U.add 0)) B fun(t23:ByteArray)=>tC P bE aA dM (.string t23) V.drew fun ah X=>B X∧aE P iG jO #[aH (ag.add 0),ah] X fun N=>B N∧∃B1:World→Prop,B1 N.drew∧aS w0 fun ai=>aI P aK bA (aH (U.add 1)) B1 fun(aj:Int)=>aE P bY jO #[aH (ai.add 0),.int .u64 (gD aj)] N.drew fun O=>B1 O∧∃B2:World→Prop,B2 O.drew∧aS w0 fun ak=>aI P eC (dQ .u32) (aH (U.add 2)) B2 fun(t37:Int)=>aE P kD jO #[aH (ak.add 0),.int .u64 (gD t37),aB 4] O.drew fun T=>B2 T∧aF P bJ dM (aH (U.add 3)) T fun al=>aE P pA jO #[.pointer w0,al] T fun Y=>∃B3:World→Prop,B3 Y.drew∧aS w0 fun t45=>aI P aK bA (aH (U.add 4)) B3 fun(am:Int)=>aE P bY jO #[aH (t45.add 0),.int .u64 (gD am)] Y.drew fun q=>B3 q∧I (i64 (j+1)) q∧μ (i64 (j+1)) q<μ j r) (R (bP #[]) r)):
  Calls P sS #[.pointer w0,Z] w R:=
 cX ⟨[(2,[(15,.int .i64)])],[]⟩ func20 rfl h
theorem J8{A:Value}{r:Int}(h:kA P aA A w fun C q=>kA P aK (aB r) q fun u j=>aF P aK bA (aH u) j fun(t5:Int)=>aQ (decide (t5<1)) (QW P dM (do pure (Next.value (←Instr.makeInterface 9 (.string (ByteArray.mk #[99,97,110,110,111,116,32,98,101,32,108,101,115,115,32,116,104,97,110,32,49]))))) j fun J I=>False) (R (aW (.func (.func eR) #[] #[aH C,aH u])) j)):
  Calls P mG #[A,aB r] w R:=
 dI func21 rfl h
theorem EY{w0:Option Addr}{J:Value}{j:Int}(h:aE P yM (.tup [.one .val,.one (.int .i64)]) #[J,aB j] w fun q (r:Int) I=>aQ (!(r !=0)) (bC P aA q fun M=>bC P aA J fun N=>aQ (decide ((M:Int)≥(N:Int))) (aS w0 fun u=>aE P bY jO #[aH (u.add 0),.int .u64 0] I fun U=>aS w0 fun A=>eG P aY 1 #[(0,J)] U fun C V=>aE P cY jO #[aH (A.add 0),C] V fun X=>R (bP #[]) X) (aS w0 fun O=>aE P bY jO #[aH (O.add 0),.int .u64 1] I fun Y=>aS w0 fun T=>aE P iG jO #[aH (T.add 0),q] Y fun Z=>R (bP #[]) Z)) (aS w0 fun u=>aE P bY jO #[aH (u.add 0),.int .u64 0] I fun aa=>aS w0 fun A=>eG P aY 1 #[(0,J)] aa fun C ab=>aE P cY jO #[aH (A.add 0),C] ab fun ac=>R (bP #[]) ac)):
  Calls P nK #[.pointer w0,J,aB j] w R:=
 dI func22 rfl h
theorem FK{w0:Option Addr}(h:AX P .eql AG (.pointer w0) (.pointer none) fun(t4:Bool)=>aQ t4 (R (aW (bR)) w) (aS w0 fun r=>aF P aA dM (.pointer (some (Addr.add (r.add 0) 0))) w fun t9=>fV P #[aA,aA] aA #[bR,t9] w fun j q=>R (aW (j)) q)):
  Calls P fF #[.pointer w0] w R:=
 dI func23 rfl h
end
section
open Go Go.Proofs.Tryz
variable {w:World} {R:Ending→World→Prop}
set_option maxRecDepth 100000
theorem KX{w0:Option Addr}{j:Value}(h:AX P .neq AG (.pointer w0) (.pointer none) fun(t5:Bool)=>aQ t5 (aS w0 fun r=>aE P xX jO #[aH (r.add 0),j] w fun q=>R (bP #[]) q) (R (bP #[]) w)):
  Calls P cY #[.pointer w0,j] w R:=
 dI func24 rfl h
theorem CR{w0:Option Addr}{v1:Int}{r:Int}(h:∃(I:Int→World→Prop) (μ:Int→World→Nat),I 0 w∧∀(_:bV) (j:Int) (q:World),I j q→aQ (decide (j<(if 0>(if 8<r then 8 else r)then 0 else(if 8<r then 8 else r)))) (kY P .shr YO (dQ .u64) (.int .u64 v1) (aB (i64 (8*j))) fun(A:Int)=>eG P aA 1 #[(0,.int .u8 (u8 A))] q fun C M=>eG P aY 1 #[(0,C)] M fun J N=>aE P cY jO #[.pointer w0,J] N fun u=>I (i64 (j+1)) u∧μ (i64 (j+1)) u<μ j q) (R (bP #[]) q)):
  Calls P kD #[.pointer w0,.int .u64 v1,aB r] w R:=
 cX ⟨[(1,[(10,.int .i64)])],[]⟩ func25 rfl h
theorem qhq{q:Value}(h:aE P NC (dQ .u32) #[.int .u32 0,q] w fun(t4:Int) j=>R (aW (.int .u32 t4)) j):
  Calls P E4 #[q] w R:=
 dI func26 rfl h
theorem qeI{x0:Value}(h:aE P xV (.tup [.one .ptr,.one (.int .i64)]) #[x0] w fun(A:Option Addr) (q:Int) T=>aQ (q !=0) (R (bP #[bR,aB q]) T) (aS A fun Z=>aF P bB dM (aH (Z.add 9)) T fun U=>bC P bB U fun aa=>∃(I:Value→Int→World→Prop) (μ:Value→Int→World→Nat),I (bR) 0 T∧∀(_:bV) (j:Value) (t22:Int) (r:World),I j t22 r→aQ (decide (t22<(aa:Int))) (aX P bB U (aB t22) fun ab=>aF P bO (.part (.agg [.str,.int .i64,.int .u32,.val,.int .i64])) (aH ab) r fun(C:ByteArray) (J:Int) (M:Int) N (O:Int)=>cD P bO r fun Y ah=>aL P bO (aH Y) (.agg #[.string C,aB J,.int .u32 M,N,aB O]) ah fun u=>aF P bE P9 (aH (Y.add 0)) u fun(ac:ByteArray)=>aF P aK bA (aH (Y.add 1)) u fun(ae:Int)=>aF P eC (dQ .u32) (aH (Y.add 2)) u fun(af:Int)=>aF P bJ dM (aH (Y.add 3)) u fun V=>uF V (eG P dC 1 #[(0,.agg #[.string ac,aB ae,.int .u32 af,V])] u fun ag ai=>fV P #[dC,dC] dC #[j,ag] ai fun t37 X=>I t37 (i64 (t22+1)) X∧μ t37 (i64 (t22+1)) X<μ j t22 r)) (R (bP #[j,aB 0]) r))):
  Calls P HH #[x0] w R:=
 cX ⟨[(6,[(6,.val),(22,.int .i64)])],[]⟩ func27 rfl h
theorem qhn{x0:Value}{A:Int}(h:aE P xV (.tup [.one .ptr,.one (.int .i64)]) #[x0] w fun(C:Option Addr) (aa:Int) bi=>aQ (aa !=0) (R (bP #[bR,aB aa]) bi) (aS C fun t26=>aF P bB dM (aH (t26.add 9)) bi fun bp=>bC P bB bp fun bz=>∃(I:Int→Int→World→Prop) (μ:Int→Int→World→Nat),I 0 0 bi∧∀(_:bV) (q:Int) (X:Int) (Y:World),I q X Y→aQ (decide (X<(bz:Int))) (aX P bB bp (aB X) fun ca=>aF P bO (.part (.agg [.str,.int .i64,.int .u32,.val,.int .i64])) (aH ca) Y fun(av:ByteArray) (aw:Int) (ax:Int) ay (az:Int)=>cD P bO Y fun bv cf=>aL P bO (aH bv) (.agg #[.string av,aB aw,.int .u32 ax,ay,aB az]) cf fun bj=>aF P aK bA (aH (bv.add 1)) bj fun(bq:Int)=>I (i64 (q+bq)) (i64 (X+1)) bj∧μ (i64 (q+bq)) (i64 (X+1)) bj<μ q X Y) (aQ (decide (q>(if 0>A then 0 else A))) (R (bP #[bR,aB 5]) Y) (aE P qM (.tup [.one .val,.one (.int .i64)]) #[.pointer C] Y fun ba (ab:Int) bl=>aQ (ab !=0) (R (bP #[bR,aB ab]) bl) (aS C fun cb=>aF P bB dM (aH (cb.add 9)) bl fun br=>bC P bB br fun t55=>∃(I1:Value→Value→Int→World→Prop) (μ1:Value→Value→Int→World→Nat),I1 ba (bR) 0 bl∧∀(_:bV) (V:Value) (j:Value) (u:Int) (Z:World),I1 V j u Z→aQ (decide (u<(t55:Int))) (aX P bB br (aB u) fun cc=>aF P bO (.part (.agg [.str,.int .i64,.int .u32,.val,.int .i64])) (aH cc) Z fun(bb:ByteArray) (bc:Int) (bd:Int) be (bf:Int)=>cD P bO Z fun am cg=>aL P bO (aH am) (.agg #[.string bb,aB bc,.int .u32 bd,be,aB bf]) cg fun bm=>∃B:World→Prop,B bm.drew∧aI P bO (.part (.agg [.str,.int .i64,.int .u32,.val,.int .i64])) (aH am) B fun(ac:ByteArray) (ae:Int) (af:Int) ag (ah:Int)=>aI P aK bA (aH (am.add 4)) B fun(cd:Int)=>cH P aA V none (some (aB cd)) none fun bt=>(aE P yX (.tup [.agg [.str,.val],.one (.int .i64)]) #[.agg #[.string ac,aB ae,.int .u32 af,ag,aB ah],bt] bm.drew fun(J:ByteArray) M (r:Int) bu=>B bu∧cD P aR bu fun an ao=>B ao∧aL P aR (aH an) (.agg #[.string J,M]) ao fun T=>B T∧aQ (r !=0) (R (bP #[bR,aB r]) T) (∃B1:World→Prop,B1 T.drew∧aI P aR (.part (.agg [.str,.val])) (aH an) B1 fun(N:ByteArray) O=>aI P aK bA (aH (am.add 4)) B1 fun(bh:Int)=>cH P aA V (some (aB bh)) none none fun aj=>eG P aJ 1 #[(0,.agg #[.string N,O])] T.drew fun bg ap=>B1 ap∧fV P #[aJ,aJ] aJ #[j,bg] ap fun ai ak=>B1 ak∧I1 aj ai (i64 (u+1)) ak∧μ1 aj ai (i64 (u+1)) ak<μ1 V j u Z))∧(cD P aR bm.drew fun an aq=>B aq∧aE P yX (.tup [.agg [.str,.val],.one (.int .i64)]) #[.agg #[.string ac,aB ae,.int .u32 af,ag,aB ah],bt] aq fun(J:ByteArray) M (r:Int) ar=>B ar∧aL P aR (aH an) (.agg #[.string J,M]) ar fun U=>B U∧aQ (r !=0) (R (bP #[bR,aB r]) U) (∃B2:World→Prop,B2 U.drew∧aI P aR (.part (.agg [.str,.val])) (aH an) B2 fun(N:ByteArray) O=>aI P aK bA (aH (am.add 4)) B2 fun(bh:Int)=>cH P aA V (some (aB bh)) none none fun aj=>eG P aJ 1 #[(0,.agg #[.string N,O])] U.drew fun bg au=>B2 au∧fV P #[aJ,aJ] aJ #[j,bg] au fun ai al=>B2 al∧I1 aj ai (i64 (u+1)) al∧μ1 aj ai (i64 (u+1)) al<μ1 V j u Z))) (R (bP #[j,aB 0]) Z)))))):
  Calls P NA #[x0,aB A] w R:=
 cX ⟨[(6,[(8,.int .i64),(30,.int .i64)]),(17,[(11,.val),(12,.val),(56,.int .i64)])],[]⟩ func28 rfl h
theorem qho{x0:Value}{M:ByteArray}{u:Int}(h:cD P aR w fun X bd=>aE P xV (.tup [.one .ptr,.one (.int .i64)]) #[x0] bd fun(N:Option Addr) (O:Int) ap=>aQ (O !=0) (aL P aR (aH X) (.agg #[.string (ByteArray.mk #[]),bR]) ap fun au=>aF P aR (.part (.agg [.str,.val])) (aH X) au fun(j:ByteArray) q=>R (bP #[.agg #[.string j,q],aB O]) au) (aS N fun t25=>aF P bB dM (aH (t25.add 9)) ap fun ar=>bC P bB ar fun ax=>∃(I:Int→Int→World→Prop) (μ:Int→Int→World→Nat),I 0 0 ap∧∀(_:bV) (r:Int) (C:Int) (V:World),I r C V→aQ (decide (C<(ax:Int))) (aX P bB ar (aB C) fun ay=>aF P bO (.part (.agg [.str,.int .i64,.int .u32,.val,.int .i64])) (aH ay) V fun(aa:ByteArray) (ab:Int) (ac:Int) ae (af:Int)=>cD P bO V fun J be=>aL P bO (aH J) (.agg #[.string aa,aB ab,.int .u32 ac,ae,aB af]) be fun A=>aF P bE P9 (aH (J.add 0)) A fun(az:ByteArray)=>aQ (!(az.toList==M.toList)) (aF P aK bA (aH (J.add 4)) A fun(t39:Int)=>I (i64 (r+t39)) (i64 (C+1)) A∧μ (i64 (r+t39)) (i64 (C+1)) A<μ r C V) (aF P aK bA (aH (J.add 1)) A fun(ba:Int)=>aQ (decide (ba>(if 0>u then 0 else u))) (aL P aR (aH X) (.agg #[.string (ByteArray.mk #[]),bR]) A fun av=>aF P aR (.part (.agg [.str,.val])) (aH X) av fun(j:ByteArray) q=>R (bP #[.agg #[.string j,q],aB 5]) av) (aE P qM (.tup [.one .val,.one (.int .i64)]) #[.pointer N] A fun ag (T:Int) aq=>aQ (T !=0) (aL P aR (aH X) (.agg #[.string (ByteArray.mk #[]),bR]) aq fun aw=>aF P aR (.part (.agg [.str,.val])) (aH X) aw fun(j:ByteArray) q=>R (bP #[.agg #[.string j,q],aB T]) aw) (∃B:World→Prop,B aq.drew∧aI P bO (.part (.agg [.str,.int .i64,.int .u32,.val,.int .i64])) (aH J) B fun(ah:ByteArray) (ai:Int) (aj:Int) ak (al:Int)=>aI P aK bA (aH (J.add 4)) B fun(bb:Int)=>cH P aA ag (some (aB r)) (some (aB (i64 (r+bb)))) none fun bc=>aE P yX (.tup [.agg [.str,.val],.one (.int .i64)]) #[.agg #[.string ah,aB ai,.int .u32 aj,ak,aB al],bc] aq.drew fun(am:ByteArray) an (ao:Int) Y=>B Y∧aL P aR (aH X) (.agg #[.string am,an]) Y fun U=>B U∧aF P aR (.part (.agg [.str,.val])) (aH X) U fun(j:ByteArray) q=>R (bP #[.agg #[.string j,q],aB ao]) U)))) (aL P aR (aH X) (.agg #[.string (ByteArray.mk #[]),bR]) V fun Z=>aF P aR (.part (.agg [.str,.val])) (aH X) Z fun(j:ByteArray) q=>R (bP #[.agg #[.string j,q],aB 8]) Z))):
  Calls P NB #[x0,.string M,aB u] w R:=
 cX ⟨[(6,[(10,.int .i64),(29,.int .i64)])],[]⟩ func29 rfl h
theorem WF{x0:Value}(h:cD P cB w fun t2 ag=>aE P xV (.tup [.one .ptr,.one (.int .i64)]) #[x0] ag fun(ab:Option Addr) (M:Int) aa=>aQ (M !=0) (aL P cB (aH t2) (.agg #[.bool false,bR,aB 0,aB 0,.bool false,bR,bR,aB 0]) aa fun ac=>aF P cB (.part (.agg [.bool,.val,.int .i64,.int .i64,.bool,.val,.val,.int .i64])) (aH t2) ac fun(j:Bool) q (r:Int) (u:Int) (A:Bool) C I (J:Int)=>R (bP #[.agg #[.bool j,q,aB r,aB u,.bool A,C,I,aB J],aB M]) ac) (aS ab fun af=>aF P cB (.part (.agg [.bool,.val,.int .i64,.int .i64,.bool,.val,.val,.int .i64])) (aH (af.add 1)) aa fun(N:Bool) O (T:Int) (U:Int) (V:Bool) X Y (Z:Int)=>aL P cB (aH t2) (.agg #[.bool N,O,aB T,aB U,.bool V,X,Y,aB Z]) aa fun ae=>aF P cB (.part (.agg [.bool,.val,.int .i64,.int .i64,.bool,.val,.val,.int .i64])) (aH t2) ae fun(j:Bool) q (r:Int) (u:Int) (A:Bool) C I (J:Int)=>R (bP #[.agg #[.bool j,q,aB r,aB u,.bool A,C,I,aB J],aB 0]) ae)):
  Calls P N9 #[x0] w R:=
 dI func30 rfl h
theorem FQ{q:ByteArray}{r:Value}{u:ByteArray}{A:Value}(h:kA P aR (.agg #[.string q,r]) w fun a2 M=>kA P aR (.agg #[.string u,A]) M fun O j=>aF P bE P9 (aH (a2.add 0)) j fun(T:ByteArray)=>aF P bE P9 (aH (O.add 0)) j fun(U:ByteArray)=>aQ (T.toList==U.toList) (aF P aA dM (aH (a2.add 1)) j fun C=>aF P aA dM (aH (O.add 1)) j fun I=>aE P nU kG #[C,I] j fun(J:Bool) N=>R (aW (.bool J)) N) (R (aW (.bool false)) j)):
  Calls P jJ #[.agg #[.string q,r],.agg #[.string u,A]] w R:=
 dI func31 rfl h
theorem CW{j:ByteArray}(h:∃(I:Int→Int→World→Prop) (μ:Int→Int→World→Nat),I 0 0 w∧∀(_:bV) (r:Int) (i4:Int) (u:World),I r i4 u→aQ (decide (i4≤(j.size:Int))) (∃O:Int→World→Prop,(∃T:World→Prop,(aQ (decide (i4<(j.size:Int))) (xQ P bE (dQ .u8) (.string j) (aB i4) fun(V:Int)=>aQ (V==0) (R (aW (.bool false)) u) (T u)) (T u))∧∀(_:bV) (J:World),T J→∃U:Bool→World→Prop,(aQ (!(i4==(j.size:Int))) (xQ P bE (dQ .u8) (.string j) (aB i4) fun(X:Int)=>U (X==47) J) (U true J))∧∀(_:bV) (N:Bool) (A:World),U N A→aQ N (uG P bE (.string j) (some (aB r)) (some (aB i4)) none fun(C:ByteArray)=>aQ (!(C.toList==(ByteArray.mk #[]).toList)) (aQ (!(C.toList==(ByteArray.mk #[46]).toList)) (aQ (C.toList==(ByteArray.mk #[46,46]).toList) (R (aW (.bool false)) A) (O (i64 (i4+1)) A)) (R (aW (.bool false)) A)) (R (aW (.bool false)) A)) (O r A))∧∀(_:bV) (q:Int) (M:World),O q M→I q (i64 (i4+1)) M∧μ q (i64 (i4+1)) M<μ r i4 u) (R (aW (.bool (decide ((j.size:Int)≤4096)))) u)):
  Calls P rG #[.string j] w R:=
 cX ⟨[(3,[(3,.int .i64),(4,.int .i64)])],[(4,[(3,.int .i64)]),(7,[]),(8,[(31,.bool)])]⟩ func32 rfl h
theorem IF{q:Value}(h:aE P vI (dQ .u32) #[.int .u32 0,q] w fun(t4:Int) j=>R (aW (.int .u32 t4)) j):
  Calls P pE #[q] w R:=
 dI func33 rfl h
theorem P8{a0:Value}{q:Value}(h:aE P nX kG #[a0,q,.func (.func lN) #[] #[]] w fun(r:Bool) j=>R (aW (.bool r)) j):
  Calls P mX #[a0,q] w R:=
 dI func34 rfl h
theorem l8{q:Int}{j:Int}(h:aQ (q==0) (R (aW (aB 0)) w) (kY P .quo aK bA (aB (i64 (q-1))) (aB j) fun(r:Int)=>R (aW (aB (i64 (r+1)))) w)):
  Calls P KE #[aB q,aB j] w R:=
 dI func35 rfl h
theorem WI{j:Value}(h:bC P bJ j fun X=>∃(I:Int→World→Prop) (μ:Int→World→Nat),I 0 w∧∀(_:bV) (t9:Int) (q:World),I t9 q→aQ (decide (t9<(X:Int))) (aX P bJ j (aB t9) fun N=>aF P aK bA (aH N) q fun(J:Int)=>aE P F5 (.tup [.agg [.val,.val],.one .bool]) #[aB J] q fun r u (A:Bool) U=>cD P cG U fun t5 V=>aL P cG (aH t5) (.agg #[r,u]) V fun M=>aQ (!(!A)) (cH P bJ j none (some (aB t9)) none fun O=>aE P lM kG #[O,aB J] M fun(t26:Bool) C=>aQ t26 (R (aW (.bool false)) C) (I (i64 (t9+1)) C∧μ (i64 (t9+1)) C<μ t9 q)) (R (aW (.bool false)) M)) (bC P bJ j fun T=>R (aW (.bool (decide ((T:Int)≤4)))) q)):
  Calls P oM #[j] w R:=
 cX ⟨[(2,[(9,.int .i64)])],[]⟩ func36 rfl h
theorem nY{r:Value}{q:Value}(h:aE P gL bA #[r,q] w fun(u:Int) j=>R (aW (.bool (decide (u≥0)))) j):
  Calls P gB #[r,q] w R:=
 dI func37 rfl h
theorem RP{j:ByteArray}{q:Value}(h:kA P aR (.agg #[.string j,q]) w fun A r=>aF P bE P9 (aH (A.add 0)) r fun(t4:ByteArray)=>aE P yK kG #[.string t4] r fun(t5:Bool) u=>R (aW (.bool (!t5))) u):
  Calls P pY #[.agg #[.string j,q]] w R:=
 dI func38 rfl h
theorem WU{j:ByteArray}(h:aQ (!(decide ((j.size:Int)>4096))) (aE P sW kG #[.string j,.string (ByteArray.mk #[0])] w fun(I:Bool) q=>aQ I (R (aW (.bool false)) q) (aE P zX dM #[.string j,.string (ByteArray.mk #[47])] q fun r A=>aE P gW kG #[r,.func (.func oG) #[] #[]] A fun(u:Bool) C=>R (aW (.bool (!u))) C)) (R (aW (.bool false)) w)):
  Calls P yK #[.string j] w R:=
 dI func39 rfl h
theorem sA{j:Value}(h:AX P .eql aJ j (bR) fun(t4:Bool)=>aQ t4 (R (aW (bR)) w) (eG P aJ 0 #[] w fun t5 q=>fV P #[aJ,aJ] aJ #[t5,j] q fun u r=>R (aW (u)) r)):
  Calls P gZ #[j] w R:=
 dI func40 rfl h
theorem mZ{r:Value}{j:Value}(h:bC P aJ r fun u=>aE P iK jO #[r,aB (u:Int),j] w fun q=>R (bP #[]) q):
  Calls P fX #[r,j] w R:=
 dI func41 rfl h
theorem RQ{j:ByteArray}{q:Value}{r:ByteArray}{u:Value}(h:kA P aR (.agg #[.string j,q]) w fun a2 C=>kA P aR (.agg #[.string r,u]) C fun J A=>aF P bE P9 (aH (a2.add 0)) A fun(M:ByteArray)=>aF P bE P9 (aH (J.add 0)) A fun(N:ByteArray)=>aE P vD bA #[.string M,.string N] A fun(t9:Int) I=>R (aW (aB t9)) I):
  Calls P uX #[.agg #[.string j,q],.agg #[.string r,u]] w R:=
 dI func42 rfl h
theorem r7{l0:Value}(h:bC P aJ l0 fun X=>∃(I:Int→Int→Int→World→Prop) (μ:Int→Int→Int→World→Nat),I 0 0 0 w∧∀(_:bV) (q:Int) (j:Int) (t9:Int) (u:World),I q j t9 u→aQ (decide (t9<(X:Int))) (aX P aJ l0 (aB t9) fun N=>aF P aR (.part (.agg [.str,.val])) (aH N) u fun(A:ByteArray) C=>cD P aR u fun V U=>aL P aR (aH V) (.agg #[.string A,C]) U fun r=>aF P aA dM (aH (V.add 1)) r fun O=>bC P aA O fun J=>aF P bE P9 (aH (V.add 0)) r fun(M:ByteArray)=>aQ (!(decide ((i64 (q+(J:Int)))>1048576))) (aQ (decide ((i64 (j+(M.size:Int)))>1048576)) (R (aW (.bool true)) r) (I (i64 (q+(J:Int))) (i64 (j+(M.size:Int))) (i64 (t9+1)) r∧μ (i64 (q+(J:Int))) (i64 (j+(M.size:Int))) (i64 (t9+1)) r<μ q j t9 u)) (R (aW (.bool true)) r)) (bC P aJ l0 fun T=>R (aW (.bool (decide ((T:Int)>4096)))) u)):
  Calls P X3 #[l0] w R:=
 cX ⟨[(3,[(3,.int .i64),(4,.int .i64),(9,.int .i64)])],[]⟩ func43 rfl h
theorem qcs{l0:Value}(h:bC P aJ l0 fun t7=>∃(I:Value→Int→World→Prop) (μ:Value→Int→World→Nat),I (bR) 0 w∧∀(_:bV) (j:Value) (C:Int) (q:World),I j C q→aQ (decide (C<(t7:Int))) (aX P aJ l0 (aB C) fun U=>aF P aR (.part (.agg [.str,.val])) (aH U) q fun(r:ByteArray) u=>cD P aR q fun x5 Z=>aL P aR (aH x5) (.agg #[.string r,u]) Z fun N=>∃B:World→Prop,B N.drew∧aI P bE P9 (aH (x5.add 0)) B fun(V:ByteArray)=>aI P aA dM (aH (x5.add 1)) B fun X=>fV P #[aA,aA] aA #[bR,X] N.drew fun J O=>B O∧uF J (eG P aJ 1 #[(0,.agg #[.string V,J])] O fun Y T=>B T∧fV P #[aJ,aJ] aJ #[j,Y] T fun M A=>B A∧I M (i64 (C+1)) A∧μ M (i64 (C+1)) A<μ j C q)) (R (aW (j)) q)):
  Calls P CA #[l0] w R:=
 cX ⟨[(3,[(3,.val),(8,.int .i64)])],[]⟩ func44 rfl h
theorem RE{A:Value}(h:aE P L8 (.tup [.agg [.int .i64,.int .i64,.int .i64,.int .i64],.one .bool]) #[A] w fun(C:Int) (J:Int) (M:Int) (N:Int) (O:Bool) al=>cD P dO al fun t3 am=>aL P dO (aH t3) (.agg #[aB C,aB J,aB M,aB N]) am fun ac=>aQ O (eG P bJ 1 #[(0,aB 1)] ac fun af an=>R (aW (af)) an) (aE P sM (.tup [.agg [.int .i64,.int .i64,.int .i64,.int .i64,.int .i64],.one .bool]) #[A] ac fun(T:Int) (U:Int) (V:Int) (X:Int) (Y:Int) (Z:Bool) ao=>cD P aV ao fun t5 ap=>aL P aV (aH t5) (.agg #[aB T,aB U,aB V,aB X,aB Y]) ap fun ae=>aQ Z (eG P bJ 1 #[(0,aB 2)] ae fun t23 aq=>R (aW (t23)) aq) (bC P aA A fun t25=>∃(I:Int→Int→World→Prop) (μ:Int→Int→World→Nat),I 0 0 ae∧∀(_:bV) (r:Int) (t26:Int) (j:World),I r t26 j→aQ (decide (t26<(t25:Int))) (aX P aA A (aB t26) fun ag=>aF P bK (dQ .u8) (aH ag) j fun(ah:Int)=>aE P O0 kG #[.int .u8 ah] j fun(ai:Bool) q=>aQ ai (I (i64 (r+1)) (i64 (t26+1)) q∧μ (i64 (r+1)) (i64 (t26+1)) q<μ r t26 j) (I r (i64 (t26+1)) q∧μ r (i64 (t26+1)) q<μ r t26 j)) (bC P aA A fun t39=>aQ (decide ((i64 (10*r))>(i64 (9*(t39:Int))))) (eG P bJ 3 #[(0,aB 5),(1,aB 6),(2,aB 4)] j fun aj aa=>R (aW (aj)) aa) (aE P yN bA #[A] j fun(t45:Int) u=>aQ (t45 !=0) (eG P bJ 1 #[(0,aB 3)] u fun ak ab=>R (aW (ak)) ab) (R (aW (bR)) u)))))):
  Calls P pT #[A] w R:=
 cX ⟨[(9,[(7,.int .i64),(26,.int .i64)])],[]⟩ func45 rfl h
theorem RD{C:Value}{r:Value}(h:aE P zT (.tup [.one .val,.one .val]) #[C,r] w fun j q O=>bC P aA C fun M=>aE P sK (.tup [.one .val,.one (.int .i64)]) #[j,aB (M:Int),q] O fun u (A:Int) I=>aQ (!(A !=0)) (aE P gU kG #[u,C] I fun(N:Bool) J=>aQ (!N) (aE P mD dM #[C] J fun t33 T=>R (bP #[t33,bR]) T) (R (bP #[j,q]) J)) (aE P mD dM #[C] I fun t33 U=>R (bP #[t33,bR]) U)):
  Calls P pS #[C,r] w R:=
 dI func46 rfl h
theorem KM{j:Int}(h:R (aW (aB (i64 ((i64 (j+(i64 (Int.tdiv j 256))))+8)))) w):
  Calls P BX #[aB j] w R:=
 dI func47 rfl h
theorem HZ{w0:Option Addr}{j:Value}(h:bC P aA j fun C=>aE P bY jO #[.pointer w0,.int .u64 (gD (C:Int))] w fun r=>eG P aY 1 #[(0,j)] r fun q u=>aE P cY jO #[.pointer w0,q] u fun A=>R (bP #[]) A):
  Calls P iG #[.pointer w0,j] w R:=
 dI func48 rfl h
theorem D2{q:Value}{t1:Value}{t2:Value}(h:∃(I:Int→World→Prop) (μ:Int→World→Nat),I 0 w∧∀(_:bV) (i4:Int) (j:World),I i4 j→aF P aA dM t1 j fun U=>bC P aA U fun V=>aQ (decide (i4<(V:Int))) (aI P aK bA t2 (fun w'=>w'=j.drew) fun(r:Int)=>aI P aA dM t1 (fun w'=>w'=j.drew) fun J=>cH P aA J (some (aB i4)) none none fun M=>bC P aA M fun u=>aF P aA dM t1 j.drew fun N=>cH P aA N (some (aB i4)) (some (aB (i64 (i4+(if(u:Int)<r then(u:Int)else r))))) (some (aB (i64 (i4+(if(u:Int)<r then(u:Int)else r))))) fun O=>qgQ P q kG #[O] j.drew fun(T:Bool) A=>aQ (!T) (R (bP #[]) A) (aF P aK bA t2 A fun(C:Int)=>I (i64 (i4+C)) A∧μ (i64 (i4+C)) A<μ i4 j)) (R (bP #[]) j)):
  Calls P eR #[q,t1,t2] w R:=
 qal qgV (An:=⟨[(1,[(4,.int .i64)])],[]⟩) (fn:=f49) func49 rfl rfl (by kernel_rfl) (Eq.mpr (by kernel_rfl) h)
theorem XA{J:Value}{j:Int}(h:aE P vC kG #[aB j] w fun(M:Bool) u=>aQ (!M) (R (bP #[bR,aB 1]) u) (bC P aA J fun N=>aQ (decide ((N:Int)>1048576)) (R (bP #[bR,aB 5]) u) (aE P nO jN #[] u fun(O:Option Addr) Y=>aE P L6 jN #[aB j] Y fun(T:Option Addr) Z=>kA P SM (.agg #[.pointer O,.pointer T]) Z fun A aa=>bC P aA J fun t23=>∃(I:Int→World→Prop) (μ:Int→World→Nat),I 0 aa∧∀(_:bV) (q:Int) (r:World),I q r→aQ (decide (q<(t23:Int))) (aX P aA J (aB q) fun t26=>aF P bK (dQ .u8) (aH t26) r fun(U:Int)=>aE P rF jO #[aH A,.int .u8 U] r fun C=>I (i64 (q+1)) C∧μ (i64 (q+1)) C<μ q r) (aS (some A) fun t33=>aF P oC jN (aH (t33.add 0)) r fun(V:Option Addr)=>aE P oQ dM #[.pointer V] r fun X ab=>R (bP #[X,aB 0]) ab)))):
  Calls P yM #[J,aB j] w R:=
 cX ⟨[(7,[(24,.int .i64)])],[]⟩ func50 rfl h
theorem KY{U:Option Addr}{j:Value}(h:bC P aY j fun V=>∃(I:Int→World→Prop) (μ:Int→World→Nat),I 0 w∧∀(_:bV) (r:Int) (q:World),I r q→aQ (decide (r<(V:Int))) (aX P aY j (aB r) fun A=>aF P aA dM (aH A) q fun C=>aS U fun J=>aF P aA dM (aH (J.add 0)) q fun M=>fV P #[aA,aA] aA #[M,C] q fun N T=>aS U fun O=>aL P aA (aH (O.add 0)) N T fun u=>I (i64 (r+1)) u∧μ (i64 (r+1)) u<μ r q) (R (bP #[]) q)):
  Calls P xX #[.pointer U,j] w R:=
 cX ⟨[(1,[(8,.int .i64)])],[]⟩ func51 rfl h
theorem qhp{r:Int}{u:Value}(h:aE P BY shA #[] w fun(t9:Array Value) N=>cD P iM N fun t5 O=>aL P iM (aH t5) (.agg t9) O fun T=>bC P aA u fun A=>∃(I:Int→Int→World→Prop) (μ:Int→Int→World→Nat),I (lU .u32 r 4294967295) 0 T∧∀(_:bV) (v6:Int) (q:Int) (j:World),I v6 q j→aQ (decide (q<(A:Int))) (aX P aA u (aB q) fun C=>aF P bK (dQ .u8) (aH C) j fun(J:Int)=>aX P iM (aH t5) (.int .u8 (lU .u8 (u8 v6) J)) fun M=>aF P eC (dQ .u32) (aH M) j fun(t25:Int)=>I (lU .u32 (cV .u32 v6 8) t25) (i64 (q+1)) j∧μ (lU .u32 (cV .u32 v6 8) t25) (i64 (q+1)) j<μ v6 q j) (R (aW (.int .u32 (lU .u32 v6 4294967295))) j)):
  Calls P NC #[.int .u32 r,u] w R:=
 cX ⟨[(4,[(6,.int .u32),(14,.int .i64)])],[]⟩ func52 rfl h
theorem qeK{x0:Value}(h:aE P kT jN #[x0] w fun(bx:Option Addr) cq=>kA P qcY (.agg #[.pointer bx,.bool false,bR,aB 0,aB 0,.bool false,bR,bR,aB 0,bR]) cq fun r bq=>aS (some r) fun bz=>aF P bN jN (.pointer (some (Addr.add (bz.add 0) 0))) bq fun(t23:Option Addr)=>aE P cP dM #[.pointer t23,aB 4] bq fun ca br=>aS (some r) fun t26=>aF P bN jN (.pointer (some (Addr.add (t26.add 0) 0))) br fun(cb:Option Addr)=>aE P fA (dQ .u64) #[.pointer cb,aB 4] br fun(cc:Int) bt=>aS (some r) fun cd=>aF P bN jN (.pointer (some (Addr.add (cd.add 0) 0))) bt fun(t37:Option Addr)=>aE P cO bA #[.pointer t37] bt fun(cf:Int) bf=>aQ (cf !=0) (aS (some r) fun cg=>aF P bN jN (.pointer (some (Addr.add (cg.add 0) 0))) bf fun(ci:Option Addr)=>aE P cO bA #[.pointer ci] bf fun(t45:Int) cr=>R (bP #[.pointer none,aB t45]) cr) (tC P aA bE P9 ca bf fun(cj:ByteArray) bu=>aQ (!(cj.toList==(ByteArray.mk #[118,98,120,1]).toList)) (R (bP #[.pointer none,aB 4]) bu) (cH P aA x0 (some (aB 8)) none none fun ck=>aE P E4 (dQ .u32) #[ck] bu fun(t53:Int) bv=>aQ (t53 !=(vX cc)) (R (bP #[.pointer none,aB 9]) bv) (aS (some r) fun cl=>aE P pR (.tup [.agg [.bool,.val,.int .i64,.int .i64,.bool,.val,.val,.int .i64],.one .bool]) #[aH (cl.add 0)] bv fun(ao:Bool) ap (aq:Int) (ar:Int) (au:Bool) av aw (ax:Int) (ay:Bool) ct=>aS (some r) fun cm=>aL P cB (aH (cm.add 1)) (.agg #[.bool ao,ap,aB aq,aB ar,.bool au,av,aw,aB ax]) ct fun ai=>aQ (!ay) (R (bP #[.pointer none,aB 4]) ai) (aS (some r) fun cn=>aE P eQ bA #[aH (cn.add 0),aB 4096] ai fun(bl:Int) aj=>aQ (decide (bl>4096)) (R (bP #[.pointer none,aB 4]) aj) (∃(I:Int→Int→World→Prop) (μ:Int→Int→World→Nat),I 0 0 aj∧∀(_:bV) (j:Int) (u:Int) (A:World),I j u A→aQ (decide (u<bl)) (aS (some r) fun co=>aE P uM (.tup [.agg [.str,.int .i64,.int .u32,.val,.int .i64],.one .bool]) #[aH (co.add 0)] A fun(az:ByteArray) (ba:Int) (bb:Int) bc (bd:Int) (be:Bool) bn=>cD P bO bn fun ae bp=>aL P bO (aH ae) (.agg #[.string az,aB ba,.int .u32 bb,bc,aB bd]) bp fun q=>aF P aK bA (aH (ae.add 1)) q fun(V:Int)=>∃J0:World→Prop,(aQ (!(!be)) (aQ (decide (u>0)) (aI P bE P9 (aH (ae.add 0)) (fun w'=>w'=q.drew) fun(bm:ByteArray)=>aS (some r) fun cp=>aI P bB dM (aH (cp.add 9)) (fun w'=>w'=q.drew) fun bg=>aX P bB bg (aB (i64 (u-1))) fun bh=>aI P bE P9 (aH (bh.add 0)) (fun w'=>w'=q.drew) fun(af:ByteArray)=>aQ (!(Op.bytesLess bm.toList af.toList||bm.toList==af.toList)) (aQ (decide ((i64 (j+V))>1048576)) (R (bP #[.pointer none,aB 4]) q.drew) (J0 q.drew)) (R (bP #[.pointer none,aB 4]) q.drew)) (aQ (decide ((i64 (j+V))>1048576)) (R (bP #[.pointer none,aB 4]) q.drew) (J0 q.drew))) (R (bP #[.pointer none,aB 4]) q.drew))∧∀(_:bV) (C:World),J0 C→∃B:World→Prop,B C.drew∧aS (some r) fun ag=>aI P bO (.part (.agg [.str,.int .i64,.int .u32,.val,.int .i64])) (aH ae) B fun(J:ByteArray) (M:Int) (N:Int) O (T:Int)=>(aF P bB dM (aH (ag.add 9)) C.drew fun X=>B C.drew∧eG P bB 1 #[(0,.agg #[.string J,aB M,.int .u32 N,O,aB T])] C.drew fun Y ak=>B ak∧fV P #[bB,bB] bB #[X,Y] ak fun Z al=>B al∧aS (some r) fun aa=>aL P bB (aH (aa.add 9)) Z al fun ab=>B ab∧I (i64 (j+V)) (i64 (u+1)) ab∧μ (i64 (j+V)) (i64 (u+1)) ab<μ j u A)∧(eG P bB 1 #[(0,.agg #[.string J,aB M,.int .u32 N,O,aB T])] C.drew fun Y U=>B U∧aF P bB dM (aH (ag.add 9)) U fun X=>B U∧fV P #[bB,bB] bB #[X,Y] U fun Z am=>B am∧aS (some r) fun aa=>aL P bB (aH (aa.add 9)) Z am fun ac=>B ac∧I (i64 (j+V)) (i64 (u+1)) ac∧μ (i64 (j+V)) (i64 (u+1)) ac<μ j u A)) (aS (some r) fun bi=>aF P bN jN (.pointer (some (Addr.add (bi.add 0) 0))) A fun(bj:Option Addr)=>aE P cO bA #[.pointer bj] A fun(ah:Int) an=>aQ (ah !=0) (R (bP #[.pointer none,aB ah]) an) (R (bP #[aH r,aB 0]) an)))))))):
  Calls P xV #[x0] w R:=
 cX ⟨[(18,[(9,.int .i64),(75,.int .i64)])],[(24,[])]⟩ func53 rfl h
theorem KN{p0:Option Addr}(h:aS p0 fun aq=>aF P bB dM (aH (aq.add 9)) w fun ah=>bC P bB ah fun ar=>∃(I:Int→Int→World→Prop) (μ:Int→Int→World→Nat),I 0 0 w∧∀(_:bV) (A:Int) (r:Int) (J:World),I A r J→aQ (decide (r<(ar:Int))) (aX P bB ah (aB r) fun au=>aF P bO (.part (.agg [.str,.int .i64,.int .u32,.val,.int .i64])) (aH au) J fun(U:ByteArray) (V:Int) (X:Int) Y (Z:Int)=>cD P bO J fun x6 bg=>aL P bO (aH x6) (.agg #[.string U,aB V,.int .u32 X,Y,aB Z]) bg fun af=>aF P aK bA (aH (x6.add 4)) af fun(t23:Int)=>I (i64 (A+t23)) (i64 (r+1)) af∧μ (i64 (A+t23)) (i64 (r+1)) af<μ A r J) (∃(I1:Value→World→Prop) (μ1:Value→World→Nat),I1 (bR) J∧∀(_:bV) (j:Value) (q:World),I1 j q→bC P aA j fun av=>aQ (decide ((av:Int)<A)) (aS p0 fun aw=>aF P aK bA (.pointer (some (Addr.add (aw.add 1) 3))) q fun(u:Int)=>bC P aA j fun t37=>aS p0 fun ax=>aE P eQ bA #[aH (ax.add 0),aB 1] q fun(ai:Int) O=>aQ (ai==0) (aS p0 fun ay=>aF P bN jN (.pointer (some (Addr.add (ay.add 0) 0))) O fun(t51:Option Addr)=>aE P cP dM #[.pointer t51,aB (if(i64 (A-(t37:Int)))<u then(i64 (A-(t37:Int)))else u)] O fun t53 bh=>fV P #[aA,aA] aA #[j,t53] bh fun aj am=>aS p0 fun ac=>aF P bN jN (.pointer (some (Addr.add (ac.add 0) 0))) am fun(ae:Option Addr)=>aE P cO bA #[.pointer ae] am fun(C:Int) ag=>aQ (C !=0) (R (bP #[bR,aB C]) ag) (I1 aj ag∧μ1 aj ag<μ1 j q)) (aQ (ai==1) (∃B:World→Prop,B O.drew∧aS p0 fun az=>aI P bN jN (.pointer (some (Addr.add (az.add 0) 0))) B fun(ba:Option Addr)=>aS p0 fun bc=>aI P aK bA (.pointer (some (Addr.add (bc.add 1) 2))) B fun(t70:Int)=>aE P gG dM #[.pointer ba,aB (if(i64 (A-(t37:Int)))<u then(i64 (A-(t37:Int)))else u)] O.drew fun bb an=>B an∧aE P zV (.tup [.one .val,.one (.int .i64)]) #[bb,aB (if(i64 (A-(t37:Int)))<u then(i64 (A-(t37:Int)))else u),aB t70] an fun aa (ab:Int) M=>B M∧aQ (ab !=0) (R (bP #[bR,aB 4]) M) (fV P #[aA,aA] aA #[j,aa] M fun ak T=>aS p0 fun ac=>aF P bN jN (.pointer (some (Addr.add (ac.add 0) 0))) T fun(ae:Option Addr)=>aE P cO bA #[.pointer ae] T fun(C:Int) N=>aQ (C !=0) (R (bP #[bR,aB C]) N) (I1 ak N∧μ1 ak N<μ1 j q))) (R (bP #[bR,aB 4]) O))) (aS p0 fun bd=>aF P bN jN (.pointer (some (Addr.add (bd.add 0) 0))) q fun(be:Option Addr)=>aE P kU bA #[.pointer be] q fun(bf:Int) al=>R (bP #[j,aB bf]) al))):
  Calls P qM #[.pointer p0] w R:=
 cX ⟨[(3,[(4,.int .i64),(17,.int .i64)]),(8,[(7,.val)])],[]⟩ func54 rfl h
end
end Go.Proofs.YtabchipjjghhnaaGreatDoorV
