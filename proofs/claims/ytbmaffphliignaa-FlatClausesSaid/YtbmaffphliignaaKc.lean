/-
 Lemmas of the walk and plain laws, put together. No condition.
-/
import Derived.CallsIn
import Derived.ControlIn
import Derived.Laws.EntriesVeiled
import Derived.LoopIn
import Derived.LoopN
import Derived.LoopNIn
import Derived.OrdersIn
import Derived.OwnWalkIn
import Derived.RangeFuncBox
import Derived.RangeFuncCalls
import Derived.RangeFuncLeaves
import Derived.Scope
import Derived.Shelf.Abstract
import Derived.TacticsIn
import Derived.TacticsInMore
import Derived.Test.YtbmaffphliignaaKb
namespace Go.Proofs.Ytbmaffphliignaa
open Go.RowKit
set_option linter.unusedVariables false
set_option linter.unusedSimpArgs false
set_option maxRecDepth 100000
open _root_.List renaming mem_cons_of_mem→uA,mem_cons_self→uC,mem_append_right→uE,map_cons→uF,mem_append_left→uH,mem_map→uI,all_eq_true→uJ,mem_cons→uN,drop_eq_getElem_cons→uP,drop_eq_nil_of_le→uS,getElem?_cons_zero→uV,map_map→uX,mem_filter→uZ,mem_of_getElem?→kD,mem_map_of_mem→kG,isEmpty_iff→kJ,cons_append→kK,getElem?_append_right→kP,all_cons→kQ,getElem?_toArray→kS,range'→kU,getElem?_map→kY,not_mem_nil→vC,mem_append→vD,map_append→vE,head?_cons→vF
open _root_.Go.Proofs.Try renaming prog→uB
open _root_.Nat renaming beq→uD,land→uW,blt_eq→uY,le_of_ble_eq_true→kC,shiftRight→kE,blt→kF,shiftLeft→kH,lt_or_ge→kI,le_refl→kL,ble→kO,zero_add→kR,testBit_two_pow→kW,beq_eq→kX,one_shiftLeft→vA,lor→vB,testBit_and→vG,testBit_or→vH,sub_self→vJ
open _root_.Option.some renaming injEq→uG
open _root_.Array renaming size_setIfInBounds→uK,getElem?_setIfInBounds→uQ,getElem?_toList→uT,getElem?_setIfInBounds_self_of_lt→kB,getElem?_eq_some_iff→kM,ext'→kN,getD→kV
open _root_.Option renaming bind_eq_some_iff→uL,map_eq_some_iff→uM,isSome_iff_exists→uU
open _root_.Bool renaming not_eq_true'→uO,or_eq_true→kA,true_and→vI
open _root_.Prod.mk renaming injEq→uR,inj→kT
section
section
variable{A A2:Nat→Prop}{p p2:z6}{w w2:World}{dep dep2:List Nat}
structure RelD(A:Nat→Prop)(p:z6)(w:World)(dep:List Nat)(own:List (Nat×Nat))(A2:Nat→Prop)(p2:z6)(w2:World)(dep2:List Nat)(own2:List (Nat×Nat)):Prop where
 kp:Kp (FFD A p dep) (FFD A2 p2 dep2) w w2
 yes:∀j q,lkA own2 j=some q→∃pin,lkA own j=some pin∧∀g,p pin=some g→p2 q=some g∧w2.heap[g]? =w.heap[g]?
 none:∀j,lkA own2 j=none→lkA own j=none
theorem Fl.relabel{own own2:List (Nat×Nat)}(hr:RelD A p w dep own A2 p2 w2 dep2 own2){j:Nat}{d:D}{t:Ty}{cs:List Value}(h:Fl A p w dep (lkA own j) d t cs):Fl A2 p2 w2 dep2 (lkA own2 j) d t cs:=by
 cases h2:lkA own2 j with
 |none=>
  rw[hr.none j h2] at h;exact Rd.keeps hr.kp _ h
 | some q =>
  obtain⟨pin,h1,hp⟩:=hr.yes j q h2;rw[h1] at h;rcases h.symm with⟨K,V,kt,vt,l,g,es,clock,e1,hK,hV,e2,e3,hg,hh,hl⟩|⟨E,te,l,v,e1,hte,e2,e3,hv⟩
  ·obtain⟨hq,he⟩:=hp g hg;exact .inr ⟨K,V,kt,vt,l,g,es,clock,e1,hK,hV,e2,e3,hq,he.trans hh,hl⟩
  refine .inl ⟨E,te,l,v,e1,hte,e2,e3,?_⟩;rcases hv with hv|⟨g,cap,cur,e4,hg,hh,q1,q2,q3,q4,q5⟩
  ·exact .inl hv
  ·obtain⟨hq,he⟩:=hp g hg;refine .inr ⟨g,cap,cur,e4,hq,he.trans hh,q1,q2,q3,q4,fun i hi=>?_⟩;obtain⟨vs,hr1,hd⟩:=q5 i hi;exact⟨vs,qbu hr1 he,Rd.keeps hr.kp _ hd⟩
theorem Fls.relabel{own own2:List (Nat×Nat)}(hr:RelD A p w dep own A2 p2 w2 dep2 own2):∀{ds:List D}{n:Nat}{fs:List Ty}{cs:List Value},Fls A p w dep own n ds fs cs→Fls A2 p2 w2 dep2 own2 n ds fs cs
 |[],_,_,_,h=>h
 |d::ds,n,fs,cs,⟨t,ts,c1,c2,e1,e2,h1,h2⟩=>⟨t,ts,c1,c2,e1,e2,Fl.relabel hr h1,Fls.relabel hr h2⟩
theorem Con.relabel{own own2:List (Nat×Nat)}(hr:RelD A p w dep own A2 p2 w2 dep2 own2){d:D}{t:Ty}{cs:List Value}(h:Con A p w d t own dep cs):Con A2 p2 w2 d t own2 dep2 cs:=by
 unfold Con at h⊢;split
 ·obtain⟨fs,ds,hf,e,h⟩:=h;exact⟨fs,ds,hf,e,Fls.relabel hr h⟩
 ·rename_i hne;split at h
  ·rename_i T;exact absurd rfl (hne T)
  ·exact Fl.relabel hr h
theorem qxm{t:Ty}{k:Nat}{b:Bool}{own:List (Nat×Nat)}(hown:b=true→∀j,lkA (zw k t) j≠none→lkA own j≠none){d:D}{cs:List Value}(h:Con A p w d t own dep cs):Con A p w d t own (z8c t b dep) cs:=by
 unfold z8c;split
 ·rename_i hf;simp only[kA,gnB] at hf;rcases hf with hf|⟨hb,hf⟩
  ·exact h.flatT hf
  ·exact h.flat1 (hown hb) hf
 ·exact h
end
theorem qez{l:List (Nat×Nat)}(hn:q1s (l.map (·.2))=true){q x:Nat}(h:(q,x)∈l):lkA (l.map fun y=>(y.2,y.1)) x=some q:=by
 induction l with
 |nil=>cases h
 | cons e l ih =>
  obtain⟨q',x'⟩:=e;simp only[uF,q1s,gnB,uO] at hn;rcases uN.1 h with h|h
  ·injection h with h1 h2;subst h1 h2;exact qb
  ·have hx:x'≠x:=fun e=>by
    subst e;have:x'∈l.map (·.2):=uI.2 ⟨(q,x'),h,rfl⟩;rw[yz.2 this] at hn;cases hn.1
   rw[uF,qf hx];exact ih hn.2 h
theorem qcx{l:List (Nat×Nat)}(hn:q1s (l.map (·.1))=true){q x:Nat}(h:(q,x)∈l):lkA l q=some x:=by
 induction l with
 |nil=>cases h
 | cons e l ih =>
  obtain⟨q',x'⟩:=e;simp only[uF,q1s,gnB,uO] at hn;rcases uN.1 h with h|h
  ·injection h with h1 h2;subst h1 h2;exact qb
  ·have hx:q'≠q:=fun e=>by
    subst e;have:q'∈l.map (·.1):=uI.2 ⟨(q',x),h,rfl⟩;rw[yz.2 this] at hn;cases hn.1
   rw[qf hx];exact ih hn.2 h
theorem z1z{l:List (Nat×Nat)}{q x:Nat}(h:lkA (l.map fun y=>(y.2,y.1)) x=some q):(q,x)∈l:=by
 have:=q0y h;obtain⟨e,he,h1⟩:=uI.1 this;injection h1 with h1 h2;subst h1 h2;exact he
theorem qfz:∀{own mine:List (Nat×Nat)}{ps:List (Nat×Nat×Nat)},qhf own mine=some ps→ps.map (fun y=>(y.1,y.2.1))=own∧∀y∈ps,lkA mine y.1=some y.2.2
  | [], mine, ps, h => by
    simp only[qhf,uG] at h;subst h;exact⟨rfl,fun y hy=>by cases hy⟩
  | (j, q) :: l, mine, ps, h => by
    simp only[qhf] at h;split at h
    · rename_i pin r h1 h2;injection h with h;subst h;obtain⟨i1,i2⟩:=qfz h2;refine⟨by simp[i1],fun y hy=>?_⟩;rcases uN.1 hy with rfl|hy
      · exact h1
      · exact i2 y hy
    · cases h
theorem qq0{ps:List (Nat×Nat×Nat)}{j:Nat}:(∀q,lkA (ps.map fun y=>(y.1,y.2.1)) j=some q→∃pin,(j,q,pin)∈ps∧lkA (ps.map fun y=>(y.1,y.2.2)) j=some pin)∧(∀pin,lkA (ps.map fun y=>(y.1,y.2.2)) j=some pin→∃q,(j,q,pin)∈ps∧lkA (ps.map fun y=>(y.1,y.2.1)) j=some q):=by
 induction ps with
 |nil=>exact⟨fun q h=>(by cases h),fun q h=>(by cases h)⟩
 | cons e l ih =>
  obtain⟨m,q0,x0⟩:=e;by_cases hm:m=j
  ·subst hm;constructor
   ·intro q h;rw[uF,qb] at h;injection h with h;subst h;exact⟨x0,uC,by rw[uF];exact qb⟩
   ·intro q h;rw[uF,qb] at h;injection h with h;subst h;exact⟨q0,uC,by rw[uF];exact qb⟩
  ·constructor
   ·intro q h;rw[uF,qf hm] at h;obtain⟨pin,h1,h2⟩:=ih.1 q h;exact⟨pin,uA _ h1,by rw[uF,qf hm];exact h2⟩
   ·intro q h;rw[uF,qf hm] at h;obtain⟨pin,h1,h2⟩:=ih.2 q h;exact⟨pin,uA _ h1,by rw[uF,qf hm];exact h2⟩
section
variable{c:Cx}{p p':z6}{w w' w0:World}{S0:Nat→Prop}{a:Act}{σ σ':St}{cs:List (X×Bool)}{o:Oper}{d:List Deferred}{z:Nat}
theorem qyn(hf:SF c σ p w a){x:AV}{v:Value}(h:x.pd c p w v):(z70 σ x).pd c p w v:=by
 unfold z70;split
 ·exact h.2
 ·rename_i k path o t;split
  ·split
   ·rename_i k' T y hl;split
    ·rename_i hk;have hk:=gnN hk;subst hk;obtain⟨v',-,g,u,hg,e,hh,hy⟩:=hf.t k' _ hl;obtain⟨g',hg',e',-⟩:=h;obtain rfl:=gnI (hg.1.symm.trans hg');exact⟨g,u,hg,e',hh,hy⟩
    ·exact h
   ·exact h
  ·exact h
 ·exact h
mutual
theorem qjj:∀(x y:AV){v v':Value},q3e x y=true→x.pd c p w v→y.pd c p w v'→v=v'
 | .sn i x, y, v, v', h, hx, hy => by
  cases y with
  |sn j y=>
   have h:=gnN h;subst h;rw[hx.1,hy.1]
  |_=>cases h
 | .ref k p1 o t, y, v, v', h, hx, hy => by
  obtain⟨g,hg,rfl,-⟩:=hx;cases y with
  |ref k' p2 o' t'=>
   simp only[q3e,gnB] at h;obtain⟨g',hg',rfl,-⟩:=hy;obtain⟨h1,h2⟩:=h;have h1:=gnN h1;have h2:=gnN h2;subst h1 h2;obtain rfl:=gnI (hg.symm.trans hg');rfl
  |bx k' T b=>
   simp only[q3e,gnB] at h;obtain⟨g',u,⟨hg',-⟩,rfl,-⟩:=hy;obtain⟨h1,h2⟩:=h;have h1:=gnN h1;have h2:=gnN h2;subst h1 h2;obtain rfl:=gnI (hg.symm.trans hg');rfl
  |_=>simp[q3e] at h
 | .bx k T b, y, v, v', h, hx, hy => by
  obtain⟨g,u,⟨hg,-⟩,rfl,-⟩:=hx;cases y with
  |ref k' p2 o' t'=>
   simp only[q3e,gnB] at h;obtain⟨g',hg',rfl,-⟩:=hy;obtain⟨h1,h2⟩:=h;have h1:=gnN h1;have h2:=gnN h2;subst h1 h2;obtain rfl:=gnI (hg.symm.trans hg');rfl
  |bx k' T' b'=>
   simp only[q3e] at h;obtain⟨g',u',⟨hg',-⟩,rfl,-⟩:=hy;have h:=gnN h;subst h;obtain rfl:=gnI (hg.symm.trans hg');rfl
  |_=>simp[q3e] at h
 | .fn f l, y, v, v', h, hx, hy => by
  obtain⟨vs,rfl,hl⟩:=hx;cases y with
  |fn f' l'=>
   simp only[q3e,gnB] at h;obtain⟨vs',rfl,hl'⟩:=hy;rw[gnN h.1,qwj l l' h.2 hl hl']
  |_=>simp[q3e] at h
 | .nilP, y, v, v', h, hx, hy => by
  cases y with
  |nilP=>
   obtain rfl:v=.pointer none:=hx;obtain rfl:v'=.pointer none:=hy;rfl
  |_=>simp[q3e] at h
 |.any,y,v,v',h,hx,hy=>by cases y<;>simp[q3e] at h
 |.undef,y,v,v',h,hx,hy=>by cases y<;>simp[q3e] at h
 |.v _ _ _ _,y,v,v',h,hx,hy=>by cases y<;>simp[q3e] at h
 |.nilS,y,v,v',h,hx,hy=>by cases y<;>simp[q3e] at h
 |.rd _ _ _ _,y,v,v',h,hx,hy=>by cases y<;>simp[q3e] at h
 |.tup _,y,v,v',h,hx,hy=>by cases y<;>simp[q3e] at h
 |.gd _ _,y,v,v',h,hx,hy=>by cases y<;>simp[q3e] at h
 |.nb _ _,y,v,v',h,hx,hy=>by cases y<;>simp[q3e] at h
 |.fr _ _,y,v,v',h,hx,hy=>by cases y<;>simp[q3e] at h
 |.ff _ _ _ _ _ _ _ _,y,v,v',h,hx,hy=>by cases y<;>simp[q3e] at h
 |.pt _ _ _ _,y,v,v',h,hx,hy=>by cases y<;>simp[q3e] at h
 |.ar _ _ _,y,v,v',h,hx,hy=>by cases y<;>simp[q3e] at h
 |.lv _ _,y,v,v',h,hx,hy=>by cases y<;>simp[q3e] at h
 |.ax _ _ _ _,y,v,v',h,hx,hy=>by cases y<;>simp[q3e] at h
theorem qwj:∀(l m:List AV){vs vs':List Value},qme l m=true→pds c p w l vs→pds c p w m vs'→vs=vs'
 |[],m,vs,vs',h,hx,hy=>by
  cases m with
  |nil=>rw[show vs=[] from hx,show vs'=[] from hy]
  |cons=>simp[qme] at h
 | x :: l, m, vs, vs', h, hx, hy => by
  cases m with
  |nil=>simp[qme] at h
  |cons y m=>
   simp only[qme,gnB] at h;obtain⟨v,r,rfl,h1,h2⟩:=hx;obtain⟨v',r',rfl,h3,h4⟩:=hy;rw[qjj x y h.1 h1 h3,qwj l m h.2 h2 h4]
end
theorem qfx{l:List AV}:∀{vs:List Value}{i:Nat}{x:AV},pds c p w l vs→l[i]? =some x→∃v,vs[i]? =some v∧x.pd c p w v:=by
 induction l with
 |nil=>intro vs i x _ h;simp at h
 | cons y l ih =>
  rintro vs i x⟨v,r,rfl,h1,h2⟩h;cases i with
  |zero=>
   simp at h;subst h;exact⟨v,rfl,h1⟩
  |succ i=>
   obtain⟨u,e,hu⟩:=ih h2 (by simpa using h);exact⟨u,by simpa using e,hu⟩
theorem z8i{l:List AV}:∀{vs:List Value}{x:AV}{v:Value},pds c p w l vs→x.pd c p w v→pds c p w (l++[x]) (vs++[v]):=by
 induction l with
 |nil=>
  intro vs x v h hx;obtain rfl:vs=[]:=h;exact⟨v,[],rfl,hx,rfl⟩
 |cons y l ih=>
  rintro vs x v⟨u,r,rfl,h1,h2⟩hx;exact⟨u,r++[v],rfl,h1,ih h2 hx⟩
theorem zcw(hf:SF c σ p w a){avs:List AV}{vs:List Value}(hv:pds c p w avs vs){s:Src}{x:AV}(h:zeh σ avs s=some x):∃v,x.pd c p w v:=by
 cases s with
 | cap i q =>
  simp only[zeh] at h;split at h
  ·rename_i y hy;obtain⟨v,-,h1⟩:=qfx hv hy;have h2:=qyn hf h1;split at h
   ·rename_i f l hr;rw[hr] at h2;obtain⟨vs',-,hl⟩:=h2;obtain⟨u,-,hu⟩:=qfx hl h;exact⟨u,hu⟩
   ·cases h
  ·cases h
 | cell i =>
  simp only[zeh] at h;split at h
  ·rename_i y hy;obtain⟨v,-,h1⟩:=qfx hv hy;have h2:=qyn hf h1;split at h
   ·rename_i k T b hr;rw[hr] at h2;injection h with h;subst h;obtain⟨g,u,-,-,-,hu⟩:=h2;exact⟨u,hu⟩
   ·rename_i T b hr;rw[hr] at h2;injection h with h;subst h;obtain⟨g,u,-,-,-,-,hu⟩:=h2;exact⟨u,hu⟩
   ·cases h
  ·cases h
theorem z28(hf:SF c σ p w a):∀{ss:List Src}{avs V:List AV}{vs:List Value},qwc σ avs ss=some V→pds c p w avs vs→∃us,pds c p w V (vs++us)
 |[],avs,V,vs,h,hv=>by
  simp only[qwc,uG] at h;subst h;exact⟨[],by simpa using hv⟩
 | s :: ss, avs, V, vs, h, hv => by
  simp only[qwc] at h;split at h
  ·rename_i x hx;obtain⟨u,hu⟩:=zcw hf hv hx;obtain⟨us,h2⟩:=z28 hf h (z8i hv hu);exact⟨u::us,by simpa using h2⟩
  ·cases h
theorem z6c{V:List AV}{VV:List Value}(hV:pds c p w V VV):∀{l:List AV}{ks:List Nat}{vs:List Value},z80 V l ks=true→pds c p w l vs→vs=ks.map fun k=>VV.getD k undef
 |[],[],vs,_,h=>h
 | x :: l, k :: ks, vs, h, ⟨v, r, e, h1, h2⟩ => by
  subst e;simp only[z80,gnB] at h;obtain⟨h3,h4⟩:=h;split at h3
  ·rename_i b hb;obtain⟨v',e,hb'⟩:=qfx hV hb;rw[qjj x b h3 h1 hb',z6c hV h4 h2,uF,gnG,e];rfl
  ·cases h3
 |[],_::_,vs,h,_=>by simp[z80] at h
 |_::_,[],vs,h,_=>by simp[z80] at h
theorem z7h{V:List AV}{i:Nat}{r:Ar}{x:AV}{g0 g:Gv}(h:qbk σ V i r x g0=some g):(∀y∈g0.dep,y∈g.dep)∧∀y∈g0.pass,y∈g.pass:=by
 unfold qbk at h;split at h
 ·split at h
  ·injection h with h;subst h;exact⟨fun y hy=>q5f hy,fun y hy=>hy⟩
  ·cases h
 ·split at h
  ·split at h
   ·split at h
    ·injection h with h;subst h;exact⟨fun y hy=>q5f hy,fun y hy=>uA _ (uE _ hy)⟩
    ·cases h
   ·cases h
  ·cases h
 ·split at h
  ·split at h
   ·injection h with h;subst h;exact⟨fun y hy=>q5f hy,fun y hy=>hy⟩
   ·cases h
  ·cases h
 ·split at h
  ·injection h with h;subst h;exact⟨fun y hy=>q5f hy,fun y hy=>hy⟩
  ·cases h
 ·split at h
  ·injection h with h;subst h;exact⟨fun y hy=>hy,fun y hy=>hy⟩
  ·cases h
 ·split at h
  ·split at h
   ·split at h
    ·injection h with h;subst h;exact⟨fun y hy=>q5f hy,fun y hy=>uE _ hy⟩
    ·cases h
   ·cases h
  ·cases h
 ·split at h
  ·split at h
   ·injection h with h;subst h;exact⟨fun y hy=>hy,fun y hy=>uA _ hy⟩
   ·cases h
  ·cases h
 ·injection h with h;subst h;exact⟨fun y hy=>hy,fun y hy=>hy⟩
 ·injection h with h;subst h;exact⟨fun y hy=>hy,fun y hy=>hy⟩
 ·split at h
  ·split at h
   ·injection h with h;subst h;exact⟨fun y hy=>q5f hy,fun y hy=>hy⟩
   ·cases h
  ·cases h
 ·split at h
  ·injection h with h;subst h;exact⟨fun y hy=>hy,fun y hy=>hy⟩
  ·cases h
 ·split at h
  ·injection h with h;subst h;exact⟨fun y hy=>q5f hy,fun y hy=>hy⟩
  ·cases h
 ·split at h
  ·injection h with h;subst h;exact⟨fun y hy=>hy,fun y hy=>hy⟩
  ·cases h
 ·cases h
theorem zas(hf:SF c σ p w a){V:List AV}{VV:List Value}(hV:pds c p w V VV){i:Nat}{r:Ar}{x:AV}{g0 g:Gv}(h:qbk σ V i r x g0=some g){v:Value}(hx:x.pd c p w v){A0:Nat→Prop}{p0:z6}
  (hF:∀b,b<w.heap.size→FFD c.A p g.dep b→FFD A0 p0 [] b)(hp:∀y∈g.pass,p0 y.1=p y.2){l:List (Nat×Ar)}{vs:List Value}(hr:j7 VV A0 p0 w l vs (X.evs c.v g0.xs)):j7 VV A0 p0 w ((i,r)::l) (v::vs) (X.evs c.v g.xs):=by
 unfold qbk at h;split at h
 ·rename_i t;split at h
  ·rename_i xx own dep h1;injection h with h;subst h;obtain⟨cs,hpk,hcon⟩:=q2y h1 hx;refine⟨v,vs,xx.ev c.v,X.evs c.v g0.xs,rfl,rfl,⟨cs,hpk,?_⟩,hr⟩;exact(hcon.rd (dep':=uni (uni (own.map (·.2)) dep) g0.dep) (fun y hy=>q2m (q5f hy)) (fun y hy=>q2m (q2m hy))).mono hF
  ·cases h
 ·rename_i t o k t';split at h
  ·rename_i e he;split at h
   ·rename_i hok;simp only[gnB] at hok;obtain⟨-,h1,h2,h3⟩:=hok;rw[Ty.beq_iff] at h1 h2;subst h1;split at h
    ·rename_i ps hps;injection h with h;subst h;obtain⟨g1,hg0,hev,-⟩:=hx;obtain⟨g2,cs,T,hg1,hh,hty,hcon⟩:=hf.m k e he;obtain rfl:=gnI (hg0.symm.trans hg1);obtain⟨i1,i2⟩:=qfz hps;rw[h2] at hcon hty;refine⟨v,vs,e.x.ev c.v,X.evs c.v g0.xs,rfl,rfl,⟨g1,cs,T,?_,hev,hh,hty,?_⟩,hr⟩
     ·exact(hp (i * 16,k * 16) uC).trans hg0
     ·refine hcon.relabel ⟨fun b ob hb ho=>⟨ho,hF b (jb ho) (hb.mono fun y hy=>q2m hy)⟩,fun j q hq=>?_,fun j hj=>?_⟩
      ·rw[←i1] at hq;obtain⟨pin,hm1,-⟩:=qq0.1 q hq;refine⟨pin,i2 _ hm1,fun g hg=>⟨?_,rfl⟩⟩;exact(hp (q,pin) (uA _ (uH _ (uI.2 ⟨_,hm1,rfl⟩)))).trans hg
      ·cases ho:lkA e.own j with
       |none=>rfl
       |some y=>
        have:=uJ.1 h3 _ (q0y ho);simp only at this;rw[hj] at this;cases this
    ·cases h
   ·cases h
  ·cases h
 ·rename_i t k t';split at h
  ·rename_i e he;split at h
   ·rename_i hok;simp only[gnB] at hok;obtain⟨h1,h2,h3⟩:=hok;rw[Ty.beq_iff] at h1 h2;subst h1;injection h with h;subst h;obtain⟨g1,hg0,hev,-⟩:=hx;obtain⟨g2,cs,T,hg1,hh,hty,hcon⟩:=hf.m k e he;obtain rfl:=gnI (hg0.symm.trans hg1);rw[h2] at hcon;have hrd:=hcon.rd (dep':=uni (k * 16::uni (e.own.map (·.2)) e.dep) g0.dep) (fun y hy=>q2m (uA _ (q5f hy))) (fun y hy=>q2m (uA _ (q2m hy)));have hl:=hcon.len.1;refine⟨v,vs,e.x.ev c.v,X.evs c.v g0.xs,rfl,rfl,⟨g1,0,cs.toList,hev,hF g1 (jb hh) (.inr ⟨k * 16,q2m uC,hg0⟩),fun j u hj=>?_,by rw[hl];exact uY.mp h3,hrd.mono hF⟩,hr⟩;rw[cell_of_row w g1 (0+j) cs T (0,0) hh,←uT];simpa using hj
   ·cases h
  ·cases h
 ·rename_i t xx t' dep wr;split at h
  ·rename_i h1;rw[Ty.beq_iff] at h1;subst h1;injection h with h;subst h;obtain⟨b,o,cs,hev,hb,hrr,h0,hd,-⟩:=hx;refine⟨v,vs,xx.ev c.v,X.evs c.v g0.xs,rfl,rfl,⟨b,o,cs,hev,hF b (qr7 hrr h0) (hb.mono fun y hy=>q2m hy),hrr,h0,?_⟩,hr⟩;exact(hd.mono fun b _ hfb=>hfb.mono fun y hy=>q2m hy).mono hF
  ·cases h
 ·rename_i E;split at h
  ·rename_i hE;injection h with h;subst h;obtain rfl:v=.slice none 0 0:=hx;obtain⟨te,hte⟩:=uU.1 hE;refine⟨_,vs,.r [],X.evs c.v g0.xs,rfl,rfl,⟨[.slice none 0 0],rfl,?_⟩,hr⟩
   show Fl A0 p0 w [] (lkA [(0,i * 16+1)] 0) (.r []) (.row E) _
   rw[qb];exact .inl ⟨E,te,[],_,rfl,hte,rfl,rfl,.inl ⟨rfl,rfl⟩⟩
  ·cases h
 ·rename_i t;split at h
  ·rename_i xx own dep h1;split at h
   ·rename_i h3;split at h
    ·rename_i ps hps;injection h with h;subst h;obtain⟨cs,hpk,hcon⟩:=q2y h1 hx;obtain⟨i1,i2⟩:=qfz hps;refine⟨v,vs,xx.ev c.v,X.evs c.v g0.xs,rfl,rfl,⟨cs,hpk,hcon.relabel ⟨fun b ob hb ho=>⟨ho,hF b (jb ho) (hb.mono fun y hy=>q2m hy)⟩,fun j q hq=>?_,fun j hj=>?_⟩⟩,hr⟩
     ·rw[←i1] at hq;obtain⟨pin,hm1,-⟩:=qq0.1 q hq;refine⟨pin,i2 _ hm1,fun g hg=>⟨?_,rfl⟩⟩;exact(hp (q,pin) (uH _ (uI.2 ⟨_,hm1,rfl⟩))).trans hg
     ·cases ho:lkA own j with
      |none=>rfl
      |some y=>
       have:=uJ.1 h3 _ (q0y ho);simp only at this;rw[hj] at this;cases this
    ·cases h
   ·cases h
  ·cases h
 ·rename_i t;split at h
  ·rename_i xx pin dep h1;split at h
   ·rename_i hmp;injection h with h;subst h;obtain⟨cs,hpk,hcon⟩:=q2y h1 hx;obtain⟨hfo,hoa⟩:=qq8 hmp;have hcon0:Con c.A p w (xx.ev c.v) t [(0,pin)] [] cs:=hcon.flat1 (k:=i) (fun j hj=>by
     rw[hoa] at hj;by_cases h0:0=j
     ·subst h0;rw[qb];simp
     ·rw[qf h0] at hj;exact absurd rfl hj) hfo
    refine⟨v,vs,xx.ev c.v,X.evs c.v g0.xs,rfl,rfl,⟨cs,hpk,hcon0.relabel ⟨fun b ob hb ho=>⟨ho,hF b (jb ho) (hb.mono fun y hy=>by cases hy)⟩,fun j q hq=>?_,fun j hj=>?_⟩⟩,hr⟩
    ·rw[hoa] at hq;have hq':lkA [(0,i * 16+1)] j=some q:=hq;by_cases hj:0=j
     ·subst hj;rw[qb] at hq';injection hq' with hq';subst hq';exact⟨pin,qb,fun g hg=>⟨(hp (i * 16+1,pin) uC).trans hg,rfl⟩⟩
     ·rw[qf hj] at hq';cases hq'
    ·rw[hoa] at hj;have hj':lkA [(0,i * 16+1)] j=none:=hj;by_cases hj0:0=j
     ·subst hj0;rw[qb] at hj';cases hj'
     ·rw[qf hj0];rfl
   ·cases h
  ·cases h
 ·injection h with h;subst h;obtain rfl:v=.slice none 0 0:=hx;exact⟨vs,rfl,hr⟩
 ·injection h with h;subst h;obtain rfl:v=.pointer none:=hx;exact⟨vs,rfl,hr⟩
 ·rename_i t d;split at h
  ·rename_i hcst;split at h
   ·rename_i xx own dep h1;injection h with h;subst h;obtain⟨cs,hpk,hcon⟩:=q2y h1 hx;unfold zb0 at hcst;rw[h1] at hcst;simp only at hcst;split at hcst
    ·rename_i d' hd';rw[D.beq_iff] at hcst;subst hcst;rw[z4f hd'] at hcon;exact⟨v,vs,rfl,⟨cs,hpk,(hcon.rd (dep':=uni (uni (own.map (·.2)) dep) g0.dep) (fun y hy=>q2m (q5f hy)) (fun y hy=>q2m (q2m hy))).mono hF⟩,hr⟩
    ·cases hcst
   ·cases h
  ·cases h
 ·rename_i f ks f' l';split at h
  ·rename_i hok;simp only[gnB] at hok;injection h with h;subst h;obtain⟨caps,rfl,hl⟩:=hx;have hff:=gnN hok.1;subst hff;exact⟨vs,by rw[z6c hV hok.2 hl],hr⟩
  ·cases h
 ·rename_i T j k T' y;split at h
  ·rename_i hok;simp only[gnB] at hok;obtain⟨h1,h2⟩:=hok;have h1:=gnN h1;subst h1;injection h with h;subst h;obtain⟨b,u,⟨hg,-⟩,rfl,hh,hu⟩:=hx;unfold qzb at h2;split at h2
   ·rename_i b' hb';obtain⟨v',e,hv'⟩:=qfx hV hb';have hu':u=VV.getD j undef:=by
     rw[qjj y b' h2 hu hv',gnG,e];rfl
    rcases hF b (jb hh) (.inr ⟨k * 16,q2m uC,hg⟩) with⟨q1,q2⟩|⟨x,hx,-⟩
    ·exact⟨b,vs,rfl,q1,q2,by rw[←hu'];exact hh,hr⟩
    ·cases hx
   ·cases h2
  ·cases h
 ·rename_i T j T' y;split at h
  ·rename_i hok;simp only[gnB] at hok;obtain⟨h1,h2⟩:=hok;have h1:=gnN h1;subst h1;injection h with h;subst h;obtain⟨b,u,ha,hfr,rfl,hh,hu⟩:=hx;unfold qzb at h2;split at h2
   ·rename_i b' hb';obtain⟨v',e,hv'⟩:=qfx hV hb';have hu':u=VV.getD j undef:=by
     rw[qjj y b' h2 hu hv',gnG,e];rfl
    rcases hF b (jb hh) (.inl ⟨ha,hfr⟩) with⟨q1,q2⟩|⟨x,hx,-⟩
    ·exact⟨b,vs,rfl,q1,q2,by rw[←hu'];exact hh,hr⟩
    ·cases hx
   ·cases h2
  ·cases h
 ·cases h
theorem z50(hf:SF c σ p w a){V:List AV}{VV:List Value}(hV:pds c p w V VV){A0:Nat→Prop}{p0:z6}:∀{all:List (Nat×Ar)}{avs:List AV}{g:Gv}{vs:List Value},give σ V all avs=some g→pds c p w avs vs→
    (∀b,b<w.heap.size→FFD c.A p g.dep b→FFD A0 p0 [] b)→(∀y∈g.pass,p0 y.1=p y.2)→j7 VV A0 p0 w all vs (X.evs c.v g.xs)
  | [], [], g, vs, h, hv, hF, hp => by
    simp only[give,uG] at h;subst h;exact⟨hv,rfl⟩
  | (i, r) :: l, x :: m, g, vs, h, ⟨v, r', e, hx, hm⟩, hF, hp => by
    subst e;simp only[give] at h;split at h
    · rename_i g0 hg0;obtain⟨s1,s2⟩:=z7h h;exact zas hf hV h (qyn hf hx) hF hp (z50 hf hV hg0 hm (fun b hb hfb=>hF b hb (hfb.mono s1)) fun y hy=>hp y (s2 y hy))
    · cases h
  |[],_::_,g,vs,h,hv,hF,hp=>by simp[give] at h
  |(_,_)::_,[],g,vs,h,hv,hF,hp=>by simp[give] at h
end
end
section
def q52(ren:List (Nat×Nat))(p p':z6):z6:=fun y=>match lkA (ren.map fun e=>(e.2,e.1)) y with
 |some q=>p' q
 |none=>p y
def q43(pass:List (Nat×Nat))(p:z6):z6:=fun q=>match lkA pass q with
 |some pin=>p pin
 |none=>none
theorem qt8{ren:List (Nat×Nat)}{p p':z6}(hn:q1s (ren.map (·.2))=true){q y:Nat}(h:(q,y)∈ren):q52 ren p p' y=p' q:=by
 unfold q52;rw[qez hn h]
theorem qkn{ren:List (Nat×Nat)}{p p':z6}{y:Nat}(h:∀q,(q,y)∉ren):q52 ren p p' y=p y:=by
 unfold q52;split
 ·rename_i q hq;exact absurd (z1z hq) (h q)
 ·rfl
theorem q3d{ren:List (Nat×Nat)}{p p':z6}{y b:Nat}(h:q52 ren p p' y=some b):(∃q,(q,y)∈ren∧p' q=some b)∨((∀q,(q,y)∉ren)∧p y=some b):=by
 by_cases hx:∃q,(q,y)∈ren
 ·left;unfold q52 at h;split at h
  ·rename_i q hq;exact⟨q,z1z hq,h⟩
  ·rename_i hno;obtain⟨q,hq⟩:=hx;have hm:(y,q)∈ren.map fun e=>(e.2,e.1):=uI.2 ⟨_,hq,rfl⟩;exfalso;clear h hq
   induction ren with
   |nil=>cases hm
   | cons e l ih =>
    rw[uF] at hno hm;by_cases he:e.2=y
    ·subst he;rw[qb] at hno;cases hno
    ·rw[qf he] at hno;rcases uN.1 hm with h|h
     ·injection h with h1 h2;exact he h1.symm
     ·exact ih hno h
 ·right;have hx':∀q,(q,y)∉ren:=fun q hq=>hx ⟨q,hq⟩;rw[qkn hx'] at h;exact⟨hx',h⟩
section
variable{c:Cx}{p p':z6}{w w' w0:World}{S0:Nat→Prop}{a:Act}{σ σ':St}{cs:List (X×Bool)}{o:Oper}{d:List Deferred}{z:Nat}
structure Cl(c:Cx)(w0:World)(S0:Nat→Prop)(p:z6)(w:World)(dep:List Nat)(pass ren:List (Nat×Nat))(p':z6)(w':World):Prop where
 hb:Bs c.A c.F w0 S0 p w
 n1:q1s (ren.map (·.1))=true
 n2:q1s (ren.map (·.2))=true
 sub:∀y,y∈pass→y∈ren
 npass:∀q x,(q,x)∈ren→(q,x)∉pass→p x=none
 hdep:∀x∈dep,∀q,(q,x)∉pass
 post:Bs (fun b=>FFD c.A p dep b∨pinned (q43 pass p) b∨w.heap.size≤b) .no w (pinned (q43 pass p)) p' w'
 flo:Flo c.F w0 w'
theorem qax{pass:List (Nat×Nat)}{q b:Nat}(h:q43 pass p q=some b):∃pin,(q,pin)∈pass∧p pin=some b:=by
 unfold q43 at h;split at h
 ·rename_i pin hp;exact⟨pin,q0y hp,h⟩
 ·cases h
theorem qd3{pass:List (Nat×Nat)}(hn:q1s (pass.map (·.1))=true){q pin:Nat}(h:(q,pin)∈pass):q43 pass p q=p pin:=by
 unfold q43;rw[qcx hn h]
theorem zac{l:List (Nat×Nat)}(hn:q1s (l.map (·.1))=true){q x y:Nat}(h1:(q,x)∈l)(h2:(q,y)∈l):x=y:=gnI ((qcx hn h1).symm.trans (qcx hn h2))
theorem Cl.bs{dep:List Nat}{pass ren:List (Nat×Nat)}(h:Cl c w0 S0 p w dep pass ren p' w'):Bs c.A c.F w0 S0 (q52 ren p p') w':=by
 have hsz:w0.heap.size≤w.heap.size:=h.hb.but.size;have hS:∀b,pinned (q43 pass p) b→(∃q pin,(q,pin)∈pass∧p pin=some b):=fun b⟨q,hq⟩=>let ⟨pin,h1,h2⟩:=qax hq;⟨q,pin,h1,h2⟩
 have hother:∀y b,(∀q,(q,y)∉ren)→p y=some b→¬pinned (q43 pass p) b∧b<w.heap.size:=fun y b hy hp=>⟨fun hS'=>by
  obtain⟨q,pin,h1,h2⟩:=hS b hS';obtain rfl:=h.hb.inj y pin b hp h2;exact hy q (h.sub _ h1),h.hb.bd y b hp⟩
 refine⟨fun x y b hx hy=>?_,fun x b hx=>?_,?_,fun x b hx=>?_,h.hb.new,fun x b hx=>?_,fun x b hx=>?_,h.flo⟩
 ·rcases q3d hx with⟨q1,m1,e1⟩|⟨m1,e1⟩
  ·rcases q3d hy with⟨q2,m2,e2⟩|⟨m2,e2⟩
   ·obtain rfl:=h.post.inj q1 q2 b e1 e2;exact zac h.n1 m1 m2
   ·obtain⟨h1,h2⟩:=hother y b m2 e2;rcases h.post.pin q1 b e1 with h3|h3
    ·exact absurd h3 h1
    ·omega
  ·obtain⟨h1,h2⟩:=hother x b m1 e1;rcases q3d hy with⟨q2,m2,e2⟩|⟨m2,e2⟩
   ·rcases h.post.pin q2 b e2 with h3|h3
    ·exact absurd h3 h1
    ·omega
   ·exact h.hb.inj x y b e1 e2
 ·rcases q3d hx with⟨q1,m1,e1⟩|⟨m1,e1⟩
  ·exact h.post.bd q1 b e1
  ·have:=h.hb.bd x b e1;have:=h.post.but.size;omega
 ·refine h.hb.but.trans h.post.but fun b hb hlt=>?_;obtain⟨q,pin,h1,h2⟩:=hS b hb;exact h.hb.pin pin b h2
 ·rcases q3d hx with⟨q1,m1,e1⟩|⟨m1,e1⟩
  ·rcases h.post.pin q1 b e1 with h3|h3
   ·obtain⟨q,pin,h1,h2⟩:=hS b h3;exact h.hb.pin pin b h2
   ·exact .inr (by omega)
  ·exact h.hb.pin x b e1
 ·rcases q3d hx with⟨q1,m1,e1⟩|⟨m1,e1⟩
  ·rcases h.post.pin q1 b e1 with h3|h3
   ·obtain⟨q,pin,h1,h2⟩:=hS b h3;exact h.hb.pa pin b h2
   ·exact(h.hb.new b (by omega)).1
  ·exact h.hb.pa x b e1
 ·rcases q3d hx with⟨q1,m1,e1⟩|⟨m1,e1⟩
  ·exact h.post.obj q1 b e1
  ·obtain⟨h1,h2⟩:=hother x b m1 e1;exact(h.hb.obj x b e1).same (h.post.but.block b h2 h1)
theorem Cl.free{dep:List Nat}{pass ren:List (Nat×Nat)}(h:Cl c w0 S0 p w dep pass ren p' w'){b:Nat}(hlt:b<w.heap.size)(hf:qcc p b):¬pinned (q43 pass p) b∧qcc (q52 ren p p') b:=by
 have hn:¬pinned (q43 pass p) b:=fun⟨q,hq⟩=>by
  obtain⟨pin,h1,h2⟩:=qax hq;exact hf pin h2
 refine⟨hn,fun y hy=>?_⟩;rcases q3d hy with⟨q1,m1,e1⟩|⟨m1,e1⟩
 ·rcases h.post.pin q1 b e1 with h3|h3
  ·exact hn h3
  ·omega
 ·exact hf y e1
theorem Cl.stab{dep:List Nat}{pass ren:List (Nat×Nat)}(h:Cl c w0 S0 p w dep pass ren p' w'){Z L:Nat→Bool}(hZ:∀x b,Z x=false→p x=some b→(∀q,(q,x)∉pass)∨w'.heap[b]? =w.heap[b]?)(hL:∀x b,L x=false→p x=some b→∀q,(q,x)∈pass→p' q=some b):Stab c.A Z L p w (q52 ren p p') w':=by
 refine⟨h.post.but.size,fun b hlt ha hf=>?_,fun x b hl hx=>?_,fun x b hz hx=>?_⟩
 ·obtain⟨h1,h2⟩:=h.free hlt hf;exact⟨h.post.but.block b hlt h1,h2⟩
 ·by_cases hr:∃q,(q,x)∈ren
  ·obtain⟨q,hq⟩:=hr;rw[qt8 h.n2 hq];by_cases hp:(q,x)∈pass
   ·exact hL x b hl hx q hp
   ·rw[h.npass q x hq hp] at hx;cases hx
  ·rw[qkn fun q hq=>hr ⟨q,hq⟩];exact hx
 ·rcases hZ x b hz hx with hno|hsame
  ·refine h.post.but.block b (h.hb.bd x b hx) fun⟨q,hq⟩=>?_;obtain⟨pin,h1,h2⟩:=qax hq;obtain rfl:=h.hb.inj x pin b hx h2;exact hno q h1
  ·exact hsame
theorem Cl.ff{dep:List Nat}{pass ren:List (Nat×Nat)}(h:Cl c w0 S0 p w dep pass ren p' w'){b:Nat}(hb:FFD (fun b=>FFD c.A p dep b∨pinned (q43 pass p) b∨w.heap.size≤b) p' [] b):FFD c.A (q52 ren p p') dep b:=by
 rcases hb with⟨ha,hf⟩|⟨x,hx,-⟩
 ·have new:w.heap.size≤b→FFD c.A (q52 ren p p') dep b:=fun hle=>by
   have hsz:w0.heap.size≤w.heap.size:=h.hb.but.size;refine .inl ⟨(h.hb.new b (by omega)).1,fun y hy=>?_⟩;rcases q3d hy with⟨q1,m1,e1⟩|⟨m1,e1⟩
   ·exact hf q1 e1
   ·have:=h.hb.bd y b e1;omega
  rcases ha with ha|⟨q,hq⟩|ha
  ·rcases ha with⟨h1,h2⟩|⟨x,hx,e⟩
   ·refine .inl ⟨h1,fun y hy=>?_⟩;rcases q3d hy with⟨q1,m1,e1⟩|⟨m1,e1⟩
    ·exact hf q1 e1
    ·exact h2 y e1
   ·refine .inr ⟨x,hx,?_⟩;by_cases hr:∃q,(q,x)∈ren
    ·obtain⟨q,hq⟩:=hr;by_cases hp:(q,x)∈pass
     ·exact absurd hp (h.hdep x hx q)
     ·rw[h.npass q x hq hp] at e;cases e
    ·rw[qkn fun q hq=>hr ⟨q,hq⟩];exact e
  ·obtain⟨pin,h1,h2⟩:=qax hq;refine .inl ⟨h.hb.pa pin b h2,fun y hy=>?_⟩;rcases q3d hy with⟨q1,m1,e1⟩|⟨m1,e1⟩
   ·exact hf q1 e1
   ·obtain rfl:=h.hb.inj y pin b e1 h2;exact m1 q (h.sub _ h1)
  ·exact new ha
 ·cases hx
theorem Cl.rel{dep:List Nat}{pass ren:List (Nat×Nat)}(h:Cl c w0 S0 p w dep pass ren p' w'){ps:List (Nat×Nat×Nat)}(hps:∀y∈ps,(y.2.1,y.2.2)∈ren):
  RelD (fun b=>FFD c.A p dep b∨pinned (q43 pass p) b∨w.heap.size≤b) p' w' [] (ps.map fun y=>(y.1,y.2.1)) c.A (q52 ren p p') w' dep (ps.map fun y=>(y.1,y.2.2)):=by
 refine⟨fun b ob hb ho=>⟨ho,h.ff hb⟩,fun j q hq=>?_,fun j hj=>?_⟩
 ·obtain⟨q',h1,h2⟩:=qq0.2 q hq;exact⟨q',h2,fun g hg=>⟨(qt8 h.n2 (hps _ h1)).trans hg,rfl⟩⟩
 ·cases ho:lkA (ps.map fun y=>(y.1,y.2.1)) j with
  |none=>rfl
  |some q=>
   obtain⟨pin,h1,h2⟩:=qq0.1 q ho;rw[hj] at h2;cases h2
end
theorem qqk{n k:Nat}{t:Ty}:∃ps:List (Nat×Nat×Nat),zw n t=ps.map (fun y=>(y.1,y.2.1))∧zw k t=ps.map (fun y=>(y.1,y.2.2))∧((zw n t).zip (zw k t)).map (fun e=>(e.1.2,e.2.2))=ps.map (·.2):=by
 have rows:∀(fs:List Ty)(j:Nat),∃ps:List (Nat×Nat×Nat),rowsOf n fs j=ps.map (fun y=>(y.1,y.2.1))∧rowsOf k fs j=ps.map (fun y=>(y.1,y.2.2))∧((rowsOf n fs j).zip (rowsOf k fs j)).map (fun e=>(e.1.2,e.2.2))=ps.map (·.2):=by
  intro fs
  induction fs with
  |nil=>intro j;exact⟨[],rfl,rfl,rfl⟩
  |cons t ts ih=>
   intro j;obtain⟨ps,h1,h2,h3⟩:=ih (j+1);cases t with
   |row E=>exact⟨(j,n * 16+1+j,k * 16+1+j)::ps,by simp[rowsOf,h1],by simp[rowsOf,h2],by simp only[rowsOf,List.zip_cons_cons,uF,h3]⟩
   |int _=>exact⟨ps,h1,h2,h3⟩
   |bool=>exact⟨ps,h1,h2,h3⟩
   |str=>exact⟨ps,h1,h2,h3⟩
   |st _=>exact⟨ps,h1,h2,h3⟩
   |map _ _=>exact⟨ps,h1,h2,h3⟩
   |fnv=>exact⟨ps,h1,h2,h3⟩
 cases t with
 |row E=>exact⟨[(0,n * 16+1,k * 16+1)],rfl,rfl,rfl⟩
 |map K V=>exact⟨[(0,n * 16+1,k * 16+1)],rfl,rfl,rfl⟩
 |st S=>
  simp only[zw];cases flds S with
  |none=>exact⟨[],rfl,rfl,rfl⟩
  |some fs=>exact rows fs 0
 |int _=>exact⟨[],rfl,rfl,rfl⟩
 |bool=>exact⟨[],rfl,rfl,rfl⟩
 |str=>exact⟨[],rfl,rfl,rfl⟩
 |fnv=>exact⟨[],rfl,rfl,rfl⟩
theorem z0j{n k j:Nat}{t:Ty}:∃ps:List (Nat×Nat×Nat),zw n t=ps.map (fun y=>(y.1,y.2.1))∧shO j (zw k t)=ps.map (fun y=>(y.1,y.2.2))∧((zw n t).zip (shO j (zw k t))).map (fun e=>(e.1.2,e.2.2))=ps.map (·.2):=by
 obtain⟨ps,h1,h2,h3⟩:=qqk (n:=n) (k:=k) (t:=t);cases j with
 |zero=>exact⟨ps,h1,h2,h3⟩
 | succ j =>
  have e2:shO (j+1) (zw k t)=(ps.map fun y=>(y.1,y.2.1,y.2.2+7)).map fun y=>(y.1,y.2.2):=by
   show(zw k t).map (fun e=>(e.1,e.2+7))=_
   rw[h2,uX,uX];rfl
  have e1:zw n t=(ps.map fun y=>(y.1,y.2.1,y.2.2+7)).map fun y=>(y.1,y.2.1):=by
   rw[h1,uX];rfl
  refine⟨_,e1,e2,?_⟩;rw[e1,e2,List.zip_map',uX];rfl
theorem zgo{j:Nat}{l:List (Nat×Nat)}{i:Nat}(h:lkA l i≠none):lkA (shO j l) i≠none:=by
 cases j with
 |zero=>exact h
 | succ j =>
  show lkA (l.map fun e=>(e.1,e.2+7)) i≠none
  induction l with
  |nil=>exact h
  | cons a l ih =>
   obtain⟨q,x⟩:=a;by_cases hq:q=i
   ·subst hq;rw[uF,qb];exact fun e=>by cases e
   ·rw[qf hq] at h;rw[uF,qf hq];exact ih h
section
variable{c:Cx}{p p':z6}{w w' w0:World}{S0:Nat→Prop}{a:Act}{σ σ':St}{cs:List (X×Bool)}{o:Oper}{d:List Deferred}{z:Nat}
theorem z7k{l:List D}{k j:Nat}:(l.drop k).getD j .u=l.getD (k+j) .u:=by
 simp[gnG,List.getElem?_drop]
theorem z9j{dep:List Nat}{pass ren:List (Nat×Nat)}(h:Cl c w0 S0 p w dep pass ren p' w'){n:Nat}{xs:List X}{outs:List D}(ho:(c.v.S n (X.evs c.v xs))=some outs){k:Nat}:
    ∀{rs:List (Ty×Bool)}{m j:Nat}{vs:List Value},(∀y∈qg4 m k rs j,y∈ren)→qov (fun b=>FFD c.A p dep b∨pinned (q43 pass p) b∨w.heap.size≤b) p' w' rs m vs ((outs.drop j).take rs.length)→pds c (q52 ren p p') w' (z4q n xs dep k rs j) vs
  |[],m,j,vs,_,hr=>hr
  | (t, own) :: l, m, j, vs, hy, ⟨v, r, dd, ds', e1, e2, ⟨cs, hp, hc⟩, hr⟩ => by
    subst e1;have hds:outs.drop j=dd::(outs.drop (j+1))∧ds'=(outs.drop (j+1)).take l.length:=by
      have hlt:j<outs.length:=by
        rcases kI j outs.length with h|h
        · exact h
        · rw[uS h] at e2;simp at e2
      rw[uP hlt,List.length_cons,List.take_succ_cons] at e2;injection e2 with e2 e3;exact⟨by rw[uP hlt,e2],e3.symm⟩
    obtain⟨hd1,rfl⟩:=hds;have hev:(X.call n j xs).ev c.v=dd:=by
      show((c.v.S n (X.evs c.v xs)).getD []).getD j .u=dd
      rw[ho];have:=z7k (l:=outs) (k:=j) (j:=0);rw[hd1] at this;simpa using this.symm
    refine⟨v,r,rfl,⟨cs,hp,?_⟩,z9j h ho (fun y hy'=>hy y (uE _ hy')) hr⟩;rw[hev];cases own with
    | false =>
      have:=hc.relabel (h.rel (ps:=[]) (fun y hy=>by cases hy));exact qxm (k:=k) (b:=false) (fun hb=>by cases hb) this
    | true =>
      obtain⟨ps,h1,h2,h3⟩:=z0j (n:=m) (k:=k) (j:=j) (t:=t);simp only[if_true] at hc⊢;rw[h1] at hc;have:=hc.relabel (h.rel (ps:=ps) fun y hy'=>hy _ (uH _ (by
        simp only[if_true];rw[h3];exact uI.2 ⟨y,hy',rfl⟩)))
      rw[←h2] at this;exact qxm (k:=k) (b:=true) (fun _ i hi=>zgo hi) this
theorem z4a{t:Ty}{own:List (Nat×Nat)}{k:Nat}(h:qpx t own=true)(j:Nat)(hj:lkA (zw k t) j≠none):lkA own j≠none:=by
 obtain⟨ps,h1,h2,-⟩:=qqk (n:=0) (k:=k) (t:=t);cases hq:lkA (zw k t) j with
 |none=>exact absurd hq hj
 |some y=>
  have hm:=q0y hq;rw[h2] at hm;obtain⟨e,he,hx⟩:=uI.1 hm;injection hx with hx1 hx2;have h3:=uJ.1 h (e.1,e.2.1) (by rw[h1];exact uI.2 ⟨e,he,rfl⟩);rw[←hx1];intro hn;have h3:(lkA own e.1).isSome=true:=h3;rw[hn] at h3;cases h3
theorem qlj{V:List AV}{i:Nat}{t:Ty}{o:Ow}{x:AV}{g0 g:Gv}(h:qbk σ V i (.ref t o) x g0=some g):∃(k:Nat)(e:Ent)(ps:List (Nat×Nat×Nat)),g=⟨e.x::g0.xs,uni e.dep g0.dep,(i * 16,k * 16)::ps.map (·.2)++g0.pass,(k,i,t,if o.lost then[] else ps.map fun y=>(y.1,y.2.2))::g0.vars⟩∧qhf (qvd o i t) e.own=some ps∧kO MB k=false:=by
 cases x with
 | ref k path oo t' =>
  cases path with
  |cons _ _=>simp[qbk] at h
  | nil =>
   cases oo with
   |succ _=>simp[qbk] at h
   | zero =>
    simp only[qbk] at h;split at h
    ·rename_i e he;split at h
     ·rename_i hok;split at h
      ·rename_i ps hps;injection h with h;refine⟨k,e,ps,h.symm,hps,?_⟩;have h1:=(Bool.and_eq_true_iff.1 hok).1;rw[uY] at h1;cases hb:kO MB k with
       |false=>rfl
       |true=>have:=kC hb;omega
      ·cases h
     ·cases h
    ·cases h
 |_=>simp[qbk] at h
theorem qi2{V:List AV}{i:Nat}{t:Ty}{x:AV}{g0 g:Gv}(h:qbk σ V i (.mref t) x g0=some g):∃(xx:X)(pin:Nat),g=⟨xx::g0.xs,g0.dep,(i * 16+1,pin)::g0.pass,(MB+pin,i,t,[(0,pin)])::g0.vars⟩∧(qb4 t||qpi t)=true:=by
 simp only[qbk] at h;split at h
 ·rename_i xx pin dep h1;split at h
  ·rename_i hmp;injection h with h;exact⟨xx,pin,h.symm,hmp⟩
  ·cases h
 ·cases h
theorem qqi(pin:Nat):kO MB (MB+pin)=true∧qic (MB+pin)=pin:=by
 have h:kO MB (MB+pin)=true:=Nat.ble_eq_true_of_le (Nat.le_add_right _ _);exact⟨h,by unfold qic;rw[if_pos h];omega⟩
theorem qfm{V:List AV}{i:Nat}{r:Ar}(hr:∀t o,r≠.ref t o)(hr2:∀t,r≠.mref t){x:AV}{g0 g:Gv}(h:qbk σ V i r x g0=some g):g.vars=g0.vars∧∀y∈g0.pass,y∈g.pass:=by
 unfold qbk at h;split at h
 ·split at h
  ·injection h with h;subst h;exact⟨rfl,fun y hy=>hy⟩
  ·cases h
 ·exact absurd rfl (hr _ _)
 ·split at h
  ·split at h
   ·injection h with h;subst h;exact⟨rfl,fun y hy=>hy⟩
   ·cases h
  ·cases h
 ·split at h
  ·injection h with h;subst h;exact⟨rfl,fun y hy=>hy⟩
  ·cases h
 ·split at h
  ·injection h with h;subst h;exact⟨rfl,fun y hy=>hy⟩
  ·cases h
 ·split at h
  ·split at h
   ·split at h
    ·injection h with h;subst h;exact⟨rfl,fun y hy=>uE _ hy⟩
    ·cases h
   ·cases h
  ·cases h
 ·exact absurd rfl (hr2 _)
 ·injection h with h;subst h;exact⟨rfl,fun y hy=>hy⟩
 ·injection h with h;subst h;exact⟨rfl,fun y hy=>hy⟩
 ·split at h
  ·split at h
   ·injection h with h;subst h;exact⟨rfl,fun y hy=>hy⟩
   ·cases h
  ·cases h
 ·split at h
  ·injection h with h;subst h;exact⟨rfl,fun y hy=>hy⟩
  ·cases h
 ·split at h
  ·injection h with h;subst h;exact⟨rfl,fun y hy=>hy⟩
  ·cases h
 ·split at h
  ·injection h with h;subst h;exact⟨rfl,fun y hy=>hy⟩
  ·cases h
 ·cases h
theorem qb6.other{VV:List Value}{A0:Nat→Prop}{q q':z6}{W:World}{i:Nat}{r:Ar}(hr:∀t o,r≠.ref t o)(hr2:∀t,r≠.mref t){l:List (Nat×Ar)}{ds:List D}(h:qb6 VV A0 q q' W ((i,r)::l) ds):qb6 VV A0 q q' W l ds:=by
 cases r with
 |ref t o=>exact absurd rfl (hr t o)
 |mref t=>exact absurd rfl (hr2 t)
 |_=>exact h
theorem qq4{dep:List Nat}{pass ren:List (Nat×Nat)}(h:Cl c w0 S0 p w dep pass ren p' w')(hn:q1s (pass.map (·.1))=true){n:Nat}{xs:List X}{outs:List D}(ho:(c.v.S n (X.evs c.v xs))=some outs){V:List AV}{VV:List Value}:
    ∀{all:List (Nat×Ar)}{avs:List AV}{j:Nat}{g:Gv}{m:List (Nat×Ent)},give σ V all avs=some g→(∀y∈g.pass,y∈pass)→qb6 VV (fun b=>FFD c.A p dep b∨pinned (q43 pass p) b∨w.heap.size≤b) (q43 pass p) p' w' all (outs.drop j)→
      (∀k e,lkA m k=some e→q4l c (q52 ren p p') w' k e)→∀k e,lkA (q5k n xs dep g.vars j m) k=some e→q4l c (q52 ren p p') w' k e
  | [], [], j, g, m, hg, _, _, hm => by
    simp only[give,uG] at hg;subst hg;exact hm
  | (i, r) :: l, x :: avs, j, g, m, hg, hp, hr, hm => by
    simp only[give] at hg;split at hg
    · rename_i g' hg';by_cases href:∃t o,r=.ref t o
      · obtain⟨t,o,rfl⟩:=href;obtain⟨k,e,ps,rfl,hps,hkb⟩:=qlj hg;obtain⟨dd,ds',e1,⟨g0,cs,T,q1,q2,q3,qty,q4⟩,hr⟩:=hr;obtain⟨i1,i2⟩:=qfz hps;have hlt:j<outs.length:=by
          rcases kI j outs.length with h|h
          · exact h
          · rw[uS h] at e1;cases e1
        rw[uP hlt] at e1;injection e1 with e1 e2;subst e2;have hev:(X.call n j xs).ev c.v=dd:=by
          show((c.v.S n (X.evs c.v xs)).getD []).getD j .u=dd
          rw[ho];simp[gnG,gnK hlt,e1]
        obtain⟨qs,hq1,hq2,hq3⟩:∃qs:List (Nat×Nat×Nat),(if o.lost then[] else ps.map fun y=>(y.1,y.2.2))=qs.map (fun y=>(y.1,y.2.2))∧z7e o i t=qs.map (fun y=>(y.1,y.2.1))∧∀y∈qs,y∈ps:=by
          unfold z7e;by_cases hl:o.lost=true
          · exact⟨[],by rw[if_pos hl];rfl,by rw[if_pos hl];rfl,fun y hy=>by cases hy⟩
          · exact⟨ps,by rw[if_neg hl],by rw[if_neg hl];exact i1.symm,fun y hy=>hy⟩
        have hsv:q5k n xs dep ((k,i,t,qs.map fun y=>(y.1,y.2.2))::g'.vars) j m=q5k n xs dep g'.vars (j+1) (q0a m k ⟨.call n j xs,t,qs.map fun y=>(y.1,y.2.2),z8c t (qpx t (qs.map fun y=>(y.1,y.2.2))) dep⟩):=by
          rw[q5k,if_neg (by rw[hkb];decide)]
        show ∀k' e',lkA (q5k n xs dep ((k,i,t,if o.lost then[] else ps.map fun y=>(y.1,y.2.2))::g'.vars) j m) k'=some e'→_
        rw[hq1,hsv];refine qq4 (all:=l) (g:=g') h hn ho hg' (fun y hy=>hp y (uA _ (uE _ hy))) hr fun k' e' he'=>?_;by_cases hkk:k=k'
        · subst hkk;rw[q1o] at he';injection he' with he';subst he';refine⟨g0,cs,T,(qt8 h.n2 (h.sub _ (hp _ uC))).trans q2,q3,qty,?_⟩
          show Con c.A _ w' ((X.call n j xs).ev c.v) t _ _ _
          rw[hev];rw[hq2] at q4;have:=q4.relabel (h.rel (ps:=qs) fun y hy=>h.sub _ (hp _ (uA _ (uH _ (uI.2 ⟨y,hq3 y hy,rfl⟩)))));exact qxm (k:=i) (fun hne=>z4a hne) this
        · rw[q4a hkk] at he';exact hm k' e' he'
      by_cases hmref:∃t,r=.mref t
      · obtain⟨t,rfl⟩:=hmref;obtain⟨xx,pin,rfl,-⟩:=qi2 hg;obtain⟨dd,ds',e1,-,hr⟩:=hr;have hlt:j<outs.length:=by
          rcases kI j outs.length with h|h
          · exact h
          · rw[uS h] at e1;cases e1
        rw[uP hlt] at e1;injection e1 with e1 e2;subst e2;have hsv:q5k n xs dep ((MB+pin,i,t,[(0,pin)])::g'.vars) j m=q5k n xs dep g'.vars (j+1) m:=by
          rw[q5k,if_pos (qqi pin).1]
        show ∀k' e',lkA (q5k n xs dep ((MB+pin,i,t,[(0,pin)])::g'.vars) j m) k'=some e'→_
        rw[hsv];exact qq4 (all:=l) (g:=g') h hn ho hg' (fun y hy=>hp y (uA _ hy)) hr hm
      · have hne:∀t o,r≠.ref t o:=fun t o e=>href ⟨t,o,e⟩;have hne2:∀t,r≠.mref t:=fun t e=>hmref ⟨t,e⟩;obtain⟨s1,s2⟩:=qfm hne hne2 hg;rw[s1];exact qq4 (all:=l) (g:=g') h hn ho hg' (fun y hy=>hp y (s2 y hy)) (qb6.other hne hne2 hr) hm
    · cases hg
  |[],_::_,j,g,m,hg,_,_,_=>by simp[give] at hg
  |(_,_)::_,[],j,g,m,hg,_,_,_=>by simp[give] at hg
theorem qq5{p2:z6}{w2:World}{f:AV→Option AV}{o:List (Nat×AV)}(h:∀s x y,lkA o s=some x→f x=some y→∃v,a.tmps[s]? =some v∧y.pd c p2 w2 v):
  ∀{l acc:List (Nat×AV)},(∀s y,lkA acc s=some y→∃v,a.tmps[s]? =some v∧y.pd c p2 w2 v)→∀s y,lkA (z6x f o l acc) s=some y→∃v,a.tmps[s]? =some v∧y.pd c p2 w2 v
 |[],acc,ha=>ha
 | e :: l, acc, ha => by
  unfold z6x;split
  ·rename_i y hy;obtain⟨x,hx,hxy⟩:=uL.1 hy;intro s z hz;by_cases hs:e.1=s
   ·subst hs;rw[q1o] at hz;injection hz with hz;subst hz;exact h _ x _ hx hxy
   ·rw[q4a hs] at hz;exact qq5 h ha s z hz
  ·exact qq5 h ha
theorem qyx{dep:List Nat}{pass ren:List (Nat×Nat)}(h:Cl c w0 S0 p w dep pass ren p' w')(hn:q1s (pass.map (·.1))=true){n:Nat}{xs:List X}{outs:List D}(ho:(c.v.S n (X.evs c.v xs))=some outs){V:List AV}{VV:List Value}(hf:SF c σ p w a){args:List Operand}(hVV:∀(i:Nat)(s:Nat),args[i]? =some (Operand.tmp s)→VV[i]? =some (a.tmps.getD s undef)):
    ∀{all:List (Nat×Ar)}{avs:List AV}{j:Nat}{g:Gv}{acc:List (Nat×AV)},give σ V all avs=some g→(∀y∈g.pass,y∈pass)→qb6 VV (fun b=>FFD c.A p dep b∨pinned (q43 pass p) b∨w.heap.size≤b) (q43 pass p) p' w' all (outs.drop j)→
      (∀s y,lkA acc s=some y→∃v,a.tmps[s]? =some v∧y.pd c (q52 ren p p') w' v)→∀s y,lkA (z09 n xs args σ.t g.vars j acc) s=some y→∃v,a.tmps[s]? =some v∧y.pd c (q52 ren p p') w' v
  | [], [], j, g, acc, hg, _, _, hm => by
    simp only[give,uG] at hg;subst hg;exact hm
  | (i, r) :: l, x :: avs, j, g, acc, hg, hp, hr, hm => by
    simp only[give] at hg;split at hg
    · rename_i g' hg';have step:∀{dd:D}{ds':List D},outs.drop j=dd::ds'→j<outs.length∧ds'=outs.drop (j+1)∧(X.call n j xs).ev c.v=dd:=fun{dd ds'}e1=>by
        have hlt:j<outs.length:=by
          rcases kI j outs.length with h|h
          · exact h
          · rw[uS h] at e1;cases e1
        rw[uP hlt] at e1;injection e1 with e1 e2;refine⟨hlt,e2.symm,?_⟩
        show((c.v.S n (X.evs c.v xs)).getD []).getD j .u=dd
        rw[ho];simp[gnG,gnK hlt,e1]
      by_cases href:∃t o,r=.ref t o
      · obtain⟨t,o,rfl⟩:=href;obtain⟨k,e,ps,rfl,hps,hkb⟩:=qlj hg;obtain⟨dd,ds',e1,-,hr⟩:=hr;obtain⟨-,rfl,-⟩:=step e1
        show ∀s y,lkA (z09 n xs args σ.t ((k,i,t,ps.map fun y=>(y.1,y.2.2))::g'.vars) j acc) s=some y→_
        rw[z09,if_neg (by rw[hkb];decide)];exact qyx (all:=l) (g:=g') h hn ho hf hVV hg' (fun y hy=>hp y (uA _ (uE _ hy))) hr hm
      by_cases hmref:∃t,r=.mref t
      · obtain ⟨t, rfl⟩ := hmref;obtain⟨xx,pin,rfl,hmp⟩:=qi2 hg;obtain⟨dd,ds',e1,hq0,hr⟩:=hr;obtain⟨-,rfl,hev⟩:=step e1;have hin:(i * 16+1,pin)∈pass:=hp _ uC;have hcof:∀{cs:List Value},Con (fun b=>FFD c.A p dep b∨pinned (q43 pass p) b∨w.heap.size≤b) p' w' dd t [(0,i * 16+1)] [] cs→Con c.A (q52 ren p p') w' ((X.call n j xs).ev c.v) t [(0,pin)] [] cs:=fun{cs}q3=>by
          rw[hev];have:=q3.relabel (h.rel (ps:=[(0,i * 16+1,pin)]) fun y hy=>by
            obtain rfl:y=(0,i * 16+1,pin):=by simpa using hy
            exact h.sub _ hin)
          obtain⟨hfo,hoa⟩:=qq8 hmp;exact Con.flat1 (k:=i) (fun j' hj'=>by
            rw[hoa] at hj';by_cases h0:0=j'
            · subst h0
              show lkA [(0,pin)] 0≠none
              rw[qb];simp
            · rw[qf h0] at hj';exact absurd rfl hj') this hfo
        have hbk:∀{x y:AV}{v:Value},(∀{x:X}{dd:List Nat},(AV.v x t [(0,pin)] dd).pd c p w v→(AV.v (.call n j xs) t [(0,pin)] []).pd c (q52 ren p p') w' v)→zbf n j xs pin t x=some y→x.pd c p w v→y.pd c (q52 ren p p') w' v:=fun{x y v}one hxy h2=>by
          unfold zbf at hxy;split at hxy
          · split at hxy
            · rename_i hok;simp only[gnB] at hok;obtain⟨k1,k2⟩:=hok;obtain rfl:=gnN k1;rw[Ty.beq_iff] at k2;subst k2;injection hxy with hxy;subst hxy;exact one h2
            · cases hxy
          · split at hxy
            · rename_i hok;simp only[gnB] at hok;obtain⟨k1,k2⟩:=hok;obtain rfl:=gnN k1;rw[Ty.beq_iff] at k2;subst k2;injection hxy with hxy;subst hxy;exact⟨h2.1,one h2.2⟩
            · cases hxy
          · cases hxy
        show ∀s y,lkA (z09 n xs args σ.t ((MB+pin,i,t,[(0,pin)])::g'.vars) j acc) s=some y→_
        rw[z09,if_pos (qqi pin).1,show MB+pin - MB=pin by omega];refine qyx (all:=l) (g:=g') h hn ho hf hVV hg' (fun y hy=>hp y (uA _ hy)) hr ?_;rcases hq0 with⟨g0,q1,q2,q3⟩|⟨hrw,v0,cs0,hv0,hpk0,q3⟩
        · have hkv:∃K V,t=.map K V:=by
            cases t with
            |map K V=>exact⟨K,V,rfl⟩
            | row E =>
              have q3':Fl _ p' w' [] (lkA [(0,i * 16+1)] 0) dd (.row E) [.map (some g0)]:=q3;rw[qb] at q3';rcases q3' with⟨E',te,l',u,e0,-,-,e1,hu⟩|⟨K1,V1,kt,vt,l',g1,es,clock,e0,-⟩
              · injection e1 with e1;subst e1;rcases hu with⟨e2,-⟩|⟨g1,cap,cur,e2,-⟩<;>cases e2
              · cases e0
            |_=>cases hmp
          obtain⟨K,V',rfl⟩:=hkv;rw[if_neg (show ¬qpi (.map K V')=true from fun h=>by cases h)];rw[qd3 hn hin] at q1;have hcon:=hcof q3;have one:∀{v:Value}{x:X}{dd:List Nat},(AV.v x (.map K V') [(0,pin)] dd).pd c p w v→(AV.v (.call n j xs) (.map K V') [(0,pin)] []).pd c (q52 ren p p') w' v:=fun{v x dd}hx=>by
            obtain⟨cs,hpk,hc⟩:=hx;have hc:Fl c.A p w dd (lkA [(0,pin)] 0) (x.ev c.v) (.map K V') cs:=hc;rw[qb] at hc;rcases hc with⟨E,te,l,u,e0,-⟩|⟨K1,V1,kt,vt,l,g1,es,clock,e0,-,-,-,rfl,hg1,-⟩
            · cases e0
            · rw[q1] at hg1;injection hg1 with hg1;subst hg1;exact⟨_,hpk,hcon⟩
          refine qq5 (fun s x y hx hxy=>?_) hm;obtain⟨v,h1,h2⟩:=hf.t s x hx;exact⟨v,h1,hbk one hxy h2⟩
        · rw[if_pos hrw];have hoa:=(qq8 hmp).2 i;rw[hoa] at q3;have hcon:=hcof q3;unfold zk0;split
          · rename_i s0 hs0;have hv0':∀v,a.tmps[s0]? =some v→v0=v:=fun v h1=>by
              have e:=hVV i s0 hs0;rw[hv0] at e;injection e with e;rw[e,Array.getD_eq_getD_getElem?,h1];rfl
            split
            · rename_i q y0 hx0;obtain⟨u,g1,g2⟩:=hf.t s0 _ hx0;have hu:=hv0' u g1;refine qq5 (fun s x y hx hxy=>?_) hm;unfold ziw at hxy;split at hxy
              · split at hxy
                · rename_i hq;obtain rfl:=gnN hq;obtain⟨v,h1,h2⟩:=hf.t s _ hx;obtain rfl:v0=v:=hu.trans (g2.1.trans h2.1.symm);exact⟨v0,h1,hbk (fun _=>⟨cs0,hpk0,hcon⟩) hxy h2⟩
                · cases hxy
              · cases hxy
            · rename_i x _ hx;split
              · rename_i y hxy;intro s z hz;by_cases hs:s0=s
                · subst hs;rw[q1o] at hz;injection hz with hz;subst hz;obtain⟨v,h1,h2⟩:=hf.t s0 x hx;obtain rfl:=hv0' v h1;exact⟨v0,h1,hbk (fun _=>⟨cs0,hpk0,hcon⟩) hxy h2⟩
                · rw[q4a hs] at hz;exact hm s z hz
              · exact hm
            · exact hm
          · exact hm
      · have hne:∀t o,r≠.ref t o:=fun t o e=>href ⟨t,o,e⟩;have hne2:∀t,r≠.mref t:=fun t e=>hmref ⟨t,e⟩;obtain⟨s1,s2⟩:=qfm hne hne2 hg;rw[s1];exact qyx (all:=l) (g:=g') h hn ho hf hVV hg' (fun y hy=>hp y (s2 y hy)) (qb6.other hne hne2 hr) hm
    · cases hg
  |[],_::_,j,g,acc,hg,_,_,_=>by simp[give] at hg
  |(_,_)::_,[],j,g,acc,hg,_,_,_=>by simp[give] at hg
theorem qfr{VV:List Value}{A0:Nat→Prop}{pass:List (Nat×Nat)}(hn:q1s (pass.map (·.1))=true){V:List AV}:
    ∀{all:List (Nat×Ar)}{avs:List AV}{g:Gv}{ds:List D},give σ V all avs=some g→(∀y∈g.pass,y∈pass)→qb6 VV A0 (q43 pass p) p' w' all ds→∀k i' t own,(k,i',t,own)∈g.vars→(kO MB k&&qpi t)=false→(qhw k i',qic k)∈pass∧p' (qhw k i')=p (qic k)
  | [], [], g, ds, hg, _, _ => by
    simp only[give,uG] at hg;subst hg;intro k i' t own hm _;cases hm
  | (i, r) :: l, x :: avs, g, ds, hg, hp, hr => by
    simp only[give] at hg;split at hg
    · rename_i g' hg';by_cases href:∃t o,r=.ref t o
      · obtain⟨t,o,rfl⟩:=href;obtain⟨k,e,ps,rfl,hps,hkb⟩:=qlj hg;obtain⟨dd,ds',e1,⟨g0,cs,T,q1,q2,q3,qty,q4⟩,hr⟩:=hr;intro k' i' t2 own hm hst;rcases uN.1 hm with hm|hm
        · injection hm with m1 m2;injection m2 with m2 m3;subst m1 m2;have hin:(i' * 16,k' * 16)∈pass:=hp _ uC;have hpn:qic k'=k' * 16:=by unfold qic;rw[if_neg (by rw[hkb];decide)]
          have hpc:qhw k' i'=i' * 16:=by unfold qhw;rw[if_neg (by rw[hkb];decide)]
          rw[hpn,hpc];refine⟨hin,?_⟩;rw[qd3 hn hin] at q1;rw[q1,q2]
        · exact qfr (all:=l) (g:=g') hn hg' (fun y hy=>hp y (uA _ (uE _ hy))) hr k' i' t2 own hm hst
      by_cases hmref:∃t,r=.mref t
      · obtain⟨t,rfl⟩:=hmref;obtain⟨xx,pin,rfl,-⟩:=qi2 hg;obtain⟨dd,ds',e1,hq0,hr⟩:=hr;intro k' i' t2 own hm hst;rcases uN.1 hm with hm|hm
        · injection hm with m1 m2;injection m2 with m2 m3;injection m3 with m3 m4;subst m1 m2 m3;rw[(qqi pin).1,vI] at hst;obtain⟨g0,q1,q2,-⟩:=hq0.resolve_right fun h=>by rw[h.1] at hst;cases hst
          have hin:(i' * 16+1,pin)∈pass:=hp _ uC;have hpc:qhw (MB+pin) i'=i' * 16+1:=by unfold qhw;rw[if_pos (qqi pin).1]
          rw[(qqi pin).2,hpc];refine⟨hin,?_⟩;rw[qd3 hn hin] at q1;rw[q1,q2]
        · exact qfr (all:=l) (g:=g') hn hg' (fun y hy=>hp y (uA _ hy)) hr k' i' t2 own hm hst
      · have hne:∀t o,r≠.ref t o:=fun t o e=>href ⟨t,o,e⟩;have hne2:∀t,r≠.mref t:=fun t e=>hmref ⟨t,e⟩;obtain⟨s1,s2⟩:=qfm hne hne2 hg;rw[s1];exact qfr (all:=l) (g:=g') hn hg' (fun y hy=>hp y (s2 y hy)) (qb6.other hne hne2 hr)
    · cases hg
  |[],_::_,g,ds,hg,_,_=>by simp[give] at hg
  |(_,_)::_,[],g,ds,hg,_,_=>by simp[give] at hg
theorem zax{avs V:List AV}{ct:Ct}(h:z06 σ avs ct=some V):qwc σ avs (ct.vr.map (·.1))=some V∧avs.length=ct.ar.length:=by
 unfold z06 at h;split at h
 ·rename_i V' hV;split at h
  ·rename_i hok;injection h with h;subst h;simp only[gnB] at hok;exact⟨hV,gnN hok.1⟩
  ·cases h
 ·cases h
theorem qwq{f:FuncId}{avs V:List AV}:∀{tbl:Tbl}{n m:Nat}{ct:Ct},qkz σ f avs tbl n=some (m,ct,V)→∃i,m=n+i∧∃g,tbl[i]? =some (ct,g)∧ct.f=f∧z06 σ avs ct=some V
 |[],n,m,ct,h=>by cases h
 | e :: l, n, m, ct, h => by
  unfold qkz at h;have go:∀{n m:Nat}{ct:Ct},qkz σ f avs l (n+1)=some (m,ct,V)→∃i,m=n+i∧∃g,(e::l)[i]? =some (ct,g)∧ct.f=f∧z06 σ avs ct=some V:=fun h=>by
   obtain⟨i,h1,g,h2,h3⟩:=qwq h;exact⟨i+1,by omega,g,by simpa using h2,h3⟩
  split at h
  ·rename_i hok;split at h
   ·rename_i V' hV;injection h with h;injection h with h1 h2;injection h2 with h2 h3;subst h1 h2 h3;exact⟨0,rfl,e.2,rfl,gnN hok,hV⟩
   ·exact go h
  ·exact go h
theorem z5j{l:List AV}{vs:List Value}(h:pds c p w l vs):l.length=vs.length:=by
 induction l generalizing vs with
 |nil=>rw[h];rfl
 |cons a l ih=>
  obtain⟨v,r,rfl,-,hl⟩:=h;simp[ih hl]
theorem zdl{l m:List AV}:∀{vs us:List Value},pds c p w l vs→pds c p w m us→pds c p w (l++m) (vs++us):=by
 induction l with
 |nil=>intro vs us h1 h2;cases h1;exact h2
 |cons a l ih=>
  rintro vs us⟨v,r,rfl,h1,h2⟩h3;exact⟨v,r++us,rfl,h1,ih h2 h3⟩
theorem z79(hf:SF c σ p w a)(hc:hold c.v cs=true){y:Operand}{args:List Operand}{f:FuncId}{avs:List AV}(h:z33 σ cs y args=some (f,avs)):
  ∃caps,a.eval y=.func (.func f) #[] caps.toArray∧pds c p w avs (args.map a.eval++caps):=by
 unfold z33 at h;split at h
 ·rename_i f' l r hy hr;simp only[gnS] at h;obtain⟨rfl,rfl⟩:=h;obtain⟨vs,e,hl⟩:=z4 hf hc hy;exact⟨vs,e,zdl (qpw hf hc hr) hl⟩
 ·rename_i x own dep r hy hr;split at h
  ·rename_i n hx;split at h
   ·rename_i hn;simp only[gnS] at h;obtain⟨rfl,rfl⟩:=h;obtain⟨cs,hp,hcon⟩:=z4 hf hc hy;have h1:=Con.rd (dep':=dep++own.map (·.2)) hcon (fun x hx=>uH _ hx) (fun x hx=>uE _ hx);rw[z4f hx] at h1;have hp:cs=[a.eval y]:=hp;rcases h1 with⟨k,e,-⟩|⟨-,e⟩
    ·cases e
    ·have e2:a.eval y=fnV n:=by
      rw[hp] at e;injection e
     refine⟨[],?_,?_⟩
     ·rw[e2,fnV,if_neg (by have:=of_decide_eq_true hn;omega)]
     ·rw[List.append_nil];exact qpw hf hc hr
   ·cases h
  ·cases h
 ·cases h
theorem z4y{tbl:Tbl}(hS:HS c tbl){xs:List X}{t:Ty}:∀{fl:List (Nat×Nat×Ty)}{x:X},zdg tbl xs fl t=some x→x.says c.v→∃k j,(k,j,t)∈fl∧(k=999∨c.F.mx t≤((((X.evs c.v xs).getD k .u).fld j).rs.length))
  |[],x,h,_=>by cases h
  | (k, j, t') :: l, x, h, hx => by
    unfold zdg at h;split at h
    · rename_i ht;rw[Ty.beq_iff] at ht;subst ht;split at h
      · rename_i hk;exact⟨k,j,uC,.inl (gnN hk)⟩
      split at h
      · rename_i y b hy hb;injection h with h;subst h;refine⟨k,j,uC,.inr ?_⟩;have h1:=q0h hx;rw[q4u] at h1;obtain⟨n,hn,rfl⟩:=uM.1 hb;have h2:=hS.f t';unfold flM at h2;rw[hn] at h2;have h3:(X.call n 0 []).ev c.v=((ym tbl n []).getD []).getD 0 .u:=by
          show((c.v.S n []).getD []).getD 0 .u=_
          rw[hS.s]
        rw[h3] at h1;have h4:((X.fld y j).ev c.v)=(((X.evs c.v xs).getD k .u).fld j):=by
          have:(X.evs c.v xs).getD k .u=y.ev c.v:=by
            rw[gnG,z4u hy];rfl
          rw[this];rfl
        rw[h4] at h1;have h5:(((ym tbl n []).getD []).getD 0 .u).int≤((((X.evs c.v xs).getD k .u).fld j).rs.length:Int):=h1;simp only at h2;omega
      · cases h
    · obtain⟨k',j',h1,h2⟩:=z4y hS h hx;exact⟨k',j',uA _ h1,h2⟩
theorem z4x{tbl:Tbl}(hS:HS c tbl){xs:List X}{fl:List (Nat×Nat×Ty)}:∀{l:List Ty}{r:List X},zee tbl xs fl l=some r→(∀n∈r,n.says c.v)→∀t∈l,∃k j,(k,j,t)∈fl∧(k=999∨c.F.mx t≤((((X.evs c.v xs).getD k .u).fld j).rs.length))
 |[],r,h,_,t,ht=>by cases ht
 | t :: l, r, h, hr, u, hu => by
  unfold zee at h;split at h
  ·rename_i x r' h1 h2;injection h with h;subst h;rcases uN.1 hu with rfl|hu
   ·exact z4y hS h1 (hr _ uC)
   ·exact z4x hS h2 (fun n hn=>hr n (uA _ hn)) u hu
  ·cases h
theorem zgp{tbl:Tbl}(hS:HS c tbl){ct:Ct}{xs:List X}{pass:List (Nat×Nat)}{fs:List X}(h:flC tbl ct xs pass=some fs)(hn:∀n∈fs,n.says c.v)(hw:Flo c.F w0 w):∃F0,qij ct F0 (X.evs c.v xs)∧Flo F0 w w∧(∀b,c.F.fr b→F0.fr b)∧∀{A':Nat→Prop}{p':z6}{w':World},Bs A' F0 w (pinned (q43 pass p)) p' w'→Flo c.F w0 w':=by
 unfold flC at h;split at h
 ·rename_i h0;have hz:∀te,c.F.mx te=0:=fun te=>hS.zero (by rw[h0];simp);exact⟨c.F,qij.of0 hz,hw.anew,fun _ h=>h,fun{A' p' w'}_=>Flo.of0 hz hw⟩
 ·split at h
  ·rename_i hp;have hp:pass=[]:=by simpa using hp
   subst hp;refine⟨.no,qij.of0 fun _=>rfl,Flo.no,fun _ _=>trivial,fun{A' p' w'}hb=>hw.same fun k hk _=>hb.but.block k hk ?_⟩;rintro⟨q,hq⟩;cases hq
  ·refine⟨c.F,fun te=>?_,hw.anew,fun _ h=>h,fun{A' p' w'}hb=>hw.trans hb.flo⟩;by_cases ht:te∈z1t tbl
   ·exact .inr (z4x hS h hn te ht)
   ·exact .inl (hS.zero ht)
theorem z7t{tbl:Tbl}(htb:q35 tbl)(hS:HS c tbl)(hb:Bs c.A c.F w0 S0 p w)(hf:SF c σ p w a)(hc:hold c.v cs=true)(hd:a.defers=d)(hz:a.tmps.size=z){k:Nat}(hk:k<z){y:Operand}{args:List Operand}
  {ns:List X}(h:qs8 tbl σ cs k y args=some (ns,σ'))(hn:∀n∈ns,n.says c.v):∃(e:Ct×(List D→Option (List D)))(A0:Nat→Prop)(F0:Flr)(p0:z6)(caps us:List Value)(ds outs:List D),e∈tbl∧a.eval y=.func (.func e.1.f) #[] caps.toArray∧e.2 ds=some outs∧qij e.1 F0 ds∧Flo F0 w w∧Pre e.1.ar.length A0 F0 p0 w∧(args.map a.eval++caps).length=e.1.ar.length∧j7 (args.map a.eval++caps++us) A0 p0 w e.1.all (args.map a.eval++caps++us) ds∧
  (∀w',But (pinned p0) w w'→But S0 w0 w')∧∀rs p' w',Bs A0 F0 w (pinned p0) p' w'→qov A0 p' w' e.1.rs e.1.ar.length rs (outs.take e.1.rs.length)→qb6 (args.map a.eval++caps++us) A0 p0 p' w' e.1.all (outs.drop e.1.rs.length)→Kpt e.1.kp p0 p' w w'→q09 c w0 S0 d z σ' (a.put (some k) (qt9 rs)) w':=by
 unfold qs8 at h;simp only at h;split at h
 ·rename_i f avs hfa;split at h
  ·rename_i n ct V hct;split at h
   ·rename_i g hg;split at h
    ·rename_i hok;simp only[gnB] at hok;obtain⟨n1,n2,n3,n4,n5⟩:=hok;obtain⟨fs,hfs,h⟩:=uM.1 h;simp only[uR] at h;obtain⟨rfl,rfl⟩:=h;have hb1:=hb.un (zh k);have hf1:=SF.un (q:=zh k) hb.inj hb.pa hf;obtain⟨caps,hev,hvs⟩:=z79 hf1 hc hfa;obtain⟨i,hi,gs,hgs,hcf,hfit⟩:=qwq hct;obtain⟨hvirt,hlen⟩:=zax hfit;obtain⟨us,hVV⟩:=z28 hf1 hvirt hvs;obtain rfl:n=i:=by omega
     have hfok:=htb _ (kD hgs);have hsome:∃outs,c.v.S n (X.evs c.v g.xs)=some outs:=by
      have h1:=hn (.ok n g.xs) (by simp);have h2:(c.v.S n (X.evs c.v g.xs)).isSome=true:=h1;exact uU.1 h2
     obtain⟨outs,houts⟩:=hsome;have hgo:gs (X.evs c.v g.xs)=some outs:=by
      have:=houts;rw[hS.s] at this;unfold ym at this;rw[hgs] at this;exact this
     have nd1:q1s (g.pass.map (·.1))=true:=by
      have:∀(l m:List (Nat×Nat)),q1s ((l++m).map (·.1))=true→q1s (l.map (·.1))=true:=by
       intro l m
       induction l with
       |nil=>intro _;rfl
       | cons e l ih =>
        intro h;simp only[kK,uF,q1s,gnB,uO] at h⊢;refine⟨?_,ih h.2⟩;cases hq:yk (l.map (·.1)) e.1 with
        |false=>rfl
        |true=>
         have:yk ((l++m).map (·.1)) e.1=true:=yz.2 (by rw[vE];exact uH _ (yz.1 hq));rw[this] at h;cases h.1
      exact this _ _ n1
     have nd2:q1s (g.pass.map (·.2))=true:=by
      have:∀(l m:List (Nat×Nat)),q1s ((l++m).map (·.2))=true→q1s (l.map (·.2))=true:=by
       intro l m
       induction l with
       |nil=>intro _;rfl
       | cons e l ih =>
        intro h;simp only[kK,uF,q1s,gnB,uO] at h⊢;refine⟨?_,ih h.2⟩;cases hq:yk (l.map (·.2)) e.2 with
        |false=>rfl
        |true=>
         have:yk ((l++m).map (·.2)) e.2=true:=yz.2 (by rw[vE];exact uH _ (yz.1 hq));rw[this] at h;cases h.1
      exact this _ _ n2
     have hdz:∀x∈g.dep,∀q,(q,x)∉g.pass:=fun x hx q hq=>by
      have h1:=uJ.1 n3 x hx;have h2:yk (g.pass.map (·.2)) x=true:=yz.2 (uI.2 ⟨_,hq,rfl⟩);simp only[inL,h2] at h1;cases h1
     have hpk:∀q x,(q,x)∈g.pass→x / 16≠k∧(q / 16<ct.ar.length∨VB≤q / 16):=fun q x hq=>by
      have h1:=uJ.1 n4 _ hq;simp only[gnB,uO,kA] at h1;exact⟨fun e=>by rw[e] at h1;simp at h1,h1.2.imp (fun h=>by simpa[uY] using h) fun h=>kC h⟩
     have hgP:∀q b,q43 g.pass (unP (zh k) p) q=some b→∃pin,(q,pin)∈g.pass∧unP (zh k) p pin=some b:=fun q b hq=>qax hq
     -- the callee
     obtain⟨F0,hF1,hF2,hFr,hF3⟩:=zgp hS hfs (fun n hm=>hn n (uA _ hm)) hb.flo (pass:=g.pass) (p:=unP (zh k) p);have hpre:Pre ct.ar.length (fun b=>FFD c.A (unP (zh k) p) g.dep b∨pinned (q43 g.pass (unP (zh k) p)) b∨w.heap.size≤b) F0 (q43 g.pass (unP (zh k) p)) w:=by
      refine⟨fun x y b hx hy=>?_,fun x b hx=>?_,fun x b hx=>.inr (.inl ⟨x,hx⟩),fun x b hx=>?_,fun b hb'=>⟨.inr (.inr hb'),hFr b (hb.new b (Nat.le_trans hb.but.size hb')).2⟩,fun x b hx=>?_⟩
      ·obtain⟨px,m1,e1⟩:=hgP x b hx;obtain⟨py,m2,e2⟩:=hgP y b hy;obtain rfl:=hb1.inj px py b e1 e2;exact gnI ((qez nd2 m1).symm.trans (qez nd2 m2))
      ·obtain⟨px,m1,e1⟩:=hgP x b hx;exact hb1.bd px b e1
      ·obtain⟨px,m1,e1⟩:=hgP x b hx;exact hb1.obj px b e1
      ·obtain⟨px,m1,e1⟩:=hgP x b hx;exact(hpk x px m1).2
     have hargs:=z50 hf1 hVV (A0:=fun b=>FFD c.A (unP (zh k) p) g.dep b∨pinned (q43 g.pass (unP (zh k) p)) b∨w.heap.size≤b) (p0:=q43 g.pass (unP (zh k) p)) hg hVV (fun b hlt hb=>by
      refine .inl ⟨.inl hb,fun q hq=>?_⟩;obtain⟨pin,m1,e1⟩:=hgP q b hq;rcases hb with⟨-,hfr⟩|⟨x,hx,e2⟩
      ·exact hfr pin e1
      ·obtain rfl:=hb1.inj x pin b e2 e1;exact hdz x hx q m1) (fun y hy=>qd3 nd1 hy)
     obtain rfl:ct.f=f:=hcf;refine⟨(ct,gs),_,F0,_,caps,us,_,outs,kD hgs,hev,hgo,hF1,hF2,hpre,by rw[←z5j hvs];exact hlen,hargs,fun w' hbut=>hb.but.trans hbut fun b hb2 hlt=>?_,fun rs p' w' hpost hres hrefs hkp=>?_⟩
     ·obtain⟨q,hq⟩:=hb2;obtain⟨pin,m1,e1⟩:=hgP q b hq;exact hb1.pin pin b e1
     have hcl:Cl c w0 S0 (unP (zh k) p) w g.dep g.pass (g.pass++qg4 ct.ar.length k ct.rs) p' w':=
      ⟨hb1,n1,n2,fun y hy=>uH _ hy,fun q x hq hnp=>by
       rcases vD.1 hq with h|h
       ·exact absurd h hnp
       ·have h1:=uJ.1 n5 _ h;have h2:=gnN h1;unfold unP;rw[if_pos (by unfold zh;rw[h2];simp)],hdz,hpost.no,hF3 hpost⟩
     have hsame:=qfr nd1 hg (fun y hy=>hy) hrefs;have hlost:∀x q,(q,x)∈g.pass→¬q∈ct.kp→x∈qe5 ct g.pass:=fun x q hq hn=>uI.2 ⟨(q,x),uZ.2 ⟨hq,by
      cases hh:yk ct.kp q with
      |true=>exact absurd (yz.1 hh) hn
      |false=>rfl⟩,rfl⟩
     have hstab:=hcl.stab (Z:=inL (qe5 ct g.pass)) (L:=inL ((qe5 ct g.pass).filter fun x=> !yk (qu7 g.vars) x)) (fun x b hx hxb=>by
      by_cases hq:∃q,(q,x)∈g.pass
      ·obtain⟨q,hq⟩:=hq;by_cases hk:q∈ct.kp
       ·exact .inr (hkp q hk b ((qd3 nd1 hq).trans hxb)).2
       ·have:yk (qe5 ct g.pass) x=true:=yz.2 (hlost x q hq hk);simp only[inL,this] at hx;cases hx
      ·exact .inl fun q h=>hq ⟨q,h⟩) (fun x b hl hx q hq=>by
      by_cases hk:q∈ct.kp
      ·exact(hkp q hk b ((qd3 nd1 hq).trans hx)).1
      have hin:x∈qe5 ct g.pass:=hlost x q hq hk;have hv:yk (qu7 g.vars) x=true:=by
       cases hv:yk (qu7 g.vars) x with
       |true=>rfl
       |false=>
        have:yk ((qe5 ct g.pass).filter fun x=> !yk (qu7 g.vars) x) x=true:=yz.2 (uZ.2 ⟨hin,by rw[hv];rfl⟩);simp only[inL,this] at hl;cases hl
      obtain⟨⟨k',i',t',own'⟩,hm,e1⟩:=uI.1 (yz.1 hv);simp only at e1;subst e1;obtain⟨hm,hst⟩:=uZ.1 hm;obtain⟨h1,h2⟩:=hsame k' i' t' own' hm ((uO _).mp hst);obtain rfl:q=qhw k' i':=gnI ((qez nd2 hq).symm.trans (qez nd2 h1));rw[h2];exact hx)
     have hkeep:=hf1.keep hstab;have hVVa:∀(i:Nat)(s:Nat),args[i]? =some (Operand.tmp s)→(args.map a.eval++caps++us)[i]? =some (a.tmps.getD s undef):=fun i s hi=>by
      have hil:=(gnH.1 hi).1;rw[List.append_assoc,List.getElem?_append_left (by simpa using hil),kY,hi];rfl
     refine⟨_,hcl.bs,?_,hd,by simp only[Act.put,uK];exact hz⟩;have hvars:=qq4 hcl nd1 houts (j:=ct.rs.length) hg (fun y hy=>hy) hrefs hkeep.m;have hbak:=qyx hcl nd1 houts hf1 (args:=args) hVVa (j:=ct.rs.length) hg (fun y hy=>hy) hrefs hkeep.t;have hsf:SF c ⟨z09 n g.xs args (σ.un (zh k)).t g.vars ct.rs.length (q9i (inL (qe5 ct g.pass)) (inL ((qe5 ct g.pass).filter fun x=> !yk (qu7 g.vars) x)) (σ.un (zh k)).t),q5k n g.xs g.dep g.vars ct.rs.length (qbp (inL (qe5 ct g.pass)) (inL ((qe5 ct g.pass).filter fun x=> !yk (qu7 g.vars) x)) (σ.un (zh k)).m)⟩ (q52 (g.pass++qg4 ct.ar.length k ct.rs) (unP (zh k) p) p') w' a:=⟨hbak,hvars⟩;refine hsf.put (by rw[hz];exact hk) ?_;have hresv:=z9j hcl houts (k:=k) (j:=0) (fun y hy=>uE _ hy) (by simpa using hres);have hlen:=z5j hresv;cases hl:z4q n g.xs g.dep k ct.rs 0 with
     |nil=>
      rw[hl] at hresv;have:rs=[]:=hresv;subst this;exact⟨[],rfl,rfl⟩
     | cons x l =>
      rw[hl] at hresv;cases l with
      |nil=>
       obtain⟨v,r,rfl,hx,hr0⟩:=hresv;have:r=[]:=hr0;subst this;exact hx
      |cons y l=>
       obtain⟨v,r,rfl,hx,v2,r2,rfl,hy,hr0⟩:=hresv;exact⟨v::v2::r2,rfl,v,_,rfl,hx,v2,r2,rfl,hy,hr0⟩
    ·cases h
   ·cases h
  ·cases h
 ·cases h
theorem qzg{tbl:Tbl}(htb:q35 tbl)(hS:HS c tbl)(hb:Bs c.A c.F w0 S0 p w)(hf:SF c σ p w a)(hc:hold c.v cs=true)(hd:a.defers=d)(hz:a.tmps.size=z){k:Nat}(hk:k<z)(hdst:o.dst=some k){y:Operand}{args:Array Operand}{tys:Array TypeId}(heq:o.op=.call {callee:=.value y,args:=args,argTypes:=tys})
  {ns:List X}(h:qs8 tbl σ cs k y args.toList=some (ns,σ'))(hn:∀n∈ns,n.says c.v){Q:Exit→Act→World→Prop}(hQ:qjw tbl w0 S0 d Q):o.wp uB a w (q09 c w0 S0 d z σ') Q:=by
 obtain⟨⟨ct,gs⟩,A0,F0,p0,caps,us,ds,outs,hmem,hev,hgo,hfl,hfo,hpre,hlen,hargs,hbw,hafter⟩:=z7t htb hS hb hf hc hd hz hk h hn;have hfok:=htb _ hmem;have hcalls:=hfok.callK _ F0 _ w _ _ _ outs hgo hfl hfo hpre hlen hargs;have hrun:(execOp a.eval o).run uB w=.ok (.enter ct.f (args.toList.map a.eval++caps).toArray) w:=by
  have hen:=hfok.enter (args.toList.map a.eval++caps).toArray w;have hmap:args.map a.eval++caps.toArray=(args.toList.map a.eval++caps).toArray:=by apply kN;simp
  rw[←hmap] at hen⊢;generalize a.eval=r at *;simp[execOp,heq,resolve,Deferred.ofValue,hev,invoke,hen]
 unfold Oper.wp;rw[hrun]
 show Calls uB ct.f _ w _
 refine Calls.mono hcalls ?_;rintro e w'(⟨T,hT,ho2,rfl,hbut⟩|⟨rs,p',rfl,hpost,hres,hrefs,hkp⟩)
 ·exact hQ _ hmem T hT ⟨_,hgo.trans (by rw[ho2])⟩ a w' hd (hbw w' hbut)
 show q09 c w0 S0 d z _ (a.put o.dst (qt9 rs)) w'
 rw[hdst];exact hafter rs p' w' hpost hres hrefs hkp
end
end
section
def qeo:List (Nat×Nat)→List (Nat×Nat)→Bool
 |[],[]=>true
 |a::l,b::m=>uD a.1 b.1&&(uD a.2 b.2&&qeo l m)
 |_,_=>false
def qcw:List Nat→List Nat→Bool
 |[],[]=>true
 |a::l,b::m=>uD a b&&qcw l m
 |_,_=>false
def qy8:List (X×Bool)→List (X×Bool)→Bool
 |[],[]=>true
 |a::l,b::m=>X.beq a.1 b.1&&((a.2==b.2)&&qy8 l m)
 |_,_=>false
def wrB:Option (Nat×X×List Nat×Nat×Ty)→Option (Nat×X×List Nat×Nat×Ty)→Bool
 |none,none=>true
 |some (a,b,c,d,e),some (a',b',c',d',e')=>uD a a'&&(X.beq b b'&&(qcw c c'&&(uD d d'&&Ty.beq e e')))
 |_,_=>false
theorem q9x:∀{l m:List (Nat×Nat)},qeo l m=true→l=m
  |[],[],_=>rfl
  | (a, b) :: l, (c, d) :: m, h => by
    simp only[qeo,gnB] at h;rw[gnN h.1,gnN h.2.1,q9x h.2.2]
  |[],_::_,h=>by cases h
  |_::_,[],h=>by cases h
theorem q4n:∀{l m:List Nat},qcw l m=true→l=m
 |[],[],_=>rfl
 |a::l,c::m,h=>by
  simp only[qcw,gnB] at h;rw[gnN h.1,q4n h.2]
 |[],_::_,h=>by cases h
 |_::_,[],h=>by cases h
theorem qw0:∀{l m:List (X×Bool)},qy8 l m=true→l=m
  |[],[],_=>rfl
  | (a, b) :: l, (c, d) :: m, h => by
    simp only[qy8,gnB,beq_iff_eq] at h;rw[X.beq_ok _ _ h.1,h.2.1,qw0 h.2.2]
  |[],_::_,h=>by cases h
  |_::_,[],h=>by cases h
theorem zgz{a b:Option (Nat×X×List Nat×Nat×Ty)}(h:wrB a b=true):a=b:=by
 unfold wrB at h;split at h
 ·rfl
 ·simp only[gnB] at h;obtain⟨h1,h2,h3,h4,h5⟩:=h;rw[gnN h1,X.beq_ok _ _ h2,q4n h3,gnN h4,(Ty.beq_iff _ _).1 h5]
 ·cases h
def elB:Option ElI→Option ElI→Bool
 |none,none=>true
 |some a,some b=>uD a.k b.k&&(uD a.j b.j&&(X.beq a.x b.x&&(Ty.beq a.t b.t&&(qeo a.own b.own&&(qcw a.dep b.dep&&X.beq a.y b.y)))))
 |_,_=>false
theorem zh6{a b:Option ElI}(h:elB a b=true):a=b:=by
 unfold elB at h;split at h
 ·rfl
 ·rename_i a b;simp only[gnB] at h;obtain⟨h1,h2,h3,h4,h5,h6,h7⟩:=h;cases a;cases b;simp only at h1 h2 h3 h4 h5 h6 h7;rw[gnN h1,gnN h2,X.beq_ok _ _ h3,(Ty.beq_iff _ _).1 h4,q9x h5,q4n h6,X.beq_ok _ _ h7]
 ·cases h
mutual
def AV.beq:AV→AV→Bool
 |.any,.any=>true
 |.undef,.undef=>true
 |.v x t own dep,.v x' t' own' dep'=>X.beq x x'&&(Ty.beq t t'&&(qeo own own'&&qcw dep dep'))
 |.nilS,.nilS=>true
 |.nb x n,.nb y m=>X.beq x y&&(n==m)
 |.nilP,.nilP=>true
 |.ref k p o t,.ref k' p' o' t'=>uD k k'&&(qcw p p'&&(uD o o'&&Ty.beq t t'))
 |.rd x t dep wr,.rd x' t' dep' wr'=>X.beq x x'&&(Ty.beq t t'&&(qcw dep dep'&&wrB wr wr'))
 |.tup l,.tup l'=>z3j l l'
 |.gd c a,.gd c' a'=>qy8 c c'&&AV.beq a a'
 |.fn f l,.fn f' l'=>uD f f'&&z3j l l'
 |.bx k T a,.bx k' T' a'=>uD k k'&&(uD T T'&&AV.beq a a')
 |.fr T a,.fr T' a'=>uD T T'&&AV.beq a a'
 |.ff f T1 x1 t1 T2 x2 t2 dep,.ff f' T1' x1' t1' T2' x2' t2' dep'=>uD f f'&&(uD T1 T1'&&(X.beq x1 x1'&&(Ty.beq t1 t1'&&(uD T2 T2'&&(X.beq x2 x2'&&(Ty.beq t2 t2'&&qcw dep dep'))))))
 |.sn T a,.sn T' a'=>uD T T'&&AV.beq a a'
 |.wf k j x t own dep a,.wf k' j' x' t' own' dep' a'=>uD k k'&&(uD j j'&&(X.beq x x'&&(Ty.beq t t'&&(qeo own own'&&(qcw dep dep'&&AV.beq a a')))))
 |.el o r i a,.el o' r' i' a'=>elB o o'&&(uD r r'&&(X.beq i i'&&AV.beq a a'))
 |.hd r E x,.hd r' E' x'=>uD r r'&&(uD E E'&&X.beq x x')
 |.pt p i E a,.pt p' i' E' a'=>uD p p'&&(X.beq i i'&&(uD E E'&&AV.beq a a'))
 |.ar E xs dep,.ar E' xs' dep'=>uD E E'&&(X.beqs xs xs'&&qcw dep dep')
 |.lv k t,.lv k' t'=>uD k k'&&Ty.beq t t'
 |.ax k T n a,.ax k' T' n' a'=>uD k k'&&(uD T T'&&(uD n n'&&AV.beq a a'))
 |_,_=>false
def z3j:List AV→List AV→Bool
 |[],[]=>true
 |a::l,b::m=>AV.beq a b&&z3j l m
 |_,_=>false
end
mutual
theorem AV.beq_ok:∀(x y:AV),AV.beq x y=true→x=y
 |.any,y,h=>by cases y<;>first|rfl|(simp[AV.beq] at h)
 |.undef,y,h=>by cases y<;>first|rfl|(simp[AV.beq] at h)
 |.nilS,y,h=>by cases y<;>first|rfl|(simp[AV.beq] at h)
 |.nb x n,y,h=>by
  cases y<;>simp only[AV.beq,gnF,gnB,beq_iff_eq] at h;rw[X.beq_ok _ _ h.1,h.2]
 |.nilP,y,h=>by cases y<;>first|rfl|(simp[AV.beq] at h)
 |.v x t own dep,y,h=>by
  cases y<;>simp only[AV.beq,gnF,gnB] at h;rw[X.beq_ok _ _ h.1,(Ty.beq_iff _ _).1 h.2.1,q9x h.2.2.1,q4n h.2.2.2]
 |.ref k p o t,y,h=>by
  cases y<;>simp only[AV.beq,gnF,gnB] at h;rw[gnN h.1,q4n h.2.1,gnN h.2.2.1,(Ty.beq_iff _ _).1 h.2.2.2]
 |.rd x t dep wr,y,h=>by
  cases y<;>simp only[AV.beq,gnF,gnB] at h;rw[X.beq_ok _ _ h.1,(Ty.beq_iff _ _).1 h.2.1,q4n h.2.2.1,zgz h.2.2.2]
 |.tup l,y,h=>by
  cases y<;>simp only[AV.beq,gnF] at h;rw[qxc l _ h]
 |.gd c a,y,h=>by
  cases y<;>simp only[AV.beq,gnF,gnB] at h;rw[qw0 h.1,AV.beq_ok a _ h.2]
 |.fn f l,y,h=>by
  cases y<;>simp only[AV.beq,gnF,gnB] at h;rw[gnN h.1,qxc l _ h.2]
 |.bx k T a,y,h=>by
  cases y<;>simp only[AV.beq,gnF,gnB] at h;rw[gnN h.1,gnN h.2.1,AV.beq_ok a _ h.2.2]
 |.fr T a,y,h=>by
  cases y<;>simp only[AV.beq,gnF,gnB] at h;rw[gnN h.1,AV.beq_ok a _ h.2]
 |.ff f T1 x1 t1 T2 x2 t2 dep,y,h=>by
  cases y<;>simp only[AV.beq,gnF,gnB] at h;obtain⟨h0,h1,h2,h3,h4,h5,h6,h7⟩:=h;rw[gnN h0,gnN h1,X.beq_ok _ _ h2,(Ty.beq_iff _ _).1 h3,gnN h4,X.beq_ok _ _ h5,(Ty.beq_iff _ _).1 h6,q4n h7]
 |.pt pin i E a,y,h=>by
  cases y<;>simp only[AV.beq,gnF,gnB] at h;rw[gnN h.1,X.beq_ok _ _ h.2.1,gnN h.2.2.1,AV.beq_ok a _ h.2.2.2]
 |.ar E xs dep,y,h=>by
  cases y<;>simp only[AV.beq,gnF,gnB] at h;rw[gnN h.1,X.beqs_ok _ _ h.2.1,q4n h.2.2]
 |.ax k T n a,y,h=>by
  cases y<;>simp only[AV.beq,gnF,gnB] at h;rw[gnN h.1,gnN h.2.1,gnN h.2.2.1,AV.beq_ok a _ h.2.2.2]
 |.el o r i a,y,h=>by
  cases y<;>simp only[AV.beq,gnF,gnB] at h;obtain⟨h1,h2,h3,h4⟩:=h;rw[zh6 h1,gnN h2,X.beq_ok _ _ h3,AV.beq_ok a _ h4]
 |.hd r E x,y,h=>by
  cases y<;>simp only[AV.beq,gnF,gnB] at h;rw[gnN h.1,gnN h.2.1,X.beq_ok _ _ h.2.2]
 |.lv k t,y,h=>by
  cases y<;>simp only[AV.beq,gnF,gnB] at h;rw[gnN h.1,(Ty.beq_iff _ _).1 h.2]
 |.wf k j x t own dep a,y,h=>by
  cases y<;>simp only[AV.beq,gnF,gnB] at h;obtain⟨h1,h2,h3,h4,h5,h6,h7⟩:=h;rw[gnN h1,gnN h2,X.beq_ok _ _ h3,(Ty.beq_iff _ _).1 h4,q9x h5,q4n h6,AV.beq_ok a _ h7]
 |.sn T a,y,h=>by
  cases y<;>simp only[AV.beq,gnF,gnB] at h;rw[gnN h.1,AV.beq_ok a _ h.2]
theorem qxc:∀(l m:List AV),z3j l m=true→l=m
 |[],m,h=>by cases m<;>simp_all [z3j]
 | x :: l, m, h => by
  cases m with
  |nil=>simp[z3j] at h
  |cons y m=>
   simp only[z3j,gnB] at h;rw[AV.beq_ok x _ h.1,qxc l _ h.2]
end
def Ent.beq(e f:Ent):Bool:=X.beq e.x f.x&&(Ty.beq e.t f.t&&(qeo e.own f.own&&qcw e.dep f.dep))
theorem Ent.beq_ok{e f:Ent}(h:Ent.beq e f=true):e=f:=by
 obtain⟨x,t,own,dep⟩:=e;obtain⟨x',t',own',dep'⟩:=f;simp only[Ent.beq,gnB] at h;rw[X.beq_ok _ _ h.1,(Ty.beq_iff _ _).1 h.2.1,q9x h.2.2.1,q4n h.2.2.2]
def z6h(σ:List (Nat×AV)):List (Nat×AV)→Bool
  |[]=>true
  | (t, a) :: l => (match a with
    |.any=>(lkA σ t).isSome
    | _ => match lkA σ t with
      |some b=>AV.beq b a
      |none=>false)&&z6h σ l
def z4z(σ:List (Nat×Ent)):List (Nat×Ent)→Bool
  |[]=>true
  |(t,a)::l=>(match lkA σ t with
      |some b=>Ent.beq b a
      |none=>false)&&z4z σ l
def covers(σ τ:St):Bool:=z6h σ.t τ.t&&z4z σ.m τ.m
section
variable{c:Cx}{p:z6}{w:World}{a:Act}{σ τ:St}
theorem z0x{l m:List (Nat×AV)}(hf:∀t x,lkA l t=some x→∃v,a.tmps[t]? =some v∧x.pd c p w v):∀{m:List (Nat×AV)},z6h l m=true→∀t x,lkA m t=some x→∃v,a.tmps[t]? =some v∧x.pd c p w v
  |[],_,t,x,h=>by cases h
  | (s, y) :: m, hs, t, x, h => by
    simp only[z6h,gnB] at hs;by_cases hst:s=t
    · subst hst;rw[qb] at h;injection h with h;subst h;have h1:=hs.1;cases hl:lkA l s with
      | none =>
        rw[hl] at h1;cases y<;>simp at h1
      | some b =>
        rw[hl] at h1;obtain⟨v,e1,e2⟩:=hf s b hl;cases y with
        |any=>exact⟨v,e1,trivial⟩
        | _ =>
          have:=AV.beq_ok _ _ h1;subst this;exact⟨v,e1,e2⟩
    · rw[qf hst] at h;exact z0x (l:=l) (m:=m) hf hs.2 t x h
theorem qzv{l:List (Nat×Ent)}(hf:∀k e,lkA l k=some e→q4l c p w k e):∀{m:List (Nat×Ent)},z4z l m=true→∀k e,lkA m k=some e→q4l c p w k e
  |[],_,t,x,h=>by cases h
  | (s, y) :: m, hs, t, x, h => by
    simp only[z4z,gnB] at hs;by_cases hst:s=t
    · subst hst;rw[qb] at h;injection h with h;subst h;have h1:=hs.1;cases hl:lkA l s with
      |none=>rw[hl] at h1;cases h1
      | some b =>
        rw[hl] at h1;have:=Ent.beq_ok h1;subst this;exact hf s b hl
    · rw[qf hst] at h;exact qzv hf hs.2 t x h
theorem q9u(h:covers σ τ=true)(hf:SF c σ p w a):SF c τ p w a:=by
 simp only[covers,gnB] at h;exact⟨z0x (m:=τ.t) hf.t h.1,qzv hf.m h.2⟩
end
def qaz:List (X×Bool)→X
 |[]=>.lit (.b true)
 |[(x,true)]=>x
 |[(x,false)]=>.not x
 |(x,b)::l=>.and (if b then x else .not x) (qaz l)
theorem qkg{e:Ev}:∀{l:List (X×Bool)},((qaz l).ev e).tt=hold e l
  |[]=>rfl
  | [(x, true)] => by
    show(x.ev e).tt=((x.ev e).tt==true&&true)
    cases (x.ev e).tt<;>rfl
  | [(x, false)] => by
    show(!(x.ev e).tt)=((x.ev e).tt==false&&true)
    cases (x.ev e).tt<;>rfl
  | (x, b) :: y :: l => by
    have ih:=qkg (e:=e) (l:=y::l);have:qaz ((x,b)::y::l)=.and (if b then x else .not x) (qaz (y::l)):=by cases b<;>rfl
    rw[this]
    show(((if b then x else X.not x).ev e).tt&&((qaz (y::l)).ev e).tt)=((x.ev e).tt==b&&hold e (y::l))
    rw[ih];cases b with
    |true=>simp
    | false =>
      show((!(x.ev e).tt)&&_)=_
      simp
def z02(cs:List (X×Bool))(x:X):X:=match cs with
 |[]=>x
 |_=>.imp (qaz cs) x
theorem z6g{e:Ev}{cs:List (X×Bool)}{x:X}(h:(z02 cs x).says e)(hc:hold e cs=true):x.says e:=by
  unfold z02 at h;split at h
  · exact h
  · have h1:(!((qaz cs).ev e).tt||(x.ev e).tt)=true:=h;rw[qkg,hc] at h1;simpa[X.says] using h1
def isK(k:Option Nat)(t:Nat):Bool:=match k with
 |some k=>uD t k
 |none=>false
theorem zho{k:Option Nat}{t:Nat}(h:isK k t=false):k≠some t:=fun e=>by
 subst e;have:uD t t=false:=h;rw[Nat.beq_refl] at this;cases this
def zj2(a b:AV)(k:Option Nat)(t:Nat):Bool:=AV.beq a b&& !isK k t
def zjl(f e:Ent):Bool:=Ty.beq f.t e.t&&(qeo f.own e.own&&qcw f.dep e.dep)
def qad(cs:List (X×Bool))(k:Option Nat)(σ1:List (Nat×AV)):List (Nat×AV)→List (Nat×AV)
  |[]=>[]
  |(t,a)::l=>(match lkA σ1 t with
      |some b=>if zj2 b a k t then(t,a)::qad cs k σ1 l else(t,.any)::qad cs k σ1 l
      |none=>(qad cs k σ1 l).filter fun y=>y.1 !=t)
def qh6(cs:List (X×Bool))(σ1:List (Nat×Ent)):List (Nat×Ent)→List (Nat×Ent)
  |[]=>[]
  |(t,e)::l=>match lkA σ1 t with
      |some f=>if zjl f e then(t,⟨if X.beq f.x e.x then e.x else .ite (qaz cs) f.x e.x,e.t,e.own,e.dep⟩)::qh6 cs σ1 l else(qh6 cs σ1 l).filter fun y=>y.1 !=t
      |none=>(qh6 cs σ1 l).filter fun y=>y.1 !=t
def merge(cs:List (X×Bool))(k:Option Nat)(σ1 σ:St):St:=
 let t:=qad cs k σ1.t σ.t
 ⟨match k with
  |some k=>q0a t k (match lkA σ1.t k with|some a=>.gd cs a|none=>.any)
  |none=>t,qh6 cs σ1.m σ.m⟩
theorem qww{cs:List (X×Bool)}{k:Option Nat}{σ1 l:List (Nat×AV)}{t:Nat}{x:AV}(h:lkA (qad cs k σ1 l) t=some x):(∃b a,lkA σ1 t=some b∧lkA l t=some a)∧(x=.any∨(k≠some t∧lkA σ1 t=some x∧lkA l t=some x)):=by
 induction l with
 |nil=>cases h
 | cons e l ih =>
  obtain⟨s,y⟩:=e;unfold qad at h;by_cases hst:s=t
  ·subst hst;split at h
   ·rename_i b hb;split at h
    ·rename_i hok;simp only[zj2,gnB,uO] at hok;rw[qb] at h;injection h with h;have hx:=AV.beq_ok _ _ hok.1;subst hx h;exact⟨⟨b,b,hb,qb⟩,.inr ⟨zho hok.2,hb,qb⟩⟩
    ·rw[qb] at h;injection h with h;exact⟨⟨b,y,hb,qb⟩,.inl h.symm⟩
   ·rw[zt] at h;cases h
  ·have:lkA (qad cs k σ1 l) t=some x:=by
    split at h
    ·split at h
     ·rw[qf hst] at h;exact h
     ·rw[qf hst] at h;exact h
    ·rw[q37 hst] at h;exact h
   obtain⟨⟨b,a,h1,h2⟩,h3⟩:=ih this;rw[qf hst];exact⟨⟨b,a,h1,h2⟩,h3⟩
theorem qvy{cs:List (X×Bool)}{σ1 l:List (Nat×Ent)}{t:Nat}{x:Ent}(h:lkA (qh6 cs σ1 l) t=some x):∃f e,lkA σ1 t=some f∧lkA l t=some e∧f.t=e.t∧f.own=e.own∧f.dep=e.dep∧x=⟨if X.beq f.x e.x then e.x else .ite (qaz cs) f.x e.x,e.t,e.own,e.dep⟩:=by
 induction l with
 |nil=>cases h
 | cons e l ih =>
  obtain⟨s,y⟩:=e;unfold qh6 at h;by_cases hst:s=t
  ·subst hst;split at h
   ·rename_i b hb;split at h
    ·rename_i hok;simp only[zjl,gnB] at hok;rw[qb] at h;injection h with h;exact⟨b,y,hb,qb,(Ty.beq_iff _ _).1 hok.1,q9x hok.2.1,q4n hok.2.2,h.symm⟩
    ·rw[zt] at h;cases h
   ·rw[zt] at h;cases h
  ·have:lkA (qh6 cs σ1 l) t=some x:=by
    split at h
    ·split at h
     ·rw[qf hst] at h;exact h
     ·rw[q37 hst] at h;exact h
    ·rw[q37 hst] at h;exact h
   rw[qf hst];exact ih this
section
variable{c:Cx}{p:z6}{w:World}{a:Act}{σ σ1:St}{cs:List (X×Bool)}
theorem qw7{k:Option Nat}(hc:hold c.v cs=true)(hf:SF c σ1 p w a)(hk:∀t,k=some t→∃v,a.tmps[t]? =some v):SF c (merge cs k σ1 σ) p w a:=by
 have ht:∀t x,lkA (qad cs k σ1.t σ.t) t=some x→∃v,a.tmps[t]? =some v∧x.pd c p w v:=fun t x hx=>by
  obtain⟨⟨b,y,h1,h2⟩,h3⟩:=qww hx;obtain⟨v,e1,e2⟩:=hf.t t b h1;rcases h3 with rfl|⟨-,h4,-⟩
  ·exact⟨v,e1,trivial⟩
  ·exact hf.t t x h4
 refine⟨?_,fun t x hx=>?_⟩
 ·cases k with
  |none=>exact ht
  | some k =>
   intro t x hx;have hx':lkA (q0a (qad cs (some k) σ1.t σ.t) k (match lkA σ1.t k with|some a=>.gd cs a|none=>.any)) t=some x:=hx;by_cases hkt:k=t
   ·subst hkt;rw[q1o] at hx';injection hx' with hx';subst hx';cases hl:lkA σ1.t k with
    |none=>
     obtain⟨v,hv⟩:=hk k rfl;exact⟨v,hv,trivial⟩
    |some y=>
     obtain⟨v,e1,e2⟩:=hf.t k y hl;exact⟨v,e1,(fun _=>e2),(fun h=>by rw[hc] at h;cases h)⟩
   ·rw[q4a hkt] at hx';exact ht t x hx'
 ·obtain⟨f,e,h1,h2,h3,h4,h5,rfl⟩:=qvy hx;obtain⟨g,vs,T,hg,hh,hty,hcon⟩:=hf.m t f h1;refine⟨g,vs,T,hg,hh,h3▸hty,?_⟩;rw[h3,h4,h5] at hcon;have hev:((if X.beq f.x e.x then e.x else X.ite (qaz cs) f.x e.x).ev c.v)=f.x.ev c.v:=by
   split
   ·rename_i hb;rw[X.beq_ok _ _ hb]
   ·show(if((qaz cs).ev c.v).tt then f.x.ev c.v else e.x.ev c.v)=_
    rw[qkg,hc];rfl
  show Con c.A p w ((if X.beq f.x e.x then e.x else X.ite (qaz cs) f.x e.x).ev c.v) e.t e.own e.dep vs.toList
  rw[hev];exact hcon
theorem z12{k:Option Nat}(hc:hold c.v cs=false)(hf:SF c σ p w a)(hk:∀t,k=some t→t<a.tmps.size):SF c (merge cs k σ1 σ) p w (a.put k Go.undef):=by
 have hput:∀t,k≠some t→(a.put k Go.undef).tmps[t]? =a.tmps[t]? :=fun t ht=>by
  cases k with
  |none=>rfl
  |some k=>exact Array.getElem?_setIfInBounds_ne (fun e=>ht (by rw[e]))
 have ht:∀t x,lkA (qad cs k σ1.t σ.t) t=some x→∃v,(a.put k Go.undef).tmps[t]? =some v∧x.pd c p w v:=fun t x hx=>by
  obtain⟨⟨b,y,h1,h2⟩,h3⟩:=qww hx;obtain⟨v,e1,e2⟩:=hf.t t y h2;rcases h3 with rfl|⟨h0,-,h4⟩
  ·by_cases hkt:k=some t
   ·subst hkt;exact⟨Go.undef,kB (hk t rfl),trivial⟩
   ·exact⟨v,by rw[hput t hkt];exact e1,trivial⟩
  ·rw[hput t h0];exact hf.t t x h4
 refine⟨?_,fun t x hx=>?_⟩
 ·cases k with
  |none=>exact ht
  | some k =>
   intro t x hx;have hx':lkA (q0a (qad cs (some k) σ1.t σ.t) k (match lkA σ1.t k with|some a=>.gd cs a|none=>.any)) t=some x:=hx;by_cases hkt:k=t
   ·subst hkt;rw[q1o] at hx';injection hx' with hx';subst hx';refine⟨Go.undef,kB (hk k rfl),?_⟩;cases lkA σ1.t k with
    |none=>trivial
    |some y=>exact⟨(fun h=>by rw[hc] at h;cases h),(fun _=>rfl)⟩
   ·rw[q4a hkt] at hx';exact ht t x hx'
 ·obtain⟨f,e,h1,h2,h3,h4,h5,rfl⟩:=qvy hx;obtain⟨g,vs,T,hg,hh,hty,hcon⟩:=hf.m t e h2;refine⟨g,vs,T,hg,hh,hty,?_⟩;have hev:((if X.beq f.x e.x then e.x else X.ite (qaz cs) f.x e.x).ev c.v)=e.x.ev c.v:=by
   split
   ·rfl
   ·show(if((qaz cs).ev c.v).tt then f.x.ev c.v else e.x.ev c.v)=_
    rw[qkg,hc];rfl
  show Con c.A p w ((if X.beq f.x e.x then e.x else X.ite (qaz cs) f.x e.x).ev c.v) e.t e.own e.dep vs.toList
  rw[hev];exact hcon
end
end
section
def FR(ro:Option Nat):Fence:={Fence.wide with round:=ro}
theorem Oper.wp_round{o:Oper}{a:Act}{w:World}{K:Act→World→Prop}{Q:Exit→Act→World→Prop}{n:Nat}(ro:Option Nat)(hnd:∀c,o.op≠.defer c)(h:o.wp uB a w K Q):
  o.wpIn (FR ro) n uB a w K Q:=by
 refine⟨fun _ _=>trivial,?_⟩;rw[show Oper.semAt (FR ro).round a.eval o=execOp a.eval o from Oper.semAt_eq _ _ _ hnd];unfold Oper.wp at h;generalize (execOp a.eval o).run uB w=r at *;cases r with
 |ok x w'=>
  cases x<;>simp only[Oper.upon,Oper.uponIn] at h⊢<;>first|exact h|skip
  case enter f args=>exact⟨fun e=>(by cases e),callsIn_wide.2 h⟩
  case row row args=>exact⟨fun e=>(by cases e),fun c cs _=>let ⟨v,w',r,s⟩:=h c cs;⟨v,w',r,stepsIn_wide.2 s⟩⟩
 |halt x w'=>cases x<;>simp only[Oper.upon,Oper.uponIn] at h⊢<;>exact h
section
variable{F:Fence}{n:Nat}{P:Program}{b:Frame}{a:Act}{k:List Item}{cs:List Frame}{w:World}{Q:Exit→Act→World→Prop}
theorem q5t{c:Code}:step P (lone (b.atR a (.code (.scope c)::k)) cs w)=.next (lone (b.atR a (.code c:: .inScope c::k)) cs w):=
 step_lone_go (by simp[stepG,stepG.exec,Frame.atR])
theorem qux{c:Code}:step P (lone (b.atR a (.inScope c::k)) cs w)=.next (lone (b.atR a k) cs w):=
 step_lone_go (by simp[stepG,stepG.exec,Frame.atR])
theorem qgh{c:Code}(h:c.wpIn F n P (Exit.noGoto Q) a w):(Code.scope c).wpIn F n P Q a w:=by
 intro b k cs hro hb hr;have h0:(lone (b.atR a (.code (.scope c)::k)) cs w).fenced P F:=fenced_calm hb hr rfl;obtain⟨e,a₁,w₁,hq,harr⟩:=h b (.inScope c::k) cs hro hb hr;cases e with
 |normal=>exact⟨.normal,a₁,w₁,hq,.head h0 q5t (StepsIn.trans harr (.one (fenced_calm hb hr rfl) qux))⟩
 | exit id' =>
  have hx:exitTo id' (.inScope c::k)=exitTo id' k:=by simp[exitTo]
  exact⟨.exit id',a₁,w₁,hq,fun k' hk=>.head h0 q5t (harr.1 k' (by rw[hx];exact hk)),
   fun hr' hk=>let ⟨k₁,h1,h2⟩:=harr.2 hr' (by rw[hx];exact hk);⟨k₁,h1,.head h0 q5t h2⟩⟩
 |goto l=>exact hq.elim
 |ret=>exact⟨_,a₁,w₁,hq,.of_steps (.one h0 q5t) harr⟩
 |panic ch=>exact⟨_,a₁,w₁,hq,.of_steps (.one h0 q5t) harr⟩
 |outgrown=>exact⟨_,a₁,w₁,hq,.of_steps (.one h0 q5t) harr⟩
end
end
section
def zbe:Option AV→Bool
 |some (.v _ (.int _) _ _)=>true
 |_=>false
def zjv(σ:St)(cs:List (X×Bool)):Option Operand→Bool
 |none=>true
 |some y=>zbe (opd σ cs y)
def z96(σ:St)(cs:List (X×Bool))(k:Nat)(T:TypeId)(r:Option Operand):Option St:=match qy T with
 |some (.map K V)=>if zjv σ cs r then some ⟨q0a (σ.un (zh k)).t k (.v (.lit (.mp [])) (.map K V) [(0,k * 16+1)] []),(σ.un (zh k)).m⟩ else none
 |_=>none
def qmu(pin:Nat)(K V:TypeId)(xk xv x:X)(t:Ty)(own:List (Nat×Nat))(dep:List Nat):Option X:=
 if yk dep pin then none else if yk (own.map (·.2)) pin then(match t,own with
  |.map K' V',[(0,_)]=>if uD K' K&&uD V' V then some (.fn 2 [x,xk,xv]) else none
  |_,_=>none) else some x
def z6i(pin:Nat)(K V:TypeId)(xk xv:X):AV→AV
 |.v x t own dep=>match qmu pin K V xk xv x t own dep with
  |some x'=>.v x' t own dep
  |none=>.any
 |.sn q (.v x t own dep)=>match qmu pin K V xk xv x t own dep with
  |some x'=>.sn q (.v x' t own dep)
  |none=>.any
 |a=>if okA (q2s pin) no a then a else .any
def qx5(pin:Nat)(K V:TypeId)(xk xv:X):List (Nat×Ent)→List (Nat×Ent)
  |[]=>[]
  | (k, e) :: l => match qmu pin K V xk xv e.x e.t e.own e.dep with
    |some x'=>if uD (k * 16) pin then(qx5 pin K V xk xv l).filter (fun y=>y.1 !=k) else(k,⟨x',e.t,e.own,e.dep⟩)::qx5 pin K V xk xv l
    |none=>(qx5 pin K V xk xv l).filter fun y=>y.1 !=k
def qxn(σ:St)(cs:List (X×Bool))(T:TypeId)(m k x:Operand):Option St:=match qy T with
 | some (.map K V) => (match qy K, qy V with
  |some kt,some vt=>if y6 8 kt&&y6 8 vt then(match opd σ cs m,(opd σ cs k).bind (q5h kt),(opd σ cs x).bind (q5h vt) with
   | some (.v xm (.map K' V') [(0, pin)] _), some (xk, _, _), some (xv, _, _) => if uD K' K && uD V' V then
     some ⟨σ.t.map fun e=>(e.1,z6i pin K V xk xv e.2),qx5 pin K V xk xv σ.m⟩ else none
   |_,_,_=>none) else none
  |_,_=>none)
 |_=>none
section
variable{c:Cx}{p:z6}{w w0:World}{S0:Nat→Prop}{a:Act}{σ σ':St}{cs:List (X×Bool)}{o:Oper}{d:List Deferred}{z:Nat}{A:Nat→Prop}{F:Flr}{F:Nat→Prop}
theorem zif(hb:Bs c.A c.F w0 S0 p w)(hf:SF c σ p w a)(hc:hold c.v cs=true)(hd:a.defers=d)(hz:a.tmps.size=z){k:Nat}(hk:k<z)(hdst:o.dst=some k){T:TypeId}{r:Option Operand}(heq:o.op=.makeMap T r)(h:z96 σ cs k T r=some σ'){Q:Exit→Act→World→Prop}:
  o.wp uB a w (q09 c w0 S0 d z σ') Q:=by
 unfold z96 at h;split at h
 ·rename_i K V hT;split at h
  ·rename_i hr;injection h with h;subst h;obtain⟨hu,⟨kt,hK⟩,⟨vt,hV⟩,-⟩:=qbm hT;have hrun:(execOp a.eval o).run uB w=.ok (.value (.map (some w.heap.size))) (w.alloc (.map #[] 0)):=by
    cases r with
    |none=>simp[execOp,heq,Instr.makeMap,newObj,Sem.run]
    | some y =>
     have hy:zbe (opd σ cs y)=true:=hr;unfold zbe at hy;split at hy
     ·rename_i x k' own dep hq;obtain⟨n,-,hv,-⟩:=q0j (z4 hf hc hq);generalize a.eval=r at *;simp[execOp,heq,Instr.makeMap,run_underlying hu,hv,newObj,asInt,asIntOf,Sem.run]
     ·cases hy
   unfold Oper.wp;rw[hrun]
   show q09 c w0 S0 d z _ (a.put o.dst _) _
   rw[hdst];have hb1:=hb.un (zh k);have hf1:=SF.un (q:=zh k) hb.inj hb.pa hf;have hkq:zh k (k * 16+1)=true:=by
    unfold zh;rw[kX];omega
   have hpx:unP (zh k) p (k * 16+1)=none:=by unfold unP;rw[if_pos hkq]
   have hst:=q7h (A:=c.A) hpx hb1.bd (.map #[] 0);refine⟨qfp (unP (zh k) p) (k * 16+1) w.heap.size,qvw hb1 (.inr ⟨_,_,rfl⟩),?_,hd,by simp only[Act.put,uK];exact hz⟩;have hkeep:SF c (σ.un (zh k)) (qfp (unP (zh k) p) (k * 16+1) w.heap.size) (w.alloc (.map #[] 0)) a:=by
    refine⟨fun t' y hy=>?_,fun k' e he=>?_⟩
    ·obtain⟨v,h1,h2⟩:=hf1.t t' y hy;exact⟨v,h1,AV.kept hst y v (fun _ _=>⟨rfl,rfl⟩) (fun _ _=>rfl) h2⟩
    ·exact(hf1.m k' e he).kept hst (fun _ _=>⟨rfl,rfl⟩) ⟨rfl,rfl⟩
   refine hkeep.put (t:=k) (by rw[hz];exact hk) ⟨[_],rfl,?_⟩;exact .inr ⟨K,V,kt,vt,[],w.heap.size,#[],0,rfl,hK,hV,rfl,rfl,q1q,q3h rfl,trivial⟩
  ·cases h
 ·cases h
def z35:Value→Bool
 |.int _ _=>true
 |.bool _=>true
 |.string _=>true
 |_=>false
theorem z6o:∀(n:Nat){t:Ty}{d:D}{cs:List Value},qmc n t d=some cs→∀v∈cs,z35 v=true:=by
 intro n
 induction n with
 |zero=>intro t d cs h;simp[qmc] at h
 | succ n ih =>
  intro t d cs h;unfold qmc at h;split at h
  ·cases h
  ·split at h
   ·injection h with h;subst h;intro v hv;obtain rfl:v=_:=by simpa using hv
    rfl
   ·cases h
  ·injection h with h;subst h;intro v hv;obtain rfl:v=_:=by simpa using hv
   rfl
  ·split at h
   ·injection h with h;subst h;intro v hv;obtain rfl:v=_:=by simpa using hv
    rfl
   ·cases h
  ·rename_i n' T l heq;obtain rfl:n=n':=by injection heq
   split at h
   ·rename_i fs hf;clear hf
    induction l generalizing fs cs with
    | nil =>
     cases fs with
     |nil=>
      simp only[qf4,uG] at h;subst h;intro v hv;cases hv
     |cons t ts=>simp[qf4] at h
    | cons d l ihl =>
     cases fs with
     |nil=>simp[qf4] at h
     | cons t ts =>
      unfold qf4 at h;split at h
      ·rename_i a b ha hb;injection h with h;subst h;intro v hv;rcases vD.1 hv with hv|hv
       ·exact ih ha v hv
       ·exact ihl _ hb v hv
      ·cases h
   ·cases h
  ·cases h
theorem qrt{v:Value}(h:z35 v=true)(n:Nat):Instr.sameBits n v v=true:=by
  cases v<;>first|(simp[z35] at h;done)|(simp[Instr.sameBits];done)|skip
  rename_i s;simp only[Instr.sameBits];exact(zbp s s).2 rfl
theorem z8j{t:Ty}{d:D}{v:Value}(h:qha t d=some v):Instr.sameBits 10000 v v=true:=by
 unfold qha at h;obtain⟨cs,h1,h2⟩:=uL.1 h;have hp:=z6o 8 h1;unfold z60 at h2;split at h2
 ·injection h2 with h2;subst h2;simp only[Instr.sameBits,beq_self_eq_true,vI,uJ];rintro⟨x,y⟩hxy;have hxy':(x,y)∈cs.zip cs:=hxy;obtain⟨i,hi,he⟩:=List.mem_iff_getElem.1 hxy';simp only[List.getElem_zip,uR] at he;obtain⟨rfl,rfl⟩:=he;exact qrt (hp _ (List.getElem_mem _)) _
 ·split at h2
  ·rename_i x;injection h2 with h2;subst h2;exact qrt (hp _ (by simp)) _
  ·cases h2
theorem z0h{T K V:TypeId}{kt vt:Ty}(hT:qy T=some (.map K V))(hK:qy K=some kt)(hV:qy V=some vt)(hbk:y6 8 kt=true)(hbv:y6 8 vt=true){g clock:Nat}{es:Array MapEntry}(hg:w.heap[g]? =some (.map es clock)){l:List D}(hl:q9z kt vt l es.toList){kd xd:D}{ks xs:List Value}{kv xv:Value}(hd:Rd w F kd kt ks)(hp:j5 kt ks kv)(hdx:Rd w F xd vt xs)(hpx:j5 vt xs xv):
  ∃es' clock',(Instr.mapUpdate T (.map (some g)) kv xv).run uB w=.ok () {w with heap:=w.heap.setIfInBounds g (.map es' clock')}∧∀l',q9z kt vt l' es.toList→q9z kt vt (mset kd xd l') es'.toList:=by
 have hck:(Instr.checkKey false 10000 K kv).run uB w=.ok () w:=qe8 false 8 9992 hK hbk hd hp;have hfk:=qid hK hbk hd hp hl.keys;have hu:=(qbm hT).1;have hek:=z3v hbk hd hp;have hex:=z3v hbv hdx hpx;have hsee:∀l',q9z kt vt l' es.toList→fsD kd l' es.toList 0=fsD kd l es.toList 0:=fun l' hl'=>by
  have:=(qid hK hbk hd hp hl'.keys).symm.trans hfk;injection this
 rcases qq9 (i:=0) (kd:=kd) hl with⟨h1,h2⟩|⟨j,e,x,h1,h2,h3,h4,h5⟩
 ·rw[h1] at hfk;refine⟨es.push {key:=kv,val:=xv,born:=clock},clock+1,by simp[Instr.mapUpdate,run_underlying hu,MapKept.run_getObj_map hg,hck,hfk,MapKept.run_setObj_map _ hg,Result.andThen],fun l' hl'=>?_⟩;rw[Array.toList_push];have hq:=hsee l' hl';have hm':mfind kd l'=none:=by
   rcases qq9 (i:=0) (kd:=kd) hl' with⟨-,h⟩|⟨j,e,x,h,-⟩
   ·exact h
   ·rw[hq,h1] at h;cases h
  exact z03 hek hex hl' hm' _
 ·rw[h1] at hfk;have hjl:es[j]? =some e:=by rw[←uT];exact h2
  have hkk:e.key=kv:=gnI (h3.symm.trans hek);have hsame:Instr.sameBits 10000 kv kv=true:=z8j hek;refine⟨es.modify j fun e=>{e with key:=kv,val:=xv},clock,by simp[Instr.mapUpdate,run_underlying hu,MapKept.run_getObj_map hg,hck,hfk,hjl,hkk,Instr.keyThatStays,hsame,MapKept.run_setObj_map _ hg,Result.andThen],fun l' hl'=>?_⟩;rw[Array.toList_modify];exact z0a hek hex (i:=0) (j:=j) (v:=e.val) hl' ((hsee l' hl').trans h1)
theorem qm7{K V:TypeId}{kt vt:Ty}(hK:qy K=some kt)(hV:qy V=some vt){pin g clock clock':Nat}(hpin:p pin=some g){es es':Array MapEntry}(hg:w.heap[g]? =some (.map es clock)){xk xv:X}(hlist:∀l,q9z kt vt l es.toList→q9z kt vt (mset (xk.ev c.v) (xv.ev c.v) l) es'.toList)
  {w':World}(hg':w'.heap[g]? =some (.map es' clock'))(hst:Stab c.A (q2s pin) no p w p w'){x x':X}{t:Ty}{own:List (Nat×Nat)}{dep:List Nat}{vs:List Value}(hu:qmu pin K V xk xv x t own dep=some x')(hc:Con c.A p w (x.ev c.v) t own dep vs):Con c.A p w' (x'.ev c.v) t own dep vs:=by
 unfold qmu at hu;split at hu
 ·cases hu
 ·rename_i hn;have hn':yk dep pin=false:=by simpa using hn
  have hdep:=q3z hn';split at hu
  ·rename_i ho;split at hu
   ·rename_i K' V' x0;split at hu
    ·rename_i hok;simp only[gnB] at hok;have e1:=gnN hok.1;have e2:=gnN hok.2;subst e1 e2;injection hu with hu;subst hu;obtain rfl:pin=x0:=by
      have:=yz.1 ho;simpa using this
     have hc':Fl c.A p w dep (some pin) (x.ev c.v) (.map K' V') vs:=hc
     show Fl c.A p w' dep (some pin) _ (.map K' V') vs
     rcases hc' with⟨E,te,l,v,e,-⟩|⟨K1,V1,kt1,vt1,l,g1,es1,cl1,e,h1,h2,h3,h4,h5,h6,h7⟩
     ·cases e
     injection e with e1 e2;subst e1 e2;obtain rfl:=gnI (h1.symm.trans hK);obtain rfl:=gnI (h2.symm.trans hV);obtain rfl:=gnI (h5.symm.trans hpin);rw[hg] at h6;injection h6 with h6;injection h6 with h6 h6';subst h6 h6';refine .inr ⟨K',V',kt1,vt1,_,g1,es',clock',rfl,h1,h2,?_,h4,h5,hg',hlist l h7⟩
     show D.mp (mset (xk.ev c.v) (xv.ev c.v) (x.ev c.v).ms)=_
     rw[h3];rfl
    ·cases hu
   ·cases hu
  ·rename_i ho;injection hu with hu;subst hu;have ho':yk (own.map (·.2)) pin=false:=by simpa using ho
   exact hc.kept hst hdep (q3z ho')
theorem zcp{K V:TypeId}{kt vt:Ty}(hK:qy K=some kt)(hV:qy V=some vt){pin g clock clock':Nat}(hpin:p pin=some g){es es':Array MapEntry}(hg:w.heap[g]? =some (.map es clock)){xk xv:X}(hlist:∀l,q9z kt vt l es.toList→q9z kt vt (mset (xk.ev c.v) (xv.ev c.v) l) es'.toList)
  {w':World}(hg':w'.heap[g]? =some (.map es' clock'))(hst:Stab c.A (q2s pin) no p w p w'){x:AV}{v:Value}(hx:x.pd c p w v):(z6i pin K V xk xv x).pd c p w' v:=by
 have gen:∀y:AV,y.pd c p w v→(if okA (q2s pin) no y then y else AV.any).pd c p w' v:=fun y hy=>by
  split
  ·rename_i hok;exact AV.kept hst y v (qat hok).1 (qat hok).2 hy
  ·trivial
 unfold z6i;split
 ·rename_i x t own dep;split
  ·rename_i x' hu;obtain⟨vs,hp,hc⟩:=hx;exact⟨vs,hp,qm7 hK hV hpin hg hlist hg' hst hu hc⟩
  ·trivial
 ·rename_i q x t own dep;split
  ·rename_i x' hu;obtain⟨he,vs,hp,hc⟩:=hx;exact⟨he,vs,hp,qm7 hK hV hpin hg hlist hg' hst hu hc⟩
  ·trivial
 ·exact gen _ hx
theorem zay{pin:Nat}{K V:TypeId}{xk xv:X}{l:List (Nat×Ent)}{k:Nat}{e:Ent}(h:lkA (qx5 pin K V xk xv l) k=some e):
  ∃e0 x',lkA l k=some e0∧qmu pin K V xk xv e0.x e0.t e0.own e0.dep=some x'∧e=⟨x',e0.t,e0.own,e0.dep⟩∧q2s pin (k * 16)=false:=by
 induction l with
 |nil=>cases h
 | cons y l ih =>
  obtain⟨m,y⟩:=y;unfold qx5 at h;split at h
  ·rename_i x' hu;split at h
   ·by_cases hm:m=k
    ·subst hm;rw[zt] at h;cases h
    ·rw[q37 hm] at h;rw[qf hm];exact ih h
   ·rename_i hpin;by_cases hm:m=k
    ·subst hm;rw[qb] at h;injection h with h;exact⟨y,x',qb,hu,h.symm,by
      cases hq:q2s pin (m * 16) with
      |false=>rfl
      |true=>exact absurd hq hpin⟩
    ·rw[qf hm] at h⊢;exact ih h
  ·by_cases hm:m=k
   ·subst hm;rw[zt] at h;cases h
   ·rw[q37 hm] at h;rw[qf hm];exact ih h
theorem z1a{x g clock:Nat}{es:Array MapEntry}(inj:∀x y b,p x=some b→p y=some b→x=y)(hx:p x=some g)(ob:Obj):Stab A (q2s x) no p w p {w with heap:=w.heap.setIfInBounds g ob}:=by
 have other:∀b,b≠g→(w.heap.setIfInBounds g ob)[b]? =w.heap[b]? :=fun b hb=>by rw[uQ,if_neg (Ne.symm hb)]
 refine⟨by simp,fun b hb ha hf=>⟨other b (fun e=>hf x (by rw[e];exact hx)),hf⟩,fun y b _ hy=>hy,fun y b hz hy=>other b fun e=>?_⟩;subst e;have:=inj y x b hy hx;simp[this,q2s] at hz
theorem z6t{F:Flr}{x g clock:Nat}{es es':Array MapEntry}{clock':Nat}(h:Bs A F w0 S0 p w)(hx:p x=some g)(hg:w.heap[g]? =some (.map es clock)):Bs A F w0 S0 p {w with heap:=w.heap.setIfInBounds g (.map es' clock')}:=by
 have other:∀b,b≠g→(w.heap.setIfInBounds g (.map es' clock'))[b]? =w.heap[b]? :=fun b hb=>by rw[uQ,if_neg (Ne.symm hb)]
 have hlt:=(kM.1 hg).1;refine⟨h.inj,fun y b hy=>by simpa using h.bd y b hy,⟨h.but.os,h.but.tape,h.but.output,by simpa using h.but.size,fun k hk hn=>?_⟩,h.pin,h.new,h.pa,fun y b hy=>?_,fun k hk=>?_⟩
 ·refine(other k fun e=>?_).trans (h.but.block k hk hn);subst e;rcases h.pin x k hx with hS|h1
  ·exact hn hS
  ·omega
 ·by_cases hb:b=g
  ·subst hb;exact .inr ⟨es',clock',by show(w.heap.setIfInBounds b _)[b]? =_;rw[uQ,if_pos rfl,if_pos hlt]⟩
  ·exact(h.obj y b hy).same (other b hb)
 ·obtain⟨cs,cs',T,te,h1,h2,h3,h4,h5,h6,h7,h8⟩:=h.flo k hk;have hne:k≠g:=fun e=>by
   subst e;rw[hg] at h6;cases h6
  exact⟨cs,cs',T,te,h1,h2,h3,h4,h5,(other k hne).trans h6,h7,h8⟩
theorem z5v(hb:Bs c.A c.F w0 S0 p w)(hf:SF c σ p w a)(hc:hold c.v cs=true)(hd:a.defers=d)(hz:a.tmps.size=z)(hdst:o.dst=none){T:TypeId}{m k x:Operand}(heq:o.op=.mapUpdate T m k x∨o.op=.insert T m k x)(h:qxn σ cs T m k x=some σ'){Q:Exit→Act→World→Prop}:
  o.wp uB a w (q09 c w0 S0 d z σ') Q:=by
 unfold qxn at h;split at h
 ·rename_i K V hT;split at h
  ·rename_i kt vt hK hV;split at h
   ·rename_i hfl;simp only[gnB] at hfl;split at h
    ·rename_i xm K' V' pin depm xk ownk depk xv ownv depv hm hk hx;split at h
     ·rename_i hok;simp only[gnB] at hok;have e1:=gnN hok.1;have e2:=gnN hok.2;subst e1 e2;injection h with h;subst h;obtain⟨vm,hpm,hcm⟩:=z4 hf hc hm;obtain⟨k',hk1,hk2⟩:=uL.1 hk;obtain⟨x',hx1,hx2⟩:=uL.1 hx;obtain⟨ks,hpk,hck⟩:=q2y hk2 (z4 hf hc hk1);obtain⟨xs,hpx,hcx⟩:=q2y hx2 (z4 hf hc hx1);have hcm':Fl c.A p w depm (some pin) (xm.ev c.v) (.map K' V') vm:=hcm;rcases hcm' with⟨E,te,l,v,e,-⟩|⟨K1,V1,kt1,vt1,l,g1,es1,cl1,e,h1,h2,h3,h4,h5,h6,h7⟩
      ·cases e
      injection e with e1 e2;subst e1 e2;obtain rfl:=gnI (h1.symm.trans hK);obtain rfl:=gnI (h2.symm.trans hV);subst h4;have hmv:=j5.one1 hpm;have hrk:=hck.rd (dep':=depk++ownk.map (·.2)) (fun x hx=>uH _ hx) (fun x hx=>uE _ hx);have hrx:=hcx.rd (dep':=depv++ownv.map (·.2)) (fun x hx=>uH _ hx) (fun x hx=>uE _ hx);have hrk0:Rd w (FFD c.A p []) (xk.ev c.v) kt1 ks:=Rd.flat 8 _ hfl.1 hrk;have hrx0:Rd w (FFD c.A p []) (xv.ev c.v) vt1 xs:=Rd.flat 8 _ hfl.2 hrx;obtain⟨es',clock',hr,hl'⟩:=z0h hT hK hV hfl.1 hfl.2 h6 h7 hrk0 hpk hrx0 hpx;have hst:=z1a (A:=c.A) (w:=w) (clock:=cl1) (es:=es1) hb.inj h5 (.map es' clock');have hlt:=(kM.1 h6).1;have hnew:(w.heap.setIfInBounds g1 (.map es' clock'))[g1]? =some (.map es' clock'):=by rw[uQ,if_pos rfl,if_pos hlt]
      have hrun:(execOp a.eval o).run uB w=.ok .skip {w with heap:=w.heap.setIfInBounds g1 (.map es' clock')}:=by
       generalize a.eval=r at *;rcases heq with heq|heq<;>simp[execOp,heq,hmv,hr]
      unfold Oper.wp;rw[hrun]
      show q09 c w0 S0 d z _ (a.put o.dst undef) _
      rw[hdst];refine⟨p,z6t hb h5 h6,⟨fun t y hy=>?_,fun k0 e0 he0=>?_⟩,hd,hz⟩
      ·obtain⟨y0,hy0,rfl⟩:=q5l (f:=z6i pin K' V' xk xv) hy;obtain⟨v,q1,q2⟩:=hf.t t y0 hy0;exact⟨v,q1,zcp hK hV h5 h6 hl' hnew hst q2⟩
      ·obtain⟨e1,x1,q1,q2,rfl,q3⟩:=zay he0;obtain⟨g',vs',T',hg',hh,hty,hcc⟩:=hf.m k0 e1 q1;exact⟨g',vs',T',hg',(hst.con _ _ q3 hg').trans hh,hty,qm7 hK hV h5 h6 hl' hnew hst q2 hcc⟩
     ·cases h
    ·cases h
   ·cases h
  ·cases h
 ·cases h
end
end
section
open Go.RowKit Go.Shelf
def z8a:List (FuncId×FuncId×TypeId×TypeId):=[]
theorem za2:∀e∈z8a,∀(args:Array Value)(w:World),(callFunc e.1 args).run uB w=.ok (.enter e.1 args) w:=fun e he=>by cases he
theorem z8u:∀e∈z8a,∀(w:World)(A:Option Addr)(l c:Nat),Calls uB e.1 #[.slice A l c] w fun e' w'=>e'=.returned (.func (.func e.2.1) #[] #[.pointer (some ⟨w.heap.size,0,none⟩)])∧w'=w.alloc (.cells #[.slice A l c] e.2.2.1):=fun e he=>by cases he
end
section
def zeb(f:FuncId):List (FuncId×FuncId×TypeId×TypeId)→Option (FuncId×FuncId×TypeId×TypeId)
 |[]=>none
 |e::l=>if uD e.1 f then some e else zeb f l
theorem z69{f:FuncId}{e:FuncId×FuncId×TypeId×TypeId}:∀{l:List (FuncId×FuncId×TypeId×TypeId)},zeb f l=some e→e∈l∧e.1=f
 |[],h=>by cases h
 | x :: l, h => by
  unfold zeb at h;split at h
  ·rename_i hx;injection h with h;subst h;exact⟨uC,gnN hx⟩
  ·obtain⟨h1,h2⟩:=z69 h;exact⟨uA _ h1,h2⟩
def zbx(σ0:St)(cs:List (X×Bool))(k:Nat)(y:Operand)(args:List Operand):Option St:=match opd (σ0.un (zh k)) cs y,args with
 | some (.fn f []), [x] => (match zeb f z8a with
  |some (_,g,T,E)=>if(qy E).isSome then(match(opd (σ0.un (zh k)) cs x).bind (qgu E) with
   |some (xv,own,dep)=>some ⟨q0a (σ0.un (zh k)).t k (.fn g [.fr T (.v xv (.row E) own dep)]),(σ0.un (zh k)).m⟩
   |none=>none) else none
  |none=>none)
 |_,_=>none
section
variable{A:Nat→Prop}{F:Flr}{c:Cx}{p:z6}{w w0:World}{S0:Nat→Prop}{a:Act}{σ σ':St}{cs:List (X×Bool)}{o:Oper}{d:List Deferred}{z:Nat}
theorem z5x(h:Bs A F w0 S0 p w)(o:Obj):Bs A F w0 S0 p (w.alloc o):=by
 refine⟨h.inj,fun x b hx=>by have:=h.bd x b hx;simp;omega,h.but.alloc _,h.pin,h.new,h.pa,fun x b hx=>?_,h.flo.same fun k hk _=>by rw[hget,if_neg (by omega)]⟩;rcases h.obj x b hx with⟨cs',T',h2⟩|⟨es,clock,h2⟩
 ·exact .inl ⟨cs',T',q2h h2⟩
 ·exact .inr ⟨es,clock,q2h h2⟩
theorem qx8(bd:∀x b,p x=some b→b<w.heap.size)(o:Obj):Stab A no no p w p (w.alloc o):=
 ⟨by simp,fun b hb ha hf=>⟨by rw[hget,if_neg (by omega)],hf⟩,fun y b _ hy=>hy,fun y b _ hy=>by
  have:=bd y b hy;rw[hget,if_neg (by omega)]⟩
theorem zgv(hb:Bs c.A c.F w0 S0 p w)(hf:SF c σ p w a)(hc:hold c.v cs=true)(hd:a.defers=d)(hz:a.tmps.size=z){k:Nat}(hk:k<z)(hdst:o.dst=some k){y:Operand}{args:Array Operand}{tys:Array TypeId}(heq:o.op=.call {callee:=.value y,args:=args,argTypes:=tys})
  (h:zbx σ cs k y args.toList=some σ'){Q:Exit→Act→World→Prop}:o.wp uB a w (q09 c w0 S0 d z σ') Q:=by
 unfold zbx at h;split at h
 ·rename_i f x hy hx;split at h
  ·rename_i f' g T E hbw;obtain⟨hmem,hff⟩:=z69 hbw;have hff:f'=f:=hff;subst hff;split at h
   ·rename_i hE;obtain⟨te,hte⟩:=uU.1 hE;split at h
    ·rename_i xv own dep hr;injection h with h;subst h;have hb1:=hb.un (zh k);have hf1:=SF.un (q:=zh k) hb.inj hb.pa hf;obtain⟨x',hx1,hx2⟩:=uL.1 hr;have hcon:=q8k hte hx2 (z4 hf1 hc hx1);obtain⟨te',A1,cap,hte',hd1,hev,h1,h2,h3,hE1⟩:=hcon.row;obtain⟨vs,hfv,hvs⟩:=z4 hf1 hc hy;have hvs:vs=[]:=hvs;subst hvs;have hrun:(execOp a.eval o).run uB w=.ok (.enter f' #[a.eval x]) w:=by
      have hen:=za2 _ hmem #[a.eval x] w;have hargs:args= #[x]:=by
       apply kN;exact hx
      subst hargs;generalize a.eval=r at *;simp[execOp,heq,resolve,Deferred.ofValue,hfv,invoke,hen]
     unfold Oper.wp;rw[hrun]
     show Calls uB f' _ w _
     rw[hev];refine Calls.mono (z8u _ hmem w A1 _ cap) ?_;rintro e w'⟨rfl,rfl⟩;rw[←hev]
     show q09 c w0 S0 d z _ (a.put o.dst _) _
     rw[hdst];have hst:=qx8 (A:=c.A) hb1.bd (.cells #[a.eval x] T);refine⟨unP (zh k) p,z5x hb1 _,?_,hd,by simp only[Act.put,uK];exact hz⟩;have hkeep:SF c (σ.un (zh k)) (unP (zh k) p) (w.alloc (.cells #[a.eval x] T)) a:=by
      refine⟨fun t' y hy=>?_,fun k' e he=>?_⟩
      ·obtain⟨v,h1,h2⟩:=hf1.t t' y hy;exact⟨v,h1,AV.kept hst y v (fun _ _=>⟨rfl,rfl⟩) (fun _ _=>rfl) h2⟩
      ·exact(hf1.m k' e he).kept hst (fun _ _=>⟨rfl,rfl⟩) ⟨rfl,rfl⟩
     have hsz:w0.heap.size≤w.heap.size:=hb.but.size;refine hkeep.put (t:=k) (by rw[hz];exact hk) ⟨[.pointer (some ⟨w.heap.size,0,none⟩)],rfl,_,[],rfl,⟨w.heap.size,a.eval x,(hb.new _ hsz).1,fun y hy=>?_,rfl,q3h rfl,[a.eval x],rfl,hcon.kept hst (fun _ _=>⟨rfl,rfl⟩) (fun _ _=>⟨rfl,rfl⟩)⟩,rfl⟩;have:=hb1.bd y _ hy;omega
    ·cases h
   ·cases h
  ·cases h
 ·cases h
end
end
section
def zjh(σ0:St)(cs:List (X×Bool))(k:Nat)(y:Operand)(args:List Operand):Option St:=none
section
variable{c:Cx}{p:z6}{w w0:World}{S0:Nat→Prop}{a:Act}{σ σ':St}{cs:List (X×Bool)}{o:Oper}{d:List Deferred}{z:Nat}
theorem ziz(hb:Bs c.A c.F w0 S0 p w)(hf:SF c σ p w a)(hc:hold c.v cs=true)(hd:a.defers=d)(hz:a.tmps.size=z){k:Nat}(hk:k<z)(hdst:o.dst=some k){y:Operand}{args:Array Operand}{tys:Array TypeId}(heq:o.op=.call {callee:=.value y,args:=args,argTypes:=tys})
  (h:zjh σ cs k y args.toList=some σ'){Q:Exit→Act→World→Prop}:o.wp uB a w (q09 c w0 S0 d z σ') Q:=by cases h
end
end
section
def zg9(σ0:St)(cs:List (X×Bool))(k:Nat)(y:Operand)(args:List Operand):Option St:=none
section
variable{A:Nat→Prop}{F:Flr}{c:Cx}{p:z6}{w w0:World}{S0:Nat→Prop}{a:Act}{σ σ':St}{cs:List (X×Bool)}{o:Oper}{d:List Deferred}{z:Nat}
theorem zgs(hb:Bs c.A c.F w0 S0 p w)(hf:SF c σ p w a)(hc:hold c.v cs=true)(hd:a.defers=d)(hz:a.tmps.size=z){k:Nat}(hk:k<z)(hdst:o.dst=some k){y:Operand}{args:Array Operand}{tys:Array TypeId}(heq:o.op=.call {callee:=.value y,args:=args,argTypes:=tys})
  (hz0:∀te,c.F.mx te=0)(h:zg9 σ cs k y args.toList=some σ'){Q:Exit→Act→World→Prop}:o.wp uB a w (q09 c w0 S0 d z σ') Q:=by cases h
end
end
section
open Go.RowKit Go.Shelf
attribute [local go_sem] Oper.semAt_some
def z15:List Value:=[.string ⟨#[59]⟩,.int .i64 2,.func (.func 96) #[] #[],.string ⟨#[45,62]⟩,.int .i64 2,.func (.func 97) #[] #[],.string ⟨#[92,43]⟩,.int .i64 1,.func (.func 98) #[] #[],.string ⟨#[111,110,99,101]⟩,.int .i64 1,.func (.func 99) #[] #[]]
theorem zfe(w:World):Calls uB 74 #[] w fun e w'=>e=.returned (.agg z15.toArray)∧∃o,w'=w.alloc o:=by
 go_enter Try.func74,Try.ntmps74
 go_wp2_with fail
 exact bodyPost_ret (v:=.agg z15.toArray) (by simp[results,Try.results74,go_sem,z15]) rfl ⟨rfl,_,rfl⟩
theorem z8p(w:World)(g o:Nat)(m:Int)(cur:Array Value)(T:TypeId)(hh:w.heap[g]? =some (.cells cur T (0,0)))(hc:cur[o]? =some (.int .i64 m))(hr:IntKind.wrap .i64 (m+1)=m+1)(hr2:wrap64 m=m):Calls uB 50 #[.pointer (some ⟨g,o,none⟩)] w fun e w'=>e=.returned (.int .i64 m)∧(Instr.storeAt 2 (.pointer (some ⟨g,o,none⟩)) (.int .i64 (m+1))).run uB w=.ok () w':=by
 have h0:w.cell? ⟨g,o,none⟩=some (.int .i64 m):=(cell_of_row w g o cur T (0,0) hh).trans hc;have f0:=frz hh o;have hlt:=jb hh
 go_enter Try.func50,Try.ntmps50
 go_wp2_with fail
 exact bodyPost_ret (v:=.int .i64 m) (by simp[results,Try.results50,go_sem,hr2]) rfl ⟨rfl,by simp[go_sem,h0,f0,hlt]⟩
theorem zaw(w:World)(g o:Nat)(m:Int)(cur:Array Value)(T:TypeId)(hh:w.heap[g]? =some (.cells cur T (0,0)))(hc:cur[o+1]? =some (.int .i64 m))(hr:IntKind.wrap .i64 (m+1)=m+1)(hr2:wrap64 m=m):Calls uB 100 #[.pointer (some ⟨g,o,none⟩)] w fun e w'=>e=.returned (.int .i64 m)∧(Instr.storeAt 2 (.pointer (some ⟨g,o+1,none⟩)) (.int .i64 (m+1))).run uB w=.ok () w':=by
 have h0:w.cell? ⟨g,o+1,none⟩=some (.int .i64 m):=(cell_of_row w g (o+1) cur T (0,0) hh).trans hc;have f0:=frz hh (o+1);have hlt:=jb hh
 go_enter Try.func100,Try.ntmps100
 go_wp2_with fail
 exact bodyPost_ret (v:=.int .i64 m) (by simp[results,Try.results100,go_sem,hr2]) rfl ⟨rfl,by simp[go_sem,h0,f0,hlt]⟩
def z9q:List X:=[.lit (.a [.s ⟨#[59]⟩,.i 2,.i 96]),.lit (.a [.s ⟨#[45,62]⟩,.i 2,.i 97]),.lit (.a [.s ⟨#[92,43]⟩,.i 1,.i 98]),.lit (.a [.s ⟨#[111,110,99,101]⟩,.i 1,.i 99])]
theorem qy2:qy 100=some (.st 99)∧(Ty.st 99).w=3∧flds 99=some [.str,.int .i64,.fnv]:=⟨rfl,rfl,rfl⟩
theorem zhu(c:Cx)(p:z6)(w:World):(AV.ar 100 z9q []).pd c p w (.agg z15.toArray):=by
 refine⟨_,z15,qy2.1,rfl,by rw[qy2.2.1];rfl,?_⟩;rw[qy2.2.1]
 have one:∀(s:ByteArray)(n m:Int),s.size≤LIM→q2p .i64 n=true→Rd w (FFD c.A p []) (.a [.s s,.i n,.i m]) (.st 99) [.string s,.int .i64 n,fnV m]:=fun s n m hs hn=>
  ⟨_,_,rfl,qy2.2.2,.str,_,[.string s],[.int .i64 n,fnV m],rfl,rfl,⟨rfl,rfl,hs⟩,.int .i64,_,[.int .i64 n],[fnV m],rfl,rfl,.inl ⟨_,rfl,rfl,hn⟩,.fnv,[],[fnV m],[],rfl,rfl,.inr ⟨rfl,rfl⟩,rfl,rfl⟩
 intro j d hj
 match j,hj with
 |0,hj=>injection hj with hj;subst hj;exact one _ _ _ (by decide) (by decide)
 |1,hj=>injection hj with hj;subst hj;exact one _ _ _ (by decide) (by decide)
 |2,hj=>injection hj with hj;subst hj;exact one _ _ _ (by decide) (by decide)
 |3,hj=>injection hj with hj;subst hj;exact one _ _ _ (by decide) (by decide)
 |j+4,hj=>simp[z9q,X.evs] at hj
def qs9:List (FuncId×Nat):=[(50,0),(100,1)]
theorem z7d:∀e∈qs9,∀(args:Array Value)(w:World),(callFunc e.1 args).run uB w=.ok (.enter e.1 args) w:=by
 intro e he args w;simp only[qs9,uN,vC,or_false] at he;rcases he with rfl|rfl<;>kernel_rfl
theorem z7y(args:Array Value)(w:World):(callFunc 74 args).run uB w=.ok (.enter 74 args) w:=by kernel_rfl
theorem z6p:∀e∈qs9,∀(w:World)(g o:Nat)(m:Int)(cur:Array Value)(T:TypeId),w.heap[g]? =some (.cells cur T (0,0))→cur[o+e.2]? =some (.int .i64 m)→IntKind.wrap .i64 (m+1)=m+1→wrap64 m=m→
  Calls uB e.1 #[.pointer (some ⟨g,o,none⟩)] w fun e' w'=>e'=.returned (.int .i64 m)∧(Instr.storeAt 2 (.pointer (some ⟨g,o+e.2,none⟩)) (.int .i64 (m+1))).run uB w=.ok () w':=by
 intro e he;simp only[qs9,uN,vC,or_false] at he;rcases he with rfl|rfl
 ·exact z8p
 ·exact zaw
def zhp(fl:Bool)(σ:St)(cs:List (X×Bool))(k:Nat)(y:Operand)(args:List Operand):Option (List X×St):=match opd σ cs y,args with
 |some (.fn f []),[]=>if uD f 74 then some ([],⟨q0a σ.t k (.ar 100 z9q []),σ.m⟩) else none
 | some (.fn f []), [x] => (match fl, lkA qs9 f with
  | true, some j => (match opd σ cs x with
   | some (.ref r path o _) => (match lkA σ.m r with
    | some e => (match q3w e.x e.t e.own (path ++ [j]) with
     |some (x',.int .i64,_,o')=>if uD o' (o+j) then(match qhn σ r (path++[j]) (o+j) (.int .i64) (qnx x' (.lit (.i 1))) [] [] with
      |some σ'=>some ([.rng .i64 (qnx x' (.lit (.i 1)))],⟨q0a σ'.t k (.v x' (.int .i64) [] []),σ'.m⟩)
      |none=>none) else none
     |_=>none)
    |none=>none)
   |_=>none)
  |_,_=>none)
 |_,_=>none
section
variable{c:Cx}{p:z6}{w w0:World}{S0:Nat→Prop}{a:Act}{σ σ':St}{cs:List (X×Bool)}{o:Oper}{d:List Deferred}{z:Nat}
theorem zjd(hb:Bs c.A c.F w0 S0 p w)(hf:SF c σ p w a)(hc:hold c.v cs=true)(hd:a.defers=d)(hz:a.tmps.size=z){k:Nat}(hk:k<z)(hdst:o.dst=some k){y:Operand}{args:Array Operand}{tys:Array TypeId}(heq:o.op=.call {callee:=.value y,args:=args,argTypes:=tys})
  {fl:Bool}(hfl:fl=true→∀te,c.F.mx te=0){ns:List X}(h:zhp fl σ cs k y args.toList=some (ns,σ'))(hn:∀n∈ns,n.says c.v){Q:Exit→Act→World→Prop}:o.wp uB a w (q09 c w0 S0 d z σ') Q:=by
 unfold zhp at h;split at h
 ·rename_i f hy hx;split at h
  ·rename_i hff;have hff:=gnN hff;subst hff;simp only[gnS] at h;obtain⟨-,rfl⟩:=h;obtain⟨vs,hfv,hvs⟩:=z4 hf hc hy;have hvs:vs=[]:=hvs;subst hvs;have hrun:(execOp a.eval o).run uB w=.ok (.enter 74 #[]) w:=by
    have hen:=z7y #[] w;have hargs:args= #[]:=by
     apply kN;exact hx
    subst hargs;generalize a.eval=r at *;simp[execOp,heq,resolve,Deferred.ofValue,hfv,invoke,hen]
   unfold Oper.wp;rw[hrun]
   show Calls uB 74 _ w _
   refine Calls.mono (zfe w) ?_;rintro e w'⟨rfl,ob,rfl⟩
   show q09 c w0 S0 d z _ (a.put o.dst _) _
   rw[hdst];have hst:=qx8 (A:=c.A) hb.bd ob;refine⟨p,z5x hb ob,?_,hd,by simp only[Act.put,uK];exact hz⟩;have hkeep:SF c σ p (w.alloc ob) a:=by
    refine⟨fun t' y hy=>?_,fun k' e he=>?_⟩
    ·obtain⟨v,h1,h2⟩:=hf.t t' y hy;exact⟨v,h1,AV.kept hst y v (fun _ _=>⟨rfl,rfl⟩) (fun _ _=>rfl) h2⟩
    ·exact(hf.m k' e he).kept hst (fun _ _=>⟨rfl,rfl⟩) ⟨rfl,rfl⟩
   exact hkeep.put (t:=k) (by rw[hz];exact hk) (zhu c p _)
  ·cases h
 ·rename_i f x hy hx;split at h
  ·rename_i j hj;split at h
   ·rename_i r path q t hx1;split at h
    ·rename_i e he;split at h
     ·rename_i x' ov o' hat;split at h
      ·rename_i ho;have ho:=gnN ho;subst ho;split at h
       ·rename_i σ1 hst;simp only[gnS] at h;obtain⟨rfl,rfl⟩:=h;obtain⟨vs,hfv,hvs⟩:=z4 hf hc hy;have hvs:vs=[]:=hvs;subst hvs;obtain⟨g,hg,hev,-⟩:=z4 hf hc hx1;obtain⟨g',cur,T',hg',hh,hty,hcon⟩:=hf.m r e he;obtain rfl:g=g':=gnI (hg.symm.trans hg');obtain⟨c0,c1,c2,hvs,hl,hcc⟩:=qkc (path++[j]) hat hcon;have hr:=qcn (hn _ uC);obtain⟨m,hm,rfl,hrm⟩:=hcc.int;have hcell:cur[q+j]? =some (.int .i64 m):=by
         rw[←uT,hvs,←hl,kP (kL _)];simp
        have hadd:(qnx x' (.lit (.i 1))).ev c.v=.i (m+1):=by rw[qja,hm];rfl
        rw[hadd] at hr;have hw1:=qbr hr;simp only[D.int] at hw1;have hT2:qy 2=some (.int .i64):=rfl;obtain⟨w',hw',p',hb',hf',hd',hz'⟩:=qn6 hb hf hd hz hT2 hg (fun e _ _=>hfl rfl _) (v:=.int .i64 (m+1)) (vs:=[.int .i64 (m+1)]) (t:=.int .i64) (xv:=qnx x' (.lit (.i 1))) (ownv:=[]) (depv:=[]) rfl (by rw[hadd];exact Con.of_rd (.inl ⟨_,rfl,rfl,hr⟩)) hst;have hmem:=q0y hj;have hrun:(execOp a.eval o).run uB w=.ok (.enter f #[a.eval x]) w:=by
         have hen:=z7d _ hmem #[a.eval x] w;have hargs:args= #[x]:=by
          apply kN;exact hx
         subst hargs;generalize a.eval=r at *;simp[execOp,heq,resolve,Deferred.ofValue,hfv,invoke,hen]
        unfold Oper.wp;rw[hrun]
        show Calls uB f _ w _
        rw[hev];refine Calls.mono (z6p _ hmem w g q m cur T' hh hcell hw1 (by have:=qbr hrm;rw[IntKind.wrap_i64] at this;unfold wrap64;exact this)) ?_;rintro e' w2⟨rfl,hw2⟩;have hww:w'=w2:=by
         rw[hw'] at hw2;injection hw2
        subst hww
        show q09 c w0 S0 d z _ (a.put o.dst _) _
        rw[hdst];refine⟨p',hb',?_,hd',by simp only[Act.put,uK];exact hz'⟩;exact hf'.put (t:=k) (by rw[hz'];exact hk) ⟨[.int .i64 m],rfl,by rw[hm];exact Con.of_rd (.inl ⟨_,rfl,rfl,hrm⟩)⟩
       ·cases h
      ·cases h
     ·cases h
    ·cases h
   ·cases h
  ·cases h
 ·cases h
end
end
section
namespace X
mutual
/-- Tokens below n alone. -/
def upto(n:Nat):X→Bool
 |.tok k=>kF k n
 |.lit _=>true
 |.fld x _=>upto n x
 |.get x i=>upto n x&&upto n i
 |.len x=>upto n x
 |.slen x=>upto n x
 |.sget x i=>upto n x&&upto n i
 |.add x y=>upto n x&&upto n y
 |.sub x y=>upto n x&&upto n y
 |.mul x y=>upto n x&&upto n y
 |.lt x y=>upto n x&&upto n y
 |.le x y=>upto n x&&upto n y
 |.eq x y=>upto n x&&upto n y
 |.not x=>upto n x
 |.and x y=>upto n x&&upto n y
 |.or x y=>upto n x&&upto n y
 |.imp x y=>upto n x&&upto n y
 |.ite c x y=>upto n c&&(upto n x&&upto n y)
 |.mk l=>uptos n l
 |.row l=>uptos n l
 |.app x y=>upto n x&&upto n y
 |.cut x lo hi=>upto n x&&(upto n lo&&upto n hi)
 |.set x _ y=>upto n x&&upto n y
 |.put x i y=>upto n x&&(upto n i&&upto n y)
 |.rep k x=>upto n k&&upto n x
 |.rng _ x=>upto n x
 |.call _ _ l=>uptos n l
 |.ok _ l=>uptos n l
 |.fn _ l=>uptos n l
def uptos(n:Nat):List X→Bool
 |[]=>true
 |x::l=>upto n x&&uptos n l
end
section
variable{n:Nat}{e e':Ev}
mutual
theorem ev_upto(hE:∀k,k<n→e.E k=e'.E k)(hS:e.S=e'.S):∀(x:X),upto n x=true→x.ev e=x.ev e'
 |.tok k,h=>hE k (by simpa[upto,uY] using h)
 |.lit _,h=>rfl
 |.fld x _,h=>by simp only[upto] at h;simp only[ev,ev_upto hE hS x h]
 |.get x i,h=>by simp only[upto,gnB] at h;simp only[ev,ev_upto hE hS x h.1,ev_upto hE hS i h.2]
 |.len x,h=>by simp only[upto] at h;simp only[ev,ev_upto hE hS x h]
 |.slen x,h=>by simp only[upto] at h;simp only[ev,ev_upto hE hS x h]
 |.sget x i,h=>by simp only[upto,gnB] at h;simp only[ev,ev_upto hE hS x h.1,ev_upto hE hS i h.2]
 |.add x i,h=>by simp only[upto,gnB] at h;simp only[ev,ev_upto hE hS x h.1,ev_upto hE hS i h.2]
 |.sub x i,h=>by simp only[upto,gnB] at h;simp only[ev,ev_upto hE hS x h.1,ev_upto hE hS i h.2]
 |.mul x i,h=>by simp only[upto,gnB] at h;simp only[ev,ev_upto hE hS x h.1,ev_upto hE hS i h.2]
 |.lt x i,h=>by simp only[upto,gnB] at h;simp only[ev,ev_upto hE hS x h.1,ev_upto hE hS i h.2]
 |.le x i,h=>by simp only[upto,gnB] at h;simp only[ev,ev_upto hE hS x h.1,ev_upto hE hS i h.2]
 |.eq x i,h=>by simp only[upto,gnB] at h;simp only[ev,ev_upto hE hS x h.1,ev_upto hE hS i h.2]
 |.not x,h=>by simp only[upto] at h;simp only[ev,ev_upto hE hS x h]
 |.and x i,h=>by simp only[upto,gnB] at h;simp only[ev,ev_upto hE hS x h.1,ev_upto hE hS i h.2]
 |.or x i,h=>by simp only[upto,gnB] at h;simp only[ev,ev_upto hE hS x h.1,ev_upto hE hS i h.2]
 |.imp x i,h=>by simp only[upto,gnB] at h;simp only[ev,ev_upto hE hS x h.1,ev_upto hE hS i h.2]
 |.ite c x i,h=>by simp only[upto,gnB] at h;simp only[ev,ev_upto hE hS c h.1,ev_upto hE hS x h.2.1,ev_upto hE hS i h.2.2]
 |.mk l,h=>by simp only[upto] at h;simp only[ev,evs_upto hE hS l h]
 |.row l,h=>by simp only[upto] at h;simp only[ev,evs_upto hE hS l h]
 |.app x i,h=>by simp only[upto,gnB] at h;simp only[ev,ev_upto hE hS x h.1,ev_upto hE hS i h.2]
 |.cut c x i,h=>by simp only[upto,gnB] at h;simp only[ev,ev_upto hE hS c h.1,ev_upto hE hS x h.2.1,ev_upto hE hS i h.2.2]
 |.set x _ i,h=>by simp only[upto,gnB] at h;simp only[ev,ev_upto hE hS x h.1,ev_upto hE hS i h.2]
 |.put c x i,h=>by simp only[upto,gnB] at h;simp only[ev,ev_upto hE hS c h.1,ev_upto hE hS x h.2.1,ev_upto hE hS i h.2.2]
 |.rep x i,h=>by simp only[upto,gnB] at h;simp only[ev,ev_upto hE hS x h.1,ev_upto hE hS i h.2]
 |.rng _ x,h=>by simp only[upto] at h;simp only[ev,ev_upto hE hS x h]
 |.call _ _ l,h=>by simp only[upto] at h;simp only[ev,evs_upto hE hS l h,hS]
 |.ok _ l,h=>by simp only[upto] at h;simp only[ev,evs_upto hE hS l h,hS]
 |.fn _ l,h=>by simp only[upto] at h;simp only[ev,evs_upto hE hS l h]
theorem evs_upto(hE:∀k,k<n→e.E k=e'.E k)(hS:e.S=e'.S):∀(l:List X),uptos n l=true→X.evs e l=X.evs e' l
 |[],h=>rfl
 |x::l,h=>by simp only[uptos,gnB] at h;simp only[evs,ev_upto hE hS x h.1,evs_upto hE hS l h.2]
end
end
end X
def zdw(tbl:Tbl):Bool:=match tbl with
 |e::_=>(match e.1.rs with
  |[(.st 4242424242,_)]=>true
  |_=>false)
 |[]=>false
def qm9(S:Nat→List D→Option (List D))(x:X):X:=if X.upto 0 x then .lit (x.ev ⟨fun _=>.u,S⟩) else x
theorem qg2{e:Ev}(x:X):(qm9 e.S x).ev e=x.ev e:=by
 unfold qm9;split
 ·rename_i h;exact X.ev_upto (n:=0) (e:=⟨fun _=>.u,e.S⟩) (e':=e) (fun k hk=>absurd hk (Nat.not_lt_zero _)) rfl x h
 ·rfl
theorem z1n{e:Ev}:∀(l:List X),X.evs e (l.map (qm9 e.S))=X.evs e l
 |[]=>rfl
 |x::l=>by simp only[uF,X.evs,qg2,z1n l]
mutual
/-- Data without elements in slices or maps hangs on no block. -/
def noRow:D→Bool
 |.a l=>z2i l
 |.r l=>l.isEmpty
 |.mp _=>false
 |_=>true
def z2i:List D→Bool
 |[]=>true
 |d::l=>noRow d&&z2i l
end
theorem Rd.noRow{w:World}{F F':Nat→Prop}(d:D):∀{t:Ty}{cs:List Value},Rd w F d t cs→noRow d=true→Rd w F' d t cs:=by
 induction d using D.ind with
 |hu=>intro t cs h _;exact h
 |hi n=>intro t cs h _;exact h
 |hb x=>intro t cs h _;exact h
 |hs x=>intro t cs h _;exact h
 | hr l ih =>
  intro t cs h hn;cases l with
  |nil=>
   obtain⟨E,te,A,cap,h1,h2,h3,h4,h5,h6,h7⟩:=h;exact⟨E,te,A,cap,h1,h2,h3,h4,h5,h6,by simp[RdE]⟩
  |cons x l=>simp[Go.Proofs.Ytbmaffphliignaa.noRow] at hn
 |hm l ih=>intro t cs h hn;simp[Go.Proofs.Ytbmaffphliignaa.noRow] at hn
 | ha l ih =>
  intro t cs h hn;obtain⟨T,fs,h1,h2,h3⟩:=h;refine⟨T,fs,h1,h2,?_⟩;rw[Go.Proofs.Ytbmaffphliignaa.noRow] at hn;clear h2
  induction l generalizing fs cs with
  |nil=>exact h3
  |cons x l ihl=>
   rw[z2i,gnB] at hn;obtain⟨t,ts,c1,c2,e1,e2,g1,g2⟩:=h3;exact⟨t,ts,c1,c2,e1,e2,ih x (by simp) g1 hn.1,ihl (fun d hd=>ih d (by simp[hd])) hn.2 _ g2⟩
def zg4:X→Ty→List (Nat×Nat)→List Nat→AV
 |.lit d,t,[],dep=>.v (.lit d) t [] (if noRow d then[] else dep)
 |x,t,own,dep=>.v x t own dep
theorem zav{c:Cx}{p:z6}{w:World}{x:X}{t:Ty}{own:List (Nat×Nat)}{dep:List Nat}{v:Value}(h:(AV.v x t own dep).pd c p w v):(zg4 x t own dep).pd c p w v:=by
 cases x with
 | lit d =>
  cases own with
  | nil =>
   show(AV.v (.lit d) t [] (if noRow d then[] else dep)).pd c p w v
   split
   ·rename_i hn;obtain⟨cs,hp,hc⟩:=h;exact⟨cs,hp,Con.of_rd (Rd.noRow (F:=FFD c.A p dep) _ (hc.rd (fun _ h=>h) (by simp)) hn)⟩
   ·exact h
  |cons _ _=>exact h
 |_=>exact h
mutual
def z7a(S:Nat→List D→Option (List D)):AV→AV
 |.v x t own dep=>zg4 (qm9 S x) t own dep
 |.rd x t dep wr=>.rd (qm9 S x) t dep wr
 |.tup l=>.tup (z9g S l)
 |.gd c a=>.gd c (z7a S a)
 |.nb x neg=>.nb (qm9 S x) neg
 |.ar E xs dep=>.ar E (xs.map (qm9 S)) dep
 |.ax k T n a=>.ax k T n (z7a S a)
 |a=>a
def z9g(S:Nat→List D→Option (List D)):List AV→List AV
 |[]=>[]
 |a::l=>z7a S a::z9g S l
end
mutual
theorem qjf{c:Cx}{p:z6}{w:World}:∀(x:AV){v:Value},x.pd c p w v→(z7a c.v.S x).pd c p w v
 |.v x t own dep,v,⟨cs,hp,hc⟩=>zav ⟨cs,hp,by rw[qg2];exact hc⟩
 |.rd x t dep wr,v,⟨b,o,cs,e,hf,hr,h0,hd,hw⟩=>⟨b,o,cs,e,hf,hr,h0,by rw[qg2];exact hd,hw⟩
 |.tup l,v,⟨vs,e,h⟩=>⟨vs,e,z1w l h⟩
 |.gd cs a,v,h=>⟨fun hc=>qjf a (h.1 hc),h.2⟩
 |.nb x neg,v,⟨b,e,h⟩=>⟨b,e,by rw[qg2];exact h⟩
 |.ar E xs dep,v,⟨te,cs,e1,e2,h3,h⟩=>⟨te,cs,e1,e2,by rw[List.length_map];exact h3,by rw[z1n];exact h⟩
 |.ax k T n a,v,⟨g,u,hg,e,hh,hn,h⟩=>⟨g,u,hg,e,hh,hn,qjf a h⟩
 |.any,v,h=>h
 |.undef,v,h=>h
 |.nilS,v,h=>h
 |.nilP,v,h=>h
 |.ref _ _ _ _,v,h=>h
 |.fn _ _,v,h=>h
 |.bx _ _ _,v,h=>h
 |.fr _ _,v,h=>h
 |.ff _ _ _ _ _ _ _ _,v,h=>h
 |.sn _ _,v,h=>h
 |.pt _ _ _ _,v,h=>h
 |.wf _ _ _ _ _ _ _,v,h=>h
 |.el _ _ _ _,v,h=>h
 |.hd _ _ _,v,h=>h
 |.lv _ _,v,h=>h
theorem z1w{c:Cx}{p:z6}{w:World}:∀(l:List AV){vs:List Value},pds c p w l vs→pds c p w (z9g c.v.S l) vs
 |[],vs,h=>h
 |a::l,vs,⟨v,r,e,h1,h2⟩=>⟨v,r,e,qjf a h1,z1w l h2⟩
end
def zk5(S:Nat→List D→Option (List D))(e:Ent):Ent:=⟨qm9 S e.x,e.t,e.own,e.dep⟩
def zh0(S:Nat→List D→Option (List D))(k:Option Nat)(σ:St):St:=⟨(match k with
 |some k=>(match lkA σ.t k with
  |some a=>q0a σ.t k (z7a S a)
  |none=>σ.t)
 |none=>σ.t),σ.m.map fun e=>(e.1,zk5 S e.2)⟩
theorem zf1{c:Cx}{σ:St}{p:z6}{w:World}{a:Act}{k:Option Nat}(h:SF c σ p w a):SF c (zh0 c.v.S k σ) p w a:=by
 refine⟨fun t x hx=>?_,fun j e he=>?_⟩
 ·unfold zh0 at hx;simp only at hx;split at hx
  ·rename_i k;split at hx
   ·rename_i y hy;by_cases hkt:k=t
    ·subst hkt;rw[q1o] at hx;injection hx with hx;subst hx;obtain⟨v,h1,h2⟩:=h.t k y hy;exact⟨v,h1,qjf y h2⟩
    ·rw[q4a hkt] at hx;exact h.t t x hx
   ·exact h.t t x hx
  ·exact h.t t x hx
 ·obtain⟨y,hy,rfl⟩:=q5l (f:=zk5 c.v.S) he;obtain⟨g,cs,T,hg,hh,hty,hcon⟩:=h.m j y hy;exact⟨g,cs,T,hg,hh,hty,by show Con c.A p w ((qm9 c.v.S y.x).ev c.v) y.t y.own y.dep cs.toList;rw[qg2];exact hcon⟩
inductive Eff where
 |val(x:AV)
 |st(σ:St)
def sts(r:Option St):Option (List X×Eff):=match r with
 |some σ=>some ([],.st σ)
 |none=>none
def vals(r:Option (List X×AV)):Option (List X×Eff):=match r with
 |some (ns,x)=>some (ns,.val x)
 |none=>none
def stn(r:Option (List X×St)):Option (List X×Eff):=match r with
 |some (ns,σ)=>some (ns,.st σ)
 |none=>none
def z9z(tbl:Tbl)(σ:St)(cs:List (X×Bool))(y:Operand):List X:=match opd σ cs y with
 |some (.rd _ _ _ (some (_,i,_,_,te)))=>(match flX tbl te with
  |some b=>[leX b i]
  |none=>[])
 | some (.ref k _ _ _) => (match lkA σ.m k with
  |some e=>if nvB e.t then(match flX tbl e.t with
   |some b=>[leX b (.lit (.i 0))]
   |none=>[]) else[]
  |none=>[])
 |_=>[]
def zjr(ns:List X)(r:Option St):Option (List X×Eff):=match r with
 |some σ=>some (ns,.st σ)
 |none=>none
def z5p(σ:St)(ks:List Nat):AV→AV
 |.ref k [] 0 t=>if yk ks k then(match lkA σ.m k with
  |some e=>if Ty.beq e.t t then .lv k t else .ref k [] 0 t
  |none=>.ref k [] 0 t) else .ref k [] 0 t
 |a=>a
def zb5(σ:St)(ks:List Nat):St:=⟨σ.t.map fun e=>(e.1,z5p σ ks e.2),σ.m⟩
def zgh(σ σ':St):List Nat:=(σ.m.map (·.1)).filter fun k=>(lkA σ'.m k).isNone
def qjh(tbl:Tbl)(σ:St)(cs:List (X×Bool))(k:Nat)(y:Operand)(args:List Operand):Option (List X×St):=match qs8 tbl σ cs k y args with
 | some (ns, σ') => (match zgh σ σ' with
  |[]=>some (ns,σ')
  |ks=>(match qs8 tbl (zb5 σ ks) cs k y args with
   |some r=>some r
   |none=>some (ns,σ')))
 |none=>none
def zcm(pin:Nat):List (Nat×Ent)→Option X
  |[]=>none
  | (_, e) :: l => match e.t with
    | .st _ => (match e.own.find? (fun y => uD y.2 pin) with
      |some y=>some (.fld e.x y.1)
      |none=>zcm pin l)
    |_=>zcm pin l
def zfl(m:List (Nat×Ent)):AV→Option (X×AV)
 |.v x (.row E) [(0,pin)] dep=>(match zcm pin m with
  |some y=>if X.beq x y then none else some (.eq y x,.v y (.row E) [(0,pin)] dep)
  |none=>none)
 |_=>none
def qrz(m:List (Nat×Ent)):List (Nat×AV)→List X×List (Nat×AV)
  |[]=>([],[])
  | (t, a) :: l => match zfl m a with
    |some (n,a')=>(n::(qrz m l).1,(t,a')::(qrz m l).2)
    |none=>((qrz m l).1,(t,a)::(qrz m l).2)
def kpB(tbl:Tbl):Bool:=tbl.any fun e=> !e.1.kp.isEmpty
def zje(tbl:Tbl)(r:List X×St):List X×St:=if kpB tbl then(r.1++(qrz r.2.m r.2.t).1,⟨(qrz r.2.m r.2.t).2,r.2.m⟩) else r
def qsj(own:List (Nat×Nat)):List (Nat×Nat):=own.filter fun y=>kF y.1 2
def z4v(e:Ent):Ent:=⟨e.x,e.t,qsj e.own,uni (e.own.map (·.2)) e.dep⟩
def zgd(σ:St)(ks:List Nat):St:=⟨σ.t,σ.m.map fun e=>(e.1,if yk ks e.1 then z4v e.2 else e.2)⟩
def zk9(σ:St)(cs:List (X×Bool))(args:List Operand):List Nat:=args.filterMap fun y=>match opd σ cs y with
 |some (.ref k [] 0 _)=>some k
 |_=>none
def qrn(tbl:Tbl)(σ:St)(cs:List (X×Bool))(k:Nat)(y:Operand)(args:List Operand):Option (List X×St):=match qjh tbl σ cs k y args with
 |some r=>some r
 | none => if tbl.any (fun e => e.1.ar.any fun a => match a with
   |.ref _ o=>(match o.f with
    |some (_::_)=>true
    |_=>false)
   |_=>false) then qjh tbl (zgd σ (zk9 σ cs args)) cs k y args else none
def z5i(tbl:Tbl)(σ:St)(cs:List (X×Bool))(k:Nat)(y:Operand)(args:List Operand):Option (List X×St):=(qrn tbl σ cs k y args).map (zje tbl)
def z97:AV→Option X
 |.v x (.row E) [] _=>if qlu E then some x else none
 |.el _ _ _ (.v x (.row E) [] _)=>if qlu E then some x else none
 |_=>none
def z94(fb:Ty→Option X)(σ:St)(cs:List (X×Bool))(k:Nat)(T:TypeId)(x y:Operand):Option (List X×St):=match x with
 |.tmp tb=>(match(lkA σ.t tb).bind z97 with
  |some x'=>(qwh fb ⟨q0a σ.t tb .nilS,σ.m⟩ cs k T x y).map fun r=>(.eq x' (.lit .u)::r.1,r.2)
  |none=>none)
 |_=>none
def z8q(T:List (Nat×AV))(r:Nat)(i:X):List (Nat×AV)→Option AV
  |[]=>none
  | (s, _) :: l => match lkA T s with
    |some (.el (some I) r' i' a)=>if uD r' r&&X.beq i' i then some (.el (some I) r' i' a) else z8q T r i l
    |_=>z8q T r i l
def hdA(r:Nat):AV→AV
 |.v x (.row E) [(0,r')] dep=>if uD r' r then .hd r' E x else .v x (.row E) [(0,r')] dep
 |a=>a
def bkA(I:ElI)(r:Nat)(E:TypeId)(dp:List Nat):AV→AV
 |.hd r' E' x=>if uD r' r&&(uD E' E&&X.beq x (.fld I.x I.j)) then .v x (.row E') [(0,r')] dp else .hd r' E' x
 |a=>a
def z2l(σ:St)(tb:Nat):St:=match lkA σ.t tb with
 | some (.el (some I) r i (.v x2 (.row F) [] dep2)) => (match I.t with
  | .st S => (match flds S with
   |some fs=>(match fs[I.j]? with
    |some (.row E)=>if X.beq I.y x2&&qwf E (.row F) then⟨σ.t.map fun e=>(e.1,bkA I r E (uni I.dep dep2) e.2),q0a σ.m I.k ⟨I.x,I.t,q5r I.own I.j (some r),uni I.dep dep2⟩⟩ else σ
    |_=>σ)
   |none=>σ)
  |_=>σ)
 |_=>σ
def zc2(fb:Ty→Option X)(σ:St)(cs:List (X×Bool))(k:Nat)(T:TypeId)(x y:Operand):Option (List X×St):=match x with
 | .tmp tb => (match lkA σ.t tb with
  |some (.el none r i _)=>(match z8q σ.t r i σ.t with
   |some a=>(qwh fb ⟨q0a (σ.t.map fun e=>(e.1,hdA r e.2)) tb a,σ.m⟩ cs k T x y).map fun s=>(s.1,z2l s.2 tb)
   |none=>none)
  |_=>none)
 |_=>none
def z2x(fb:Ty→Option X)(σ:St)(cs:List (X×Bool))(k:Nat)(T:TypeId)(x y:Operand):Option (List X×St):=match zc2 fb σ cs k T x y with
 |some r=>some r
 |none=>z94 fb σ cs k T x y
def z3o(fb:Ty→Option X)(σ:St)(cs:List (X×Bool))(k:Nat)(T:TypeId)(x y:Operand):Option (List X×St):=match qwh fb σ cs k T x y with
 | some (ns, σ') => (match zgh σ σ' with
  |[]=>some (ns,σ')
  |ks=>(match qwh fb (zb5 σ ks) cs k T x y with
   |some r=>some r
   |none=>some (ns,σ')))
 |none=>z2x fb σ cs k T x y
def z6k(P:Program)(tbl:Tbl)(σ:St)(cs:List (X×Bool))(k:Nat)(o:Oper)(c:Call):Option (List X×Eff):=match c.callee with
 | .value y => (match zbx σ cs k y c.args.toList with
  |some σ'=>some ([],.st σ')
  |none=>(match zjh σ cs k y c.args.toList with
  |some σ'=>some ([],.st σ')
  | none => (match (if (z1t tbl).isEmpty then zg9 σ cs k y c.args.toList else none) with
   |some σ'=>some ([],.st σ')
   |none=>(match zhp (z1t tbl).isEmpty σ cs k y c.args.toList with
    |some r=>stn (some r)
    |none=>stn (z5i tbl σ cs k y c.args.toList)))))
 |.builtin .append=>(match c.args.toList,c.argTypes.toList with
  |[x,y],[T,T']=>if uD T T' then stn (z3o (flX tbl) σ cs k T x y) else stn (z2p (flX tbl) σ cs k T T' x y)
  |_,_=>none)
 |_=>vals (quiet P σ cs o)
def qwz(P:Program)(tbl:Tbl)(σ:St)(cs:List (X×Bool))(o:Oper):Option (List X×Eff):=match o.dst with
 |none=>(match o.op with
  |.store T y x=>zjr (z9z tbl σ cs y) (qxu P σ cs T y x)
  |.mapUpdate T m k x=>sts (qxn σ cs T m k x)
  |.insert T m k x=>sts (qxn σ cs T m k x)
  |_=>none)
 | some k => match o.op with
  |.alloc T=>sts (qxl P σ k T)
  |.box T y=>sts (zc1 σ cs k T y)
  |.buildSlice T n ps=>sts (z8g σ cs k T n ps.toList)
  |.makeSlice T x y=>stn (z30 σ cs k T x y)
  |.makeMap T r=>sts (z96 σ cs k T r)
  | .build T ps => (match qyc σ cs k T ps.toList with
   |some x=>some ([],.val x)
   |none=>(match zad P σ cs T ps.toList with
    |some x=>some ([],.val x)
    |none=>none))
  |.call c=>z6k P tbl σ cs k o c
  |_=>vals (quiet P σ cs o)
def zdq:X→Bool
 |.lit d=>d.tt
 |_=>false
theorem ze5{e:Ev}:∀{x:X},zdq x=true→(x.ev e).tt=true:=fun{x}h=>by
 unfold zdq at h;split at h
 ·exact h
 ·cases h
def zk2(tbl:Tbl)(k:Option Nat)(r:List X×Eff):List X×Eff:=if zdw tbl then((r.1.map (qm9 (ym tbl))).filter fun x=> !zdq x,match r.2 with
 |.val x=>.val (z7a (ym tbl) x)
 |.st σ=>.st (zh0 (ym tbl) k σ)) else r
def step(P:Program)(tbl:Tbl)(σ:St)(cs:List (X×Bool))(o:Oper):Option (List X×Eff):=(qwz P tbl σ cs o).map (zk2 tbl o.dst)
def Eff.on(σ:St)(k:Option Nat):Eff→Option St
 |.val x=>(match k with
  |some k=>some ⟨q0a σ.t k x,σ.m⟩
  |none=>none)
 |.st σ'=>some σ'
inductive Gd where
 |yes
 |no
 |ask(cs:List (X×Bool))
def qwk(b:Bool)(cs:List (X×Bool)):AV→Option Gd
 |.v x .bool _ _=>(match x with
  |.lit (.b v)=>if v==b then some (match cs with|[]=>.yes|_=>.ask cs) else some .no
  |_=>some (.ask (cs++[(x,b)])))
 |.undef=>some .no
 |_=>none
def guardOf(ds:List (Option Tmp))(σ:St)(g:Nat)(b:Bool):Option Gd:=match(ds[g]?).join with
 |some t=>(match lkA σ.t t with
  |some (.gd cs a)=>qwk b cs a
  |some a=>qwk b [] a
  |none=>none)
 |none=>none
def zg6(σ:St):Option Nat→St
 |some k=>⟨q0a σ.t k .undef,σ.m⟩
 |none=>σ
def under(σ:St)(k:Option Nat)(cs:List (X×Bool)):List X×Eff→Option (List X×St)
  | (ns, .val x) => (match k with
    |some k=>some (ns.map (z02 cs),⟨q0a σ.t k (.gd cs x),σ.m⟩)
    |none=>none)
  |(ns,.st σ1)=>some (ns.map (z02 cs),merge cs k σ1 σ)
def qzr(σ:St)(k:Option Nat):List X×Eff→Option (List X×St)
  | (ns, e) => match e.on σ k with
    |some σ'=>some (ns,σ')
    |none=>none
def stepG(P:Program)(tbl:Tbl)(ds:List (Option Tmp))(σ:St)(o:Oper):Option (List X×St):=match o.guard with
 |none=>(step P tbl σ [] o).bind (qzr σ o.dst)
 |some (g,b)=>match guardOf ds σ g b with
  |some .yes=>(step P tbl σ [] o).bind (qzr σ o.dst)
  |some .no=>some ([],zg6 σ o.dst)
  |some (.ask cs)=>(step P tbl σ cs o).bind (under σ o.dst cs)
  |none=>none
def isVar:Op→Bool
 |.alloc _=>true
 |.box _ _=>true
 |_=>false
def qej(lo z:Nat)(o:Oper):Bool:=match o.dst with
 |some k=>kF k z&&(!isVar o.op||(kO lo k&&kF k VB))
 |none=>true
section
variable{c:Cx}{p:z6}{w w0:World}{S0:Nat→Prop}{a:Act}{σ σ':St}{cs:List (X×Bool)}{o:Oper}{d:List Deferred}{z:Nat}{tbl:Tbl}
def qyp(c:Cx)(w0:World)(S0:Nat→Prop)(d:List Deferred)(z:Nat)(σ:St)(p:z6)(w:World)(a:Act)(k:Option Nat):Eff→Act→World→Prop
 |.val x,a',w'=>w'=w∧∃v,a'=a.put k v∧x.pd c p w v
 |.st σ',a',w'=>q09 c w0 S0 d z σ' a' w'
theorem HS.fb(hS:HS c tbl):z7g c (flX tbl):=fun te=>by
 have h:=hS.f te;unfold flM at h;unfold flX;split
 ·rename_i b hb;obtain⟨n,hn,rfl⟩:=uM.1 hb;rw[hn] at h
  show c.F.mx te≤(((c.v.S n []).getD []).getD 0 .u).int.toNat
  rw[hS.s];exact h
 ·rename_i hb;have hb:flI te 0 tbl=none:=by simpa using hb
  rw[hb] at h;exact Nat.le_zero.1 h
theorem zfj(hS:HS c tbl){y:Operand}{xx:X}{t:Ty}{dep:List Nat}{pin:Nat}{i:X}{path:List Nat}{q:Nat}{te:Ty}(hy:opd σ cs y=some (.rd xx t dep (some (pin,i,path,q,te))))(hn:∀n∈z9z tbl σ cs y,n.says c.v):c.F.mx te≤(i.ev c.v).int.toNat:=by
 have h:=hS.fb te;unfold z9z at hn;rw[hy] at hn;simp only at hn;split at hn
 ·rename_i b hb;rw[hb] at h;have h2:=q0h (hn _ uC);have h1:c.F.mx te≤(b.ev c.v).int.toNat:=h;omega
 ·rename_i hb;rw[hb] at h;have h1:c.F.mx te=0:=h;omega
theorem zdb(hS:HS c tbl){y:Operand}{k:Nat}{path:List Nat}{q:Nat}{t:Ty}{e:Ent}(hy:opd σ cs y=some (.ref k path q t))(he:lkA σ.m k=some e)(hv:nvB e.t=true)(hn:∀n∈z9z tbl σ cs y,n.says c.v):c.F.mx e.t=0:=by
 have h:=hS.fb e.t;unfold z9z at hn;rw[hy] at hn;simp only[he,hv,if_true] at hn;split at hn
 ·rename_i b hb;rw[hb] at h;have h2:=q0h (hn _ uC);have h1:c.F.mx e.t≤(b.ev c.v).int.toNat:=h;have h3:((X.lit (.i 0)).ev c.v).int=0:=rfl;omega
 ·rename_i hb;rw[hb] at h;exact h
theorem qk5{x:AV}(h:q6z o a c p w x){Q:Exit→Act→World→Prop}{σ0:St}:o.wp uB a w (qyp c w0 S0 d z σ0 p w a o.dst (.val x)) Q:=by
 obtain⟨v,hr,hv⟩:=h;unfold Oper.wp;rw[hr];exact⟨rfl,v,rfl,hv⟩
theorem z9r(hf:SF c σ p w a){ks:List Nat}:∀(x:AV){v:Value},x.pd c p w v→(z5p σ ks x).pd c p w v:=fun x v h=>by
 unfold z5p;split
 ·rename_i k t;split
  ·split
   ·rename_i e he;split
    ·rename_i ht;rw[Ty.beq_iff] at ht;obtain⟨g,cs,T,hg,hh,hty,hcon⟩:=hf.m k e he;obtain⟨g',hg',e',hat⟩:=h;obtain rfl:=gnI (hg.symm.trans hg');refine⟨g,cs,T,⟨hg,hat⟩,e',hh,ht▸hty,?_⟩;rw[←Array.length_toList,hcon.len.1,ht]
    ·exact h
   ·exact h
  ·exact h
 ·exact h
theorem z29(hf:SF c σ p w a)(ks:List Nat):SF c (zb5 σ ks) p w a:=by
 refine⟨fun t x hx=>?_,hf.m⟩;obtain⟨y,hy,rfl⟩:=q5l (f:=z5p σ ks) hx;obtain⟨u,h1,h2⟩:=hf.t t y hy;exact⟨u,h1,z9r hf y h2⟩
theorem qw8(htb:q35 tbl)(hS:HS c tbl)(hb:Bs c.A c.F w0 S0 p w)(hf:SF c σ p w a)(hc:hold c.v cs=true)(hd:a.defers=d)(hz:a.tmps.size=z){k:Nat}(hk:k<z)(hdst:o.dst=some k){y:Operand}{args:Array Operand}{tys:Array TypeId}(heq:o.op=.call {callee:=.value y,args:=args,argTypes:=tys})
  {ns:List X}{σ':St}(h:qjh tbl σ cs k y args.toList=some (ns,σ'))(hn:∀n∈ns,n.says c.v){Q:Exit→Act→World→Prop}(hQ:qjw tbl w0 S0 d Q):o.wp uB a w (q09 c w0 S0 d z σ') Q:=by
 unfold qjh at h;split at h
 ·rename_i ns1 σ1 h1;split at h
  ·simp only[gnS] at h;obtain⟨rfl,rfl⟩:=h;exact qzg htb hS hb hf hc hd hz hk hdst heq h1 hn hQ
  ·split at h
   ·rename_i r h2;simp only[uG] at h;subst h;exact qzg htb hS hb (z29 hf _) hc hd hz hk hdst heq h2 hn hQ
   ·simp only[gnS] at h;obtain⟨rfl,rfl⟩:=h;exact qzg htb hS hb hf hc hd hz hk hdst heq h1 hn hQ
 ·cases h
theorem zbh{own:List (Nat×Nat)}{j:Nat}:lkA (qsj own) j=if kF j 2 then lkA own j else none:=by
 induction own with
 |nil=>simp[qsj,lkA]
 | cons e l ih =>
  obtain⟨i,q⟩:=e;have ih':lkA (l.filter fun y=>kF y.1 2) j=if kF j 2 then lkA l j else none:=ih;unfold qsj;by_cases hi:kF i 2=true
  ·rw[List.filter_cons_of_pos (by simpa using hi)];by_cases hj:i=j
   ·subst hj;rw[qb,qb,if_pos hi]
   ·rw[qf hj,qf hj];exact ih'
  ·rw[List.filter_cons_of_neg (by simpa using hi)];by_cases hj:i=j
   ·subst hj;rw[ih',if_neg hi,if_neg hi]
   ·rw[qf hj];exact ih'
theorem Fl.weak{A:Nat→Prop}{p:z6}{w:World}{dep dep':List Nat}{own:List (Nat×Nat)}(hd:∀x∈dep,x∈dep')(hp:∀x∈own.map (·.2),x∈dep'){j:Nat}{d:D}{t:Ty}{cs:List Value}(h:Fl A p w dep (lkA own j) d t cs):Fl A p w dep' (lkA (qsj own) j) d t cs:=by
 rw[zbh];split
 ·exact h.mono hd
 ·exact h.rd hd fun x hx=>hp x (q6j hx)
theorem Fls.weak{A:Nat→Prop}{p:z6}{w:World}{dep dep':List Nat}{own:List (Nat×Nat)}(hd:∀x∈dep,x∈dep')(hp:∀x∈own.map (·.2),x∈dep'):∀{ds:List D}{j:Nat}{fs:List Ty}{cs:List Value},Fls A p w dep own j ds fs cs→Fls A p w dep' (qsj own) j ds fs cs
 |[],_,_,_,h=>h
 |d::ds,j,fs,cs,⟨t,ts,c1,c2,e1,e2,h1,h2⟩=>⟨t,ts,c1,c2,e1,e2,h1.weak hd hp,Fls.weak hd hp h2⟩
theorem Con.weak{A:Nat→Prop}{p:z6}{w:World}{dep dep':List Nat}{own:List (Nat×Nat)}(hd:∀x∈dep,x∈dep')(hp:∀x∈own.map (·.2),x∈dep'){d:D}{t:Ty}{cs:List Value}(h:Con A p w d t own dep cs):Con A p w d t (qsj own) dep' cs:=by
 unfold Con at h⊢;split at h
 ·obtain⟨fs,ds,hf,e,h⟩:=h;exact⟨fs,ds,hf,e,h.weak hd hp⟩
 ·exact Fl.weak hd hp h
theorem z9s(hf:SF c σ p w a)(ks:List Nat):SF c (zgd σ ks) p w a:=by
 refine⟨hf.t,fun k e he=>?_⟩;obtain⟨e0,h0,rfl⟩:∃e0,lkA σ.m k=some e0∧e=if yk ks k then z4v e0 else e0:=by
  have:∀l:List (Nat×Ent),lkA (l.map fun e=>(e.1,if yk ks e.1 then z4v e.2 else e.2)) k=some e→∃e0,lkA l k=some e0∧e=if yk ks k then z4v e0 else e0:=by
   intro l
   induction l with
   |nil=>intro h;cases h
   | cons x l ih =>
    obtain⟨i,y⟩:=x;intro h;rw[uF] at h;by_cases hi:i=k
    ·subst hi;rw[qb] at h;injection h with h;exact⟨y,qb,h.symm⟩
    ·rw[qf hi] at h;rw[qf hi];exact ih h
  exact this _ he
 split
 ·obtain⟨g,cur,T',h1,h2,h3,h4⟩:=hf.m k e0 h0;exact⟨g,cur,T',h1,h2,h3,h4.weak (fun x hx=>q5f hx) (fun x hx=>q2m hx)⟩
 ·exact hf.m k e0 h0
theorem qwv(htb:q35 tbl)(hS:HS c tbl)(hb:Bs c.A c.F w0 S0 p w)(hf:SF c σ p w a)(hc:hold c.v cs=true)(hd:a.defers=d)(hz:a.tmps.size=z){k:Nat}(hk:k<z)(hdst:o.dst=some k){y:Operand}{args:Array Operand}{tys:Array TypeId}(heq:o.op=.call {callee:=.value y,args:=args,argTypes:=tys})
  {ns:List X}{σ':St}(h:qrn tbl σ cs k y args.toList=some (ns,σ'))(hn:∀n∈ns,n.says c.v){Q:Exit→Act→World→Prop}(hQ:qjw tbl w0 S0 d Q):o.wp uB a w (q09 c w0 S0 d z σ') Q:=by
 unfold qrn at h;split at h
 ·rename_i r h1;simp only[uG] at h;subst h;exact qw8 htb hS hb hf hc hd hz hk hdst heq h1 hn hQ
 ·split at h
  ·exact qw8 htb hS hb (z9s hf _) hc hd hz hk hdst heq h hn hQ
  ·cases h
theorem qz6{m:List (Nat×Ent)}:∀{l:List (Nat×AV)}{t:Nat}{x:AV},lkA (qrz m l).2 t=some x→∃y,lkA l t=some y∧(x=y∨∃n,zfl m y=some (n,x)∧n∈(qrz m l).1)
  |[],t,x,h=>by cases h
  | (j, a) :: l, t, x, h => by
    unfold qrz at h⊢;split at h
    · rename_i n a' ha;by_cases hj:j=t
      · subst hj;rw[qb] at h;injection h with h;subst h;exact⟨a,qb,.inr ⟨n,ha,by simp[ha]⟩⟩
      · rw[qf hj] at h;obtain⟨y,h1,h2⟩:=qz6 h;refine⟨y,by rw[qf hj];exact h1,h2.imp id fun⟨n',h3,h4⟩=>⟨n',h3,by simp[ha,h4]⟩⟩
    · rename_i ha;by_cases hj:j=t
      · subst hj;rw[qb] at h;injection h with h;subst h;exact⟨a,qb,.inl rfl⟩
      · rw[qf hj] at h;obtain⟨y,h1,h2⟩:=qz6 h;exact⟨y,by rw[qf hj];exact h1,h2.imp id fun⟨n',h3,h4⟩=>⟨n',h3,by simp[ha,h4]⟩⟩
theorem zem{m:List (Nat×Ent)}{x y:AV}{n:X}(h:zfl m y=some (n,x))(hn:n.says c.v){v:Value}(hv:y.pd c p w v):x.pd c p w v:=by
 unfold zfl at h;split at h
 ·split at h
  ·rename_i y' _;split at h
   ·cases h
   ·simp only[gnS] at h;obtain⟨rfl,rfl⟩:=h;obtain⟨cs,h1,h2⟩:=hv;refine⟨cs,h1,?_⟩;have:y'.ev c.v=_:=of_decide_eq_true (show decide _=true from hn);rw[this];exact h2
  ·cases h
 ·cases h
theorem zhq(hf:SF c σ p w a)(hn:∀n∈(qrz σ.m σ.t).1,n.says c.v):SF c ⟨(qrz σ.m σ.t).2,σ.m⟩ p w a:=by
 refine⟨fun t x hx=>?_,hf.m⟩;obtain⟨y,h1,h2⟩:=qz6 hx;obtain⟨v,h3,h4⟩:=hf.t t y h1;rcases h2 with rfl|⟨n,h5,h6⟩
 ·exact⟨v,h3,h4⟩
 ·exact⟨v,h3,zem h5 (hn n h6) h4⟩
theorem z83(htb:q35 tbl)(hS:HS c tbl)(hb:Bs c.A c.F w0 S0 p w)(hf:SF c σ p w a)(hc:hold c.v cs=true)(hd:a.defers=d)(hz:a.tmps.size=z){k:Nat}(hk:k<z)(hdst:o.dst=some k){y:Operand}{args:Array Operand}{tys:Array TypeId}(heq:o.op=.call {callee:=.value y,args:=args,argTypes:=tys})
  {ns:List X}{σ':St}(h:z5i tbl σ cs k y args.toList=some (ns,σ'))(hn:∀n∈ns,n.says c.v){Q:Exit→Act→World→Prop}(hQ:qjw tbl w0 S0 d Q):o.wp uB a w (q09 c w0 S0 d z σ') Q:=by
 obtain⟨⟨ns1,σ1⟩,h1,h2⟩:=uM.1 h;unfold zje at h2;split at h2
 ·simp only[uR] at h2;obtain⟨rfl,rfl⟩:=h2;refine Oper.wp_mono ?_ (qwv htb hS hb hf hc hd hz hk hdst heq h1 (fun n hm=>hn n (uH _ hm)) hQ);rintro a' w'⟨p',hb',hf',hd',hz'⟩;exact⟨p',hb',zhq hf' fun n hm=>hn n (uE _ hm),hd',hz'⟩
 ·simp only[uR] at h2;obtain⟨rfl,rfl⟩:=h2;exact qwv htb hS hb hf hc hd hz hk hdst heq h1 hn hQ
theorem SF.putT(hf:SF c σ p w a){t:Nat}{x:AV}{v:Value}(hv:a.tmps[t]? =some v)(hx:x.pd c p w v):SF c ⟨q0a σ.t t x,σ.m⟩ p w a:=by
 refine⟨fun s y hs=>?_,hf.m⟩;by_cases hst:t=s
 ·subst hst;have hs':lkA (q0a σ.t t x) t=some y:=hs;rw[q1o] at hs';injection hs' with hs';subst hs';exact⟨v,hv,hx⟩
 ·have hs':lkA (q0a σ.t t x) s=some y:=hs;rw[q4a hst] at hs';exact hf.t s y hs'
theorem zbk{y:AV}{x:X}{v:Value}(h:z97 y=some x)(hy:y.pd c p w v)(hu:x.ev c.v=.u):v=.slice none 0 0:=by
 have key:∀{E:TypeId}{dep:List Nat},AV.pd c p w (.v x (.row E) [] dep) v→v=.slice none 0 0:=fun{E dep}h=>by
  obtain⟨vs,hp,hc⟩:=h;have hvs:vs=[v]:=hp;subst hvs;have hc':Rd w (FFD c.A p dep) (x.ev c.v) (.row E) [v]:=hc;rw[hu] at hc';obtain⟨E',te,-,-,-,e⟩:=hc';injection e
 unfold z97 at h;split at h
 ·split at h
  ·injection h with h;subst h;exact key hy
  ·cases h
 ·split at h
  ·injection h with h;subst h;exact key hy.2
  ·cases h
 ·cases h
theorem qyt{T:List (Nat×AV)}{r:Nat}{i:X}{y:AV}:∀{l:List (Nat×AV)},z8q T r i l=some y→∃t I b,lkA T t=some (.el (some I) r i b)∧y=.el (some I) r i b
  |[],h=>by cases h
  | (s, _) :: l, h => by
    unfold z8q at h;split at h
    · rename_i I r' i' b hs;split at h
      · rename_i hok;simp only[gnB] at hok;obtain rfl:=gnN hok.1;obtain rfl:=X.beq_ok _ _ hok.2;injection h with h;exact⟨s,I,b,hs,h.symm⟩
      · exact qyt h
    · exact qyt h
theorem zhk{r:Nat}{y:AV}{v:Value}(hy:y.pd c p w v):(hdA r y).pd c p w v:=by
 unfold hdA;split
 ·rename_i x E r' dep;split
  ·obtain⟨vs,hp,hc⟩:=hy;have hvs:vs=[v]:=hp;subst hvs;have hc':Fl c.A p w dep (some r') (x.ev c.v) (.row E) [v]:=hc;rcases hc'.symm with⟨K,V,kt,vt,lm,gm,es,clock,em,-⟩|⟨E1,te1,l,v1,r1,r2,r3,r4,r5⟩
   ·cases em
   injection r1 with r1;injection r4 with r4;subst r1 r4;refine⟨te1,l,r2,r3,?_⟩;rcases r5 with h|⟨g,cap,cur,e1,e2,e3,e4,e5,e6,e7,-⟩
   ·exact .inl h
   ·exact .inr ⟨g,cap,cur,e1,e2,e3,e4,e5,e6,e7⟩
  ·exact hy
 ·exact hy
theorem z7o{r:Nat}{i:X}{I:ElI}{E F:TypeId}{l:List D}{v v1:Value}{x2:X}{dep2:List Nat}(hlc:z32 c p w r i v)(hte:qy E=some (.row F))(hhd:HdR p w r E (.row F) l v1)(hy:∀d,l[(i.ev c.v).int.toNat]? =some d→d=x2.ev c.v)(hx:Rd w (FFD c.A p dep2) (x2.ev c.v) (.row F) [v])
  (hoth:∀n(h:n<l.length),n≠(i.ev c.v).int.toNat→∃g1 vs,p r=some g1∧w.rangeAt g1 (n * (Ty.row F).w) vs∧Rd w (FFD c.A p I.dep) l[n] (.row F) vs):qpu c.A p w (uni I.dep dep2) r E (.row F) l v1:=by
 rcases hhd with h|⟨g,cap,cur,e1,e2,e3,e4,e5,e6,e7⟩
 ·exact .inl h
 ·refine .inr ⟨g,cap,cur,e1,e2,e3,e4,e5,e6,e7,fun n hn=>?_⟩;by_cases hni:n=(i.ev c.v).int.toNat
  ·subst hni;obtain⟨g',cur',E',te',q1,q2,q3,q4,q5⟩:=hlc;obtain rfl:=gnI (q1.symm.trans e2);rw[e3] at q2;injection q2 with q2;injection q2 with q2 _;subst q2;refine⟨[v],fun j u hj=>?_,?_⟩
   ·cases j with
    |zero=>
     simp only[uV,uG] at hj;subst hj;rw[cell_of_row w g' _ cur E (0,0) e3];simpa[Ty.w] using q5
    |succ j=>simp at hj
   ·rw[hy _ (gnK hn)];exact hx.mono fun b _ hb=>hb.mono fun y hy=>q5f hy
  ·obtain⟨g1,vs,q1,q2,q3⟩:=hoth n hn hni;obtain rfl:=gnI (q1.symm.trans e2);exact⟨vs,q2,q3.mono fun b _ hb=>hb.mono fun y hy=>q2m hy⟩
theorem z6n(hf:SF c σ p w a)(tb:Nat):SF c (z2l σ tb) p w a:=by
 unfold z2l;split
 ·rename_i I r i x2 F dep2 hI;split
  ·rename_i S hS;split
   ·rename_i fs hfs;split
    ·rename_i E hfj;split
     ·rename_i hok;simp only[gnB] at hok;obtain⟨hyx,hEF⟩:=hok;have hyx:=X.beq_ok _ _ hyx;have hte:=qjx hEF;obtain⟨v,hv1,⟨hlc,hel⟩,vs,hp,hc⟩:=hf.t tb _ hI;have hvs:vs=[v]:=hp;subst hvs;have hx:Rd w (FFD c.A p dep2) (x2.ev c.v) (.row F) [v]:=hc;obtain⟨g,cs,T,S',fs',ds,E',te,l,v1,q1,q2,q3,q4,q5,q6,q7,q8,q9,q10,q11,q12,q13,q14⟩:=(show qv7 c p w r i I from hel);rw[hS] at q4;injection q4 with q4;subst q4;obtain rfl:=gnI (q5.symm.trans hfs);rw[hfj] at q8;injection q8 with q8;injection q8 with q8;subst q8;obtain rfl:=gnI (q9.symm.trans hte);have hy:∀d,l[(i.ev c.v).int.toNat]? =some d→d=x2.ev c.v:=fun d hd=>by rw[q13 d hd,hyx]
      have hown:∀v',HdR p w r E (.row F) l v'→qpu c.A p w (uni I.dep dep2) r E (.row F) l v':=fun v' h'=>z7o hlc hte h' hy hx q14;have hE:q4l c p w I.k ⟨I.x,I.t,q5r I.own I.j (some r),uni I.dep dep2⟩:=by
       refine⟨g,cs,T,q1,q2,q3,?_⟩
       show Con c.A p w (I.x.ev c.v) I.t _ _ _
       rw[hS];obtain⟨c0,c1,c2,s1,s2,s3,s4⟩:=q7f.set (own':=q5r I.own I.j (some r)) (dep2:=uni I.dep dep2) (d:=.r l) (c:=[v1]) (fun x hx=>q2m hx) (by rw[kR];exact q7) hfj (by rw[kR,q46,if_pos rfl];exact .inl ⟨E,.row F,l,v1,rfl,hte,rfl,rfl,hown v1 q12⟩) (fun n hn=>by rw[kR] at hn;rw[q46,if_neg hn]);have hds:ds.set I.j (.r l)=ds:=by
        apply List.ext_getElem?;intro n;rw[List.getElem?_set];split
        ·rename_i hn;subst hn;split
         ·exact q10.symm
         ·rename_i hlt;rw[List.getElem?_eq_none (by omega)] at q10;cases q10
        ·rfl
       have hc1:c1=[v1]:=by
        rw[s1,←s2,kP (kL _),vJ] at q11
        match c1,s3 with
        |[u],_=>
         simp only[kK,List.nil_append,uV,uG] at q11;rw[q11]
       refine⟨fs',ds,hfs,q6,?_⟩;rw[hds,←hc1,←s1] at s4;exact s4
      refine⟨fun t y ht=>?_,fun k e hk=>?_⟩
      ·obtain⟨y0,hy0,rfl⟩:=q5l (f:=bkA I r E (uni I.dep dep2)) ht;obtain⟨u,hu1,hu2⟩:=hf.t t y0 hy0;refine⟨u,hu1,?_⟩;unfold bkA;split
       ·rename_i r' E' x';split
        ·rename_i hok2;simp only[gnB] at hok2;obtain⟨h1,h2,h3⟩:=hok2;obtain rfl:=gnN h1;obtain rfl:=gnN h2;obtain rfl:=X.beq_ok _ _ h3;obtain⟨te',l',z1,z2,z3⟩:=(show zcq c p w r' E' _ u from hu2);obtain rfl:=gnI (z1.symm.trans hte);have hl:l'=l:=by
          have:(X.fld I.x I.j).ev c.v=.r l:=by
           show(I.x.ev c.v).fld I.j=_
           rw[q6]
           show(D.a ds).fs.getD I.j .u=_
           simp only[D.fs,gnG,q10,Option.getD_some]
          rw[this] at z2;injection z2 with z2;exact z2.symm
         subst hl;exact⟨[u],rfl,.inl ⟨E',.row F,l',u,rfl,hte,z2,rfl,hown u z3⟩⟩
        ·exact hu2
       ·exact hu2
      ·by_cases hkk:I.k=k
       ·subst hkk;have hk':lkA (q0a σ.m I.k _) I.k=some e:=hk;rw[q1o] at hk';injection hk' with hk';subst hk';exact hE
       ·have hk':lkA (q0a σ.m I.k _) k=some e:=hk;rw[q4a hkk] at hk';exact hf.m k e hk'
     ·exact hf
    ·exact hf
   ·exact hf
  ·exact hf
 ·exact hf
theorem zd7(hb:Bs c.A c.F w0 S0 p w)(hf:SF c σ p w a)(hc:hold c.v cs=true)(hd:a.defers=d)(hz:a.tmps.size=z){k:Nat}(hk:k<z)(hdst:o.dst=some k){T:TypeId}{x y:Operand}(heq:o.op=.call {callee:=.builtin .append,args:= #[x,y],argTypes:= #[T,T]})
  {ns:List X}{σ':St}{fb:Ty→Option X}(hF:z7g c fb)(h:z2x fb σ cs k T x y=some (ns,σ'))(hn:∀n∈ns,n.says c.v){Q:Exit→Act→World→Prop}:o.wp uB a w (q09 c w0 S0 d z σ') Q:=by
 unfold z2x at h;split at h
 ·rename_i s hE;injection h with h;subst h;unfold zc2 at hE;split at hE
  ·rename_i tb;split at hE
   ·rename_i r i b htb;split at hE
    ·rename_i y1 hy1;obtain⟨⟨ns1,σ1⟩,h1,h2⟩:=uM.1 hE;simp only[uR] at h2;obtain⟨rfl,rfl⟩:=h2;obtain⟨t1,I,b1,hI,rfl⟩:=qyt hy1;obtain⟨v,hv1,⟨hlc,-⟩,-⟩:=hf.t tb _ htb;obtain⟨v',hv2,⟨hlc2,hel⟩,hb1⟩:=hf.t t1 _ hI;obtain rfl:v'=v:=by
      obtain⟨g,cur,E,te,q1,q2,-,-,q5⟩:=hlc;obtain⟨g',cur',E',te',r1,r2,-,-,r5⟩:=hlc2;obtain rfl:=gnI (r1.symm.trans q1);rw[r2] at q2;injection q2 with q2;injection q2 with q2 _;subst q2;exact gnI (r5.symm.trans q5)
     have hf1:SF c ⟨σ.t.map fun e=>(e.1,hdA r e.2),σ.m⟩ p w a:=⟨fun t y ht=>by
      obtain⟨y0,hy0,rfl⟩:=q5l (f:=hdA r) ht;obtain⟨u,hu1,hu2⟩:=hf.t t y0 hy0;exact⟨u,hu1,zhk hu2⟩,hf.m⟩
     have hf2:=hf1.putT (x:=.el (some I) r i b1) hv1 ⟨⟨hlc2,hel⟩,hb1⟩;refine Oper.wp_mono ?_ (qrv hb hf2 hc hd hz hk hdst heq hF h1 hn);rintro a' w'⟨p',hb',hf',hd',hz'⟩;exact⟨p',hb',z6n hf' tb,hd',hz'⟩
    ·cases hE
   ·cases hE
  ·cases hE
 ·unfold z94 at h;split at h
  ·rename_i tb _;split at h
   ·rename_i x' hx';obtain⟨y0,hy0,hy1⟩:=uL.1 hx';obtain⟨⟨ns1,σ1⟩,h1,h2⟩:=uM.1 h;simp only[uR] at h2;obtain⟨rfl,rfl⟩:=h2;obtain⟨v,hv1,hv2⟩:=hf.t tb _ hy0;have hu:x'.ev c.v=.u:=by
     have:=hn _ uC;have h2:(decide (x'.ev c.v=.u))=true:=this;exact of_decide_eq_true h2
    have hvn:=zbk hy1 hv2 hu;have hf2:=hf.putT (x:=.nilS) hv1 hvn;exact qrv hb hf2 hc hd hz hk hdst heq hF h1 (fun n hm=>hn n (uA _ hm))
   ·cases h
  ·cases h
theorem zer(hb:Bs c.A c.F w0 S0 p w)(hf:SF c σ p w a)(hc:hold c.v cs=true)(hd:a.defers=d)(hz:a.tmps.size=z){k:Nat}(hk:k<z)(hdst:o.dst=some k){T:TypeId}{x y:Operand}(heq:o.op=.call {callee:=.builtin .append,args:= #[x,y],argTypes:= #[T,T]})
  {ns:List X}{σ':St}{fb:Ty→Option X}(hF:z7g c fb)(h:z3o fb σ cs k T x y=some (ns,σ'))(hn:∀n∈ns,n.says c.v){Q:Exit→Act→World→Prop}:o.wp uB a w (q09 c w0 S0 d z σ') Q:=by
 unfold z3o at h;split at h
 ·rename_i ns1 σ1 h1;split at h
  ·simp only[gnS] at h;obtain⟨rfl,rfl⟩:=h;exact qrv hb hf hc hd hz hk hdst heq hF h1 hn
  ·split at h
   ·rename_i r h2;simp only[uG] at h;subst h;exact qrv hb (z29 hf _) hc hd hz hk hdst heq hF h2 hn
   ·simp only[gnS] at h;obtain⟨rfl,rfl⟩:=h;exact qrv hb hf hc hd hz hk hdst heq hF h1 hn
 ·exact zd7 hb hf hc hd hz hk hdst heq hF h hn
theorem z1d(htb:q35 tbl)(hS:HS c tbl)(hb:Bs c.A c.F w0 S0 p w)(hf:SF c σ p w a)(hc:hold c.v cs=true)(hd:a.defers=d)(hz:a.tmps.size=z)(hk:qej c.lo z o=true)
  {ns:List X}{e:Eff}(h:qwz uB tbl σ cs o=some (ns,e))(hn:∀n∈ns,n.says c.v){Q:Exit→Act→World→Prop}(hQ:qjw tbl w0 S0 d Q):o.wp uB a w (qyp c w0 S0 d z σ p w a o.dst e) Q:=by
 have hst:∀{r:Option St},sts r=some (ns,e)→∃σ',r=some σ'∧e=.st σ':=fun{r}h=>by
  unfold sts at h;split at h
  ·simp only[gnS] at h;exact⟨_,rfl,h.2.symm⟩
  ·cases h
 have hsn:∀{r:Option (List X×St)},stn r=some (ns,e)→∃σ',r=some (ns,σ')∧e=.st σ':=fun{r}h=>by
  unfold stn at h;split at h
  ·simp only[gnS] at h;obtain⟨rfl,rfl⟩:=h;exact⟨_,rfl,rfl⟩
  ·cases h
 have hvl:∀{r:Option (List X×AV)},vals r=some (ns,e)→∃x,r=some (ns,x)∧e=.val x:=fun{r}h=>by
  unfold vals at h;split at h
  ·simp only[gnS] at h;obtain⟨rfl,rfl⟩:=h;exact⟨_,rfl,rfl⟩
  ·cases h
 unfold qwz at h;split at h
 ·rename_i hdst;split at h
  ·rename_i T y x heq;unfold zjr at h;split at h
   ·rename_i σ' h1;simp only[gnS] at h;obtain⟨h2,rfl⟩:=h;refine zbn hb hf hc hd hz hdst heq h1 (fun xx t dep pin i path q te hy=>zfj hS hy ?_) fun k path q t e hy he hv=>zdb hS hy he hv ?_
    ·rw[h2];exact hn
    ·rw[h2];exact hn
   ·cases h
  ·rename_i T m k x heq;obtain⟨σ',h1,rfl⟩:=hst h;exact z5v hb hf hc hd hz hdst (.inl heq) h1
  ·rename_i T m k x heq;obtain⟨σ',h1,rfl⟩:=hst h;exact z5v hb hf hc hd hz hdst (.inr heq) h1
  ·cases h
 ·rename_i k hdst;have hkz:k<z∧(isVar o.op=true→c.lo≤k∧k<VB):=by
   unfold qej at hk;rw[hdst] at hk;simp only[gnB,uY,kA,uO] at hk;exact⟨hk.1,fun e=>by
    rcases hk.2 with h1|⟨h1,h2⟩
    ·rw[h1] at e;cases e
    ·exact⟨kC h1,h2⟩⟩
  split at h
  ·rename_i T heq;obtain⟨σ',h1,rfl⟩:=hst h;exact z9v hb hf hd hz hkz.1 (hkz.2 (by rw[heq];rfl)) hdst heq h1
  ·rename_i T y heq;obtain⟨σ',h1,rfl⟩:=hst h;exact zii hb hf hc hd hz hkz.1 (hkz.2 (by rw[heq];rfl)) hdst heq h1
  ·rename_i T n ps heq;obtain⟨σ',h1,rfl⟩:=hst h;exact zdd hb hf hc hd hz hkz.1 hdst heq h1
  ·rename_i T x y heq;obtain⟨σ',h1,rfl⟩:=hsn h;exact zf5 hb hf hc hd hz hkz.1 hdst heq h1 hn
  ·rename_i T r heq;obtain⟨σ',h1,rfl⟩:=hst h;exact zif hb hf hc hd hz hkz.1 hdst heq h1
  ·rename_i T ps heq;split at h
   ·rename_i x hx;simp only[gnS] at h;obtain⟨rfl,rfl⟩:=h;exact qk5 (z75 hf hc heq hx)
   ·split at h
    ·rename_i x hx;simp only[gnS] at h;obtain⟨rfl,rfl⟩:=h;exact qk5 (zec hf hc heq hx)
    ·cases h
  ·rename_i c' heq;unfold z6k at h;split at h
   ·rename_i f hcal;obtain⟨callee,args,tys⟩:=c';obtain rfl:callee=_:=hcal;split at h
    ·rename_i σ1 h1;simp only[gnS] at h;obtain⟨rfl,rfl⟩:=h;exact zgv hb hf hc hd hz hkz.1 hdst heq h1
    ·split at h
     ·rename_i σ1 h1;simp only[gnS] at h;obtain⟨rfl,rfl⟩:=h;exact ziz hb hf hc hd hz hkz.1 hdst heq h1
     ·split at h
      ·rename_i σ1 h1;simp only[gnS] at h;obtain⟨rfl,rfl⟩:=h;split at h1
       ·rename_i hfl;exact zgs hb hf hc hd hz hkz.1 hdst heq (fun te=>hS.zero (by rw[kJ.1 hfl];simp)) h1
       ·cases h1
      ·split at h
       ·rename_i r h1;obtain⟨σ',h2,rfl⟩:=hsn h;injection h2 with h2;subst h2;exact zjd hb hf hc hd hz hkz.1 hdst heq (fun hfl te=>hS.zero (by rw[kJ.1 hfl];simp)) h1 hn
       ·obtain⟨σ',h1,rfl⟩:=hsn h;exact z83 htb hS hb hf hc hd hz hkz.1 hdst heq h1 hn hQ
   ·rename_i hcal;split at h
    ·rename_i x y T T' h1 h2;split at h
     ·rename_i hT;obtain rfl:=gnN hT;obtain⟨σ',h3,rfl⟩:=hsn h;obtain⟨callee,⟨args⟩,⟨tys⟩⟩:=c';obtain rfl:callee=_:=hcal;obtain rfl:args=_:=h1;obtain rfl:tys=_:=h2;exact zer hb hf hc hd hz hkz.1 hdst heq hS.fb h3 hn
     ·obtain⟨σ',h3,rfl⟩:=hsn h;obtain⟨callee,⟨args⟩,⟨tys⟩⟩:=c';obtain rfl:callee=_:=hcal;obtain rfl:args=_:=h1;obtain rfl:tys=_:=h2;exact zea hb hf hc hd hz hkz.1 hdst heq hS.fb h3 hn
    ·cases h
   ·obtain⟨x,h1,rfl⟩:=hvl h;exact qk5 (qu6 hf hc h1 hn)
  ·obtain⟨x,h1,rfl⟩:=hvl h;exact qk5 (qu6 hf hc h1 hn)
theorem qq2(htb:q35 tbl)(hS:HS c tbl)(hb:Bs c.A c.F w0 S0 p w)(hf:SF c σ p w a)(hc:hold c.v cs=true)(hd:a.defers=d)(hz:a.tmps.size=z)(hk:qej c.lo z o=true)
  {ns:List X}{e:Eff}(h:step uB tbl σ cs o=some (ns,e))(hn:∀n∈ns,n.says c.v){Q:Exit→Act→World→Prop}(hQ:qjw tbl w0 S0 d Q):o.wp uB a w (qyp c w0 S0 d z σ p w a o.dst e) Q:=by
 unfold step at h;obtain⟨⟨ns0,e0⟩,h0,h1⟩:=uM.1 h;unfold zk2 at h1;split at h1
 ·simp only[uR] at h1;obtain⟨rfl,rfl⟩:=h1;have hn0:∀n∈ns0,n.says c.v:=fun n hm=>by
   have this:(qm9 (ym tbl) n).says c.v:=by
    cases hl:zdq (qm9 (ym tbl) n) with
    |true=>exact ze5 hl
    |false=>exact hn _ (uZ.2 ⟨kG (f:=qm9 (ym tbl)) hm,by rw[hl];rfl⟩)
   unfold X.says at this⊢;rw[←hS.s,qg2] at this;exact this
  refine Oper.wp_mono (fun a' w' hp=>?_) (z1d htb hS hb hf hc hd hz hk h0 hn0 hQ);cases e0 with
  |val x=>
   obtain⟨e1,v,e2,h2⟩:=hp;exact⟨e1,v,e2,by rw[←hS.s];exact qjf x h2⟩
  |st σ1=>
   obtain⟨p',h1,h2,h3,h4⟩:=hp;exact⟨p',h1,by rw[←hS.s];exact zf1 h2,h3,h4⟩
 ·simp only[uR] at h1;obtain⟨rfl,rfl⟩:=h1;exact z1d htb hS hb hf hc hd hz hk h0 hn hQ
theorem qv4{r:List X×Eff}(h:qwz uB tbl σ cs o=some r):∀c',o.op≠.defer c':=fun c' hc=>by
 unfold qwz at h;rw[hc] at h;split at h
 ·cases h
 ·simp[quiet,hc,vals] at h
theorem q9n{r:List X×Eff}(h:step uB tbl σ cs o=some r):∀c',o.op≠.defer c':=by
 obtain⟨r0,h0,-⟩:=uM.1 h;exact qv4 h0
theorem qac(hb:Bs c.A c.F w0 S0 p w)(hf:SF c σ p w a)(hd:a.defers=d)(hz:a.tmps.size=z){k:Nat}(hk:k<z){x:AV}{v:Value}(hv:x.pd c p w v):q09 c w0 S0 d z ⟨q0a σ.t k x,σ.m⟩ (a.put (some k) v) w:=
 ⟨p,hb,hf.put (by rw[hz];exact hk) hv,hd,by simp only[Act.put,uK];exact hz⟩
theorem qw9(hb:Bs c.A c.F w0 S0 p w)(hf:SF c σ p w a)(hd:a.defers=d)(hz:a.tmps.size=z){k:Option Nat}(hk:∀t,k=some t→t<z):q09 c w0 S0 d z (zg6 σ k) (a.put k Go.undef) w:=by
 cases k with
 |none=>exact⟨p,hb,hf,hd,hz⟩
 |some k=>exact qac hb hf hd hz (hk k rfl) rfl
def zbc(c:Cx)(cs:List (X×Bool))(R:Prop):Gd→Prop
 |.yes=>R
 |.no=>¬R
 |.ask l=>(hold c.v l=true→hold c.v cs=true∧R)∧(hold c.v l=false→¬R)
theorem z1r{b:Bool}{cs:List (X×Bool)}{x:AV}{g:Gd}(h:qwk b cs x=some g){v:Value}(h1:hold c.v cs=true→x.pd c p w v)(h2:hold c.v cs=false→v=Go.undef):zbc c cs (v=.bool b) g:=by
 have hu:Go.undef≠.bool b:=by intro e;cases e
 unfold qwk at h;split at h
 ·rename_i x0 own dep;split at h
  ·rename_i _ u;have h3:hold c.v cs=true→v=.bool u:=fun hc=>by
    obtain⟨y,e1,e2⟩:=q6g (h1 hc);have:D.b u=D.b y:=e1;injection this with this;rw[e2,this]
   split at h
   ·rename_i hub;have hub':u=b:=by simpa using hub
    rw[←hub'] at hu⊢;injection h with h;subst h;cases cs with
    |nil=>exact h3 rfl
    |cons e l=>exact⟨(fun hc=>⟨hc,h3 hc⟩),(fun hc=>by rw[h2 hc];exact hu)⟩
   ·rename_i hub;injection h with h;subst h
    show ¬v=.bool b
    cases hc:hold c.v cs with
    |true=>
     rw[h3 hc];intro e;injection e with e;rw[e] at hub;simp at hub
    |false=>rw[h2 hc];exact hu
  ·injection h with h;subst h;have happ:hold c.v (cs++[(x0,b)])=(hold c.v cs&&(((x0.ev c.v).tt==b)&&true)):=by unfold hold;rw[List.all_append];rfl
   refine⟨fun hc=>?_,fun hc=>?_⟩
   ·rw[happ] at hc;simp only[gnB,Bool.and_true,beq_iff_eq] at hc;refine⟨hc.1,?_⟩;obtain⟨y,e1,e2⟩:=q6g (h1 hc.1);have h4:=hc.2;rw[e1] at h4;have h5:y=b:=h4;rw[e2,h5]
   ·rw[happ] at hc;cases hc2:hold c.v cs with
    |false=>rw[h2 hc2];exact hu
    |true=>
     rw[hc2] at hc;obtain⟨y,e1,e2⟩:=q6g (h1 hc2);rw[e1] at hc;rw[e2];intro e;injection e with e;subst e;simp[D.tt] at hc
 ·injection h with h;subst h
  show ¬v=.bool b
  cases hc:hold c.v cs with
  |true=>rw[show v=Go.undef from h1 hc];exact hu
  |false=>rw[h2 hc];exact hu
 ·cases h
theorem qsy{ops:Array Oper}{ds:List (Option Tmp)}(hds:ops.toList.map (·.dst)=ds){g:Nat}{t:Tmp}(h:(ds[g]?).join=some t){tmps:Array Value}{v:Value}(hv:tmps[t]? =some v){b:Bool}:(yielded ops tmps g=some b↔v=.bool b):=by
 have:yielded ops tmps g=match v with|.bool b=>some b|_=>none:=by
  unfold yielded;rw[←hds,kY,uT] at h;cases hog:ops[g]? with
  |none=>rw[hog] at h;cases h
  |some og=>
   rw[hog] at h;simp only[Option.map_some,Option.join_some] at h;simp only[Option.bind_some,h,hv];cases v<;>rfl
 rw[this];cases v<;>simp
theorem qrk{ops:Array Oper}{tmps:Array Value}{g:Nat}{b:Bool}(hg:o.guard=some (g,b)):(Region.wanted o (yielded ops tmps)=true)↔yielded ops tmps g=some b:=by
 unfold Region.wanted;simp only[hg];cases yielded ops tmps g<;>simp
theorem z0q(htb:q35 tbl)(hS:HS c tbl){ops:Array Oper}{ds:List (Option Tmp)}(hds:ops.toList.map (·.dst)=ds)(hb:Bs c.A c.F w0 S0 p w)(hf:SF c σ p w a)(hd:a.defers=d)(hz:a.tmps.size=z)(hk:qej c.lo z o=true)
  {ns:List X}(h:stepG uB tbl ds σ o=some (ns,σ'))(hn:∀n∈ns,n.says c.v){Q:Exit→Act→World→Prop}(hQ:qjw tbl w0 S0 d Q){K:Act→World→Prop}(ro:Option Nat)(nn:Nat)(hK:∀a' w',q09 c w0 S0 d z σ' a' w'→K a' w'):
  if Region.wanted o (yielded ops a.tmps) then o.wpIn (FR ro) nn uB a w K Q else(∀f,o.about uB w a.eval=some f→(FR ro).fn f)∧K (a.put o.dst Go.undef) w:=by
 have hkz:∀t,o.dst=some t→t<z:=fun t e=>by
  unfold qej at hk;rw[e] at hk;simp only[gnB,uY] at hk;exact hk.1
 have hplain:(step uB tbl σ [] o).bind (qzr σ o.dst)=some (ns,σ')→o.wpIn (FR ro) nn uB a w K Q:=fun h=>by
  obtain⟨⟨ms,e⟩,h1,h2⟩:=uL.1 h;have h2:(match e.on σ o.dst with|some σ'=>some (ms,σ')|none=>none)=some (ns,σ'):=h2;split at h2
  ·rename_i σ1 he;injection h2 with h2;obtain⟨rfl,rfl⟩:=kT h2;refine Oper.wp_round ro (q9n h1) (Oper.wp_mono ?_ (qq2 htb hS hb hf rfl hd hz hk h1 hn hQ));intro a' w' hp;refine hK a' w' ?_;cases e with
   |st σ2=>
    injection he with he;subst he;exact hp
   | val x =>
    obtain⟨rfl,v,rfl,hv⟩:=hp;cases hdst:o.dst with
    |none=>rw[hdst] at he;cases he
    |some k=>
     rw[hdst] at he;injection he with he;subst he;exact qac hb hf hd hz (hkz k hdst) hv
  ·cases h2
 unfold stepG at h;cases hg:o.guard with
 |none=>
  rw[hg] at h;rw[if_pos (by unfold Region.wanted;simp only[hg])];exact hplain h
 | some gb =>
  obtain⟨g,b⟩:=gb;rw[hg] at h;simp only at h
  -- the guard
  have hgd:∀G,guardOf ds σ g b=some G→zbc c [] (Region.wanted o (yielded ops a.tmps)=true) G:=fun G hG=>by
   unfold guardOf at hG;split at hG
   ·rename_i t ht;have key:∀{x:AV}{l:List (X×Bool)}{v:Value},a.tmps[t]? =some v→qwk b l x=some G→(hold c.v l=true→x.pd c p w v)→(hold c.v l=false→v=Go.undef)→zbc c [] (Region.wanted o (yielded ops a.tmps)=true) G:=fun{x l v}hv hG h1 h2=>by
     have hy:=qsy (ops:=ops) hds ht hv (b:=b);have hw:=qrk (ops:=ops) (tmps:=a.tmps) hg;have:=z1r hG h1 h2;cases G with
     |yes=>exact hw.2 (hy.2 this)
     |no=>exact fun e=>this (hy.1 (hw.1 e))
     |ask l=>exact⟨(fun e=>⟨rfl,hw.2 (hy.2 (this.1 e).2)⟩),(fun e e'=>this.2 e (hy.1 (hw.1 e')))⟩
    split at hG
    ·rename_i l x hx;obtain⟨v,hv1,hv2⟩:=hf.t t _ hx;exact key hv1 hG hv2.1 hv2.2
    ·rename_i x _ hx;obtain⟨v,hv1,hv2⟩:=hf.t t _ hx;exact key (l:=[]) hv1 hG (fun _=>hv2) (fun e=>by cases e)
    ·cases hG
   ·cases hG
  split at h
  ·rename_i hG;have h1:Region.wanted o (yielded ops a.tmps)=true:=hgd _ hG;rw[if_pos h1];exact hplain h
  ·rename_i hG;have h1:¬Region.wanted o (yielded ops a.tmps)=true:=hgd _ hG;rw[if_neg h1];simp only[gnS] at h;obtain⟨rfl,rfl⟩:=h;exact⟨fun _ _=>trivial,hK _ _ (qw9 hb hf hd hz hkz)⟩
  ·rename_i cs hG;have h1:=hgd _ hG;obtain⟨⟨ms,e⟩,h2,h3⟩:=uL.1 h;cases hc:hold c.v cs with
   | true =>
    rw[if_pos (h1.1 hc).2];have hns:ns=ms.map (z02 cs):=by
     cases e with
     | val x =>
      cases hdst:o.dst with
      |none=>rw[hdst] at h3;cases h3
      |some k=>
       rw[hdst] at h3;injection h3 with h3;exact(kT h3).1.symm
     |st σ1=>
      injection h3 with h3;exact(kT h3).1.symm
    refine Oper.wp_round ro (q9n h2) (Oper.wp_mono ?_ (qq2 htb hS hb hf hc hd hz hk h2 (fun n hm=>z6g (hn (z02 cs n) (by rw[hns];exact kG hm)) hc) hQ));intro a' w' hp;refine hK a' w' ?_;cases e with
    | val x =>
     obtain⟨rfl,v,rfl,hv⟩:=hp;unfold under at h3;simp only at h3;cases hdst:o.dst with
     |none=>rw[hdst] at h3;cases h3
     |some k=>
      rw[hdst] at h3;simp only[gnS] at h3;obtain⟨-,rfl⟩:=h3;exact qac hb hf hd hz (hkz k hdst) ⟨(fun _=>hv),(fun e=>by rw[hc] at e;cases e)⟩
    |st σ1=>
     unfold under at h3;simp only[gnS] at h3;obtain⟨-,rfl⟩:=h3;obtain⟨p',hb',hf',hd',hz'⟩:=hp;exact⟨p',hb',qw7 hc hf' (fun t e=>⟨_,Array.getElem?_eq_getElem (by have:=hkz t e;rw[hz'];exact this)⟩),hd',hz'⟩
   | false =>
    rw[if_neg (h1.2 hc)];refine⟨fun _ _=>trivial,hK _ _ ?_⟩;cases e with
    | val x =>
     unfold under at h3;simp only at h3;cases hdst:o.dst with
     |none=>rw[hdst] at h3;cases h3
     |some k=>
      rw[hdst] at h3;simp only[gnS] at h3;obtain⟨-,rfl⟩:=h3;exact qac hb hf hd hz (hkz k hdst) ⟨(fun e=>by rw[hc] at e;cases e),(fun _=>rfl)⟩
    |st σ1=>
     unfold under at h3;simp only[gnS] at h3;obtain⟨-,rfl⟩:=h3;exact⟨p,hb,z12 hc hf (fun t e=>by rw[hz];exact hkz t e),(by cases o.dst<;>exact hd),(by cases o.dst<;>simp only[Act.put,uK]<;>exact hz)⟩
  ·cases h
end
end
section
def zcb(P:Program)(tbl:Tbl)(ds:List (Option Tmp)):St→List Oper→Option (List X×St)
 |σ,[]=>some ([],σ)
 | σ, o :: l => match stepG P tbl ds σ o with
  |some (ns,σ1)=>(match zcb P tbl ds σ1 l with
   |some (ms,σ2)=>some (ns++ms,σ2)
   |none=>none)
  |none=>none
def zcx(N:List X)(n:X):Bool:=N.any fun m=>X.beq m n
def qbo:List Edge→Nat
 |[]=>0
 |e::l=>if Region.binds .any e then vB (kH 1 e.on) (qbo l) else qbo l
def y9(o:Oper):Nat:=qbo o.after.toList
def q29:List Nat→Nat→Nat→List Nat
 |[],_,_=>[]
 |m::l,i,S=>if uD (uW 1 (kE S i)) 0&&uD (uW m S) m then i::q29 l (i+1) S else q29 l (i+1) S
def plus(S i:Nat):Nat:=vB S (kH 1 i)
abbrev Lv:=List (Nat×St)
def zg7(S:Nat):Lv→Bool
 |[]=>false
 |e::l=>if uD e.1 S then true else zg7 S l
def zf3(P:Program)(tbl:Tbl)(ds:List (Option Tmp))(ops:List Oper)(ms:List Nat)(lv:Lv):Lv:=
 lv.foldl (fun acc e=>(q29 ms 0 e.1).foldl (fun acc i=>if zg7 (plus e.1 i) acc then acc else match ops[i]? with
  |some o=>(match stepG P tbl ds e.2 o with
   |some (_,σ')=>(plus e.1 i,σ')::acc
   |none=>acc)
  |none=>acc) acc) []
def qwg(P:Program)(tbl:Tbl)(ds:List (Option Tmp))(ops:List Oper)(ms:List Nat):Nat→Lv→List Lv
 |0,lv=>[lv]
 |n+1,lv=>lv::qwg P tbl ds ops ms n (zf3 P tbl ds ops ms lv)
def qy1(S:Nat):Lv→Option St
 |[]=>none
 |e::l=>if uD e.1 S then some e.2 else qy1 S l
def z5w(P:Program)(tbl:Tbl)(ds:List (Option Tmp))(ops:List Oper)(ms:List Nat)(N:List X)(l:St):List Lv→Bool
 |[]=>false
 |[lv]=>lv.all fun e=>(q29 ms 0 e.1).isEmpty&&covers e.2 l
 | lv :: lv' :: r => (lv.all fun e => !(q29 ms 0 e.1).isEmpty && (q29 ms 0 e.1).all fun i => match ops[i]? with
   | some o => (match stepG P tbl ds e.2 o with
    |some (ns,σ')=>ns.all (zcx N)&&(match qy1 (plus e.1 i) lv' with
     |some σ2=>covers σ' σ2
     |none=>false)
    |none=>false)
   |none=>false)&&z5w P tbl ds ops ms N l (lv'::r)
def zfz:List Lv→Option St
 |[]=>none
 |[lv]=>(match lv with
  |[e]=>some e.2
  |_=>none)
 |_::l=>zfz l
def dsts(l:List Oper):List (Option Tmp):=l.map (·.dst)
def seg(P:Program)(tbl:Tbl)(lo z:Nat)(σ:St)(l:List Oper)(d:Bool):Option (List X×St):=
 if l.all (qej lo z) then match zcb P tbl (dsts l) σ l with
  | some (N, σ') => if d then
    (match zfz (qwg P tbl (dsts l) l (l.map y9) l.length [(0,σ)]) with
    |some σf=>if z5w P tbl (dsts l) l (l.map y9) N σf (qwg P tbl (dsts l) l (l.map y9) l.length [(0,σ)]) then some (N,σf) else none
    |none=>none)
   else some (N,σ')
  |none=>none
 else none
theorem qwn:uB.follows .mixedOrders=true:=by kernel_rfl
section
variable{c:Cx}{p:z6}{w w0:World}{S0:Nat→Prop}{a:Act}{σ σ':St}{d:List Deferred}{z:Nat}{tbl:Tbl}
theorem qxw{N:List X}{n:X}(h:zcx N n=true):n∈N:=by
 obtain⟨m,hm,he⟩:=List.any_eq_true.1 h;rw[←X.beq_ok _ _ he];exact hm
theorem qwu(ro:Option Nat)(nn:Nat)(htb:q35 tbl)(hS:HS c tbl){ops:Array Oper}{ds:List (Option Tmp)}(hds:ops.toList.map (·.dst)=ds){Q:Exit→Act→World→Prop}(hQ:qjw tbl w0 S0 d Q):∀{l:List Oper}{σ σ':St}{p:z6}{w:World}{a:Act}{N:List X},zcb uB tbl ds σ l=some (N,σ')→
  l.all (qej c.lo z)=true→(∀n∈N,n.says c.v)→Bs c.A c.F w0 S0 p w→SF c σ p w a→a.defers=d→a.tmps.size=z→
  (∀a' w',q09 c w0 S0 d z σ' a' w'→Q .normal a' w')→wpListIn (FR ro) nn uB ops Q l a w
 |[],σ,σ',p,w,a,N,h,_,_,hb,hf,hd,hz,hk=>by
  simp only[zcb,gnS] at h;obtain⟨-,rfl⟩:=h;exact hk a w ⟨p,hb,hf,hd,hz⟩
 | o :: l, σ, σ', p, w, a, N, h, hall, hn, hb, hf, hd, hz, hk => by
  simp only[kQ,gnB] at hall;unfold zcb at h;split at h
  ·rename_i ns σ1 h1;split at h
   ·rename_i ms σ2 h2;simp only[gnS] at h;obtain⟨rfl,rfl⟩:=h;unfold wpListIn
    exact z0q htb hS hds hb hf hd hz hall.1 h1 (fun n hm=>hn n (uH _ hm)) hQ ro nn fun a' w'⟨p',hb',hf',hd',hz'⟩=>
     qwu ro nn htb hS hds hQ h2 hall.2 (fun n hm=>hn n (uE _ hm)) hb' hf' hd' hz' hk
   ·cases h
  ·cases h
theorem q9v(j:Nat):∀{l:List Edge},(qbo l).testBit j=true↔∃e∈l,Region.binds .any e=true∧e.on=j
 |[]=>by simp[qbo]
 | e :: l => by
  unfold qbo;split
  ·rename_i hb;rw[show vB (kH 1 e.on) (qbo l)=(1 <<< e.on) ||| qbo l from rfl,vH,kA,q9v j];rw[vA,kW];constructor
   ·rintro(h|⟨e',he',h⟩)
    ·exact⟨e,uC,hb,by simpa using h⟩
    ·exact⟨e',uA _ he',h⟩
   ·rintro⟨e',he',h1,h2⟩;rcases uN.1 he' with rfl|he'
    ·exact .inl (by simpa using h2)
    ·exact .inr ⟨e',he',h1,h2⟩
  ·rename_i hb;rw[q9v j];constructor
   ·rintro⟨e',he',h⟩;exact⟨e',uA _ he',h⟩
   ·rintro⟨e',he',h1,h2⟩;rcases uN.1 he' with rfl|he'
    ·exact absurd h1 hb
    ·exact⟨e',he',h1,h2⟩
theorem zam{l:List Edge}{S:Nat}:uD (uW (qbo l) S) (qbo l)=true↔∀e∈l,Region.binds .any e=true→S.testBit e.on=true:=by
 rw[kX,show uW (qbo l) S=qbo l &&& S from rfl];constructor
 ·intro h e he hb;have h1:(qbo l).testBit e.on=true:=(q9v e.on).2 ⟨e,he,hb,rfl⟩;rw[←h,vG,gnB] at h1;exact h1.2
 ·intro h;refine Nat.eq_of_testBit_eq fun j=>?_;rw[vG];cases hj:(qbo l).testBit j with
  |false=>rfl
  |true=>
   obtain⟨e,he,hb,rfl⟩:=(q9v j).1 hj;rw[h e he hb];rfl
theorem q85{S:Nat}:∀{l:List Oper}{i j:Nat},j∈q29 (l.map y9) i S↔i≤j∧S.testBit j=false∧∃o,l[j - i]? =some o∧∀e∈o.after,Region.binds .any e=true→S.testBit e.on=true
 |[],i,j=>by simp[q29]
 | o :: l, i, j => by
  have hbit:uD (uW 1 (kE S i)) 0=true↔S.testBit i=false:=by
   rw[kX];unfold Nat.testBit;rw[show uW 1 (kE S i)=1 &&& (S >>> i) from rfl];simp
  have hhd:(uD (uW 1 (kE S i)) 0&&uD (uW (y9 o) S) (y9 o))=true↔S.testBit i=false∧∀e∈o.after,Region.binds .any e=true→S.testBit e.on=true:=by
   rw[gnB,hbit];unfold y9;rw[zam];constructor
   ·rintro⟨h1,h2⟩;exact⟨h1,fun e he=>h2 e (by simpa using he)⟩
   ·rintro⟨h1,h2⟩;exact⟨h1,fun e he=>h2 e (by simpa using he)⟩
  have htl:i+1≤j→(l[j - (i+1)]? =(o::l)[j - i]?):=fun h=>by
   rw[show j - i=(j - (i+1))+1 by omega,List.getElem?_cons_succ]
  simp only[uF,q29];split
  ·rename_i hc;rw[uN,q85 (l:=l)];constructor
   ·rintro(rfl|⟨h1,h2,o',h3,h4⟩)
    ·exact⟨kL _,(hhd.1 hc).1,o,by simp,(hhd.1 hc).2⟩
    ·exact⟨by omega,h2,o',by rw[←htl h1];exact h3,h4⟩
   ·rintro⟨h1,h2,o',h3,h4⟩;by_cases hij:j=i
    ·exact .inl hij
    ·exact .inr ⟨by omega,h2,o',by rw[htl (by omega)];exact h3,h4⟩
  ·rename_i hc;rw[q85 (l:=l)];constructor
   ·rintro⟨h1,h2,o',h3,h4⟩;exact⟨by omega,h2,o',by rw[←htl h1];exact h3,h4⟩
   ·rintro⟨h1,h2,o',h3,h4⟩;by_cases hij:j=i
    ·subst hij;simp only[vJ,uV,uG] at h3;subst h3;exact absurd (hhd.2 ⟨h2,h4⟩) hc
    ·exact⟨by omega,h2,o',by rw[htl (by omega)];exact h3,h4⟩
def Rep(n S:Nat)(listed:Array Bool):Prop:=listed.size=n∧∀j,listed.getD j false=S.testBit j
theorem Rep.plus{n S i:Nat}{listed:Array Bool}(h:Rep n S listed)(hi:i<n):Rep n (plus S i) (listed.setIfInBounds i true):=by
  refine⟨by rw[uK];exact h.1,fun j=>?_⟩;unfold Proofs.Ytbmaffphliignaa.plus;rw[show vB S (kH 1 i)=S ||| (1 <<< i) from rfl,vH,vA,kW,←h.2 j];by_cases hij:i=j
  · subst hij;simp[h.1,hi]
  · rw[getD_set_ne false hij];simp[hij]
theorem Rep.ready{l:List Oper}{S:Nat}{listed:Array Bool}(h:Rep l.length S listed)(j:Nat):j∈Region.ready .any l.toArray listed↔j∈q29 (l.map y9) 0 S:=by
 rw[mem_ready,q85];simp only[Nat.zero_le,true_and,Nat.sub_zero,kS];constructor
 ·rintro⟨h0,o,ho,h1⟩;have hlt:j<listed.size:=by rw[h.1];exact(gnH.1 ho).1
  refine⟨?_,o,ho,fun e he hb=>by rw[←h.2];exact h1 e he hb⟩;rw[←h.2 j];simpa[kV,hlt] using h0
 ·rintro⟨h0,o,ho,h1⟩;have hlt:j<listed.size:=by rw[h.1];exact(gnH.1 ho).1
  refine⟨?_,o,ho,fun e he hb=>by rw[h.2];exact h1 e he hb⟩;rw[←h.2 j] at h0;simpa[kV,hlt] using h0
theorem qtu{S:Nat}:∀{lv:Lv}{σ:St},qy1 S lv=some σ→(S,σ)∈lv
  |[],σ,h=>by cases h
  | (S', σ') :: l, σ, h => by
    unfold qy1 at h;split at h
    · rename_i he;injection h with h;have:=gnN he;subst h;rw[←this];exact uC
    · exact uA _ (qtu h)
theorem zce(ro:Option Nat)(nn:Nat)(htb:q35 tbl)(hS:HS c tbl){ops:List Oper}{N:List X}{l:St}(hN:∀n∈N,n.says c.v)(hall:ops.all (qej c.lo z)=true){Q:Exit→Act→World→Prop}(hQ:qjw tbl w0 S0 d Q)
  (hk:∀a' w',q09 c w0 S0 d z l a' w'→Q .normal a' w'):∀(L:List Lv)(n:Nat),L.length=n+1→z5w uB tbl (ops.map (·.dst)) ops (ops.map y9) N l L=true→
  ∀lv,L.head? =some lv→∀e∈lv,∀(listed:Array Bool)(p:z6)(w:World)(a:Act),Rep ops.length e.1 listed→Bs c.A c.F w0 S0 p w→a.defers=d→a.tmps.size=z→SF c e.2 p w a→wpAnyIn (FR ro) nn uB .any ops.toArray Q n listed a w
 |[],n,hn,h=>by cases h
 |[lv],n,hn,h=>fun lv0 hlv e he listed p w a hrep hx hd hz hf=>by
  obtain rfl:n=0:=by simpa using hn.symm
  simp only[vF,uG] at hlv;subst hlv;have h1:=uJ.1 (show(lv.all fun e=>(q29 (ops.map y9) 0 e.1).isEmpty&&covers e.2 l)=true from h) e he;simp only[gnB,kJ] at h1;refine⟨List.eq_nil_iff_forall_not_mem.2 fun j hj=>?_,hk a w ⟨p,hx,q9u h1.2 hf,hd,hz⟩⟩;have:=(hrep.ready j).1 hj;rw[h1.1] at this;cases this
 | lv :: lv' :: r, n, hn, h => fun lv0 hlv e he listed p w a hrep hx hd hz hf => by
  obtain⟨m,rfl⟩:∃m,n=m+1:=⟨r.length,by simp at hn;omega⟩;simp only[vF,uG] at hlv;subst hlv;unfold z5w at h;simp only[gnB] at h;obtain⟨h1,h2⟩:=h;have h3:=uJ.1 h1 e he;simp only[gnB,uO] at h3;refine⟨fun hr=>?_,fun i hi=>?_⟩
  ·exfalso;cases hl:q29 (ops.map y9) 0 e.1 with
   |nil=>rw[hl] at h3;simp at h3
   |cons j js=>
    have:=(hrep.ready j).2 (by rw[hl];exact uC);rw[hr] at this;cases this
  ·have h4:=uJ.1 h3.2 i ((hrep.ready i).1 hi);split at h4
   ·rename_i o hoi;split at h4
    ·rename_i ns σ' hr;simp only[gnB] at h4;obtain⟨h4a,h4b⟩:=h4;split at h4b
     ·rename_i σ2 hfl;unfold wpOpIn;rw[kS,hoi];have hin:i<ops.length:=(gnH.1 hoi).1;have htl:qej c.lo z o=true:=uJ.1 hall o (kD hoi);refine z0q htb hS (ds:=ops.map (·.dst)) (by simp) hx hf hd hz htl hr (fun n hm=>hN n (qxw (uJ.1 h4a n hm))) hQ ro nn fun a' w'⟨p',hx',hf',hd',hz'⟩=>?_;exact zce ro nn htb hS hN hall hQ hk (lv'::r) m (by simpa using hn) h2 lv' rfl (plus e.1 i,σ2) (qtu hfl) _ p' w' a' (hrep.plus hin) hx' hd' hz' (q9u h4b hf')
     ·cases h4b
    ·cases h4
   ·cases h4
theorem qlm{ds:List (Option Tmp)}{ops:List Oper}{ms:List Nat}:∀(n:Nat)(lv:Lv),(qwg uB tbl ds ops ms n lv).length=n+1∧(qwg uB tbl ds ops ms n lv).head? =some lv
 |0,lv=>⟨rfl,rfl⟩
 |n+1,lv=>⟨by simp[qwg,(qlm n _).1],rfl⟩
theorem SF.drew(h:SF c σ p w a):SF c σ p {w with drawn:=w.drawn+1} a:=
 have hs:Stab c.A no no p w p {w with drawn:=w.drawn+1}:=⟨kL _,fun _ _ _ h=>⟨rfl,h⟩,fun _ _ _ h=>h,fun _ _ _ _=>rfl⟩
 ⟨fun t x hx=>let ⟨v,h1,h2⟩:=h.t t x hx;⟨v,h1,AV.kept hs x v (fun _ _=>⟨rfl,rfl⟩) (fun _ _=>rfl) h2⟩,fun k e he=>(h.m k e he).kept hs (fun _ _=>⟨rfl,rfl⟩) ⟨rfl,rfl⟩⟩
theorem Bs.drew(h:Bs c.A c.F w0 S0 p w):Bs c.A c.F w0 S0 p {w with drawn:=w.drawn+1}:=⟨h.inj,h.bd,h.but.drew,h.pin,h.new,h.pa,h.obj,h.flo.same fun k _ _=>rfl⟩
theorem z9x(ro:Option Nat)(nn:Nat)(htb:q35 tbl)(hS:HS c tbl){id:Nat}{ops:Array Oper}{dr:Bool}{N:List X}(h:seg uB tbl c.lo z σ ops.toList dr=some (N,σ'))(hN:∀n∈N,n.says c.v)(hb:Bs c.A c.F w0 S0 p w)(hf:SF c σ p w a)(hd:a.defers=d)(hz:a.tmps.size=z){Q:Exit→Act→World→Prop}(hQ:qjw tbl w0 S0 d Q)
  (hk:∀a' w',q09 c w0 S0 d z σ' a' w'→Q .normal a' w'):(Code.region id ops dr).wpIn (FR ro) nn uB Q a w:=by
 obtain⟨l⟩:=ops;unfold seg at h;split at h
 ·rename_i hall;split at h
  ·rename_i N' σ1 hr;cases dr with
   |false=>
    rw[if_neg (by simp)] at h;simp only[gnS] at h;obtain⟨rfl,rfl⟩:=h;refine wpIn_region ?_;have:wpOpsIn (FR ro) nn uB l.toArray Q (kU 0 l.length)=wpListIn (FR ro) nn uB l.toArray Q l:=wpOpsIn_eq_wpListIn l 0 (fun j=>by simp);rw[show List.range (Array.mk l).size=kU 0 l.length by simp[List.range_eq_range']]
    show wpOpsIn (FR ro) nn uB l.toArray Q (kU 0 l.length) a w
    rw[this];exact qwu ro nn htb hS (ds:=dsts l) (by simp[dsts]) hQ hr hall hN hb hf hd hz hk
   | true =>
    rw[if_pos rfl] at h;split at h
    ·rename_i σf hl;split at h
     ·rename_i hok;simp only[gnS] at h;obtain⟨rfl,rfl⟩:=h;refine wpIn_region_any qwn ?_;exact zce ro nn htb hS (ops:=l) hN hall hQ hk _ _ (qlm l.length _).1 hok _ (qlm l.length _).2 (0,σ) uC (Array.replicate l.length false) p _ a ⟨by simp,fun j=>by simp[kV]⟩ hb.drew hd hz hf.drew
     ·cases h
    ·cases h
  ·cases h
 ·cases h
end
end
section
def qm6(n:Nat)(l:List (X×Bool)):Bool:=l.all fun y=>X.upto n y.1
def zc7(n:Nat):Option ElI→Bool
 |none=>true
 |some e=>X.upto n e.x&&X.upto n e.y
mutual
def AV.upto(n:Nat):AV→Bool
 |.v x _ _ _=>X.upto n x
 |.rd x _ _ wr=>X.upto n x&&(match wr with|some (_,i,_)=>X.upto n i|none=>true)
 |.tup l=>qjs n l
 |.gd cs a=>qm6 n cs&&AV.upto n a
 |.nb x _=>X.upto n x
 |.fn _ l=>qjs n l
 |.bx _ _ a=>AV.upto n a
 |.ax _ _ _ a=>AV.upto n a
 |.fr _ a=>AV.upto n a
 |.ff _ _ x1 _ _ x2 _ _=>X.upto n x1&&X.upto n x2
 |.sn _ a=>AV.upto n a
 |.wf _ _ x _ _ _ a=>X.upto n x&&AV.upto n a
 |.el o _ i a=>zc7 n o&&(X.upto n i&&AV.upto n a)
 |.hd _ _ x=>X.upto n x
 |.pt _ i _ a=>X.upto n i&&AV.upto n a
 |.ar _ xs _=>X.uptos n xs
 |_=>true
def qjs(n:Nat):List AV→Bool
 |[]=>true
 |a::l=>AV.upto n a&&qjs n l
end
section
variable{n:Nat}{c c':Cx}{p:z6}{w:World}
theorem z7c(hE:∀k,k<n→c.v.E k=c'.v.E k)(hS:c.v.S=c'.v.S){l:List (X×Bool)}(h:qm6 n l=true):hold c.v l=hold c'.v l:=by
 unfold hold
 induction l with
 |nil=>rfl
 |cons y l ih=>
  simp only[qm6,kQ,gnB] at h;simp only[kQ,X.ev_upto hE hS _ h.1];rw[ih h.2]
mutual
theorem AV.pd_upto(hE:∀k,k<n→c.v.E k=c'.v.E k)(hS:c.v.S=c'.v.S)(hA:c.A=c'.A)(hT:c.At=c'.At∧c.snap=c'.snap∧c.F=c'.F):∀(x:AV)(v:Value),x.upto n=true→x.pd c p w v→x.pd c' p w v
 |.any,v,_,h=>h
 |.undef,v,_,h=>h
 |.nilS,v,_,h=>h
 |.nb x neg,v,hb,h=>by
  simp only[AV.upto] at hb;obtain⟨b,e,h⟩:=h;rw[X.ev_upto hE hS x hb] at h;exact⟨b,e,h⟩
 |.nilP,v,_,h=>h
 |.ref k q o t,v,_,⟨g,hg,e,ha⟩=>⟨g,hg,e,by rw[←hT.1];exact ha⟩
 |.v x t own dep,v,hb,⟨cs,hp,hc⟩=>⟨cs,hp,by
  simp only[AV.upto] at hb;rw[X.ev_upto hE hS x hb,hA] at hc;exact hc⟩
 | .rd x t dep wr, v, hb, ⟨b, o, cs, e, hf, hr, h0, hd, hw⟩ => by
  simp only[AV.upto,gnB] at hb;rw[X.ev_upto hE hS x hb.1] at hd;rw[hA] at hf hd;refine⟨b,o,cs,e,hf,hr,h0,hd,?_⟩
  match wr,hw,hb.2 with
  |none,_,_=>trivial
  |some (pin,i,pt,q,te),hw,hi=>
   refine⟨hw.1,?_⟩;rw[←X.ev_upto hE hS i hi];exact hw.2
 |.tup l,v,hb,⟨vs,e,h⟩=>⟨vs,e,qsd hE hS hA hT l vs (by simpa[AV.upto] using hb) h⟩
 |.gd cs a,v,hb,h=>by
  simp only[AV.upto,gnB] at hb;rw[show AV.pd c' p w (.gd cs a) v=((hold c'.v cs=true→AV.pd c' p w a v)∧(hold c'.v cs=false→v=Go.undef)) from rfl,←z7c hE hS hb.1];exact⟨fun hc=>AV.pd_upto hE hS hA hT a v hb.2 (h.1 hc),h.2⟩
 |.fn f l,v,hb,⟨vs,e,h⟩=>⟨vs,e,qsd hE hS hA hT l vs (by simpa[AV.upto] using hb) h⟩
 |.bx k T a,v,hb,⟨g,u,hg,e,hh,h⟩=>⟨g,u,⟨hg.1,by rw[←hT.1];exact hg.2⟩,e,hh,AV.pd_upto hE hS hA hT a u (by simpa[AV.upto] using hb) h⟩
 |.ax k T m a,v,hb,⟨g,u,hg,e,hh,hn,h⟩=>⟨g,u,⟨hg.1,by rw[←hT.1];exact hg.2⟩,e,hh,hn,AV.pd_upto hE hS hA hT a (.agg u) (by simpa[AV.upto] using hb) h⟩
 |.lv k t,v,_,⟨g,cs,T,hg,e,hh,hs⟩=>⟨g,cs,T,⟨hg.1,by rw[←hT.1];exact hg.2⟩,e,hh,hs⟩
 |.ar E xs dep,v,hb,⟨te,cs,e1,e2,h3,h⟩=>⟨te,cs,e1,e2,h3,by
  simp only[AV.upto] at hb;rw[X.evs_upto hE hS xs hb,hA] at h;exact h⟩
 |.pt pin i E a,v,hb,⟨⟨te,A,m,cap,e1,e2,h3⟩,h⟩=>by
  simp only[AV.upto,gnB] at hb;exact⟨⟨te,A,m,cap,e1,e2,fun hn=>by rw[←X.ev_upto hE hS i hb.1];exact h3 hn⟩,AV.pd_upto hE hS hA hT a v hb.2 h⟩
 |.sn t a,v,hb,⟨e,h⟩=>⟨by rw[←hT.2.1];exact e,AV.pd_upto hE hS hA hT a v (by simpa[AV.upto] using hb) h⟩
 | .el o r i a, v, hb, ⟨⟨h1, h2⟩, h3⟩ => by
  simp only[AV.upto,gnB] at hb;refine⟨⟨?_,?_⟩,AV.pd_upto hE hS hA hT a v hb.2.2 h3⟩
  ·unfold z32 at h1⊢;rw[←X.ev_upto hE hS i hb.2.1];exact h1
  ·cases o with
   |none=>trivial
   |some e=>
    have hb1:=hb.1;simp only[zc7,gnB] at hb1;have h2:qv7 c p w r i e:=h2
    show qv7 c' p w r i e
    unfold qv7 at h2⊢;rw[←X.ev_upto hE hS i hb.2.1,←X.ev_upto hE hS e.x hb1.1,←X.ev_upto hE hS e.y hb1.2,←hA];exact h2
 |.hd r E x,v,hb,h=>by
  simp only[AV.upto] at hb
  show zcq c' p w r E x v
  have h:zcq c p w r E x v:=h;unfold zcq at h⊢;rw[←X.ev_upto hE hS x hb];exact h
 |.wf k j x t own dep a,v,hb,⟨h1,h2⟩=>by
  simp only[AV.upto,gnB] at hb;refine⟨?_,AV.pd_upto hE hS hA hT a v hb.2 h2⟩;unfold za7 at h1⊢;rw[←X.ev_upto hE hS x hb.1,←hA];exact h1
 |.fr T a,v,hb,⟨g,u,ha,hf,e,hh,h⟩=>⟨g,u,by rw[←hA];exact ha,hf,e,hh,AV.pd_upto hE hS hA hT a u (by simpa[AV.upto] using hb) h⟩
 |.ff f T1 x1 t1 T2 x2 t2 dep,v,hb,⟨g,cs1,cs2,e,ha,hb2,hfr,hg,hg2,r1,r2⟩=>by
  simp only[AV.upto,gnB] at hb;rw[X.ev_upto hE hS x1 hb.1,hA] at r1;rw[X.ev_upto hE hS x2 hb.2,hA] at r2;rw[hA] at ha hb2;rw[hT.2.2] at hfr;exact⟨g,cs1,cs2,e,ha,hb2,hfr,hg,hg2,r1,r2⟩
theorem qsd(hE:∀k,k<n→c.v.E k=c'.v.E k)(hS:c.v.S=c'.v.S)(hA:c.A=c'.A)(hT:c.At=c'.At∧c.snap=c'.snap∧c.F=c'.F):∀(l:List AV)(vs:List Value),qjs n l=true→pds c p w l vs→pds c' p w l vs
 |[],vs,_,h=>h
 |a::l,vs,hb,⟨v,r,e,ha,hl⟩=>by
  simp only[qjs,gnB] at hb;exact⟨v,r,e,AV.pd_upto hE hS hA hT a v hb.1 ha,qsd hE hS hA hT l r hb.2 hl⟩
end
theorem q4l.upto(hE:∀k,k<n→c.v.E k=c'.v.E k)(hS:c.v.S=c'.v.S)(hA:c.A=c'.A)(hT:c.At=c'.At∧c.snap=c'.snap∧c.F=c'.F){k:Nat}{e:Ent}(hb:X.upto n e.x=true)(h:q4l c p w k e):q4l c' p w k e:=by
 obtain⟨g,cs,T,hg,hh,hty,hc⟩:=h;rw[X.ev_upto hE hS e.x hb,hA] at hc;exact⟨g,cs,T,hg,hh,hty,hc⟩
end
def reN(ren:List (Nat×Nat))(x:Nat):Nat:=match lkA ren x with
 |some y=>y
 |none=>x
def reO(ren:List (Nat×Nat))(own:List (Nat×Nat)):List (Nat×Nat):=own.map fun e=>(e.1,reN ren e.2)
def reD(ren:List (Nat×Nat))(dep:List Nat):List Nat:=dep.map (reN ren)
mutual
def AV.re(r:List (Nat×Nat)):AV→AV
 |.v x t own dep=>.v x t (reO r own) (reD r dep)
 |.rd x t dep wr=>.rd x t (reD r dep) (match wr with|some (pin,s)=>some (reN r pin,s)|none=>none)
 |.tup l=>.tup (zdz r l)
 |.gd cs a=>.gd cs (AV.re r a)
 |.fn f l=>.fn f (zdz r l)
 |.bx k T a=>.bx k T (AV.re r a)
 |.fr T a=>.fr T (AV.re r a)
 |.ff f T1 x1 t1 T2 x2 t2 dep=>.ff f T1 x1 t1 T2 x2 t2 (reD r dep)
 |.sn t a=>.sn t (AV.re r a)
 |.wf _ _ _ _ _ _ a=>AV.re r a
 |.el _ _ _ a=>AV.re r a
 |.hd _ _ _=>.any
 |.pt pin i E a=>.pt (reN r pin) i E (AV.re r a)
 |.ar E xs dep=>.ar E xs (reD r dep)
 |.lv k t=>.lv k t
 |.ax k T n a=>.ax k T n (AV.re r a)
 |.any=>.any
 |.undef=>.undef
 |.nilS=>.nilS
 |.nb x neg=>.nb x neg
 |.nilP=>.nilP
 |.ref k q o t=>.ref k q o t
def zdz(r:List (Nat×Nat)):List AV→List AV
 |[]=>[]
 |a::l=>AV.re r a::zdz r l
end
def Ent.re(r:List (Nat×Nat))(e:Ent):Ent:=⟨e.x,e.t,reO r e.own,reD r e.dep⟩
def St.re(r:List (Nat×Nat))(σ:St):St:=⟨σ.t.map fun e=>(e.1,e.2.re r),σ.m.map fun e=>(e.1,e.2.re r)⟩
structure ReOk(r:List (Nat×Nat))(p p':z6):Prop where
 to:∀x b,p x=some b→p' (reN r x)=some b
 of:∀y b,p' y=some b→∃x,p x=some b∧y=reN r x
 key:∀k,reN r (k * 16)=k * 16
section
variable{r:List (Nat×Nat)}{A:Nat→Prop}{F:Flr}{p p':z6}{w:World}(hr:ReOk r p p')
include hr
theorem FFD.re{dep:List Nat}{b:Nat}(h:FFD A p dep b):FFD A p' (reD r dep) b:=by
 rcases h with⟨ha,hf⟩|⟨x,hx,e⟩
 ·refine .inl ⟨ha,fun y hy=>?_⟩;obtain⟨x,hx,-⟩:=hr.of y b hy;exact hf x hx
 ·exact .inr ⟨reN r x,kG hx,hr.to x b e⟩
omit hr in
theorem z5s{own:List (Nat×Nat)}{j:Nat}:lkA (reO r own) j=(lkA own j).map (reN r):=by
 induction own with
 |nil=>rfl
 | cons e l ih =>
  obtain⟨i,x⟩:=e;by_cases h:i=j
  ·subst h
   show lkA ((i,reN r x)::reO r l) i=_
   rw[qb,qb];rfl
  ·show lkA ((i,reN r x)::reO r l) j=_
   rw[qf h,qf h,ih]
theorem Rd.re{dep:List Nat}{d:D}{t:Ty}{cs:List Value}(h:Rd w (FFD A p dep) d t cs):Rd w (FFD A p' (reD r dep)) d t cs:=Rd.mono (fun b _ hb=>hb.re hr) h
theorem Fl.re{dep:List Nat}{o:Option Nat}{d:D}{t:Ty}{cs:List Value}(h:Fl A p w dep o d t cs):Fl A p' w (reD r dep) (o.map (reN r)) d t cs:=by
 cases o with
 |none=>exact Rd.re hr h
 | some pin =>
  rcases h.symm with⟨K,V,kt,vt,l,g,es,clock,e1,hK,hV,e2,e3,hg,hh,hl⟩|⟨E,te,l,v,e1,hte,e2,e3,hv⟩
  ·exact .inr ⟨K,V,kt,vt,l,g,es,clock,e1,hK,hV,e2,e3,hr.to _ _ hg,hh,hl⟩
  refine .inl ⟨E,te,l,v,e1,hte,e2,e3,?_⟩;rcases hv with hv|⟨g,cap,cur,e4,hg,hh,q1,q2,q3,q4,q5⟩
  ·exact .inl hv
  ·refine .inr ⟨g,cap,cur,e4,hr.to _ _ hg,hh,q1,q2,q3,q4,fun i hi=>?_⟩;obtain⟨vs,hr1,hd⟩:=q5 i hi;exact⟨vs,hr1,Rd.re hr hd⟩
theorem Fls.re{dep:List Nat}{own:List (Nat×Nat)}:∀{ds:List D}{j:Nat}{fs:List Ty}{cs:List Value},Fls A p w dep own j ds fs cs→Fls A p' w (reD r dep) (reO r own) j ds fs cs
 |[],_,_,_,h=>h
 |d::ds,j,fs,cs,⟨t,ts,c1,c2,e1,e2,h1,h2⟩=>⟨t,ts,c1,c2,e1,e2,by rw[z5s];exact Fl.re hr h1,Fls.re h2⟩
theorem Con.re{dep:List Nat}{own:List (Nat×Nat)}{d:D}{t:Ty}{cs:List Value}(h:Con A p w d t own dep cs):Con A p' w d t (reO r own) (reD r dep) cs:=by
 unfold Con at h⊢;split
 ·obtain⟨fs,ds,hf,e,h⟩:=h;exact⟨fs,ds,hf,e,Fls.re hr h⟩
 ·rename_i hne;split at h
  ·rename_i T;exact absurd rfl (hne T)
  ·rw[z5s];exact Fl.re hr h
end
section
variable{r:List (Nat×Nat)}{c:Cx}{p p':z6}{w:World}
mutual
theorem AV.re_ok(hr:ReOk r p p'):∀(x:AV)(v:Value),x.pd c p w v→(x.re r).pd c p' w v
 |.any,v,h=>h
 |.undef,v,h=>h
 |.nilS,v,h=>h
 |.nb x neg,v,h=>h
 |.nilP,v,h=>h
 |.ref k q o t,v,⟨g,hg,e,ha⟩=>⟨g,by have:=hr.to _ _ hg;rwa [hr.key] at this,e,ha⟩
 |.v x t own dep,v,⟨cs,hp,hc⟩=>⟨cs,hp,hc.re hr⟩
 |.rd x t dep wr,v,⟨b,o,cs,e,hf,hrg,h0,hd,hw⟩=>by
  refine⟨b,o,cs,e,hf.re hr,hrg,h0,Rd.re hr hd,?_⟩
  match wr,hw with
  |none,_=>trivial
  |some (pin,i,pt,q,te),hw=>exact⟨hr.to _ _ hw.1,hw.2⟩
 |.tup l,v,⟨vs,e,h⟩=>⟨vs,e,qzc hr l vs h⟩
 |.gd cs a,v,h=>⟨fun hc=>AV.re_ok hr a v (h.1 hc),h.2⟩
 |.fn f l,v,⟨vs,e,h⟩=>⟨vs,e,qzc hr l vs h⟩
 |.bx k T a,v,⟨g,u,hg,e,hh,h⟩=>⟨g,u,⟨by have:=hr.to _ _ hg.1;rwa [hr.key] at this,hg.2⟩,e,hh,AV.re_ok hr a u h⟩
 |.ax k T n a,v,⟨g,u,hg,e,hh,hn,h⟩=>⟨g,u,⟨by have:=hr.to _ _ hg.1;rwa [hr.key] at this,hg.2⟩,e,hh,hn,AV.re_ok hr a (.agg u) h⟩
 |.sn t a,v,⟨e,h⟩=>⟨e,AV.re_ok hr a v h⟩
 |.wf _ _ _ _ _ _ a,v,h=>AV.re_ok hr a v h.2
 |.el _ _ _ a,v,h=>AV.re_ok hr a v h.2
 |.hd _ _ _,v,h=>trivial
 |.lv k t,v,⟨g,cs,T,hg,e,hh,hs⟩=>⟨g,cs,T,⟨by have:=hr.to _ _ hg.1;rwa [hr.key] at this,hg.2⟩,e,hh,hs⟩
 |.ar E xs dep,v,⟨te,cs,e1,e2,h3,h⟩=>⟨te,cs,e1,e2,h3,fun j d hj=>Rd.re hr (h j d hj)⟩
 | .pt pin i E a, v, ⟨⟨te, A, n, cap, e1, e2, h3⟩, h⟩ => ⟨⟨te, A, n, cap, e1, e2, fun hn => by
   obtain⟨g,hg,e⟩:=h3 hn;exact⟨g,hr.to _ _ hg,e⟩⟩,AV.re_ok hr a v h⟩
 |.fr T a,v,⟨g,u,ha,hf,e,hh,h⟩=>⟨g,u,ha,fun y hy=>by obtain⟨x,hx,-⟩:=hr.of y g hy;exact hf x hx,e,hh,AV.re_ok hr a u h⟩
 |.ff f T1 x1 t1 T2 x2 t2 dep,v,⟨g,cs1,cs2,e,ha,hb,hfr,hg,hg2,r1,r2⟩=>⟨g,cs1,cs2,e,⟨ha.1,fun y hy=>by obtain⟨x,hx,-⟩:=hr.of y g hy;exact ha.2 x hx⟩,⟨hb.1,fun y hy=>by obtain⟨x,hx,-⟩:=hr.of y _ hy;exact hb.2 x hx⟩,hfr,hg,hg2,Rd.mono (fun b _ h=>⟨h.1.re hr,h.2⟩) r1,Rd.mono (fun b _ h=>⟨h.1.re hr,h.2⟩) r2⟩
theorem qzc(hr:ReOk r p p'):∀(l:List AV)(vs:List Value),pds c p w l vs→pds c p' w (zdz r l) vs
 |[],vs,h=>h
 |a::l,vs,⟨v,rr,e,ha,hl⟩=>⟨v,rr,e,AV.re_ok hr a v ha,qzc hr l rr hl⟩
end
theorem SF.re(hr:ReOk r p p'){σ:St}{a:Act}(h:SF c σ p w a):SF c (σ.re r) p' w a:=by
 refine⟨fun t x hx=>?_,fun k e he=>?_⟩
 ·obtain⟨y,hy,rfl⟩:=q5l hx;obtain⟨v,h1,h2⟩:=h.t t y hy;exact⟨v,h1,AV.re_ok hr y v h2⟩
 ·obtain⟨e',he',rfl⟩:=q5l he;obtain⟨g,cs,T,hg,hh,hty,hc⟩:=h.m k e' he';exact⟨g,cs,T,by have:=hr.to _ _ hg;rwa [hr.key] at this,hh,hty,hc.re hr⟩
theorem Bs.re(hr:ReOk r p p'){A:Nat→Prop}{F:Flr}{w0:World}{S0:Nat→Prop}(h:Bs A F w0 S0 p w):Bs A F w0 S0 p' w:=
  ⟨fun x y b hx hy=>by
    obtain⟨x',e1,rfl⟩:=hr.of x b hx;obtain⟨y',e2,rfl⟩:=hr.of y b hy;rw[h.inj x' y' b e1 e2],
   fun x b hx=>let ⟨x',e1,_⟩:=hr.of x b hx;h.bd x' b e1,h.but,fun x b hx=>let ⟨x',e1,_⟩:=hr.of x b hx;h.pin x' b e1,h.new,fun x b hx=>let ⟨x',e1,_⟩:=hr.of x b hx;h.pa x' b e1,fun x b hx=>let ⟨x',e1,_⟩:=hr.of x b hx;h.obj x' b e1,h.flo⟩
end
def reQ(r:List (Nat×Nat)):Nat→Bool:=fun y=>yk (r.map (·.2)) y&& !yk (r.map (·.1)) y
def reP(r:List (Nat×Nat))(p:z6):z6:=fun y=>match lkA (r.map fun e=>(e.2,e.1)) y with
 |some x=>p x
 |none=>if yk (r.map (·.1)) y then none else p y
def reB(r:List (Nat×Nat)):Bool:=q1s (r.map (·.1))&&(q1s (r.map (·.2))&&r.all fun e=> !Nat.beq (e.1 % 16) 0&& !Nat.beq (e.2 % 16) 0)
theorem z9p{r:List (Nat×Nat)}(h:reB r=true){p:z6}:ReOk r (unP (reQ r) p) (reP r (unP (reQ r) p)):=by
 simp only[reB,gnB] at h;obtain⟨h1,h2,h3⟩:=h;have hmem:∀{x y:Nat},lkA r x=some y→(x,y)∈r:=fun h=>q0y h;refine⟨fun x b hx=>?_,fun y b hy=>?_,fun k=>?_⟩
 ·obtain⟨hq,hx'⟩:=q2b hx;unfold reN;cases hl:lkA r x with
  |some y=>
   show reP r _ y=_
   unfold reP;rw[qcx (l:=r.map fun e=>(e.2,e.1)) (by rw[uX];exact h2) (q:=y) (x:=x) (uI.2 ⟨_,hmem hl,rfl⟩)];exact hx
  | none =>
   show reP r _ x=_
   have hn1:yk (r.map (·.1)) x=false:=by
    cases hh:yk (r.map (·.1)) x with
    |false=>rfl
    |true=>
     obtain⟨e,he,rfl⟩:=uI.1 (yz.1 hh);rw[qcx h1 (q:=e.1) (x:=e.2) he] at hl;cases hl
   have hn2:yk (r.map (·.2)) x=false:=by
    unfold reQ at hq;rw[hn1] at hq;simpa using hq
   unfold reP;cases hl2:lkA (r.map fun e=>(e.2,e.1)) x with
   |some z=>
    obtain⟨e,he,e1⟩:=uI.1 (q0y hl2);injection e1 with e1 e2;have:yk (r.map (·.2)) x=true:=yz.2 (uI.2 ⟨e,he,e1⟩);rw[this] at hn2;cases hn2
   |none=>
    simp only[hn1];exact hx
 ·unfold reP at hy;split at hy
  ·rename_i x hl;obtain⟨e,he,e1⟩:=uI.1 (q0y hl);injection e1 with e1 e2;subst e1 e2;exact⟨e.1,hy,by unfold reN;rw[qcx h1 (q:=e.1) (x:=e.2) he]⟩
  ·rename_i hl;split at hy
   ·cases hy
   ·rename_i hn;refine⟨y,hy,?_⟩;unfold reN;cases hl2:lkA r y with
    |none=>rfl
    |some z=>exact absurd (yz.2 (uI.2 ⟨_,hmem hl2,rfl⟩)) hn
 ·unfold reN;cases hl:lkA r (k * 16) with
  |none=>rfl
  |some y=>
   have:=uJ.1 h3 _ (hmem hl);simp at this
def St.ren(r:List (Nat×Nat))(σ:St):St:=match r with
 |[]=>σ
 |_=>(σ.un (reQ r)).re r
theorem z2h{r:List (Nat×Nat)}(h:reB r=true){c:Cx}{w0 w:World}{S0:Nat→Prop}{p:z6}{σ:St}{a:Act}(hb:Bs c.A c.F w0 S0 p w)(hf:SF c σ p w a):∃p',Bs c.A c.F w0 S0 p' w∧SF c (σ.ren r) p' w a:=by
 cases r with
 |nil=>exact⟨p,hb,hf⟩
 |cons e r=>
  have hb1:=hb.un (reQ (e::r));have hf1:=SF.un (q:=reQ (e::r)) hb.inj hb.pa hf;exact⟨_,Bs.re (z9p h) hb1,SF.re (z9p h) hf1⟩
end
end Go.Proofs.Ytbmaffphliignaa
