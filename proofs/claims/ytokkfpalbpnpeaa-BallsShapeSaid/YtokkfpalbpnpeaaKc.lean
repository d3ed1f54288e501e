/-
 Lemmas of the walk and plain laws, put together. No condition.
-/
import Derived.CallsIn
import Derived.ControlIn
import Derived.LoopIn
import Derived.LoopN
import Derived.LoopNIn
import Derived.OrdersIn
import Derived.OwnWalkIn
import Derived.RangeFuncBox
import Derived.RangeFuncCalls
import Derived.RangeFuncLeaves
import Derived.Scope
import Derived.Shelf.Abstract
import Derived.TacticsIn
import Derived.TacticsInMore
import Derived.Test.YtokkfpalbpnpeaaKb
namespace Go.Proofs.Ytokkfpalbpnpeaa
open Go.RowKit
set_option linter.unusedVariables false
set_option linter.unusedSimpArgs false
set_option maxRecDepth 100000
open _root_.List renaming mem_cons_of_mem→uA,mem_cons_self→uB,mem_append_right→uE,map_cons→uF,mem_append_left→uG,all_eq_true→uI,mem_map→uJ,mem_cons→uP,drop_eq_getElem_cons→uQ,drop_eq_nil_of_le→uS,mem_filter→uT,mem_map_of_mem→uU,isEmpty_iff→uX,getElem?_cons_zero→uY,map_map→kA,mem_of_getElem?→kH,cons_append→kM,all_cons→kO,take_append_drop→kQ,getElem?_toArray→kR,range'→kT,getElem?_map→kY,mem_append→vC,map_append→vE,head?_cons→vF
open _root_.Go.Proofs.Try renaming prog→uC
open _root_.Nat renaming beq→uD,land→uZ,blt_eq→kB,le_of_ble_eq_true→kG,shiftRight→kI,blt→kJ,shiftLeft→kK,lt_or_ge→kL,ble→kN,zero_add→kP,le_refl→kU,testBit_two_pow→kW,beq_eq→kX,one_shiftLeft→vA,lor→vB,testBit_and→vG,testBit_or→vH,sub_self→vK
open _root_.Option.some renaming injEq→uH
open _root_.Option renaming bind_eq_some_iff→uK,map_eq_some_iff→uL,isSome_iff_exists→uW
open _root_.Bool renaming not_eq_true'→uM,or_eq_true→kC,true_and→vI
open _root_.Array renaming size_setIfInBounds→uN,getElem?_setIfInBounds→uO,getElem?_eq_some_iff→uV,getElem?_toList→kE,getElem?_setIfInBounds_self_of_lt→kF,getD→kV,ext'→vL
open _root_.Prod.mk renaming injEq→uR,inj→kS
section
section
variable{A A2:Bk}{p p2:qe}{w w2:World}{dep dep2:List Nat}
structure RelD(A:Bk)(p:qe)(w:World)(dep:List Nat)(own:List (Nat×Nat))(A2:Bk)(p2:qe)(w2:World)(dep2:List Nat)(own2:List (Nat×Nat)):Prop where
 kp:Kp (FFD A p dep) (FFD A2 p2 dep2) w w2
 yes:∀j q,lkA own2 j=some q→∃pin,lkA own j=some pin∧∀g,p pin=some g→p2 q=some g∧w2.heap[g]? =w.heap[g]?
 none:∀j,lkA own2 j=none→lkA own j=none
theorem Fl.relabel{own own2:List (Nat×Nat)}(hr:RelD A p w dep own A2 p2 w2 dep2 own2){j:Nat}{d:D}{t:Ty}{cs:List Value}(h:Fl A p w dep (lkA own j) d t cs):Fl A2 p2 w2 dep2 (lkA own2 j) d t cs:=by
 cases h2:lkA own2 j with
 |none=>
  rw[hr.none j h2] at h;exact Rd.keeps hr.kp _ h
 | some q =>
  obtain⟨pin,h1,hp⟩:=hr.yes j q h2;rw[h1] at h;rcases h.symm with⟨K,V,kt,vt,l,g,es,clock,e1,hK,hV,e2,e3,hg,hh,hl⟩|⟨E,te,l,v,e1,hte,e2,e3,hv⟩
  ·obtain⟨hq,he⟩:=hp g hg;exact .inr ⟨K,V,kt,vt,l,g,es,clock,e1,hK,hV,e2,e3,hq,he.trans hh,hl⟩
  refine .inl ⟨E,te,l,v,e1,hte,e2,e3,?_⟩;rcases hv with hv|⟨g,cap,cur,e4,hg,hh,q1,q2,q3,q4,q5⟩
  ·exact .inl hv
  ·obtain⟨hq,he⟩:=hp g hg;refine .inr ⟨g,cap,cur,e4,hq,he.trans hh,q1,q2,q3,q4,fun i hi=>?_⟩;obtain⟨vs,hr1,hd⟩:=q5 i hi;exact⟨vs,q3e hr1 he,Rd.keeps hr.kp _ hd⟩
theorem Fls.relabel{own own2:List (Nat×Nat)}(hr:RelD A p w dep own A2 p2 w2 dep2 own2):∀{ds:List D}{n:Nat}{fs:List Ty}{cs:List Value},Fls A p w dep own n ds fs cs→Fls A2 p2 w2 dep2 own2 n ds fs cs
 |[],_,_,_,h=>h
 |d::ds,n,fs,cs,⟨t,ts,c1,c2,e1,e2,h1,h2⟩=>⟨t,ts,c1,c2,e1,e2,Fl.relabel hr h1,Fls.relabel hr h2⟩
theorem Con.relabel{own own2:List (Nat×Nat)}(hr:RelD A p w dep own A2 p2 w2 dep2 own2){d:D}{t:Ty}{cs:List Value}(h:Con A p w d t own dep cs):Con A2 p2 w2 d t own2 dep2 cs:=by
 unfold Con at h⊢;split
 ·obtain⟨fs,ds,hf,e,h⟩:=h;exact⟨fs,ds,hf,e,Fls.relabel hr h⟩
 ·rename_i hne;split at h
  ·rename_i T;exact absurd rfl (hne T)
  ·exact Fl.relabel hr h
theorem qim{t:Ty}{k:Nat}{b:Bool}{own:List (Nat×Nat)}(hown:b=true→∀j,lkA (qj k t) j≠none→lkA own j≠none){d:D}{cs:List Value}(h:Con A p w d t own dep cs):Con A p w d t own (qpo t b dep) cs:=by
 unfold qpo;split
 ·rename_i hf;simp only[kC,gnB] at hf;rcases hf with hf|⟨hb,hf⟩
  ·exact h.flatT hf
  ·exact h.flat1 (hown hb) hf
 ·exact h
end
theorem q5e{l:List (Nat×Nat)}(hn:ye (l.map (·.2))=true){q x:Nat}(h:(q,x)∈l):lkA (l.map fun y=>(y.2,y.1)) x=some q:=by
 induction l with
 |nil=>cases h
 | cons e l ih =>
  obtain⟨q',x'⟩:=e;simp only[uF,ye,gnB,uM] at hn;rcases uP.1 h with h|h
  ·injection h with h1 h2;subst h1 h2;exact qa
  ·have hx:x'≠x:=fun e=>by
    subst e;have:x'∈l.map (·.2):=uJ.2 ⟨(q,x'),h,rfl⟩;rw[qz.2 this] at hn;cases hn.1
   rw[uF,qb hx];exact ih hn.2 h
theorem q3z{l:List (Nat×Nat)}(hn:ye (l.map (·.1))=true){q x:Nat}(h:(q,x)∈l):lkA l q=some x:=by
 induction l with
 |nil=>cases h
 | cons e l ih =>
  obtain⟨q',x'⟩:=e;simp only[uF,ye,gnB,uM] at hn;rcases uP.1 h with h|h
  ·injection h with h1 h2;subst h1 h2;exact qa
  ·have hx:q'≠q:=fun e=>by
    subst e;have:q'∈l.map (·.1):=uJ.2 ⟨(q',x),h,rfl⟩;rw[qz.2 this] at hn;cases hn.1
   rw[qb hx];exact ih hn.2 h
theorem qk1{l:List (Nat×Nat)}{q x:Nat}(h:lkA (l.map fun y=>(y.2,y.1)) x=some q):(q,x)∈l:=by
 have:=y3 h;obtain⟨e,he,h1⟩:=uJ.1 this;injection h1 with h1 h2;subst h1 h2;exact he
theorem q5w:∀{own mine:List (Nat×Nat)}{ps:List (Nat×Nat×Nat)},q70 own mine=some ps→ps.map (fun y=>(y.1,y.2.1))=own∧∀y∈ps,lkA mine y.1=some y.2.2
  | [], mine, ps, h => by
    simp only[q70,uH] at h;subst h;exact⟨rfl,fun y hy=>by cases hy⟩
  | (j, q) :: l, mine, ps, h => by
    simp only[q70] at h;split at h
    · rename_i pin r h1 h2;injection h with h;subst h;obtain⟨i1,i2⟩:=q5w h2;refine⟨by simp[i1],fun y hy=>?_⟩;rcases uP.1 hy with rfl|hy
      · exact h1
      · exact i2 y hy
    · cases h
theorem qc5{ps:List (Nat×Nat×Nat)}{j:Nat}:(∀q,lkA (ps.map fun y=>(y.1,y.2.1)) j=some q→∃pin,(j,q,pin)∈ps∧lkA (ps.map fun y=>(y.1,y.2.2)) j=some pin)∧(∀pin,lkA (ps.map fun y=>(y.1,y.2.2)) j=some pin→∃q,(j,q,pin)∈ps∧lkA (ps.map fun y=>(y.1,y.2.1)) j=some q):=by
 induction ps with
 |nil=>exact⟨fun q h=>(by cases h),fun q h=>(by cases h)⟩
 | cons e l ih =>
  obtain⟨m,q0,x0⟩:=e;by_cases hm:m=j
  ·subst hm;constructor
   ·intro q h;rw[uF,qa] at h;injection h with h;subst h;exact⟨x0,uB,by rw[uF];exact qa⟩
   ·intro q h;rw[uF,qa] at h;injection h with h;subst h;exact⟨q0,uB,by rw[uF];exact qa⟩
  ·constructor
   ·intro q h;rw[uF,qb hm] at h;obtain⟨pin,h1,h2⟩:=ih.1 q h;exact⟨pin,uA _ h1,by rw[uF,qb hm];exact h2⟩
   ·intro q h;rw[uF,qb hm] at h;obtain⟨pin,h1,h2⟩:=ih.2 q h;exact⟨pin,uA _ h1,by rw[uF,qb hm];exact h2⟩
section
variable{c:Cx}{p p':qe}{w w' w0:World}{S0:Nat→Prop}{a:Act}{σ σ':St}{cs:List (X×Bool)}{o:Oper}{d:List Deferred}{z:Nat}
theorem qhy(hf:SF c σ p w a){x:AV}{v:Value}(h:x.pd c p w v):(qoq σ x).pd c p w v:=by
 unfold qoq;split
 ·exact h.2
 ·rename_i k path o t;split
  ·split
   ·rename_i k' T y hl;split
    ·rename_i hk;have hk:=gnN hk;subst hk;obtain⟨v',-,g,u,hg,e,hh,hy⟩:=hf.t k' _ hl;obtain⟨g',hg',e',-⟩:=h;obtain rfl:=gnI (hg.1.symm.trans hg');exact⟨g,u,hg,e',hh,hy⟩
    ·exact h
   ·exact h
  ·exact h
 ·exact h
mutual
theorem q84:∀(x y:AV){v v':Value},j9 x y=true→x.pd c p w v→y.pd c p w v'→v=v'
 | .sn i x, y, v, v', h, hx, hy => by
  cases y with
  |sn j y=>
   have h:=gnN h;subst h;rw[hx.1,hy.1]
  |_=>cases h
 | .ref k p1 o t, y, v, v', h, hx, hy => by
  obtain⟨g,hg,rfl,-⟩:=hx;cases y with
  |ref k' p2 o' t'=>
   simp only[j9,gnB] at h;obtain⟨g',hg',rfl,-⟩:=hy;obtain⟨h1,h2⟩:=h;have h1:=gnN h1;have h2:=gnN h2;subst h1 h2;obtain rfl:=gnI (hg.symm.trans hg');rfl
  |bx k' T b=>
   simp only[j9,gnB] at h;obtain⟨g',u,⟨hg',-⟩,rfl,-⟩:=hy;obtain⟨h1,h2⟩:=h;have h1:=gnN h1;have h2:=gnN h2;subst h1 h2;obtain rfl:=gnI (hg.symm.trans hg');rfl
  |_=>simp[j9] at h
 | .bx k T b, y, v, v', h, hx, hy => by
  obtain⟨g,u,⟨hg,-⟩,rfl,-⟩:=hx;cases y with
  |ref k' p2 o' t'=>
   simp only[j9,gnB] at h;obtain⟨g',hg',rfl,-⟩:=hy;obtain⟨h1,h2⟩:=h;have h1:=gnN h1;have h2:=gnN h2;subst h1 h2;obtain rfl:=gnI (hg.symm.trans hg');rfl
  |bx k' T' b'=>
   simp only[j9] at h;obtain⟨g',u',⟨hg',-⟩,rfl,-⟩:=hy;have h:=gnN h;subst h;obtain rfl:=gnI (hg.symm.trans hg');rfl
  |_=>simp[j9] at h
 | .fn f l, y, v, v', h, hx, hy => by
  obtain⟨vs,rfl,hl⟩:=hx;cases y with
  |fn f' l'=>
   simp only[j9,gnB] at h;obtain⟨vs',rfl,hl'⟩:=hy;rw[gnN h.1,qgd l l' h.2 hl hl']
  |_=>simp[j9] at h
 | .nilP, y, v, v', h, hx, hy => by
  cases y with
  |nilP=>
   obtain rfl:v=.pointer none:=hx;obtain rfl:v'=.pointer none:=hy;rfl
  |_=>simp[j9] at h
 |.any,y,v,v',h,hx,hy=>by cases y<;>simp[j9] at h
 |.undef,y,v,v',h,hx,hy=>by cases y<;>simp[j9] at h
 |.v _ _ _ _,y,v,v',h,hx,hy=>by cases y<;>simp[j9] at h
 |.nilS,y,v,v',h,hx,hy=>by cases y<;>simp[j9] at h
 |.rd _ _ _ _,y,v,v',h,hx,hy=>by cases y<;>simp[j9] at h
 |.tup _,y,v,v',h,hx,hy=>by cases y<;>simp[j9] at h
 |.gd _ _,y,v,v',h,hx,hy=>by cases y<;>simp[j9] at h
 |.nb _ _,y,v,v',h,hx,hy=>by cases y<;>simp[j9] at h
 |.fr _ _,y,v,v',h,hx,hy=>by cases y<;>simp[j9] at h
 |.ff _ _ _ _ _ _ _ _,y,v,v',h,hx,hy=>by cases y<;>simp[j9] at h
 |.pt _ _ _ _,y,v,v',h,hx,hy=>by cases y<;>simp[j9] at h
 |.ar _ _ _,y,v,v',h,hx,hy=>by cases y<;>simp[j9] at h
 |.lv _ _,y,v,v',h,hx,hy=>by cases y<;>simp[j9] at h
 |.ax _ _ _ _,y,v,v',h,hx,hy=>by cases y<;>simp[j9] at h
theorem qgd:∀(l m:List AV){vs vs':List Value},qa8 l m=true→pds c p w l vs→pds c p w m vs'→vs=vs'
 |[],m,vs,vs',h,hx,hy=>by
  cases m with
  |nil=>rw[show vs=[] from hx,show vs'=[] from hy]
  |cons=>simp[qa8] at h
 | x :: l, m, vs, vs', h, hx, hy => by
  cases m with
  |nil=>simp[qa8] at h
  |cons y m=>
   simp only[qa8,gnB] at h;obtain⟨v,r,rfl,h1,h2⟩:=hx;obtain⟨v',r',rfl,h3,h4⟩:=hy;rw[q84 x y h.1 h1 h3,qgd l m h.2 h2 h4]
end
theorem q63{l:List AV}:∀{vs:List Value}{i:Nat}{x:AV},pds c p w l vs→l[i]? =some x→∃v,vs[i]? =some v∧x.pd c p w v:=by
 induction l with
 |nil=>intro vs i x _ h;simp at h
 | cons y l ih =>
  rintro vs i x⟨v,r,rfl,h1,h2⟩h;cases i with
  |zero=>
   simp at h;subst h;exact⟨v,rfl,h1⟩
  |succ i=>
   obtain⟨u,e,hu⟩:=ih h2 (by simpa using h);exact⟨u,by simpa using e,hu⟩
theorem qsm{l:List AV}:∀{vs:List Value}{x:AV}{v:Value},pds c p w l vs→x.pd c p w v→pds c p w (l++[x]) (vs++[v]):=by
 induction l with
 |nil=>
  intro vs x v h hx;obtain rfl:vs=[]:=h;exact⟨v,[],rfl,hx,rfl⟩
 |cons y l ih=>
  rintro vs x v⟨u,r,rfl,h1,h2⟩hx;exact⟨u,r++[v],rfl,h1,ih h2 hx⟩
theorem qvq(hf:SF c σ p w a){avs:List AV}{vs:List Value}(hv:pds c p w avs vs){s:Src}{x:AV}(h:qux σ avs s=some x):∃v,x.pd c p w v:=by
 cases s with
 | cap i q =>
  simp only[qux] at h;split at h
  ·rename_i y hy;obtain⟨v,-,h1⟩:=q63 hv hy;have h2:=qhy hf h1;split at h
   ·rename_i f l hr;rw[hr] at h2;obtain⟨vs',-,hl⟩:=h2;obtain⟨u,-,hu⟩:=q63 hl h;exact⟨u,hu⟩
   ·cases h
  ·cases h
 | cell i =>
  simp only[qux] at h;split at h
  ·rename_i y hy;obtain⟨v,-,h1⟩:=q63 hv hy;have h2:=qhy hf h1;split at h
   ·rename_i k T b hr;rw[hr] at h2;injection h with h;subst h;obtain⟨g,u,-,-,-,hu⟩:=h2;exact⟨u,hu⟩
   ·rename_i T b hr;rw[hr] at h2;injection h with h;subst h;obtain⟨g,u,-,-,-,-,hu⟩:=h2;exact⟨u,hu⟩
   ·cases h
  ·cases h
theorem qj6(hf:SF c σ p w a):∀{ss:List Src}{avs V:List AV}{vs:List Value},qfx σ avs ss=some V→pds c p w avs vs→∃us,pds c p w V (vs++us)
 |[],avs,V,vs,h,hv=>by
  simp only[qfx,uH] at h;subst h;exact⟨[],by simpa using hv⟩
 | s :: ss, avs, V, vs, h, hv => by
  simp only[qfx] at h;split at h
  ·rename_i x hx;obtain⟨u,hu⟩:=qvq hf hv hx;obtain⟨us,h2⟩:=qj6 hf h (qsm hv hu);exact⟨u::us,by simpa using h2⟩
  ·cases h
theorem qni{V:List AV}{VV:List Value}(hV:pds c p w V VV):∀{l:List AV}{ks:List Nat}{vs:List Value},qow V l ks=true→pds c p w l vs→vs=ks.map fun k=>VV.getD k undef
 |[],[],vs,_,h=>h
 | x :: l, k :: ks, vs, h, ⟨v, r, e, h1, h2⟩ => by
  subst e;simp only[qow,gnB] at h;obtain⟨h3,h4⟩:=h;split at h3
  ·rename_i b hb;obtain⟨v',e,hb'⟩:=q63 hV hb;rw[q84 x b h3 h1 hb',qni hV h4 h2,uF,gnG,e];rfl
  ·cases h3
 |[],_::_,vs,h,_=>by simp[qow] at h
 |_::_,[],vs,h,_=>by simp[qow] at h
theorem qop{V:List AV}{i:Nat}{r:Ar}{x:AV}{g0 g:Gv}(h:q3d σ V i r x g0=some g):(∀y∈g0.dep,y∈g.dep)∧∀y∈g0.pass,y∈g.pass:=by
 unfold q3d at h;split at h
 ·split at h
  ·injection h with h;subst h;exact⟨fun y hy=>jo hy,fun y hy=>hy⟩
  ·cases h
 ·split at h
  ·split at h
   ·split at h
    ·injection h with h;subst h;exact⟨fun y hy=>jo hy,fun y hy=>uA _ (uE _ hy)⟩
    ·cases h
   ·cases h
  ·cases h
 ·split at h
  ·split at h
   ·injection h with h;subst h;exact⟨fun y hy=>jo hy,fun y hy=>hy⟩
   ·cases h
  ·cases h
 ·split at h
  ·injection h with h;subst h;exact⟨fun y hy=>jo hy,fun y hy=>hy⟩
  ·cases h
 ·split at h
  ·injection h with h;subst h;exact⟨fun y hy=>hy,fun y hy=>hy⟩
  ·cases h
 ·split at h
  ·split at h
   ·split at h
    ·injection h with h;subst h;exact⟨fun y hy=>jo hy,fun y hy=>uE _ hy⟩
    ·cases h
   ·cases h
  ·cases h
 ·split at h
  ·split at h
   ·injection h with h;subst h;exact⟨fun y hy=>hy,fun y hy=>uA _ hy⟩
   ·cases h
  ·cases h
 ·injection h with h;subst h;exact⟨fun y hy=>hy,fun y hy=>hy⟩
 ·injection h with h;subst h;exact⟨fun y hy=>hy,fun y hy=>hy⟩
 ·split at h
  ·split at h
   ·injection h with h;subst h;exact⟨fun y hy=>jo hy,fun y hy=>hy⟩
   ·cases h
  ·cases h
 ·split at h
  ·injection h with h;subst h;exact⟨fun y hy=>hy,fun y hy=>hy⟩
  ·cases h
 ·split at h
  ·injection h with h;subst h;exact⟨fun y hy=>jo hy,fun y hy=>hy⟩
  ·cases h
 ·split at h
  ·injection h with h;subst h;exact⟨fun y hy=>hy,fun y hy=>hy⟩
  ·cases h
 ·split at h
  ·injection h with h;subst h;exact⟨fun y hy=>jo hy,fun y hy=>hy⟩
  ·cases h
 ·cases h
theorem qpr(hf:SF c σ p w a){V:List AV}{VV:List Value}(hV:pds c p w V VV){i:Nat}{r:Ar}{x:AV}{g0 g:Gv}(h:q3d σ V i r x g0=some g){v:Value}(hx:x.pd c p w v){A0:Bk}{p0:qe}
  (hF:∀b,b<w.heap.size→FFD c.A p g.dep b→FFD A0 p0 [] b)(hO:∀b,b<w.heap.size→(c.A.o b∨p q0d=some b)→FFD A0 p0 [q0d] b)(hp:∀y∈g.pass,p0 y.1=p y.2){l:List (Nat×Ar)}{vs:List Value}(hr:z0 VV A0 p0 w l vs (X.evs c.v g0.xs)):z0 VV A0 p0 w ((i,r)::l) (v::vs) (X.evs c.v g.xs):=by
 unfold q3d at h;split at h
 ·rename_i t;split at h
  ·rename_i xx own dep h1;injection h with h;subst h;obtain⟨cs,hpk,hcon⟩:=yg h1 hx;refine⟨v,vs,xx.ev c.v,X.evs c.v g0.xs,rfl,rfl,⟨cs,hpk,?_⟩,hr⟩;exact(hcon.rd (dep':=uni (uni (own.map (·.2)) dep) g0.dep) (fun y hy=>yh (jo hy)) (fun y hy=>yh (yh hy))).mono hF
  ·cases h
 ·rename_i t o k t';split at h
  ·rename_i e he;split at h
   ·rename_i hok;simp only[gnB] at hok;obtain⟨-,h1,h2,h3⟩:=hok;rw[Ty.beq_iff] at h1 h2;subst h1;split at h
    ·rename_i ps hps;injection h with h;subst h;obtain⟨g1,hg0,hev,-⟩:=hx;obtain⟨g2,cs,T,hg1,hh,hty,hcon⟩:=hf.m k e he;obtain rfl:=gnI (hg0.symm.trans hg1);obtain⟨i1,i2⟩:=q5w hps;rw[h2] at hcon hty;refine⟨v,vs,e.x.ev c.v,X.evs c.v g0.xs,rfl,rfl,⟨g1,cs,T,?_,hev,hh,hty,?_⟩,hr⟩
     ·exact(hp (i * 16,k * 16) uB).trans hg0
     ·refine hcon.relabel ⟨fun b ob hb ho=>⟨ho,hF b (zd ho) (hb.mono fun y hy=>yh hy)⟩,fun j q hq=>?_,fun j hj=>?_⟩
      ·rw[←i1] at hq;obtain⟨pin,hm1,-⟩:=qc5.1 q hq;refine⟨pin,i2 _ hm1,fun g hg=>⟨?_,rfl⟩⟩;exact(hp (q,pin) (uA _ (uG _ (uJ.2 ⟨_,hm1,rfl⟩)))).trans hg
      ·cases ho:lkA e.own j with
       |none=>rfl
       |some y=>
        have:=uI.1 h3 _ (y3 ho);simp only at this;rw[hj] at this;cases this
    ·cases h
   ·cases h
  ·cases h
 ·rename_i t k t';split at h
  ·rename_i e he;split at h
   ·rename_i hok;simp only[gnB] at hok;obtain⟨h1,h2,h3⟩:=hok;rw[Ty.beq_iff] at h1 h2;subst h1;injection h with h;subst h;obtain⟨g1,hg0,hev,-⟩:=hx;obtain⟨g2,cs,T,hg1,hh,hty,hcon⟩:=hf.m k e he;obtain rfl:=gnI (hg0.symm.trans hg1);rw[h2] at hcon;have hrd:=hcon.rd (dep':=uni (k * 16::uni (e.own.map (·.2)) e.dep) g0.dep) (fun y hy=>yh (uA _ (jo hy))) (fun y hy=>yh (uA _ (yh hy)));have hl:=hcon.len.1;refine⟨v,vs,e.x.ev c.v,X.evs c.v g0.xs,rfl,rfl,⟨g1,0,cs.toList,hev,hF g1 (zd hh) (.inr (.inl ⟨k * 16,yh uB,hg0⟩)),fun j u hj=>?_,by rw[hl];exact kB.mp h3,hrd.mono hF⟩,hr⟩;rw[cell_of_row w g1 (0+j) cs T (0,0) hh,←kE];simpa using hj
   ·cases h
  ·cases h
 ·rename_i t xx t' dep wr;split at h
  ·rename_i h1;rw[Ty.beq_iff] at h1;subst h1;injection h with h;subst h;obtain⟨b,o,cs,hev,hb,hrr,h0,hd,-⟩:=hx;refine⟨v,vs,xx.ev c.v,X.evs c.v g0.xs,rfl,rfl,⟨b,o,cs,hev,hF b (qct hrr h0) (hb.mono fun y hy=>yh hy),hrr,h0,?_⟩,hr⟩;exact(hd.mono fun b _ hfb=>hfb.mono fun y hy=>yh hy).mono hF
  ·cases h
 ·rename_i E;split at h
  ·rename_i hE;injection h with h;subst h;obtain rfl:v=.slice none 0 0:=hx;obtain⟨te,hte⟩:=uW.1 hE;refine⟨_,vs,.r [],X.evs c.v g0.xs,rfl,rfl,⟨[.slice none 0 0],rfl,?_⟩,hr⟩
   show Fl A0 p0 w [] (lkA [(0,i * 16+1)] 0) (.r []) (.row E) _
   rw[qa];exact .inl ⟨E,te,[],_,rfl,hte,rfl,rfl,.inl ⟨rfl,rfl⟩⟩
  ·cases h
 ·rename_i t;split at h
  ·rename_i xx own dep h1;split at h
   ·rename_i h3;split at h
    ·rename_i ps hps;injection h with h;subst h;obtain⟨cs,hpk,hcon⟩:=yg h1 hx;obtain⟨i1,i2⟩:=q5w hps;refine⟨v,vs,xx.ev c.v,X.evs c.v g0.xs,rfl,rfl,⟨cs,hpk,hcon.relabel ⟨fun b ob hb ho=>⟨ho,hF b (zd ho) (hb.mono fun y hy=>yh hy)⟩,fun j q hq=>?_,fun j hj=>?_⟩⟩,hr⟩
     ·rw[←i1] at hq;obtain⟨pin,hm1,-⟩:=qc5.1 q hq;refine⟨pin,i2 _ hm1,fun g hg=>⟨?_,rfl⟩⟩;exact(hp (q,pin) (uG _ (uJ.2 ⟨_,hm1,rfl⟩))).trans hg
     ·cases ho:lkA own j with
      |none=>rfl
      |some y=>
       have:=uI.1 h3 _ (y3 ho);simp only at this;rw[hj] at this;cases this
    ·cases h
   ·cases h
  ·cases h
 ·rename_i t;split at h
  ·rename_i xx pin dep h1;split at h
   ·rename_i hmp;injection h with h;subst h;obtain⟨cs,hpk,hcon⟩:=yg h1 hx;obtain⟨hfo,hoa⟩:=qcf hmp;have hcon0:Con c.A p w (xx.ev c.v) t [(0,pin)] [] cs:=hcon.flat1 (k:=i) (fun j hj=>by
     rw[hoa] at hj;by_cases h0:0=j
     ·subst h0;rw[qa];simp
     ·rw[qb h0] at hj;exact absurd rfl hj) hfo
    refine⟨v,vs,xx.ev c.v,X.evs c.v g0.xs,rfl,rfl,⟨cs,hpk,hcon0.relabel ⟨fun b ob hb ho=>⟨ho,hF b (zd ho) (hb.mono fun y hy=>by cases hy)⟩,fun j q hq=>?_,fun j hj=>?_⟩⟩,hr⟩
    ·rw[hoa] at hq;have hq':lkA [(0,i * 16+1)] j=some q:=hq;by_cases hj:0=j
     ·subst hj;rw[qa] at hq';injection hq' with hq';subst hq';exact⟨pin,qa,fun g hg=>⟨(hp (i * 16+1,pin) uB).trans hg,rfl⟩⟩
     ·rw[qb hj] at hq';cases hq'
    ·rw[hoa] at hj;have hj':lkA [(0,i * 16+1)] j=none:=hj;by_cases hj0:0=j
     ·subst hj0;rw[qa] at hj';cases hj'
     ·rw[qb hj0];rfl
   ·cases h
  ·cases h
 ·injection h with h;subst h;obtain rfl:v=.slice none 0 0:=hx;exact⟨vs,rfl,hr⟩
 ·injection h with h;subst h;obtain rfl:v=.pointer none:=hx;exact⟨vs,rfl,hr⟩
 ·rename_i t d;split at h
  ·rename_i hcst;split at h
   ·rename_i xx own dep h1;injection h with h;subst h;obtain⟨cs,hpk,hcon⟩:=yg h1 hx;unfold qq4 at hcst;rw[h1] at hcst;simp only at hcst;split at hcst
    ·rename_i d' hd';rw[D.beq_iff] at hcst;subst hcst;rw[qo1 hd'] at hcon;exact⟨v,vs,rfl,⟨cs,hpk,(hcon.rd (dep':=uni (uni (own.map (·.2)) dep) g0.dep) (fun y hy=>yh (jo hy)) (fun y hy=>yh (yh hy))).mono hF⟩,hr⟩
    ·cases hcst
   ·cases h
  ·cases h
 ·rename_i f ks f' l';split at h
  ·rename_i hok;simp only[gnB] at hok;injection h with h;subst h;obtain⟨caps,rfl,hl⟩:=hx;have hff:=gnN hok.1;subst hff;exact⟨vs,by rw[qni hV hok.2 hl],hr⟩
  ·cases h
 ·rename_i T j k T' y;split at h
  ·rename_i hok;simp only[gnB] at hok;obtain⟨h1,h2⟩:=hok;have h1:=gnN h1;subst h1;injection h with h;subst h;obtain⟨b,u,⟨hg,-⟩,rfl,hh,hu⟩:=hx;unfold qhn at h2;split at h2
   ·rename_i b' hb';obtain⟨v',e,hv'⟩:=q63 hV hb';have hu':u=VV.getD j undef:=by
     rw[q84 y b' h2 hu hv',gnG,e];rfl
    rcases hF b (zd hh) (.inr (.inl ⟨k * 16,yh uB,hg⟩)) with⟨q1,q2⟩|⟨x,hx,-⟩|⟨hx,-⟩
    ·exact⟨b,vs,rfl,q1,q2,by rw[←hu'];exact hh,hr⟩
    ·cases hx
    ·cases hx
   ·cases h2
  ·cases h
 ·rename_i T j T' y;split at h
  ·rename_i hok;simp only[gnB] at hok;obtain⟨h1,h2⟩:=hok;have h1:=gnN h1;subst h1;injection h with h;subst h;obtain⟨b,u,ha,hfr,rfl,hh,hu⟩:=hx;unfold qhn at h2;split at h2
   ·rename_i b' hb';obtain⟨v',e,hv'⟩:=q63 hV hb';have hu':u=VV.getD j undef:=by
     rw[q84 y b' h2 hu hv',gnG,e];rfl
    rcases hF b (zd hh) (.inl ⟨ha,hfr⟩) with⟨q1,q2⟩|⟨x,hx,-⟩|⟨hx,-⟩
    ·exact⟨b,vs,rfl,q1,q2,by rw[←hu'];exact hh,hr⟩
    ·cases hx
    ·cases hx
   ·cases h2
  ·cases h
 ·rename_i t;split at h
  ·rename_i xx own dep h1;injection h with h;subst h;obtain⟨cs,hpk,hcon⟩:=yg h1 hx;refine⟨v,vs,xx.ev c.v,X.evs c.v g0.xs,rfl,rfl,⟨cs,hpk,?_⟩,hr⟩;refine(hcon.rd (dep':=uni (own.map (·.2)) dep) (fun y hy=>jo hy) (fun y hy=>yh hy)).mono fun b hlt hb=>?_;have lift:FFD A0 p0 [] b→FFD A0 p0 [q0d] b:=fun q=>q.mono fun y hy=>by cases hy
   rcases hb with hb|⟨x,hx',e⟩|⟨-,hao⟩
   ·exact lift (hF b hlt (.inl hb))
   ·by_cases hxo:x=q0d
    ·subst hxo;exact hO b hlt (.inr e)
    ·refine lift (hF b hlt (.inr (.inl ⟨x,yh ?_,e⟩)));rcases qta hx' with q|q
     ·exact yh q
     ·exact jo (uT.2 ⟨q,by
      cases hb:uD x q0d with
      |false=>rfl
      |true=>exact absurd (gnN hb) hxo⟩)
   ·exact hO b hlt (.inl hao)
  ·cases h
 ·cases h
theorem qm9(hf:SF c σ p w a){V:List AV}{VV:List Value}(hV:pds c p w V VV){A0:Bk}{p0:qe}:∀{all:List (Nat×Ar)}{avs:List AV}{g:Gv}{vs:List Value},give σ V all avs=some g→pds c p w avs vs→
    (∀b,b<w.heap.size→FFD c.A p g.dep b→FFD A0 p0 [] b)→(∀b,b<w.heap.size→(c.A.o b∨p q0d=some b)→FFD A0 p0 [q0d] b)→(∀y∈g.pass,p0 y.1=p y.2)→z0 VV A0 p0 w all vs (X.evs c.v g.xs)
  | [], [], g, vs, h, hv, hF, hO, hp => by
    simp only[give,uH] at h;subst h;exact⟨hv,rfl⟩
  | (i, r) :: l, x :: m, g, vs, h, ⟨v, r', e, hx, hm⟩, hF, hO, hp => by
    subst e;simp only[give] at h;split at h
    · rename_i g0 hg0;obtain⟨s1,s2⟩:=qop h;exact qpr hf hV h (qhy hf hx) hF hO hp (qm9 hf hV hg0 hm (fun b hb hfb=>hF b hb (hfb.mono s1)) hO fun y hy=>hp y (s2 y hy))
    · cases h
  |[],_::_,g,vs,h,hv,hF,hO,hp=>by simp[give] at h
  |(_,_)::_,[],g,vs,h,hv,hF,hO,hp=>by simp[give] at h
end
end
section
def q0a(ren:List (Nat×Nat))(p p':qe):qe:=fun y=>match lkA (ren.map fun e=>(e.2,e.1)) y with
 |some q=>p' q
 |none=>p y
def q0l(pass:List (Nat×Nat))(p:qe):qe:=fun q=>match lkA pass q with
 |some pin=>p pin
 |none=>none
theorem qcp{ren:List (Nat×Nat)}{p p':qe}(hn:ye (ren.map (·.2))=true){q y:Nat}(h:(q,y)∈ren):q0a ren p p' y=p' q:=by
 unfold q0a;rw[q5e hn h]
theorem q97{ren:List (Nat×Nat)}{p p':qe}{y:Nat}(h:∀q,(q,y)∉ren):q0a ren p p' y=p y:=by
 unfold q0a;split
 ·rename_i q hq;exact absurd (qk1 hq) (h q)
 ·rfl
theorem j7{ren:List (Nat×Nat)}{p p':qe}{y b:Nat}(h:q0a ren p p' y=some b):(∃q,(q,y)∈ren∧p' q=some b)∨((∀q,(q,y)∉ren)∧p y=some b):=by
 by_cases hx:∃q,(q,y)∈ren
 ·left;unfold q0a at h;split at h
  ·rename_i q hq;exact⟨q,qk1 hq,h⟩
  ·rename_i hno;obtain⟨q,hq⟩:=hx;have hm:(y,q)∈ren.map fun e=>(e.2,e.1):=uJ.2 ⟨_,hq,rfl⟩;exfalso;clear h hq
   induction ren with
   |nil=>cases hm
   | cons e l ih =>
    rw[uF] at hno hm;by_cases he:e.2=y
    ·subst he;rw[qa] at hno;cases hno
    ·rw[qb he] at hno;rcases uP.1 hm with h|h
     ·injection h with h1 h2;exact he h1.symm
     ·exact ih hno h
 ·right;have hx':∀q,(q,y)∉ren:=fun q hq=>hx ⟨q,hq⟩;rw[q97 hx'] at h;exact⟨hx',h⟩
section
variable{c:Cx}{p p':qe}{w w' w0:World}{S0:Nat→Prop}{a:Act}{σ σ':St}{cs:List (X×Bool)}{o:Oper}{d:List Deferred}{z:Nat}
def clA(c:Cx)(p:qe)(dep:List Nat)(pass:List (Nat×Nat))(w:World):Bk:=⟨fun b=>FFD c.A p dep b∨pinned (q0l pass p) b∨w.heap.size≤b,fun b=>(c.A.o b∨p q0d=some b)∧¬(FFD c.A p dep b∨pinned (q0l pass p) b∨w.heap.size≤b),fun b h=>h.2,false⟩
structure Cl(c:Cx)(w0:World)(S0:Nat→Prop)(p:qe)(w:World)(dep:List Nat)(pass ren:List (Nat×Nat))(p':qe)(w':World):Prop where
 hb:Bs c.A c.F w0 S0 p w
 n1:ye (ren.map (·.1))=true
 n2:ye (ren.map (·.2))=true
 sub:∀y,y∈pass→y∈ren
 npass:∀q x,(q,x)∈ren→(q,x)∉pass→p x=none
 hdep:∀x∈dep,∀q,(q,x)∉pass
 post:Bs (clA c p dep pass w) .no w (pinned (q0l pass p)) p' w'
 flo:Flo c.F w0 w'
theorem q1q{pass:List (Nat×Nat)}{q b:Nat}(h:q0l pass p q=some b):∃pin,(q,pin)∈pass∧p pin=some b:=by
 unfold q0l at h;split at h
 ·rename_i pin hp;exact⟨pin,y3 hp,h⟩
 ·cases h
theorem q3v{pass:List (Nat×Nat)}(hn:ye (pass.map (·.1))=true){q pin:Nat}(h:(q,pin)∈pass):q0l pass p q=p pin:=by
 unfold q0l;rw[q3z hn h]
theorem qt7{l:List (Nat×Nat)}(hn:ye (l.map (·.1))=true){q x y:Nat}(h1:(q,x)∈l)(h2:(q,y)∈l):x=y:=gnI ((q3z hn h1).symm.trans (q3z hn h2))
theorem Cl.bs{dep:List Nat}{pass ren:List (Nat×Nat)}(h:Cl c w0 S0 p w dep pass ren p' w'):Bs c.A c.F w0 S0 (q0a ren p p') w':=by
 have hsz:w0.heap.size≤w.heap.size:=h.hb.but.size;have hS:∀b,pinned (q0l pass p) b→(∃q pin,(q,pin)∈pass∧p pin=some b):=fun b⟨q,hq⟩=>let ⟨pin,h1,h2⟩:=q1q hq;⟨q,pin,h1,h2⟩
 have hother:∀y b,(∀q,(q,y)∉ren)→p y=some b→¬pinned (q0l pass p) b∧b<w.heap.size:=fun y b hy hp=>⟨fun hS'=>by
  obtain⟨q,pin,h1,h2⟩:=hS b hS';obtain rfl:=h.hb.inj y pin b hp h2;exact hy q (h.sub _ h1),h.hb.bd y b hp⟩
 refine⟨fun x y b hx hy=>?_,fun x b hx=>?_,?_,fun x b hx=>?_,h.hb.new,fun x b hx=>?_,fun x b hx=>?_,h.flo,h.hb.sp,fun b cs T f hS' hh=>?_⟩
 ·rcases j7 hx with⟨q1,m1,e1⟩|⟨m1,e1⟩
  ·rcases j7 hy with⟨q2,m2,e2⟩|⟨m2,e2⟩
   ·obtain rfl:=h.post.inj q1 q2 b e1 e2;exact qt7 h.n1 m1 m2
   ·obtain⟨h1,h2⟩:=hother y b m2 e2;rcases h.post.pin q1 b e1 with h3|h3
    ·exact absurd h3 h1
    ·omega
  ·obtain⟨h1,h2⟩:=hother x b m1 e1;rcases j7 hy with⟨q2,m2,e2⟩|⟨m2,e2⟩
   ·rcases h.post.pin q2 b e2 with h3|h3
    ·exact absurd h3 h1
    ·omega
   ·exact h.hb.inj x y b e1 e2
 ·rcases j7 hx with⟨q1,m1,e1⟩|⟨m1,e1⟩
  ·exact h.post.bd q1 b e1
  ·have:=h.hb.bd x b e1;have:=h.post.but.size;omega
 ·refine h.hb.but.trans h.post.but fun b hb hlt=>?_;obtain⟨q,pin,h1,h2⟩:=hS b hb;exact h.hb.pin pin b h2
 ·rcases j7 hx with⟨q1,m1,e1⟩|⟨m1,e1⟩
  ·rcases h.post.pin q1 b e1 with h3|h3
   ·obtain⟨q,pin,h1,h2⟩:=hS b h3;exact h.hb.pin pin b h2
   ·exact .inr (by omega)
  ·exact h.hb.pin x b e1
 ·rcases j7 hx with⟨q1,m1,e1⟩|⟨m1,e1⟩
  ·rcases h.post.pin q1 b e1 with h3|h3
   ·obtain⟨q,pin,h1,h2⟩:=hS b h3;exact h.hb.pa pin b h2
   ·exact(h.hb.new b (by omega)).1
  ·exact h.hb.pa x b e1
 ·rcases j7 hx with⟨q1,m1,e1⟩|⟨m1,e1⟩
  ·exact h.post.obj q1 b e1
  ·obtain⟨h1,h2⟩:=hother x b m1 e1;exact(h.hb.obj x b e1).same (h.post.but.block b h2 h1)
 ·by_cases hp:pinned (q0l pass p) b
  ·exact h.post.uf b cs T f (.inl hp) hh
  ·by_cases hlt:b<w.heap.size
   ·rw[h.post.but.block b hlt hp] at hh;exact h.hb.uf b cs T f hS' hh
   ·exact h.post.uf b cs T f (.inr (by omega)) hh
theorem Cl.free{dep:List Nat}{pass ren:List (Nat×Nat)}(h:Cl c w0 S0 p w dep pass ren p' w'){b:Nat}(hlt:b<w.heap.size)(hf:q3n p b):¬pinned (q0l pass p) b∧q3n (q0a ren p p') b:=by
 have hn:¬pinned (q0l pass p) b:=fun⟨q,hq⟩=>by
  obtain⟨pin,h1,h2⟩:=q1q hq;exact hf pin h2
 refine⟨hn,fun y hy=>?_⟩;rcases j7 hy with⟨q1,m1,e1⟩|⟨m1,e1⟩
 ·rcases h.post.pin q1 b e1 with h3|h3
  ·exact hn h3
  ·omega
 ·exact hf y e1
theorem Cl.stab{dep:List Nat}{pass ren:List (Nat×Nat)}(h:Cl c w0 S0 p w dep pass ren p' w'){Z L:Nat→Bool}(hZ:∀x b,Z x=false→p x=some b→(∀q,(q,x)∉pass)∨w'.heap[b]? =w.heap[b]?)(hL:∀x b,L x=false→p x=some b→∀q,(q,x)∈pass→p' q=some b):Stab c.A Z L p w (q0a ren p p') w':=by
 refine⟨h.post.but.size,fun b hlt ha hf=>?_,fun x b hl hx=>?_,fun x b hz hx=>?_,fun b hlt ho=>h.post.but.block b hlt fun⟨q,hq⟩=>by
  obtain⟨pin,-,h2⟩:=q1q hq;exact c.A.d b ho (h.hb.pa pin b h2)⟩
 ·obtain⟨h1,h2⟩:=h.free hlt hf;exact⟨h.post.but.block b hlt h1,h2⟩
 ·by_cases hr:∃q,(q,x)∈ren
  ·obtain⟨q,hq⟩:=hr;rw[qcp h.n2 hq];by_cases hp:(q,x)∈pass
   ·exact hL x b hl hx q hp
   ·rw[h.npass q x hq hp] at hx;cases hx
  ·rw[q97 fun q hq=>hr ⟨q,hq⟩];exact hx
 ·rcases hZ x b hz hx with hno|hsame
  ·refine h.post.but.block b (h.hb.bd x b hx) fun⟨q,hq⟩=>?_;obtain⟨pin,h1,h2⟩:=q1q hq;obtain rfl:=h.hb.inj x pin b hx h2;exact hno q h1
  ·exact hsame
theorem Cl.ff{dep:List Nat}{pass ren:List (Nat×Nat)}(h:Cl c w0 S0 p w dep pass ren p' w'){b:Nat}(hb:FFD (clA c p dep pass w) p' [] b):FFD c.A (q0a ren p p') dep b:=by
 rcases hb with⟨ha,hf⟩|⟨x,hx,-⟩|⟨hx,-⟩
 ·have new:w.heap.size≤b→FFD c.A (q0a ren p p') dep b:=fun hle=>by
   have hsz:w0.heap.size≤w.heap.size:=h.hb.but.size;refine .inl ⟨(h.hb.new b (by omega)).1,fun y hy=>?_⟩;rcases j7 hy with⟨q1,m1,e1⟩|⟨m1,e1⟩
   ·exact hf q1 e1
   ·have:=h.hb.bd y b e1;omega
  rcases ha with ha|⟨q,hq⟩|ha
  ·rcases ha with⟨h1,h2⟩|⟨x,hx,e⟩|⟨hm,hao⟩
   ·refine .inl ⟨h1,fun y hy=>?_⟩;rcases j7 hy with⟨q1,m1,e1⟩|⟨m1,e1⟩
    ·exact hf q1 e1
    ·exact h2 y e1
   ·refine .inr (.inl ⟨x,hx,?_⟩);by_cases hr:∃q,(q,x)∈ren
    ·obtain⟨q,hq⟩:=hr;by_cases hp:(q,x)∈pass
     ·exact absurd hp (h.hdep x hx q)
     ·rw[h.npass q x hq hp] at e;cases e
    ·rw[q97 fun q hq=>hr ⟨q,hq⟩];exact e
   ·exact .inr (.inr ⟨hm,hao⟩)
  ·obtain⟨pin,h1,h2⟩:=q1q hq;refine .inl ⟨h.hb.pa pin b h2,fun y hy=>?_⟩;rcases j7 hy with⟨q1,m1,e1⟩|⟨m1,e1⟩
   ·exact hf q1 e1
   ·obtain rfl:=h.hb.inj y pin b e1 h2;exact m1 q (h.sub _ h1)
  ·exact new ha
 ·cases hx
 ·cases hx
theorem Cl.rel{dep:List Nat}{pass ren:List (Nat×Nat)}(h:Cl c w0 S0 p w dep pass ren p' w'){ps:List (Nat×Nat×Nat)}(hps:∀y∈ps,(y.2.1,y.2.2)∈ren):
  RelD (clA c p dep pass w) p' w' [] (ps.map fun y=>(y.1,y.2.1)) c.A (q0a ren p p') w' dep (ps.map fun y=>(y.1,y.2.2)):=by
 refine⟨fun b ob hb ho=>⟨ho,h.ff hb⟩,fun j q hq=>?_,fun j hj=>?_⟩
 ·obtain⟨q',h1,h2⟩:=qc5.2 q hq;exact⟨q',h2,fun g hg=>⟨(qcp h.n2 (hps _ h1)).trans hg,rfl⟩⟩
 ·cases ho:lkA (ps.map fun y=>(y.1,y.2.1)) j with
  |none=>rfl
  |some q=>
   obtain⟨pin,h1,h2⟩:=qc5.1 q ho;rw[hj] at h2;cases h2
end
theorem qeo{n k:Nat}{t:Ty}:∃ps:List (Nat×Nat×Nat),qj n t=ps.map (fun y=>(y.1,y.2.1))∧qj k t=ps.map (fun y=>(y.1,y.2.2))∧((qj n t).zip (qj k t)).map (fun e=>(e.1.2,e.2.2))=ps.map (·.2):=by
 have rows:∀(fs:List Ty)(j:Nat),∃ps:List (Nat×Nat×Nat),rowsOf n fs j=ps.map (fun y=>(y.1,y.2.1))∧rowsOf k fs j=ps.map (fun y=>(y.1,y.2.2))∧((rowsOf n fs j).zip (rowsOf k fs j)).map (fun e=>(e.1.2,e.2.2))=ps.map (·.2):=by
  intro fs
  induction fs with
  |nil=>intro j;exact⟨[],rfl,rfl,rfl⟩
  |cons t ts ih=>
   intro j;obtain⟨ps,h1,h2,h3⟩:=ih (j+1);cases t with
   |row E=>exact⟨(j,n * 16+1+j,k * 16+1+j)::ps,by simp[rowsOf,h1],by simp[rowsOf,h2],by simp only[rowsOf,List.zip_cons_cons,uF,h3]⟩
   |int _=>exact⟨ps,h1,h2,h3⟩
   |bool=>exact⟨ps,h1,h2,h3⟩
   |str=>exact⟨ps,h1,h2,h3⟩
   |st _=>exact⟨ps,h1,h2,h3⟩
   |map _ _=>exact⟨ps,h1,h2,h3⟩
   |fnv=>exact⟨ps,h1,h2,h3⟩
 cases t with
 |row E=>exact⟨[(0,n * 16+1,k * 16+1)],rfl,rfl,rfl⟩
 |map K V=>exact⟨[(0,n * 16+1,k * 16+1)],rfl,rfl,rfl⟩
 |st S=>
  simp only[qj];cases flds S with
  |none=>exact⟨[],rfl,rfl,rfl⟩
  |some fs=>exact rows fs 0
 |int _=>exact⟨[],rfl,rfl,rfl⟩
 |bool=>exact⟨[],rfl,rfl,rfl⟩
 |str=>exact⟨[],rfl,rfl,rfl⟩
 |fnv=>exact⟨[],rfl,rfl,rfl⟩
theorem qjt{n k j:Nat}{t:Ty}:∃ps:List (Nat×Nat×Nat),qj n t=ps.map (fun y=>(y.1,y.2.1))∧shO j (qj k t)=ps.map (fun y=>(y.1,y.2.2))∧((qj n t).zip (shO j (qj k t))).map (fun e=>(e.1.2,e.2.2))=ps.map (·.2):=by
 obtain⟨ps,h1,h2,h3⟩:=qeo (n:=n) (k:=k) (t:=t);cases j with
 |zero=>exact⟨ps,h1,h2,h3⟩
 | succ j =>
  have e2:shO (j+1) (qj k t)=(ps.map fun y=>(y.1,y.2.1,y.2.2+7)).map fun y=>(y.1,y.2.2):=by
   show(qj k t).map (fun e=>(e.1,e.2+7))=_
   rw[h2,kA,kA];rfl
  have e1:qj n t=(ps.map fun y=>(y.1,y.2.1,y.2.2+7)).map fun y=>(y.1,y.2.1):=by
   rw[h1,kA];rfl
  refine⟨_,e1,e2,?_⟩;rw[e1,e2,List.zip_map',kA];rfl
theorem qy3{j:Nat}{l:List (Nat×Nat)}{i:Nat}(h:lkA l i≠none):lkA (shO j l) i≠none:=by
 cases j with
 |zero=>exact h
 | succ j =>
  show lkA (l.map fun e=>(e.1,e.2+7)) i≠none
  induction l with
  |nil=>exact h
  | cons a l ih =>
   obtain⟨q,x⟩:=a;by_cases hq:q=i
   ·subst hq;rw[uF,qa];exact fun e=>by cases e
   ·rw[qb hq] at h;rw[uF,qb hq];exact ih h
section
variable{c:Cx}{p p':qe}{w w' w0:World}{S0:Nat→Prop}{a:Act}{σ σ':St}{cs:List (X×Bool)}{o:Oper}{d:List Deferred}{z:Nat}
theorem qoo{l:List D}{k j:Nat}:(l.drop k).getD j .u=l.getD (k+j) .u:=by
 simp[gnG,List.getElem?_drop]
theorem qq3{dep:List Nat}{pass ren:List (Nat×Nat)}(h:Cl c w0 S0 p w dep pass ren p' w'){n:Nat}{xs:List X}{outs:List D}(ho:(c.v.S n (X.evs c.v xs))=some outs){k:Nat}:
    ∀{rs:List (Ty×Bool)}{m j:Nat}{vs:List Value},(∀y∈q61 m k rs j,y∈ren)→qcr (clA c p dep pass w) p' w' rs m vs ((outs.drop j).take rs.length)→pds c (q0a ren p p') w' (qmw n xs dep k rs j) vs
  |[],m,j,vs,_,hr=>hr
  | (t, own) :: l, m, j, vs, hy, ⟨v, r, dd, ds', e1, e2, ⟨cs, hp, hc⟩, hr⟩ => by
    subst e1;have hds:outs.drop j=dd::(outs.drop (j+1))∧ds'=(outs.drop (j+1)).take l.length:=by
      have hlt:j<outs.length:=by
        rcases kL j outs.length with h|h
        · exact h
        · rw[uS h] at e2;simp at e2
      rw[uQ hlt,List.length_cons,List.take_succ_cons] at e2;injection e2 with e2 e3;exact⟨by rw[uQ hlt,e2],e3.symm⟩
    obtain⟨hd1,rfl⟩:=hds;have hev:(X.call n j xs).ev c.v=dd:=by
      show((c.v.S n (X.evs c.v xs)).getD []).getD j .u=dd
      rw[ho];have:=qoo (l:=outs) (k:=j) (j:=0);rw[hd1] at this;simpa using this.symm
    refine⟨v,r,rfl,⟨cs,hp,?_⟩,qq3 h ho (fun y hy'=>hy y (uE _ hy')) hr⟩;rw[hev];cases own with
    | false =>
      have:=hc.relabel (h.rel (ps:=[]) (fun y hy=>by cases hy));exact qim (k:=k) (b:=false) (fun hb=>by cases hb) this
    | true =>
      obtain⟨ps,h1,h2,h3⟩:=qjt (n:=m) (k:=k) (j:=j) (t:=t);simp only[if_true] at hc⊢;rw[h1] at hc;have:=hc.relabel (h.rel (ps:=ps) fun y hy'=>hy _ (uG _ (by
        simp only[if_true];rw[h3];exact uJ.2 ⟨y,hy',rfl⟩)))
      rw[←h2] at this;exact qim (k:=k) (b:=true) (fun _ i hi=>qy3 hi) this
theorem qkp{t:Ty}{own:List (Nat×Nat)}{k:Nat}(h:qca t own=true)(j:Nat)(hj:lkA (qj k t) j≠none):lkA own j≠none:=by
 obtain⟨ps,h1,h2,-⟩:=qeo (n:=0) (k:=k) (t:=t);cases hq:lkA (qj k t) j with
 |none=>exact absurd hq hj
 |some y=>
  have hm:=y3 hq;rw[h2] at hm;obtain⟨e,he,hx⟩:=uJ.1 hm;injection hx with hx1 hx2;have h3:=uI.1 h (e.1,e.2.1) (by rw[h1];exact uJ.2 ⟨e,he,rfl⟩);rw[←hx1];intro hn;have h3:(lkA own e.1).isSome=true:=h3;rw[hn] at h3;cases h3
theorem q8y{V:List AV}{i:Nat}{t:Ty}{o:Ow}{x:AV}{g0 g:Gv}(h:q3d σ V i (.ref t o) x g0=some g):∃(k:Nat)(e:Ent)(ps:List (Nat×Nat×Nat)),g=⟨e.x::g0.xs,uni e.dep g0.dep,(i * 16,k * 16)::ps.map (·.2)++g0.pass,(k,i,t,if o.lost then[] else ps.map fun y=>(y.1,y.2.2))::g0.vars⟩∧q70 (qf4 o i t) e.own=some ps∧kN MB k=false:=by
 cases x with
 | ref k path oo t' =>
  cases path with
  |cons _ _=>simp[q3d] at h
  | nil =>
   cases oo with
   |succ _=>simp[q3d] at h
   | zero =>
    simp only[q3d] at h;split at h
    ·rename_i e he;split at h
     ·rename_i hok;split at h
      ·rename_i ps hps;injection h with h;refine⟨k,e,ps,h.symm,hps,?_⟩;have h1:=(Bool.and_eq_true_iff.1 hok).1;rw[kB] at h1;cases hb:kN MB k with
       |false=>rfl
       |true=>have:=kG hb;omega
      ·cases h
     ·cases h
    ·cases h
 |_=>simp[q3d] at h
theorem q7e{V:List AV}{i:Nat}{t:Ty}{x:AV}{g0 g:Gv}(h:q3d σ V i (.mref t) x g0=some g):∃(xx:X)(pin:Nat),g=⟨xx::g0.xs,g0.dep,(i * 16+1,pin)::g0.pass,(MB+pin,i,t,[(0,pin)])::g0.vars⟩∧(q36 t||qb6 t)=true:=by
 simp only[q3d] at h;split at h
 ·rename_i xx pin dep h1;split at h
  ·rename_i hmp;injection h with h;exact⟨xx,pin,h.symm,hmp⟩
  ·cases h
 ·cases h
theorem qd4(pin:Nat):kN MB (MB+pin)=true∧q7l (MB+pin)=pin:=by
 have h:kN MB (MB+pin)=true:=Nat.ble_eq_true_of_le (Nat.le_add_right _ _);exact⟨h,by unfold q7l;rw[if_pos h];omega⟩
theorem q56{V:List AV}{i:Nat}{r:Ar}(hr:∀t o,r≠.ref t o)(hr2:∀t,r≠.mref t){x:AV}{g0 g:Gv}(h:q3d σ V i r x g0=some g):g.vars=g0.vars∧∀y∈g0.pass,y∈g.pass:=by
 unfold q3d at h;split at h
 ·split at h
  ·injection h with h;subst h;exact⟨rfl,fun y hy=>hy⟩
  ·cases h
 ·exact absurd rfl (hr _ _)
 ·split at h
  ·split at h
   ·injection h with h;subst h;exact⟨rfl,fun y hy=>hy⟩
   ·cases h
  ·cases h
 ·split at h
  ·injection h with h;subst h;exact⟨rfl,fun y hy=>hy⟩
  ·cases h
 ·split at h
  ·injection h with h;subst h;exact⟨rfl,fun y hy=>hy⟩
  ·cases h
 ·split at h
  ·split at h
   ·split at h
    ·injection h with h;subst h;exact⟨rfl,fun y hy=>uE _ hy⟩
    ·cases h
   ·cases h
  ·cases h
 ·exact absurd rfl (hr2 _)
 ·injection h with h;subst h;exact⟨rfl,fun y hy=>hy⟩
 ·injection h with h;subst h;exact⟨rfl,fun y hy=>hy⟩
 ·split at h
  ·split at h
   ·injection h with h;subst h;exact⟨rfl,fun y hy=>hy⟩
   ·cases h
  ·cases h
 ·split at h
  ·injection h with h;subst h;exact⟨rfl,fun y hy=>hy⟩
  ·cases h
 ·split at h
  ·injection h with h;subst h;exact⟨rfl,fun y hy=>hy⟩
  ·cases h
 ·split at h
  ·injection h with h;subst h;exact⟨rfl,fun y hy=>hy⟩
  ·cases h
 ·split at h
  ·injection h with h;subst h;exact⟨rfl,fun y hy=>hy⟩
  ·cases h
 ·cases h
theorem q35.other{VV:List Value}{A0:Bk}{q q':qe}{W:World}{i:Nat}{r:Ar}(hr:∀t o,r≠.ref t o)(hr2:∀t,r≠.mref t){l:List (Nat×Ar)}{ds:List D}(h:q35 VV A0 q q' W ((i,r)::l) ds):q35 VV A0 q q' W l ds:=by
 cases r with
 |ref t o=>exact absurd rfl (hr t o)
 |mref t=>exact absurd rfl (hr2 t)
 |_=>exact h
theorem qc4{dep:List Nat}{pass ren:List (Nat×Nat)}(h:Cl c w0 S0 p w dep pass ren p' w')(hn:ye (pass.map (·.1))=true){n:Nat}{xs:List X}{outs:List D}(ho:(c.v.S n (X.evs c.v xs))=some outs){V:List AV}{VV:List Value}:
    ∀{all:List (Nat×Ar)}{avs:List AV}{j:Nat}{g:Gv}{m:List (Nat×Ent)},give σ V all avs=some g→(∀y∈g.pass,y∈pass)→q35 VV (clA c p dep pass w) (q0l pass p) p' w' all (outs.drop j)→
      (∀k e,lkA m k=some e→ju c (q0a ren p p') w' k e)→∀k e,lkA (q0f n xs dep g.vars j m) k=some e→ju c (q0a ren p p') w' k e
  | [], [], j, g, m, hg, _, _, hm => by
    simp only[give,uH] at hg;subst hg;exact hm
  | (i, r) :: l, x :: avs, j, g, m, hg, hp, hr, hm => by
    simp only[give] at hg;split at hg
    · rename_i g' hg';by_cases href:∃t o,r=.ref t o
      · obtain⟨t,o,rfl⟩:=href;obtain⟨k,e,ps,rfl,hps,hkb⟩:=q8y hg;obtain⟨dd,ds',e1,⟨g0,cs,T,q1,q2,q3,qty,q4⟩,hr⟩:=hr;obtain⟨i1,i2⟩:=q5w hps;have hlt:j<outs.length:=by
          rcases kL j outs.length with h|h
          · exact h
          · rw[uS h] at e1;cases e1
        rw[uQ hlt] at e1;injection e1 with e1 e2;subst e2;have hev:(X.call n j xs).ev c.v=dd:=by
          show((c.v.S n (X.evs c.v xs)).getD []).getD j .u=dd
          rw[ho];simp[gnG,gnK hlt,e1]
        obtain⟨qs,hq1,hq2,hq3⟩:∃qs:List (Nat×Nat×Nat),(if o.lost then[] else ps.map fun y=>(y.1,y.2.2))=qs.map (fun y=>(y.1,y.2.2))∧qoi o i t=qs.map (fun y=>(y.1,y.2.1))∧∀y∈qs,y∈ps:=by
          unfold qoi;by_cases hl:o.lost=true
          · exact⟨[],by rw[if_pos hl];rfl,by rw[if_pos hl];rfl,fun y hy=>by cases hy⟩
          · exact⟨ps,by rw[if_neg hl],by rw[if_neg hl];exact i1.symm,fun y hy=>hy⟩
        have hsv:q0f n xs dep ((k,i,t,qs.map fun y=>(y.1,y.2.2))::g'.vars) j m=q0f n xs dep g'.vars (j+1) (zr m k ⟨.call n j xs,t,qs.map fun y=>(y.1,y.2.2),qpo t (qca t (qs.map fun y=>(y.1,y.2.2))) dep⟩):=by
          rw[q0f,if_neg (by rw[hkb];decide)]
        show ∀k' e',lkA (q0f n xs dep ((k,i,t,if o.lost then[] else ps.map fun y=>(y.1,y.2.2))::g'.vars) j m) k'=some e'→_
        rw[hq1,hsv];refine qc4 (all:=l) (g:=g') h hn ho hg' (fun y hy=>hp y (uA _ (uE _ hy))) hr fun k' e' he'=>?_;by_cases hkk:k=k'
        · subst hkk;rw[yd] at he';injection he' with he';subst he';refine⟨g0,cs,T,(qcp h.n2 (h.sub _ (hp _ uB))).trans q2,q3,qty,?_⟩
          show Con c.A _ w' ((X.call n j xs).ev c.v) t _ _ _
          rw[hev];rw[hq2] at q4;have:=q4.relabel (h.rel (ps:=qs) fun y hy=>h.sub _ (hp _ (uA _ (uG _ (uJ.2 ⟨y,hq3 y hy,rfl⟩)))));exact qim (k:=i) (fun hne=>qkp hne) this
        · rw[jn hkk] at he';exact hm k' e' he'
      by_cases hmref:∃t,r=.mref t
      · obtain⟨t,rfl⟩:=hmref;obtain⟨xx,pin,rfl,-⟩:=q7e hg;obtain⟨dd,ds',e1,-,hr⟩:=hr;have hlt:j<outs.length:=by
          rcases kL j outs.length with h|h
          · exact h
          · rw[uS h] at e1;cases e1
        rw[uQ hlt] at e1;injection e1 with e1 e2;subst e2;have hsv:q0f n xs dep ((MB+pin,i,t,[(0,pin)])::g'.vars) j m=q0f n xs dep g'.vars (j+1) m:=by
          rw[q0f,if_pos (qd4 pin).1]
        show ∀k' e',lkA (q0f n xs dep ((MB+pin,i,t,[(0,pin)])::g'.vars) j m) k'=some e'→_
        rw[hsv];exact qc4 (all:=l) (g:=g') h hn ho hg' (fun y hy=>hp y (uA _ hy)) hr hm
      · have hne:∀t o,r≠.ref t o:=fun t o e=>href ⟨t,o,e⟩;have hne2:∀t,r≠.mref t:=fun t e=>hmref ⟨t,e⟩;obtain⟨s1,s2⟩:=q56 hne hne2 hg;rw[s1];exact qc4 (all:=l) (g:=g') h hn ho hg' (fun y hy=>hp y (s2 y hy)) (q35.other hne hne2 hr) hm
    · cases hg
  |[],_::_,j,g,m,hg,_,_,_=>by simp[give] at hg
  |(_,_)::_,[],j,g,m,hg,_,_,_=>by simp[give] at hg
theorem qch{p2:qe}{w2:World}{f:AV→Option AV}{o:List (Nat×AV)}(h:∀s x y,lkA o s=some x→f x=some y→∃v,a.tmps[s]? =some v∧y.pd c p2 w2 v):
  ∀{l acc:List (Nat×AV)},(∀s y,lkA acc s=some y→∃v,a.tmps[s]? =some v∧y.pd c p2 w2 v)→∀s y,lkA (qo8 f o l acc) s=some y→∃v,a.tmps[s]? =some v∧y.pd c p2 w2 v
 |[],acc,ha=>ha
 | e :: l, acc, ha => by
  unfold qo8;split
  ·rename_i y hy;obtain⟨x,hx,hxy⟩:=uK.1 hy;intro s z hz;by_cases hs:e.1=s
   ·subst hs;rw[yd] at hz;injection hz with hz;subst hz;exact h _ x _ hx hxy
   ·rw[jn hs] at hz;exact qch h ha s z hz
  ·exact qch h ha
theorem qhc{dep:List Nat}{pass ren:List (Nat×Nat)}(h:Cl c w0 S0 p w dep pass ren p' w')(hn:ye (pass.map (·.1))=true){n:Nat}{xs:List X}{outs:List D}(ho:(c.v.S n (X.evs c.v xs))=some outs){V:List AV}{VV:List Value}(hf:SF c σ p w a){args:List Operand}(hVV:∀(i:Nat)(s:Nat),args[i]? =some (Operand.tmp s)→VV[i]? =some (a.tmps.getD s undef)):
    ∀{all:List (Nat×Ar)}{avs:List AV}{j:Nat}{g:Gv}{acc:List (Nat×AV)},give σ V all avs=some g→(∀y∈g.pass,y∈pass)→q35 VV (clA c p dep pass w) (q0l pass p) p' w' all (outs.drop j)→
      (∀s y,lkA acc s=some y→∃v,a.tmps[s]? =some v∧y.pd c (q0a ren p p') w' v)→∀s y,lkA (qjk n xs args σ.t g.vars j acc) s=some y→∃v,a.tmps[s]? =some v∧y.pd c (q0a ren p p') w' v
  | [], [], j, g, acc, hg, _, _, hm => by
    simp only[give,uH] at hg;subst hg;exact hm
  | (i, r) :: l, x :: avs, j, g, acc, hg, hp, hr, hm => by
    simp only[give] at hg;split at hg
    · rename_i g' hg';have step:∀{dd:D}{ds':List D},outs.drop j=dd::ds'→j<outs.length∧ds'=outs.drop (j+1)∧(X.call n j xs).ev c.v=dd:=fun{dd ds'}e1=>by
        have hlt:j<outs.length:=by
          rcases kL j outs.length with h|h
          · exact h
          · rw[uS h] at e1;cases e1
        rw[uQ hlt] at e1;injection e1 with e1 e2;refine⟨hlt,e2.symm,?_⟩
        show((c.v.S n (X.evs c.v xs)).getD []).getD j .u=dd
        rw[ho];simp[gnG,gnK hlt,e1]
      by_cases href:∃t o,r=.ref t o
      · obtain⟨t,o,rfl⟩:=href;obtain⟨k,e,ps,rfl,hps,hkb⟩:=q8y hg;obtain⟨dd,ds',e1,-,hr⟩:=hr;obtain⟨-,rfl,-⟩:=step e1
        show ∀s y,lkA (qjk n xs args σ.t ((k,i,t,ps.map fun y=>(y.1,y.2.2))::g'.vars) j acc) s=some y→_
        rw[qjk,if_neg (by rw[hkb];decide)];exact qhc (all:=l) (g:=g') h hn ho hf hVV hg' (fun y hy=>hp y (uA _ (uE _ hy))) hr hm
      by_cases hmref:∃t,r=.mref t
      · obtain ⟨t, rfl⟩ := hmref;obtain⟨xx,pin,rfl,hmp⟩:=q7e hg;obtain⟨dd,ds',e1,hq0,hr⟩:=hr;obtain⟨-,rfl,hev⟩:=step e1;have hin:(i * 16+1,pin)∈pass:=hp _ uB;have hcof:∀{cs:List Value},Con (clA c p dep pass w) p' w' dd t [(0,i * 16+1)] [] cs→Con c.A (q0a ren p p') w' ((X.call n j xs).ev c.v) t [(0,pin)] [] cs:=fun{cs}q3=>by
          rw[hev];have:=q3.relabel (h.rel (ps:=[(0,i * 16+1,pin)]) fun y hy=>by
            obtain rfl:y=(0,i * 16+1,pin):=by simpa using hy
            exact h.sub _ hin)
          obtain⟨hfo,hoa⟩:=qcf hmp;exact Con.flat1 (k:=i) (fun j' hj'=>by
            rw[hoa] at hj';by_cases h0:0=j'
            · subst h0
              show lkA [(0,pin)] 0≠none
              rw[qa];simp
            · rw[qb h0] at hj';exact absurd rfl hj') this hfo
        have hbk:∀{x y:AV}{v:Value},(∀{x:X}{dd:List Nat},(AV.v x t [(0,pin)] dd).pd c p w v→(AV.v (.call n j xs) t [(0,pin)] []).pd c (q0a ren p p') w' v)→qpi n j xs pin t x=some y→x.pd c p w v→y.pd c (q0a ren p p') w' v:=fun{x y v}one hxy h2=>by
          unfold qpi at hxy;split at hxy
          · split at hxy
            · rename_i hok;simp only[gnB] at hok;obtain⟨k1,k2⟩:=hok;obtain rfl:=gnN k1;rw[Ty.beq_iff] at k2;subst k2;injection hxy with hxy;subst hxy;exact one h2
            · cases hxy
          · split at hxy
            · rename_i hok;simp only[gnB] at hok;obtain⟨k1,k2⟩:=hok;obtain rfl:=gnN k1;rw[Ty.beq_iff] at k2;subst k2;injection hxy with hxy;subst hxy;exact⟨h2.1,one h2.2⟩
            · cases hxy
          · cases hxy
        show ∀s y,lkA (qjk n xs args σ.t ((MB+pin,i,t,[(0,pin)])::g'.vars) j acc) s=some y→_
        rw[qjk,if_pos (qd4 pin).1,show MB+pin - MB=pin by omega];refine qhc (all:=l) (g:=g') h hn ho hf hVV hg' (fun y hy=>hp y (uA _ hy)) hr ?_;rcases hq0 with⟨g0,q1,q2,q3⟩|⟨hrw,v0,cs0,hv0,hpk0,q3⟩
        · have hkv:∃K V,t=.map K V:=by
            cases t with
            |map K V=>exact⟨K,V,rfl⟩
            | row E =>
              have q3':Fl _ p' w' [] (lkA [(0,i * 16+1)] 0) dd (.row E) [.map (some g0)]:=q3;rw[qa] at q3';rcases q3' with⟨E',te,l',u,e0,-,-,e1,hu⟩|⟨K1,V1,kt,vt,l',g1,es,clock,e0,-⟩
              · injection e1 with e1;subst e1;rcases hu with⟨e2,-⟩|⟨g1,cap,cur,e2,-⟩<;>cases e2
              · cases e0
            |_=>cases hmp
          obtain⟨K,V',rfl⟩:=hkv;rw[if_neg (show ¬qb6 (.map K V')=true from fun h=>by cases h)];rw[q3v hn hin] at q1;have hcon:=hcof q3;have one:∀{v:Value}{x:X}{dd:List Nat},(AV.v x (.map K V') [(0,pin)] dd).pd c p w v→(AV.v (.call n j xs) (.map K V') [(0,pin)] []).pd c (q0a ren p p') w' v:=fun{v x dd}hx=>by
            obtain⟨cs,hpk,hc⟩:=hx;have hc:Fl c.A p w dd (lkA [(0,pin)] 0) (x.ev c.v) (.map K V') cs:=hc;rw[qa] at hc;rcases hc with⟨E,te,l,u,e0,-⟩|⟨K1,V1,kt,vt,l,g1,es,clock,e0,-,-,-,rfl,hg1,-⟩
            · cases e0
            · rw[q1] at hg1;injection hg1 with hg1;subst hg1;exact⟨_,hpk,hcon⟩
          refine qch (fun s x y hx hxy=>?_) hm;obtain⟨v,h1,h2⟩:=hf.t s x hx;exact⟨v,h1,hbk one hxy h2⟩
        · rw[if_pos hrw];have hoa:=(qcf hmp).2 i;rw[hoa] at q3;have hcon:=hcof q3;unfold z0f;split
          · rename_i s0 hs0;have hv0':∀v,a.tmps[s0]? =some v→v0=v:=fun v h1=>by
              have e:=hVV i s0 hs0;rw[hv0] at e;injection e with e;rw[e,Array.getD_eq_getD_getElem?,h1];rfl
            split
            · rename_i q y0 hx0;obtain⟨u,g1,g2⟩:=hf.t s0 _ hx0;have hu:=hv0' u g1;refine qch (fun s x y hx hxy=>?_) hm;unfold z0e at hxy;split at hxy
              · split at hxy
                · rename_i hq;obtain rfl:=gnN hq;obtain⟨v,h1,h2⟩:=hf.t s _ hx;obtain rfl:v0=v:=hu.trans (g2.1.trans h2.1.symm);exact⟨v0,h1,hbk (fun _=>⟨cs0,hpk0,hcon⟩) hxy h2⟩
                · cases hxy
              · cases hxy
            · rename_i x _ hx;split
              · rename_i y hxy;intro s z hz;by_cases hs:s0=s
                · subst hs;rw[yd] at hz;injection hz with hz;subst hz;obtain⟨v,h1,h2⟩:=hf.t s0 x hx;obtain rfl:=hv0' v h1;exact⟨v0,h1,hbk (fun _=>⟨cs0,hpk0,hcon⟩) hxy h2⟩
                · rw[jn hs] at hz;exact hm s z hz
              · exact hm
            · exact hm
          · exact hm
      · have hne:∀t o,r≠.ref t o:=fun t o e=>href ⟨t,o,e⟩;have hne2:∀t,r≠.mref t:=fun t e=>hmref ⟨t,e⟩;obtain⟨s1,s2⟩:=q56 hne hne2 hg;rw[s1];exact qhc (all:=l) (g:=g') h hn ho hf hVV hg' (fun y hy=>hp y (s2 y hy)) (q35.other hne hne2 hr) hm
    · cases hg
  |[],_::_,j,g,acc,hg,_,_,_=>by simp[give] at hg
  |(_,_)::_,[],j,g,acc,hg,_,_,_=>by simp[give] at hg
theorem q5v{VV:List Value}{A0:Bk}{pass:List (Nat×Nat)}(hn:ye (pass.map (·.1))=true){V:List AV}:
    ∀{all:List (Nat×Ar)}{avs:List AV}{g:Gv}{ds:List D},give σ V all avs=some g→(∀y∈g.pass,y∈pass)→q35 VV A0 (q0l pass p) p' w' all ds→∀k i' t own,(k,i',t,own)∈g.vars→(kN MB k&&qb6 t)=false→(q6t k i',q7l k)∈pass∧p' (q6t k i')=p (q7l k)
  | [], [], g, ds, hg, _, _ => by
    simp only[give,uH] at hg;subst hg;intro k i' t own hm _;cases hm
  | (i, r) :: l, x :: avs, g, ds, hg, hp, hr => by
    simp only[give] at hg;split at hg
    · rename_i g' hg';by_cases href:∃t o,r=.ref t o
      · obtain⟨t,o,rfl⟩:=href;obtain⟨k,e,ps,rfl,hps,hkb⟩:=q8y hg;obtain⟨dd,ds',e1,⟨g0,cs,T,q1,q2,q3,qty,q4⟩,hr⟩:=hr;intro k' i' t2 own hm hst;rcases uP.1 hm with hm|hm
        · injection hm with m1 m2;injection m2 with m2 m3;subst m1 m2;have hin:(i' * 16,k' * 16)∈pass:=hp _ uB;have hpn:q7l k'=k' * 16:=by unfold q7l;rw[if_neg (by rw[hkb];decide)]
          have hpc:q6t k' i'=i' * 16:=by unfold q6t;rw[if_neg (by rw[hkb];decide)]
          rw[hpn,hpc];refine⟨hin,?_⟩;rw[q3v hn hin] at q1;rw[q1,q2]
        · exact q5v (all:=l) (g:=g') hn hg' (fun y hy=>hp y (uA _ (uE _ hy))) hr k' i' t2 own hm hst
      by_cases hmref:∃t,r=.mref t
      · obtain⟨t,rfl⟩:=hmref;obtain⟨xx,pin,rfl,-⟩:=q7e hg;obtain⟨dd,ds',e1,hq0,hr⟩:=hr;intro k' i' t2 own hm hst;rcases uP.1 hm with hm|hm
        · injection hm with m1 m2;injection m2 with m2 m3;injection m3 with m3 m4;subst m1 m2 m3;rw[(qd4 pin).1,vI] at hst;obtain⟨g0,q1,q2,-⟩:=hq0.resolve_right fun h=>by rw[h.1] at hst;cases hst
          have hin:(i' * 16+1,pin)∈pass:=hp _ uB;have hpc:q6t (MB+pin) i'=i' * 16+1:=by unfold q6t;rw[if_pos (qd4 pin).1]
          rw[(qd4 pin).2,hpc];refine⟨hin,?_⟩;rw[q3v hn hin] at q1;rw[q1,q2]
        · exact q5v (all:=l) (g:=g') hn hg' (fun y hy=>hp y (uA _ hy)) hr k' i' t2 own hm hst
      · have hne:∀t o,r≠.ref t o:=fun t o e=>href ⟨t,o,e⟩;have hne2:∀t,r≠.mref t:=fun t e=>hmref ⟨t,e⟩;obtain⟨s1,s2⟩:=q56 hne hne2 hg;rw[s1];exact q5v (all:=l) (g:=g') hn hg' (fun y hy=>hp y (s2 y hy)) (q35.other hne hne2 hr)
    · cases hg
  |[],_::_,g,ds,hg,_,_=>by simp[give] at hg
  |(_,_)::_,[],g,ds,hg,_,_=>by simp[give] at hg
theorem qqx{avs V:List AV}{ct:Ct}(h:qkk σ avs ct=some V):qfx σ avs (ct.vr.map (·.1))=some V∧avs.length=ct.ar.length:=by
 unfold qkk at h;split at h
 ·rename_i V' hV;split at h
  ·rename_i hok;injection h with h;subst h;simp only[gnB] at hok;exact⟨hV,gnN hok.1⟩
  ·cases h
 ·cases h
theorem qft{f:FuncId}{avs V:List AV}:∀{tbl:Tbl}{n m:Nat}{ct:Ct},q9a σ f avs tbl n=some (m,ct,V)→∃i,m=n+i∧∃g,tbl[i]? =some (ct,g)∧ct.f=f∧qkk σ avs ct=some V
 |[],n,m,ct,h=>by cases h
 | e :: l, n, m, ct, h => by
  unfold q9a at h;have go:∀{n m:Nat}{ct:Ct},q9a σ f avs l (n+1)=some (m,ct,V)→∃i,m=n+i∧∃g,(e::l)[i]? =some (ct,g)∧ct.f=f∧qkk σ avs ct=some V:=fun h=>by
   obtain⟨i,h1,g,h2,h3⟩:=qft h;exact⟨i+1,by omega,g,by simpa using h2,h3⟩
  split at h
  ·rename_i hok;split at h
   ·rename_i V' hV;injection h with h;injection h with h1 h2;injection h2 with h2 h3;subst h1 h2 h3;exact⟨0,rfl,e.2,rfl,gnN hok,hV⟩
   ·exact go h
  ·exact go h
theorem qml{l:List AV}{vs:List Value}(h:pds c p w l vs):l.length=vs.length:=by
 induction l generalizing vs with
 |nil=>rw[h];rfl
 |cons a l ih=>
  obtain⟨v,r,rfl,-,hl⟩:=h;simp[ih hl]
theorem qts{l m:List AV}:∀{vs us:List Value},pds c p w l vs→pds c p w m us→pds c p w (l++m) (vs++us):=by
 induction l with
 |nil=>intro vs us h1 h2;cases h1;exact h2
 |cons a l ih=>
  rintro vs us⟨v,r,rfl,h1,h2⟩h3;exact⟨v,r++us,rfl,h1,ih h2 h3⟩
theorem qp0(hf:SF c σ p w a)(hc:hold c.v cs=true){y:Operand}{args:List Operand}{f:FuncId}{avs:List AV}(h:qlf σ cs y args=some (f,avs)):
  ∃caps,a.eval y=.func (.func f) #[] caps.toArray∧pds c p w avs (args.map a.eval++caps):=by
 unfold qlf at h;split at h
 ·rename_i f' l r hy hr;simp only[gnS] at h;obtain⟨rfl,rfl⟩:=h;obtain⟨vs,e,hl⟩:=qd hf hc hy;exact⟨vs,e,qts (qcb hf hc hr) hl⟩
 ·rename_i x own dep r hy hr;split at h
  ·rename_i n hx;split at h
   ·rename_i hn;simp only[gnS] at h;obtain⟨rfl,rfl⟩:=h;obtain⟨cs,hp,hcon⟩:=qd hf hc hy;have h1:=Con.rd (dep':=dep++own.map (·.2)) hcon (fun x hx=>uG _ hx) (fun x hx=>uE _ hx);rw[qo1 hx] at h1;have hp:cs=[a.eval y]:=hp;rcases h1 with⟨k,e,-⟩|⟨-,e⟩
    ·cases e
    ·have e2:a.eval y=fnV n:=by
      rw[hp] at e;injection e
     refine⟨[],?_,?_⟩
     ·rw[e2,fnV,if_neg (by have:=of_decide_eq_true hn;omega)]
     ·rw[List.append_nil];exact qcb hf hc hr
   ·cases h
  ·cases h
 ·cases h
theorem qmx{tbl:Tbl}(hS:HS c tbl){xs:List X}{t:Ty}:∀{fl:List (Nat×Nat×Ty)}{x:X},qtu tbl xs fl t=some x→x.says c.v→∃k j,(k,j,t)∈fl∧(k=999∨c.F.mx t≤((((X.evs c.v xs).getD k .u).fld j).rs.length))
  |[],x,h,_=>by cases h
  | (k, j, t') :: l, x, h, hx => by
    unfold qtu at h;split at h
    · rename_i ht;rw[Ty.beq_iff] at ht;subst ht;split at h
      · rename_i hk;exact⟨k,j,uB,.inl (gnN hk)⟩
      split at h
      · rename_i y b hy hb;injection h with h;subst h;refine⟨k,j,uB,.inr ?_⟩;have h1:=zq hx;rw[q05] at h1;obtain⟨n,hn,rfl⟩:=uL.1 hb;have h2:=hS.f t';unfold flM at h2;rw[hn] at h2;have h3:(X.call n 0 []).ev c.v=((qx tbl n []).getD []).getD 0 .u:=by
          show((c.v.S n []).getD []).getD 0 .u=_
          rw[hS.s]
        rw[h3] at h1;have h4:((X.fld y j).ev c.v)=(((X.evs c.v xs).getD k .u).fld j):=by
          have:(X.evs c.v xs).getD k .u=y.ev c.v:=by
            rw[gnG,qmq hy];rfl
          rw[this];rfl
        rw[h4] at h1;have h5:(((qx tbl n []).getD []).getD 0 .u).int≤((((X.evs c.v xs).getD k .u).fld j).rs.length:Int):=h1;simp only at h2;omega
      · cases h
    · obtain⟨k',j',h1,h2⟩:=qmx hS h hx;exact⟨k',j',uA _ h1,h2⟩
theorem qnx{tbl:Tbl}(hS:HS c tbl){xs:List X}{fl:List (Nat×Nat×Ty)}:∀{l:List Ty}{r:List X},qvv tbl xs fl l=some r→(∀n∈r,n.says c.v)→∀t∈l,∃k j,(k,j,t)∈fl∧(k=999∨c.F.mx t≤((((X.evs c.v xs).getD k .u).fld j).rs.length))
 |[],r,h,_,t,ht=>by cases ht
 | t :: l, r, h, hr, u, hu => by
  unfold qvv at h;split at h
  ·rename_i x r' h1 h2;injection h with h;subst h;rcases uP.1 hu with rfl|hu
   ·exact qmx hS h1 (hr _ uB)
   ·exact qnx hS h2 (fun n hn=>hr n (uA _ hn)) u hu
  ·cases h
theorem qy0{tbl:Tbl}(hS:HS c tbl){ct:Ct}{xs:List X}{pass:List (Nat×Nat)}{fs:List X}(h:flC tbl ct xs pass=some fs)(hn:∀n∈fs,n.says c.v)(hw:Flo c.F w0 w):∃F0,qa0 ct F0 (X.evs c.v xs)∧Flo F0 w w∧(∀b,c.F.fr b→F0.fr b)∧∀{A':Bk}{p':qe}{w':World},Bs A' F0 w (pinned (q0l pass p)) p' w'→Flo c.F w0 w':=by
 unfold flC at h;split at h
 ·rename_i h0;have hz:∀te,c.F.mx te=0:=fun te=>hS.zero (by rw[h0];simp);exact⟨c.F,qa0.of0 hz,hw.anew,fun _ h=>h,fun{A' p' w'}_=>Flo.of0 hz hw⟩
 ·split at h
  ·rename_i hp;have hp:pass=[]:=by simpa using hp
   subst hp;refine⟨.no,qa0.of0 fun _=>rfl,Flo.no,fun _ _=>trivial,fun{A' p' w'}hb=>hw.same fun k hk _=>hb.but.block k hk ?_⟩;rintro⟨q,hq⟩;cases hq
  ·refine⟨c.F,fun te=>?_,hw.anew,fun _ h=>h,fun{A' p' w'}hb=>hw.trans hb.flo⟩;by_cases ht:te∈qi4 tbl
   ·exact .inr (qnx hS h hn te ht)
   ·exact .inl (hS.zero ht)
theorem qp3{tbl:Tbl}(htb:ym tbl)(hS:HS c tbl)(hb:Bs c.A c.F w0 S0 p w)(hf:SF c σ p w a)(hc:hold c.v cs=true)(hd:a.defers=d)(hz:a.tmps.size=z){k:Nat}(hk:k<z){y:Operand}{args:List Operand}
  {ns:List X}(h:qdp tbl σ cs k y args=some (ns,σ'))(hn:∀n∈ns,n.says c.v):∃(e:Ct×(List D→Option (List D)))(A0:Bk)(F0:Flr)(p0:qe)(caps us:List Value)(ds outs:List D),e∈tbl∧a.eval y=.func (.func e.1.f) #[] caps.toArray∧e.2 ds=some outs∧qa0 e.1 F0 ds∧Flo F0 w w∧Pre e.1.ar.length A0 F0 p0 w∧(args.map a.eval++caps).length=e.1.ar.length∧z0 (args.map a.eval++caps++us) A0 p0 w e.1.all (args.map a.eval++caps++us) ds∧
  (∀w',But (pinned p0) w w'→But S0 w0 w')∧∀rs p' w',Bs A0 F0 w (pinned p0) p' w'→qcr A0 p' w' e.1.rs e.1.ar.length rs (outs.take e.1.rs.length)→q35 (args.map a.eval++caps++us) A0 p0 p' w' e.1.all (outs.drop e.1.rs.length)→Kpt e.1.kp p0 p' w w'→zl c w0 S0 d z σ' (a.put (some k) (qfe rs)) w':=by
 unfold qdp at h;simp only at h;split at h
 ·rename_i f avs hfa;split at h
  ·rename_i n ct V hct;split at h
   ·rename_i g hg;split at h
    ·rename_i hok;simp only[gnB] at hok;obtain⟨n1,n2,n3,n4,n5⟩:=hok;obtain⟨fs,hfs,h⟩:=uL.1 h;simp only[uR] at h;obtain⟨rfl,rfl⟩:=h;have hb1:=hb.un (qg k);have hf1:=SF.un (q:=qg k) hb.inj hb.pa hf;obtain⟨caps,hev,hvs⟩:=qp0 hf1 hc hfa;obtain⟨i,hi,gs,hgs,hcf,hfit⟩:=qft hct;obtain⟨hvirt,hlen⟩:=qqx hfit;obtain⟨us,hVV⟩:=qj6 hf1 hvirt hvs;obtain rfl:n=i:=by omega
     have hfok:=htb _ (kH hgs);have hsome:∃outs,c.v.S n (X.evs c.v g.xs)=some outs:=by
      have h1:=hn (.ok n g.xs) (by simp);have h2:(c.v.S n (X.evs c.v g.xs)).isSome=true:=h1;exact uW.1 h2
     obtain⟨outs,houts⟩:=hsome;have hgo:gs (X.evs c.v g.xs)=some outs:=by
      have:=houts;rw[hS.s] at this;unfold qx at this;rw[hgs] at this;exact this
     have nd1:ye (g.pass.map (·.1))=true:=by
      have:∀(l m:List (Nat×Nat)),ye ((l++m).map (·.1))=true→ye (l.map (·.1))=true:=by
       intro l m
       induction l with
       |nil=>intro _;rfl
       | cons e l ih =>
        intro h;simp only[kM,uF,ye,gnB,uM] at h⊢;refine⟨?_,ih h.2⟩;cases hq:qr (l.map (·.1)) e.1 with
        |false=>rfl
        |true=>
         have:qr ((l++m).map (·.1)) e.1=true:=qz.2 (by rw[vE];exact uG _ (qz.1 hq));rw[this] at h;cases h.1
      exact this _ _ n1
     have nd2:ye (g.pass.map (·.2))=true:=by
      have:∀(l m:List (Nat×Nat)),ye ((l++m).map (·.2))=true→ye (l.map (·.2))=true:=by
       intro l m
       induction l with
       |nil=>intro _;rfl
       | cons e l ih =>
        intro h;simp only[kM,uF,ye,gnB,uM] at h⊢;refine⟨?_,ih h.2⟩;cases hq:qr (l.map (·.2)) e.2 with
        |false=>rfl
        |true=>
         have:qr ((l++m).map (·.2)) e.2=true:=qz.2 (by rw[vE];exact uG _ (qz.1 hq));rw[this] at h;cases h.1
      exact this _ _ n2
     have hdz:∀x∈g.dep,∀q,(q,x)∉g.pass:=fun x hx q hq=>by
      have h1:=uI.1 n3 x hx;have h2:qr (g.pass.map (·.2)) x=true:=qz.2 (uJ.2 ⟨_,hq,rfl⟩);simp only[inL,h2] at h1;cases h1
     have hpk:∀q x,(q,x)∈g.pass→x / 16≠k∧(q / 16<ct.ar.length∨VB≤q / 16)∧x≠q0d:=fun q x hq=>by
      have h1:=uI.1 n4 _ hq;simp only[gnB,uM,kC] at h1;exact⟨fun e=>by rw[e] at h1;simp at h1,h1.2.2.imp (fun h=>by simpa[kB] using h) fun h=>kG h,fun e=>by have:=h1.2.1;rw[e] at this;simp at this⟩
     have hgP:∀q b,q0l g.pass (unP (qg k) p) q=some b→∃pin,(q,pin)∈g.pass∧unP (qg k) p pin=some b:=fun q b hq=>q1q hq
     -- the callee
     obtain⟨F0,hF1,hF2,hFr,hF3⟩:=qy0 hS hfs (fun n hm=>hn n (uA _ hm)) hb.flo (pass:=g.pass) (p:=unP (qg k) p);have hpre:Pre ct.ar.length (clA c (unP (qg k) p) g.dep g.pass w) F0 (q0l g.pass (unP (qg k) p)) w:=by
      refine⟨fun x y b hx hy=>?_,fun x b hx=>?_,fun x b hx=>.inr (.inl ⟨x,hx⟩),fun x b hx=>?_,fun b hb'=>⟨.inr (.inr hb'),hFr b (hb.new b (Nat.le_trans hb.but.size hb')).2⟩,fun x b hx=>?_,rfl⟩
      ·obtain⟨px,m1,e1⟩:=hgP x b hx;obtain⟨py,m2,e2⟩:=hgP y b hy;obtain rfl:=hb1.inj px py b e1 e2;exact gnI ((q5e nd2 m1).symm.trans (q5e nd2 m2))
      ·obtain⟨px,m1,e1⟩:=hgP x b hx;exact hb1.bd px b e1
      ·obtain⟨px,m1,e1⟩:=hgP x b hx;exact hb1.obj px b e1
      ·obtain⟨px,m1,e1⟩:=hgP x b hx;exact(hpk x px m1).2.1
     have hargs:=qm9 hf1 hVV (A0:=clA c (unP (qg k) p) g.dep g.pass w) (p0:=q0l g.pass (unP (qg k) p)) hg hVV (fun b hlt hb=>by
      refine .inl ⟨.inl hb,fun q hq=>?_⟩;obtain⟨pin,m1,e1⟩:=hgP q b hq;rcases hb with⟨-,hfr⟩|⟨x,hx,e2⟩|⟨-,hao⟩
      ·exact hfr pin e1
      ·obtain rfl:=hb1.inj x pin b e2 e1;exact hdz x hx q m1
      ·exact c.A.d b hao (hb1.pa pin b e1)) (fun b hlt hb=>by
      have hfr:q3n (q0l g.pass (unP (qg k) p)) b:=fun q hq=>by
       obtain⟨pin,m1,e1⟩:=hgP q b hq;rcases hb with hb|hb
       ·exact c.A.d b hb (hb1.pa pin b e1)
       ·exact(hpk q pin m1).2.2 (hb1.inj pin q0d b e1 hb)
      by_cases hR:(clA c (unP (qg k) p) g.dep g.pass w).r b
      ·exact .inl ⟨hR,hfr⟩
      ·exact .inr (.inr ⟨uB,hb,hR⟩)) (fun y hy=>q3v nd1 hy)
     obtain rfl:ct.f=f:=hcf;refine⟨(ct,gs),_,F0,_,caps,us,_,outs,kH hgs,hev,hgo,hF1,hF2,hpre,by rw[←qml hvs];exact hlen,hargs,fun w' hbut=>hb.but.trans hbut fun b hb2 hlt=>?_,fun rs p' w' hpost hres hrefs hkp=>?_⟩
     ·obtain⟨q,hq⟩:=hb2;obtain⟨pin,m1,e1⟩:=hgP q b hq;exact hb1.pin pin b e1
     have hcl:Cl c w0 S0 (unP (qg k) p) w g.dep g.pass (g.pass++q61 ct.ar.length k ct.rs) p' w':=
      ⟨hb1,n1,n2,fun y hy=>uG _ hy,fun q x hq hnp=>by
       rcases vC.1 hq with h|h
       ·exact absurd h hnp
       ·have h1:=uI.1 n5 _ h;have h2:=gnN h1;unfold unP;rw[if_pos (by unfold qg;rw[h2];simp)],hdz,hpost.no,hF3 hpost⟩
     have hsame:=q5v nd1 hg (fun y hy=>hy) hrefs;have hlost:∀x q,(q,x)∈g.pass→¬q∈ct.kp→x∈q4j ct g.pass:=fun x q hq hn=>uJ.2 ⟨(q,x),uT.2 ⟨hq,by
      cases hh:qr ct.kp q with
      |true=>exact absurd (qz.1 hh) hn
      |false=>rfl⟩,rfl⟩
     have hstab:=hcl.stab (Z:=inL (q4j ct g.pass)) (L:=inL ((q4j ct g.pass).filter fun x=> !qr (qdm g.vars) x)) (fun x b hx hxb=>by
      by_cases hq:∃q,(q,x)∈g.pass
      ·obtain⟨q,hq⟩:=hq;by_cases hk:q∈ct.kp
       ·exact .inr (hkp q hk b ((q3v nd1 hq).trans hxb)).2
       ·have:qr (q4j ct g.pass) x=true:=qz.2 (hlost x q hq hk);simp only[inL,this] at hx;cases hx
      ·exact .inl fun q h=>hq ⟨q,h⟩) (fun x b hl hx q hq=>by
      by_cases hk:q∈ct.kp
      ·exact(hkp q hk b ((q3v nd1 hq).trans hx)).1
      have hin:x∈q4j ct g.pass:=hlost x q hq hk;have hv:qr (qdm g.vars) x=true:=by
       cases hv:qr (qdm g.vars) x with
       |true=>rfl
       |false=>
        have:qr ((q4j ct g.pass).filter fun x=> !qr (qdm g.vars) x) x=true:=qz.2 (uT.2 ⟨hin,by rw[hv];rfl⟩);simp only[inL,this] at hl;cases hl
      obtain⟨⟨k',i',t',own'⟩,hm,e1⟩:=uJ.1 (qz.1 hv);simp only at e1;subst e1;obtain⟨hm,hst⟩:=uT.1 hm;obtain⟨h1,h2⟩:=hsame k' i' t' own' hm ((uM _).mp hst);obtain rfl:q=q6t k' i':=gnI ((q5e nd2 hq).symm.trans (q5e nd2 h1));rw[h2];exact hx)
     have hkeep:=hf1.keep hstab;have hVVa:∀(i:Nat)(s:Nat),args[i]? =some (Operand.tmp s)→(args.map a.eval++caps++us)[i]? =some (a.tmps.getD s undef):=fun i s hi=>by
      have hil:=(gnH.1 hi).1;rw[List.append_assoc,List.getElem?_append_left (by simpa using hil),kY,hi];rfl
     refine⟨_,hcl.bs,?_,hd,by simp only[Act.put,uN];exact hz⟩;have hvars:=qc4 hcl nd1 houts (j:=ct.rs.length) hg (fun y hy=>hy) hrefs hkeep.m;have hbak:=qhc hcl nd1 houts hf1 (args:=args) hVVa (j:=ct.rs.length) hg (fun y hy=>hy) hrefs hkeep.t;have hsf:SF c ⟨qjk n g.xs args (σ.un (qg k)).t g.vars ct.rs.length (q2h (inL (q4j ct g.pass)) (inL ((q4j ct g.pass).filter fun x=> !qr (qdm g.vars) x)) (σ.un (qg k)).t),q0f n g.xs g.dep g.vars ct.rs.length (q3i (inL (q4j ct g.pass)) (inL ((q4j ct g.pass).filter fun x=> !qr (qdm g.vars) x)) (σ.un (qg k)).m)⟩ (q0a (g.pass++q61 ct.ar.length k ct.rs) (unP (qg k) p) p') w' a:=⟨hbak,hvars⟩;refine hsf.put (by rw[hz];exact hk) ?_;have hresv:=qq3 hcl houts (k:=k) (j:=0) (fun y hy=>uE _ hy) (by simpa using hres);have hlen:=qml hresv;cases hl:qmw n g.xs g.dep k ct.rs 0 with
     |nil=>
      rw[hl] at hresv;have:rs=[]:=hresv;subst this;exact⟨[],rfl,rfl⟩
     | cons x l =>
      rw[hl] at hresv;cases l with
      |nil=>
       obtain⟨v,r,rfl,hx,hr0⟩:=hresv;have:r=[]:=hr0;subst this;exact hx
      |cons y l=>
       obtain⟨v,r,rfl,hx,v2,r2,rfl,hy,hr0⟩:=hresv;exact⟨v::v2::r2,rfl,v,_,rfl,hx,v2,r2,rfl,hy,hr0⟩
    ·cases h
   ·cases h
  ·cases h
 ·cases h
theorem qi8{tbl:Tbl}(htb:ym tbl)(hS:HS c tbl)(hb:Bs c.A c.F w0 S0 p w)(hf:SF c σ p w a)(hc:hold c.v cs=true)(hd:a.defers=d)(hz:a.tmps.size=z){k:Nat}(hk:k<z)(hdst:o.dst=some k){y:Operand}{args:Array Operand}{tys:Array TypeId}(heq:o.op=.call {callee:=.value y,args:=args,argTypes:=tys})
  {ns:List X}(h:qdp tbl σ cs k y args.toList=some (ns,σ'))(hn:∀n∈ns,n.says c.v){Q:Exit→Act→World→Prop}(hQ:q7j tbl w0 S0 d Q):o.wp uC a w (zl c w0 S0 d z σ') Q:=by
 obtain⟨⟨ct,gs⟩,A0,F0,p0,caps,us,ds,outs,hmem,hev,hgo,hfl,hfo,hpre,hlen,hargs,hbw,hafter⟩:=qp3 htb hS hb hf hc hd hz hk h hn;have hfok:=htb _ hmem;have hcalls:=hfok.callK _ F0 _ w _ _ _ outs hgo hfl hfo hpre hlen hargs;have hrun:(execOp a.eval o).run uC w=.ok (.enter ct.f (args.toList.map a.eval++caps).toArray) w:=by
  have hen:=hfok.enter (args.toList.map a.eval++caps).toArray w;have hmap:args.map a.eval++caps.toArray=(args.toList.map a.eval++caps).toArray:=by apply vL;simp
  rw[←hmap] at hen⊢;generalize a.eval=r at *;simp[execOp,heq,resolve,Deferred.ofValue,hev,invoke,hen]
 unfold Oper.wp;rw[hrun]
 show Calls uC ct.f _ w _
 refine Calls.mono hcalls ?_;rintro e w'(⟨T,hT,ho2,rfl,hbut⟩|⟨rs,p',rfl,hpost,hres,hrefs,hkp⟩)
 ·exact hQ _ hmem T hT ⟨_,hgo.trans (by rw[ho2])⟩ a w' hd (hbw w' hbut)
 show zl c w0 S0 d z _ (a.put o.dst (qfe rs)) w'
 rw[hdst];exact hafter rs p' w' hpost hres hrefs hkp
end
end
section
def q4u:List (Nat×Nat)→List (Nat×Nat)→Bool
 |[],[]=>true
 |a::l,b::m=>uD a.1 b.1&&(uD a.2 b.2&&q4u l m)
 |_,_=>false
def q3p:List Nat→List Nat→Bool
 |[],[]=>true
 |a::l,b::m=>uD a b&&q3p l m
 |_,_=>false
def qha:List (X×Bool)→List (X×Bool)→Bool
 |[],[]=>true
 |a::l,b::m=>X.beq a.1 b.1&&((a.2==b.2)&&qha l m)
 |_,_=>false
def wrB:Option (Nat×X×List Nat×Nat×Ty)→Option (Nat×X×List Nat×Nat×Ty)→Bool
 |none,none=>true
 |some (a,b,c,d,e),some (a',b',c',d',e')=>uD a a'&&(X.beq b b'&&(q3p c c'&&(uD d d'&&Ty.beq e e')))
 |_,_=>false
theorem q2o:∀{l m:List (Nat×Nat)},q4u l m=true→l=m
  |[],[],_=>rfl
  | (a, b) :: l, (c, d) :: m, h => by
    simp only[q4u,gnB] at h;rw[gnN h.1,gnN h.2.1,q2o h.2.2]
  |[],_::_,h=>by cases h
  |_::_,[],h=>by cases h
theorem jw:∀{l m:List Nat},q3p l m=true→l=m
 |[],[],_=>rfl
 |a::l,c::m,h=>by
  simp only[q3p,gnB] at h;rw[gnN h.1,jw h.2]
 |[],_::_,h=>by cases h
 |_::_,[],h=>by cases h
theorem qgg:∀{l m:List (X×Bool)},qha l m=true→l=m
  |[],[],_=>rfl
  | (a, b) :: l, (c, d) :: m, h => by
    simp only[qha,gnB,beq_iff_eq] at h;rw[X.beq_ok _ _ h.1,h.2.1,qgg h.2.2]
  |[],_::_,h=>by cases h
  |_::_,[],h=>by cases h
theorem qy7{a b:Option (Nat×X×List Nat×Nat×Ty)}(h:wrB a b=true):a=b:=by
 unfold wrB at h;split at h
 ·rfl
 ·simp only[gnB] at h;obtain⟨h1,h2,h3,h4,h5⟩:=h;rw[gnN h1,X.beq_ok _ _ h2,jw h3,gnN h4,(Ty.beq_iff _ _).1 h5]
 ·cases h
def elB:Option ElI→Option ElI→Bool
 |none,none=>true
 |some a,some b=>uD a.k b.k&&(uD a.j b.j&&(X.beq a.x b.x&&(Ty.beq a.t b.t&&(q4u a.own b.own&&(q3p a.dep b.dep&&X.beq a.y b.y)))))
 |_,_=>false
theorem qyq{a b:Option ElI}(h:elB a b=true):a=b:=by
 unfold elB at h;split at h
 ·rfl
 ·rename_i a b;simp only[gnB] at h;obtain⟨h1,h2,h3,h4,h5,h6,h7⟩:=h;cases a;cases b;simp only at h1 h2 h3 h4 h5 h6 h7;rw[gnN h1,gnN h2,X.beq_ok _ _ h3,(Ty.beq_iff _ _).1 h4,q2o h5,jw h6,X.beq_ok _ _ h7]
 ·cases h
mutual
def AV.beq:AV→AV→Bool
 |.any,.any=>true
 |.undef,.undef=>true
 |.v x t own dep,.v x' t' own' dep'=>X.beq x x'&&(Ty.beq t t'&&(q4u own own'&&q3p dep dep'))
 |.nilS,.nilS=>true
 |.nb x n,.nb y m=>X.beq x y&&(n==m)
 |.nilP,.nilP=>true
 |.ref k p o t,.ref k' p' o' t'=>uD k k'&&(q3p p p'&&(uD o o'&&Ty.beq t t'))
 |.rd x t dep wr,.rd x' t' dep' wr'=>X.beq x x'&&(Ty.beq t t'&&(q3p dep dep'&&wrB wr wr'))
 |.tup l,.tup l'=>qm0 l l'
 |.gd c a,.gd c' a'=>qha c c'&&AV.beq a a'
 |.fn f l,.fn f' l'=>uD f f'&&qm0 l l'
 |.bx k T a,.bx k' T' a'=>uD k k'&&(uD T T'&&AV.beq a a')
 |.fr T a,.fr T' a'=>uD T T'&&AV.beq a a'
 |.ff f T1 x1 t1 T2 x2 t2 dep,.ff f' T1' x1' t1' T2' x2' t2' dep'=>uD f f'&&(uD T1 T1'&&(X.beq x1 x1'&&(Ty.beq t1 t1'&&(uD T2 T2'&&(X.beq x2 x2'&&(Ty.beq t2 t2'&&q3p dep dep'))))))
 |.sn T a,.sn T' a'=>uD T T'&&AV.beq a a'
 |.wf k j x t own dep a,.wf k' j' x' t' own' dep' a'=>uD k k'&&(uD j j'&&(X.beq x x'&&(Ty.beq t t'&&(q4u own own'&&(q3p dep dep'&&AV.beq a a')))))
 |.el o r i a,.el o' r' i' a'=>elB o o'&&(uD r r'&&(X.beq i i'&&AV.beq a a'))
 |.hd r E x,.hd r' E' x'=>uD r r'&&(uD E E'&&X.beq x x')
 |.pt p i E a,.pt p' i' E' a'=>uD p p'&&(X.beq i i'&&(uD E E'&&AV.beq a a'))
 |.ar E xs dep,.ar E' xs' dep'=>uD E E'&&(X.beqs xs xs'&&q3p dep dep')
 |.lv k t,.lv k' t'=>uD k k'&&Ty.beq t t'
 |.ax k T n a,.ax k' T' n' a'=>uD k k'&&(uD T T'&&(uD n n'&&AV.beq a a'))
 |_,_=>false
def qm0:List AV→List AV→Bool
 |[],[]=>true
 |a::l,b::m=>AV.beq a b&&qm0 l m
 |_,_=>false
end
mutual
theorem AV.beq_ok:∀(x y:AV),AV.beq x y=true→x=y
 |.any,y,h=>by cases y<;>first|rfl|(simp[AV.beq] at h)
 |.undef,y,h=>by cases y<;>first|rfl|(simp[AV.beq] at h)
 |.nilS,y,h=>by cases y<;>first|rfl|(simp[AV.beq] at h)
 |.nb x n,y,h=>by
  cases y<;>simp only[AV.beq,gnF,gnB,beq_iff_eq] at h;rw[X.beq_ok _ _ h.1,h.2]
 |.nilP,y,h=>by cases y<;>first|rfl|(simp[AV.beq] at h)
 |.v x t own dep,y,h=>by
  cases y<;>simp only[AV.beq,gnF,gnB] at h;rw[X.beq_ok _ _ h.1,(Ty.beq_iff _ _).1 h.2.1,q2o h.2.2.1,jw h.2.2.2]
 |.ref k p o t,y,h=>by
  cases y<;>simp only[AV.beq,gnF,gnB] at h;rw[gnN h.1,jw h.2.1,gnN h.2.2.1,(Ty.beq_iff _ _).1 h.2.2.2]
 |.rd x t dep wr,y,h=>by
  cases y<;>simp only[AV.beq,gnF,gnB] at h;rw[X.beq_ok _ _ h.1,(Ty.beq_iff _ _).1 h.2.1,jw h.2.2.1,qy7 h.2.2.2]
 |.tup l,y,h=>by
  cases y<;>simp only[AV.beq,gnF] at h;rw[qhe l _ h]
 |.gd c a,y,h=>by
  cases y<;>simp only[AV.beq,gnF,gnB] at h;rw[qgg h.1,AV.beq_ok a _ h.2]
 |.fn f l,y,h=>by
  cases y<;>simp only[AV.beq,gnF,gnB] at h;rw[gnN h.1,qhe l _ h.2]
 |.bx k T a,y,h=>by
  cases y<;>simp only[AV.beq,gnF,gnB] at h;rw[gnN h.1,gnN h.2.1,AV.beq_ok a _ h.2.2]
 |.fr T a,y,h=>by
  cases y<;>simp only[AV.beq,gnF,gnB] at h;rw[gnN h.1,AV.beq_ok a _ h.2]
 |.ff f T1 x1 t1 T2 x2 t2 dep,y,h=>by
  cases y<;>simp only[AV.beq,gnF,gnB] at h;obtain⟨h0,h1,h2,h3,h4,h5,h6,h7⟩:=h;rw[gnN h0,gnN h1,X.beq_ok _ _ h2,(Ty.beq_iff _ _).1 h3,gnN h4,X.beq_ok _ _ h5,(Ty.beq_iff _ _).1 h6,jw h7]
 |.pt pin i E a,y,h=>by
  cases y<;>simp only[AV.beq,gnF,gnB] at h;rw[gnN h.1,X.beq_ok _ _ h.2.1,gnN h.2.2.1,AV.beq_ok a _ h.2.2.2]
 |.ar E xs dep,y,h=>by
  cases y<;>simp only[AV.beq,gnF,gnB] at h;rw[gnN h.1,X.beqs_ok _ _ h.2.1,jw h.2.2]
 |.ax k T n a,y,h=>by
  cases y<;>simp only[AV.beq,gnF,gnB] at h;rw[gnN h.1,gnN h.2.1,gnN h.2.2.1,AV.beq_ok a _ h.2.2.2]
 |.el o r i a,y,h=>by
  cases y<;>simp only[AV.beq,gnF,gnB] at h;obtain⟨h1,h2,h3,h4⟩:=h;rw[qyq h1,gnN h2,X.beq_ok _ _ h3,AV.beq_ok a _ h4]
 |.hd r E x,y,h=>by
  cases y<;>simp only[AV.beq,gnF,gnB] at h;rw[gnN h.1,gnN h.2.1,X.beq_ok _ _ h.2.2]
 |.lv k t,y,h=>by
  cases y<;>simp only[AV.beq,gnF,gnB] at h;rw[gnN h.1,(Ty.beq_iff _ _).1 h.2]
 |.wf k j x t own dep a,y,h=>by
  cases y<;>simp only[AV.beq,gnF,gnB] at h;obtain⟨h1,h2,h3,h4,h5,h6,h7⟩:=h;rw[gnN h1,gnN h2,X.beq_ok _ _ h3,(Ty.beq_iff _ _).1 h4,q2o h5,jw h6,AV.beq_ok a _ h7]
 |.sn T a,y,h=>by
  cases y<;>simp only[AV.beq,gnF,gnB] at h;rw[gnN h.1,AV.beq_ok a _ h.2]
theorem qhe:∀(l m:List AV),qm0 l m=true→l=m
 |[],m,h=>by cases m<;>simp_all [qm0]
 | x :: l, m, h => by
  cases m with
  |nil=>simp[qm0] at h
  |cons y m=>
   simp only[qm0,gnB] at h;rw[AV.beq_ok x _ h.1,qhe l _ h.2]
end
def Ent.beq(e f:Ent):Bool:=X.beq e.x f.x&&(Ty.beq e.t f.t&&(q4u e.own f.own&&q3p e.dep f.dep))
theorem Ent.beq_ok{e f:Ent}(h:Ent.beq e f=true):e=f:=by
 obtain⟨x,t,own,dep⟩:=e;obtain⟨x',t',own',dep'⟩:=f;simp only[Ent.beq,gnB] at h;rw[X.beq_ok _ _ h.1,(Ty.beq_iff _ _).1 h.2.1,q2o h.2.2.1,jw h.2.2.2]
def qnh(σ:List (Nat×AV)):List (Nat×AV)→Bool
  |[]=>true
  | (t, a) :: l => (match a with
    |.any=>(lkA σ t).isSome
    | _ => match lkA σ t with
      |some b=>AV.beq b a
      |none=>false)&&qnh σ l
def qmv(σ:List (Nat×Ent)):List (Nat×Ent)→Bool
  |[]=>true
  |(t,a)::l=>(match lkA σ t with
      |some b=>Ent.beq b a
      |none=>false)&&qmv σ l
def covers(σ τ:St):Bool:=qnh σ.t τ.t&&qmv σ.m τ.m
section
variable{c:Cx}{p:qe}{w:World}{a:Act}{σ τ:St}
theorem qkd{l m:List (Nat×AV)}(hf:∀t x,lkA l t=some x→∃v,a.tmps[t]? =some v∧x.pd c p w v):∀{m:List (Nat×AV)},qnh l m=true→∀t x,lkA m t=some x→∃v,a.tmps[t]? =some v∧x.pd c p w v
  |[],_,t,x,h=>by cases h
  | (s, y) :: m, hs, t, x, h => by
    simp only[qnh,gnB] at hs;by_cases hst:s=t
    · subst hst;rw[qa] at h;injection h with h;subst h;have h1:=hs.1;cases hl:lkA l s with
      | none =>
        rw[hl] at h1;cases y<;>simp at h1
      | some b =>
        rw[hl] at h1;obtain⟨v,e1,e2⟩:=hf s b hl;cases y with
        |any=>exact⟨v,e1,trivial⟩
        | _ =>
          have:=AV.beq_ok _ _ h1;subst this;exact⟨v,e1,e2⟩
    · rw[qb hst] at h;exact qkd (l:=l) (m:=m) hf hs.2 t x h
theorem qir{l:List (Nat×Ent)}(hf:∀k e,lkA l k=some e→ju c p w k e):∀{m:List (Nat×Ent)},qmv l m=true→∀k e,lkA m k=some e→ju c p w k e
  |[],_,t,x,h=>by cases h
  | (s, y) :: m, hs, t, x, h => by
    simp only[qmv,gnB] at hs;by_cases hst:s=t
    · subst hst;rw[qa] at h;injection h with h;subst h;have h1:=hs.1;cases hl:lkA l s with
      |none=>rw[hl] at h1;cases h1
      | some b =>
        rw[hl] at h1;have:=Ent.beq_ok h1;subst this;exact hf s b hl
    · rw[qb hst] at h;exact qir hf hs.2 t x h
theorem q1l(h:covers σ τ=true)(hf:SF c σ p w a):SF c τ p w a:=by
 simp only[covers,gnB] at h;exact⟨qkd (m:=τ.t) hf.t h.1,qir hf.m h.2⟩
end
def q2s:List (X×Bool)→X
 |[]=>.lit (.b true)
 |[(x,true)]=>x
 |[(x,false)]=>.not x
 |(x,b)::l=>.and (if b then x else .not x) (q2s l)
theorem q87{e:Ev}:∀{l:List (X×Bool)},((q2s l).ev e).tt=hold e l
  |[]=>rfl
  | [(x, true)] => by
    show(x.ev e).tt=((x.ev e).tt==true&&true)
    cases (x.ev e).tt<;>rfl
  | [(x, false)] => by
    show(!(x.ev e).tt)=((x.ev e).tt==false&&true)
    cases (x.ev e).tt<;>rfl
  | (x, b) :: y :: l => by
    have ih:=q87 (e:=e) (l:=y::l);have:q2s ((x,b)::y::l)=.and (if b then x else .not x) (q2s (y::l)):=by cases b<;>rfl
    rw[this]
    show(((if b then x else X.not x).ev e).tt&&((q2s (y::l)).ev e).tt)=((x.ev e).tt==b&&hold e (y::l))
    rw[ih];cases b with
    |true=>simp
    | false =>
      show((!(x.ev e).tt)&&_)=_
      simp
def qkf(cs:List (X×Bool))(x:X):X:=match cs with
 |[]=>x
 |_=>.imp (q2s cs) x
theorem qn7{e:Ev}{cs:List (X×Bool)}{x:X}(h:(qkf cs x).says e)(hc:hold e cs=true):x.says e:=by
  unfold qkf at h;split at h
  · exact h
  · have h1:(!((q2s cs).ev e).tt||(x.ev e).tt)=true:=h;rw[q87,hc] at h1;simpa[X.says] using h1
def isK(k:Option Nat)(t:Nat):Bool:=match k with
 |some k=>uD t k
 |none=>false
theorem qyt{k:Option Nat}{t:Nat}(h:isK k t=false):k≠some t:=fun e=>by
 subst e;have:uD t t=false:=h;rw[Nat.beq_refl] at this;cases this
def z04(a b:AV)(k:Option Nat)(t:Nat):Bool:=AV.beq a b&& !isK k t
def z0k(f e:Ent):Bool:=Ty.beq f.t e.t&&(q4u f.own e.own&&q3p f.dep e.dep)
def q32(cs:List (X×Bool))(k:Option Nat)(σ1:List (Nat×AV)):List (Nat×AV)→List (Nat×AV)
  |[]=>[]
  |(t,a)::l=>(match lkA σ1 t with
      |some b=>if z04 b a k t then(t,a)::q32 cs k σ1 l else(t,.any)::q32 cs k σ1 l
      |none=>(q32 cs k σ1 l).filter fun y=>y.1 !=t)
def q6x(cs:List (X×Bool))(σ1:List (Nat×Ent)):List (Nat×Ent)→List (Nat×Ent)
  |[]=>[]
  |(t,e)::l=>match lkA σ1 t with
      |some f=>if z0k f e then(t,⟨if X.beq f.x e.x then e.x else .ite (q2s cs) f.x e.x,e.t,e.own,e.dep⟩)::q6x cs σ1 l else(q6x cs σ1 l).filter fun y=>y.1 !=t
      |none=>(q6x cs σ1 l).filter fun y=>y.1 !=t
def merge(cs:List (X×Bool))(k:Option Nat)(σ1 σ:St):St:=
 let t:=q32 cs k σ1.t σ.t
 ⟨match k with
  |some k=>zr t k (match lkA σ1.t k with|some a=>.gd cs a|none=>.any)
  |none=>t,q6x cs σ1.m σ.m⟩
theorem qgs{cs:List (X×Bool)}{k:Option Nat}{σ1 l:List (Nat×AV)}{t:Nat}{x:AV}(h:lkA (q32 cs k σ1 l) t=some x):(∃b a,lkA σ1 t=some b∧lkA l t=some a)∧(x=.any∨(k≠some t∧lkA σ1 t=some x∧lkA l t=some x)):=by
 induction l with
 |nil=>cases h
 | cons e l ih =>
  obtain⟨s,y⟩:=e;unfold q32 at h;by_cases hst:s=t
  ·subst hst;split at h
   ·rename_i b hb;split at h
    ·rename_i hok;simp only[z04,gnB,uM] at hok;rw[qa] at h;injection h with h;have hx:=AV.beq_ok _ _ hok.1;subst hx h;exact⟨⟨b,b,hb,qa⟩,.inr ⟨qyt hok.2,hb,qa⟩⟩
    ·rw[qa] at h;injection h with h;exact⟨⟨b,y,hb,qa⟩,.inl h.symm⟩
   ·rw[qh] at h;cases h
  ·have:lkA (q32 cs k σ1 l) t=some x:=by
    split at h
    ·split at h
     ·rw[qb hst] at h;exact h
     ·rw[qb hst] at h;exact h
    ·rw[j5 hst] at h;exact h
   obtain⟨⟨b,a,h1,h2⟩,h3⟩:=ih this;rw[qb hst];exact⟨⟨b,a,h1,h2⟩,h3⟩
theorem qgb{cs:List (X×Bool)}{σ1 l:List (Nat×Ent)}{t:Nat}{x:Ent}(h:lkA (q6x cs σ1 l) t=some x):∃f e,lkA σ1 t=some f∧lkA l t=some e∧f.t=e.t∧f.own=e.own∧f.dep=e.dep∧x=⟨if X.beq f.x e.x then e.x else .ite (q2s cs) f.x e.x,e.t,e.own,e.dep⟩:=by
 induction l with
 |nil=>cases h
 | cons e l ih =>
  obtain⟨s,y⟩:=e;unfold q6x at h;by_cases hst:s=t
  ·subst hst;split at h
   ·rename_i b hb;split at h
    ·rename_i hok;simp only[z0k,gnB] at hok;rw[qa] at h;injection h with h;exact⟨b,y,hb,qa,(Ty.beq_iff _ _).1 hok.1,q2o hok.2.1,jw hok.2.2,h.symm⟩
    ·rw[qh] at h;cases h
   ·rw[qh] at h;cases h
  ·have:lkA (q6x cs σ1 l) t=some x:=by
    split at h
    ·split at h
     ·rw[qb hst] at h;exact h
     ·rw[j5 hst] at h;exact h
    ·rw[j5 hst] at h;exact h
   rw[qb hst];exact ih this
section
variable{c:Cx}{p:qe}{w:World}{a:Act}{σ σ1:St}{cs:List (X×Bool)}
theorem qg6{k:Option Nat}(hc:hold c.v cs=true)(hf:SF c σ1 p w a)(hk:∀t,k=some t→∃v,a.tmps[t]? =some v):SF c (merge cs k σ1 σ) p w a:=by
 have ht:∀t x,lkA (q32 cs k σ1.t σ.t) t=some x→∃v,a.tmps[t]? =some v∧x.pd c p w v:=fun t x hx=>by
  obtain⟨⟨b,y,h1,h2⟩,h3⟩:=qgs hx;obtain⟨v,e1,e2⟩:=hf.t t b h1;rcases h3 with rfl|⟨-,h4,-⟩
  ·exact⟨v,e1,trivial⟩
  ·exact hf.t t x h4
 refine⟨?_,fun t x hx=>?_⟩
 ·cases k with
  |none=>exact ht
  | some k =>
   intro t x hx;have hx':lkA (zr (q32 cs (some k) σ1.t σ.t) k (match lkA σ1.t k with|some a=>.gd cs a|none=>.any)) t=some x:=hx;by_cases hkt:k=t
   ·subst hkt;rw[yd] at hx';injection hx' with hx';subst hx';cases hl:lkA σ1.t k with
    |none=>
     obtain⟨v,hv⟩:=hk k rfl;exact⟨v,hv,trivial⟩
    |some y=>
     obtain⟨v,e1,e2⟩:=hf.t k y hl;exact⟨v,e1,(fun _=>e2),(fun h=>by rw[hc] at h;cases h)⟩
   ·rw[jn hkt] at hx';exact ht t x hx'
 ·obtain⟨f,e,h1,h2,h3,h4,h5,rfl⟩:=qgb hx;obtain⟨g,vs,T,hg,hh,hty,hcon⟩:=hf.m t f h1;refine⟨g,vs,T,hg,hh,h3▸hty,?_⟩;rw[h3,h4,h5] at hcon;have hev:((if X.beq f.x e.x then e.x else X.ite (q2s cs) f.x e.x).ev c.v)=f.x.ev c.v:=by
   split
   ·rename_i hb;rw[X.beq_ok _ _ hb]
   ·show(if((q2s cs).ev c.v).tt then f.x.ev c.v else e.x.ev c.v)=_
    rw[q87,hc];rfl
  show Con c.A p w ((if X.beq f.x e.x then e.x else X.ite (q2s cs) f.x e.x).ev c.v) e.t e.own e.dep vs.toList
  rw[hev];exact hcon
theorem qjc{k:Option Nat}(hc:hold c.v cs=false)(hf:SF c σ p w a)(hk:∀t,k=some t→t<a.tmps.size):SF c (merge cs k σ1 σ) p w (a.put k Go.undef):=by
 have hput:∀t,k≠some t→(a.put k Go.undef).tmps[t]? =a.tmps[t]? :=fun t ht=>by
  cases k with
  |none=>rfl
  |some k=>exact Array.getElem?_setIfInBounds_ne (fun e=>ht (by rw[e]))
 have ht:∀t x,lkA (q32 cs k σ1.t σ.t) t=some x→∃v,(a.put k Go.undef).tmps[t]? =some v∧x.pd c p w v:=fun t x hx=>by
  obtain⟨⟨b,y,h1,h2⟩,h3⟩:=qgs hx;obtain⟨v,e1,e2⟩:=hf.t t y h2;rcases h3 with rfl|⟨h0,-,h4⟩
  ·by_cases hkt:k=some t
   ·subst hkt;exact⟨Go.undef,kF (hk t rfl),trivial⟩
   ·exact⟨v,by rw[hput t hkt];exact e1,trivial⟩
  ·rw[hput t h0];exact hf.t t x h4
 refine⟨?_,fun t x hx=>?_⟩
 ·cases k with
  |none=>exact ht
  | some k =>
   intro t x hx;have hx':lkA (zr (q32 cs (some k) σ1.t σ.t) k (match lkA σ1.t k with|some a=>.gd cs a|none=>.any)) t=some x:=hx;by_cases hkt:k=t
   ·subst hkt;rw[yd] at hx';injection hx' with hx';subst hx';refine⟨Go.undef,kF (hk k rfl),?_⟩;cases lkA σ1.t k with
    |none=>trivial
    |some y=>exact⟨(fun h=>by rw[hc] at h;cases h),(fun _=>rfl)⟩
   ·rw[jn hkt] at hx';exact ht t x hx'
 ·obtain⟨f,e,h1,h2,h3,h4,h5,rfl⟩:=qgb hx;obtain⟨g,vs,T,hg,hh,hty,hcon⟩:=hf.m t e h2;refine⟨g,vs,T,hg,hh,hty,?_⟩;have hev:((if X.beq f.x e.x then e.x else X.ite (q2s cs) f.x e.x).ev c.v)=e.x.ev c.v:=by
   split
   ·rfl
   ·show(if((q2s cs).ev c.v).tt then f.x.ev c.v else e.x.ev c.v)=_
    rw[q87,hc];rfl
  show Con c.A p w ((if X.beq f.x e.x then e.x else X.ite (q2s cs) f.x e.x).ev c.v) e.t e.own e.dep vs.toList
  rw[hev];exact hcon
end
end
section
def FR(ro:Option Nat):Fence:={Fence.wide with round:=ro}
theorem Oper.wp_round{o:Oper}{a:Act}{w:World}{K:Act→World→Prop}{Q:Exit→Act→World→Prop}{n:Nat}(ro:Option Nat)(hnd:∀c,o.op≠.defer c)(h:o.wp uC a w K Q):
  o.wpIn (FR ro) n uC a w K Q:=by
 refine⟨fun _ _=>trivial,?_⟩;rw[show Oper.semAt (FR ro).round a.eval o=execOp a.eval o from Oper.semAt_eq _ _ _ hnd];unfold Oper.wp at h;generalize (execOp a.eval o).run uC w=r at *;cases r with
 |ok x w'=>
  cases x<;>simp only[Oper.upon,Oper.uponIn] at h⊢<;>first|exact h|skip
  case enter f args=>exact⟨fun e=>(by cases e),callsIn_wide.2 h⟩
  case row row args=>exact⟨fun e=>(by cases e),fun c cs _=>let ⟨v,w',r,s⟩:=h c cs;⟨v,w',r,stepsIn_wide.2 s⟩⟩
 |halt x w'=>cases x<;>simp only[Oper.upon,Oper.uponIn] at h⊢<;>exact h
section
variable{F:Fence}{n:Nat}{P:Program}{b:Frame}{a:Act}{k:List Item}{cs:List Frame}{w:World}{Q:Exit→Act→World→Prop}
theorem q0q{c:Code}:step P (lone (b.atR a (.code (.scope c)::k)) cs w)=.next (lone (b.atR a (.code c:: .inScope c::k)) cs w):=
 step_lone_go (by simp[stepG,stepG.exec,Frame.atR])
theorem qfg{c:Code}:step P (lone (b.atR a (.inScope c::k)) cs w)=.next (lone (b.atR a k) cs w):=
 step_lone_go (by simp[stepG,stepG.exec,Frame.atR])
theorem q6d{c:Code}(h:c.wpIn F n P (Exit.noGoto Q) a w):(Code.scope c).wpIn F n P Q a w:=by
 intro b k cs hro hb hr;have h0:(lone (b.atR a (.code (.scope c)::k)) cs w).fenced P F:=fenced_calm hb hr rfl;obtain⟨e,a₁,w₁,hq,harr⟩:=h b (.inScope c::k) cs hro hb hr;cases e with
 |normal=>exact⟨.normal,a₁,w₁,hq,.head h0 q0q (StepsIn.trans harr (.one (fenced_calm hb hr rfl) qfg))⟩
 | exit id' =>
  have hx:exitTo id' (.inScope c::k)=exitTo id' k:=by simp[exitTo]
  exact⟨.exit id',a₁,w₁,hq,fun k' hk=>.head h0 q0q (harr.1 k' (by rw[hx];exact hk)),
   fun hr' hk=>let ⟨k₁,h1,h2⟩:=harr.2 hr' (by rw[hx];exact hk);⟨k₁,h1,.head h0 q0q h2⟩⟩
 |goto l=>exact hq.elim
 |ret=>exact⟨_,a₁,w₁,hq,.of_steps (.one h0 q0q) harr⟩
 |panic ch=>exact⟨_,a₁,w₁,hq,.of_steps (.one h0 q0q) harr⟩
 |outgrown=>exact⟨_,a₁,w₁,hq,.of_steps (.one h0 q0q) harr⟩
end
end
section
def qrw:Option AV→Bool
 |some (.v _ (.int _) _ _)=>true
 |_=>false
def z03(σ:St)(cs:List (X×Bool)):Option Operand→Bool
 |none=>true
 |some y=>qrw (opd σ cs y)
def qqk(σ:St)(cs:List (X×Bool))(k:Nat)(T:TypeId)(r:Option Operand):Option St:=match qc T with
 |some (.map K V)=>if z03 σ cs r then some ⟨zr (σ.un (qg k)).t k (.v (.lit (.mp [])) (.map K V) [(0,k * 16+1)] []),(σ.un (qg k)).m⟩ else none
 |_=>none
def q9r(pin:Nat)(K V:TypeId)(xk xv x:X)(t:Ty)(own:List (Nat×Nat))(dep:List Nat):Option X:=
 if qr dep pin then none else if qr (own.map (·.2)) pin then(match t,own with
  |.map K' V',[(0,_)]=>if uD K' K&&uD V' V then some (.fn 2 [x,xk,xv]) else none
  |_,_=>none) else some x
def qmd(pin:Nat)(K V:TypeId)(xk xv:X):AV→AV
 |.v x t own dep=>match q9r pin K V xk xv x t own dep with
  |some x'=>.v x' t own dep
  |none=>.any
 |.sn q (.v x t own dep)=>match q9r pin K V xk xv x t own dep with
  |some x'=>.sn q (.v x' t own dep)
  |none=>.any
 |a=>if okA (yu pin) no a then a else .any
def qfq(pin:Nat)(K V:TypeId)(xk xv:X):List (Nat×Ent)→List (Nat×Ent)
  |[]=>[]
  | (k, e) :: l => match q9r pin K V xk xv e.x e.t e.own e.dep with
    |some x'=>if uD (k * 16) pin then(qfq pin K V xk xv l).filter (fun y=>y.1 !=k) else(k,⟨x',e.t,e.own,e.dep⟩)::qfq pin K V xk xv l
    |none=>(qfq pin K V xk xv l).filter fun y=>y.1 !=k
def qh4(σ:St)(cs:List (X×Bool))(T:TypeId)(m k x:Operand):Option St:=match qc T with
 | some (.map K V) => (match qc K, qc V with
  |some kt,some vt=>if qm 8 kt&&qm 8 vt then(match opd σ cs m,(opd σ cs k).bind (jq kt),(opd σ cs x).bind (jq vt) with
   | some (.v xm (.map K' V') [(0, pin)] _), some (xk, _, _), some (xv, _, _) => if uD K' K && uD V' V then
     some ⟨σ.t.map fun e=>(e.1,qmd pin K V xk xv e.2),qfq pin K V xk xv σ.m⟩ else none
   |_,_,_=>none) else none
  |_,_=>none)
 |_=>none
section
variable{c:Cx}{p:qe}{w w0:World}{S0:Nat→Prop}{a:Act}{σ σ':St}{cs:List (X×Bool)}{o:Oper}{d:List Deferred}{z:Nat}{A:Bk}{F:Flr}{F:Nat→Prop}
theorem qyh(hb:Bs c.A c.F w0 S0 p w)(hf:SF c σ p w a)(hc:hold c.v cs=true)(hd:a.defers=d)(hz:a.tmps.size=z){k:Nat}(hk:k<z)(hdst:o.dst=some k){T:TypeId}{r:Option Operand}(heq:o.op=.makeMap T r)(h:qqk σ cs k T r=some σ'){Q:Exit→Act→World→Prop}:
  o.wp uC a w (zl c w0 S0 d z σ') Q:=by
 unfold qqk at h;split at h
 ·rename_i K V hT;split at h
  ·rename_i hr;injection h with h;subst h;obtain⟨hu,⟨kt,hK⟩,⟨vt,hV⟩,-⟩:=q3b hT;have hrun:(execOp a.eval o).run uC w=.ok (.value (.map (some w.heap.size))) (w.alloc (.map #[] 0)):=by
    cases r with
    |none=>simp[execOp,heq,Instr.makeMap,newObj,Sem.run]
    | some y =>
     have hy:qrw (opd σ cs y)=true:=hr;unfold qrw at hy;split at hy
     ·rename_i x k' own dep hq;obtain⟨n,-,hv,-⟩:=zt (qd hf hc hq);generalize a.eval=r at *;simp[execOp,heq,Instr.makeMap,run_underlying hu,hv,newObj,asInt,asIntOf,Sem.run]
     ·cases hy
   unfold Oper.wp;rw[hrun]
   show zl c w0 S0 d z _ (a.put o.dst _) _
   rw[hdst];have hb1:=hb.un (qg k);have hf1:=SF.un (q:=qg k) hb.inj hb.pa hf;have hkq:qg k (k * 16+1)=true:=by
    unfold qg;rw[kX];omega
   have hpx:unP (qg k) p (k * 16+1)=none:=by unfold unP;rw[if_pos hkq]
   have hst:=q1s (A:=c.A) hpx hb1.bd (.map #[] 0);refine⟨q5o (unP (qg k) p) (k * 16+1) w.heap.size,qfv hb1 (.inr ⟨_,_,rfl⟩),?_,hd,by simp only[Act.put,uN];exact hz⟩;have hkeep:SF c (σ.un (qg k)) (q5o (unP (qg k) p) (k * 16+1) w.heap.size) (w.alloc (.map #[] 0)) a:=by
    refine⟨fun t' y hy=>?_,fun k' e he=>?_⟩
    ·obtain⟨v,h1,h2⟩:=hf1.t t' y hy;exact⟨v,h1,AV.kept hst y v (fun _ _=>⟨rfl,rfl⟩) (fun _ _=>rfl) h2⟩
    ·exact(hf1.m k' e he).kept hst (fun _ _=>⟨rfl,rfl⟩) ⟨rfl,rfl⟩
   refine hkeep.put (t:=k) (by rw[hz];exact hk) ⟨[_],rfl,?_⟩;exact .inr ⟨K,V,kt,vt,[],w.heap.size,#[],0,rfl,hK,hV,rfl,rfl,yc,q0x rfl,trivial⟩
  ·cases h
 ·cases h
def qks:Value→Bool
 |.int _ _=>true
 |.bool _=>true
 |.string _=>true
 |_=>false
theorem qov:∀(n:Nat){t:Ty}{d:D}{cs:List Value},q91 n t d=some cs→∀v∈cs,qks v=true:=by
 intro n
 induction n with
 |zero=>intro t d cs h;simp[q91] at h
 | succ n ih =>
  intro t d cs h;unfold q91 at h;split at h
  ·cases h
  ·split at h
   ·injection h with h;subst h;intro v hv;obtain rfl:v=_:=by simpa using hv
    rfl
   ·cases h
  ·injection h with h;subst h;intro v hv;obtain rfl:v=_:=by simpa using hv
   rfl
  ·split at h
   ·injection h with h;subst h;intro v hv;obtain rfl:v=_:=by simpa using hv
    rfl
   ·cases h
  ·rename_i n' T l heq;obtain rfl:n=n':=by injection heq
   split at h
   ·rename_i fs hf;clear hf
    induction l generalizing fs cs with
    | nil =>
     cases fs with
     |nil=>
      simp only[q58,uH] at h;subst h;intro v hv;cases hv
     |cons t ts=>simp[q58] at h
    | cons d l ihl =>
     cases fs with
     |nil=>simp[q58] at h
     | cons t ts =>
      unfold q58 at h;split at h
      ·rename_i a b ha hb;injection h with h;subst h;intro v hv;rcases vC.1 hv with hv|hv
       ·exact ih ha v hv
       ·exact ihl _ hb v hv
      ·cases h
   ·cases h
  ·cases h
theorem qdt{v:Value}(h:qks v=true)(n:Nat):Instr.sameBits n v v=true:=by
  cases v<;>first|(simp[qks] at h;done)|(simp[Instr.sameBits];done)|skip
  rename_i s;simp only[Instr.sameBits];exact(qsi s s).2 rfl
theorem qt6{t:Ty}{d:D}{v:Value}(h:q7a t d=some v):Instr.sameBits 10000 v v=true:=by
 unfold q7a at h;obtain⟨cs,h1,h2⟩:=uK.1 h;have hp:=qov 8 h1;unfold qn0 at h2;split at h2
 ·injection h2 with h2;subst h2;simp only[Instr.sameBits,beq_self_eq_true,vI,uI];rintro⟨x,y⟩hxy;have hxy':(x,y)∈cs.zip cs:=hxy;obtain⟨i,hi,he⟩:=List.mem_iff_getElem.1 hxy';simp only[List.getElem_zip,uR] at he;obtain⟨rfl,rfl⟩:=he;exact qdt (hp _ (List.getElem_mem _)) _
 ·split at h2
  ·rename_i x;injection h2 with h2;subst h2;exact qdt (hp _ (by simp)) _
  ·cases h2
theorem qjr{T K V:TypeId}{kt vt:Ty}(hT:qc T=some (.map K V))(hK:qc K=some kt)(hV:qc V=some vt)(hbk:qm 8 kt=true)(hbv:qm 8 vt=true){g clock:Nat}{es:Array MapEntry}(hg:w.heap[g]? =some (.map es clock)){l:List D}(hl:q2r kt vt l es.toList){kd xd:D}{ks xs:List Value}{kv xv:Value}(hd:Rd w F kd kt ks)(hp:z4 kt ks kv)(hdx:Rd w F xd vt xs)(hpx:z4 vt xs xv):
  ∃es' clock',(Instr.mapUpdate T (.map (some g)) kv xv).run uC w=.ok () {w with heap:=w.heap.setIfInBounds g (.map es' clock')}∧∀l',q2r kt vt l' es.toList→q2r kt vt (mset kd xd l') es'.toList:=by
 have hck:(Instr.checkKey false 10000 K kv).run uC w=.ok () w:=q4m false 8 9992 hK hbk hd hp;have hfk:=q73 hK hbk hd hp hl.keys;have hu:=(q3b hT).1;have hek:=qkw hbk hd hp;have hex:=qkw hbv hdx hpx;have hsee:∀l',q2r kt vt l' es.toList→fsD kd l' es.toList 0=fsD kd l es.toList 0:=fun l' hl'=>by
  have:=(q73 hK hbk hd hp hl'.keys).symm.trans hfk;injection this
 rcases qcg (i:=0) (kd:=kd) hl with⟨h1,h2⟩|⟨j,e,x,h1,h2,h3,h4,h5⟩
 ·rw[h1] at hfk;refine⟨es.push {key:=kv,val:=xv,born:=clock},clock+1,by simp[Instr.mapUpdate,run_underlying hu,MapKept.run_getObj_map hg,hck,hfk,MapKept.run_setObj_map _ hg,Result.andThen],fun l' hl'=>?_⟩;rw[Array.toList_push];have hq:=hsee l' hl';have hm':mfind kd l'=none:=by
   rcases qcg (i:=0) (kd:=kd) hl' with⟨-,h⟩|⟨j,e,x,h,-⟩
   ·exact h
   ·rw[hq,h1] at h;cases h
  exact qk5 hek hex hl' hm' _
 ·rw[h1] at hfk;have hjl:es[j]? =some e:=by rw[←kE];exact h2
  have hkk:e.key=kv:=gnI (h3.symm.trans hek);have hsame:Instr.sameBits 10000 kv kv=true:=qt6 hek;refine⟨es.modify j fun e=>{e with key:=kv,val:=xv},clock,by simp[Instr.mapUpdate,run_underlying hu,MapKept.run_getObj_map hg,hck,hfk,hjl,hkk,Instr.keyThatStays,hsame,MapKept.run_setObj_map _ hg,Result.andThen],fun l' hl'=>?_⟩;rw[Array.toList_modify];exact qje hek hex (i:=0) (j:=j) (v:=e.val) hl' ((hsee l' hl').trans h1)
theorem qaj{K V:TypeId}{kt vt:Ty}(hK:qc K=some kt)(hV:qc V=some vt){pin g clock clock':Nat}(hpin:p pin=some g){es es':Array MapEntry}(hg:w.heap[g]? =some (.map es clock)){xk xv:X}(hlist:∀l,q2r kt vt l es.toList→q2r kt vt (mset (xk.ev c.v) (xv.ev c.v) l) es'.toList)
  {w':World}(hg':w'.heap[g]? =some (.map es' clock'))(hst:Stab c.A (yu pin) no p w p w'){x x':X}{t:Ty}{own:List (Nat×Nat)}{dep:List Nat}{vs:List Value}(hu:q9r pin K V xk xv x t own dep=some x')(hc:Con c.A p w (x.ev c.v) t own dep vs):Con c.A p w' (x'.ev c.v) t own dep vs:=by
 unfold q9r at hu;split at hu
 ·cases hu
 ·rename_i hn;have hn':qr dep pin=false:=by simpa using hn
  have hdep:=ji hn';split at hu
  ·rename_i ho;split at hu
   ·rename_i K' V' x0;split at hu
    ·rename_i hok;simp only[gnB] at hok;have e1:=gnN hok.1;have e2:=gnN hok.2;subst e1 e2;injection hu with hu;subst hu;obtain rfl:pin=x0:=by
      have:=qz.1 ho;simpa using this
     have hc':Fl c.A p w dep (some pin) (x.ev c.v) (.map K' V') vs:=hc
     show Fl c.A p w' dep (some pin) _ (.map K' V') vs
     rcases hc' with⟨E,te,l,v,e,-⟩|⟨K1,V1,kt1,vt1,l,g1,es1,cl1,e,h1,h2,h3,h4,h5,h6,h7⟩
     ·cases e
     injection e with e1 e2;subst e1 e2;obtain rfl:=gnI (h1.symm.trans hK);obtain rfl:=gnI (h2.symm.trans hV);obtain rfl:=gnI (h5.symm.trans hpin);rw[hg] at h6;injection h6 with h6;injection h6 with h6 h6';subst h6 h6';refine .inr ⟨K',V',kt1,vt1,_,g1,es',clock',rfl,h1,h2,?_,h4,h5,hg',hlist l h7⟩
     show D.mp (mset (xk.ev c.v) (xv.ev c.v) (x.ev c.v).ms)=_
     rw[h3];rfl
    ·cases hu
   ·cases hu
  ·rename_i ho;injection hu with hu;subst hu;have ho':qr (own.map (·.2)) pin=false:=by simpa using ho
   exact hc.kept hst hdep (ji ho')
theorem qpy{K V:TypeId}{kt vt:Ty}(hK:qc K=some kt)(hV:qc V=some vt){pin g clock clock':Nat}(hpin:p pin=some g){es es':Array MapEntry}(hg:w.heap[g]? =some (.map es clock)){xk xv:X}(hlist:∀l,q2r kt vt l es.toList→q2r kt vt (mset (xk.ev c.v) (xv.ev c.v) l) es'.toList)
  {w':World}(hg':w'.heap[g]? =some (.map es' clock'))(hst:Stab c.A (yu pin) no p w p w'){x:AV}{v:Value}(hx:x.pd c p w v):(qmd pin K V xk xv x).pd c p w' v:=by
 have gen:∀y:AV,y.pd c p w v→(if okA (yu pin) no y then y else AV.any).pd c p w' v:=fun y hy=>by
  split
  ·rename_i hok;exact AV.kept hst y v (q34 hok).1 (q34 hok).2 hy
  ·trivial
 unfold qmd;split
 ·rename_i x t own dep;split
  ·rename_i x' hu;obtain⟨vs,hp,hc⟩:=hx;exact⟨vs,hp,qaj hK hV hpin hg hlist hg' hst hu hc⟩
  ·trivial
 ·rename_i q x t own dep;split
  ·rename_i x' hu;obtain⟨he,vs,hp,hc⟩:=hx;exact⟨he,vs,hp,qaj hK hV hpin hg hlist hg' hst hu hc⟩
  ·trivial
 ·exact gen _ hx
theorem qrd{pin:Nat}{K V:TypeId}{xk xv:X}{l:List (Nat×Ent)}{k:Nat}{e:Ent}(h:lkA (qfq pin K V xk xv l) k=some e):
  ∃e0 x',lkA l k=some e0∧q9r pin K V xk xv e0.x e0.t e0.own e0.dep=some x'∧e=⟨x',e0.t,e0.own,e0.dep⟩∧yu pin (k * 16)=false:=by
 induction l with
 |nil=>cases h
 | cons y l ih =>
  obtain⟨m,y⟩:=y;unfold qfq at h;split at h
  ·rename_i x' hu;split at h
   ·by_cases hm:m=k
    ·subst hm;rw[qh] at h;cases h
    ·rw[j5 hm] at h;rw[qb hm];exact ih h
   ·rename_i hpin;by_cases hm:m=k
    ·subst hm;rw[qa] at h;injection h with h;exact⟨y,x',qa,hu,h.symm,by
      cases hq:yu pin (m * 16) with
      |false=>rfl
      |true=>exact absurd hq hpin⟩
    ·rw[qb hm] at h⊢;exact ih h
  ·by_cases hm:m=k
   ·subst hm;rw[qh] at h;cases h
   ·rw[j5 hm] at h;rw[qb hm];exact ih h
theorem qk7{x g clock:Nat}{es:Array MapEntry}(inj:∀x y b,p x=some b→p y=some b→x=y)(ha:A g)(hx:p x=some g)(ob:Obj):Stab A (yu x) no p w p {w with heap:=w.heap.setIfInBounds g ob}:=by
 have other:∀b,b≠g→(w.heap.setIfInBounds g ob)[b]? =w.heap[b]? :=fun b hb=>by rw[uO,if_neg (Ne.symm hb)]
 refine⟨by simp,fun b hb ha hf=>⟨other b (fun e=>hf x (by rw[e];exact hx)),hf⟩,fun y b _ hy=>hy,fun y b hz hy=>other b fun e=>?_,fun b _ hb=>other b fun e=>A.d b hb (by rw[e];exact ha)⟩;subst e;have:=inj y x b hy hx;simp[this,yu] at hz
theorem qp8{F:Flr}{x g clock:Nat}{es es':Array MapEntry}{clock':Nat}(h:Bs A F w0 S0 p w)(hx:p x=some g)(hg:w.heap[g]? =some (.map es clock)):Bs A F w0 S0 p {w with heap:=w.heap.setIfInBounds g (.map es' clock')}:=by
 have other:∀b,b≠g→(w.heap.setIfInBounds g (.map es' clock'))[b]? =w.heap[b]? :=fun b hb=>by rw[uO,if_neg (Ne.symm hb)]
 have hlt:=(uV.1 hg).1;refine⟨h.inj,fun y b hy=>by simpa using h.bd y b hy,⟨h.but.os,h.but.tape,h.but.output,by simpa using h.but.size,fun k hk hn=>?_⟩,h.pin,h.new,h.pa,fun y b hy=>?_,fun k hk=>?_,h.sp,fun b cs T f hS hc=>?_⟩
 ·refine(other k fun e=>?_).trans (h.but.block k hk hn);subst e;rcases h.pin x k hx with hS|h1
  ·exact hn hS
  ·omega
 ·by_cases hb:b=g
  ·subst hb;exact .inr ⟨es',clock',by show(w.heap.setIfInBounds b _)[b]? =_;rw[uO,if_pos rfl,if_pos hlt]⟩
  ·exact(h.obj y b hy).same (other b hb)
 ·obtain⟨cs,cs',T,te,h1,h2,h3,h4,h5,h6,h7,h8⟩:=h.flo k hk;have hne:k≠g:=fun e=>by
   subst e;rw[hg] at h6;cases h6
  exact⟨cs,cs',T,te,h1,h2,h3,h4,h5,(other k hne).trans h6,h7,h8⟩
 ·by_cases e:b=g
  ·subst e;have hc:(w.heap.setIfInBounds b (.map es' clock'))[b]? =some (.cells cs T f):=hc;rw[uO,if_pos rfl,if_pos hlt] at hc;cases hc
  ·have hc:(w.heap.setIfInBounds g (.map es' clock'))[b]? =some (.cells cs T f):=hc;rw[other b e] at hc;exact h.uf b cs T f hS hc
theorem qnc(hb:Bs c.A c.F w0 S0 p w)(hf:SF c σ p w a)(hc:hold c.v cs=true)(hd:a.defers=d)(hz:a.tmps.size=z)(hdst:o.dst=none){T:TypeId}{m k x:Operand}(heq:o.op=.mapUpdate T m k x∨o.op=.insert T m k x)(h:qh4 σ cs T m k x=some σ'){Q:Exit→Act→World→Prop}:
  o.wp uC a w (zl c w0 S0 d z σ') Q:=by
 unfold qh4 at h;split at h
 ·rename_i K V hT;split at h
  ·rename_i kt vt hK hV;split at h
   ·rename_i hfl;simp only[gnB] at hfl;split at h
    ·rename_i xm K' V' pin depm xk ownk depk xv ownv depv hm hk hx;split at h
     ·rename_i hok;simp only[gnB] at hok;have e1:=gnN hok.1;have e2:=gnN hok.2;subst e1 e2;injection h with h;subst h;obtain⟨vm,hpm,hcm⟩:=qd hf hc hm;obtain⟨k',hk1,hk2⟩:=uK.1 hk;obtain⟨x',hx1,hx2⟩:=uK.1 hx;obtain⟨ks,hpk,hck⟩:=yg hk2 (qd hf hc hk1);obtain⟨xs,hpx,hcx⟩:=yg hx2 (qd hf hc hx1);have hcm':Fl c.A p w depm (some pin) (xm.ev c.v) (.map K' V') vm:=hcm;rcases hcm' with⟨E,te,l,v,e,-⟩|⟨K1,V1,kt1,vt1,l,g1,es1,cl1,e,h1,h2,h3,h4,h5,h6,h7⟩
      ·cases e
      injection e with e1 e2;subst e1 e2;obtain rfl:=gnI (h1.symm.trans hK);obtain rfl:=gnI (h2.symm.trans hV);subst h4;have hmv:=z4.one1 hpm;have hrk:=hck.rd (dep':=depk++ownk.map (·.2)) (fun x hx=>uG _ hx) (fun x hx=>uE _ hx);have hrx:=hcx.rd (dep':=depv++ownv.map (·.2)) (fun x hx=>uG _ hx) (fun x hx=>uE _ hx);have hrk0:Rd w (FFD c.A p []) (xk.ev c.v) kt1 ks:=Rd.flat 8 _ hfl.1 hrk;have hrx0:Rd w (FFD c.A p []) (xv.ev c.v) vt1 xs:=Rd.flat 8 _ hfl.2 hrx;obtain⟨es',clock',hr,hl'⟩:=qjr hT hK hV hfl.1 hfl.2 h6 h7 hrk0 hpk hrx0 hpx;have hst:=qk7 (A:=c.A) (w:=w) (clock:=cl1) (es:=es1) hb.inj (hb.pa _ _ h5) h5 (.map es' clock');have hlt:=(uV.1 h6).1;have hnew:(w.heap.setIfInBounds g1 (.map es' clock'))[g1]? =some (.map es' clock'):=by rw[uO,if_pos rfl,if_pos hlt]
      have hrun:(execOp a.eval o).run uC w=.ok .skip {w with heap:=w.heap.setIfInBounds g1 (.map es' clock')}:=by
       generalize a.eval=r at *;rcases heq with heq|heq<;>simp[execOp,heq,hmv,hr]
      unfold Oper.wp;rw[hrun]
      show zl c w0 S0 d z _ (a.put o.dst undef) _
      rw[hdst];refine⟨p,qp8 hb h5 h6,⟨fun t y hy=>?_,fun k0 e0 he0=>?_⟩,hd,hz⟩
      ·obtain⟨y0,hy0,rfl⟩:=q08 (f:=qmd pin K' V' xk xv) hy;obtain⟨v,q1,q2⟩:=hf.t t y0 hy0;exact⟨v,q1,qpy hK hV h5 h6 hl' hnew hst q2⟩
      ·obtain⟨e1,x1,q1,q2,rfl,q3⟩:=qrd he0;obtain⟨g',vs',T',hg',hh,hty,hcc⟩:=hf.m k0 e1 q1;exact⟨g',vs',T',hg',(hst.con _ _ q3 hg').trans hh,hty,qaj hK hV h5 h6 hl' hnew hst q2 hcc⟩
     ·cases h
    ·cases h
   ·cases h
  ·cases h
 ·cases h
end
end
section
open Go.RowKit Go.Shelf
def qpu:List (FuncId×FuncId×TypeId×TypeId):=[]
theorem qqj:∀e∈qpu,∀(args:Array Value)(w:World),(callFunc e.1 args).run uC w=.ok (.enter e.1 args) w:=fun e he=>by cases he
theorem qso:∀e∈qpu,∀(w:World)(A:Option Addr)(l c:Nat),Calls uC e.1 #[.slice A l c] w fun e' w'=>e'=.returned (.func (.func e.2.1) #[] #[.pointer (some ⟨w.heap.size,0,none⟩)])∧w'=w.alloc (.cells #[.slice A l c] e.2.2.1):=fun e he=>by cases he
end
section
def qw3(f:FuncId):List (FuncId×FuncId×TypeId×TypeId)→Option (FuncId×FuncId×TypeId×TypeId)
 |[]=>none
 |e::l=>if uD e.1 f then some e else qw3 f l
theorem qnj{f:FuncId}{e:FuncId×FuncId×TypeId×TypeId}:∀{l:List (FuncId×FuncId×TypeId×TypeId)},qw3 f l=some e→e∈l∧e.1=f
 |[],h=>by cases h
 | x :: l, h => by
  unfold qw3 at h;split at h
  ·rename_i hx;injection h with h;subst h;exact⟨uB,gnN hx⟩
  ·obtain⟨h1,h2⟩:=qnj h;exact⟨uA _ h1,h2⟩
def qt1(σ0:St)(cs:List (X×Bool))(k:Nat)(y:Operand)(args:List Operand):Option St:=match opd (σ0.un (qg k)) cs y,args with
 | some (.fn f []), [x] => (match qw3 f qpu with
  |some (_,g,T,E)=>if(qc E).isSome then(match(opd (σ0.un (qg k)) cs x).bind (q6i E) with
   |some (xv,own,dep)=>some ⟨zr (σ0.un (qg k)).t k (.fn g [.fr T (.v xv (.row E) own dep)]),(σ0.un (qg k)).m⟩
   |none=>none) else none
  |none=>none)
 |_,_=>none
section
variable{A:Bk}{F:Flr}{c:Cx}{p:qe}{w w0:World}{S0:Nat→Prop}{a:Act}{σ σ':St}{cs:List (X×Bool)}{o:Oper}{d:List Deferred}{z:Nat}
theorem qtr(h:Bs A F w0 S0 p w)(o:Obj)(ho:∀cs T f,o=.cells cs T f→f=(0,0):=by intro cs T f e;cases e;rfl):Bs A F w0 S0 p (w.alloc o):=by
 refine⟨h.inj,fun x b hx=>by have:=h.bd x b hx;simp;omega,h.but.alloc _,h.pin,h.new,h.pa,fun x b hx=>?_,h.flo.same fun k hk _=>by rw[hget,if_neg (by omega)],h.sp,qdg h.uf ho⟩;rcases h.obj x b hx with⟨cs',T',h2⟩|⟨es,clock,h2⟩
 ·exact .inl ⟨cs',T',q8n h2⟩
 ·exact .inr ⟨es,clock,q8n h2⟩
theorem qoe(bd:∀x b,p x=some b→b<w.heap.size)(o:Obj):Stab A no no p w p (w.alloc o):=
 ⟨by simp,fun b hb ha hf=>⟨by rw[hget,if_neg (by omega)],hf⟩,fun y b _ hy=>hy,fun y b _ hy=>by
  have:=bd y b hy;rw[hget,if_neg (by omega)],fun b hb _=>by rw[hget,if_neg (by omega)]⟩
theorem qx8(hb:Bs c.A c.F w0 S0 p w)(hf:SF c σ p w a)(hc:hold c.v cs=true)(hd:a.defers=d)(hz:a.tmps.size=z){k:Nat}(hk:k<z)(hdst:o.dst=some k){y:Operand}{args:Array Operand}{tys:Array TypeId}(heq:o.op=.call {callee:=.value y,args:=args,argTypes:=tys})
  (h:qt1 σ cs k y args.toList=some σ'){Q:Exit→Act→World→Prop}:o.wp uC a w (zl c w0 S0 d z σ') Q:=by
 unfold qt1 at h;split at h
 ·rename_i f x hy hx;split at h
  ·rename_i f' g T E hbw;obtain⟨hmem,hff⟩:=qnj hbw;have hff:f'=f:=hff;subst hff;split at h
   ·rename_i hE;obtain⟨te,hte⟩:=uW.1 hE;split at h
    ·rename_i xv own dep hr;injection h with h;subst h;have hb1:=hb.un (qg k);have hf1:=SF.un (q:=qg k) hb.inj hb.pa hf;obtain⟨x',hx1,hx2⟩:=uK.1 hr;have hcon:=q20 hte hx2 (qd hf1 hc hx1);obtain⟨te',A1,cap,hte',hd1,hev,h1,h2,h3,hE1⟩:=hcon.row;obtain⟨vs,hfv,hvs⟩:=qd hf1 hc hy;have hvs:vs=[]:=hvs;subst hvs;have hrun:(execOp a.eval o).run uC w=.ok (.enter f' #[a.eval x]) w:=by
      have hen:=qqj _ hmem #[a.eval x] w;have hargs:args= #[x]:=by
       apply vL;exact hx
      subst hargs;generalize a.eval=r at *;simp[execOp,heq,resolve,Deferred.ofValue,hfv,invoke,hen]
     unfold Oper.wp;rw[hrun]
     show Calls uC f' _ w _
     rw[hev];refine Calls.mono (qso _ hmem w A1 _ cap) ?_;rintro e w'⟨rfl,rfl⟩;rw[←hev]
     show zl c w0 S0 d z _ (a.put o.dst _) _
     rw[hdst];have hst:=qoe (A:=c.A) hb1.bd (.cells #[a.eval x] T);refine⟨unP (qg k) p,qtr hb1 _,?_,hd,by simp only[Act.put,uN];exact hz⟩;have hkeep:SF c (σ.un (qg k)) (unP (qg k) p) (w.alloc (.cells #[a.eval x] T)) a:=by
      refine⟨fun t' y hy=>?_,fun k' e he=>?_⟩
      ·obtain⟨v,h1,h2⟩:=hf1.t t' y hy;exact⟨v,h1,AV.kept hst y v (fun _ _=>⟨rfl,rfl⟩) (fun _ _=>rfl) h2⟩
      ·exact(hf1.m k' e he).kept hst (fun _ _=>⟨rfl,rfl⟩) ⟨rfl,rfl⟩
     have hsz:w0.heap.size≤w.heap.size:=hb.but.size;refine hkeep.put (t:=k) (by rw[hz];exact hk) ⟨[.pointer (some ⟨w.heap.size,0,none⟩)],rfl,_,[],rfl,⟨w.heap.size,a.eval x,(hb.new _ hsz).1,fun y hy=>?_,rfl,q0x rfl,[a.eval x],rfl,hcon.kept hst (fun _ _=>⟨rfl,rfl⟩) (fun _ _=>⟨rfl,rfl⟩)⟩,rfl⟩;have:=hb1.bd y _ hy;omega
    ·cases h
   ·cases h
  ·cases h
 ·cases h
end
end
section
def qzz(σ0:St)(cs:List (X×Bool))(k:Nat)(y:Operand)(args:List Operand):Option St:=none
section
variable{c:Cx}{p:qe}{w w0:World}{S0:Nat→Prop}{a:Act}{σ σ':St}{cs:List (X×Bool)}{o:Oper}{d:List Deferred}{z:Nat}
theorem qzi(hb:Bs c.A c.F w0 S0 p w)(hf:SF c σ p w a)(hc:hold c.v cs=true)(hd:a.defers=d)(hz:a.tmps.size=z){k:Nat}(hk:k<z)(hdst:o.dst=some k){y:Operand}{args:Array Operand}{tys:Array TypeId}(heq:o.op=.call {callee:=.value y,args:=args,argTypes:=tys})
  (h:qzz σ cs k y args.toList=some σ'){Q:Exit→Act→World→Prop}:o.wp uC a w (zl c w0 S0 d z σ') Q:=by cases h
end
end
section
def qwo(σ0:St)(cs:List (X×Bool))(k:Nat)(y:Operand)(args:List Operand):Option St:=none
section
variable{A:Bk}{F:Flr}{c:Cx}{p:qe}{w w0:World}{S0:Nat→Prop}{a:Act}{σ σ':St}{cs:List (X×Bool)}{o:Oper}{d:List Deferred}{z:Nat}
theorem qyg(hb:Bs c.A c.F w0 S0 p w)(hf:SF c σ p w a)(hc:hold c.v cs=true)(hd:a.defers=d)(hz:a.tmps.size=z){k:Nat}(hk:k<z)(hdst:o.dst=some k){y:Operand}{args:Array Operand}{tys:Array TypeId}(heq:o.op=.call {callee:=.value y,args:=args,argTypes:=tys})
  (hz0:∀te,c.F.mx te=0)(h:qwo σ cs k y args.toList=some σ'){Q:Exit→Act→World→Prop}:o.wp uC a w (zl c w0 S0 d z σ') Q:=by cases h
end
end
section
def z08(fl:Bool)(σ:St)(cs:List (X×Bool))(k:Nat)(y:Operand)(args:List Operand):Option (List X×St):=none
section
variable{c:Cx}{p:qe}{w w0:World}{S0:Nat→Prop}{a:Act}{σ σ':St}{cs:List (X×Bool)}{o:Oper}{d:List Deferred}{z:Nat}
theorem qzs(hb:Bs c.A c.F w0 S0 p w)(hf:SF c σ p w a)(hc:hold c.v cs=true)(hd:a.defers=d)(hz:a.tmps.size=z){k:Nat}(hk:k<z)(hdst:o.dst=some k){y:Operand}{args:Array Operand}{tys:Array TypeId}(heq:o.op=.call {callee:=.value y,args:=args,argTypes:=tys})
  {fl:Bool}(hfl:fl=true→∀te,c.F.mx te=0){ns:List X}(h:z08 fl σ cs k y args.toList=some (ns,σ'))(hn:∀n∈ns,n.says c.v){Q:Exit→Act→World→Prop}:o.wp uC a w (zl c w0 S0 d z σ') Q:=by cases h
end
end
section
namespace X
mutual
/-- Tokens below n alone. -/
def upto(n:Nat):X→Bool
 |.tok k=>kJ k n
 |.lit _=>true
 |.fld x _=>upto n x
 |.get x i=>upto n x&&upto n i
 |.len x=>upto n x
 |.slen x=>upto n x
 |.sget x i=>upto n x&&upto n i
 |.add x y=>upto n x&&upto n y
 |.sub x y=>upto n x&&upto n y
 |.mul x y=>upto n x&&upto n y
 |.lt x y=>upto n x&&upto n y
 |.le x y=>upto n x&&upto n y
 |.eq x y=>upto n x&&upto n y
 |.not x=>upto n x
 |.and x y=>upto n x&&upto n y
 |.or x y=>upto n x&&upto n y
 |.imp x y=>upto n x&&upto n y
 |.ite c x y=>upto n c&&(upto n x&&upto n y)
 |.mk l=>uptos n l
 |.row l=>uptos n l
 |.app x y=>upto n x&&upto n y
 |.cut x lo hi=>upto n x&&(upto n lo&&upto n hi)
 |.set x _ y=>upto n x&&upto n y
 |.put x i y=>upto n x&&(upto n i&&upto n y)
 |.rep k x=>upto n k&&upto n x
 |.rng _ x=>upto n x
 |.call _ _ l=>uptos n l
 |.ok _ l=>uptos n l
 |.fn _ l=>uptos n l
def uptos(n:Nat):List X→Bool
 |[]=>true
 |x::l=>upto n x&&uptos n l
end
section
variable{n:Nat}{e e':Ev}
mutual
theorem ev_upto(hE:∀k,k<n→e.E k=e'.E k)(hS:e.S=e'.S):∀(x:X),upto n x=true→x.ev e=x.ev e'
 |.tok k,h=>hE k (by simpa[upto,kB] using h)
 |.lit _,h=>rfl
 |.fld x _,h=>by simp only[upto] at h;simp only[ev,ev_upto hE hS x h]
 |.get x i,h=>by simp only[upto,gnB] at h;simp only[ev,ev_upto hE hS x h.1,ev_upto hE hS i h.2]
 |.len x,h=>by simp only[upto] at h;simp only[ev,ev_upto hE hS x h]
 |.slen x,h=>by simp only[upto] at h;simp only[ev,ev_upto hE hS x h]
 |.sget x i,h=>by simp only[upto,gnB] at h;simp only[ev,ev_upto hE hS x h.1,ev_upto hE hS i h.2]
 |.add x i,h=>by simp only[upto,gnB] at h;simp only[ev,ev_upto hE hS x h.1,ev_upto hE hS i h.2]
 |.sub x i,h=>by simp only[upto,gnB] at h;simp only[ev,ev_upto hE hS x h.1,ev_upto hE hS i h.2]
 |.mul x i,h=>by simp only[upto,gnB] at h;simp only[ev,ev_upto hE hS x h.1,ev_upto hE hS i h.2]
 |.lt x i,h=>by simp only[upto,gnB] at h;simp only[ev,ev_upto hE hS x h.1,ev_upto hE hS i h.2]
 |.le x i,h=>by simp only[upto,gnB] at h;simp only[ev,ev_upto hE hS x h.1,ev_upto hE hS i h.2]
 |.eq x i,h=>by simp only[upto,gnB] at h;simp only[ev,ev_upto hE hS x h.1,ev_upto hE hS i h.2]
 |.not x,h=>by simp only[upto] at h;simp only[ev,ev_upto hE hS x h]
 |.and x i,h=>by simp only[upto,gnB] at h;simp only[ev,ev_upto hE hS x h.1,ev_upto hE hS i h.2]
 |.or x i,h=>by simp only[upto,gnB] at h;simp only[ev,ev_upto hE hS x h.1,ev_upto hE hS i h.2]
 |.imp x i,h=>by simp only[upto,gnB] at h;simp only[ev,ev_upto hE hS x h.1,ev_upto hE hS i h.2]
 |.ite c x i,h=>by simp only[upto,gnB] at h;simp only[ev,ev_upto hE hS c h.1,ev_upto hE hS x h.2.1,ev_upto hE hS i h.2.2]
 |.mk l,h=>by simp only[upto] at h;simp only[ev,evs_upto hE hS l h]
 |.row l,h=>by simp only[upto] at h;simp only[ev,evs_upto hE hS l h]
 |.app x i,h=>by simp only[upto,gnB] at h;simp only[ev,ev_upto hE hS x h.1,ev_upto hE hS i h.2]
 |.cut c x i,h=>by simp only[upto,gnB] at h;simp only[ev,ev_upto hE hS c h.1,ev_upto hE hS x h.2.1,ev_upto hE hS i h.2.2]
 |.set x _ i,h=>by simp only[upto,gnB] at h;simp only[ev,ev_upto hE hS x h.1,ev_upto hE hS i h.2]
 |.put c x i,h=>by simp only[upto,gnB] at h;simp only[ev,ev_upto hE hS c h.1,ev_upto hE hS x h.2.1,ev_upto hE hS i h.2.2]
 |.rep x i,h=>by simp only[upto,gnB] at h;simp only[ev,ev_upto hE hS x h.1,ev_upto hE hS i h.2]
 |.rng _ x,h=>by simp only[upto] at h;simp only[ev,ev_upto hE hS x h]
 |.call _ _ l,h=>by simp only[upto] at h;simp only[ev,evs_upto hE hS l h,hS]
 |.ok _ l,h=>by simp only[upto] at h;simp only[ev,evs_upto hE hS l h,hS]
 |.fn _ l,h=>by simp only[upto] at h;simp only[ev,evs_upto hE hS l h]
theorem evs_upto(hE:∀k,k<n→e.E k=e'.E k)(hS:e.S=e'.S):∀(l:List X),uptos n l=true→X.evs e l=X.evs e' l
 |[],h=>rfl
 |x::l,h=>by simp only[uptos,gnB] at h;simp only[evs,ev_upto hE hS x h.1,evs_upto hE hS l h.2]
end
end
end X
def qvb(tbl:Tbl):Bool:=match tbl with
 |e::_=>(match e.1.rs with
  |[(.st 4242424242,_)]=>true
  |_=>false)
 |[]=>false
def q9n(S:Nat→List D→Option (List D))(x:X):X:=if X.upto 0 x then .lit (x.ev ⟨fun _=>.u,S⟩) else x
theorem q5x{e:Ev}(x:X):(q9n e.S x).ev e=x.ev e:=by
 unfold q9n;split
 ·rename_i h;exact X.ev_upto (n:=0) (e:=⟨fun _=>.u,e.S⟩) (e':=e) (fun k hk=>absurd hk (Nat.not_lt_zero _)) rfl x h
 ·rfl
theorem qjm{e:Ev}:∀(l:List X),X.evs e (l.map (q9n e.S))=X.evs e l
 |[]=>rfl
 |x::l=>by simp only[uF,X.evs,q5x,qjm l]
mutual
/-- Data without elements in slices or maps hangs on no block. -/
def noRow:D→Bool
 |.a l=>qly l
 |.r l=>l.isEmpty
 |.mp _=>false
 |_=>true
def qly:List D→Bool
 |[]=>true
 |d::l=>noRow d&&qly l
end
theorem Rd.noRow{w:World}{F F':Nat→Prop}(d:D):∀{t:Ty}{cs:List Value},Rd w F d t cs→noRow d=true→Rd w F' d t cs:=by
 induction d using D.ind with
 |hu=>intro t cs h _;exact h
 |hi n=>intro t cs h _;exact h
 |hb x=>intro t cs h _;exact h
 |hs x=>intro t cs h _;exact h
 | hr l ih =>
  intro t cs h hn;cases l with
  |nil=>
   obtain⟨E,te,A,cap,h1,h2,h3,h4,h5,h6,h7⟩:=h;exact⟨E,te,A,cap,h1,h2,h3,h4,h5,h6,by simp[RdE]⟩
  |cons x l=>simp[Go.Proofs.Ytokkfpalbpnpeaa.noRow] at hn
 |hm l ih=>intro t cs h hn;simp[Go.Proofs.Ytokkfpalbpnpeaa.noRow] at hn
 | ha l ih =>
  intro t cs h hn;obtain⟨T,fs,h1,h2,h3⟩:=h;refine⟨T,fs,h1,h2,?_⟩;rw[Go.Proofs.Ytokkfpalbpnpeaa.noRow] at hn;clear h2
  induction l generalizing fs cs with
  |nil=>exact h3
  |cons x l ihl=>
   rw[qly,gnB] at hn;obtain⟨t,ts,c1,c2,e1,e2,g1,g2⟩:=h3;exact⟨t,ts,c1,c2,e1,e2,ih x (by simp) g1 hn.1,ihl (fun d hd=>ih d (by simp[hd])) hn.2 _ g2⟩
def qwe:X→Ty→List (Nat×Nat)→List Nat→AV
 |.lit d,t,[],dep=>.v (.lit d) t [] (if noRow d then[] else dep)
 |x,t,own,dep=>.v x t own dep
theorem qqg{c:Cx}{p:qe}{w:World}{x:X}{t:Ty}{own:List (Nat×Nat)}{dep:List Nat}{v:Value}(h:(AV.v x t own dep).pd c p w v):(qwe x t own dep).pd c p w v:=by
 cases x with
 | lit d =>
  cases own with
  | nil =>
   show(AV.v (.lit d) t [] (if noRow d then[] else dep)).pd c p w v
   split
   ·rename_i hn;obtain⟨cs,hp,hc⟩:=h;exact⟨cs,hp,Con.of_rd (Rd.noRow (F:=FFD c.A p dep) _ (hc.rd (fun _ h=>h) (by simp)) hn)⟩
   ·exact h
  |cons _ _=>exact h
 |_=>exact h
mutual
def qor(S:Nat→List D→Option (List D)):AV→AV
 |.v x t own dep=>qwe (q9n S x) t own dep
 |.rd x t dep wr=>.rd (q9n S x) t dep wr
 |.tup l=>.tup (qq6 S l)
 |.gd c a=>.gd c (qor S a)
 |.nb x neg=>.nb (q9n S x) neg
 |.ar E xs dep=>.ar E (xs.map (q9n S)) dep
 |.ax k T n a=>.ax k T n (qor S a)
 |a=>a
def qq6(S:Nat→List D→Option (List D)):List AV→List AV
 |[]=>[]
 |a::l=>qor S a::qq6 S l
end
mutual
theorem q8q{c:Cx}{p:qe}{w:World}:∀(x:AV){v:Value},x.pd c p w v→(qor c.v.S x).pd c p w v
 |.v x t own dep,v,⟨cs,hp,hc⟩=>qqg ⟨cs,hp,by rw[q5x];exact hc⟩
 |.rd x t dep wr,v,⟨b,o,cs,e,hf,hr,h0,hd,hw⟩=>⟨b,o,cs,e,hf,hr,h0,by rw[q5x];exact hd,hw⟩
 |.tup l,v,⟨vs,e,h⟩=>⟨vs,e,qkg l h⟩
 |.gd cs a,v,h=>⟨fun hc=>q8q a (h.1 hc),h.2⟩
 |.nb x neg,v,⟨b,e,h⟩=>⟨b,e,by rw[q5x];exact h⟩
 |.ar E xs dep,v,⟨te,cs,e1,e2,h3,h⟩=>⟨te,cs,e1,e2,by rw[List.length_map];exact h3,by rw[qjm];exact h⟩
 |.ax k T n a,v,⟨g,u,hg,e,hh,hn,h⟩=>⟨g,u,hg,e,hh,hn,q8q a h⟩
 |.any,v,h=>h
 |.undef,v,h=>h
 |.nilS,v,h=>h
 |.nilP,v,h=>h
 |.ref _ _ _ _,v,h=>h
 |.fn _ _,v,h=>h
 |.bx _ _ _,v,h=>h
 |.fr _ _,v,h=>h
 |.ff _ _ _ _ _ _ _ _,v,h=>h
 |.sn _ _,v,h=>h
 |.pt _ _ _ _,v,h=>h
 |.wf _ _ _ _ _ _ _,v,h=>h
 |.el _ _ _ _,v,h=>h
 |.hd _ _ _,v,h=>h
 |.lv _ _,v,h=>h
theorem qkg{c:Cx}{p:qe}{w:World}:∀(l:List AV){vs:List Value},pds c p w l vs→pds c p w (qq6 c.v.S l) vs
 |[],vs,h=>h
 |a::l,vs,⟨v,r,e,h1,h2⟩=>⟨v,r,e,q8q a h1,qkg l h2⟩
end
def z02(S:Nat→List D→Option (List D))(e:Ent):Ent:=⟨q9n S e.x,e.t,e.own,e.dep⟩
def qxp(S:Nat→List D→Option (List D))(k:Option Nat)(σ:St):St:=⟨(match k with
 |some k=>(match lkA σ.t k with
  |some a=>zr σ.t k (qor S a)
  |none=>σ.t)
 |none=>σ.t),σ.m.map fun e=>(e.1,z02 S e.2)⟩
theorem qu3{c:Cx}{σ:St}{p:qe}{w:World}{a:Act}{k:Option Nat}(h:SF c σ p w a):SF c (qxp c.v.S k σ) p w a:=by
 refine⟨fun t x hx=>?_,fun j e he=>?_⟩
 ·unfold qxp at hx;simp only at hx;split at hx
  ·rename_i k;split at hx
   ·rename_i y hy;by_cases hkt:k=t
    ·subst hkt;rw[yd] at hx;injection hx with hx;subst hx;obtain⟨v,h1,h2⟩:=h.t k y hy;exact⟨v,h1,q8q y h2⟩
    ·rw[jn hkt] at hx;exact h.t t x hx
   ·exact h.t t x hx
  ·exact h.t t x hx
 ·obtain⟨y,hy,rfl⟩:=q08 (f:=z02 c.v.S) he;obtain⟨g,cs,T,hg,hh,hty,hcon⟩:=h.m j y hy;exact⟨g,cs,T,hg,hh,hty,by show Con c.A p w ((q9n c.v.S y.x).ev c.v) y.t y.own y.dep cs.toList;rw[q5x];exact hcon⟩
inductive Eff where
 |val(x:AV)
 |st(σ:St)
def sts(r:Option St):Option (List X×Eff):=match r with
 |some σ=>some ([],.st σ)
 |none=>none
def vals(r:Option (List X×AV)):Option (List X×Eff):=match r with
 |some (ns,x)=>some (ns,.val x)
 |none=>none
def stn(r:Option (List X×St)):Option (List X×Eff):=match r with
 |some (ns,σ)=>some (ns,.st σ)
 |none=>none
def qr0(tbl:Tbl)(σ:St)(cs:List (X×Bool))(y:Operand):List X:=match opd σ cs y with
 |some (.rd _ _ _ (some (_,i,_,_,te)))=>(match flX tbl te with
  |some b=>[leX b i]
  |none=>[])
 | some (.ref k _ _ _) => (match lkA σ.m k with
  |some e=>if nvB e.t then(match flX tbl e.t with
   |some b=>[leX b (.lit (.i 0))]
   |none=>[]) else[]
  |none=>[])
 |_=>[]
def qzc(ns:List X)(r:Option St):Option (List X×Eff):=match r with
 |some σ=>some (ns,.st σ)
 |none=>none
def qna(σ:St)(ks:List Nat):AV→AV
 |.ref k [] 0 t=>if qr ks k then(match lkA σ.m k with
  |some e=>if Ty.beq e.t t then .lv k t else .ref k [] 0 t
  |none=>.ref k [] 0 t) else .ref k [] 0 t
 |a=>a
def qsr(σ:St)(ks:List Nat):St:=⟨σ.t.map fun e=>(e.1,qna σ ks e.2),σ.m⟩
def qw8(σ σ':St):List Nat:=(σ.m.map (·.1)).filter fun k=>(lkA σ'.m k).isNone
def q8u(tbl:Tbl)(σ:St)(cs:List (X×Bool))(k:Nat)(y:Operand)(args:List Operand):Option (List X×St):=match qdp tbl σ cs k y args with
 | some (ns, σ') => (match qw8 σ σ' with
  |[]=>some (ns,σ')
  |ks=>(match qdp tbl (qsr σ ks) cs k y args with
   |some r=>some r
   |none=>some (ns,σ')))
 |none=>none
def qpz(pin:Nat):List (Nat×Ent)→Option X
  |[]=>none
  | (_, e) :: l => match e.t with
    | .st _ => (match e.own.find? (fun y => uD y.2 pin) with
      |some y=>some (.fld e.x y.1)
      |none=>qpz pin l)
    |_=>qpz pin l
def qvg(m:List (Nat×Ent)):AV→Option (X×AV)
 |.v x (.row E) [(0,pin)] dep=>(match qpz pin m with
  |some y=>if X.beq x y then none else some (.eq y x,.v y (.row E) [(0,pin)] dep)
  |none=>none)
 |_=>none
def qd1(m:List (Nat×Ent)):List (Nat×AV)→List X×List (Nat×AV)
  |[]=>([],[])
  | (t, a) :: l => match qvg m a with
    |some (n,a')=>(n::(qd1 m l).1,(t,a')::(qd1 m l).2)
    |none=>((qd1 m l).1,(t,a)::(qd1 m l).2)
def kpB(tbl:Tbl):Bool:=tbl.any fun e=> !e.1.kp.isEmpty
def qzh(tbl:Tbl)(r:List X×St):List X×St:=if kpB tbl then(r.1++(qd1 r.2.m r.2.t).1,⟨(qd1 r.2.m r.2.t).2,r.2.m⟩) else r
def qd6(own:List (Nat×Nat)):List (Nat×Nat):=own.filter fun y=>kJ y.1 2
def qmk(e:Ent):Ent:=⟨e.x,e.t,qd6 e.own,uni (e.own.map (·.2)) e.dep⟩
def qwf(σ:St)(ks:List Nat):St:=⟨σ.t,σ.m.map fun e=>(e.1,if qr ks e.1 then qmk e.2 else e.2)⟩
def z00(σ:St)(cs:List (X×Bool))(args:List Operand):List Nat:=args.filterMap fun y=>match opd σ cs y with
 |some (.ref k [] 0 _)=>some k
 |_=>none
def qdy(tbl:Tbl)(σ:St)(cs:List (X×Bool))(k:Nat)(y:Operand)(args:List Operand):Option (List X×St):=match q8u tbl σ cs k y args with
 |some r=>some r
 | none => if tbl.any (fun e => e.1.ar.any fun a => match a with
   |.ref _ o=>(match o.f with
    |some (_::_)=>true
    |_=>false)
   |_=>false) then q8u tbl (qwf σ (z00 σ cs args)) cs k y args else none
def qm8(tbl:Tbl)(σ:St)(cs:List (X×Bool))(k:Nat)(y:Operand)(args:List Operand):Option (List X×St):=(qdy tbl σ cs k y args).map (qzh tbl)
def qqa:AV→Option X
 |.v x (.row E) [] _=>if qds E then some x else none
 |.el _ _ _ (.v x (.row E) [] _)=>if qds E then some x else none
 |_=>none
def qsq(fb:Ty→Option X)(σ:St)(cs:List (X×Bool))(k:Nat)(T:TypeId)(x y:Operand):Option (List X×St):=match x with
 |.tmp tb=>(match(lkA σ.t tb).bind qqa with
  |some x'=>(qg8 fb ⟨zr σ.t tb .nilS,σ.m⟩ cs k T x y).map fun r=>(.eq x' (.lit .u)::r.1,r.2)
  |none=>none)
 |_=>none
def qpj(T:List (Nat×AV))(r:Nat)(i:X):List (Nat×AV)→Option AV
  |[]=>none
  | (s, _) :: l => match lkA T s with
    |some (.el (some I) r' i' a)=>if uD r' r&&X.beq i' i then some (.el (some I) r' i' a) else qpj T r i l
    |_=>qpj T r i l
def hdA(r:Nat):AV→AV
 |.v x (.row E) [(0,r')] dep=>if uD r' r then .hd r' E x else .v x (.row E) [(0,r')] dep
 |a=>a
def bkA(I:ElI)(r:Nat)(E:TypeId)(dp:List Nat):AV→AV
 |.hd r' E' x=>if uD r' r&&(uD E' E&&X.beq x (.fld I.x I.j)) then .v x (.row E') [(0,r')] dp else .hd r' E' x
 |a=>a
def qlb(σ:St)(tb:Nat):St:=match lkA σ.t tb with
 | some (.el (some I) r i (.v x2 (.row F) [] dep2)) => (match I.t with
  | .st S => (match flds S with
   |some fs=>(match fs[I.j]? with
    |some (.row E)=>if X.beq I.y x2&&qgo E (.row F) then⟨σ.t.map fun e=>(e.1,bkA I r E (uni I.dep dep2) e.2),zr σ.m I.k ⟨I.x,I.t,q0i I.own I.j (some r),uni I.dep dep2⟩⟩ else σ
    |_=>σ)
   |none=>σ)
  |_=>σ)
 |_=>σ
def qrb(fb:Ty→Option X)(σ:St)(cs:List (X×Bool))(k:Nat)(T:TypeId)(x y:Operand):Option (List X×St):=match x with
 | .tmp tb => (match lkA σ.t tb with
  |some (.el none r i _)=>(match qpj σ.t r i σ.t with
   |some a=>(qg8 fb ⟨zr (σ.t.map fun e=>(e.1,hdA r e.2)) tb a,σ.m⟩ cs k T x y).map fun s=>(s.1,qlb s.2 tb)
   |none=>none)
  |_=>none)
 |_=>none
def qlt(fb:Ty→Option X)(σ:St)(cs:List (X×Bool))(k:Nat)(T:TypeId)(x y:Operand):Option (List X×St):=match qrb fb σ cs k T x y with
 |some r=>some r
 |none=>qsq fb σ cs k T x y
def qm3(fb:Ty→Option X)(σ:St)(cs:List (X×Bool))(k:Nat)(T:TypeId)(x y:Operand):Option (List X×St):=match qg8 fb σ cs k T x y with
 | some (ns, σ') => (match qw8 σ σ' with
  |[]=>some (ns,σ')
  |ks=>(match qg8 fb (qsr σ ks) cs k T x y with
   |some r=>some r
   |none=>some (ns,σ')))
 |none=>qlt fb σ cs k T x y
def qo5(P:Program)(tbl:Tbl)(σ:St)(cs:List (X×Bool))(k:Nat)(o:Oper)(c:Call):Option (List X×Eff):=match c.callee with
 | .value y => (match qt1 σ cs k y c.args.toList with
  |some σ'=>some ([],.st σ')
  |none=>(match qzz σ cs k y c.args.toList with
  |some σ'=>some ([],.st σ')
  | none => (match (if (qi4 tbl).isEmpty then qwo σ cs k y c.args.toList else none) with
   |some σ'=>some ([],.st σ')
   |none=>(match z08 (qi4 tbl).isEmpty σ cs k y c.args.toList with
    |some r=>stn (some r)
    |none=>stn (qm8 tbl σ cs k y c.args.toList)))))
 |.builtin .append=>(match c.args.toList,c.argTypes.toList with
  |[x,y],[T,T']=>if uD T T' then stn (qm3 (flX tbl) σ cs k T x y) else stn (qle (flX tbl) σ cs k T T' x y)
  |_,_=>none)
 |_=>vals (quiet P σ cs o)
def spA:AV→AV
 |.v x t [] _=>if qm 8 t then .v x t [] [] else .any
 |.ref k path o t=>.ref k path o t
 |.sn t _=>.sn t .any
 |.nilS=>.nilS
 |.nilP=>.nilP
 |_=>.any
def qi1(tbl:Tbl)(σ:St)(cs:List (X×Bool))(T:TypeId)(y z:Operand):Option St:=if spB tbl&&(qi4 tbl).isEmpty then(match opd σ cs y with
 |some (.rd _ t [] none)=>if q5b T t then(match(opd σ cs z).bind (jq t) with
  |some _=>some ⟨σ.t.map fun e=>(e.1,spA e.2),[]⟩
  |none=>none) else none
 |_=>none) else none
def qdz(P:Program)(tbl:Tbl)(σ:St)(cs:List (X×Bool))(T:TypeId)(y z:Operand):Option St:=match qid P σ cs T y z with
 |some σ'=>some σ'
 |none=>qi1 tbl σ cs T y z
def qfr(P:Program)(tbl:Tbl)(σ:St)(cs:List (X×Bool))(o:Oper):Option (List X×Eff):=match o.dst with
 |none=>(match o.op with
  |.store T y x=>qzc (qr0 tbl σ cs y) (qdz P tbl σ cs T y x)
  |.mapUpdate T m k x=>sts (qh4 σ cs T m k x)
  |.insert T m k x=>sts (qh4 σ cs T m k x)
  |_=>none)
 | some k => match o.op with
  |.alloc T=>sts (qhq P σ k T)
  |.box T y=>sts (qs3 σ cs k T y)
  |.buildSlice T n ps=>sts (qrp σ cs k T n ps.toList)
  |.makeSlice T x y=>stn (qkr σ cs k T x y)
  |.makeMap T r=>sts (qqk σ cs k T r)
  | .build T ps => (match qib σ cs k T ps.toList with
   |some x=>some ([],.val x)
   |none=>(match qqw P σ cs T ps.toList with
    |some x=>some ([],.val x)
    |none=>none))
  |.call c=>qo5 P tbl σ cs k o c
  |_=>vals (quiet P σ cs o)
def qub:X→Bool
 |.lit d=>d.tt
 |_=>false
theorem qud{e:Ev}:∀{x:X},qub x=true→(x.ev e).tt=true:=fun{x}h=>by
 unfold qub at h;split at h
 ·exact h
 ·cases h
def z0m(tbl:Tbl)(k:Option Nat)(r:List X×Eff):List X×Eff:=if qvb tbl then((r.1.map (q9n (qx tbl))).filter fun x=> !qub x,match r.2 with
 |.val x=>.val (qor (qx tbl) x)
 |.st σ=>.st (qxp (qx tbl) k σ)) else r
def step(P:Program)(tbl:Tbl)(σ:St)(cs:List (X×Bool))(o:Oper):Option (List X×Eff):=(qfr P tbl σ cs o).map (z0m tbl o.dst)
def Eff.on(σ:St)(k:Option Nat):Eff→Option St
 |.val x=>(match k with
  |some k=>some ⟨zr σ.t k x,σ.m⟩
  |none=>none)
 |.st σ'=>some σ'
inductive Gd where
 |yes
 |no
 |ask(cs:List (X×Bool))
def qga(b:Bool)(cs:List (X×Bool)):AV→Option Gd
 |.v x .bool _ _=>(match x with
  |.lit (.b v)=>if v==b then some (match cs with|[]=>.yes|_=>.ask cs) else some .no
  |_=>some (.ask (cs++[(x,b)])))
 |.undef=>some .no
 |_=>none
def guardOf(ds:List (Option Tmp))(σ:St)(g:Nat)(b:Bool):Option Gd:=match(ds[g]?).join with
 |some t=>(match lkA σ.t t with
  |some (.gd cs a)=>qga b cs a
  |some a=>qga b [] a
  |none=>none)
 |none=>none
def qwg(σ:St):Option Nat→St
 |some k=>⟨zr σ.t k .undef,σ.m⟩
 |none=>σ
def under(σ:St)(k:Option Nat)(cs:List (X×Bool)):List X×Eff→Option (List X×St)
  | (ns, .val x) => (match k with
    |some k=>some (ns.map (qkf cs),⟨zr σ.t k (.gd cs x),σ.m⟩)
    |none=>none)
  |(ns,.st σ1)=>some (ns.map (qkf cs),merge cs k σ1 σ)
def qho(σ:St)(k:Option Nat):List X×Eff→Option (List X×St)
  | (ns, e) => match e.on σ k with
    |some σ'=>some (ns,σ')
    |none=>none
def stepG(P:Program)(tbl:Tbl)(ds:List (Option Tmp))(σ:St)(o:Oper):Option (List X×St):=match o.guard with
 |none=>(step P tbl σ [] o).bind (qho σ o.dst)
 |some (g,b)=>match guardOf ds σ g b with
  |some .yes=>(step P tbl σ [] o).bind (qho σ o.dst)
  |some .no=>some ([],qwg σ o.dst)
  |some (.ask cs)=>(step P tbl σ cs o).bind (under σ o.dst cs)
  |none=>none
def isVar:Op→Bool
 |.alloc _=>true
 |.box _ _=>true
 |_=>false
def q4q(lo z:Nat)(o:Oper):Bool:=match o.dst with
 |some k=>kJ k z&&(!isVar o.op||(kN lo k&&kJ k VB))
 |none=>true
section
variable{c:Cx}{p:qe}{w w0:World}{S0:Nat→Prop}{a:Act}{σ σ':St}{cs:List (X×Bool)}{o:Oper}{d:List Deferred}{z:Nat}{tbl:Tbl}
def qhh(c:Cx)(w0:World)(S0:Nat→Prop)(d:List Deferred)(z:Nat)(σ:St)(p:qe)(w:World)(a:Act)(k:Option Nat):Eff→Act→World→Prop
 |.val x,a',w'=>w'=w∧∃v,a'=a.put k v∧x.pd c p w v
 |.st σ',a',w'=>zl c w0 S0 d z σ' a' w'
theorem HS.fb(hS:HS c tbl):qpd c (flX tbl):=fun te=>by
 have h:=hS.f te;unfold flM at h;unfold flX;split
 ·rename_i b hb;obtain⟨n,hn,rfl⟩:=uL.1 hb;rw[hn] at h
  show c.F.mx te≤(((c.v.S n []).getD []).getD 0 .u).int.toNat
  rw[hS.s];exact h
 ·rename_i hb;have hb:flI te 0 tbl=none:=by simpa using hb
  rw[hb] at h;exact Nat.le_zero.1 h
theorem qvj(hS:HS c tbl){y:Operand}{xx:X}{t:Ty}{dep:List Nat}{pin:Nat}{i:X}{path:List Nat}{q:Nat}{te:Ty}(hy:opd σ cs y=some (.rd xx t dep (some (pin,i,path,q,te))))(hn:∀n∈qr0 tbl σ cs y,n.says c.v):c.F.mx te≤(i.ev c.v).int.toNat:=by
 have h:=hS.fb te;unfold qr0 at hn;rw[hy] at hn;simp only at hn;split at hn
 ·rename_i b hb;rw[hb] at h;have h2:=zq (hn _ uB);have h1:c.F.mx te≤(b.ev c.v).int.toNat:=h;omega
 ·rename_i hb;rw[hb] at h;have h1:c.F.mx te=0:=h;omega
theorem qve(hS:HS c tbl){y:Operand}{k:Nat}{path:List Nat}{q:Nat}{t:Ty}{e:Ent}(hy:opd σ cs y=some (.ref k path q t))(he:lkA σ.m k=some e)(hv:nvB e.t=true)(hn:∀n∈qr0 tbl σ cs y,n.says c.v):c.F.mx e.t=0:=by
 have h:=hS.fb e.t;unfold qr0 at hn;rw[hy] at hn;simp only[he,hv,if_true] at hn;split at hn
 ·rename_i b hb;rw[hb] at h;have h2:=zq (hn _ uB);have h1:c.F.mx e.t≤(b.ev c.v).int.toNat:=h;have h3:((X.lit (.i 0)).ev c.v).int=0:=rfl;omega
 ·rename_i hb;rw[hb] at h;exact h
theorem q8a{x:AV}(h:q1b o a c p w x){Q:Exit→Act→World→Prop}{σ0:St}:o.wp uC a w (qhh c w0 S0 d z σ0 p w a o.dst (.val x)) Q:=by
 obtain⟨v,hr,hv⟩:=h;unfold Oper.wp;rw[hr];exact⟨rfl,v,rfl,hv⟩
theorem qpq(hf:SF c σ p w a){ks:List Nat}:∀(x:AV){v:Value},x.pd c p w v→(qna σ ks x).pd c p w v:=fun x v h=>by
 unfold qna;split
 ·rename_i k t;split
  ·split
   ·rename_i e he;split
    ·rename_i ht;rw[Ty.beq_iff] at ht;obtain⟨g,cs,T,hg,hh,hty,hcon⟩:=hf.m k e he;obtain⟨g',hg',e',hat⟩:=h;obtain rfl:=gnI (hg.symm.trans hg');refine⟨g,cs,T,⟨hg,hat⟩,e',hh,ht▸hty,?_⟩;rw[←Array.length_toList,hcon.len.1,ht]
    ·exact h
   ·exact h
  ·exact h
 ·exact h
theorem qjy(hf:SF c σ p w a)(ks:List Nat):SF c (qsr σ ks) p w a:=by
 refine⟨fun t x hx=>?_,hf.m⟩;obtain⟨y,hy,rfl⟩:=q08 (f:=qna σ ks) hx;obtain⟨u,h1,h2⟩:=hf.t t y hy;exact⟨u,h1,qpq hf y h2⟩
theorem qgl(htb:ym tbl)(hS:HS c tbl)(hb:Bs c.A c.F w0 S0 p w)(hf:SF c σ p w a)(hc:hold c.v cs=true)(hd:a.defers=d)(hz:a.tmps.size=z){k:Nat}(hk:k<z)(hdst:o.dst=some k){y:Operand}{args:Array Operand}{tys:Array TypeId}(heq:o.op=.call {callee:=.value y,args:=args,argTypes:=tys})
  {ns:List X}{σ':St}(h:q8u tbl σ cs k y args.toList=some (ns,σ'))(hn:∀n∈ns,n.says c.v){Q:Exit→Act→World→Prop}(hQ:q7j tbl w0 S0 d Q):o.wp uC a w (zl c w0 S0 d z σ') Q:=by
 unfold q8u at h;split at h
 ·rename_i ns1 σ1 h1;split at h
  ·simp only[gnS] at h;obtain⟨rfl,rfl⟩:=h;exact qi8 htb hS hb hf hc hd hz hk hdst heq h1 hn hQ
  ·split at h
   ·rename_i r h2;simp only[uH] at h;subst h;exact qi8 htb hS hb (qjy hf _) hc hd hz hk hdst heq h2 hn hQ
   ·simp only[gnS] at h;obtain⟨rfl,rfl⟩:=h;exact qi8 htb hS hb hf hc hd hz hk hdst heq h1 hn hQ
 ·cases h
theorem qs8{own:List (Nat×Nat)}{j:Nat}:lkA (qd6 own) j=if kJ j 2 then lkA own j else none:=by
 induction own with
 |nil=>simp[qd6,lkA]
 | cons e l ih =>
  obtain⟨i,q⟩:=e;have ih':lkA (l.filter fun y=>kJ y.1 2) j=if kJ j 2 then lkA l j else none:=ih;unfold qd6;by_cases hi:kJ i 2=true
  ·rw[List.filter_cons_of_pos (by simpa using hi)];by_cases hj:i=j
   ·subst hj;rw[qa,qa,if_pos hi]
   ·rw[qb hj,qb hj];exact ih'
  ·rw[List.filter_cons_of_neg (by simpa using hi)];by_cases hj:i=j
   ·subst hj;rw[ih',if_neg hi,if_neg hi]
   ·rw[qb hj];exact ih'
theorem Fl.weak{A:Bk}{p:qe}{w:World}{dep dep':List Nat}{own:List (Nat×Nat)}(hd:∀x∈dep,x∈dep')(hp:∀x∈own.map (·.2),x∈dep'){j:Nat}{d:D}{t:Ty}{cs:List Value}(h:Fl A p w dep (lkA own j) d t cs):Fl A p w dep' (lkA (qd6 own) j) d t cs:=by
 rw[qs8];split
 ·exact h.mono hd
 ·exact h.rd hd fun x hx=>hp x (q18 hx)
theorem Fls.weak{A:Bk}{p:qe}{w:World}{dep dep':List Nat}{own:List (Nat×Nat)}(hd:∀x∈dep,x∈dep')(hp:∀x∈own.map (·.2),x∈dep'):∀{ds:List D}{j:Nat}{fs:List Ty}{cs:List Value},Fls A p w dep own j ds fs cs→Fls A p w dep' (qd6 own) j ds fs cs
 |[],_,_,_,h=>h
 |d::ds,j,fs,cs,⟨t,ts,c1,c2,e1,e2,h1,h2⟩=>⟨t,ts,c1,c2,e1,e2,h1.weak hd hp,Fls.weak hd hp h2⟩
theorem Con.weak{A:Bk}{p:qe}{w:World}{dep dep':List Nat}{own:List (Nat×Nat)}(hd:∀x∈dep,x∈dep')(hp:∀x∈own.map (·.2),x∈dep'){d:D}{t:Ty}{cs:List Value}(h:Con A p w d t own dep cs):Con A p w d t (qd6 own) dep' cs:=by
 unfold Con at h⊢;split at h
 ·obtain⟨fs,ds,hf,e,h⟩:=h;exact⟨fs,ds,hf,e,h.weak hd hp⟩
 ·exact Fl.weak hd hp h
theorem qq9(hf:SF c σ p w a)(ks:List Nat):SF c (qwf σ ks) p w a:=by
 refine⟨hf.t,fun k e he=>?_⟩;obtain⟨e0,h0,rfl⟩:∃e0,lkA σ.m k=some e0∧e=if qr ks k then qmk e0 else e0:=by
  have:∀l:List (Nat×Ent),lkA (l.map fun e=>(e.1,if qr ks e.1 then qmk e.2 else e.2)) k=some e→∃e0,lkA l k=some e0∧e=if qr ks k then qmk e0 else e0:=by
   intro l
   induction l with
   |nil=>intro h;cases h
   | cons x l ih =>
    obtain⟨i,y⟩:=x;intro h;rw[uF] at h;by_cases hi:i=k
    ·subst hi;rw[qa] at h;injection h with h;exact⟨y,qa,h.symm⟩
    ·rw[qb hi] at h;rw[qb hi];exact ih h
  exact this _ he
 split
 ·obtain⟨g,cur,T',h1,h2,h3,h4⟩:=hf.m k e0 h0;exact⟨g,cur,T',h1,h2,h3,h4.weak (fun x hx=>jo hx) (fun x hx=>yh hx)⟩
 ·exact hf.m k e0 h0
theorem qgc(htb:ym tbl)(hS:HS c tbl)(hb:Bs c.A c.F w0 S0 p w)(hf:SF c σ p w a)(hc:hold c.v cs=true)(hd:a.defers=d)(hz:a.tmps.size=z){k:Nat}(hk:k<z)(hdst:o.dst=some k){y:Operand}{args:Array Operand}{tys:Array TypeId}(heq:o.op=.call {callee:=.value y,args:=args,argTypes:=tys})
  {ns:List X}{σ':St}(h:qdy tbl σ cs k y args.toList=some (ns,σ'))(hn:∀n∈ns,n.says c.v){Q:Exit→Act→World→Prop}(hQ:q7j tbl w0 S0 d Q):o.wp uC a w (zl c w0 S0 d z σ') Q:=by
 unfold qdy at h;split at h
 ·rename_i r h1;simp only[uH] at h;subst h;exact qgl htb hS hb hf hc hd hz hk hdst heq h1 hn hQ
 ·split at h
  ·exact qgl htb hS hb (qq9 hf _) hc hd hz hk hdst heq h hn hQ
  ·cases h
theorem qh0{m:List (Nat×Ent)}:∀{l:List (Nat×AV)}{t:Nat}{x:AV},lkA (qd1 m l).2 t=some x→∃y,lkA l t=some y∧(x=y∨∃n,qvg m y=some (n,x)∧n∈(qd1 m l).1)
  |[],t,x,h=>by cases h
  | (j, a) :: l, t, x, h => by
    unfold qd1 at h⊢;split at h
    · rename_i n a' ha;by_cases hj:j=t
      · subst hj;rw[qa] at h;injection h with h;subst h;exact⟨a,qa,.inr ⟨n,ha,by simp[ha]⟩⟩
      · rw[qb hj] at h;obtain⟨y,h1,h2⟩:=qh0 h;refine⟨y,by rw[qb hj];exact h1,h2.imp id fun⟨n',h3,h4⟩=>⟨n',h3,by simp[ha,h4]⟩⟩
    · rename_i ha;by_cases hj:j=t
      · subst hj;rw[qa] at h;injection h with h;subst h;exact⟨a,qa,.inl rfl⟩
      · rw[qb hj] at h;obtain⟨y,h1,h2⟩:=qh0 h;exact⟨y,by rw[qb hj];exact h1,h2.imp id fun⟨n',h3,h4⟩=>⟨n',h3,by simp[ha,h4]⟩⟩
theorem qv9{m:List (Nat×Ent)}{x y:AV}{n:X}(h:qvg m y=some (n,x))(hn:n.says c.v){v:Value}(hv:y.pd c p w v):x.pd c p w v:=by
 unfold qvg at h;split at h
 ·split at h
  ·rename_i y' _;split at h
   ·cases h
   ·simp only[gnS] at h;obtain⟨rfl,rfl⟩:=h;obtain⟨cs,h1,h2⟩:=hv;refine⟨cs,h1,?_⟩;have:y'.ev c.v=_:=of_decide_eq_true (show decide _=true from hn);rw[this];exact h2
  ·cases h
 ·cases h
theorem qxb(hf:SF c σ p w a)(hn:∀n∈(qd1 σ.m σ.t).1,n.says c.v):SF c ⟨(qd1 σ.m σ.t).2,σ.m⟩ p w a:=by
 refine⟨fun t x hx=>?_,hf.m⟩;obtain⟨y,h1,h2⟩:=qh0 hx;obtain⟨v,h3,h4⟩:=hf.t t y h1;rcases h2 with rfl|⟨n,h5,h6⟩
 ·exact⟨v,h3,h4⟩
 ·exact⟨v,h3,qv9 h5 (hn n h6) h4⟩
theorem qt2(htb:ym tbl)(hS:HS c tbl)(hb:Bs c.A c.F w0 S0 p w)(hf:SF c σ p w a)(hc:hold c.v cs=true)(hd:a.defers=d)(hz:a.tmps.size=z){k:Nat}(hk:k<z)(hdst:o.dst=some k){y:Operand}{args:Array Operand}{tys:Array TypeId}(heq:o.op=.call {callee:=.value y,args:=args,argTypes:=tys})
  {ns:List X}{σ':St}(h:qm8 tbl σ cs k y args.toList=some (ns,σ'))(hn:∀n∈ns,n.says c.v){Q:Exit→Act→World→Prop}(hQ:q7j tbl w0 S0 d Q):o.wp uC a w (zl c w0 S0 d z σ') Q:=by
 obtain⟨⟨ns1,σ1⟩,h1,h2⟩:=uL.1 h;unfold qzh at h2;split at h2
 ·simp only[uR] at h2;obtain⟨rfl,rfl⟩:=h2;refine Oper.wp_mono ?_ (qgc htb hS hb hf hc hd hz hk hdst heq h1 (fun n hm=>hn n (uG _ hm)) hQ);rintro a' w'⟨p',hb',hf',hd',hz'⟩;exact⟨p',hb',qxb hf' fun n hm=>hn n (uE _ hm),hd',hz'⟩
 ·simp only[uR] at h2;obtain⟨rfl,rfl⟩:=h2;exact qgc htb hS hb hf hc hd hz hk hdst heq h1 hn hQ
theorem SF.putT(hf:SF c σ p w a){t:Nat}{x:AV}{v:Value}(hv:a.tmps[t]? =some v)(hx:x.pd c p w v):SF c ⟨zr σ.t t x,σ.m⟩ p w a:=by
 refine⟨fun s y hs=>?_,hf.m⟩;by_cases hst:t=s
 ·subst hst;have hs':lkA (zr σ.t t x) t=some y:=hs;rw[yd] at hs';injection hs' with hs';subst hs';exact⟨v,hv,hx⟩
 ·have hs':lkA (zr σ.t t x) s=some y:=hs;rw[jn hst] at hs';exact hf.t s y hs'
theorem qpl{y:AV}{x:X}{v:Value}(h:qqa y=some x)(hy:y.pd c p w v)(hu:x.ev c.v=.u):v=.slice none 0 0:=by
 have key:∀{E:TypeId}{dep:List Nat},AV.pd c p w (.v x (.row E) [] dep) v→v=.slice none 0 0:=fun{E dep}h=>by
  obtain⟨vs,hp,hc⟩:=h;have hvs:vs=[v]:=hp;subst hvs;have hc':Rd w (FFD c.A p dep) (x.ev c.v) (.row E) [v]:=hc;rw[hu] at hc';obtain⟨E',te,-,-,-,e⟩:=hc';injection e
 unfold qqa at h;split at h
 ·split at h
  ·injection h with h;subst h;exact key hy
  ·cases h
 ·split at h
  ·injection h with h;subst h;exact key hy.2
  ·cases h
 ·cases h
theorem qgz{T:List (Nat×AV)}{r:Nat}{i:X}{y:AV}:∀{l:List (Nat×AV)},qpj T r i l=some y→∃t I b,lkA T t=some (.el (some I) r i b)∧y=.el (some I) r i b
  |[],h=>by cases h
  | (s, _) :: l, h => by
    unfold qpj at h;split at h
    · rename_i I r' i' b hs;split at h
      · rename_i hok;simp only[gnB] at hok;obtain rfl:=gnN hok.1;obtain rfl:=X.beq_ok _ _ hok.2;injection h with h;exact⟨s,I,b,hs,h.symm⟩
      · exact qgz h
    · exact qgz h
theorem qxg{r:Nat}{y:AV}{v:Value}(hy:y.pd c p w v):(hdA r y).pd c p w v:=by
 unfold hdA;split
 ·rename_i x E r' dep;split
  ·obtain⟨vs,hp,hc⟩:=hy;have hvs:vs=[v]:=hp;subst hvs;have hc':Fl c.A p w dep (some r') (x.ev c.v) (.row E) [v]:=hc;rcases hc'.symm with⟨K,V,kt,vt,lm,gm,es,clock,em,-⟩|⟨E1,te1,l,v1,r1,r2,r3,r4,r5⟩
   ·cases em
   injection r1 with r1;injection r4 with r4;subst r1 r4;refine⟨te1,l,r2,r3,?_⟩;rcases r5 with h|⟨g,cap,cur,e1,e2,e3,e4,e5,e6,e7,-⟩
   ·exact .inl h
   ·exact .inr ⟨g,cap,cur,e1,e2,e3,e4,e5,e6,e7⟩
  ·exact hy
 ·exact hy
theorem qot{r:Nat}{i:X}{I:ElI}{E F:TypeId}{l:List D}{v v1:Value}{x2:X}{dep2:List Nat}(hlc:ql4 c p w r i v)(hte:qc E=some (.row F))(hhd:HdR p w r E (.row F) l v1)(hy:∀d,l[(i.ev c.v).int.toNat]? =some d→d=x2.ev c.v)(hx:Rd w (FFD c.A p dep2) (x2.ev c.v) (.row F) [v])
  (hoth:∀n(h:n<l.length),n≠(i.ev c.v).int.toNat→∃g1 vs,p r=some g1∧w.rangeAt g1 (n * (Ty.row F).w) vs∧Rd w (FFD c.A p I.dep) l[n] (.row F) vs):qbj c.A p w (uni I.dep dep2) r E (.row F) l v1:=by
 rcases hhd with h|⟨g,cap,cur,e1,e2,e3,e4,e5,e6,e7⟩
 ·exact .inl h
 ·refine .inr ⟨g,cap,cur,e1,e2,e3,e4,e5,e6,e7,fun n hn=>?_⟩;by_cases hni:n=(i.ev c.v).int.toNat
  ·subst hni;obtain⟨g',cur',E',te',q1,q2,q3,q4,q5⟩:=hlc;obtain rfl:=gnI (q1.symm.trans e2);rw[e3] at q2;injection q2 with q2;injection q2 with q2 _;subst q2;refine⟨[v],fun j u hj=>?_,?_⟩
   ·cases j with
    |zero=>
     simp only[uY,uH] at hj;subst hj;rw[cell_of_row w g' _ cur E (0,0) e3];simpa[Ty.w] using q5
    |succ j=>simp at hj
   ·rw[hy _ (gnK hn)];exact hx.mono fun b _ hb=>hb.mono fun y hy=>jo hy
  ·obtain⟨g1,vs,q1,q2,q3⟩:=hoth n hn hni;obtain rfl:=gnI (q1.symm.trans e2);exact⟨vs,q2,q3.mono fun b _ hb=>hb.mono fun y hy=>yh hy⟩
theorem qp1(hf:SF c σ p w a)(tb:Nat):SF c (qlb σ tb) p w a:=by
 unfold qlb;split
 ·rename_i I r i x2 F dep2 hI;split
  ·rename_i S hS;split
   ·rename_i fs hfs;split
    ·rename_i E hfj;split
     ·rename_i hok;simp only[gnB] at hok;obtain⟨hyx,hEF⟩:=hok;have hyx:=X.beq_ok _ _ hyx;have hte:=q7p hEF;obtain⟨v,hv1,⟨hlc,hel⟩,vs,hp,hc⟩:=hf.t tb _ hI;have hvs:vs=[v]:=hp;subst hvs;have hx:Rd w (FFD c.A p dep2) (x2.ev c.v) (.row F) [v]:=hc;obtain⟨g,cs,T,S',fs',ds,E',te,l,v1,q1,q2,q3,q4,q5,q6,q7,q8,q9,q10,q11,q12,q13,q14⟩:=(show qfd c p w r i I from hel);rw[hS] at q4;injection q4 with q4;subst q4;obtain rfl:=gnI (q5.symm.trans hfs);rw[hfj] at q8;injection q8 with q8;injection q8 with q8;subst q8;obtain rfl:=gnI (q9.symm.trans hte);have hy:∀d,l[(i.ev c.v).int.toNat]? =some d→d=x2.ev c.v:=fun d hd=>by rw[q13 d hd,hyx]
      have hown:∀v',HdR p w r E (.row F) l v'→qbj c.A p w (uni I.dep dep2) r E (.row F) l v':=fun v' h'=>qot hlc hte h' hy hx q14;have hE:ju c p w I.k ⟨I.x,I.t,q0i I.own I.j (some r),uni I.dep dep2⟩:=by
       refine⟨g,cs,T,q1,q2,q3,?_⟩
       show Con c.A p w (I.x.ev c.v) I.t _ _ _
       rw[hS];obtain⟨c0,c1,c2,s1,s2,s3,s4⟩:=q1r.set (own':=q0i I.own I.j (some r)) (dep2:=uni I.dep dep2) (d:=.r l) (c:=[v1]) (fun x hx=>yh hx) (by rw[kP];exact q7) hfj (by rw[kP,jm,if_pos rfl];exact .inl ⟨E,.row F,l,v1,rfl,hte,rfl,rfl,hown v1 q12⟩) (fun n hn=>by rw[kP] at hn;rw[jm,if_neg hn]);have hds:ds.set I.j (.r l)=ds:=by
        apply List.ext_getElem?;intro n;rw[List.getElem?_set];split
        ·rename_i hn;subst hn;split
         ·exact q10.symm
         ·rename_i hlt;rw[List.getElem?_eq_none (by omega)] at q10;cases q10
        ·rfl
       have hc1:c1=[v1]:=by
        rw[s1,←s2,List.getElem?_append_right (kU _),vK] at q11
        match c1,s3 with
        |[u],_=>
         simp only[kM,List.nil_append,uY,uH] at q11;rw[q11]
       refine⟨fs',ds,hfs,q6,?_⟩;rw[hds,←hc1,←s1] at s4;exact s4
      refine⟨fun t y ht=>?_,fun k e hk=>?_⟩
      ·obtain⟨y0,hy0,rfl⟩:=q08 (f:=bkA I r E (uni I.dep dep2)) ht;obtain⟨u,hu1,hu2⟩:=hf.t t y0 hy0;refine⟨u,hu1,?_⟩;unfold bkA;split
       ·rename_i r' E' x';split
        ·rename_i hok2;simp only[gnB] at hok2;obtain⟨h1,h2,h3⟩:=hok2;obtain rfl:=gnN h1;obtain rfl:=gnN h2;obtain rfl:=X.beq_ok _ _ h3;obtain⟨te',l',z1,z2,z3⟩:=(show qs1 c p w r' E' _ u from hu2);obtain rfl:=gnI (z1.symm.trans hte);have hl:l'=l:=by
          have:(X.fld I.x I.j).ev c.v=.r l:=by
           show(I.x.ev c.v).fld I.j=_
           rw[q6]
           show(D.a ds).fs.getD I.j .u=_
           simp only[D.fs,gnG,q10,Option.getD_some]
          rw[this] at z2;injection z2 with z2;exact z2.symm
         subst hl;exact⟨[u],rfl,.inl ⟨E',.row F,l',u,rfl,hte,z2,rfl,hown u z3⟩⟩
        ·exact hu2
       ·exact hu2
      ·by_cases hkk:I.k=k
       ·subst hkk;have hk':lkA (zr σ.m I.k _) I.k=some e:=hk;rw[yd] at hk';injection hk' with hk';subst hk';exact hE
       ·have hk':lkA (zr σ.m I.k _) k=some e:=hk;rw[jn hkk] at hk';exact hf.m k e hk'
     ·exact hf
    ·exact hf
   ·exact hf
  ·exact hf
 ·exact hf
theorem qw0(hb:Bs c.A c.F w0 S0 p w)(hf:SF c σ p w a)(hc:hold c.v cs=true)(hd:a.defers=d)(hz:a.tmps.size=z){k:Nat}(hk:k<z)(hdst:o.dst=some k){T:TypeId}{x y:Operand}(heq:o.op=.call {callee:=.builtin .append,args:= #[x,y],argTypes:= #[T,T]})
  {ns:List X}{σ':St}{fb:Ty→Option X}(hF:qpd c fb)(h:qlt fb σ cs k T x y=some (ns,σ'))(hn:∀n∈ns,n.says c.v){Q:Exit→Act→World→Prop}:o.wp uC a w (zl c w0 S0 d z σ') Q:=by
 unfold qlt at h;split at h
 ·rename_i s hE;injection h with h;subst h;unfold qrb at hE;split at hE
  ·rename_i tb;split at hE
   ·rename_i r i b htb;split at hE
    ·rename_i y1 hy1;obtain⟨⟨ns1,σ1⟩,h1,h2⟩:=uL.1 hE;simp only[uR] at h2;obtain⟨rfl,rfl⟩:=h2;obtain⟨t1,I,b1,hI,rfl⟩:=qgz hy1;obtain⟨v,hv1,⟨hlc,-⟩,-⟩:=hf.t tb _ htb;obtain⟨v',hv2,⟨hlc2,hel⟩,hb1⟩:=hf.t t1 _ hI;obtain rfl:v'=v:=by
      obtain⟨g,cur,E,te,q1,q2,-,-,q5⟩:=hlc;obtain⟨g',cur',E',te',r1,r2,-,-,r5⟩:=hlc2;obtain rfl:=gnI (r1.symm.trans q1);rw[r2] at q2;injection q2 with q2;injection q2 with q2 _;subst q2;exact gnI (r5.symm.trans q5)
     have hf1:SF c ⟨σ.t.map fun e=>(e.1,hdA r e.2),σ.m⟩ p w a:=⟨fun t y ht=>by
      obtain⟨y0,hy0,rfl⟩:=q08 (f:=hdA r) ht;obtain⟨u,hu1,hu2⟩:=hf.t t y0 hy0;exact⟨u,hu1,qxg hu2⟩,hf.m⟩
     have hf2:=hf1.putT (x:=.el (some I) r i b1) hv1 ⟨⟨hlc2,hel⟩,hb1⟩;refine Oper.wp_mono ?_ (qco hb hf2 hc hd hz hk hdst heq hF h1 hn);rintro a' w'⟨p',hb',hf',hd',hz'⟩;exact⟨p',hb',qp1 hf' tb,hd',hz'⟩
    ·cases hE
   ·cases hE
  ·cases hE
 ·unfold qsq at h;split at h
  ·rename_i tb _;split at h
   ·rename_i x' hx';obtain⟨y0,hy0,hy1⟩:=uK.1 hx';obtain⟨⟨ns1,σ1⟩,h1,h2⟩:=uL.1 h;simp only[uR] at h2;obtain⟨rfl,rfl⟩:=h2;obtain⟨v,hv1,hv2⟩:=hf.t tb _ hy0;have hu:x'.ev c.v=.u:=by
     have:=hn _ uB;have h2:(decide (x'.ev c.v=.u))=true:=this;exact of_decide_eq_true h2
    have hvn:=qpl hy1 hv2 hu;have hf2:=hf.putT (x:=.nilS) hv1 hvn;exact qco hb hf2 hc hd hz hk hdst heq hF h1 (fun n hm=>hn n (uA _ hm))
   ·cases h
  ·cases h
theorem quz(hb:Bs c.A c.F w0 S0 p w)(hf:SF c σ p w a)(hc:hold c.v cs=true)(hd:a.defers=d)(hz:a.tmps.size=z){k:Nat}(hk:k<z)(hdst:o.dst=some k){T:TypeId}{x y:Operand}(heq:o.op=.call {callee:=.builtin .append,args:= #[x,y],argTypes:= #[T,T]})
  {ns:List X}{σ':St}{fb:Ty→Option X}(hF:qpd c fb)(h:qm3 fb σ cs k T x y=some (ns,σ'))(hn:∀n∈ns,n.says c.v){Q:Exit→Act→World→Prop}:o.wp uC a w (zl c w0 S0 d z σ') Q:=by
 unfold qm3 at h;split at h
 ·rename_i ns1 σ1 h1;split at h
  ·simp only[gnS] at h;obtain⟨rfl,rfl⟩:=h;exact qco hb hf hc hd hz hk hdst heq hF h1 hn
  ·split at h
   ·rename_i r h2;simp only[uH] at h;subst h;exact qco hb (qjy hf _) hc hd hz hk hdst heq hF h2 hn
   ·simp only[gnS] at h;obtain⟨rfl,rfl⟩:=h;exact qco hb hf hc hd hz hk hdst heq hF h1 hn
 ·exact qw0 hb hf hc hd hz hk hdst heq hF h hn
theorem qx7{w':World}{v:Value}:∀{x:AV},x.pd c p w v→(spA x).pd c p w' v:=fun{x}h=>by
 unfold spA;split
 ·split
  ·rename_i hfl;obtain⟨cs,h1,h2⟩:=h;exact⟨cs,h1,Con.of_rd (Rd.flat 8 _ hfl (h2.rd (dep':=_) (fun x hx=>hx) (fun x hx=>by cases hx)))⟩
  ·trivial
 ·exact h
 ·exact⟨h.1,trivial⟩
 ·exact h
 ·exact h
 ·trivial
theorem qst(hS:HS c tbl)(hb:Bs c.A c.F w0 S0 p w)(hf:SF c σ p w a)(hc:hold c.v cs=true)(hd:a.defers=d)(hz:a.tmps.size=z){T:TypeId}{y x:Operand}(h:qi1 tbl σ cs T y x=some σ'):
  ∃w',(Instr.storeAt T (a.eval y) (a.eval x)).run uC w=.ok () w'∧zl c w0 S0 d z σ' a w':=by
 unfold qi1 at h;split at h
 ·rename_i hk;simp only[gnB,uX] at hk;obtain⟨hk1,hk2⟩:=hk;have hF0:∀te,c.F.mx te=0:=fun te=>hS.zero (by rw[hk2];simp);split at h
  ·rename_i xx t hy;obtain⟨b,ob,vo,hev,hFb,hr,h0,hrd,-⟩:=qd hf hc hy;split at h
   ·rename_i hT;split at h
    ·rename_i r hx;obtain⟨y',hx1,hx2⟩:=uK.1 hx;obtain⟨xv,ownv,depv⟩:=r;obtain⟨vs,hp,hv⟩:=yg hx2 (qd hf hc hx1);injection h with h;subst h;obtain⟨hA,hfr⟩:c.A b∧q3n p b:=by
      rcases hFb with h|⟨x,hx,-⟩|⟨hx,-⟩
      ·exact h
      ·cases hx
      ·cases hx
     have hsp:=hb.sp (hS.k hk1) b hA;have hT:=j6 hT;have hl0:=(Rd.len _ hrd).1;have hpos0:=q0c hT;obtain⟨cur,T',hcur⟩:∃cur T',w.heap[b]? =some (.cells cur T' (0,0)):=by
      have hc0:=hr 0 _ (gnK (by omega));cases hh:w.heap[b]? with
      |none=>
       unfold World.cell? at hc0;simp[hh] at hc0
      | some o =>
       cases o with
       |cells cur T' f=>
        obtain rfl:=hb.uf b cur T' f hsp hh;exact⟨cur,T',rfl⟩
       |_=>
        unfold World.cell? at hc0;simp[hh] at hc0
     have hlv:=hv.len.1;have hsz:ob+vo.length≤cur.size:=by
      have:=hr (vo.length - 1) vo[vo.length - 1] (gnK (by omega));rw[cell_of_row w b _ cur T' (0,0) hcur] at this;have:=(uV.1 this).1;omega
     have hspl:cur.toList=cur.toList.take ob++((cur.toList.drop ob).take vs.length++(cur.toList.drop ob).drop vs.length):=by
      rw[kQ,kQ]
     have hl1:(cur.toList.take ob).length=ob:=by simp;omega
     have hl2:((cur.toList.drop ob).take vs.length).length=vs.length:=by simp;omega
     have hrun:=q06 hT hcur hspl hl1 hl2 (hv.rd (dep':=depv++ownv.map (·.2)) (fun x hx=>uG _ hx) (fun x hx=>uE _ hx)) hp;rw[hev];refine⟨_,hrun,p,⟨hb.inj,fun y b hy=>by simpa using hb.bd y b hy,qdb hb.but hsp _,hb.pin,hb.new,hb.pa,fun y b' hy=>?_,Flo.of0 hF0 hb.flo,hb.sp,qgi hb.uf _ _⟩,⟨fun t x hx=>?_,fun k e he=>by cases he⟩,hd,hz⟩
     ·exact(hb.obj y b' hy).same (setRow_other w b b' _ fun e=>hfr y (by rw[←e];exact hy))
     ·obtain⟨y,hy,rfl⟩:=q08 (f:=spA) hx;obtain⟨u,h1,h2⟩:=hf.t t y hy;exact⟨u,h1,qx7 h2⟩
    ·cases h
   ·cases h
  ·cases h
 ·cases h
theorem qph(hS:HS c tbl)(hb:Bs c.A c.F w0 S0 p w)(hf:SF c σ p w a)(hc:hold c.v cs=true)(hd:a.defers=d)(hz:a.tmps.size=z)(hdst:o.dst=none){T:TypeId}{y x:Operand}(heq:o.op=.store T y x)(h:qdz uC tbl σ cs T y x=some σ')(hfl:∀xx t dep pin i path q te,opd σ cs y=some (.rd xx t dep (some (pin,i,path,q,te)))→c.F.mx te≤(i.ev c.v).int.toNat)(hnv:∀k path q t e,opd σ cs y=some (.ref k path q t)→lkA σ.m k=some e→nvB e.t=true→c.F.mx e.t=0){Q:Exit→Act→World→Prop}:
  o.wp uC a w (zl c w0 S0 d z σ') Q:=by
 unfold qdz at h;split at h
 ·rename_i σ1 h1;injection h with h;subst h;exact qq7 hb hf hc hd hz hdst heq h1 hfl hnv
 ·obtain⟨w',hr,hp⟩:=qst hS hb hf hc hd hz h;have hrun:(execOp a.eval o).run uC w=.ok .skip w':=by
   generalize a.eval=r at *;simp[execOp,heq,hr]
  unfold Oper.wp;rw[hrun]
  show zl c w0 S0 d z σ' (a.put o.dst undef) w'
  rw[hdst];exact hp
theorem qj4(htb:ym tbl)(hS:HS c tbl)(hb:Bs c.A c.F w0 S0 p w)(hf:SF c σ p w a)(hc:hold c.v cs=true)(hd:a.defers=d)(hz:a.tmps.size=z)(hk:q4q c.lo z o=true)
  {ns:List X}{e:Eff}(h:qfr uC tbl σ cs o=some (ns,e))(hn:∀n∈ns,n.says c.v){Q:Exit→Act→World→Prop}(hQ:q7j tbl w0 S0 d Q):o.wp uC a w (qhh c w0 S0 d z σ p w a o.dst e) Q:=by
 have hst:∀{r:Option St},sts r=some (ns,e)→∃σ',r=some σ'∧e=.st σ':=fun{r}h=>by
  unfold sts at h;split at h
  ·simp only[gnS] at h;exact⟨_,rfl,h.2.symm⟩
  ·cases h
 have hsn:∀{r:Option (List X×St)},stn r=some (ns,e)→∃σ',r=some (ns,σ')∧e=.st σ':=fun{r}h=>by
  unfold stn at h;split at h
  ·simp only[gnS] at h;obtain⟨rfl,rfl⟩:=h;exact⟨_,rfl,rfl⟩
  ·cases h
 have hvl:∀{r:Option (List X×AV)},vals r=some (ns,e)→∃x,r=some (ns,x)∧e=.val x:=fun{r}h=>by
  unfold vals at h;split at h
  ·simp only[gnS] at h;obtain⟨rfl,rfl⟩:=h;exact⟨_,rfl,rfl⟩
  ·cases h
 unfold qfr at h;split at h
 ·rename_i hdst;split at h
  ·rename_i T y x heq;unfold qzc at h;split at h
   ·rename_i σ' h1;simp only[gnS] at h;obtain⟨h2,rfl⟩:=h;refine qph hS hb hf hc hd hz hdst heq h1 (fun xx t dep pin i path q te hy=>qvj hS hy ?_) fun k path q t e hy he hv=>qve hS hy he hv ?_
    ·rw[h2];exact hn
    ·rw[h2];exact hn
   ·cases h
  ·rename_i T m k x heq;obtain⟨σ',h1,rfl⟩:=hst h;exact qnc hb hf hc hd hz hdst (.inl heq) h1
  ·rename_i T m k x heq;obtain⟨σ',h1,rfl⟩:=hst h;exact qnc hb hf hc hd hz hdst (.inr heq) h1
  ·cases h
 ·rename_i k hdst;have hkz:k<z∧(isVar o.op=true→c.lo≤k∧k<VB):=by
   unfold q4q at hk;rw[hdst] at hk;simp only[gnB,kB,kC,uM] at hk;exact⟨hk.1,fun e=>by
    rcases hk.2 with h1|⟨h1,h2⟩
    ·rw[h1] at e;cases e
    ·exact⟨kG h1,h2⟩⟩
  split at h
  ·rename_i T heq;obtain⟨σ',h1,rfl⟩:=hst h;exact qpm hb hf hd hz hkz.1 (hkz.2 (by rw[heq];rfl)) hdst heq h1
  ·rename_i T y heq;obtain⟨σ',h1,rfl⟩:=hst h;exact qyx hb hf hc hd hz hkz.1 (hkz.2 (by rw[heq];rfl)) hdst heq h1
  ·rename_i T n ps heq;obtain⟨σ',h1,rfl⟩:=hst h;exact qtw hb hf hc hd hz hkz.1 hdst heq h1
  ·rename_i T x y heq;obtain⟨σ',h1,rfl⟩:=hsn h;exact qtg hb hf hc hd hz hkz.1 hdst heq h1 hn
  ·rename_i T r heq;obtain⟨σ',h1,rfl⟩:=hst h;exact qyh hb hf hc hd hz hkz.1 hdst heq h1
  ·rename_i T ps heq;split at h
   ·rename_i x hx;simp only[gnS] at h;obtain⟨rfl,rfl⟩:=h;exact q8a (qob hf hc heq hx)
   ·split at h
    ·rename_i x hx;simp only[gnS] at h;obtain⟨rfl,rfl⟩:=h;exact q8a (qv0 hf hc heq hx)
    ·cases h
  ·rename_i c' heq;unfold qo5 at h;split at h
   ·rename_i f hcal;obtain⟨callee,args,tys⟩:=c';obtain rfl:callee=_:=hcal;split at h
    ·rename_i σ1 h1;simp only[gnS] at h;obtain⟨rfl,rfl⟩:=h;exact qx8 hb hf hc hd hz hkz.1 hdst heq h1
    ·split at h
     ·rename_i σ1 h1;simp only[gnS] at h;obtain⟨rfl,rfl⟩:=h;exact qzi hb hf hc hd hz hkz.1 hdst heq h1
     ·split at h
      ·rename_i σ1 h1;simp only[gnS] at h;obtain⟨rfl,rfl⟩:=h;split at h1
       ·rename_i hfl;exact qyg hb hf hc hd hz hkz.1 hdst heq (fun te=>hS.zero (by rw[uX.1 hfl];simp)) h1
       ·cases h1
      ·split at h
       ·rename_i r h1;obtain⟨σ',h2,rfl⟩:=hsn h;injection h2 with h2;subst h2;exact qzs hb hf hc hd hz hkz.1 hdst heq (fun hfl te=>hS.zero (by rw[uX.1 hfl];simp)) h1 hn
       ·obtain⟨σ',h1,rfl⟩:=hsn h;exact qt2 htb hS hb hf hc hd hz hkz.1 hdst heq h1 hn hQ
   ·rename_i hcal;split at h
    ·rename_i x y T T' h1 h2;split at h
     ·rename_i hT;obtain rfl:=gnN hT;obtain⟨σ',h3,rfl⟩:=hsn h;obtain⟨callee,⟨args⟩,⟨tys⟩⟩:=c';obtain rfl:callee=_:=hcal;obtain rfl:args=_:=h1;obtain rfl:tys=_:=h2;exact quz hb hf hc hd hz hkz.1 hdst heq hS.fb h3 hn
     ·obtain⟨σ',h3,rfl⟩:=hsn h;obtain⟨callee,⟨args⟩,⟨tys⟩⟩:=c';obtain rfl:callee=_:=hcal;obtain rfl:args=_:=h1;obtain rfl:tys=_:=h2;exact qv3 hb hf hc hd hz hkz.1 hdst heq hS.fb h3 hn
    ·cases h
   ·obtain⟨x,h1,rfl⟩:=hvl h;exact q8a (qeg hf hc h1 hn)
  ·obtain⟨x,h1,rfl⟩:=hvl h;exact q8a (qeg hf hc h1 hn)
theorem qc3(htb:ym tbl)(hS:HS c tbl)(hb:Bs c.A c.F w0 S0 p w)(hf:SF c σ p w a)(hc:hold c.v cs=true)(hd:a.defers=d)(hz:a.tmps.size=z)(hk:q4q c.lo z o=true)
  {ns:List X}{e:Eff}(h:step uC tbl σ cs o=some (ns,e))(hn:∀n∈ns,n.says c.v){Q:Exit→Act→World→Prop}(hQ:q7j tbl w0 S0 d Q):o.wp uC a w (qhh c w0 S0 d z σ p w a o.dst e) Q:=by
 unfold step at h;obtain⟨⟨ns0,e0⟩,h0,h1⟩:=uL.1 h;unfold z0m at h1;split at h1
 ·simp only[uR] at h1;obtain⟨rfl,rfl⟩:=h1;have hn0:∀n∈ns0,n.says c.v:=fun n hm=>by
   have this:(q9n (qx tbl) n).says c.v:=by
    cases hl:qub (q9n (qx tbl) n) with
    |true=>exact qud hl
    |false=>exact hn _ (uT.2 ⟨uU (f:=q9n (qx tbl)) hm,by rw[hl];rfl⟩)
   unfold X.says at this⊢;rw[←hS.s,q5x] at this;exact this
  refine Oper.wp_mono (fun a' w' hp=>?_) (qj4 htb hS hb hf hc hd hz hk h0 hn0 hQ);cases e0 with
  |val x=>
   obtain⟨e1,v,e2,h2⟩:=hp;exact⟨e1,v,e2,by rw[←hS.s];exact q8q x h2⟩
  |st σ1=>
   obtain⟨p',h1,h2,h3,h4⟩:=hp;exact⟨p',h1,by rw[←hS.s];exact qu3 h2,h3,h4⟩
 ·simp only[uR] at h1;obtain⟨rfl,rfl⟩:=h1;exact qj4 htb hS hb hf hc hd hz hk h0 hn hQ
theorem qfn{r:List X×Eff}(h:qfr uC tbl σ cs o=some r):∀c',o.op≠.defer c':=fun c' hc=>by
 unfold qfr at h;rw[hc] at h;split at h
 ·cases h
 ·simp[quiet,hc,vals] at h
theorem q2k{r:List X×Eff}(h:step uC tbl σ cs o=some r):∀c',o.op≠.defer c':=by
 obtain⟨r0,h0,-⟩:=uL.1 h;exact qfn h0
theorem q2w(hb:Bs c.A c.F w0 S0 p w)(hf:SF c σ p w a)(hd:a.defers=d)(hz:a.tmps.size=z){k:Nat}(hk:k<z){x:AV}{v:Value}(hv:x.pd c p w v):zl c w0 S0 d z ⟨zr σ.t k x,σ.m⟩ (a.put (some k) v) w:=
 ⟨p,hb,hf.put (by rw[hz];exact hk) hv,hd,by simp only[Act.put,uN];exact hz⟩
theorem qgp(hb:Bs c.A c.F w0 S0 p w)(hf:SF c σ p w a)(hd:a.defers=d)(hz:a.tmps.size=z){k:Option Nat}(hk:∀t,k=some t→t<z):zl c w0 S0 d z (qwg σ k) (a.put k Go.undef) w:=by
 cases k with
 |none=>exact⟨p,hb,hf,hd,hz⟩
 |some k=>exact q2w hb hf hd hz (hk k rfl) rfl
def qsv(c:Cx)(cs:List (X×Bool))(R:Prop):Gd→Prop
 |.yes=>R
 |.no=>¬R
 |.ask l=>(hold c.v l=true→hold c.v cs=true∧R)∧(hold c.v l=false→¬R)
theorem qkl{b:Bool}{cs:List (X×Bool)}{x:AV}{g:Gd}(h:qga b cs x=some g){v:Value}(h1:hold c.v cs=true→x.pd c p w v)(h2:hold c.v cs=false→v=Go.undef):qsv c cs (v=.bool b) g:=by
 have hu:Go.undef≠.bool b:=by intro e;cases e
 unfold qga at h;split at h
 ·rename_i x0 own dep;split at h
  ·rename_i _ u;have h3:hold c.v cs=true→v=.bool u:=fun hc=>by
    obtain⟨y,e1,e2⟩:=q0v (h1 hc);have:D.b u=D.b y:=e1;injection this with this;rw[e2,this]
   split at h
   ·rename_i hub;have hub':u=b:=by simpa using hub
    rw[←hub'] at hu⊢;injection h with h;subst h;cases cs with
    |nil=>exact h3 rfl
    |cons e l=>exact⟨(fun hc=>⟨hc,h3 hc⟩),(fun hc=>by rw[h2 hc];exact hu)⟩
   ·rename_i hub;injection h with h;subst h
    show ¬v=.bool b
    cases hc:hold c.v cs with
    |true=>
     rw[h3 hc];intro e;injection e with e;rw[e] at hub;simp at hub
    |false=>rw[h2 hc];exact hu
  ·injection h with h;subst h;have happ:hold c.v (cs++[(x0,b)])=(hold c.v cs&&(((x0.ev c.v).tt==b)&&true)):=by unfold hold;rw[List.all_append];rfl
   refine⟨fun hc=>?_,fun hc=>?_⟩
   ·rw[happ] at hc;simp only[gnB,Bool.and_true,beq_iff_eq] at hc;refine⟨hc.1,?_⟩;obtain⟨y,e1,e2⟩:=q0v (h1 hc.1);have h4:=hc.2;rw[e1] at h4;have h5:y=b:=h4;rw[e2,h5]
   ·rw[happ] at hc;cases hc2:hold c.v cs with
    |false=>rw[h2 hc2];exact hu
    |true=>
     rw[hc2] at hc;obtain⟨y,e1,e2⟩:=q0v (h1 hc2);rw[e1] at hc;rw[e2];intro e;injection e with e;subst e;simp[D.tt] at hc
 ·injection h with h;subst h
  show ¬v=.bool b
  cases hc:hold c.v cs with
  |true=>rw[show v=Go.undef from h1 hc];exact hu
  |false=>rw[h2 hc];exact hu
 ·cases h
theorem qdh{ops:Array Oper}{ds:List (Option Tmp)}(hds:ops.toList.map (·.dst)=ds){g:Nat}{t:Tmp}(h:(ds[g]?).join=some t){tmps:Array Value}{v:Value}(hv:tmps[t]? =some v){b:Bool}:(yielded ops tmps g=some b↔v=.bool b):=by
 have:yielded ops tmps g=match v with|.bool b=>some b|_=>none:=by
  unfold yielded;rw[←hds,kY,kE] at h;cases hog:ops[g]? with
  |none=>rw[hog] at h;cases h
  |some og=>
   rw[hog] at h;simp only[Option.map_some,Option.join_some] at h;simp only[Option.bind_some,h,hv];cases v<;>rfl
 rw[this];cases v<;>simp
theorem qdi{ops:Array Oper}{tmps:Array Value}{g:Nat}{b:Bool}(hg:o.guard=some (g,b)):(Region.wanted o (yielded ops tmps)=true)↔yielded ops tmps g=some b:=by
 unfold Region.wanted;simp only[hg];cases yielded ops tmps g<;>simp
theorem qj3(htb:ym tbl)(hS:HS c tbl){ops:Array Oper}{ds:List (Option Tmp)}(hds:ops.toList.map (·.dst)=ds)(hb:Bs c.A c.F w0 S0 p w)(hf:SF c σ p w a)(hd:a.defers=d)(hz:a.tmps.size=z)(hk:q4q c.lo z o=true)
  {ns:List X}(h:stepG uC tbl ds σ o=some (ns,σ'))(hn:∀n∈ns,n.says c.v){Q:Exit→Act→World→Prop}(hQ:q7j tbl w0 S0 d Q){K:Act→World→Prop}(ro:Option Nat)(nn:Nat)(hK:∀a' w',zl c w0 S0 d z σ' a' w'→K a' w'):
  if Region.wanted o (yielded ops a.tmps) then o.wpIn (FR ro) nn uC a w K Q else(∀f,o.about uC w a.eval=some f→(FR ro).fn f)∧K (a.put o.dst Go.undef) w:=by
 have hkz:∀t,o.dst=some t→t<z:=fun t e=>by
  unfold q4q at hk;rw[e] at hk;simp only[gnB,kB] at hk;exact hk.1
 have hplain:(step uC tbl σ [] o).bind (qho σ o.dst)=some (ns,σ')→o.wpIn (FR ro) nn uC a w K Q:=fun h=>by
  obtain⟨⟨ms,e⟩,h1,h2⟩:=uK.1 h;have h2:(match e.on σ o.dst with|some σ'=>some (ms,σ')|none=>none)=some (ns,σ'):=h2;split at h2
  ·rename_i σ1 he;injection h2 with h2;obtain⟨rfl,rfl⟩:=kS h2;refine Oper.wp_round ro (q2k h1) (Oper.wp_mono ?_ (qc3 htb hS hb hf rfl hd hz hk h1 hn hQ));intro a' w' hp;refine hK a' w' ?_;cases e with
   |st σ2=>
    injection he with he;subst he;exact hp
   | val x =>
    obtain⟨rfl,v,rfl,hv⟩:=hp;cases hdst:o.dst with
    |none=>rw[hdst] at he;cases he
    |some k=>
     rw[hdst] at he;injection he with he;subst he;exact q2w hb hf hd hz (hkz k hdst) hv
  ·cases h2
 unfold stepG at h;cases hg:o.guard with
 |none=>
  rw[hg] at h;rw[if_pos (by unfold Region.wanted;simp only[hg])];exact hplain h
 | some gb =>
  obtain⟨g,b⟩:=gb;rw[hg] at h;simp only at h
  -- the guard
  have hgd:∀G,guardOf ds σ g b=some G→qsv c [] (Region.wanted o (yielded ops a.tmps)=true) G:=fun G hG=>by
   unfold guardOf at hG;split at hG
   ·rename_i t ht;have key:∀{x:AV}{l:List (X×Bool)}{v:Value},a.tmps[t]? =some v→qga b l x=some G→(hold c.v l=true→x.pd c p w v)→(hold c.v l=false→v=Go.undef)→qsv c [] (Region.wanted o (yielded ops a.tmps)=true) G:=fun{x l v}hv hG h1 h2=>by
     have hy:=qdh (ops:=ops) hds ht hv (b:=b);have hw:=qdi (ops:=ops) (tmps:=a.tmps) hg;have:=qkl hG h1 h2;cases G with
     |yes=>exact hw.2 (hy.2 this)
     |no=>exact fun e=>this (hy.1 (hw.1 e))
     |ask l=>exact⟨(fun e=>⟨rfl,hw.2 (hy.2 (this.1 e).2)⟩),(fun e e'=>this.2 e (hy.1 (hw.1 e')))⟩
    split at hG
    ·rename_i l x hx;obtain⟨v,hv1,hv2⟩:=hf.t t _ hx;exact key hv1 hG hv2.1 hv2.2
    ·rename_i x _ hx;obtain⟨v,hv1,hv2⟩:=hf.t t _ hx;exact key (l:=[]) hv1 hG (fun _=>hv2) (fun e=>by cases e)
    ·cases hG
   ·cases hG
  split at h
  ·rename_i hG;have h1:Region.wanted o (yielded ops a.tmps)=true:=hgd _ hG;rw[if_pos h1];exact hplain h
  ·rename_i hG;have h1:¬Region.wanted o (yielded ops a.tmps)=true:=hgd _ hG;rw[if_neg h1];simp only[gnS] at h;obtain⟨rfl,rfl⟩:=h;exact⟨fun _ _=>trivial,hK _ _ (qgp hb hf hd hz hkz)⟩
  ·rename_i cs hG;have h1:=hgd _ hG;obtain⟨⟨ms,e⟩,h2,h3⟩:=uK.1 h;cases hc:hold c.v cs with
   | true =>
    rw[if_pos (h1.1 hc).2];have hns:ns=ms.map (qkf cs):=by
     cases e with
     | val x =>
      cases hdst:o.dst with
      |none=>rw[hdst] at h3;cases h3
      |some k=>
       rw[hdst] at h3;injection h3 with h3;exact(kS h3).1.symm
     |st σ1=>
      injection h3 with h3;exact(kS h3).1.symm
    refine Oper.wp_round ro (q2k h2) (Oper.wp_mono ?_ (qc3 htb hS hb hf hc hd hz hk h2 (fun n hm=>qn7 (hn (qkf cs n) (by rw[hns];exact uU hm)) hc) hQ));intro a' w' hp;refine hK a' w' ?_;cases e with
    | val x =>
     obtain⟨rfl,v,rfl,hv⟩:=hp;unfold under at h3;simp only at h3;cases hdst:o.dst with
     |none=>rw[hdst] at h3;cases h3
     |some k=>
      rw[hdst] at h3;simp only[gnS] at h3;obtain⟨-,rfl⟩:=h3;exact q2w hb hf hd hz (hkz k hdst) ⟨(fun _=>hv),(fun e=>by rw[hc] at e;cases e)⟩
    |st σ1=>
     unfold under at h3;simp only[gnS] at h3;obtain⟨-,rfl⟩:=h3;obtain⟨p',hb',hf',hd',hz'⟩:=hp;exact⟨p',hb',qg6 hc hf' (fun t e=>⟨_,Array.getElem?_eq_getElem (by have:=hkz t e;rw[hz'];exact this)⟩),hd',hz'⟩
   | false =>
    rw[if_neg (h1.2 hc)];refine⟨fun _ _=>trivial,hK _ _ ?_⟩;cases e with
    | val x =>
     unfold under at h3;simp only at h3;cases hdst:o.dst with
     |none=>rw[hdst] at h3;cases h3
     |some k=>
      rw[hdst] at h3;simp only[gnS] at h3;obtain⟨-,rfl⟩:=h3;exact q2w hb hf hd hz (hkz k hdst) ⟨(fun e=>by rw[hc] at e;cases e),(fun _=>rfl)⟩
    |st σ1=>
     unfold under at h3;simp only[gnS] at h3;obtain⟨-,rfl⟩:=h3;exact⟨p,hb,qjc hc hf (fun t e=>by rw[hz];exact hkz t e),(by cases o.dst<;>exact hd),(by cases o.dst<;>simp only[Act.put,uN]<;>exact hz)⟩
  ·cases h
end
end
section
def qrg(P:Program)(tbl:Tbl)(ds:List (Option Tmp)):St→List Oper→Option (List X×St)
 |σ,[]=>some ([],σ)
 | σ, o :: l => match stepG P tbl ds σ o with
  |some (ns,σ1)=>(match qrg P tbl ds σ1 l with
   |some (ms,σ2)=>some (ns++ms,σ2)
   |none=>none)
  |none=>none
def qv5(N:List X)(n:X):Bool:=N.any fun m=>X.beq m n
def q3f:List Edge→Nat
 |[]=>0
 |e::l=>if Region.binds .any e then vB (kK 1 e.on) (q3f l) else q3f l
def qo(o:Oper):Nat:=q3f o.after.toList
def yp:List Nat→Nat→Nat→List Nat
 |[],_,_=>[]
 |m::l,i,S=>if uD (uZ 1 (kI S i)) 0&&uD (uZ m S) m then i::yp l (i+1) S else yp l (i+1) S
def plus(S i:Nat):Nat:=vB S (kK 1 i)
abbrev Lv:=List (Nat×St)
def qwi(S:Nat):Lv→Bool
 |[]=>false
 |e::l=>if uD e.1 S then true else qwi S l
def qtz(P:Program)(tbl:Tbl)(ds:List (Option Tmp))(ops:List Oper)(ms:List Nat)(lv:Lv):Lv:=
 lv.foldl (fun acc e=>(yp ms 0 e.1).foldl (fun acc i=>if qwi (plus e.1 i) acc then acc else match ops[i]? with
  |some o=>(match stepG P tbl ds e.2 o with
   |some (_,σ')=>(plus e.1 i,σ')::acc
   |none=>acc)
  |none=>acc) acc) []
def qfs(P:Program)(tbl:Tbl)(ds:List (Option Tmp))(ops:List Oper)(ms:List Nat):Nat→Lv→List Lv
 |0,lv=>[lv]
 |n+1,lv=>lv::qfs P tbl ds ops ms n (qtz P tbl ds ops ms lv)
def qhl(S:Nat):Lv→Option St
 |[]=>none
 |e::l=>if uD e.1 S then some e.2 else qhl S l
def qn8(P:Program)(tbl:Tbl)(ds:List (Option Tmp))(ops:List Oper)(ms:List Nat)(N:List X)(l:St):List Lv→Bool
 |[]=>false
 |[lv]=>lv.all fun e=>(yp ms 0 e.1).isEmpty&&covers e.2 l
 | lv :: lv' :: r => (lv.all fun e => !(yp ms 0 e.1).isEmpty && (yp ms 0 e.1).all fun i => match ops[i]? with
   | some o => (match stepG P tbl ds e.2 o with
    |some (ns,σ')=>ns.all (qv5 N)&&(match qhl (plus e.1 i) lv' with
     |some σ2=>covers σ' σ2
     |none=>false)
    |none=>false)
   |none=>false)&&qn8 P tbl ds ops ms N l (lv'::r)
def qwb:List Lv→Option St
 |[]=>none
 |[lv]=>(match lv with
  |[e]=>some e.2
  |_=>none)
 |_::l=>qwb l
def dsts(l:List Oper):List (Option Tmp):=l.map (·.dst)
def seg(P:Program)(tbl:Tbl)(lo z:Nat)(σ:St)(l:List Oper)(d:Bool):Option (List X×St):=
 if l.all (q4q lo z) then match qrg P tbl (dsts l) σ l with
  | some (N, σ') => if d then
    (match qwb (qfs P tbl (dsts l) l (l.map qo) l.length [(0,σ)]) with
    |some σf=>if qn8 P tbl (dsts l) l (l.map qo) N σf (qfs P tbl (dsts l) l (l.map qo) l.length [(0,σ)]) then some (N,σf) else none
    |none=>none)
   else some (N,σ')
  |none=>none
 else none
theorem qg7:uC.follows .mixedOrders=true:=by kernel_rfl
section
variable{c:Cx}{p:qe}{w w0:World}{S0:Nat→Prop}{a:Act}{σ σ':St}{d:List Deferred}{z:Nat}{tbl:Tbl}
theorem qhz{N:List X}{n:X}(h:qv5 N n=true):n∈N:=by
 obtain⟨m,hm,he⟩:=List.any_eq_true.1 h;rw[←X.beq_ok _ _ he];exact hm
theorem qg0(ro:Option Nat)(nn:Nat)(htb:ym tbl)(hS:HS c tbl){ops:Array Oper}{ds:List (Option Tmp)}(hds:ops.toList.map (·.dst)=ds){Q:Exit→Act→World→Prop}(hQ:q7j tbl w0 S0 d Q):∀{l:List Oper}{σ σ':St}{p:qe}{w:World}{a:Act}{N:List X},qrg uC tbl ds σ l=some (N,σ')→
  l.all (q4q c.lo z)=true→(∀n∈N,n.says c.v)→Bs c.A c.F w0 S0 p w→SF c σ p w a→a.defers=d→a.tmps.size=z→
  (∀a' w',zl c w0 S0 d z σ' a' w'→Q .normal a' w')→wpListIn (FR ro) nn uC ops Q l a w
 |[],σ,σ',p,w,a,N,h,_,_,hb,hf,hd,hz,hk=>by
  simp only[qrg,gnS] at h;obtain⟨-,rfl⟩:=h;exact hk a w ⟨p,hb,hf,hd,hz⟩
 | o :: l, σ, σ', p, w, a, N, h, hall, hn, hb, hf, hd, hz, hk => by
  simp only[kO,gnB] at hall;unfold qrg at h;split at h
  ·rename_i ns σ1 h1;split at h
   ·rename_i ms σ2 h2;simp only[gnS] at h;obtain⟨rfl,rfl⟩:=h;unfold wpListIn
    exact qj3 htb hS hds hb hf hd hz hall.1 h1 (fun n hm=>hn n (uG _ hm)) hQ ro nn fun a' w'⟨p',hb',hf',hd',hz'⟩=>
     qg0 ro nn htb hS hds hQ h2 hall.2 (fun n hm=>hn n (uE _ hm)) hb' hf' hd' hz' hk
   ·cases h
  ·cases h
theorem q2n(j:Nat):∀{l:List Edge},(q3f l).testBit j=true↔∃e∈l,Region.binds .any e=true∧e.on=j
 |[]=>by simp[q3f]
 | e :: l => by
  unfold q3f;split
  ·rename_i hb;rw[show vB (kK 1 e.on) (q3f l)=(1 <<< e.on) ||| q3f l from rfl,vH,kC,q2n j];rw[vA,kW];constructor
   ·rintro(h|⟨e',he',h⟩)
    ·exact⟨e,uB,hb,by simpa using h⟩
    ·exact⟨e',uA _ he',h⟩
   ·rintro⟨e',he',h1,h2⟩;rcases uP.1 he' with rfl|he'
    ·exact .inl (by simpa using h2)
    ·exact .inr ⟨e',he',h1,h2⟩
  ·rename_i hb;rw[q2n j];constructor
   ·rintro⟨e',he',h⟩;exact⟨e',uA _ he',h⟩
   ·rintro⟨e',he',h1,h2⟩;rcases uP.1 he' with rfl|he'
    ·exact absurd h1 hb
    ·exact⟨e',he',h1,h2⟩
theorem qq5{l:List Edge}{S:Nat}:uD (uZ (q3f l) S) (q3f l)=true↔∀e∈l,Region.binds .any e=true→S.testBit e.on=true:=by
 rw[kX,show uZ (q3f l) S=q3f l &&& S from rfl];constructor
 ·intro h e he hb;have h1:(q3f l).testBit e.on=true:=(q2n e.on).2 ⟨e,he,hb,rfl⟩;rw[←h,vG,gnB] at h1;exact h1.2
 ·intro h;refine Nat.eq_of_testBit_eq fun j=>?_;rw[vG];cases hj:(q3f l).testBit j with
  |false=>rfl
  |true=>
   obtain⟨e,he,hb,rfl⟩:=(q2n j).1 hj;rw[h e he hb];rfl
theorem q1v{S:Nat}:∀{l:List Oper}{i j:Nat},j∈yp (l.map qo) i S↔i≤j∧S.testBit j=false∧∃o,l[j - i]? =some o∧∀e∈o.after,Region.binds .any e=true→S.testBit e.on=true
 |[],i,j=>by simp[yp]
 | o :: l, i, j => by
  have hbit:uD (uZ 1 (kI S i)) 0=true↔S.testBit i=false:=by
   rw[kX];unfold Nat.testBit;rw[show uZ 1 (kI S i)=1 &&& (S >>> i) from rfl];simp
  have hhd:(uD (uZ 1 (kI S i)) 0&&uD (uZ (qo o) S) (qo o))=true↔S.testBit i=false∧∀e∈o.after,Region.binds .any e=true→S.testBit e.on=true:=by
   rw[gnB,hbit];unfold qo;rw[qq5];constructor
   ·rintro⟨h1,h2⟩;exact⟨h1,fun e he=>h2 e (by simpa using he)⟩
   ·rintro⟨h1,h2⟩;exact⟨h1,fun e he=>h2 e (by simpa using he)⟩
  have htl:i+1≤j→(l[j - (i+1)]? =(o::l)[j - i]?):=fun h=>by
   rw[show j - i=(j - (i+1))+1 by omega,List.getElem?_cons_succ]
  simp only[uF,yp];split
  ·rename_i hc;rw[uP,q1v (l:=l)];constructor
   ·rintro(rfl|⟨h1,h2,o',h3,h4⟩)
    ·exact⟨kU _,(hhd.1 hc).1,o,by simp,(hhd.1 hc).2⟩
    ·exact⟨by omega,h2,o',by rw[←htl h1];exact h3,h4⟩
   ·rintro⟨h1,h2,o',h3,h4⟩;by_cases hij:j=i
    ·exact .inl hij
    ·exact .inr ⟨by omega,h2,o',by rw[htl (by omega)];exact h3,h4⟩
  ·rename_i hc;rw[q1v (l:=l)];constructor
   ·rintro⟨h1,h2,o',h3,h4⟩;exact⟨by omega,h2,o',by rw[←htl h1];exact h3,h4⟩
   ·rintro⟨h1,h2,o',h3,h4⟩;by_cases hij:j=i
    ·subst hij;simp only[vK,uY,uH] at h3;subst h3;exact absurd (hhd.2 ⟨h2,h4⟩) hc
    ·exact⟨by omega,h2,o',by rw[htl (by omega)];exact h3,h4⟩
def Rep(n S:Nat)(listed:Array Bool):Prop:=listed.size=n∧∀j,listed.getD j false=S.testBit j
theorem Rep.plus{n S i:Nat}{listed:Array Bool}(h:Rep n S listed)(hi:i<n):Rep n (plus S i) (listed.setIfInBounds i true):=by
  refine⟨by rw[uN];exact h.1,fun j=>?_⟩;unfold Proofs.Ytokkfpalbpnpeaa.plus;rw[show vB S (kK 1 i)=S ||| (1 <<< i) from rfl,vH,vA,kW,←h.2 j];by_cases hij:i=j
  · subst hij;simp[h.1,hi]
  · rw[getD_set_ne false hij];simp[hij]
theorem Rep.ready{l:List Oper}{S:Nat}{listed:Array Bool}(h:Rep l.length S listed)(j:Nat):j∈Region.ready .any l.toArray listed↔j∈yp (l.map qo) 0 S:=by
 rw[mem_ready,q1v];simp only[Nat.zero_le,true_and,Nat.sub_zero,kR];constructor
 ·rintro⟨h0,o,ho,h1⟩;have hlt:j<listed.size:=by rw[h.1];exact(gnH.1 ho).1
  refine⟨?_,o,ho,fun e he hb=>by rw[←h.2];exact h1 e he hb⟩;rw[←h.2 j];simpa[kV,hlt] using h0
 ·rintro⟨h0,o,ho,h1⟩;have hlt:j<listed.size:=by rw[h.1];exact(gnH.1 ho).1
  refine⟨?_,o,ho,fun e he hb=>by rw[h.2];exact h1 e he hb⟩;rw[←h.2 j] at h0;simpa[kV,hlt] using h0
theorem qe8{S:Nat}:∀{lv:Lv}{σ:St},qhl S lv=some σ→(S,σ)∈lv
  |[],σ,h=>by cases h
  | (S', σ') :: l, σ, h => by
    unfold qhl at h;split at h
    · rename_i he;injection h with h;have:=gnN he;subst h;rw[←this];exact uB
    · exact uA _ (qe8 h)
theorem qrr(ro:Option Nat)(nn:Nat)(htb:ym tbl)(hS:HS c tbl){ops:List Oper}{N:List X}{l:St}(hN:∀n∈N,n.says c.v)(hall:ops.all (q4q c.lo z)=true){Q:Exit→Act→World→Prop}(hQ:q7j tbl w0 S0 d Q)
  (hk:∀a' w',zl c w0 S0 d z l a' w'→Q .normal a' w'):∀(L:List Lv)(n:Nat),L.length=n+1→qn8 uC tbl (ops.map (·.dst)) ops (ops.map qo) N l L=true→
  ∀lv,L.head? =some lv→∀e∈lv,∀(listed:Array Bool)(p:qe)(w:World)(a:Act),Rep ops.length e.1 listed→Bs c.A c.F w0 S0 p w→a.defers=d→a.tmps.size=z→SF c e.2 p w a→wpAnyIn (FR ro) nn uC .any ops.toArray Q n listed a w
 |[],n,hn,h=>by cases h
 |[lv],n,hn,h=>fun lv0 hlv e he listed p w a hrep hx hd hz hf=>by
  obtain rfl:n=0:=by simpa using hn.symm
  simp only[vF,uH] at hlv;subst hlv;have h1:=uI.1 (show(lv.all fun e=>(yp (ops.map qo) 0 e.1).isEmpty&&covers e.2 l)=true from h) e he;simp only[gnB,uX] at h1;refine⟨List.eq_nil_iff_forall_not_mem.2 fun j hj=>?_,hk a w ⟨p,hx,q1l h1.2 hf,hd,hz⟩⟩;have:=(hrep.ready j).1 hj;rw[h1.1] at this;cases this
 | lv :: lv' :: r, n, hn, h => fun lv0 hlv e he listed p w a hrep hx hd hz hf => by
  obtain⟨m,rfl⟩:∃m,n=m+1:=⟨r.length,by simp at hn;omega⟩;simp only[vF,uH] at hlv;subst hlv;unfold qn8 at h;simp only[gnB] at h;obtain⟨h1,h2⟩:=h;have h3:=uI.1 h1 e he;simp only[gnB,uM] at h3;refine⟨fun hr=>?_,fun i hi=>?_⟩
  ·exfalso;cases hl:yp (ops.map qo) 0 e.1 with
   |nil=>rw[hl] at h3;simp at h3
   |cons j js=>
    have:=(hrep.ready j).2 (by rw[hl];exact uB);rw[hr] at this;cases this
  ·have h4:=uI.1 h3.2 i ((hrep.ready i).1 hi);split at h4
   ·rename_i o hoi;split at h4
    ·rename_i ns σ' hr;simp only[gnB] at h4;obtain⟨h4a,h4b⟩:=h4;split at h4b
     ·rename_i σ2 hfl;unfold wpOpIn;rw[kR,hoi];have hin:i<ops.length:=(gnH.1 hoi).1;have htl:q4q c.lo z o=true:=uI.1 hall o (kH hoi);refine qj3 htb hS (ds:=ops.map (·.dst)) (by simp) hx hf hd hz htl hr (fun n hm=>hN n (qhz (uI.1 h4a n hm))) hQ ro nn fun a' w'⟨p',hx',hf',hd',hz'⟩=>?_;exact qrr ro nn htb hS hN hall hQ hk (lv'::r) m (by simpa using hn) h2 lv' rfl (plus e.1 i,σ2) (qe8 hfl) _ p' w' a' (hrep.plus hin) hx' hd' hz' (q1l h4b hf')
     ·cases h4b
    ·cases h4
   ·cases h4
theorem q9t{ds:List (Option Tmp)}{ops:List Oper}{ms:List Nat}:∀(n:Nat)(lv:Lv),(qfs uC tbl ds ops ms n lv).length=n+1∧(qfs uC tbl ds ops ms n lv).head? =some lv
 |0,lv=>⟨rfl,rfl⟩
 |n+1,lv=>⟨by simp[qfs,(q9t n _).1],rfl⟩
theorem SF.drew(h:SF c σ p w a):SF c σ p {w with drawn:=w.drawn+1} a:=
 have hs:Stab c.A no no p w p {w with drawn:=w.drawn+1}:=⟨kU _,fun _ _ _ h=>⟨rfl,h⟩,fun _ _ _ h=>h,fun _ _ _ _=>rfl,fun _ _ _=>rfl⟩
 ⟨fun t x hx=>let ⟨v,h1,h2⟩:=h.t t x hx;⟨v,h1,AV.kept hs x v (fun _ _=>⟨rfl,rfl⟩) (fun _ _=>rfl) h2⟩,fun k e he=>(h.m k e he).kept hs (fun _ _=>⟨rfl,rfl⟩) ⟨rfl,rfl⟩⟩
theorem Bs.drew(h:Bs c.A c.F w0 S0 p w):Bs c.A c.F w0 S0 p {w with drawn:=w.drawn+1}:=⟨h.inj,h.bd,h.but.drew,h.pin,h.new,h.pa,h.obj,h.flo.same fun k _ _=>rfl,h.sp,h.uf⟩
theorem qr8(ro:Option Nat)(nn:Nat)(htb:ym tbl)(hS:HS c tbl){id:Nat}{ops:Array Oper}{dr:Bool}{N:List X}(h:seg uC tbl c.lo z σ ops.toList dr=some (N,σ'))(hN:∀n∈N,n.says c.v)(hb:Bs c.A c.F w0 S0 p w)(hf:SF c σ p w a)(hd:a.defers=d)(hz:a.tmps.size=z){Q:Exit→Act→World→Prop}(hQ:q7j tbl w0 S0 d Q)
  (hk:∀a' w',zl c w0 S0 d z σ' a' w'→Q .normal a' w'):(Code.region id ops dr).wpIn (FR ro) nn uC Q a w:=by
 obtain⟨l⟩:=ops;unfold seg at h;split at h
 ·rename_i hall;split at h
  ·rename_i N' σ1 hr;cases dr with
   |false=>
    rw[if_neg (by simp)] at h;simp only[gnS] at h;obtain⟨rfl,rfl⟩:=h;refine wpIn_region ?_;have:wpOpsIn (FR ro) nn uC l.toArray Q (kT 0 l.length)=wpListIn (FR ro) nn uC l.toArray Q l:=wpOpsIn_eq_wpListIn l 0 (fun j=>by simp);rw[show List.range (Array.mk l).size=kT 0 l.length by simp[List.range_eq_range']]
    show wpOpsIn (FR ro) nn uC l.toArray Q (kT 0 l.length) a w
    rw[this];exact qg0 ro nn htb hS (ds:=dsts l) (by simp[dsts]) hQ hr hall hN hb hf hd hz hk
   | true =>
    rw[if_pos rfl] at h;split at h
    ·rename_i σf hl;split at h
     ·rename_i hok;simp only[gnS] at h;obtain⟨rfl,rfl⟩:=h;refine wpIn_region_any qg7 ?_;exact qrr ro nn htb hS (ops:=l) hN hall hQ hk _ _ (q9t l.length _).1 hok _ (q9t l.length _).2 (0,σ) uB (Array.replicate l.length false) p _ a ⟨by simp,fun j=>by simp[kV]⟩ hb.drew hd hz hf.drew
     ·cases h
    ·cases h
  ·cases h
 ·cases h
end
end
section
def q9u(n:Nat)(l:List (X×Bool)):Bool:=l.all fun y=>X.upto n y.1
def qqr(n:Nat):Option ElI→Bool
 |none=>true
 |some e=>X.upto n e.x&&X.upto n e.y
mutual
def AV.upto(n:Nat):AV→Bool
 |.v x _ _ _=>X.upto n x
 |.rd x _ _ wr=>X.upto n x&&(match wr with|some (_,i,_)=>X.upto n i|none=>true)
 |.tup l=>q8o n l
 |.gd cs a=>q9u n cs&&AV.upto n a
 |.nb x _=>X.upto n x
 |.fn _ l=>q8o n l
 |.bx _ _ a=>AV.upto n a
 |.ax _ _ _ a=>AV.upto n a
 |.fr _ a=>AV.upto n a
 |.ff _ _ x1 _ _ x2 _ _=>X.upto n x1&&X.upto n x2
 |.sn _ a=>AV.upto n a
 |.wf _ _ x _ _ _ a=>X.upto n x&&AV.upto n a
 |.el o _ i a=>qqr n o&&(X.upto n i&&AV.upto n a)
 |.hd _ _ x=>X.upto n x
 |.pt _ i _ a=>X.upto n i&&AV.upto n a
 |.ar _ xs _=>X.uptos n xs
 |_=>true
def q8o(n:Nat):List AV→Bool
 |[]=>true
 |a::l=>AV.upto n a&&q8o n l
end
section
variable{n:Nat}{c c':Cx}{p:qe}{w:World}
theorem qof(hE:∀k,k<n→c.v.E k=c'.v.E k)(hS:c.v.S=c'.v.S){l:List (X×Bool)}(h:q9u n l=true):hold c.v l=hold c'.v l:=by
 unfold hold
 induction l with
 |nil=>rfl
 |cons y l ih=>
  simp only[q9u,kO,gnB] at h;simp only[kO,X.ev_upto hE hS _ h.1];rw[ih h.2]
mutual
theorem AV.pd_upto(hE:∀k,k<n→c.v.E k=c'.v.E k)(hS:c.v.S=c'.v.S)(hA:c.A=c'.A)(hT:c.At=c'.At∧c.snap=c'.snap∧c.F=c'.F):∀(x:AV)(v:Value),x.upto n=true→x.pd c p w v→x.pd c' p w v
 |.any,v,_,h=>h
 |.undef,v,_,h=>h
 |.nilS,v,_,h=>h
 |.nb x neg,v,hb,h=>by
  simp only[AV.upto] at hb;obtain⟨b,e,h⟩:=h;rw[X.ev_upto hE hS x hb] at h;exact⟨b,e,h⟩
 |.nilP,v,_,h=>h
 |.ref k q o t,v,_,⟨g,hg,e,ha⟩=>⟨g,hg,e,by rw[←hT.1];exact ha⟩
 |.v x t own dep,v,hb,⟨cs,hp,hc⟩=>⟨cs,hp,by
  simp only[AV.upto] at hb;rw[X.ev_upto hE hS x hb,hA] at hc;exact hc⟩
 | .rd x t dep wr, v, hb, ⟨b, o, cs, e, hf, hr, h0, hd, hw⟩ => by
  simp only[AV.upto,gnB] at hb;rw[X.ev_upto hE hS x hb.1] at hd;rw[hA] at hf hd;refine⟨b,o,cs,e,hf,hr,h0,hd,?_⟩
  match wr,hw,hb.2 with
  |none,_,_=>trivial
  |some (pin,i,pt,q,te),hw,hi=>
   refine⟨hw.1,?_⟩;rw[←X.ev_upto hE hS i hi];exact hw.2
 |.tup l,v,hb,⟨vs,e,h⟩=>⟨vs,e,qdf hE hS hA hT l vs (by simpa[AV.upto] using hb) h⟩
 |.gd cs a,v,hb,h=>by
  simp only[AV.upto,gnB] at hb;rw[show AV.pd c' p w (.gd cs a) v=((hold c'.v cs=true→AV.pd c' p w a v)∧(hold c'.v cs=false→v=Go.undef)) from rfl,←qof hE hS hb.1];exact⟨fun hc=>AV.pd_upto hE hS hA hT a v hb.2 (h.1 hc),h.2⟩
 |.fn f l,v,hb,⟨vs,e,h⟩=>⟨vs,e,qdf hE hS hA hT l vs (by simpa[AV.upto] using hb) h⟩
 |.bx k T a,v,hb,⟨g,u,hg,e,hh,h⟩=>⟨g,u,⟨hg.1,by rw[←hT.1];exact hg.2⟩,e,hh,AV.pd_upto hE hS hA hT a u (by simpa[AV.upto] using hb) h⟩
 |.ax k T m a,v,hb,⟨g,u,hg,e,hh,hn,h⟩=>⟨g,u,⟨hg.1,by rw[←hT.1];exact hg.2⟩,e,hh,hn,AV.pd_upto hE hS hA hT a (.agg u) (by simpa[AV.upto] using hb) h⟩
 |.lv k t,v,_,⟨g,cs,T,hg,e,hh,hs⟩=>⟨g,cs,T,⟨hg.1,by rw[←hT.1];exact hg.2⟩,e,hh,hs⟩
 |.ar E xs dep,v,hb,⟨te,cs,e1,e2,h3,h⟩=>⟨te,cs,e1,e2,h3,by
  simp only[AV.upto] at hb;rw[X.evs_upto hE hS xs hb,hA] at h;exact h⟩
 |.pt pin i E a,v,hb,⟨⟨te,A,m,cap,e1,e2,h3⟩,h⟩=>by
  simp only[AV.upto,gnB] at hb;exact⟨⟨te,A,m,cap,e1,e2,fun hn=>by rw[←X.ev_upto hE hS i hb.1];exact h3 hn⟩,AV.pd_upto hE hS hA hT a v hb.2 h⟩
 |.sn t a,v,hb,⟨e,h⟩=>⟨by rw[←hT.2.1];exact e,AV.pd_upto hE hS hA hT a v (by simpa[AV.upto] using hb) h⟩
 | .el o r i a, v, hb, ⟨⟨h1, h2⟩, h3⟩ => by
  simp only[AV.upto,gnB] at hb;refine⟨⟨?_,?_⟩,AV.pd_upto hE hS hA hT a v hb.2.2 h3⟩
  ·unfold ql4 at h1⊢;rw[←X.ev_upto hE hS i hb.2.1];exact h1
  ·cases o with
   |none=>trivial
   |some e=>
    have hb1:=hb.1;simp only[qqr,gnB] at hb1;have h2:qfd c p w r i e:=h2
    show qfd c' p w r i e
    unfold qfd at h2⊢;rw[←X.ev_upto hE hS i hb.2.1,←X.ev_upto hE hS e.x hb1.1,←X.ev_upto hE hS e.y hb1.2,←hA];exact h2
 |.hd r E x,v,hb,h=>by
  simp only[AV.upto] at hb
  show qs1 c' p w r E x v
  have h:qs1 c p w r E x v:=h;unfold qs1 at h⊢;rw[←X.ev_upto hE hS x hb];exact h
 |.wf k j x t own dep a,v,hb,⟨h1,h2⟩=>by
  simp only[AV.upto,gnB] at hb;refine⟨?_,AV.pd_upto hE hS hA hT a v hb.2 h2⟩;unfold qr6 at h1⊢;rw[←X.ev_upto hE hS x hb.1,←hA];exact h1
 |.fr T a,v,hb,⟨g,u,ha,hf,e,hh,h⟩=>⟨g,u,by rw[←hA];exact ha,hf,e,hh,AV.pd_upto hE hS hA hT a u (by simpa[AV.upto] using hb) h⟩
 |.ff f T1 x1 t1 T2 x2 t2 dep,v,hb,⟨g,cs1,cs2,e,ha,hb2,hfr,hg,hg2,r1,r2⟩=>by
  simp only[AV.upto,gnB] at hb;rw[X.ev_upto hE hS x1 hb.1,hA] at r1;rw[X.ev_upto hE hS x2 hb.2,hA] at r2;rw[hA] at ha hb2;rw[hT.2.2] at hfr;exact⟨g,cs1,cs2,e,ha,hb2,hfr,hg,hg2,r1,r2⟩
theorem qdf(hE:∀k,k<n→c.v.E k=c'.v.E k)(hS:c.v.S=c'.v.S)(hA:c.A=c'.A)(hT:c.At=c'.At∧c.snap=c'.snap∧c.F=c'.F):∀(l:List AV)(vs:List Value),q8o n l=true→pds c p w l vs→pds c' p w l vs
 |[],vs,_,h=>h
 |a::l,vs,hb,⟨v,r,e,ha,hl⟩=>by
  simp only[q8o,gnB] at hb;exact⟨v,r,e,AV.pd_upto hE hS hA hT a v hb.1 ha,qdf hE hS hA hT l r hb.2 hl⟩
end
theorem ju.upto(hE:∀k,k<n→c.v.E k=c'.v.E k)(hS:c.v.S=c'.v.S)(hA:c.A=c'.A)(hT:c.At=c'.At∧c.snap=c'.snap∧c.F=c'.F){k:Nat}{e:Ent}(hb:X.upto n e.x=true)(h:ju c p w k e):ju c' p w k e:=by
 obtain⟨g,cs,T,hg,hh,hty,hc⟩:=h;rw[X.ev_upto hE hS e.x hb,hA] at hc;exact⟨g,cs,T,hg,hh,hty,hc⟩
end
def reN(ren:List (Nat×Nat))(x:Nat):Nat:=match lkA ren x with
 |some y=>y
 |none=>x
def reO(ren:List (Nat×Nat))(own:List (Nat×Nat)):List (Nat×Nat):=own.map fun e=>(e.1,reN ren e.2)
def reD(ren:List (Nat×Nat))(dep:List Nat):List Nat:=dep.map (reN ren)
mutual
def AV.re(r:List (Nat×Nat)):AV→AV
 |.v x t own dep=>.v x t (reO r own) (reD r dep)
 |.rd x t dep wr=>.rd x t (reD r dep) (match wr with|some (pin,s)=>some (reN r pin,s)|none=>none)
 |.tup l=>.tup (qvz r l)
 |.gd cs a=>.gd cs (AV.re r a)
 |.fn f l=>.fn f (qvz r l)
 |.bx k T a=>.bx k T (AV.re r a)
 |.fr T a=>.fr T (AV.re r a)
 |.ff f T1 x1 t1 T2 x2 t2 dep=>.ff f T1 x1 t1 T2 x2 t2 (reD r dep)
 |.sn t a=>.sn t (AV.re r a)
 |.wf _ _ _ _ _ _ a=>AV.re r a
 |.el _ _ _ a=>AV.re r a
 |.hd _ _ _=>.any
 |.pt pin i E a=>.pt (reN r pin) i E (AV.re r a)
 |.ar E xs dep=>.ar E xs (reD r dep)
 |.lv k t=>.lv k t
 |.ax k T n a=>.ax k T n (AV.re r a)
 |.any=>.any
 |.undef=>.undef
 |.nilS=>.nilS
 |.nb x neg=>.nb x neg
 |.nilP=>.nilP
 |.ref k q o t=>.ref k q o t
def qvz(r:List (Nat×Nat)):List AV→List AV
 |[]=>[]
 |a::l=>AV.re r a::qvz r l
end
def Ent.re(r:List (Nat×Nat))(e:Ent):Ent:=⟨e.x,e.t,reO r e.own,reD r e.dep⟩
def St.re(r:List (Nat×Nat))(σ:St):St:=⟨σ.t.map fun e=>(e.1,e.2.re r),σ.m.map fun e=>(e.1,e.2.re r)⟩
structure ReOk(r:List (Nat×Nat))(p p':qe):Prop where
 to:∀x b,p x=some b→p' (reN r x)=some b
 of:∀y b,p' y=some b→∃x,p x=some b∧y=reN r x
 key:∀k,reN r (k * 16)=k * 16
 old:reN r q0d=q0d
section
variable{r:List (Nat×Nat)}{A:Bk}{F:Flr}{p p':qe}{w:World}(hr:ReOk r p p')
include hr
theorem FFD.re{dep:List Nat}{b:Nat}(h:FFD A p dep b):FFD A p' (reD r dep) b:=by
 rcases h with⟨ha,hf⟩|⟨x,hx,e⟩|⟨hm,hao⟩
 ·refine .inl ⟨ha,fun y hy=>?_⟩;obtain⟨x,hx,-⟩:=hr.of y b hy;exact hf x hx
 ·exact .inr (.inl ⟨reN r x,uU hx,hr.to x b e⟩)
 ·exact .inr (.inr ⟨by have:=uU (f:=reN r) hm;rwa [hr.old] at this,hao⟩)
omit hr in
theorem qnm{own:List (Nat×Nat)}{j:Nat}:lkA (reO r own) j=(lkA own j).map (reN r):=by
 induction own with
 |nil=>rfl
 | cons e l ih =>
  obtain⟨i,x⟩:=e;by_cases h:i=j
  ·subst h
   show lkA ((i,reN r x)::reO r l) i=_
   rw[qa,qa];rfl
  ·show lkA ((i,reN r x)::reO r l) j=_
   rw[qb h,qb h,ih]
theorem Rd.re{dep:List Nat}{d:D}{t:Ty}{cs:List Value}(h:Rd w (FFD A p dep) d t cs):Rd w (FFD A p' (reD r dep)) d t cs:=Rd.mono (fun b _ hb=>hb.re hr) h
theorem Fl.re{dep:List Nat}{o:Option Nat}{d:D}{t:Ty}{cs:List Value}(h:Fl A p w dep o d t cs):Fl A p' w (reD r dep) (o.map (reN r)) d t cs:=by
 cases o with
 |none=>exact Rd.re hr h
 | some pin =>
  rcases h.symm with⟨K,V,kt,vt,l,g,es,clock,e1,hK,hV,e2,e3,hg,hh,hl⟩|⟨E,te,l,v,e1,hte,e2,e3,hv⟩
  ·exact .inr ⟨K,V,kt,vt,l,g,es,clock,e1,hK,hV,e2,e3,hr.to _ _ hg,hh,hl⟩
  refine .inl ⟨E,te,l,v,e1,hte,e2,e3,?_⟩;rcases hv with hv|⟨g,cap,cur,e4,hg,hh,q1,q2,q3,q4,q5⟩
  ·exact .inl hv
  ·refine .inr ⟨g,cap,cur,e4,hr.to _ _ hg,hh,q1,q2,q3,q4,fun i hi=>?_⟩;obtain⟨vs,hr1,hd⟩:=q5 i hi;exact⟨vs,hr1,Rd.re hr hd⟩
theorem Fls.re{dep:List Nat}{own:List (Nat×Nat)}:∀{ds:List D}{j:Nat}{fs:List Ty}{cs:List Value},Fls A p w dep own j ds fs cs→Fls A p' w (reD r dep) (reO r own) j ds fs cs
 |[],_,_,_,h=>h
 |d::ds,j,fs,cs,⟨t,ts,c1,c2,e1,e2,h1,h2⟩=>⟨t,ts,c1,c2,e1,e2,by rw[qnm];exact Fl.re hr h1,Fls.re h2⟩
theorem Con.re{dep:List Nat}{own:List (Nat×Nat)}{d:D}{t:Ty}{cs:List Value}(h:Con A p w d t own dep cs):Con A p' w d t (reO r own) (reD r dep) cs:=by
 unfold Con at h⊢;split
 ·obtain⟨fs,ds,hf,e,h⟩:=h;exact⟨fs,ds,hf,e,Fls.re hr h⟩
 ·rename_i hne;split at h
  ·rename_i T;exact absurd rfl (hne T)
  ·rw[qnm];exact Fl.re hr h
end
section
variable{r:List (Nat×Nat)}{c:Cx}{p p':qe}{w:World}
mutual
theorem AV.re_ok(hr:ReOk r p p'):∀(x:AV)(v:Value),x.pd c p w v→(x.re r).pd c p' w v
 |.any,v,h=>h
 |.undef,v,h=>h
 |.nilS,v,h=>h
 |.nb x neg,v,h=>h
 |.nilP,v,h=>h
 |.ref k q o t,v,⟨g,hg,e,ha⟩=>⟨g,by have:=hr.to _ _ hg;rwa [hr.key] at this,e,ha⟩
 |.v x t own dep,v,⟨cs,hp,hc⟩=>⟨cs,hp,hc.re hr⟩
 |.rd x t dep wr,v,⟨b,o,cs,e,hf,hrg,h0,hd,hw⟩=>by
  refine⟨b,o,cs,e,hf.re hr,hrg,h0,Rd.re hr hd,?_⟩
  match wr,hw with
  |none,_=>trivial
  |some (pin,i,pt,q,te),hw=>exact⟨hr.to _ _ hw.1,hw.2⟩
 |.tup l,v,⟨vs,e,h⟩=>⟨vs,e,qht hr l vs h⟩
 |.gd cs a,v,h=>⟨fun hc=>AV.re_ok hr a v (h.1 hc),h.2⟩
 |.fn f l,v,⟨vs,e,h⟩=>⟨vs,e,qht hr l vs h⟩
 |.bx k T a,v,⟨g,u,hg,e,hh,h⟩=>⟨g,u,⟨by have:=hr.to _ _ hg.1;rwa [hr.key] at this,hg.2⟩,e,hh,AV.re_ok hr a u h⟩
 |.ax k T n a,v,⟨g,u,hg,e,hh,hn,h⟩=>⟨g,u,⟨by have:=hr.to _ _ hg.1;rwa [hr.key] at this,hg.2⟩,e,hh,hn,AV.re_ok hr a (.agg u) h⟩
 |.sn t a,v,⟨e,h⟩=>⟨e,AV.re_ok hr a v h⟩
 |.wf _ _ _ _ _ _ a,v,h=>AV.re_ok hr a v h.2
 |.el _ _ _ a,v,h=>AV.re_ok hr a v h.2
 |.hd _ _ _,v,h=>trivial
 |.lv k t,v,⟨g,cs,T,hg,e,hh,hs⟩=>⟨g,cs,T,⟨by have:=hr.to _ _ hg.1;rwa [hr.key] at this,hg.2⟩,e,hh,hs⟩
 |.ar E xs dep,v,⟨te,cs,e1,e2,h3,h⟩=>⟨te,cs,e1,e2,h3,fun j d hj=>Rd.re hr (h j d hj)⟩
 | .pt pin i E a, v, ⟨⟨te, A, n, cap, e1, e2, h3⟩, h⟩ => ⟨⟨te, A, n, cap, e1, e2, fun hn => by
   obtain⟨g,hg,e⟩:=h3 hn;exact⟨g,hr.to _ _ hg,e⟩⟩,AV.re_ok hr a v h⟩
 |.fr T a,v,⟨g,u,ha,hf,e,hh,h⟩=>⟨g,u,ha,fun y hy=>by obtain⟨x,hx,-⟩:=hr.of y g hy;exact hf x hx,e,hh,AV.re_ok hr a u h⟩
 |.ff f T1 x1 t1 T2 x2 t2 dep,v,⟨g,cs1,cs2,e,ha,hb,hfr,hg,hg2,r1,r2⟩=>⟨g,cs1,cs2,e,⟨ha.1,fun y hy=>by obtain⟨x,hx,-⟩:=hr.of y g hy;exact ha.2 x hx⟩,⟨hb.1,fun y hy=>by obtain⟨x,hx,-⟩:=hr.of y _ hy;exact hb.2 x hx⟩,hfr,hg,hg2,Rd.mono (fun b _ h=>⟨h.1.re hr,h.2⟩) r1,Rd.mono (fun b _ h=>⟨h.1.re hr,h.2⟩) r2⟩
theorem qht(hr:ReOk r p p'):∀(l:List AV)(vs:List Value),pds c p w l vs→pds c p' w (qvz r l) vs
 |[],vs,h=>h
 |a::l,vs,⟨v,rr,e,ha,hl⟩=>⟨v,rr,e,AV.re_ok hr a v ha,qht hr l rr hl⟩
end
theorem SF.re(hr:ReOk r p p'){σ:St}{a:Act}(h:SF c σ p w a):SF c (σ.re r) p' w a:=by
 refine⟨fun t x hx=>?_,fun k e he=>?_⟩
 ·obtain⟨y,hy,rfl⟩:=q08 hx;obtain⟨v,h1,h2⟩:=h.t t y hy;exact⟨v,h1,AV.re_ok hr y v h2⟩
 ·obtain⟨e',he',rfl⟩:=q08 he;obtain⟨g,cs,T,hg,hh,hty,hc⟩:=h.m k e' he';exact⟨g,cs,T,by have:=hr.to _ _ hg;rwa [hr.key] at this,hh,hty,hc.re hr⟩
theorem Bs.re(hr:ReOk r p p'){A:Bk}{F:Flr}{w0:World}{S0:Nat→Prop}(h:Bs A F w0 S0 p w):Bs A F w0 S0 p' w:=
  ⟨fun x y b hx hy=>by
    obtain⟨x',e1,rfl⟩:=hr.of x b hx;obtain⟨y',e2,rfl⟩:=hr.of y b hy;rw[h.inj x' y' b e1 e2],
   fun x b hx=>let ⟨x',e1,_⟩:=hr.of x b hx;h.bd x' b e1,h.but,fun x b hx=>let ⟨x',e1,_⟩:=hr.of x b hx;h.pin x' b e1,h.new,fun x b hx=>let ⟨x',e1,_⟩:=hr.of x b hx;h.pa x' b e1,fun x b hx=>let ⟨x',e1,_⟩:=hr.of x b hx;h.obj x' b e1,h.flo,h.sp,h.uf⟩
end
def reQ(r:List (Nat×Nat)):Nat→Bool:=fun y=>qr (r.map (·.2)) y&& !qr (r.map (·.1)) y
def reP(r:List (Nat×Nat))(p:qe):qe:=fun y=>match lkA (r.map fun e=>(e.2,e.1)) y with
 |some x=>p x
 |none=>if qr (r.map (·.1)) y then none else p y
def reB(r:List (Nat×Nat)):Bool:=ye (r.map (·.1))&&(ye (r.map (·.2))&&r.all fun e=> !Nat.beq (e.1 % 16) 0&&(!Nat.beq (e.2 % 16) 0&& !Nat.beq e.1 q0d))
theorem qqh{r:List (Nat×Nat)}(h:reB r=true){p:qe}:ReOk r (unP (reQ r) p) (reP r (unP (reQ r) p)):=by
 simp only[reB,gnB] at h;obtain⟨h1,h2,h3⟩:=h;have hmem:∀{x y:Nat},lkA r x=some y→(x,y)∈r:=fun h=>y3 h;refine⟨fun x b hx=>?_,fun y b hy=>?_,fun k=>?_,?_⟩
 ·obtain⟨hq,hx'⟩:=yr hx;unfold reN;cases hl:lkA r x with
  |some y=>
   show reP r _ y=_
   unfold reP;rw[q3z (l:=r.map fun e=>(e.2,e.1)) (by rw[kA];exact h2) (q:=y) (x:=x) (uJ.2 ⟨_,hmem hl,rfl⟩)];exact hx
  | none =>
   show reP r _ x=_
   have hn1:qr (r.map (·.1)) x=false:=by
    cases hh:qr (r.map (·.1)) x with
    |false=>rfl
    |true=>
     obtain⟨e,he,rfl⟩:=uJ.1 (qz.1 hh);rw[q3z h1 (q:=e.1) (x:=e.2) he] at hl;cases hl
   have hn2:qr (r.map (·.2)) x=false:=by
    unfold reQ at hq;rw[hn1] at hq;simpa using hq
   unfold reP;cases hl2:lkA (r.map fun e=>(e.2,e.1)) x with
   |some z=>
    obtain⟨e,he,e1⟩:=uJ.1 (y3 hl2);injection e1 with e1 e2;have:qr (r.map (·.2)) x=true:=qz.2 (uJ.2 ⟨e,he,e1⟩);rw[this] at hn2;cases hn2
   |none=>
    simp only[hn1];exact hx
 ·unfold reP at hy;split at hy
  ·rename_i x hl;obtain⟨e,he,e1⟩:=uJ.1 (y3 hl);injection e1 with e1 e2;subst e1 e2;exact⟨e.1,hy,by unfold reN;rw[q3z h1 (q:=e.1) (x:=e.2) he]⟩
  ·rename_i hl;split at hy
   ·cases hy
   ·rename_i hn;refine⟨y,hy,?_⟩;unfold reN;cases hl2:lkA r y with
    |none=>rfl
    |some z=>exact absurd (qz.2 (uJ.2 ⟨_,hmem hl2,rfl⟩)) hn
 ·unfold reN;cases hl:lkA r (k * 16) with
  |none=>rfl
  |some y=>
   have:=uI.1 h3 _ (hmem hl);simp at this
 ·unfold reN;cases hl:lkA r q0d with
  |none=>rfl
  |some y=>
   have:=uI.1 h3 _ (hmem hl);simp at this
def St.ren(r:List (Nat×Nat))(σ:St):St:=match r with
 |[]=>σ
 |_=>(σ.un (reQ r)).re r
theorem qhd{r:List (Nat×Nat)}(h:reB r=true){c:Cx}{w0 w:World}{S0:Nat→Prop}{p:qe}{σ:St}{a:Act}(hb:Bs c.A c.F w0 S0 p w)(hf:SF c σ p w a):∃p',Bs c.A c.F w0 S0 p' w∧SF c (σ.ren r) p' w a:=by
 cases r with
 |nil=>exact⟨p,hb,hf⟩
 |cons e r=>
  have hb1:=hb.un (reQ (e::r));have hf1:=SF.un (q:=reQ (e::r)) hb.inj hb.pa hf;exact⟨_,Bs.re (qqh h) hb1,SF.re (qqh h) hf1⟩
end
end Go.Proofs.Ytokkfpalbpnpeaa
