/-
 Lemmas of the walk and plain laws, put together. No condition.
-/
import Derived.CallsIn
import Derived.ControlIn
import Derived.Laws.EntriesVeiled
import Derived.LoopIn
import Derived.LoopN
import Derived.LoopNIn
import Derived.Orders
import Derived.OrdersIn
import Derived.OwnWalkIn
import Derived.RangeFuncBox
import Derived.RangeFuncCalls
import Derived.RangeFuncLeaves
import Derived.Scope
import Derived.Shelf.Abstract
import Derived.TacticsIn
import Derived.TacticsInMore
import Derived.Test.YtbmaffphliignaaKb
namespace Go.Proofs.Ytbmaffphliignaa
open Go.RowKit
set_option linter.unusedVariables false
set_option linter.unusedSimpArgs false
set_option maxRecDepth 100000
open _root_.Go.Proofs.Try renaming prog→uA
open _root_.List renaming all_eq_true→uB,mem_cons_self→uC,mem_cons_of_mem→uD,mem_append_right→uI,mem_append_left→uK,mem_cons→uM,mem_map→uN,map_cons→uQ,drop_eq_getElem_cons→uR,head?_cons→uS,getElem?_map→uT,getElem?_toArray→uV,mem_of_getElem?→uW,mem_filter→uZ,drop_eq_nil_of_le→kB,filter_cons→kF,mem_iff_getElem→kI,mem_map_of_mem→kJ,getElem?_cons_succ→kP,map_map→kR,range→kZ,isEmpty_iff→vD,eq_nil_iff_forall_not_mem→vE,any_eq_true→vF,all_cons→vM,range'→vP,not_mem_nil→vW,cons_append→vX,mem_append→vZ,map_append→jA,foldr_cons→jB,mem_range→jC
open _root_.Nat renaming beq→uE,shiftLeft→uL,shiftRight→uX,land→uY,one_shiftLeft→kC,lt_or_ge→kD,le_of_ble_eq_true→kE,blt_eq→kH,blt→kM,le_refl→kO,testBit_and→kT,testBit_two_pow→kW,ble→vB,beq_refl→vC,testBit_or→vL,sub_zero→vN,lor→vO,zero_le→vR,eq_of_testBit_eq→vS,beq_eq→vU,zero_add→jD,le_trans→jE,testBit→jF
open _root_.Option.some renaming injEq→uF
open _root_.Bool renaming not_eq_true'→uG,or_eq_true→kA,or_eq_true_iff→kK,and_eq_true_iff→kV,true_and→kX,false_or→kY,or_eq_false_iff→vQ
open _root_.Array renaming size_setIfInBounds→uH,getElem?_setIfInBounds_ne→uP,getElem?_setIfInBounds→uU,getD_eq_getD_getElem?→kL,getElem?_toList→kS,getElem?_setIfInBounds_self_of_lt→kU,getElem?_setIfInBounds_self→vA,getElem?_eq_some_iff→vG,getD→vH,ext'→vI,getElem?_eq_getElem→vK,replicate→vY
open _root_.Option renaming bind_eq_some_iff→uJ,map_eq_some_iff→uO,map_some→kQ,isSome_iff_exists→vJ,bind_some→vT
open _root_.Prod.mk renaming injEq→kG,inj→kN
section
def q2s(ren:List (Nat×Nat))(p p':z0):z0:=fun y=>match lkA (ren.map fun e=>(e.2,e.1)) y with
 |some q=>p' q
 |none=>p y
def q21(pass:List (Nat×Nat))(p:z0):z0:=fun q=>match lkA pass q with
 |some pin=>p pin
 |none=>none
theorem qll{ren:List (Nat×Nat)}{p p':z0}(hn:q0b (ren.map (·.2))=true){q y:Nat}(h:(q,y)∈ren):q2s ren p p' y=p' q:=by
 unfold q2s;rw[qb9 hn h]
theorem qfs{ren:List (Nat×Nat)}{p p':z0}{y:Nat}(h:∀q,(q,y)∉ren):q2s ren p p' y=p y:=by
 unfold q2s;split
 ·rename_i q hq;exact absurd (qrz hq) (h q)
 ·rfl
theorem q1f{ren:List (Nat×Nat)}{p p':z0}{y b:Nat}(h:q2s ren p p' y=some b):(∃q,(q,y)∈ren∧p' q=some b)∨((∀q,(q,y)∉ren)∧p y=some b):=by
 by_cases hx:∃q,(q,y)∈ren
 ·left;unfold q2s at h;split at h
  ·rename_i q hq;exact⟨q,qrz hq,h⟩
  ·rename_i hno;obtain⟨q,hq⟩:=hx;have hm:(y,q)∈ren.map fun e=>(e.2,e.1):=uN.2 ⟨_,hq,rfl⟩;exfalso;clear h hq
   induction ren with
   |nil=>cases hm
   | cons e l ih =>
    rw[uQ] at hno hm;by_cases he:e.2=y
    ·subst he;rw[q9] at hno;cases hno
    ·rw[qb he] at hno;rcases uM.1 hm with h|h
     ·injection h with h1 h2;exact he h1.symm
     ·exact ih hno h
 ·right;have hx':∀q,(q,y)∉ren:=fun q hq=>hx ⟨q,hq⟩;rw[qfs hx'] at h;exact⟨hx',h⟩
section
variable{c:Cx}{p p':z0}{w w' w0:World}{S0:Nat→Prop}{a:Act}{σ σ':St}{cs:List (X×Bool)}{o:Oper}{d:List Deferred}{z:Nat}
structure Cl(c:Cx)(w0:World)(S0:Nat→Prop)(p:z0)(w:World)(dep:List Nat)(pass ren:List (Nat×Nat))(p':z0)(w':World):Prop where
 hb:Bs c.A c.F w0 S0 p w
 n1:q0b (ren.map (·.1))=true
 n2:q0b (ren.map (·.2))=true
 sub:∀y,y∈pass→y∈ren
 npass:∀q x,(q,x)∈ren→(q,x)∉pass→p x=none
 hdep:∀x∈dep,∀q,(q,x)∉pass
 post:Bs (fun b=>FFD c.A p dep b∨pinned (q21 pass p) b∨w.heap.size≤b) .no w (pinned (q21 pass p)) p' w'
 flo:Flo c.F w0 w'
theorem q70{pass:List (Nat×Nat)}{q b:Nat}(h:q21 pass p q=some b):∃pin,(q,pin)∈pass∧p pin=some b:=by
 unfold q21 at h;split at h
 ·rename_i pin hp;exact⟨pin,jv hp,h⟩
 ·cases h
theorem q8q{pass:List (Nat×Nat)}(hn:q0b (pass.map (·.1))=true){q pin:Nat}(h:(q,pin)∈pass):q21 pass p q=p pin:=by
 unfold q21;rw[q95 hn h]
theorem z2p{l:List (Nat×Nat)}(hn:q0b (l.map (·.1))=true){q x y:Nat}(h1:(q,x)∈l)(h2:(q,y)∈l):x=y:=gnI ((q95 hn h1).symm.trans (q95 hn h2))
theorem Cl.bs{dep:List Nat}{pass ren:List (Nat×Nat)}(h:Cl c w0 S0 p w dep pass ren p' w'):Bs c.A c.F w0 S0 (q2s ren p p') w':=by
 have hsz:w0.heap.size≤w.heap.size:=h.hb.but.size;have hS:∀b,pinned (q21 pass p) b→(∃q pin,(q,pin)∈pass∧p pin=some b):=fun b⟨q,hq⟩=>let ⟨pin,h1,h2⟩:=q70 hq;⟨q,pin,h1,h2⟩
 have hother:∀y b,(∀q,(q,y)∉ren)→p y=some b→¬pinned (q21 pass p) b∧b<w.heap.size:=fun y b hy hp=>⟨fun hS'=>by
  obtain⟨q,pin,h1,h2⟩:=hS b hS';obtain rfl:=h.hb.inj y pin b hp h2;exact hy q (h.sub _ h1),h.hb.bd y b hp⟩
 refine⟨fun x y b hx hy=>?_,fun x b hx=>?_,?_,fun x b hx=>?_,h.hb.new,fun x b hx=>?_,fun x b hx=>?_,h.flo⟩
 ·rcases q1f hx with⟨q1,m1,e1⟩|⟨m1,e1⟩
  ·rcases q1f hy with⟨q2,m2,e2⟩|⟨m2,e2⟩
   ·obtain rfl:=h.post.inj q1 q2 b e1 e2;exact z2p h.n1 m1 m2
   ·obtain⟨h1,h2⟩:=hother y b m2 e2;rcases h.post.pin q1 b e1 with h3|h3
    ·exact absurd h3 h1
    ·omega
  ·obtain⟨h1,h2⟩:=hother x b m1 e1;rcases q1f hy with⟨q2,m2,e2⟩|⟨m2,e2⟩
   ·rcases h.post.pin q2 b e2 with h3|h3
    ·exact absurd h3 h1
    ·omega
   ·exact h.hb.inj x y b e1 e2
 ·rcases q1f hx with⟨q1,m1,e1⟩|⟨m1,e1⟩
  ·exact h.post.bd q1 b e1
  ·have:=h.hb.bd x b e1;have:=h.post.but.size;omega
 ·refine h.hb.but.trans h.post.but fun b hb hlt=>?_;obtain⟨q,pin,h1,h2⟩:=hS b hb;exact h.hb.pin pin b h2
 ·rcases q1f hx with⟨q1,m1,e1⟩|⟨m1,e1⟩
  ·rcases h.post.pin q1 b e1 with h3|h3
   ·obtain⟨q,pin,h1,h2⟩:=hS b h3;exact h.hb.pin pin b h2
   ·exact .inr (by omega)
  ·exact h.hb.pin x b e1
 ·rcases q1f hx with⟨q1,m1,e1⟩|⟨m1,e1⟩
  ·rcases h.post.pin q1 b e1 with h3|h3
   ·obtain⟨q,pin,h1,h2⟩:=hS b h3;exact h.hb.pa pin b h2
   ·exact(h.hb.new b (by omega)).1
  ·exact h.hb.pa x b e1
 ·rcases q1f hx with⟨q1,m1,e1⟩|⟨m1,e1⟩
  ·exact h.post.obj q1 b e1
  ·obtain⟨h1,h2⟩:=hother x b m1 e1;exact(h.hb.obj x b e1).same (h.post.but.block b h2 h1)
theorem Cl.free{dep:List Nat}{pass ren:List (Nat×Nat)}(h:Cl c w0 S0 p w dep pass ren p' w'){b:Nat}(hlt:b<w.heap.size)(hf:q9h p b):¬pinned (q21 pass p) b∧q9h (q2s ren p p') b:=by
 have hn:¬pinned (q21 pass p) b:=fun⟨q,hq⟩=>by
  obtain⟨pin,h1,h2⟩:=q70 hq;exact hf pin h2
 refine⟨hn,fun y hy=>?_⟩;rcases q1f hy with⟨q1,m1,e1⟩|⟨m1,e1⟩
 ·rcases h.post.pin q1 b e1 with h3|h3
  ·exact hn h3
  ·omega
 ·exact hf y e1
theorem Cl.stab{dep:List Nat}{pass ren:List (Nat×Nat)}(h:Cl c w0 S0 p w dep pass ren p' w'){Z L:Nat→Bool}(hZ:∀x b,Z x=false→p x=some b→(∀q,(q,x)∉pass)∨w'.heap[b]? =w.heap[b]?)(hL:∀x b,L x=false→p x=some b→∀q,(q,x)∈pass→p' q=some b):Stab c.A Z L p w (q2s ren p p') w':=by
 refine⟨h.post.but.size,fun b hlt ha hf=>?_,fun x b hl hx=>?_,fun x b hz hx=>?_⟩
 ·obtain⟨h1,h2⟩:=h.free hlt hf;exact⟨h.post.but.block b hlt h1,h2⟩
 ·by_cases hr:∃q,(q,x)∈ren
  ·obtain⟨q,hq⟩:=hr;rw[qll h.n2 hq];by_cases hp:(q,x)∈pass
   ·exact hL x b hl hx q hp
   ·rw[h.npass q x hq hp] at hx;cases hx
  ·rw[qfs fun q hq=>hr ⟨q,hq⟩];exact hx
 ·rcases hZ x b hz hx with hno|hsame
  ·refine h.post.but.block b (h.hb.bd x b hx) fun⟨q,hq⟩=>?_;obtain⟨pin,h1,h2⟩:=q70 hq;obtain rfl:=h.hb.inj x pin b hx h2;exact hno q h1
  ·exact hsame
theorem Cl.ff{dep:List Nat}{pass ren:List (Nat×Nat)}(h:Cl c w0 S0 p w dep pass ren p' w'){b:Nat}(hb:FFD (fun b=>FFD c.A p dep b∨pinned (q21 pass p) b∨w.heap.size≤b) p' [] b):FFD c.A (q2s ren p p') dep b:=by
 rcases hb with⟨ha,hf⟩|⟨x,hx,-⟩
 ·have new:w.heap.size≤b→FFD c.A (q2s ren p p') dep b:=fun hle=>by
   have hsz:w0.heap.size≤w.heap.size:=h.hb.but.size;refine .inl ⟨(h.hb.new b (by omega)).1,fun y hy=>?_⟩;rcases q1f hy with⟨q1,m1,e1⟩|⟨m1,e1⟩
   ·exact hf q1 e1
   ·have:=h.hb.bd y b e1;omega
  rcases ha with ha|⟨q,hq⟩|ha
  ·rcases ha with⟨h1,h2⟩|⟨x,hx,e⟩
   ·refine .inl ⟨h1,fun y hy=>?_⟩;rcases q1f hy with⟨q1,m1,e1⟩|⟨m1,e1⟩
    ·exact hf q1 e1
    ·exact h2 y e1
   ·refine .inr ⟨x,hx,?_⟩;by_cases hr:∃q,(q,x)∈ren
    ·obtain⟨q,hq⟩:=hr;by_cases hp:(q,x)∈pass
     ·exact absurd hp (h.hdep x hx q)
     ·rw[h.npass q x hq hp] at e;cases e
    ·rw[qfs fun q hq=>hr ⟨q,hq⟩];exact e
  ·obtain⟨pin,h1,h2⟩:=q70 hq;refine .inl ⟨h.hb.pa pin b h2,fun y hy=>?_⟩;rcases q1f hy with⟨q1,m1,e1⟩|⟨m1,e1⟩
   ·exact hf q1 e1
   ·obtain rfl:=h.hb.inj y pin b e1 h2;exact m1 q (h.sub _ h1)
  ·exact new ha
 ·cases hx
theorem Cl.rel{dep:List Nat}{pass ren:List (Nat×Nat)}(h:Cl c w0 S0 p w dep pass ren p' w'){ps:List (Nat×Nat×Nat)}(hps:∀y∈ps,(y.2.1,y.2.2)∈ren):
  RelD (fun b=>FFD c.A p dep b∨pinned (q21 pass p) b∨w.heap.size≤b) p' w' [] (ps.map fun y=>(y.1,y.2.1)) c.A (q2s ren p p') w' dep (ps.map fun y=>(y.1,y.2.2)):=by
 refine⟨fun b ob hb ho=>⟨ho,h.ff hb⟩,fun j q hq=>?_,fun j hj=>?_⟩
 ·obtain⟨q',h1,h2⟩:=qjf.2 q hq;exact⟨q',h2,fun g hg=>⟨(qll h.n2 (hps _ h1)).trans hg,rfl⟩⟩
 ·cases ho:lkA (ps.map fun y=>(y.1,y.2.1)) j with
  |none=>rfl
  |some q=>
   obtain⟨pin,h1,h2⟩:=qjf.1 q ho;rw[hj] at h2;cases h2
end
theorem ql0{n k:Nat}{t:Ty}:∃ps:List (Nat×Nat×Nat),zd n t=ps.map (fun y=>(y.1,y.2.1))∧zd k t=ps.map (fun y=>(y.1,y.2.2))∧((zd n t).zip (zd k t)).map (fun e=>(e.1.2,e.2.2))=ps.map (·.2):=by
 have rows:∀(fs:List Ty)(j:Nat),∃ps:List (Nat×Nat×Nat),rowsOf n fs j=ps.map (fun y=>(y.1,y.2.1))∧rowsOf k fs j=ps.map (fun y=>(y.1,y.2.2))∧((rowsOf n fs j).zip (rowsOf k fs j)).map (fun e=>(e.1.2,e.2.2))=ps.map (·.2):=by
  intro fs
  induction fs with
  |nil=>intro j;exact⟨[],rfl,rfl,rfl⟩
  |cons t ts ih=>
   intro j;obtain⟨ps,h1,h2,h3⟩:=ih (j+1);cases t with
   |row E=>exact⟨(j,n * 16+1+j,k * 16+1+j)::ps,by simp[rowsOf,h1],by simp[rowsOf,h2],by simp only[rowsOf,List.zip_cons_cons,uQ,h3]⟩
   |int _=>exact⟨ps,h1,h2,h3⟩
   |bool=>exact⟨ps,h1,h2,h3⟩
   |str=>exact⟨ps,h1,h2,h3⟩
   |st _=>exact⟨ps,h1,h2,h3⟩
   |map _ _=>exact⟨ps,h1,h2,h3⟩
   |fnv=>exact⟨ps,h1,h2,h3⟩
 cases t with
 |row E=>exact⟨[(0,n * 16+1,k * 16+1)],rfl,rfl,rfl⟩
 |map K V=>exact⟨[(0,n * 16+1,k * 16+1)],rfl,rfl,rfl⟩
 |st S=>
  simp only[zd];cases flds S with
  |none=>exact⟨[],rfl,rfl,rfl⟩
  |some fs=>exact rows fs 0
 |int _=>exact⟨[],rfl,rfl,rfl⟩
 |bool=>exact⟨[],rfl,rfl,rfl⟩
 |str=>exact⟨[],rfl,rfl,rfl⟩
 |fnv=>exact⟨[],rfl,rfl,rfl⟩
theorem qt7{n k j:Nat}{t:Ty}:∃ps:List (Nat×Nat×Nat),zd n t=ps.map (fun y=>(y.1,y.2.1))∧shO j (zd k t)=ps.map (fun y=>(y.1,y.2.2))∧((zd n t).zip (shO j (zd k t))).map (fun e=>(e.1.2,e.2.2))=ps.map (·.2):=by
 obtain⟨ps,h1,h2,h3⟩:=ql0 (n:=n) (k:=k) (t:=t);cases j with
 |zero=>exact⟨ps,h1,h2,h3⟩
 | succ j =>
  have e2:shO (j+1) (zd k t)=(ps.map fun y=>(y.1,y.2.1,y.2.2+7)).map fun y=>(y.1,y.2.2):=by
   show(zd k t).map (fun e=>(e.1,e.2+7))=_
   rw[h2,kR,kR];rfl
  have e1:zd n t=(ps.map fun y=>(y.1,y.2.1,y.2.2+7)).map fun y=>(y.1,y.2.1):=by
   rw[h1,kR];rfl
  refine⟨_,e1,e2,?_⟩;rw[e1,e2,List.zip_map',kR];rfl
theorem z8l{j:Nat}{l:List (Nat×Nat)}{i:Nat}(h:lkA l i≠none):lkA (shO j l) i≠none:=by
 cases j with
 |zero=>exact h
 | succ j =>
  show lkA (l.map fun e=>(e.1,e.2+7)) i≠none
  induction l with
  |nil=>exact h
  | cons a l ih =>
   obtain⟨q,x⟩:=a;by_cases hq:q=i
   ·subst hq;rw[uQ,q9];exact fun e=>by cases e
   ·rw[qb hq] at h;rw[uQ,qb hq];exact ih h
section
variable{c:Cx}{p p':z0}{w w' w0:World}{S0:Nat→Prop}{a:Act}{σ σ':St}{cs:List (X×Bool)}{o:Oper}{d:List Deferred}{z:Nat}
theorem qzn{l:List D}{k j:Nat}:(l.drop k).getD j .u=l.getD (k+j) .u:=by
 simp[gnG,List.getElem?_drop]
theorem z0t{dep:List Nat}{pass ren:List (Nat×Nat)}(h:Cl c w0 S0 p w dep pass ren p' w'){n:Nat}{xs:List X}{outs:List D}(ho:(c.v.S n (X.evs c.v xs))=some outs){k:Nat}:
    ∀{rs:List (Ty×Bool)}{m j:Nat}{vs:List Value},(∀y∈qbl m k rs j,y∈ren)→qi8 (fun b=>FFD c.A p dep b∨pinned (q21 pass p) b∨w.heap.size≤b) p' w' rs m vs ((outs.drop j).take rs.length)→pds c (q2s ren p p') w' (qww n xs dep k rs j) vs
  |[],m,j,vs,_,hr=>hr
  | (t, own) :: l, m, j, vs, hy, ⟨v, r, dd, ds', e1, e2, ⟨cs, hp, hc⟩, hr⟩ => by
    subst e1;have hds:outs.drop j=dd::(outs.drop (j+1))∧ds'=(outs.drop (j+1)).take l.length:=by
      have hlt:j<outs.length:=by
        rcases kD j outs.length with h|h
        · exact h
        · rw[kB h] at e2;simp at e2
      rw[uR hlt,List.length_cons,List.take_succ_cons] at e2;injection e2 with e2 e3;exact⟨by rw[uR hlt,e2],e3.symm⟩
    obtain⟨hd1,rfl⟩:=hds;have hev:(X.call n j xs).ev c.v=dd:=by
      show((c.v.S n (X.evs c.v xs)).getD []).getD j .u=dd
      rw[ho];have:=qzn (l:=outs) (k:=j) (j:=0);rw[hd1] at this;simpa using this.symm
    refine⟨v,r,rfl,⟨cs,hp,?_⟩,z0t h ho (fun y hy'=>hy y (uI _ hy')) hr⟩;rw[hev];cases own with
    | false =>
      have:=hc.relabel (h.rel (ps:=[]) (fun y hy=>by cases hy));exact qq4 (k:=k) (b:=false) (fun hb=>by cases hb) this
    | true =>
      obtain⟨ps,h1,h2,h3⟩:=qt7 (n:=m) (k:=k) (j:=j) (t:=t);simp only[if_true] at hc⊢;rw[h1] at hc;have:=hc.relabel (h.rel (ps:=ps) fun y hy'=>hy _ (uK _ (by
        simp only[if_true];rw[h3];exact uN.2 ⟨y,hy',rfl⟩)))
      rw[←h2] at this;exact qq4 (k:=k) (b:=true) (fun _ i hi=>z8l hi) this
theorem qw0{t:Ty}{own:List (Nat×Nat)}{k:Nat}(h:qjc t own=true)(j:Nat)(hj:lkA (zd k t) j≠none):lkA own j≠none:=by
 obtain⟨ps,h1,h2,-⟩:=ql0 (n:=0) (k:=k) (t:=t);cases hq:lkA (zd k t) j with
 |none=>exact absurd hq hj
 |some y=>
  have hm:=jv hq;rw[h2] at hm;obtain⟨e,he,hx⟩:=uN.1 hm;injection hx with hx1 hx2;have h3:=uB.1 h (e.1,e.2.1) (by rw[h1];exact uN.2 ⟨e,he,rfl⟩);rw[←hx1];intro hn;have h3:(lkA own e.1).isSome=true:=h3;rw[hn] at h3;cases h3
theorem qfg{V:List AV}{i:Nat}{t:Ty}{o:Ow}{x:AV}{g0 g:Gv}(h:q81 σ V i (.ref t o) x g0=some g):∃(k:Nat)(e:Ent)(ps:List (Nat×Nat×Nat)),g=⟨e.x::g0.xs,uni e.dep g0.dep,(i * 16,k * 16)::ps.map (·.2)++g0.pass,(k,i,t,if o.lost then[] else ps.map fun y=>(y.1,y.2.2))::g0.vars⟩∧qcl (qnd o i t) e.own=some ps∧vB MB k=false:=by
 cases x with
 | ref k path oo t' =>
  cases path with
  |cons _ _=>simp[q81] at h
  | nil =>
   cases oo with
   |succ _=>simp[q81] at h
   | zero =>
    simp only[q81] at h;split at h
    ·rename_i e he;split at h
     ·rename_i hok;split at h
      ·rename_i ps hps;injection h with h;refine⟨k,e,ps,h.symm,hps,?_⟩;have h1:=(kV.1 hok).1;rw[kH] at h1;cases hb:vB MB k with
       |false=>rfl
       |true=>have:=kE hb;omega
      ·cases h
     ·cases h
    ·cases h
 |_=>simp[q81] at h
theorem qd6{V:List AV}{i:Nat}{t:Ty}{x:AV}{g0 g:Gv}(h:q81 σ V i (.mref t) x g0=some g):∃(xx:X)(pin:Nat),g=⟨xx::g0.xs,g0.dep,(i * 16+1,pin)::g0.pass,(MB+pin,i,t,[(0,pin)])::g0.vars⟩∧(q7k t||qj2 t)=true:=by
 simp only[q81] at h;split at h
 ·rename_i xx pin dep h1;split at h
  ·rename_i hmp;injection h with h;exact⟨xx,pin,h.symm,hmp⟩
  ·cases h
 ·cases h
theorem qkr(pin:Nat):vB MB (MB+pin)=true∧qdk (MB+pin)=pin:=by
 have h:vB MB (MB+pin)=true:=Nat.ble_eq_true_of_le (Nat.le_add_right _ _);exact⟨h,by unfold qdk;rw[if_pos h];omega⟩
theorem qau{V:List AV}{i:Nat}{r:Ar}(hr:∀t o,r≠.ref t o)(hr2:∀t,r≠.mref t){x:AV}{g0 g:Gv}(h:q81 σ V i r x g0=some g):g.vars=g0.vars∧∀y∈g0.pass,y∈g.pass:=by
 unfold q81 at h;split at h
 ·split at h
  ·injection h with h;subst h;exact⟨rfl,fun y hy=>hy⟩
  ·cases h
 ·exact absurd rfl (hr _ _)
 ·split at h
  ·split at h
   ·injection h with h;subst h;exact⟨rfl,fun y hy=>hy⟩
   ·cases h
  ·cases h
 ·split at h
  ·injection h with h;subst h;exact⟨rfl,fun y hy=>hy⟩
  ·cases h
 ·split at h
  ·injection h with h;subst h;exact⟨rfl,fun y hy=>hy⟩
  ·cases h
 ·split at h
  ·split at h
   ·split at h
    ·injection h with h;subst h;exact⟨rfl,fun y hy=>uI _ hy⟩
    ·cases h
   ·cases h
  ·cases h
 ·exact absurd rfl (hr2 _)
 ·injection h with h;subst h;exact⟨rfl,fun y hy=>hy⟩
 ·injection h with h;subst h;exact⟨rfl,fun y hy=>hy⟩
 ·split at h
  ·split at h
   ·injection h with h;subst h;exact⟨rfl,fun y hy=>hy⟩
   ·cases h
  ·cases h
 ·split at h
  ·injection h with h;subst h;exact⟨rfl,fun y hy=>hy⟩
  ·cases h
 ·split at h
  ·injection h with h;subst h;exact⟨rfl,fun y hy=>hy⟩
  ·cases h
 ·split at h
  ·injection h with h;subst h;exact⟨rfl,fun y hy=>hy⟩
  ·cases h
 ·cases h
theorem q7q.other{VV:List Value}{A0:Nat→Prop}{q q':z0}{W:World}{i:Nat}{r:Ar}(hr:∀t o,r≠.ref t o)(hr2:∀t,r≠.mref t){l:List (Nat×Ar)}{ds:List D}(h:q7q VV A0 q q' W ((i,r)::l) ds):q7q VV A0 q q' W l ds:=by
 cases r with
 |ref t o=>exact absurd rfl (hr t o)
 |mref t=>exact absurd rfl (hr2 t)
 |_=>exact h
theorem qj9{dep:List Nat}{pass ren:List (Nat×Nat)}(h:Cl c w0 S0 p w dep pass ren p' w')(hn:q0b (pass.map (·.1))=true){n:Nat}{xs:List X}{outs:List D}(ho:(c.v.S n (X.evs c.v xs))=some outs){V:List AV}{VV:List Value}:
    ∀{all:List (Nat×Ar)}{avs:List AV}{j:Nat}{g:Gv}{m:List (Nat×Ent)},give σ V all avs=some g→(∀y∈g.pass,y∈pass)→q7q VV (fun b=>FFD c.A p dep b∨pinned (q21 pass p) b∨w.heap.size≤b) (q21 pass p) p' w' all (outs.drop j)→
      (∀k e,lkA m k=some e→q34 c (q2s ren p p') w' k e)→∀k e,lkA (q35 n xs dep g.vars j m) k=some e→q34 c (q2s ren p p') w' k e
  | [], [], j, g, m, hg, _, _, hm => by
    simp only[give,uF] at hg;subst hg;exact hm
  | (i, r) :: l, x :: avs, j, g, m, hg, hp, hr, hm => by
    simp only[give] at hg;split at hg
    · rename_i g' hg';by_cases href:∃t o,r=.ref t o
      · obtain⟨t,o,rfl⟩:=href;obtain⟨k,e,ps,rfl,hps,hkb⟩:=qfg hg;obtain⟨dd,ds',e1,⟨g0,cs,T,q1,q2,q3,qty,q4⟩,hr⟩:=hr;obtain⟨i1,i2⟩:=qbb hps;have hlt:j<outs.length:=by
          rcases kD j outs.length with h|h
          · exact h
          · rw[kB h] at e1;cases e1
        rw[uR hlt] at e1;injection e1 with e1 e2;subst e2;have hev:(X.call n j xs).ev c.v=dd:=by
          show((c.v.S n (X.evs c.v xs)).getD []).getD j .u=dd
          rw[ho];simp[gnG,gnK hlt,e1]
        obtain⟨qs,hq1,hq2,hq3⟩:∃qs:List (Nat×Nat×Nat),(if o.lost then[] else ps.map fun y=>(y.1,y.2.2))=qs.map (fun y=>(y.1,y.2.2))∧qzc o i t=qs.map (fun y=>(y.1,y.2.1))∧∀y∈qs,y∈ps:=by
          unfold qzc;by_cases hl:o.lost=true
          · exact⟨[],by rw[if_pos hl];rfl,by rw[if_pos hl];rfl,fun y hy=>by cases hy⟩
          · exact⟨ps,by rw[if_neg hl],by rw[if_neg hl];exact i1.symm,fun y hy=>hy⟩
        have hsv:q35 n xs dep ((k,i,t,qs.map fun y=>(y.1,y.2.2))::g'.vars) j m=q35 n xs dep g'.vars (j+1) (jy m k ⟨.call n j xs,t,qs.map fun y=>(y.1,y.2.2),z0y t (qjc t (qs.map fun y=>(y.1,y.2.2))) dep⟩):=by
          rw[q35,if_neg (by rw[hkb];decide)]
        show ∀k' e',lkA (q35 n xs dep ((k,i,t,if o.lost then[] else ps.map fun y=>(y.1,y.2.2))::g'.vars) j m) k'=some e'→_
        rw[hq1,hsv];refine qj9 (all:=l) (g:=g') h hn ho hg' (fun y hy=>hp y (uD _ (uI _ hy))) hr fun k' e' he'=>?_;by_cases hkk:k=k'
        · subst hkk;rw[q1b] at he';injection he' with he';subst he';refine⟨g0,cs,T,(qll h.n2 (h.sub _ (hp _ uC))).trans q2,q3,qty,?_⟩
          show Con c.A _ w' ((X.call n j xs).ev c.v) t _ _ _
          rw[hev];rw[hq2] at q4;have:=q4.relabel (h.rel (ps:=qs) fun y hy=>h.sub _ (hp _ (uD _ (uK _ (uN.2 ⟨y,hq3 y hy,rfl⟩)))));exact qq4 (k:=i) (fun hne=>qw0 hne) this
        · rw[q3w hkk] at he';exact hm k' e' he'
      by_cases hmref:∃t,r=.mref t
      · obtain⟨t,rfl⟩:=hmref;obtain⟨xx,pin,rfl,-⟩:=qd6 hg;obtain⟨dd,ds',e1,-,hr⟩:=hr;have hlt:j<outs.length:=by
          rcases kD j outs.length with h|h
          · exact h
          · rw[kB h] at e1;cases e1
        rw[uR hlt] at e1;injection e1 with e1 e2;subst e2;have hsv:q35 n xs dep ((MB+pin,i,t,[(0,pin)])::g'.vars) j m=q35 n xs dep g'.vars (j+1) m:=by
          rw[q35,if_pos (qkr pin).1]
        show ∀k' e',lkA (q35 n xs dep ((MB+pin,i,t,[(0,pin)])::g'.vars) j m) k'=some e'→_
        rw[hsv];exact qj9 (all:=l) (g:=g') h hn ho hg' (fun y hy=>hp y (uD _ hy)) hr hm
      · have hne:∀t o,r≠.ref t o:=fun t o e=>href ⟨t,o,e⟩;have hne2:∀t,r≠.mref t:=fun t e=>hmref ⟨t,e⟩;obtain⟨s1,s2⟩:=qau hne hne2 hg;rw[s1];exact qj9 (all:=l) (g:=g') h hn ho hg' (fun y hy=>hp y (s2 y hy)) (q7q.other hne hne2 hr) hm
    · cases hg
  |[],_::_,j,g,m,hg,_,_,_=>by simp[give] at hg
  |(_,_)::_,[],j,g,m,hg,_,_,_=>by simp[give] at hg
theorem qj8{p2:z0}{w2:World}{f:AV→Option AV}{o:List (Nat×AV)}(h:∀s x y,lkA o s=some x→f x=some y→∃v,a.tmps[s]? =some v∧y.pd c p2 w2 v):
  ∀{l acc:List (Nat×AV)},(∀s y,lkA acc s=some y→∃v,a.tmps[s]? =some v∧y.pd c p2 w2 v)→∀s y,lkA (qyi f o l acc) s=some y→∃v,a.tmps[s]? =some v∧y.pd c p2 w2 v
 |[],acc,ha=>ha
 | e :: l, acc, ha => by
  unfold qyi;split
  ·rename_i y hy;obtain⟨x,hx,hxy⟩:=uJ.1 hy;intro s z hz;by_cases hs:e.1=s
   ·subst hs;rw[q1b] at hz;injection hz with hz;subst hz;exact h _ x _ hx hxy
   ·rw[q3w hs] at hz;exact qj8 h ha s z hz
  ·exact qj8 h ha
theorem qqa{dep:List Nat}{pass ren:List (Nat×Nat)}(h:Cl c w0 S0 p w dep pass ren p' w')(hn:q0b (pass.map (·.1))=true){n:Nat}{xs:List X}{outs:List D}(ho:(c.v.S n (X.evs c.v xs))=some outs){V:List AV}{VV:List Value}(hf:SF c σ p w a){args:List Operand}(hVV:∀(i:Nat)(s:Nat),args[i]? =some (Operand.tmp s)→VV[i]? =some (a.tmps.getD s undef)):
    ∀{all:List (Nat×Ar)}{avs:List AV}{j:Nat}{g:Gv}{acc:List (Nat×AV)},give σ V all avs=some g→(∀y∈g.pass,y∈pass)→q7q VV (fun b=>FFD c.A p dep b∨pinned (q21 pass p) b∨w.heap.size≤b) (q21 pass p) p' w' all (outs.drop j)→
      (∀s y,lkA acc s=some y→∃v,a.tmps[s]? =some v∧y.pd c (q2s ren p p') w' v)→∀s y,lkA (qrm n xs args σ.t g.vars j acc) s=some y→∃v,a.tmps[s]? =some v∧y.pd c (q2s ren p p') w' v
  | [], [], j, g, acc, hg, _, _, hm => by
    simp only[give,uF] at hg;subst hg;exact hm
  | (i, r) :: l, x :: avs, j, g, acc, hg, hp, hr, hm => by
    simp only[give] at hg;split at hg
    · rename_i g' hg';have step:∀{dd:D}{ds':List D},outs.drop j=dd::ds'→j<outs.length∧ds'=outs.drop (j+1)∧(X.call n j xs).ev c.v=dd:=fun{dd ds'}e1=>by
        have hlt:j<outs.length:=by
          rcases kD j outs.length with h|h
          · exact h
          · rw[kB h] at e1;cases e1
        rw[uR hlt] at e1;injection e1 with e1 e2;refine⟨hlt,e2.symm,?_⟩
        show((c.v.S n (X.evs c.v xs)).getD []).getD j .u=dd
        rw[ho];simp[gnG,gnK hlt,e1]
      by_cases href:∃t o,r=.ref t o
      · obtain⟨t,o,rfl⟩:=href;obtain⟨k,e,ps,rfl,hps,hkb⟩:=qfg hg;obtain⟨dd,ds',e1,-,hr⟩:=hr;obtain⟨-,rfl,-⟩:=step e1
        show ∀s y,lkA (qrm n xs args σ.t ((k,i,t,ps.map fun y=>(y.1,y.2.2))::g'.vars) j acc) s=some y→_
        rw[qrm,if_neg (by rw[hkb];decide)];exact qqa (all:=l) (g:=g') h hn ho hf hVV hg' (fun y hy=>hp y (uD _ (uI _ hy))) hr hm
      by_cases hmref:∃t,r=.mref t
      · obtain ⟨t, rfl⟩ := hmref;obtain⟨xx,pin,rfl,hmp⟩:=qd6 hg;obtain⟨dd,ds',e1,hq0,hr⟩:=hr;obtain⟨-,rfl,hev⟩:=step e1;have hin:(i * 16+1,pin)∈pass:=hp _ uC;have hcof:∀{cs:List Value},Con (fun b=>FFD c.A p dep b∨pinned (q21 pass p) b∨w.heap.size≤b) p' w' dd t [(0,i * 16+1)] [] cs→Con c.A (q2s ren p p') w' ((X.call n j xs).ev c.v) t [(0,pin)] [] cs:=fun{cs}q3=>by
          rw[hev];have:=q3.relabel (h.rel (ps:=[(0,i * 16+1,pin)]) fun y hy=>by
            obtain rfl:y=(0,i * 16+1,pin):=by simpa using hy
            exact h.sub _ hin)
          obtain⟨hfo,hoa⟩:=qjp hmp;exact Con.flat1 (k:=i) (fun j' hj'=>by
            rw[hoa] at hj';by_cases h0:0=j'
            · subst h0
              show lkA [(0,pin)] 0≠none
              rw[q9];simp
            · rw[qb h0] at hj';exact absurd rfl hj') this hfo
        have hbk:∀{x y:AV}{v:Value},(∀{x:X}{dd:List Nat},(AV.v x t [(0,pin)] dd).pd c p w v→(AV.v (.call n j xs) t [(0,pin)] []).pd c (q2s ren p p') w' v)→z0h n j xs pin t x=some y→x.pd c p w v→y.pd c (q2s ren p p') w' v:=fun{x y v}one hxy h2=>by
          unfold z0h at hxy;split at hxy
          · split at hxy
            · rename_i hok;simp only[gnB] at hok;obtain⟨k1,k2⟩:=hok;obtain rfl:=gnN k1;rw[Ty.beq_iff] at k2;subst k2;injection hxy with hxy;subst hxy;exact one h2
            · cases hxy
          · split at hxy
            · rename_i hok;simp only[gnB] at hok;obtain⟨k1,k2⟩:=hok;obtain rfl:=gnN k1;rw[Ty.beq_iff] at k2;subst k2;injection hxy with hxy;subst hxy;exact⟨h2.1,one h2.2⟩
            · cases hxy
          · cases hxy
        show ∀s y,lkA (qrm n xs args σ.t ((MB+pin,i,t,[(0,pin)])::g'.vars) j acc) s=some y→_
        rw[qrm,if_pos (qkr pin).1,show MB+pin - MB=pin by omega];refine qqa (all:=l) (g:=g') h hn ho hf hVV hg' (fun y hy=>hp y (uD _ hy)) hr ?_;rcases hq0 with⟨g0,q1,q2,q3⟩|⟨hrw,v0,cs0,hv0,hpk0,q3⟩
        · have hkv:∃K V,t=.map K V:=by
            cases t with
            |map K V=>exact⟨K,V,rfl⟩
            | row E =>
              have q3':Fl _ p' w' [] (lkA [(0,i * 16+1)] 0) dd (.row E) [.map (some g0)]:=q3;rw[q9] at q3';rcases q3' with⟨E',te,l',u,e0,-,-,e1,hu⟩|⟨K1,V1,kt,vt,l',g1,es,clock,e0,-⟩
              · injection e1 with e1;subst e1;rcases hu with⟨e2,-⟩|⟨g1,cap,cur,e2,-⟩<;>cases e2
              · cases e0
            |_=>cases hmp
          obtain⟨K,V',rfl⟩:=hkv;rw[if_neg (show ¬qj2 (.map K V')=true from fun h=>by cases h)];rw[q8q hn hin] at q1;have hcon:=hcof q3;have one:∀{v:Value}{x:X}{dd:List Nat},(AV.v x (.map K V') [(0,pin)] dd).pd c p w v→(AV.v (.call n j xs) (.map K V') [(0,pin)] []).pd c (q2s ren p p') w' v:=fun{v x dd}hx=>by
            obtain⟨cs,hpk,hc⟩:=hx;have hc:Fl c.A p w dd (lkA [(0,pin)] 0) (x.ev c.v) (.map K V') cs:=hc;rw[q9] at hc;rcases hc with⟨E,te,l,u,e0,-⟩|⟨K1,V1,kt,vt,l,g1,es,clock,e0,-,-,-,rfl,hg1,-⟩
            · cases e0
            · rw[q1] at hg1;injection hg1 with hg1;subst hg1;exact⟨_,hpk,hcon⟩
          refine qj8 (fun s x y hx hxy=>?_) hm;obtain⟨v,h1,h2⟩:=hf.t s x hx;exact⟨v,h1,hbk one hxy h2⟩
        · rw[if_pos hrw];have hoa:=(qjp hmp).2 i;rw[hoa] at q3;have hcon:=hcof q3;unfold zae;split
          · rename_i s0 hs0;have hv0':∀v,a.tmps[s0]? =some v→v0=v:=fun v h1=>by
              have e:=hVV i s0 hs0;rw[hv0] at e;injection e with e;rw[e,kL,h1];rfl
            split
            · rename_i q y0 hx0;obtain⟨u,g1,g2⟩:=hf.t s0 _ hx0;have hu:=hv0' u g1;refine qj8 (fun s x y hx hxy=>?_) hm;unfold z9p at hxy;split at hxy
              · split at hxy
                · rename_i hq;obtain rfl:=gnN hq;obtain⟨v,h1,h2⟩:=hf.t s _ hx;obtain rfl:v0=v:=hu.trans (g2.1.trans h2.1.symm);exact⟨v0,h1,hbk (fun _=>⟨cs0,hpk0,hcon⟩) hxy h2⟩
                · cases hxy
              · cases hxy
            · rename_i x _ hx;split
              · rename_i y hxy;intro s z hz;by_cases hs:s0=s
                · subst hs;rw[q1b] at hz;injection hz with hz;subst hz;obtain⟨v,h1,h2⟩:=hf.t s0 x hx;obtain rfl:=hv0' v h1;exact⟨v0,h1,hbk (fun _=>⟨cs0,hpk0,hcon⟩) hxy h2⟩
                · rw[q3w hs] at hz;exact hm s z hz
              · exact hm
            · exact hm
          · exact hm
      · have hne:∀t o,r≠.ref t o:=fun t o e=>href ⟨t,o,e⟩;have hne2:∀t,r≠.mref t:=fun t e=>hmref ⟨t,e⟩;obtain⟨s1,s2⟩:=qau hne hne2 hg;rw[s1];exact qqa (all:=l) (g:=g') h hn ho hf hVV hg' (fun y hy=>hp y (s2 y hy)) (q7q.other hne hne2 hr) hm
    · cases hg
  |[],_::_,j,g,acc,hg,_,_,_=>by simp[give] at hg
  |(_,_)::_,[],j,g,acc,hg,_,_,_=>by simp[give] at hg
theorem qba{VV:List Value}{A0:Nat→Prop}{pass:List (Nat×Nat)}(hn:q0b (pass.map (·.1))=true){V:List AV}:
    ∀{all:List (Nat×Ar)}{avs:List AV}{g:Gv}{ds:List D},give σ V all avs=some g→(∀y∈g.pass,y∈pass)→q7q VV A0 (q21 pass p) p' w' all ds→∀k i' t own,(k,i',t,own)∈g.vars→(vB MB k&&qj2 t)=false→(qcv k i',qdk k)∈pass∧p' (qcv k i')=p (qdk k)
  | [], [], g, ds, hg, _, _ => by
    simp only[give,uF] at hg;subst hg;intro k i' t own hm _;cases hm
  | (i, r) :: l, x :: avs, g, ds, hg, hp, hr => by
    simp only[give] at hg;split at hg
    · rename_i g' hg';by_cases href:∃t o,r=.ref t o
      · obtain⟨t,o,rfl⟩:=href;obtain⟨k,e,ps,rfl,hps,hkb⟩:=qfg hg;obtain⟨dd,ds',e1,⟨g0,cs,T,q1,q2,q3,qty,q4⟩,hr⟩:=hr;intro k' i' t2 own hm hst;rcases uM.1 hm with hm|hm
        · injection hm with m1 m2;injection m2 with m2 m3;subst m1 m2;have hin:(i' * 16,k' * 16)∈pass:=hp _ uC;have hpn:qdk k'=k' * 16:=by unfold qdk;rw[if_neg (by rw[hkb];decide)]
          have hpc:qcv k' i'=i' * 16:=by unfold qcv;rw[if_neg (by rw[hkb];decide)]
          rw[hpn,hpc];refine⟨hin,?_⟩;rw[q8q hn hin] at q1;rw[q1,q2]
        · exact qba (all:=l) (g:=g') hn hg' (fun y hy=>hp y (uD _ (uI _ hy))) hr k' i' t2 own hm hst
      by_cases hmref:∃t,r=.mref t
      · obtain⟨t,rfl⟩:=hmref;obtain⟨xx,pin,rfl,-⟩:=qd6 hg;obtain⟨dd,ds',e1,hq0,hr⟩:=hr;intro k' i' t2 own hm hst;rcases uM.1 hm with hm|hm
        · injection hm with m1 m2;injection m2 with m2 m3;injection m3 with m3 m4;subst m1 m2 m3;rw[(qkr pin).1,kX] at hst;obtain⟨g0,q1,q2,-⟩:=hq0.resolve_right fun h=>by rw[h.1] at hst;cases hst
          have hin:(i' * 16+1,pin)∈pass:=hp _ uC;have hpc:qcv (MB+pin) i'=i' * 16+1:=by unfold qcv;rw[if_pos (qkr pin).1]
          rw[(qkr pin).2,hpc];refine⟨hin,?_⟩;rw[q8q hn hin] at q1;rw[q1,q2]
        · exact qba (all:=l) (g:=g') hn hg' (fun y hy=>hp y (uD _ hy)) hr k' i' t2 own hm hst
      · have hne:∀t o,r≠.ref t o:=fun t o e=>href ⟨t,o,e⟩;have hne2:∀t,r≠.mref t:=fun t e=>hmref ⟨t,e⟩;obtain⟨s1,s2⟩:=qau hne hne2 hg;rw[s1];exact qba (all:=l) (g:=g') hn hg' (fun y hy=>hp y (s2 y hy)) (q7q.other hne hne2 hr)
    · cases hg
  |[],_::_,g,ds,hg,_,_=>by simp[give] at hg
  |(_,_)::_,[],g,ds,hg,_,_=>by simp[give] at hg
theorem qzr{avs V:List AV}{ct:Ct}(h:qu2 σ avs ct=some V):qof σ avs (ct.vr.map (·.1))=some V∧avs.length=ct.ar.length:=by
 unfold qu2 at h;split at h
 ·rename_i V' hV;split at h
  ·rename_i hok;injection h with h;subst h;simp only[gnB] at hok;exact⟨hV,gnN hok.1⟩
  ·cases h
 ·cases h
theorem qoo{f:FuncId}{avs V:List AV}:∀{tbl:Tbl}{n m:Nat}{ct:Ct},qfm σ f avs tbl n=some (m,ct,V)→∃i,m=n+i∧∃g,tbl[i]? =some (ct,g)∧ct.f=f∧qu2 σ avs ct=some V
 |[],n,m,ct,h=>by cases h
 | e :: l, n, m, ct, h => by
  unfold qfm at h;have go:∀{n m:Nat}{ct:Ct},qfm σ f avs l (n+1)=some (m,ct,V)→∃i,m=n+i∧∃g,(e::l)[i]? =some (ct,g)∧ct.f=f∧qu2 σ avs ct=some V:=fun h=>by
   obtain⟨i,h1,g,h2,h3⟩:=qoo h;exact⟨i+1,by omega,g,by simpa using h2,h3⟩
  split at h
  ·rename_i hok;split at h
   ·rename_i V' hV;injection h with h;injection h with h1 h2;injection h2 with h2 h3;subst h1 h2 h3;exact⟨0,rfl,e.2,rfl,gnN hok,hV⟩
   ·exact go h
  ·exact go h
theorem qw2{l:List AV}{vs:List Value}(h:pds c p w l vs):l.length=vs.length:=by
 induction l generalizing vs with
 |nil=>rw[h];rfl
 |cons a l ih=>
  obtain⟨v,r,rfl,-,hl⟩:=h;simp[ih hl]
theorem z6d{l m:List AV}:∀{vs us:List Value},pds c p w l vs→pds c p w m us→pds c p w (l++m) (vs++us):=by
 induction l with
 |nil=>intro vs us h1 h2;cases h1;exact h2
 |cons a l ih=>
  rintro vs us⟨v,r,rfl,h1,h2⟩h3;exact⟨v,r++us,rfl,h1,ih h2 h3⟩
theorem qyw(hf:SF c σ p w a)(hc:hold c.v cs=true){y:Operand}{args:List Operand}{f:FuncId}{avs:List AV}(h:qvy σ cs y args=some (f,avs)):
  ∃caps,a.eval y=.func (.func f) #[] caps.toArray∧pds c p w avs (args.map a.eval++caps):=by
 unfold qvy at h;split at h
 ·rename_i f' l r hy hr;simp only[gnS] at h;obtain⟨rfl,rfl⟩:=h;obtain⟨vs,e,hl⟩:=qv hf hc hy;exact⟨vs,e,z6d (qjg hf hc hr) hl⟩
 ·rename_i x own dep r hy hr;split at h
  ·rename_i n hx;split at h
   ·rename_i hn;simp only[gnS] at h;obtain⟨rfl,rfl⟩:=h;obtain⟨cs,hp,hcon⟩:=qv hf hc hy;have h1:=Con.rd (dep':=dep++own.map (·.2)) hcon (fun x hx=>uK _ hx) (fun x hx=>uI _ hx);rw[qxb hx] at h1;have hp:cs=[a.eval y]:=hp;rcases h1 with⟨k,e,-⟩|⟨-,e⟩
    ·cases e
    ·have e2:a.eval y=fnV n:=by
      rw[hp] at e;injection e
     refine⟨[],?_,?_⟩
     ·rw[e2,fnV,if_neg (by have:=of_decide_eq_true hn;omega)]
     ·rw[List.append_nil];exact qjg hf hc hr
   ·cases h
  ·cases h
 ·cases h
theorem qy3{tbl:Tbl}(hS:HS c tbl){xs:List X}{t:Ty}:∀{fl:List (Nat×Nat×Ty)}{x:X},z5v tbl xs fl t=some x→x.says c.v→∃k j,(k,j,t)∈fl∧(k=999∨c.F.mx t≤((((X.evs c.v xs).getD k .u).fld j).rs.length))
  |[],x,h,_=>by cases h
  | (k, j, t') :: l, x, h, hx => by
    unfold z5v at h;split at h
    · rename_i ht;rw[Ty.beq_iff] at ht;subst ht;split at h
      · rename_i hk;exact⟨k,j,uC,.inl (gnN hk)⟩
      split at h
      · rename_i y b hy hb;injection h with h;subst h;refine⟨k,j,uC,.inr ?_⟩;have h1:=jd hx;rw[q2n] at h1;obtain⟨n,hn,rfl⟩:=uO.1 hb;have h2:=hS.f t';unfold flM at h2;rw[hn] at h2;have h3:(X.call n 0 []).ev c.v=((yx tbl n []).getD []).getD 0 .u:=by
          show((c.v.S n []).getD []).getD 0 .u=_
          rw[hS.s]
        rw[h3] at h1;have h4:((X.fld y j).ev c.v)=(((X.evs c.v xs).getD k .u).fld j):=by
          have:(X.evs c.v xs).getD k .u=y.ev c.v:=by
            rw[gnG,qxe hy];rfl
          rw[this];rfl
        rw[h4] at h1;have h5:(((yx tbl n []).getD []).getD 0 .u).int≤((((X.evs c.v xs).getD k .u).fld j).rs.length:Int):=h1;simp only at h2;omega
      · cases h
    · obtain⟨k',j',h1,h2⟩:=qy3 hS h hx;exact⟨k',j',uD _ h1,h2⟩
theorem qw8{tbl:Tbl}(hS:HS c tbl){xs:List X}{fl:List (Nat×Nat×Ty)}:∀{l:List Ty}{r:List X},z58 tbl xs fl l=some r→(∀n∈r,n.says c.v)→∀t∈l,∃k j,(k,j,t)∈fl∧(k=999∨c.F.mx t≤((((X.evs c.v xs).getD k .u).fld j).rs.length))
 |[],r,h,_,t,ht=>by cases ht
 | t :: l, r, h, hr, u, hu => by
  unfold z58 at h;split at h
  ·rename_i x r' h1 h2;injection h with h;subst h;rcases uM.1 hu with rfl|hu
   ·exact qy3 hS h1 (hr _ uC)
   ·exact qw8 hS h2 (fun n hn=>hr n (uD _ hn)) u hu
  ·cases h
theorem z93{tbl:Tbl}(hS:HS c tbl){ct:Ct}{xs:List X}{pass:List (Nat×Nat)}{fs:List X}(h:flC tbl ct xs pass=some fs)(hn:∀n∈fs,n.says c.v)(hw:Flo c.F w0 w):∃F0,qd5 ct F0 (X.evs c.v xs)∧Flo F0 w w∧(∀b,c.F.fr b→F0.fr b)∧∀{A':Nat→Prop}{p':z0}{w':World},Bs A' F0 w (pinned (q21 pass p)) p' w'→Flo c.F w0 w':=by
 unfold flC at h;split at h
 ·rename_i h0;have hz:∀te,c.F.mx te=0:=fun te=>hS.zero (by rw[h0];simp);exact⟨c.F,qd5.of0 hz,hw.anew,fun _ h=>h,fun{A' p' w'}_=>Flo.of0 hz hw⟩
 ·split at h
  ·rename_i hp;have hp:pass=[]:=by simpa using hp
   subst hp;refine⟨.no,qd5.of0 fun _=>rfl,Flo.no,fun _ _=>trivial,fun{A' p' w'}hb=>hw.same fun k hk _=>hb.but.block k hk ?_⟩;rintro⟨q,hq⟩;cases hq
  ·refine⟨c.F,fun te=>?_,hw.anew,fun _ h=>h,fun{A' p' w'}hb=>hw.trans hb.flo⟩;by_cases ht:te∈qtu tbl
   ·exact .inr (qw8 hS h hn te ht)
   ·exact .inl (hS.zero ht)
theorem qz5{tbl:Tbl}(htb:q16 tbl)(hS:HS c tbl)(hb:Bs c.A c.F w0 S0 p w)(hf:SF c σ p w a)(hc:hold c.v cs=true)(hd:a.defers=d)(hz:a.tmps.size=z){k:Nat}(hk:k<z){y:Operand}{args:List Operand}
  {ns:List X}(h:qml tbl σ cs k y args=some (ns,σ'))(hn:∀n∈ns,n.says c.v):∃(e:Ct×(List D→Option (List D)))(A0:Nat→Prop)(F0:Flr)(p0:z0)(caps us:List Value)(ds outs:List D),e∈tbl∧a.eval y=.func (.func e.1.f) #[] caps.toArray∧e.2 ds=some outs∧qd5 e.1 F0 ds∧Flo F0 w w∧Pre e.1.ar.length A0 F0 p0 w∧(args.map a.eval++caps).length=e.1.ar.length∧y9 (args.map a.eval++caps++us) A0 p0 w e.1.all (args.map a.eval++caps++us) ds∧
  (∀w',But (pinned p0) w w'→But S0 w0 w')∧∀rs p' w',Bs A0 F0 w (pinned p0) p' w'→qi8 A0 p' w' e.1.rs e.1.ar.length rs (outs.take e.1.rs.length)→q7q (args.map a.eval++caps++us) A0 p0 p' w' e.1.all (outs.drop e.1.rs.length)→Kpt e.1.kp p0 p' w w'→j9 c w0 S0 d z σ' (a.put (some k) (qkk rs)) w':=by
 unfold qml at h;simp only at h;split at h
 ·rename_i f avs hfa;split at h
  ·rename_i n ct V hct;split at h
   ·rename_i g hg;split at h
    ·rename_i hok;simp only[gnB] at hok;obtain⟨n1,n2,n3,n4,n5⟩:=hok;obtain⟨fs,hfs,h⟩:=uO.1 h;simp only[kG] at h;obtain⟨rfl,rfl⟩:=h;have hb1:=hb.un (z5 k);have hf1:=SF.un (q:=z5 k) hb.inj hb.pa hf;obtain⟨caps,hev,hvs⟩:=qyw hf1 hc hfa;obtain⟨i,hi,gs,hgs,hcf,hfit⟩:=qoo hct;obtain⟨hvirt,hlen⟩:=qzr hfit;obtain⟨us,hVV⟩:=qse hf1 hvirt hvs;obtain rfl:n=i:=by omega
     have hfok:=htb _ (uW hgs);have hsome:∃outs,c.v.S n (X.evs c.v g.xs)=some outs:=by
      have h1:=hn (.ok n g.xs) (by simp);have h2:(c.v.S n (X.evs c.v g.xs)).isSome=true:=h1;exact vJ.1 h2
     obtain⟨outs,houts⟩:=hsome;have hgo:gs (X.evs c.v g.xs)=some outs:=by
      have:=houts;rw[hS.s] at this;unfold yx at this;rw[hgs] at this;exact this
     have nd1:q0b (g.pass.map (·.1))=true:=by
      have:∀(l m:List (Nat×Nat)),q0b ((l++m).map (·.1))=true→q0b (l.map (·.1))=true:=by
       intro l m
       induction l with
       |nil=>intro _;rfl
       | cons e l ih =>
        intro h;simp only[vX,uQ,q0b,gnB,uG] at h⊢;refine⟨?_,ih h.2⟩;cases hq:zx (l.map (·.1)) e.1 with
        |false=>rfl
        |true=>
         have:zx ((l++m).map (·.1)) e.1=true:=y3.2 (by rw[jA];exact uK _ (y3.1 hq));rw[this] at h;cases h.1
      exact this _ _ n1
     have nd2:q0b (g.pass.map (·.2))=true:=by
      have:∀(l m:List (Nat×Nat)),q0b ((l++m).map (·.2))=true→q0b (l.map (·.2))=true:=by
       intro l m
       induction l with
       |nil=>intro _;rfl
       | cons e l ih =>
        intro h;simp only[vX,uQ,q0b,gnB,uG] at h⊢;refine⟨?_,ih h.2⟩;cases hq:zx (l.map (·.2)) e.2 with
        |false=>rfl
        |true=>
         have:zx ((l++m).map (·.2)) e.2=true:=y3.2 (by rw[jA];exact uK _ (y3.1 hq));rw[this] at h;cases h.1
      exact this _ _ n2
     have hdz:∀x∈g.dep,∀q,(q,x)∉g.pass:=fun x hx q hq=>by
      have h1:=uB.1 n3 x hx;have h2:zx (g.pass.map (·.2)) x=true:=y3.2 (uN.2 ⟨_,hq,rfl⟩);simp only[inL,h2] at h1;cases h1
     have hpk:∀q x,(q,x)∈g.pass→x / 16≠k∧(q / 16<ct.ar.length∨VB≤q / 16):=fun q x hq=>by
      have h1:=uB.1 n4 _ hq;simp only[gnB,uG,kA] at h1;exact⟨fun e=>by rw[e] at h1;simp at h1,h1.2.imp (fun h=>by simpa[kH] using h) fun h=>kE h⟩
     have hgP:∀q b,q21 g.pass (unP (z5 k) p) q=some b→∃pin,(q,pin)∈g.pass∧unP (z5 k) p pin=some b:=fun q b hq=>q70 hq
     -- the callee
     obtain⟨F0,hF1,hF2,hFr,hF3⟩:=z93 hS hfs (fun n hm=>hn n (uD _ hm)) hb.flo (pass:=g.pass) (p:=unP (z5 k) p);have hpre:Pre ct.ar.length (fun b=>FFD c.A (unP (z5 k) p) g.dep b∨pinned (q21 g.pass (unP (z5 k) p)) b∨w.heap.size≤b) F0 (q21 g.pass (unP (z5 k) p)) w:=by
      refine⟨fun x y b hx hy=>?_,fun x b hx=>?_,fun x b hx=>.inr (.inl ⟨x,hx⟩),fun x b hx=>?_,fun b hb'=>⟨.inr (.inr hb'),hFr b (hb.new b (jE hb.but.size hb')).2⟩,fun x b hx=>?_⟩
      ·obtain⟨px,m1,e1⟩:=hgP x b hx;obtain⟨py,m2,e2⟩:=hgP y b hy;obtain rfl:=hb1.inj px py b e1 e2;exact gnI ((qb9 nd2 m1).symm.trans (qb9 nd2 m2))
      ·obtain⟨px,m1,e1⟩:=hgP x b hx;exact hb1.bd px b e1
      ·obtain⟨px,m1,e1⟩:=hgP x b hx;exact hb1.obj px b e1
      ·obtain⟨px,m1,e1⟩:=hgP x b hx;exact(hpk x px m1).2
     have hargs:=qy2 hf1 hVV (A0:=fun b=>FFD c.A (unP (z5 k) p) g.dep b∨pinned (q21 g.pass (unP (z5 k) p)) b∨w.heap.size≤b) (p0:=q21 g.pass (unP (z5 k) p)) hg hVV (fun b hlt hb=>by
      refine .inl ⟨.inl hb,fun q hq=>?_⟩;obtain⟨pin,m1,e1⟩:=hgP q b hq;rcases hb with⟨-,hfr⟩|⟨x,hx,e2⟩
      ·exact hfr pin e1
      ·obtain rfl:=hb1.inj x pin b e2 e1;exact hdz x hx q m1) (fun y hy=>q8q nd1 hy)
     obtain rfl:ct.f=f:=hcf;refine⟨(ct,gs),_,F0,_,caps,us,_,outs,uW hgs,hev,hgo,hF1,hF2,hpre,by rw[←qw2 hvs];exact hlen,hargs,fun w' hbut=>hb.but.trans hbut fun b hb2 hlt=>?_,fun rs p' w' hpost hres hrefs hkp=>?_⟩
     ·obtain⟨q,hq⟩:=hb2;obtain⟨pin,m1,e1⟩:=hgP q b hq;exact hb1.pin pin b e1
     have hcl:Cl c w0 S0 (unP (z5 k) p) w g.dep g.pass (g.pass++qbl ct.ar.length k ct.rs) p' w':=
      ⟨hb1,n1,n2,fun y hy=>uK _ hy,fun q x hq hnp=>by
       rcases vZ.1 hq with h|h
       ·exact absurd h hnp
       ·have h1:=uB.1 n5 _ h;have h2:=gnN h1;unfold unP;rw[if_pos (by unfold z5;rw[h2];simp)],hdz,hpost.no,hF3 hpost⟩
     have hsame:=qba nd1 hg (fun y hy=>hy) hrefs;have hlost:∀x q,(q,x)∈g.pass→¬q∈ct.kp→x∈qa5 ct g.pass:=fun x q hq hn=>uN.2 ⟨(q,x),uZ.2 ⟨hq,by
      cases hh:zx ct.kp q with
      |true=>exact absurd (y3.1 hh) hn
      |false=>rfl⟩,rfl⟩
     have hstab:=hcl.stab (Z:=inL (qa5 ct g.pass)) (L:=inL ((qa5 ct g.pass).filter fun x=> !zx (qm1 g.vars) x)) (fun x b hx hxb=>by
      by_cases hq:∃q,(q,x)∈g.pass
      ·obtain⟨q,hq⟩:=hq;by_cases hk:q∈ct.kp
       ·exact .inr (hkp q hk b ((q8q nd1 hq).trans hxb)).2
       ·have:zx (qa5 ct g.pass) x=true:=y3.2 (hlost x q hq hk);simp only[inL,this] at hx;cases hx
      ·exact .inl fun q h=>hq ⟨q,h⟩) (fun x b hl hx q hq=>by
      by_cases hk:q∈ct.kp
      ·exact(hkp q hk b ((q8q nd1 hq).trans hx)).1
      have hin:x∈qa5 ct g.pass:=hlost x q hq hk;have hv:zx (qm1 g.vars) x=true:=by
       cases hv:zx (qm1 g.vars) x with
       |true=>rfl
       |false=>
        have:zx ((qa5 ct g.pass).filter fun x=> !zx (qm1 g.vars) x) x=true:=y3.2 (uZ.2 ⟨hin,by rw[hv];rfl⟩);simp only[inL,this] at hl;cases hl
      obtain⟨⟨k',i',t',own'⟩,hm,e1⟩:=uN.1 (y3.1 hv);simp only at e1;subst e1;obtain⟨hm,hst⟩:=uZ.1 hm;obtain⟨h1,h2⟩:=hsame k' i' t' own' hm ((uG _).mp hst);obtain rfl:q=qcv k' i':=gnI ((qb9 nd2 hq).symm.trans (qb9 nd2 h1));rw[h2];exact hx)
     have hkeep:=hf1.keep hstab;have hVVa:∀(i:Nat)(s:Nat),args[i]? =some (Operand.tmp s)→(args.map a.eval++caps++us)[i]? =some (a.tmps.getD s undef):=fun i s hi=>by
      have hil:=(gnH.1 hi).1;rw[List.append_assoc,List.getElem?_append_left (by simpa using hil),uT,hi];rfl
     refine⟨_,hcl.bs,?_,hd,by simp only[Act.put,uH];exact hz⟩;have hvars:=qj9 hcl nd1 houts (j:=ct.rs.length) hg (fun y hy=>hy) hrefs hkeep.m;have hbak:=qqa hcl nd1 houts hf1 (args:=args) hVVa (j:=ct.rs.length) hg (fun y hy=>hy) hrefs hkeep.t;have hsf:SF c ⟨qrm n g.xs args (σ.un (z5 k)).t g.vars ct.rs.length (q62 (inL (qa5 ct g.pass)) (inL ((qa5 ct g.pass).filter fun x=> !zx (qm1 g.vars) x)) (σ.un (z5 k)).t),q35 n g.xs g.dep g.vars ct.rs.length (q80 (inL (qa5 ct g.pass)) (inL ((qa5 ct g.pass).filter fun x=> !zx (qm1 g.vars) x)) (σ.un (z5 k)).m)⟩ (q2s (g.pass++qbl ct.ar.length k ct.rs) (unP (z5 k) p) p') w' a:=⟨hbak,hvars⟩;refine hsf.put (by rw[hz];exact hk) ?_;have hresv:=z0t hcl houts (k:=k) (j:=0) (fun y hy=>uI _ hy) (by simpa using hres);have hlen:=qw2 hresv;cases hl:qww n g.xs g.dep k ct.rs 0 with
     |nil=>
      rw[hl] at hresv;have:rs=[]:=hresv;subst this;exact⟨[],rfl,rfl⟩
     | cons x l =>
      rw[hl] at hresv;cases l with
      |nil=>
       obtain⟨v,r,rfl,hx,hr0⟩:=hresv;have:r=[]:=hr0;subst this;exact hx
      |cons y l=>
       obtain⟨v,r,rfl,hx,v2,r2,rfl,hy,hr0⟩:=hresv;exact⟨v::v2::r2,rfl,v,_,rfl,hx,v2,r2,rfl,hy,hr0⟩
    ·cases h
   ·cases h
  ·cases h
 ·cases h
theorem qr0{tbl:Tbl}(htb:q16 tbl)(hS:HS c tbl)(hb:Bs c.A c.F w0 S0 p w)(hf:SF c σ p w a)(hc:hold c.v cs=true)(hd:a.defers=d)(hz:a.tmps.size=z){k:Nat}(hk:k<z)(hdst:o.dst=some k){y:Operand}{args:Array Operand}{tys:Array TypeId}(heq:o.op=.call {callee:=.value y,args:=args,argTypes:=tys})
  {ns:List X}(h:qml tbl σ cs k y args.toList=some (ns,σ'))(hn:∀n∈ns,n.says c.v){Q:Exit→Act→World→Prop}(hQ:qeq tbl w0 S0 d Q):o.wp uA a w (j9 c w0 S0 d z σ') Q:=by
 obtain⟨⟨ct,gs⟩,A0,F0,p0,caps,us,ds,outs,hmem,hev,hgo,hfl,hfo,hpre,hlen,hargs,hbw,hafter⟩:=qz5 htb hS hb hf hc hd hz hk h hn;have hfok:=htb _ hmem;have hcalls:=hfok.callK _ F0 _ w _ _ _ outs hgo hfl hfo hpre hlen hargs;have hrun:(execOp a.eval o).run uA w=.ok (.enter ct.f (args.toList.map a.eval++caps).toArray) w:=by
  have hen:=hfok.enter (args.toList.map a.eval++caps).toArray w;have hmap:args.map a.eval++caps.toArray=(args.toList.map a.eval++caps).toArray:=by apply vI;simp
  rw[←hmap] at hen⊢;generalize a.eval=r at *;simp[execOp,heq,resolve,Deferred.ofValue,hev,invoke,hen]
 unfold Oper.wp;rw[hrun]
 show Calls uA ct.f _ w _
 refine Calls.mono hcalls ?_;rintro e w'(⟨T,hT,ho2,rfl,hbut⟩|⟨rs,p',rfl,hpost,hres,hrefs,hkp⟩)
 ·exact hQ _ hmem T hT ⟨_,hgo.trans (by rw[ho2])⟩ a w' hd (hbw w' hbut)
 show j9 c w0 S0 d z _ (a.put o.dst (qkk rs)) w'
 rw[hdst];exact hafter rs p' w' hpost hres hrefs hkp
end
end
section
def qcn:List (Nat×Nat)→List (Nat×Nat)→Bool
 |[],[]=>true
 |a::l,b::m=>uE a.1 b.1&&(uE a.2 b.2&&qcn l m)
 |_,_=>false
def q9x:List Nat→List Nat→Bool
 |[],[]=>true
 |a::l,b::m=>uE a b&&q9x l m
 |_,_=>false
def qqi:List (X×Bool)→List (X×Bool)→Bool
 |[],[]=>true
 |a::l,b::m=>X.beq a.1 b.1&&((a.2==b.2)&&qqi l m)
 |_,_=>false
def wrB:Option (Nat×X×List Nat×Nat×Ty)→Option (Nat×X×List Nat×Nat×Ty)→Bool
 |none,none=>true
 |some (a,b,c,d,e),some (a',b',c',d',e')=>uE a a'&&(X.beq b b'&&(q9x c c'&&(uE d d'&&Ty.beq e e')))
 |_,_=>false
theorem q8w:∀{l m:List (Nat×Nat)},qcn l m=true→l=m
  |[],[],_=>rfl
  | (a, b) :: l, (c, d) :: m, h => by
    simp only[qcn,gnB] at h;rw[gnN h.1,gnN h.2.1,q8w h.2.2]
  |[],_::_,h=>by cases h
  |_::_,[],h=>by cases h
theorem q32:∀{l m:List Nat},q9x l m=true→l=m
 |[],[],_=>rfl
 |a::l,c::m,h=>by
  simp only[q9x,gnB] at h;rw[gnN h.1,q32 h.2]
 |[],_::_,h=>by cases h
 |_::_,[],h=>by cases h
theorem qoc:∀{l m:List (X×Bool)},qqi l m=true→l=m
  |[],[],_=>rfl
  | (a, b) :: l, (c, d) :: m, h => by
    simp only[qqi,gnB,beq_iff_eq] at h;rw[X.beq_ok _ _ h.1,h.2.1,qoc h.2.2]
  |[],_::_,h=>by cases h
  |_::_,[],h=>by cases h
theorem z95{a b:Option (Nat×X×List Nat×Nat×Ty)}(h:wrB a b=true):a=b:=by
 unfold wrB at h;split at h
 ·rfl
 ·simp only[gnB] at h;obtain⟨h1,h2,h3,h4,h5⟩:=h;rw[gnN h1,X.beq_ok _ _ h2,q32 h3,gnN h4,(Ty.beq_iff _ _).1 h5]
 ·cases h
mutual
def AV.beq:AV→AV→Bool
 |.any,.any=>true
 |.undef,.undef=>true
 |.v x t own dep,.v x' t' own' dep'=>X.beq x x'&&(Ty.beq t t'&&(qcn own own'&&q9x dep dep'))
 |.nilS,.nilS=>true
 |.nb x n,.nb y m=>X.beq x y&&(n==m)
 |.nilP,.nilP=>true
 |.ref k p o t,.ref k' p' o' t'=>uE k k'&&(q9x p p'&&(uE o o'&&Ty.beq t t'))
 |.rd x t dep wr,.rd x' t' dep' wr'=>X.beq x x'&&(Ty.beq t t'&&(q9x dep dep'&&wrB wr wr'))
 |.tup l,.tup l'=>quj l l'
 |.gd c a,.gd c' a'=>qqi c c'&&AV.beq a a'
 |.fn f l,.fn f' l'=>uE f f'&&quj l l'
 |.bx k T a,.bx k' T' a'=>uE k k'&&(uE T T'&&AV.beq a a')
 |.fr T a,.fr T' a'=>uE T T'&&AV.beq a a'
 |.ff f T1 x1 t1 T2 x2 t2 dep,.ff f' T1' x1' t1' T2' x2' t2' dep'=>uE f f'&&(uE T1 T1'&&(X.beq x1 x1'&&(Ty.beq t1 t1'&&(uE T2 T2'&&(X.beq x2 x2'&&(Ty.beq t2 t2'&&q9x dep dep'))))))
 |.sn T a,.sn T' a'=>uE T T'&&AV.beq a a'
 |.wf k j x t own dep a,.wf k' j' x' t' own' dep' a'=>uE k k'&&(uE j j'&&(X.beq x x'&&(Ty.beq t t'&&(qcn own own'&&(q9x dep dep'&&AV.beq a a')))))
 |.pt p i E a,.pt p' i' E' a'=>uE p p'&&(X.beq i i'&&(uE E E'&&AV.beq a a'))
 |.ar E xs dep,.ar E' xs' dep'=>uE E E'&&(X.beqs xs xs'&&q9x dep dep')
 |.lv k t,.lv k' t'=>uE k k'&&Ty.beq t t'
 |.ax k T n a,.ax k' T' n' a'=>uE k k'&&(uE T T'&&(uE n n'&&AV.beq a a'))
 |_,_=>false
def quj:List AV→List AV→Bool
 |[],[]=>true
 |a::l,b::m=>AV.beq a b&&quj l m
 |_,_=>false
end
mutual
theorem AV.beq_ok:∀(x y:AV),AV.beq x y=true→x=y
 |.any,y,h=>by cases y<;>first|rfl|(simp[AV.beq] at h)
 |.undef,y,h=>by cases y<;>first|rfl|(simp[AV.beq] at h)
 |.nilS,y,h=>by cases y<;>first|rfl|(simp[AV.beq] at h)
 |.nb x n,y,h=>by
  cases y<;>simp only[AV.beq,gnF,gnB,beq_iff_eq] at h;rw[X.beq_ok _ _ h.1,h.2]
 |.nilP,y,h=>by cases y<;>first|rfl|(simp[AV.beq] at h)
 |.v x t own dep,y,h=>by
  cases y<;>simp only[AV.beq,gnF,gnB] at h;rw[X.beq_ok _ _ h.1,(Ty.beq_iff _ _).1 h.2.1,q8w h.2.2.1,q32 h.2.2.2]
 |.ref k p o t,y,h=>by
  cases y<;>simp only[AV.beq,gnF,gnB] at h;rw[gnN h.1,q32 h.2.1,gnN h.2.2.1,(Ty.beq_iff _ _).1 h.2.2.2]
 |.rd x t dep wr,y,h=>by
  cases y<;>simp only[AV.beq,gnF,gnB] at h;rw[X.beq_ok _ _ h.1,(Ty.beq_iff _ _).1 h.2.1,q32 h.2.2.1,z95 h.2.2.2]
 |.tup l,y,h=>by
  cases y<;>simp only[AV.beq,gnF] at h;rw[qq2 l _ h]
 |.gd c a,y,h=>by
  cases y<;>simp only[AV.beq,gnF,gnB] at h;rw[qoc h.1,AV.beq_ok a _ h.2]
 |.fn f l,y,h=>by
  cases y<;>simp only[AV.beq,gnF,gnB] at h;rw[gnN h.1,qq2 l _ h.2]
 |.bx k T a,y,h=>by
  cases y<;>simp only[AV.beq,gnF,gnB] at h;rw[gnN h.1,gnN h.2.1,AV.beq_ok a _ h.2.2]
 |.fr T a,y,h=>by
  cases y<;>simp only[AV.beq,gnF,gnB] at h;rw[gnN h.1,AV.beq_ok a _ h.2]
 |.ff f T1 x1 t1 T2 x2 t2 dep,y,h=>by
  cases y<;>simp only[AV.beq,gnF,gnB] at h;obtain⟨h0,h1,h2,h3,h4,h5,h6,h7⟩:=h;rw[gnN h0,gnN h1,X.beq_ok _ _ h2,(Ty.beq_iff _ _).1 h3,gnN h4,X.beq_ok _ _ h5,(Ty.beq_iff _ _).1 h6,q32 h7]
 |.pt pin i E a,y,h=>by
  cases y<;>simp only[AV.beq,gnF,gnB] at h;rw[gnN h.1,X.beq_ok _ _ h.2.1,gnN h.2.2.1,AV.beq_ok a _ h.2.2.2]
 |.ar E xs dep,y,h=>by
  cases y<;>simp only[AV.beq,gnF,gnB] at h;rw[gnN h.1,X.beqs_ok _ _ h.2.1,q32 h.2.2]
 |.ax k T n a,y,h=>by
  cases y<;>simp only[AV.beq,gnF,gnB] at h;rw[gnN h.1,gnN h.2.1,gnN h.2.2.1,AV.beq_ok a _ h.2.2.2]
 |.lv k t,y,h=>by
  cases y<;>simp only[AV.beq,gnF,gnB] at h;rw[gnN h.1,(Ty.beq_iff _ _).1 h.2]
 |.wf k j x t own dep a,y,h=>by
  cases y<;>simp only[AV.beq,gnF,gnB] at h;obtain⟨h1,h2,h3,h4,h5,h6,h7⟩:=h;rw[gnN h1,gnN h2,X.beq_ok _ _ h3,(Ty.beq_iff _ _).1 h4,q8w h5,q32 h6,AV.beq_ok a _ h7]
 |.sn T a,y,h=>by
  cases y<;>simp only[AV.beq,gnF,gnB] at h;rw[gnN h.1,AV.beq_ok a _ h.2]
theorem qq2:∀(l m:List AV),quj l m=true→l=m
 |[],m,h=>by cases m<;>simp_all [quj]
 | x :: l, m, h => by
  cases m with
  |nil=>simp[quj] at h
  |cons y m=>
   simp only[quj,gnB] at h;rw[AV.beq_ok x _ h.1,qq2 l _ h.2]
end
def Ent.beq(e f:Ent):Bool:=X.beq e.x f.x&&(Ty.beq e.t f.t&&(qcn e.own f.own&&q9x e.dep f.dep))
theorem Ent.beq_ok{e f:Ent}(h:Ent.beq e f=true):e=f:=by
 obtain⟨x,t,own,dep⟩:=e;obtain⟨x',t',own',dep'⟩:=f;simp only[Ent.beq,gnB] at h;rw[X.beq_ok _ _ h.1,(Ty.beq_iff _ _).1 h.2.1,q8w h.2.2.1,q32 h.2.2.2]
def qxp(σ:List (Nat×AV)):List (Nat×AV)→Bool
  |[]=>true
  | (t, a) :: l => (match a with
    |.any=>(lkA σ t).isSome
    | _ => match lkA σ t with
      |some b=>AV.beq b a
      |none=>false)&&qxp σ l
def qy9(σ:List (Nat×Ent)):List (Nat×Ent)→Bool
  |[]=>true
  |(t,a)::l=>(match lkA σ t with
      |some b=>Ent.beq b a
      |none=>false)&&qy9 σ l
def covers(σ τ:St):Bool:=qxp σ.t τ.t&&qy9 σ.m τ.m
section
variable{c:Cx}{p:z0}{w:World}{a:Act}{σ τ:St}
theorem qtx{l m:List (Nat×AV)}(hf:∀t x,lkA l t=some x→∃v,a.tmps[t]? =some v∧x.pd c p w v):∀{m:List (Nat×AV)},qxp l m=true→∀t x,lkA m t=some x→∃v,a.tmps[t]? =some v∧x.pd c p w v
  |[],_,t,x,h=>by cases h
  | (s, y) :: m, hs, t, x, h => by
    simp only[qxp,gnB] at hs;by_cases hst:s=t
    · subst hst;rw[q9] at h;injection h with h;subst h;have h1:=hs.1;cases hl:lkA l s with
      | none =>
        rw[hl] at h1;cases y<;>simp at h1
      | some b =>
        rw[hl] at h1;obtain⟨v,e1,e2⟩:=hf s b hl;cases y with
        |any=>exact⟨v,e1,trivial⟩
        | _ =>
          have:=AV.beq_ok _ _ h1;subst this;exact⟨v,e1,e2⟩
    · rw[qb hst] at h;exact qtx (l:=l) (m:=m) hf hs.2 t x h
theorem qsj{l:List (Nat×Ent)}(hf:∀k e,lkA l k=some e→q34 c p w k e):∀{m:List (Nat×Ent)},qy9 l m=true→∀k e,lkA m k=some e→q34 c p w k e
  |[],_,t,x,h=>by cases h
  | (s, y) :: m, hs, t, x, h => by
    simp only[qy9,gnB] at hs;by_cases hst:s=t
    · subst hst;rw[q9] at h;injection h with h;subst h;have h1:=hs.1;cases hl:lkA l s with
      |none=>rw[hl] at h1;cases h1
      | some b =>
        rw[hl] at h1;have:=Ent.beq_ok h1;subst this;exact hf s b hl
    · rw[qb hst] at h;exact qsj hf hs.2 t x h
theorem q6f(h:covers σ τ=true)(hf:SF c σ p w a):SF c τ p w a:=by
 simp only[covers,gnB] at h;exact⟨qtx (m:=τ.t) hf.t h.1,qsj hf.m h.2⟩
end
def q72:List (X×Bool)→X
 |[]=>.lit (.b true)
 |[(x,true)]=>x
 |[(x,false)]=>.not x
 |(x,b)::l=>.and (if b then x else .not x) (q72 l)
theorem qdq{e:Ev}:∀{l:List (X×Bool)},((q72 l).ev e).tt=hold e l
  |[]=>rfl
  | [(x, true)] => by
    show(x.ev e).tt=((x.ev e).tt==true&&true)
    cases (x.ev e).tt<;>rfl
  | [(x, false)] => by
    show(!(x.ev e).tt)=((x.ev e).tt==false&&true)
    cases (x.ev e).tt<;>rfl
  | (x, b) :: y :: l => by
    have ih:=qdq (e:=e) (l:=y::l);have:q72 ((x,b)::y::l)=.and (if b then x else .not x) (q72 (y::l)):=by cases b<;>rfl
    rw[this]
    show(((if b then x else X.not x).ev e).tt&&((q72 (y::l)).ev e).tt)=((x.ev e).tt==b&&hold e (y::l))
    rw[ih];cases b with
    |true=>simp
    | false =>
      show((!(x.ev e).tt)&&_)=_
      simp
def qrs(cs:List (X×Bool))(x:X):X:=match cs with
 |[]=>x
 |_=>.imp (q72 cs) x
theorem qwd{e:Ev}{cs:List (X×Bool)}{x:X}(h:(qrs cs x).says e)(hc:hold e cs=true):x.says e:=by
  unfold qrs at h;split at h
  · exact h
  · have h1:(!((q72 cs).ev e).tt||(x.ev e).tt)=true:=h;rw[qdq,hc] at h1;simpa[X.says] using h1
def isK(k:Option Nat)(t:Nat):Bool:=match k with
 |some k=>uE t k
 |none=>false
theorem z7v{k:Option Nat}{t:Nat}(h:isK k t=false):k≠some t:=fun e=>by
 subst e;have:uE t t=false:=h;rw[vC] at this;cases this
def zay(a b:AV)(k:Option Nat)(t:Nat):Bool:=AV.beq a b&& !isK k t
def z9w(f e:Ent):Bool:=Ty.beq f.t e.t&&(qcn f.own e.own&&q9x f.dep e.dep)
def q6h(cs:List (X×Bool))(k:Option Nat)(σ1:List (Nat×AV)):List (Nat×AV)→List (Nat×AV)
  |[]=>[]
  |(t,a)::l=>(match lkA σ1 t with
      |some b=>if zay b a k t then(t,a)::q6h cs k σ1 l else(t,.any)::q6h cs k σ1 l
      |none=>(q6h cs k σ1 l).filter fun y=>y.1 !=t)
def qd2(cs:List (X×Bool))(σ1:List (Nat×Ent)):List (Nat×Ent)→List (Nat×Ent)
  |[]=>[]
  |(t,e)::l=>match lkA σ1 t with
      |some f=>if z9w f e then(t,⟨if X.beq f.x e.x then e.x else .ite (q72 cs) f.x e.x,e.t,e.own,e.dep⟩)::qd2 cs σ1 l else(qd2 cs σ1 l).filter fun y=>y.1 !=t
      |none=>(qd2 cs σ1 l).filter fun y=>y.1 !=t
def merge(cs:List (X×Bool))(k:Option Nat)(σ1 σ:St):St:=
 let t:=q6h cs k σ1.t σ.t
 ⟨match k with
  |some k=>jy t k (match lkA σ1.t k with|some a=>.gd cs a|none=>.any)
  |none=>t,qd2 cs σ1.m σ.m⟩
theorem qp0{cs:List (X×Bool)}{k:Option Nat}{σ1 l:List (Nat×AV)}{t:Nat}{x:AV}(h:lkA (q6h cs k σ1 l) t=some x):(∃b a,lkA σ1 t=some b∧lkA l t=some a)∧(x=.any∨(k≠some t∧lkA σ1 t=some x∧lkA l t=some x)):=by
 induction l with
 |nil=>cases h
 | cons e l ih =>
  obtain⟨s,y⟩:=e;unfold q6h at h;by_cases hst:s=t
  ·subst hst;split at h
   ·rename_i b hb;split at h
    ·rename_i hok;simp only[zay,gnB,uG] at hok;rw[q9] at h;injection h with h;have hx:=AV.beq_ok _ _ hok.1;subst hx h;exact⟨⟨b,b,hb,q9⟩,.inr ⟨z7v hok.2,hb,q9⟩⟩
    ·rw[q9] at h;injection h with h;exact⟨⟨b,y,hb,q9⟩,.inl h.symm⟩
   ·rw[zb] at h;cases h
  ·have:lkA (q6h cs k σ1 l) t=some x:=by
    split at h
    ·split at h
     ·rw[qb hst] at h;exact h
     ·rw[qb hst] at h;exact h
    ·rw[q19 hst] at h;exact h
   obtain⟨⟨b,a,h1,h2⟩,h3⟩:=ih this;rw[qb hst];exact⟨⟨b,a,h1,h2⟩,h3⟩
theorem qo9{cs:List (X×Bool)}{σ1 l:List (Nat×Ent)}{t:Nat}{x:Ent}(h:lkA (qd2 cs σ1 l) t=some x):∃f e,lkA σ1 t=some f∧lkA l t=some e∧f.t=e.t∧f.own=e.own∧f.dep=e.dep∧x=⟨if X.beq f.x e.x then e.x else .ite (q72 cs) f.x e.x,e.t,e.own,e.dep⟩:=by
 induction l with
 |nil=>cases h
 | cons e l ih =>
  obtain⟨s,y⟩:=e;unfold qd2 at h;by_cases hst:s=t
  ·subst hst;split at h
   ·rename_i b hb;split at h
    ·rename_i hok;simp only[z9w,gnB] at hok;rw[q9] at h;injection h with h;exact⟨b,y,hb,q9,(Ty.beq_iff _ _).1 hok.1,q8w hok.2.1,q32 hok.2.2,h.symm⟩
    ·rw[zb] at h;cases h
   ·rw[zb] at h;cases h
  ·have:lkA (qd2 cs σ1 l) t=some x:=by
    split at h
    ·split at h
     ·rw[qb hst] at h;exact h
     ·rw[q19 hst] at h;exact h
    ·rw[q19 hst] at h;exact h
   rw[qb hst];exact ih this
section
variable{c:Cx}{p:z0}{w:World}{a:Act}{σ σ1:St}{cs:List (X×Bool)}
theorem qog{k:Option Nat}(hc:hold c.v cs=true)(hf:SF c σ1 p w a)(hk:∀t,k=some t→∃v,a.tmps[t]? =some v):SF c (merge cs k σ1 σ) p w a:=by
 have ht:∀t x,lkA (q6h cs k σ1.t σ.t) t=some x→∃v,a.tmps[t]? =some v∧x.pd c p w v:=fun t x hx=>by
  obtain⟨⟨b,y,h1,h2⟩,h3⟩:=qp0 hx;obtain⟨v,e1,e2⟩:=hf.t t b h1;rcases h3 with rfl|⟨-,h4,-⟩
  ·exact⟨v,e1,trivial⟩
  ·exact hf.t t x h4
 refine⟨?_,fun t x hx=>?_⟩
 ·cases k with
  |none=>exact ht
  | some k =>
   intro t x hx;have hx':lkA (jy (q6h cs (some k) σ1.t σ.t) k (match lkA σ1.t k with|some a=>.gd cs a|none=>.any)) t=some x:=hx;by_cases hkt:k=t
   ·subst hkt;rw[q1b] at hx';injection hx' with hx';subst hx';cases hl:lkA σ1.t k with
    |none=>
     obtain⟨v,hv⟩:=hk k rfl;exact⟨v,hv,trivial⟩
    |some y=>
     obtain⟨v,e1,e2⟩:=hf.t k y hl;exact⟨v,e1,(fun _=>e2),(fun h=>by rw[hc] at h;cases h)⟩
   ·rw[q3w hkt] at hx';exact ht t x hx'
 ·obtain⟨f,e,h1,h2,h3,h4,h5,rfl⟩:=qo9 hx;obtain⟨g,vs,T,hg,hh,hty,hcon⟩:=hf.m t f h1;refine⟨g,vs,T,hg,hh,h3▸hty,?_⟩;rw[h3,h4,h5] at hcon;have hev:((if X.beq f.x e.x then e.x else X.ite (q72 cs) f.x e.x).ev c.v)=f.x.ev c.v:=by
   split
   ·rename_i hb;rw[X.beq_ok _ _ hb]
   ·show(if((q72 cs).ev c.v).tt then f.x.ev c.v else e.x.ev c.v)=_
    rw[qdq,hc];rfl
  show Con c.A p w ((if X.beq f.x e.x then e.x else X.ite (q72 cs) f.x e.x).ev c.v) e.t e.own e.dep vs.toList
  rw[hev];exact hcon
theorem qrp{k:Option Nat}(hc:hold c.v cs=false)(hf:SF c σ p w a)(hk:∀t,k=some t→t<a.tmps.size):SF c (merge cs k σ1 σ) p w (a.put k Go.undef):=by
 have hput:∀t,k≠some t→(a.put k Go.undef).tmps[t]? =a.tmps[t]? :=fun t ht=>by
  cases k with
  |none=>rfl
  |some k=>exact uP (fun e=>ht (by rw[e]))
 have ht:∀t x,lkA (q6h cs k σ1.t σ.t) t=some x→∃v,(a.put k Go.undef).tmps[t]? =some v∧x.pd c p w v:=fun t x hx=>by
  obtain⟨⟨b,y,h1,h2⟩,h3⟩:=qp0 hx;obtain⟨v,e1,e2⟩:=hf.t t y h2;rcases h3 with rfl|⟨h0,-,h4⟩
  ·by_cases hkt:k=some t
   ·subst hkt;exact⟨Go.undef,kU (hk t rfl),trivial⟩
   ·exact⟨v,by rw[hput t hkt];exact e1,trivial⟩
  ·rw[hput t h0];exact hf.t t x h4
 refine⟨?_,fun t x hx=>?_⟩
 ·cases k with
  |none=>exact ht
  | some k =>
   intro t x hx;have hx':lkA (jy (q6h cs (some k) σ1.t σ.t) k (match lkA σ1.t k with|some a=>.gd cs a|none=>.any)) t=some x:=hx;by_cases hkt:k=t
   ·subst hkt;rw[q1b] at hx';injection hx' with hx';subst hx';refine⟨Go.undef,kU (hk k rfl),?_⟩;cases lkA σ1.t k with
    |none=>trivial
    |some y=>exact⟨(fun h=>by rw[hc] at h;cases h),(fun _=>rfl)⟩
   ·rw[q3w hkt] at hx';exact ht t x hx'
 ·obtain⟨f,e,h1,h2,h3,h4,h5,rfl⟩:=qo9 hx;obtain⟨g,vs,T,hg,hh,hty,hcon⟩:=hf.m t e h2;refine⟨g,vs,T,hg,hh,hty,?_⟩;have hev:((if X.beq f.x e.x then e.x else X.ite (q72 cs) f.x e.x).ev c.v)=e.x.ev c.v:=by
   split
   ·rfl
   ·show(if((q72 cs).ev c.v).tt then f.x.ev c.v else e.x.ev c.v)=_
    rw[qdq,hc];rfl
  show Con c.A p w ((if X.beq f.x e.x then e.x else X.ite (q72 cs) f.x e.x).ev c.v) e.t e.own e.dep vs.toList
  rw[hev];exact hcon
end
end
section
def FR(ro:Option Nat):Fence:={Fence.wide with round:=ro}
theorem Oper.wp_round{o:Oper}{a:Act}{w:World}{K:Act→World→Prop}{Q:Exit→Act→World→Prop}{n:Nat}(ro:Option Nat)(hnd:∀c,o.op≠.defer c)(h:o.wp uA a w K Q):
  o.wpIn (FR ro) n uA a w K Q:=by
 refine⟨fun _ _=>trivial,?_⟩;rw[show Oper.semAt (FR ro).round a.eval o=execOp a.eval o from Oper.semAt_eq _ _ _ hnd];unfold Oper.wp at h;generalize (execOp a.eval o).run uA w=r at *;cases r with
 |ok x w'=>
  cases x<;>simp only[Oper.upon,Oper.uponIn] at h⊢<;>first|exact h|skip
  case enter f args=>exact⟨fun e=>(by cases e),callsIn_wide.2 h⟩
  case row row args=>exact⟨fun e=>(by cases e),fun c cs _=>let ⟨v,w',r,s⟩:=h c cs;⟨v,w',r,stepsIn_wide.2 s⟩⟩
 |halt x w'=>cases x<;>simp only[Oper.upon,Oper.uponIn] at h⊢<;>exact h
section
variable{F:Fence}{n:Nat}{P:Program}{b:Frame}{a:Act}{k:List Item}{cs:List Frame}{w:World}{Q:Exit→Act→World→Prop}
theorem q3g{c:Code}:step P (lone (b.atR a (.code (.scope c)::k)) cs w)=.next (lone (b.atR a (.code c:: .inScope c::k)) cs w):=
 step_lone_go (by simp[stepG,stepG.exec,Frame.atR])
theorem qmr{c:Code}:step P (lone (b.atR a (.inScope c::k)) cs w)=.next (lone (b.atR a k) cs w):=
 step_lone_go (by simp[stepG,stepG.exec,Frame.atR])
theorem qc0{c:Code}(h:c.wpIn F n P (Exit.noGoto Q) a w):(Code.scope c).wpIn F n P Q a w:=by
 intro b k cs hro hb hr;have h0:(lone (b.atR a (.code (.scope c)::k)) cs w).fenced P F:=fenced_calm hb hr rfl;obtain⟨e,a₁,w₁,hq,harr⟩:=h b (.inScope c::k) cs hro hb hr;cases e with
 |normal=>exact⟨.normal,a₁,w₁,hq,.head h0 q3g (StepsIn.trans harr (.one (fenced_calm hb hr rfl) qmr))⟩
 | exit id' =>
  have hx:exitTo id' (.inScope c::k)=exitTo id' k:=by simp[exitTo]
  exact⟨.exit id',a₁,w₁,hq,fun k' hk=>.head h0 q3g (harr.1 k' (by rw[hx];exact hk)),
   fun hr' hk=>let ⟨k₁,h1,h2⟩:=harr.2 hr' (by rw[hx];exact hk);⟨k₁,h1,.head h0 q3g h2⟩⟩
 |goto l=>exact hq.elim
 |ret=>exact⟨_,a₁,w₁,hq,.of_steps (.one h0 q3g) harr⟩
 |panic ch=>exact⟨_,a₁,w₁,hq,.of_steps (.one h0 q3g) harr⟩
 |outgrown=>exact⟨_,a₁,w₁,hq,.of_steps (.one h0 q3g) harr⟩
end
end
section
def z2n:Option AV→Bool
 |some (.v _ (.int _) _ _)=>true
 |_=>false
def za2(σ:St)(cs:List (X×Bool)):Option Operand→Bool
 |none=>true
 |some y=>z2n (opd σ cs y)
def z20(σ:St)(cs:List (X×Bool))(k:Nat)(T:TypeId)(r:Option Operand):Option St:=match qw T with
 |some (.map K V)=>if za2 σ cs r then some ⟨jy (σ.un (z5 k)).t k (.v (.lit (.mp [])) (.map K V) [(0,k * 16+1)] []),(σ.un (z5 k)).m⟩ else none
 |_=>none
def qgt(pin:Nat)(K V:TypeId)(xk xv x:X)(t:Ty)(own:List (Nat×Nat))(dep:List Nat):Option X:=
 if zx dep pin then none else if zx (own.map (·.2)) pin then(match t,own with
  |.map K' V',[(0,_)]=>if uE K' K&&uE V' V then some (.fn 2 [x,xk,xv]) else none
  |_,_=>none) else some x
def qyb(pin:Nat)(K V:TypeId)(xk xv:X):AV→AV
 |.v x t own dep=>match qgt pin K V xk xv x t own dep with
  |some x'=>.v x' t own dep
  |none=>.any
 |.sn q (.v x t own dep)=>match qgt pin K V xk xv x t own dep with
  |some x'=>.sn q (.v x' t own dep)
  |none=>.any
 |a=>if okA (q17 pin) no a then a else .any
def qpb(pin:Nat)(K V:TypeId)(xk xv:X):List (Nat×Ent)→List (Nat×Ent)
  |[]=>[]
  | (k, e) :: l => match qgt pin K V xk xv e.x e.t e.own e.dep with
    |some x'=>if uE (k * 16) pin then(qpb pin K V xk xv l).filter (fun y=>y.1 !=k) else(k,⟨x',e.t,e.own,e.dep⟩)::qpb pin K V xk xv l
    |none=>(qpb pin K V xk xv l).filter fun y=>y.1 !=k
def qqd(σ:St)(cs:List (X×Bool))(T:TypeId)(m k x:Operand):Option St:=match qw T with
 | some (.map K V) => (match qw K, qw V with
  |some kt,some vt=>if zp 8 kt&&zp 8 vt then(match opd σ cs m,(opd σ cs k).bind (q3o kt),(opd σ cs x).bind (q3o vt) with
   | some (.v xm (.map K' V') [(0, pin)] _), some (xk, _, _), some (xv, _, _) => if uE K' K && uE V' V then
     some ⟨σ.t.map fun e=>(e.1,qyb pin K V xk xv e.2),qpb pin K V xk xv σ.m⟩ else none
   |_,_,_=>none) else none
  |_,_=>none)
 |_=>none
section
variable{c:Cx}{p:z0}{w w0:World}{S0:Nat→Prop}{a:Act}{σ σ':St}{cs:List (X×Bool)}{o:Oper}{d:List Deferred}{z:Nat}{A:Nat→Prop}{F:Flr}{F:Nat→Prop}
theorem z9h(hb:Bs c.A c.F w0 S0 p w)(hf:SF c σ p w a)(hc:hold c.v cs=true)(hd:a.defers=d)(hz:a.tmps.size=z){k:Nat}(hk:k<z)(hdst:o.dst=some k){T:TypeId}{r:Option Operand}(heq:o.op=.makeMap T r)(h:z20 σ cs k T r=some σ'){Q:Exit→Act→World→Prop}:
  o.wp uA a w (j9 c w0 S0 d z σ') Q:=by
 unfold z20 at h;split at h
 ·rename_i K V hT;split at h
  ·rename_i hr;injection h with h;subst h;obtain⟨hu,⟨kt,hK⟩,⟨vt,hV⟩,-⟩:=q86 hT;have hrun:(execOp a.eval o).run uA w=.ok (.value (.map (some w.heap.size))) (w.alloc (.map #[] 0)):=by
    cases r with
    |none=>simp[execOp,heq,Instr.makeMap,newObj,Sem.run]
    | some y =>
     have hy:z2n (opd σ cs y)=true:=hr;unfold z2n at hy;split at hy
     ·rename_i x k' own dep hq;obtain⟨n,-,hv,-⟩:=je (qv hf hc hq);generalize a.eval=r at *;simp[execOp,heq,Instr.makeMap,run_underlying hu,hv,newObj,asInt,asIntOf,Sem.run]
     ·cases hy
   unfold Oper.wp;rw[hrun]
   show j9 c w0 S0 d z _ (a.put o.dst _) _
   rw[hdst];have hb1:=hb.un (z5 k);have hf1:=SF.un (q:=z5 k) hb.inj hb.pa hf;have hkq:z5 k (k * 16+1)=true:=by
    unfold z5;rw[vU];omega
   have hpx:unP (z5 k) p (k * 16+1)=none:=by unfold unP;rw[if_pos hkq]
   have hst:=q4u (A:=c.A) hpx hb1.bd (.map #[] 0);refine⟨qat (unP (z5 k) p) (k * 16+1) w.heap.size,qo8 hb1 (.inr ⟨_,_,rfl⟩),?_,hd,by simp only[Act.put,uH];exact hz⟩;have hkeep:SF c (σ.un (z5 k)) (qat (unP (z5 k) p) (k * 16+1) w.heap.size) (w.alloc (.map #[] 0)) a:=by
    refine⟨fun t' y hy=>?_,fun k' e he=>?_⟩
    ·obtain⟨v,h1,h2⟩:=hf1.t t' y hy;exact⟨v,h1,AV.kept hst y v (fun _ _=>⟨rfl,rfl⟩) (fun _ _=>rfl) h2⟩
    ·exact(hf1.m k' e he).kept hst (fun _ _=>⟨rfl,rfl⟩) ⟨rfl,rfl⟩
   refine hkeep.put (t:=k) (by rw[hz];exact hk) ⟨[_],rfl,?_⟩;exact .inr ⟨K,V,kt,vt,[],w.heap.size,#[],0,rfl,hK,hV,rfl,rfl,q09,q1h rfl,trivial⟩
  ·cases h
 ·cases h
def qvr:Value→Bool
 |.int _ _=>true
 |.bool _=>true
 |.string _=>true
 |_=>false
theorem qyg:∀(n:Nat){t:Ty}{d:D}{cs:List Value},qgc n t d=some cs→∀v∈cs,qvr v=true:=by
 intro n
 induction n with
 |zero=>intro t d cs h;simp[qgc] at h
 | succ n ih =>
  intro t d cs h;unfold qgc at h;split at h
  ·cases h
  ·split at h
   ·injection h with h;subst h;intro v hv;obtain rfl:v=_:=by simpa using hv
    rfl
   ·cases h
  ·injection h with h;subst h;intro v hv;obtain rfl:v=_:=by simpa using hv
   rfl
  ·split at h
   ·injection h with h;subst h;intro v hv;obtain rfl:v=_:=by simpa using hv
    rfl
   ·cases h
  ·rename_i n' T l heq;obtain rfl:n=n':=by injection heq
   split at h
   ·rename_i fs hf;clear hf
    induction l generalizing fs cs with
    | nil =>
     cases fs with
     |nil=>
      simp only[qaq,uF] at h;subst h;intro v hv;cases hv
     |cons t ts=>simp[qaq] at h
    | cons d l ihl =>
     cases fs with
     |nil=>simp[qaq] at h
     | cons t ts =>
      unfold qaq at h;split at h
      ·rename_i a b ha hb;injection h with h;subst h;intro v hv;rcases vZ.1 hv with hv|hv
       ·exact ih ha v hv
       ·exact ihl _ hb v hv
      ·cases h
   ·cases h
  ·cases h
theorem qln{v:Value}(h:qvr v=true)(n:Nat):Instr.sameBits n v v=true:=by
  cases v<;>first|(simp[qvr] at h;done)|(simp[Instr.sameBits];done)|skip
  rename_i s;simp only[Instr.sameBits];exact(z0a s s).2 rfl
theorem z1z{t:Ty}{d:D}{v:Value}(h:qdj t d=some v):Instr.sameBits 10000 v v=true:=by
 unfold qdj at h;obtain⟨cs,h1,h2⟩:=uJ.1 h;have hp:=qyg 8 h1;unfold qxd at h2;split at h2
 ·injection h2 with h2;subst h2;simp only[Instr.sameBits,beq_self_eq_true,kX,uB];rintro⟨x,y⟩hxy;have hxy':(x,y)∈cs.zip cs:=hxy;obtain⟨i,hi,he⟩:=kI.1 hxy';simp only[List.getElem_zip,kG] at he;obtain⟨rfl,rfl⟩:=he;exact qln (hp _ (List.getElem_mem _)) _
 ·split at h2
  ·rename_i x;injection h2 with h2;subst h2;exact qln (hp _ (by simp)) _
  ·cases h2
theorem qs4{T K V:TypeId}{kt vt:Ty}(hT:qw T=some (.map K V))(hK:qw K=some kt)(hV:qw V=some vt)(hbk:zp 8 kt=true)(hbv:zp 8 vt=true){g clock:Nat}{es:Array MapEntry}(hg:w.heap[g]? =some (.map es clock)){l:List D}(hl:q7d kt vt l es.toList){kd xd:D}{ks xs:List Value}{kv xv:Value}(hd:Rd w F kd kt ks)(hp:yh kt ks kv)(hdx:Rd w F xd vt xs)(hpx:yh vt xs xv):
  ∃es' clock',(Instr.mapUpdate T (.map (some g)) kv xv).run uA w=.ok () {w with heap:=w.heap.setIfInBounds g (.map es' clock')}∧∀l',q7d kt vt l' es.toList→q7d kt vt (mset kd xd l') es'.toList:=by
 have hck:(Instr.checkKey false 10000 K kv).run uA w=.ok () w:=q9t false 8 9992 hK hbk hd hp;have hfk:=qd9 hK hbk hd hp hl.keys;have hu:=(q86 hT).1;have hek:=qug hbk hd hp;have hex:=qug hbv hdx hpx;have hsee:∀l',q7d kt vt l' es.toList→fsD kd l' es.toList 0=fsD kd l es.toList 0:=fun l' hl'=>by
  have:=(qd9 hK hbk hd hp hl'.keys).symm.trans hfk;injection this
 rcases qjl (i:=0) (kd:=kd) hl with⟨h1,h2⟩|⟨j,e,x,h1,h2,h3,h4,h5⟩
 ·rw[h1] at hfk;refine⟨es.push {key:=kv,val:=xv,born:=clock},clock+1,by simp[Instr.mapUpdate,run_underlying hu,MapKept.run_getObj_map hg,hck,hfk,MapKept.run_setObj_map _ hg,Result.andThen],fun l' hl'=>?_⟩;rw[Array.toList_push];have hq:=hsee l' hl';have hm':mfind kd l'=none:=by
   rcases qjl (i:=0) (kd:=kd) hl' with⟨-,h⟩|⟨j,e,x,h,-⟩
   ·exact h
   ·rw[hq,h1] at h;cases h
  exact qtl hek hex hl' hm' _
 ·rw[h1] at hfk;have hjl:es[j]? =some e:=by rw[←kS];exact h2
  have hkk:e.key=kv:=gnI (h3.symm.trans hek);have hsame:Instr.sameBits 10000 kv kv=true:=z1z hek;refine⟨es.modify j fun e=>{e with key:=kv,val:=xv},clock,by simp[Instr.mapUpdate,run_underlying hu,MapKept.run_getObj_map hg,hck,hfk,hjl,hkk,Instr.keyThatStays,hsame,MapKept.run_setObj_map _ hg,Result.andThen],fun l' hl'=>?_⟩;rw[Array.toList_modify];exact qt0 hek hex (i:=0) (j:=j) (v:=e.val) hl' ((hsee l' hl').trans h1)
theorem qf9{K V:TypeId}{kt vt:Ty}(hK:qw K=some kt)(hV:qw V=some vt){pin g clock clock':Nat}(hpin:p pin=some g){es es':Array MapEntry}(hg:w.heap[g]? =some (.map es clock)){xk xv:X}(hlist:∀l,q7d kt vt l es.toList→q7d kt vt (mset (xk.ev c.v) (xv.ev c.v) l) es'.toList)
  {w':World}(hg':w'.heap[g]? =some (.map es' clock'))(hst:Stab c.A (q17 pin) no p w p w'){x x':X}{t:Ty}{own:List (Nat×Nat)}{dep:List Nat}{vs:List Value}(hu:qgt pin K V xk xv x t own dep=some x')(hc:Con c.A p w (x.ev c.v) t own dep vs):Con c.A p w' (x'.ev c.v) t own dep vs:=by
 unfold qgt at hu;split at hu
 ·cases hu
 ·rename_i hn;have hn':zx dep pin=false:=by simpa using hn
  have hdep:=q25 hn';split at hu
  ·rename_i ho;split at hu
   ·rename_i K' V' x0;split at hu
    ·rename_i hok;simp only[gnB] at hok;have e1:=gnN hok.1;have e2:=gnN hok.2;subst e1 e2;injection hu with hu;subst hu;obtain rfl:pin=x0:=by
      have:=y3.1 ho;simpa using this
     have hc':Fl c.A p w dep (some pin) (x.ev c.v) (.map K' V') vs:=hc
     show Fl c.A p w' dep (some pin) _ (.map K' V') vs
     rcases hc' with⟨E,te,l,v,e,-⟩|⟨K1,V1,kt1,vt1,l,g1,es1,cl1,e,h1,h2,h3,h4,h5,h6,h7⟩
     ·cases e
     injection e with e1 e2;subst e1 e2;obtain rfl:=gnI (h1.symm.trans hK);obtain rfl:=gnI (h2.symm.trans hV);obtain rfl:=gnI (h5.symm.trans hpin);rw[hg] at h6;injection h6 with h6;injection h6 with h6 h6';subst h6 h6';refine .inr ⟨K',V',kt1,vt1,_,g1,es',clock',rfl,h1,h2,?_,h4,h5,hg',hlist l h7⟩
     show D.mp (mset (xk.ev c.v) (xv.ev c.v) (x.ev c.v).ms)=_
     rw[h3];rfl
    ·cases hu
   ·cases hu
  ·rename_i ho;injection hu with hu;subst hu;have ho':zx (own.map (·.2)) pin=false:=by simpa using ho
   exact hc.kept hst hdep (q25 ho')
theorem z12{K V:TypeId}{kt vt:Ty}(hK:qw K=some kt)(hV:qw V=some vt){pin g clock clock':Nat}(hpin:p pin=some g){es es':Array MapEntry}(hg:w.heap[g]? =some (.map es clock)){xk xv:X}(hlist:∀l,q7d kt vt l es.toList→q7d kt vt (mset (xk.ev c.v) (xv.ev c.v) l) es'.toList)
  {w':World}(hg':w'.heap[g]? =some (.map es' clock'))(hst:Stab c.A (q17 pin) no p w p w'){x:AV}{v:Value}(hx:x.pd c p w v):(qyb pin K V xk xv x).pd c p w' v:=by
 have gen:∀y:AV,y.pd c p w v→(if okA (q17 pin) no y then y else AV.any).pd c p w' v:=fun y hy=>by
  split
  ·rename_i hok;exact AV.kept hst y v (q9d hok).1 (q9d hok).2 hy
  ·trivial
 unfold qyb;split
 ·rename_i x t own dep;split
  ·rename_i x' hu;obtain⟨vs,hp,hc⟩:=hx;exact⟨vs,hp,qf9 hK hV hpin hg hlist hg' hst hu hc⟩
  ·trivial
 ·rename_i q x t own dep;split
  ·rename_i x' hu;obtain⟨he,vs,hp,hc⟩:=hx;exact⟨he,vs,hp,qf9 hK hV hpin hg hlist hg' hst hu hc⟩
  ·trivial
 ·exact gen _ hx
theorem z2c{pin:Nat}{K V:TypeId}{xk xv:X}{l:List (Nat×Ent)}{k:Nat}{e:Ent}(h:lkA (qpb pin K V xk xv l) k=some e):
  ∃e0 x',lkA l k=some e0∧qgt pin K V xk xv e0.x e0.t e0.own e0.dep=some x'∧e=⟨x',e0.t,e0.own,e0.dep⟩∧q17 pin (k * 16)=false:=by
 induction l with
 |nil=>cases h
 | cons y l ih =>
  obtain⟨m,y⟩:=y;unfold qpb at h;split at h
  ·rename_i x' hu;split at h
   ·by_cases hm:m=k
    ·subst hm;rw[zb] at h;cases h
    ·rw[q19 hm] at h;rw[qb hm];exact ih h
   ·rename_i hpin;by_cases hm:m=k
    ·subst hm;rw[q9] at h;injection h with h;exact⟨y,x',q9,hu,h.symm,by
      cases hq:q17 pin (m * 16) with
      |false=>rfl
      |true=>exact absurd hq hpin⟩
    ·rw[qb hm] at h⊢;exact ih h
  ·by_cases hm:m=k
   ·subst hm;rw[zb] at h;cases h
   ·rw[q19 hm] at h;rw[qb hm];exact ih h
theorem qu1{x g clock:Nat}{es:Array MapEntry}(inj:∀x y b,p x=some b→p y=some b→x=y)(hx:p x=some g)(ob:Obj):Stab A (q17 x) no p w p {w with heap:=w.heap.setIfInBounds g ob}:=by
 have other:∀b,b≠g→(w.heap.setIfInBounds g ob)[b]? =w.heap[b]? :=fun b hb=>by rw[uU,if_neg (Ne.symm hb)]
 refine⟨by simp,fun b hb ha hf=>⟨other b (fun e=>hf x (by rw[e];exact hx)),hf⟩,fun y b _ hy=>hy,fun y b hz hy=>other b fun e=>?_⟩;subst e;have:=inj y x b hy hx;simp[this,q17] at hz
theorem qze{F:Flr}{x g clock:Nat}{es es':Array MapEntry}{clock':Nat}(h:Bs A F w0 S0 p w)(hx:p x=some g)(hg:w.heap[g]? =some (.map es clock)):Bs A F w0 S0 p {w with heap:=w.heap.setIfInBounds g (.map es' clock')}:=by
 have other:∀b,b≠g→(w.heap.setIfInBounds g (.map es' clock'))[b]? =w.heap[b]? :=fun b hb=>by rw[uU,if_neg (Ne.symm hb)]
 have hlt:=(vG.1 hg).1;refine⟨h.inj,fun y b hy=>by simpa using h.bd y b hy,⟨h.but.os,h.but.tape,h.but.output,by simpa using h.but.size,fun k hk hn=>?_⟩,h.pin,h.new,h.pa,fun y b hy=>?_,fun k hk=>?_⟩
 ·refine(other k fun e=>?_).trans (h.but.block k hk hn);subst e;rcases h.pin x k hx with hS|h1
  ·exact hn hS
  ·omega
 ·by_cases hb:b=g
  ·subst hb;exact .inr ⟨es',clock',by show(w.heap.setIfInBounds b _)[b]? =_;rw[uU,if_pos rfl,if_pos hlt]⟩
  ·exact(h.obj y b hy).same (other b hb)
 ·obtain⟨cs,cs',T,te,h1,h2,h3,h4,h5,h6,h7,h8⟩:=h.flo k hk;have hne:k≠g:=fun e=>by
   subst e;rw[hg] at h6;cases h6
  exact⟨cs,cs',T,te,h1,h2,h3,h4,h5,(other k hne).trans h6,h7,h8⟩
theorem qx3(hb:Bs c.A c.F w0 S0 p w)(hf:SF c σ p w a)(hc:hold c.v cs=true)(hd:a.defers=d)(hz:a.tmps.size=z)(hdst:o.dst=none){T:TypeId}{m k x:Operand}(heq:o.op=.mapUpdate T m k x∨o.op=.insert T m k x)(h:qqd σ cs T m k x=some σ'){Q:Exit→Act→World→Prop}:
  o.wp uA a w (j9 c w0 S0 d z σ') Q:=by
 unfold qqd at h;split at h
 ·rename_i K V hT;split at h
  ·rename_i kt vt hK hV;split at h
   ·rename_i hfl;simp only[gnB] at hfl;split at h
    ·rename_i xm K' V' pin depm xk ownk depk xv ownv depv hm hk hx;split at h
     ·rename_i hok;simp only[gnB] at hok;have e1:=gnN hok.1;have e2:=gnN hok.2;subst e1 e2;injection h with h;subst h;obtain⟨vm,hpm,hcm⟩:=qv hf hc hm;obtain⟨k',hk1,hk2⟩:=uJ.1 hk;obtain⟨x',hx1,hx2⟩:=uJ.1 hx;obtain⟨ks,hpk,hck⟩:=q1a hk2 (qv hf hc hk1);obtain⟨xs,hpx,hcx⟩:=q1a hx2 (qv hf hc hx1);have hcm':Fl c.A p w depm (some pin) (xm.ev c.v) (.map K' V') vm:=hcm;rcases hcm' with⟨E,te,l,v,e,-⟩|⟨K1,V1,kt1,vt1,l,g1,es1,cl1,e,h1,h2,h3,h4,h5,h6,h7⟩
      ·cases e
      injection e with e1 e2;subst e1 e2;obtain rfl:=gnI (h1.symm.trans hK);obtain rfl:=gnI (h2.symm.trans hV);subst h4;have hmv:=yh.one1 hpm;have hrk:=hck.rd (dep':=depk++ownk.map (·.2)) (fun x hx=>uK _ hx) (fun x hx=>uI _ hx);have hrx:=hcx.rd (dep':=depv++ownv.map (·.2)) (fun x hx=>uK _ hx) (fun x hx=>uI _ hx);have hrk0:Rd w (FFD c.A p []) (xk.ev c.v) kt1 ks:=Rd.flat 8 _ hfl.1 hrk;have hrx0:Rd w (FFD c.A p []) (xv.ev c.v) vt1 xs:=Rd.flat 8 _ hfl.2 hrx;obtain⟨es',clock',hr,hl'⟩:=qs4 hT hK hV hfl.1 hfl.2 h6 h7 hrk0 hpk hrx0 hpx;have hst:=qu1 (A:=c.A) (w:=w) (clock:=cl1) (es:=es1) hb.inj h5 (.map es' clock');have hlt:=(vG.1 h6).1;have hnew:(w.heap.setIfInBounds g1 (.map es' clock'))[g1]? =some (.map es' clock'):=by rw[uU,if_pos rfl,if_pos hlt]
      have hrun:(execOp a.eval o).run uA w=.ok .skip {w with heap:=w.heap.setIfInBounds g1 (.map es' clock')}:=by
       generalize a.eval=r at *;rcases heq with heq|heq<;>simp[execOp,heq,hmv,hr]
      unfold Oper.wp;rw[hrun]
      show j9 c w0 S0 d z _ (a.put o.dst undef) _
      rw[hdst];refine⟨p,qze hb h5 h6,⟨fun t y hy=>?_,fun k0 e0 he0=>?_⟩,hd,hz⟩
      ·obtain⟨y0,hy0,rfl⟩:=q53 (f:=qyb pin K' V' xk xv) hy;obtain⟨v,q1,q2⟩:=hf.t t y0 hy0;exact⟨v,q1,z12 hK hV h5 h6 hl' hnew hst q2⟩
      ·obtain⟨e1,x1,q1,q2,rfl,q3⟩:=z2c he0;obtain⟨g',vs',T',hg',hh,hty,hcc⟩:=hf.m k0 e1 q1;exact⟨g',vs',T',hg',(hst.con _ _ q3 hg').trans hh,hty,qf9 hK hV h5 h6 hl' hnew hst q2 hcc⟩
     ·cases h
    ·cases h
   ·cases h
  ·cases h
 ·cases h
end
end
section
open Go.RowKit Go.Shelf
def z2g:List (FuncId×FuncId×TypeId×TypeId):=[]
theorem z0w:∀e∈z2g,∀(args:Array Value)(w:World),(callFunc e.1 args).run uA w=.ok (.enter e.1 args) w:=fun e he=>by cases he
theorem z3s:∀e∈z2g,∀(w:World)(A:Option Addr)(l c:Nat),Calls uA e.1 #[.slice A l c] w fun e' w'=>e'=.returned (.func (.func e.2.1) #[] #[.pointer (some ⟨w.heap.size,0,none⟩)])∧w'=w.alloc (.cells #[.slice A l c] e.2.2.1):=fun e he=>by cases he
end
section
def z51(f:FuncId):List (FuncId×FuncId×TypeId×TypeId)→Option (FuncId×FuncId×TypeId×TypeId)
 |[]=>none
 |e::l=>if uE e.1 f then some e else z51 f l
theorem qx6{f:FuncId}{e:FuncId×FuncId×TypeId×TypeId}:∀{l:List (FuncId×FuncId×TypeId×TypeId)},z51 f l=some e→e∈l∧e.1=f
 |[],h=>by cases h
 | x :: l, h => by
  unfold z51 at h;split at h
  ·rename_i hx;injection h with h;subst h;exact⟨uC,gnN hx⟩
  ·obtain⟨h1,h2⟩:=qx6 h;exact⟨uD _ h1,h2⟩
def z3v(σ0:St)(cs:List (X×Bool))(k:Nat)(y:Operand)(args:List Operand):Option St:=match opd (σ0.un (z5 k)) cs y,args with
 | some (.fn f []), [x] => (match z51 f z2g with
  |some (_,g,T,E)=>if(qw E).isSome then(match(opd (σ0.un (z5 k)) cs x).bind (qcd E) with
   |some (xv,own,dep)=>some ⟨jy (σ0.un (z5 k)).t k (.fn g [.fr T (.v xv (.row E) own dep)]),(σ0.un (z5 k)).m⟩
   |none=>none) else none
  |none=>none)
 |_,_=>none
section
variable{A:Nat→Prop}{F:Flr}{c:Cx}{p:z0}{w w0:World}{S0:Nat→Prop}{a:Act}{σ σ':St}{cs:List (X×Bool)}{o:Oper}{d:List Deferred}{z:Nat}
theorem qw4(h:Bs A F w0 S0 p w)(o:Obj):Bs A F w0 S0 p (w.alloc o):=by
 refine⟨h.inj,fun x b hx=>by have:=h.bd x b hx;simp;omega,h.but.alloc _,h.pin,h.new,h.pa,fun x b hx=>?_,h.flo.same fun k hk _=>by rw[hget,if_neg (by omega)]⟩;rcases h.obj x b hx with⟨cs',T',h2⟩|⟨es,clock,h2⟩
 ·exact .inl ⟨cs',T',q0o h2⟩
 ·exact .inr ⟨es,clock,q0o h2⟩
theorem qol(bd:∀x b,p x=some b→b<w.heap.size)(o:Obj):Stab A no no p w p (w.alloc o):=
 ⟨by simp,fun b hb ha hf=>⟨by rw[hget,if_neg (by omega)],hf⟩,fun y b _ hy=>hy,fun y b _ hy=>by
  have:=bd y b hy;rw[hget,if_neg (by omega)]⟩
theorem z99(hb:Bs c.A c.F w0 S0 p w)(hf:SF c σ p w a)(hc:hold c.v cs=true)(hd:a.defers=d)(hz:a.tmps.size=z){k:Nat}(hk:k<z)(hdst:o.dst=some k){y:Operand}{args:Array Operand}{tys:Array TypeId}(heq:o.op=.call {callee:=.value y,args:=args,argTypes:=tys})
  (h:z3v σ cs k y args.toList=some σ'){Q:Exit→Act→World→Prop}:o.wp uA a w (j9 c w0 S0 d z σ') Q:=by
 unfold z3v at h;split at h
 ·rename_i f x hy hx;split at h
  ·rename_i f' g T E hbw;obtain⟨hmem,hff⟩:=qx6 hbw;have hff:f'=f:=hff;subst hff;split at h
   ·rename_i hE;obtain⟨te,hte⟩:=vJ.1 hE;split at h
    ·rename_i xv own dep hr;injection h with h;subst h;have hb1:=hb.un (z5 k);have hf1:=SF.un (q:=z5 k) hb.inj hb.pa hf;obtain⟨x',hx1,hx2⟩:=uJ.1 hr;have hcon:=q5b hte hx2 (qv hf1 hc hx1);obtain⟨te',A1,cap,hte',hd1,hev,h1,h2,h3,hE1⟩:=hcon.row;obtain⟨vs,hfv,hvs⟩:=qv hf1 hc hy;have hvs:vs=[]:=hvs;subst hvs;have hrun:(execOp a.eval o).run uA w=.ok (.enter f' #[a.eval x]) w:=by
      have hen:=z0w _ hmem #[a.eval x] w;have hargs:args= #[x]:=by
       apply vI;exact hx
      subst hargs;generalize a.eval=r at *;simp[execOp,heq,resolve,Deferred.ofValue,hfv,invoke,hen]
     unfold Oper.wp;rw[hrun]
     show Calls uA f' _ w _
     rw[hev];refine Calls.mono (z3s _ hmem w A1 _ cap) ?_;rintro e w'⟨rfl,rfl⟩;rw[←hev]
     show j9 c w0 S0 d z _ (a.put o.dst _) _
     rw[hdst];have hst:=qol (A:=c.A) hb1.bd (.cells #[a.eval x] T);refine⟨unP (z5 k) p,qw4 hb1 _,?_,hd,by simp only[Act.put,uH];exact hz⟩;have hkeep:SF c (σ.un (z5 k)) (unP (z5 k) p) (w.alloc (.cells #[a.eval x] T)) a:=by
      refine⟨fun t' y hy=>?_,fun k' e he=>?_⟩
      ·obtain⟨v,h1,h2⟩:=hf1.t t' y hy;exact⟨v,h1,AV.kept hst y v (fun _ _=>⟨rfl,rfl⟩) (fun _ _=>rfl) h2⟩
      ·exact(hf1.m k' e he).kept hst (fun _ _=>⟨rfl,rfl⟩) ⟨rfl,rfl⟩
     have hsz:w0.heap.size≤w.heap.size:=hb.but.size;refine hkeep.put (t:=k) (by rw[hz];exact hk) ⟨[.pointer (some ⟨w.heap.size,0,none⟩)],rfl,_,[],rfl,⟨w.heap.size,a.eval x,(hb.new _ hsz).1,fun y hy=>?_,rfl,q1h rfl,[a.eval x],rfl,hcon.kept hst (fun _ _=>⟨rfl,rfl⟩) (fun _ _=>⟨rfl,rfl⟩)⟩,rfl⟩;have:=hb1.bd y _ hy;omega
    ·cases h
   ·cases h
  ·cases h
 ·cases h
end
end
section
def z9s(σ0:St)(cs:List (X×Bool))(k:Nat)(y:Operand)(args:List Operand):Option St:=none
section
variable{c:Cx}{p:z0}{w w0:World}{S0:Nat→Prop}{a:Act}{σ σ':St}{cs:List (X×Bool)}{o:Oper}{d:List Deferred}{z:Nat}
theorem z9y(hb:Bs c.A c.F w0 S0 p w)(hf:SF c σ p w a)(hc:hold c.v cs=true)(hd:a.defers=d)(hz:a.tmps.size=z){k:Nat}(hk:k<z)(hdst:o.dst=some k){y:Operand}{args:Array Operand}{tys:Array TypeId}(heq:o.op=.call {callee:=.value y,args:=args,argTypes:=tys})
  (h:z9s σ cs k y args.toList=some σ'){Q:Exit→Act→World→Prop}:o.wp uA a w (j9 c w0 S0 d z σ') Q:=by cases h
end
end
section
def z73(σ0:St)(cs:List (X×Bool))(k:Nat)(y:Operand)(args:List Operand):Option St:=none
section
variable{A:Nat→Prop}{F:Flr}{c:Cx}{p:z0}{w w0:World}{S0:Nat→Prop}{a:Act}{σ σ':St}{cs:List (X×Bool)}{o:Oper}{d:List Deferred}{z:Nat}
theorem z90(hb:Bs c.A c.F w0 S0 p w)(hf:SF c σ p w a)(hc:hold c.v cs=true)(hd:a.defers=d)(hz:a.tmps.size=z){k:Nat}(hk:k<z)(hdst:o.dst=some k){y:Operand}{args:Array Operand}{tys:Array TypeId}(heq:o.op=.call {callee:=.value y,args:=args,argTypes:=tys})
  (hz0:∀te,c.F.mx te=0)(h:z73 σ cs k y args.toList=some σ'){Q:Exit→Act→World→Prop}:o.wp uA a w (j9 c w0 S0 d z σ') Q:=by cases h
end
end
section
open Go.RowKit Go.Shelf
attribute [local go_sem] Oper.semAt_some
def qu3:List Value:=[.string ⟨#[59]⟩,.int .i64 2,.func (.func 96) #[] #[],.string ⟨#[45,62]⟩,.int .i64 2,.func (.func 97) #[] #[],.string ⟨#[92,43]⟩,.int .i64 1,.func (.func 98) #[] #[],.string ⟨#[111,110,99,101]⟩,.int .i64 1,.func (.func 99) #[] #[]]
theorem z6l(w:World):Calls uA 74 #[] w fun e w'=>e=.returned (.agg qu3.toArray)∧∃o,w'=w.alloc o:=by
 go_enter Try.func74,Try.ntmps74
 go_wp2_with fail
 exact bodyPost_ret (v:=.agg qu3.toArray) (by simp[results,Try.results74,go_sem,qu3]) rfl ⟨rfl,_,rfl⟩
theorem z2r(w:World)(g o:Nat)(m:Int)(cur:Array Value)(T:TypeId)(hh:w.heap[g]? =some (.cells cur T (0,0)))(hc:cur[o]? =some (.int .i64 m))(hr:IntKind.wrap .i64 (m+1)=m+1)(hr2:wrap64 m=m):Calls uA 50 #[.pointer (some ⟨g,o,none⟩)] w fun e w'=>e=.returned (.int .i64 m)∧(Instr.storeAt 2 (.pointer (some ⟨g,o,none⟩)) (.int .i64 (m+1))).run uA w=.ok () w':=by
 have h0:w.cell? ⟨g,o,none⟩=some (.int .i64 m):=(cell_of_row w g o cur T (0,0) hh).trans hc;have f0:=frz hh o;have hlt:=yf hh
 go_enter Try.func50,Try.ntmps50
 go_wp2_with fail
 exact bodyPost_ret (v:=.int .i64 m) (by simp[results,Try.results50,go_sem,hr2]) rfl ⟨rfl,by simp[go_sem,h0,f0,hlt]⟩
theorem z40(w:World)(g o:Nat)(m:Int)(cur:Array Value)(T:TypeId)(hh:w.heap[g]? =some (.cells cur T (0,0)))(hc:cur[o+1]? =some (.int .i64 m))(hr:IntKind.wrap .i64 (m+1)=m+1)(hr2:wrap64 m=m):Calls uA 100 #[.pointer (some ⟨g,o,none⟩)] w fun e w'=>e=.returned (.int .i64 m)∧(Instr.storeAt 2 (.pointer (some ⟨g,o+1,none⟩)) (.int .i64 (m+1))).run uA w=.ok () w':=by
 have h0:w.cell? ⟨g,o+1,none⟩=some (.int .i64 m):=(cell_of_row w g (o+1) cur T (0,0) hh).trans hc;have f0:=frz hh (o+1);have hlt:=yf hh
 go_enter Try.func100,Try.ntmps100
 go_wp2_with fail
 exact bodyPost_ret (v:=.int .i64 m) (by simp[results,Try.results100,go_sem,hr2]) rfl ⟨rfl,by simp[go_sem,h0,f0,hlt]⟩
def z34:List X:=[.lit (.a [.s ⟨#[59]⟩,.i 2,.i 96]),.lit (.a [.s ⟨#[45,62]⟩,.i 2,.i 97]),.lit (.a [.s ⟨#[92,43]⟩,.i 1,.i 98]),.lit (.a [.s ⟨#[111,110,99,101]⟩,.i 1,.i 99])]
theorem qrf:qw 100=some (.st 99)∧(Ty.st 99).w=3∧flds 99=some [.str,.int .i64,.fnv]:=⟨rfl,rfl,rfl⟩
theorem z8w(c:Cx)(p:z0)(w:World):(AV.ar 100 z34 []).pd c p w (.agg qu3.toArray):=by
 refine⟨_,qu3,qrf.1,rfl,by rw[qrf.2.1];rfl,?_⟩;rw[qrf.2.1]
 have one:∀(s:ByteArray)(n m:Int),s.size≤LIM→q0r .i64 n=true→Rd w (FFD c.A p []) (.a [.s s,.i n,.i m]) (.st 99) [.string s,.int .i64 n,fnV m]:=fun s n m hs hn=>
  ⟨_,_,rfl,qrf.2.2,.str,_,[.string s],[.int .i64 n,fnV m],rfl,rfl,⟨rfl,rfl,hs⟩,.int .i64,_,[.int .i64 n],[fnV m],rfl,rfl,.inl ⟨_,rfl,rfl,hn⟩,.fnv,[],[fnV m],[],rfl,rfl,.inr ⟨rfl,rfl⟩,rfl,rfl⟩
 intro j d hj
 match j,hj with
 |0,hj=>injection hj with hj;subst hj;exact one _ _ _ (by decide) (by decide)
 |1,hj=>injection hj with hj;subst hj;exact one _ _ _ (by decide) (by decide)
 |2,hj=>injection hj with hj;subst hj;exact one _ _ _ (by decide) (by decide)
 |3,hj=>injection hj with hj;subst hj;exact one _ _ _ (by decide) (by decide)
 |j+4,hj=>simp[z34,X.evs] at hj
def qjy:List (FuncId×Nat):=[(50,0),(100,1)]
theorem qzh:∀e∈qjy,∀(args:Array Value)(w:World),(callFunc e.1 args).run uA w=.ok (.enter e.1 args) w:=by
 intro e he args w;simp only[qjy,uM,vW,or_false] at he;rcases he with rfl|rfl<;>kernel_rfl
theorem qyk(args:Array Value)(w:World):(callFunc 74 args).run uA w=.ok (.enter 74 args) w:=by kernel_rfl
theorem qys:∀e∈qjy,∀(w:World)(g o:Nat)(m:Int)(cur:Array Value)(T:TypeId),w.heap[g]? =some (.cells cur T (0,0))→cur[o+e.2]? =some (.int .i64 m)→IntKind.wrap .i64 (m+1)=m+1→wrap64 m=m→
  Calls uA e.1 #[.pointer (some ⟨g,o,none⟩)] w fun e' w'=>e'=.returned (.int .i64 m)∧(Instr.storeAt 2 (.pointer (some ⟨g,o+e.2,none⟩)) (.int .i64 (m+1))).run uA w=.ok () w':=by
 intro e he;simp only[qjy,uM,vW,or_false] at he;rcases he with rfl|rfl
 ·exact z2r
 ·exact z40
def z92(fl:Bool)(σ:St)(cs:List (X×Bool))(k:Nat)(y:Operand)(args:List Operand):Option (List X×St):=match opd σ cs y,args with
 |some (.fn f []),[]=>if uE f 74 then some ([],⟨jy σ.t k (.ar 100 z34 []),σ.m⟩) else none
 | some (.fn f []), [x] => (match fl, lkA qjy f with
  | true, some j => (match opd σ cs x with
   | some (.ref r path o _) => (match lkA σ.m r with
    | some e => (match q2a e.x e.t e.own (path ++ [j]) with
     |some (x',.int .i64,_,o')=>if uE o' (o+j) then(match qdi σ r (path++[j]) (o+j) (.int .i64) (qhs x' (.lit (.i 1))) [] [] with
      |some σ'=>some ([.rng .i64 (qhs x' (.lit (.i 1)))],⟨jy σ'.t k (.v x' (.int .i64) [] []),σ'.m⟩)
      |none=>none) else none
     |_=>none)
    |none=>none)
   |_=>none)
  |_,_=>none)
 |_,_=>none
section
variable{c:Cx}{p:z0}{w w0:World}{S0:Nat→Prop}{a:Act}{σ σ':St}{cs:List (X×Bool)}{o:Oper}{d:List Deferred}{z:Nat}
theorem z9n(hb:Bs c.A c.F w0 S0 p w)(hf:SF c σ p w a)(hc:hold c.v cs=true)(hd:a.defers=d)(hz:a.tmps.size=z){k:Nat}(hk:k<z)(hdst:o.dst=some k){y:Operand}{args:Array Operand}{tys:Array TypeId}(heq:o.op=.call {callee:=.value y,args:=args,argTypes:=tys})
  {fl:Bool}(hfl:fl=true→∀te,c.F.mx te=0){ns:List X}(h:z92 fl σ cs k y args.toList=some (ns,σ'))(hn:∀n∈ns,n.says c.v){Q:Exit→Act→World→Prop}:o.wp uA a w (j9 c w0 S0 d z σ') Q:=by
 unfold z92 at h;split at h
 ·rename_i f hy hx;split at h
  ·rename_i hff;have hff:=gnN hff;subst hff;simp only[gnS] at h;obtain⟨-,rfl⟩:=h;obtain⟨vs,hfv,hvs⟩:=qv hf hc hy;have hvs:vs=[]:=hvs;subst hvs;have hrun:(execOp a.eval o).run uA w=.ok (.enter 74 #[]) w:=by
    have hen:=qyk #[] w;have hargs:args= #[]:=by
     apply vI;exact hx
    subst hargs;generalize a.eval=r at *;simp[execOp,heq,resolve,Deferred.ofValue,hfv,invoke,hen]
   unfold Oper.wp;rw[hrun]
   show Calls uA 74 _ w _
   refine Calls.mono (z6l w) ?_;rintro e w'⟨rfl,ob,rfl⟩
   show j9 c w0 S0 d z _ (a.put o.dst _) _
   rw[hdst];have hst:=qol (A:=c.A) hb.bd ob;refine⟨p,qw4 hb ob,?_,hd,by simp only[Act.put,uH];exact hz⟩;have hkeep:SF c σ p (w.alloc ob) a:=by
    refine⟨fun t' y hy=>?_,fun k' e he=>?_⟩
    ·obtain⟨v,h1,h2⟩:=hf.t t' y hy;exact⟨v,h1,AV.kept hst y v (fun _ _=>⟨rfl,rfl⟩) (fun _ _=>rfl) h2⟩
    ·exact(hf.m k' e he).kept hst (fun _ _=>⟨rfl,rfl⟩) ⟨rfl,rfl⟩
   exact hkeep.put (t:=k) (by rw[hz];exact hk) (z8w c p _)
  ·cases h
 ·rename_i f x hy hx;split at h
  ·rename_i j hj;split at h
   ·rename_i r path q t hx1;split at h
    ·rename_i e he;split at h
     ·rename_i x' ov o' hat;split at h
      ·rename_i ho;have ho:=gnN ho;subst ho;split at h
       ·rename_i σ1 hst;simp only[gnS] at h;obtain⟨rfl,rfl⟩:=h;obtain⟨vs,hfv,hvs⟩:=qv hf hc hy;have hvs:vs=[]:=hvs;subst hvs;obtain⟨g,hg,hev,-⟩:=qv hf hc hx1;obtain⟨g',cur,T',hg',hh,hty,hcon⟩:=hf.m r e he;obtain rfl:g=g':=gnI (hg.symm.trans hg');obtain⟨c0,c1,c2,hvs,hl,hcc⟩:=qjv (path++[j]) hat hcon;have hr:=q8r (hn _ uC);obtain⟨m,hm,rfl,hrm⟩:=hcc.int;have hcell:cur[q+j]? =some (.int .i64 m):=by
         rw[←kS,hvs,←hl,List.getElem?_append_right (kO _)];simp
        have hadd:(qhs x' (.lit (.i 1))).ev c.v=.i (m+1):=by rw[qef,hm];rfl
        rw[hadd] at hr;have hw1:=q83 hr;simp only[D.int] at hw1;have hT2:qw 2=some (.int .i64):=rfl;obtain⟨w',hw',p',hb',hf',hd',hz'⟩:=qh9 hb hf hd hz hT2 hg (fun e _ _=>hfl rfl _) (v:=.int .i64 (m+1)) (vs:=[.int .i64 (m+1)]) (t:=.int .i64) (xv:=qhs x' (.lit (.i 1))) (ownv:=[]) (depv:=[]) rfl (by rw[hadd];exact Con.of_rd (.inl ⟨_,rfl,rfl,hr⟩)) hst;have hmem:=jv hj;have hrun:(execOp a.eval o).run uA w=.ok (.enter f #[a.eval x]) w:=by
         have hen:=qzh _ hmem #[a.eval x] w;have hargs:args= #[x]:=by
          apply vI;exact hx
         subst hargs;generalize a.eval=r at *;simp[execOp,heq,resolve,Deferred.ofValue,hfv,invoke,hen]
        unfold Oper.wp;rw[hrun]
        show Calls uA f _ w _
        rw[hev];refine Calls.mono (qys _ hmem w g q m cur T' hh hcell hw1 (by have:=q83 hrm;rw[IntKind.wrap_i64] at this;unfold wrap64;exact this)) ?_;rintro e' w2⟨rfl,hw2⟩;have hww:w'=w2:=by
         rw[hw'] at hw2;injection hw2
        subst hww
        show j9 c w0 S0 d z _ (a.put o.dst _) _
        rw[hdst];refine⟨p',hb',?_,hd',by simp only[Act.put,uH];exact hz'⟩;exact hf'.put (t:=k) (by rw[hz'];exact hk) ⟨[.int .i64 m],rfl,by rw[hm];exact Con.of_rd (.inl ⟨_,rfl,rfl,hrm⟩)⟩
       ·cases h
      ·cases h
     ·cases h
    ·cases h
   ·cases h
  ·cases h
 ·cases h
end
end
section
namespace X
mutual
/-- Tokens below n alone. -/
def upto(n:Nat):X→Bool
 |.tok k=>kM k n
 |.lit _=>true
 |.fld x _=>upto n x
 |.get x i=>upto n x&&upto n i
 |.len x=>upto n x
 |.slen x=>upto n x
 |.sget x i=>upto n x&&upto n i
 |.add x y=>upto n x&&upto n y
 |.sub x y=>upto n x&&upto n y
 |.mul x y=>upto n x&&upto n y
 |.lt x y=>upto n x&&upto n y
 |.le x y=>upto n x&&upto n y
 |.eq x y=>upto n x&&upto n y
 |.not x=>upto n x
 |.and x y=>upto n x&&upto n y
 |.or x y=>upto n x&&upto n y
 |.imp x y=>upto n x&&upto n y
 |.ite c x y=>upto n c&&(upto n x&&upto n y)
 |.mk l=>uptos n l
 |.row l=>uptos n l
 |.app x y=>upto n x&&upto n y
 |.cut x lo hi=>upto n x&&(upto n lo&&upto n hi)
 |.set x _ y=>upto n x&&upto n y
 |.put x i y=>upto n x&&(upto n i&&upto n y)
 |.rep k x=>upto n k&&upto n x
 |.rng _ x=>upto n x
 |.call _ _ l=>uptos n l
 |.ok _ l=>uptos n l
 |.fn _ l=>uptos n l
def uptos(n:Nat):List X→Bool
 |[]=>true
 |x::l=>upto n x&&uptos n l
end
section
variable{n:Nat}{e e':Ev}
mutual
theorem ev_upto(hE:∀k,k<n→e.E k=e'.E k)(hS:e.S=e'.S):∀(x:X),upto n x=true→x.ev e=x.ev e'
 |.tok k,h=>hE k (by simpa[upto,kH] using h)
 |.lit _,h=>rfl
 |.fld x _,h=>by simp only[upto] at h;simp only[ev,ev_upto hE hS x h]
 |.get x i,h=>by simp only[upto,gnB] at h;simp only[ev,ev_upto hE hS x h.1,ev_upto hE hS i h.2]
 |.len x,h=>by simp only[upto] at h;simp only[ev,ev_upto hE hS x h]
 |.slen x,h=>by simp only[upto] at h;simp only[ev,ev_upto hE hS x h]
 |.sget x i,h=>by simp only[upto,gnB] at h;simp only[ev,ev_upto hE hS x h.1,ev_upto hE hS i h.2]
 |.add x i,h=>by simp only[upto,gnB] at h;simp only[ev,ev_upto hE hS x h.1,ev_upto hE hS i h.2]
 |.sub x i,h=>by simp only[upto,gnB] at h;simp only[ev,ev_upto hE hS x h.1,ev_upto hE hS i h.2]
 |.mul x i,h=>by simp only[upto,gnB] at h;simp only[ev,ev_upto hE hS x h.1,ev_upto hE hS i h.2]
 |.lt x i,h=>by simp only[upto,gnB] at h;simp only[ev,ev_upto hE hS x h.1,ev_upto hE hS i h.2]
 |.le x i,h=>by simp only[upto,gnB] at h;simp only[ev,ev_upto hE hS x h.1,ev_upto hE hS i h.2]
 |.eq x i,h=>by simp only[upto,gnB] at h;simp only[ev,ev_upto hE hS x h.1,ev_upto hE hS i h.2]
 |.not x,h=>by simp only[upto] at h;simp only[ev,ev_upto hE hS x h]
 |.and x i,h=>by simp only[upto,gnB] at h;simp only[ev,ev_upto hE hS x h.1,ev_upto hE hS i h.2]
 |.or x i,h=>by simp only[upto,gnB] at h;simp only[ev,ev_upto hE hS x h.1,ev_upto hE hS i h.2]
 |.imp x i,h=>by simp only[upto,gnB] at h;simp only[ev,ev_upto hE hS x h.1,ev_upto hE hS i h.2]
 |.ite c x i,h=>by simp only[upto,gnB] at h;simp only[ev,ev_upto hE hS c h.1,ev_upto hE hS x h.2.1,ev_upto hE hS i h.2.2]
 |.mk l,h=>by simp only[upto] at h;simp only[ev,evs_upto hE hS l h]
 |.row l,h=>by simp only[upto] at h;simp only[ev,evs_upto hE hS l h]
 |.app x i,h=>by simp only[upto,gnB] at h;simp only[ev,ev_upto hE hS x h.1,ev_upto hE hS i h.2]
 |.cut c x i,h=>by simp only[upto,gnB] at h;simp only[ev,ev_upto hE hS c h.1,ev_upto hE hS x h.2.1,ev_upto hE hS i h.2.2]
 |.set x _ i,h=>by simp only[upto,gnB] at h;simp only[ev,ev_upto hE hS x h.1,ev_upto hE hS i h.2]
 |.put c x i,h=>by simp only[upto,gnB] at h;simp only[ev,ev_upto hE hS c h.1,ev_upto hE hS x h.2.1,ev_upto hE hS i h.2.2]
 |.rep x i,h=>by simp only[upto,gnB] at h;simp only[ev,ev_upto hE hS x h.1,ev_upto hE hS i h.2]
 |.rng _ x,h=>by simp only[upto] at h;simp only[ev,ev_upto hE hS x h]
 |.call _ _ l,h=>by simp only[upto] at h;simp only[ev,evs_upto hE hS l h,hS]
 |.ok _ l,h=>by simp only[upto] at h;simp only[ev,evs_upto hE hS l h,hS]
 |.fn _ l,h=>by simp only[upto] at h;simp only[ev,evs_upto hE hS l h]
theorem evs_upto(hE:∀k,k<n→e.E k=e'.E k)(hS:e.S=e'.S):∀(l:List X),uptos n l=true→X.evs e l=X.evs e' l
 |[],h=>rfl
 |x::l,h=>by simp only[uptos,gnB] at h;simp only[evs,ev_upto hE hS x h.1,evs_upto hE hS l h.2]
end
end
end X
def z43(tbl:Tbl):Bool:=match tbl with
 |e::_=>(match e.1.rs with
  |[(.st 4242424242,_)]=>true
  |_=>false)
 |[]=>false
def qfj(S:Nat→List D→Option (List D))(x:X):X:=if X.upto 0 x then .lit (x.ev ⟨fun _=>.u,S⟩) else x
theorem qbf{e:Ev}(x:X):(qfj e.S x).ev e=x.ev e:=by
 unfold qfj;split
 ·rename_i h;exact X.ev_upto (n:=0) (e:=⟨fun _=>.u,e.S⟩) (e':=e) (fun k hk=>absurd hk (Nat.not_lt_zero _)) rfl x h
 ·rfl
theorem qs3{e:Ev}:∀(l:List X),X.evs e (l.map (qfj e.S))=X.evs e l
 |[]=>rfl
 |x::l=>by simp only[uQ,X.evs,qbf,qs3 l]
mutual
/-- Data without elements in slices or maps hangs on no block. -/
def noRow:D→Bool
 |.a l=>qv5 l
 |.r l=>l.isEmpty
 |.mp _=>false
 |_=>true
def qv5:List D→Bool
 |[]=>true
 |d::l=>noRow d&&qv5 l
end
theorem Rd.noRow{w:World}{F F':Nat→Prop}(d:D):∀{t:Ty}{cs:List Value},Rd w F d t cs→noRow d=true→Rd w F' d t cs:=by
 induction d using D.ind with
 |hu=>intro t cs h _;exact h.elim
 |hi n=>intro t cs h _;exact h
 |hb x=>intro t cs h _;exact h
 |hs x=>intro t cs h _;exact h
 | hr l ih =>
  intro t cs h hn;cases l with
  |nil=>
   obtain⟨E,te,A,cap,h1,h2,h3,h4,h5,h6,h7⟩:=h;exact⟨E,te,A,cap,h1,h2,h3,h4,h5,h6,by simp[RdE]⟩
  |cons x l=>simp[Go.Proofs.Ytbmaffphliignaa.noRow] at hn
 |hm l ih=>intro t cs h hn;simp[Go.Proofs.Ytbmaffphliignaa.noRow] at hn
 | ha l ih =>
  intro t cs h hn;obtain⟨T,fs,h1,h2,h3⟩:=h;refine⟨T,fs,h1,h2,?_⟩;rw[Go.Proofs.Ytbmaffphliignaa.noRow] at hn;clear h2
  induction l generalizing fs cs with
  |nil=>exact h3
  |cons x l ihl=>
   rw[qv5,gnB] at hn;obtain⟨t,ts,c1,c2,e1,e2,g1,g2⟩:=h3;exact⟨t,ts,c1,c2,e1,e2,ih x (by simp) g1 hn.1,ihl (fun d hd=>ih d (by simp[hd])) hn.2 _ g2⟩
def z70:X→Ty→List (Nat×Nat)→List Nat→AV
 |.lit d,t,[],dep=>.v (.lit d) t [] (if noRow d then[] else dep)
 |x,t,own,dep=>.v x t own dep
theorem z3e{c:Cx}{p:z0}{w:World}{x:X}{t:Ty}{own:List (Nat×Nat)}{dep:List Nat}{v:Value}(h:(AV.v x t own dep).pd c p w v):(z70 x t own dep).pd c p w v:=by
 cases x with
 | lit d =>
  cases own with
  | nil =>
   show(AV.v (.lit d) t [] (if noRow d then[] else dep)).pd c p w v
   split
   ·rename_i hn;obtain⟨cs,hp,hc⟩:=h;exact⟨cs,hp,Con.of_rd (Rd.noRow (F:=FFD c.A p dep) _ (hc.rd (fun _ h=>h) (by simp)) hn)⟩
   ·exact h
  |cons _ _=>exact h
 |_=>exact h
mutual
def qyl(S:Nat→List D→Option (List D)):AV→AV
 |.v x t own dep=>z70 (qfj S x) t own dep
 |.rd x t dep wr=>.rd (qfj S x) t dep wr
 |.tup l=>.tup (z2s S l)
 |.gd c a=>.gd c (qyl S a)
 |.nb x neg=>.nb (qfj S x) neg
 |.ar E xs dep=>.ar E (xs.map (qfj S)) dep
 |.ax k T n a=>.ax k T n (qyl S a)
 |a=>a
def z2s(S:Nat→List D→Option (List D)):List AV→List AV
 |[]=>[]
 |a::l=>qyl S a::z2s S l
end
mutual
theorem qdy{c:Cx}{p:z0}{w:World}:∀(x:AV){v:Value},x.pd c p w v→(qyl c.v.S x).pd c p w v
 |.v x t own dep,v,⟨cs,hp,hc⟩=>z3e ⟨cs,hp,by rw[qbf];exact hc⟩
 |.rd x t dep wr,v,⟨b,o,cs,e,hf,hr,h0,hd,hw⟩=>⟨b,o,cs,e,hf,hr,h0,by rw[qbf];exact hd,hw⟩
 |.tup l,v,⟨vs,e,h⟩=>⟨vs,e,qtk l h⟩
 |.gd cs a,v,h=>⟨fun hc=>qdy a (h.1 hc),h.2⟩
 |.nb x neg,v,⟨b,e,h⟩=>⟨b,e,by rw[qbf];exact h⟩
 |.ar E xs dep,v,⟨te,cs,e1,e2,h3,h⟩=>⟨te,cs,e1,e2,by rw[List.length_map];exact h3,by rw[qs3];exact h⟩
 |.ax k T n a,v,⟨g,u,hg,e,hh,hn,h⟩=>⟨g,u,hg,e,hh,hn,qdy a h⟩
 |.any,v,h=>h
 |.undef,v,h=>h
 |.nilS,v,h=>h
 |.nilP,v,h=>h
 |.ref _ _ _ _,v,h=>h
 |.fn _ _,v,h=>h
 |.bx _ _ _,v,h=>h
 |.fr _ _,v,h=>h
 |.ff _ _ _ _ _ _ _ _,v,h=>h
 |.sn _ _,v,h=>h
 |.pt _ _ _ _,v,h=>h
 |.wf _ _ _ _ _ _ _,v,h=>h
 |.lv _ _,v,h=>h
theorem qtk{c:Cx}{p:z0}{w:World}:∀(l:List AV){vs:List Value},pds c p w l vs→pds c p w (z2s c.v.S l) vs
 |[],vs,h=>h
 |a::l,vs,⟨v,r,e,h1,h2⟩=>⟨v,r,e,qdy a h1,qtk l h2⟩
end
def zam(S:Nat→List D→Option (List D))(e:Ent):Ent:=⟨qfj S e.x,e.t,e.own,e.dep⟩
def z8k(S:Nat→List D→Option (List D))(k:Option Nat)(σ:St):St:=⟨(match k with
 |some k=>(match lkA σ.t k with
  |some a=>jy σ.t k (qyl S a)
  |none=>σ.t)
 |none=>σ.t),σ.m.map fun e=>(e.1,zam S e.2)⟩
theorem z44{c:Cx}{σ:St}{p:z0}{w:World}{a:Act}{k:Option Nat}(h:SF c σ p w a):SF c (z8k c.v.S k σ) p w a:=by
 refine⟨fun t x hx=>?_,fun j e he=>?_⟩
 ·unfold z8k at hx;simp only at hx;split at hx
  ·rename_i k;split at hx
   ·rename_i y hy;by_cases hkt:k=t
    ·subst hkt;rw[q1b] at hx;injection hx with hx;subst hx;obtain⟨v,h1,h2⟩:=h.t k y hy;exact⟨v,h1,qdy y h2⟩
    ·rw[q3w hkt] at hx;exact h.t t x hx
   ·exact h.t t x hx
  ·exact h.t t x hx
 ·obtain⟨y,hy,rfl⟩:=q53 (f:=zam c.v.S) he;obtain⟨g,cs,T,hg,hh,hty,hcon⟩:=h.m j y hy;exact⟨g,cs,T,hg,hh,hty,by show Con c.A p w ((qfj c.v.S y.x).ev c.v) y.t y.own y.dep cs.toList;rw[qbf];exact hcon⟩
inductive Eff where
 |val(x:AV)
 |st(σ:St)
def sts(r:Option St):Option (List X×Eff):=match r with
 |some σ=>some ([],.st σ)
 |none=>none
def vals(r:Option (List X×AV)):Option (List X×Eff):=match r with
 |some (ns,x)=>some (ns,.val x)
 |none=>none
def stn(r:Option (List X×St)):Option (List X×Eff):=match r with
 |some (ns,σ)=>some (ns,.st σ)
 |none=>none
def z17(tbl:Tbl)(σ:St)(cs:List (X×Bool))(y:Operand):List X:=match opd σ cs y with
 |some (.rd _ _ _ (some (_,i,_,_,te)))=>(match flX tbl te with
  |some b=>[leX b i]
  |none=>[])
 | some (.ref k _ _ _) => (match lkA σ.m k with
  |some e=>if nvB e.t then(match flX tbl e.t with
   |some b=>[leX b (.lit (.i 0))]
   |none=>[]) else[]
  |none=>[])
 |_=>[]
def z9v(ns:List X)(r:Option St):Option (List X×Eff):=match r with
 |some σ=>some (ns,.st σ)
 |none=>none
def qwf(σ:St)(ks:List Nat):AV→AV
 |.ref k [] 0 t=>if zx ks k then(match lkA σ.m k with
  |some e=>if Ty.beq e.t t then .lv k t else .ref k [] 0 t
  |none=>.ref k [] 0 t) else .ref k [] 0 t
 |a=>a
def z33(σ:St)(ks:List Nat):St:=⟨σ.t.map fun e=>(e.1,qwf σ ks e.2),σ.m⟩
def z7m(σ σ':St):List Nat:=(σ.m.map (·.1)).filter fun k=>(lkA σ'.m k).isNone
def qen(tbl:Tbl)(σ:St)(cs:List (X×Bool))(k:Nat)(y:Operand)(args:List Operand):Option (List X×St):=match qml tbl σ cs k y args with
 | some (ns, σ') => (match z7m σ σ' with
  |[]=>some (ns,σ')
  |ks=>(match qml tbl (z33 σ ks) cs k y args with
   |some r=>some r
   |none=>some (ns,σ')))
 |none=>none
def z0i(pin:Nat):List (Nat×Ent)→Option X
  |[]=>none
  | (_, e) :: l => match e.t with
    | .st _ => (match e.own.find? (fun y => uE y.2 pin) with
      |some y=>some (.fld e.x y.1)
      |none=>z0i pin l)
    |_=>z0i pin l
def z6a(m:List (Nat×Ent)):AV→Option (X×AV)
 |.v x (.row E) [(0,pin)] dep=>(match z0i pin m with
  |some y=>if X.beq x y then none else some (.eq y x,.v y (.row E) [(0,pin)] dep)
  |none=>none)
 |_=>none
def qjr(m:List (Nat×Ent)):List (Nat×AV)→List X×List (Nat×AV)
  |[]=>([],[])
  | (t, a) :: l => match z6a m a with
    |some (n,a')=>(n::(qjr m l).1,(t,a')::(qjr m l).2)
    |none=>((qjr m l).1,(t,a)::(qjr m l).2)
def kpB(tbl:Tbl):Bool:=tbl.any fun e=> !e.1.kp.isEmpty
def za4(tbl:Tbl)(r:List X×St):List X×St:=if kpB tbl then(r.1++(qjr r.2.m r.2.t).1,⟨(qjr r.2.m r.2.t).2,r.2.m⟩) else r
def ql6(own:List (Nat×Nat)):List (Nat×Nat):=own.filter fun y=>kM y.1 2
def qx9(e:Ent):Ent:=⟨e.x,e.t,ql6 e.own,uni (e.own.map (·.2)) e.dep⟩
def z6y(σ:St)(ks:List Nat):St:=⟨σ.t,σ.m.map fun e=>(e.1,if zx ks e.1 then qx9 e.2 else e.2)⟩
def zaf(σ:St)(cs:List (X×Bool))(args:List Operand):List Nat:=args.filterMap fun y=>match opd σ cs y with
 |some (.ref k [] 0 _)=>some k
 |_=>none
def qky(tbl:Tbl)(σ:St)(cs:List (X×Bool))(k:Nat)(y:Operand)(args:List Operand):Option (List X×St):=match qen tbl σ cs k y args with
 |some r=>some r
 | none => if tbl.any (fun e => e.1.ar.any fun a => match a with
   |.ref _ o=>(match o.f with
    |some (_::_)=>true
    |_=>false)
   |_=>false) then qen tbl (z6y σ (zaf σ cs args)) cs k y args else none
def qy0(tbl:Tbl)(σ:St)(cs:List (X×Bool))(k:Nat)(y:Operand)(args:List Operand):Option (List X×St):=(qky tbl σ cs k y args).map (za4 tbl)
def qvu(fb:Ty→Option X)(σ:St)(cs:List (X×Bool))(k:Nat)(T:TypeId)(x y:Operand):Option (List X×St):=match qwh fb σ cs k T x y with
 | some (ns, σ') => (match z7m σ σ' with
  |[]=>some (ns,σ')
  |ks=>(match qwh fb (z33 σ ks) cs k T x y with
   |some r=>some r
   |none=>some (ns,σ')))
 |none=>none
def qxi(P:Program)(tbl:Tbl)(σ:St)(cs:List (X×Bool))(k:Nat)(o:Oper)(c:Call):Option (List X×Eff):=match c.callee with
 | .value y => (match z3v σ cs k y c.args.toList with
  |some σ'=>some ([],.st σ')
  |none=>(match z9s σ cs k y c.args.toList with
  |some σ'=>some ([],.st σ')
  | none => (match (if (qtu tbl).isEmpty then z73 σ cs k y c.args.toList else none) with
   |some σ'=>some ([],.st σ')
   |none=>(match z92 (qtu tbl).isEmpty σ cs k y c.args.toList with
    |some r=>stn (some r)
    |none=>stn (qy0 tbl σ cs k y c.args.toList)))))
 |.builtin .append=>(match c.args.toList,c.argTypes.toList with
  |[x,y],[T,T']=>if uE T T' then stn (qvu (flX tbl) σ cs k T x y) else stn (qvb (flX tbl) σ cs k T T' x y)
  |_,_=>none)
 |_=>vals (quiet P σ cs o)
def qo5(P:Program)(tbl:Tbl)(σ:St)(cs:List (X×Bool))(o:Oper):Option (List X×Eff):=match o.dst with
 |none=>(match o.op with
  |.store T y x=>z9v (z17 tbl σ cs y) (qpw P σ cs T y x)
  |.mapUpdate T m k x=>sts (qqd σ cs T m k x)
  |.insert T m k x=>sts (qqd σ cs T m k x)
  |_=>none)
 | some k => match o.op with
  |.alloc T=>sts (qps P σ k T)
  |.box T y=>sts (z11 σ cs k T y)
  |.buildSlice T n ps=>sts (z3a σ cs k T n ps.toList)
  |.makeSlice T x y=>stn (quh σ cs k T x y)
  |.makeMap T r=>sts (z20 σ cs k T r)
  | .build T ps => (match qra σ cs k T ps.toList with
   |some x=>some ([],.val x)
   |none=>(match z0v P σ cs T ps.toList with
    |some x=>some ([],.val x)
    |none=>none))
  |.call c=>qxi P tbl σ cs k o c
  |_=>vals (quiet P σ cs o)
def z5n:X→Bool
 |.lit d=>d.tt
 |_=>false
theorem z56{e:Ev}:∀{x:X},z5n x=true→(x.ev e).tt=true:=fun{x}h=>by
 unfold z5n at h;split at h
 ·exact h
 ·cases h
def zaz(tbl:Tbl)(k:Option Nat)(r:List X×Eff):List X×Eff:=if z43 tbl then((r.1.map (qfj (yx tbl))).filter fun x=> !z5n x,match r.2 with
 |.val x=>.val (qyl (yx tbl) x)
 |.st σ=>.st (z8k (yx tbl) k σ)) else r
def step(P:Program)(tbl:Tbl)(σ:St)(cs:List (X×Bool))(o:Oper):Option (List X×Eff):=(qo5 P tbl σ cs o).map (zaz tbl o.dst)
def Eff.on(σ:St)(k:Option Nat):Eff→Option St
 |.val x=>(match k with
  |some k=>some ⟨jy σ.t k x,σ.m⟩
  |none=>none)
 |.st σ'=>some σ'
inductive Gd where
 |yes
 |no
 |ask(cs:List (X×Bool))
def qos(b:Bool)(cs:List (X×Bool)):AV→Option Gd
 |.v x .bool _ _=>(match x with
  |.lit (.b v)=>if v==b then some (match cs with|[]=>.yes|_=>.ask cs) else some .no
  |_=>some (.ask (cs++[(x,b)])))
 |.undef=>some .no
 |_=>none
def guardOf(ds:List (Option Tmp))(σ:St)(g:Nat)(b:Bool):Option Gd:=match(ds[g]?).join with
 |some t=>(match lkA σ.t t with
  |some (.gd cs a)=>qos b cs a
  |some a=>qos b [] a
  |none=>none)
 |none=>none
def z76(σ:St):Option Nat→St
 |some k=>⟨jy σ.t k .undef,σ.m⟩
 |none=>σ
def under(σ:St)(k:Option Nat)(cs:List (X×Bool)):List X×Eff→Option (List X×St)
  | (ns, .val x) => (match k with
    |some k=>some (ns.map (qrs cs),⟨jy σ.t k (.gd cs x),σ.m⟩)
    |none=>none)
  |(ns,.st σ1)=>some (ns.map (qrs cs),merge cs k σ1 σ)
def qq5(σ:St)(k:Option Nat):List X×Eff→Option (List X×St)
  | (ns, e) => match e.on σ k with
    |some σ'=>some (ns,σ')
    |none=>none
def stepG(P:Program)(tbl:Tbl)(ds:List (Option Tmp))(σ:St)(o:Oper):Option (List X×St):=match o.guard with
 |none=>(step P tbl σ [] o).bind (qq5 σ o.dst)
 |some (g,b)=>match guardOf ds σ g b with
  |some .yes=>(step P tbl σ [] o).bind (qq5 σ o.dst)
  |some .no=>some ([],z76 σ o.dst)
  |some (.ask cs)=>(step P tbl σ cs o).bind (under σ o.dst cs)
  |none=>none
def isVar:Op→Bool
 |.alloc _=>true
 |.box _ _=>true
 |_=>false
def qaf(lo z:Nat)(o:Oper):Bool:=match o.dst with
 |some k=>kM k z&&(!isVar o.op||(vB lo k&&kM k VB))
 |none=>true
section
variable{c:Cx}{p:z0}{w w0:World}{S0:Nat→Prop}{a:Act}{σ σ':St}{cs:List (X×Bool)}{o:Oper}{d:List Deferred}{z:Nat}{tbl:Tbl}
def qq6(c:Cx)(w0:World)(S0:Nat→Prop)(d:List Deferred)(z:Nat)(σ:St)(p:z0)(w:World)(a:Act)(k:Option Nat):Eff→Act→World→Prop
 |.val x,a',w'=>w'=w∧∃v,a'=a.put k v∧x.pd c p w v
 |.st σ',a',w'=>j9 c w0 S0 d z σ' a' w'
theorem HS.fb(hS:HS c tbl):qzy c (flX tbl):=fun te=>by
 have h:=hS.f te;unfold flM at h;unfold flX;split
 ·rename_i b hb;obtain⟨n,hn,rfl⟩:=uO.1 hb;rw[hn] at h
  show c.F.mx te≤(((c.v.S n []).getD []).getD 0 .u).int.toNat
  rw[hS.s];exact h
 ·rename_i hb;have hb:flI te 0 tbl=none:=by simpa using hb
  rw[hb] at h;exact Nat.le_zero.1 h
theorem z4j(hS:HS c tbl){y:Operand}{xx:X}{t:Ty}{dep:List Nat}{pin:Nat}{i:X}{path:List Nat}{q:Nat}{te:Ty}(hy:opd σ cs y=some (.rd xx t dep (some (pin,i,path,q,te))))(hn:∀n∈z17 tbl σ cs y,n.says c.v):c.F.mx te≤(i.ev c.v).int.toNat:=by
 have h:=hS.fb te;unfold z17 at hn;rw[hy] at hn;simp only at hn;split at hn
 ·rename_i b hb;rw[hb] at h;have h2:=jd (hn _ uC);have h1:c.F.mx te≤(b.ev c.v).int.toNat:=h;omega
 ·rename_i hb;rw[hb] at h;have h1:c.F.mx te=0:=h;omega
theorem z5i(hS:HS c tbl){y:Operand}{k:Nat}{path:List Nat}{q:Nat}{t:Ty}{e:Ent}(hy:opd σ cs y=some (.ref k path q t))(he:lkA σ.m k=some e)(hv:nvB e.t=true)(hn:∀n∈z17 tbl σ cs y,n.says c.v):c.F.mx e.t=0:=by
 have h:=hS.fb e.t;unfold z17 at hn;rw[hy] at hn;simp only[he,hv,if_true] at hn;split at hn
 ·rename_i b hb;rw[hb] at h;have h2:=jd (hn _ uC);have h1:c.F.mx e.t≤(b.ev c.v).int.toNat:=h;have h3:((X.lit (.i 0)).ev c.v).int=0:=rfl;omega
 ·rename_i hb;rw[hb] at h;exact h
theorem qdt{x:AV}(h:q4a o a c p w x){Q:Exit→Act→World→Prop}{σ0:St}:o.wp uA a w (qq6 c w0 S0 d z σ0 p w a o.dst (.val x)) Q:=by
 obtain⟨v,hr,hv⟩:=h;unfold Oper.wp;rw[hr];exact⟨rfl,v,rfl,hv⟩
theorem z21(hf:SF c σ p w a){ks:List Nat}:∀(x:AV){v:Value},x.pd c p w v→(qwf σ ks x).pd c p w v:=fun x v h=>by
 unfold qwf;split
 ·rename_i k t;split
  ·split
   ·rename_i e he;split
    ·rename_i ht;rw[Ty.beq_iff] at ht;obtain⟨g,cs,T,hg,hh,hty,hcon⟩:=hf.m k e he;obtain⟨g',hg',e',hat⟩:=h;obtain rfl:=gnI (hg.symm.trans hg');refine⟨g,cs,T,⟨hg,hat⟩,e',hh,ht▸hty,?_⟩;rw[←Array.length_toList,hcon.len.1,ht]
    ·exact h
   ·exact h
  ·exact h
 ·exact h
theorem qsu(hf:SF c σ p w a)(ks:List Nat):SF c (z33 σ ks) p w a:=by
 refine⟨fun t x hx=>?_,hf.m⟩;obtain⟨y,hy,rfl⟩:=q53 (f:=qwf σ ks) hx;obtain⟨u,h1,h2⟩:=hf.t t y hy;exact⟨u,h1,z21 hf y h2⟩
theorem qod(htb:q16 tbl)(hS:HS c tbl)(hb:Bs c.A c.F w0 S0 p w)(hf:SF c σ p w a)(hc:hold c.v cs=true)(hd:a.defers=d)(hz:a.tmps.size=z){k:Nat}(hk:k<z)(hdst:o.dst=some k){y:Operand}{args:Array Operand}{tys:Array TypeId}(heq:o.op=.call {callee:=.value y,args:=args,argTypes:=tys})
  {ns:List X}{σ':St}(h:qen tbl σ cs k y args.toList=some (ns,σ'))(hn:∀n∈ns,n.says c.v){Q:Exit→Act→World→Prop}(hQ:qeq tbl w0 S0 d Q):o.wp uA a w (j9 c w0 S0 d z σ') Q:=by
 unfold qen at h;split at h
 ·rename_i ns1 σ1 h1;split at h
  ·simp only[gnS] at h;obtain⟨rfl,rfl⟩:=h;exact qr0 htb hS hb hf hc hd hz hk hdst heq h1 hn hQ
  ·split at h
   ·rename_i r h2;simp only[uF] at h;subst h;exact qr0 htb hS hb (qsu hf _) hc hd hz hk hdst heq h2 hn hQ
   ·simp only[gnS] at h;obtain⟨rfl,rfl⟩:=h;exact qr0 htb hS hb hf hc hd hz hk hdst heq h1 hn hQ
 ·cases h
theorem z3y{own:List (Nat×Nat)}{j:Nat}:lkA (ql6 own) j=if kM j 2 then lkA own j else none:=by
 induction own with
 |nil=>simp[ql6,lkA]
 | cons e l ih =>
  obtain⟨i,q⟩:=e;have ih':lkA (l.filter fun y=>kM y.1 2) j=if kM j 2 then lkA l j else none:=ih;unfold ql6;by_cases hi:kM i 2=true
  ·rw[List.filter_cons_of_pos (by simpa using hi)];by_cases hj:i=j
   ·subst hj;rw[q9,q9,if_pos hi]
   ·rw[qb hj,qb hj];exact ih'
  ·rw[List.filter_cons_of_neg (by simpa using hi)];by_cases hj:i=j
   ·subst hj;rw[ih',if_neg hi,if_neg hi]
   ·rw[qb hj];exact ih'
theorem Fl.weak{A:Nat→Prop}{p:z0}{w:World}{dep dep':List Nat}{own:List (Nat×Nat)}(hd:∀x∈dep,x∈dep')(hp:∀x∈own.map (·.2),x∈dep'){j:Nat}{d:D}{t:Ty}{cs:List Value}(h:Fl A p w dep (lkA own j) d t cs):Fl A p w dep' (lkA (ql6 own) j) d t cs:=by
 rw[z3y];split
 ·exact h.mono hd
 ·exact h.rd hd fun x hx=>hp x (q43 hx)
theorem Fls.weak{A:Nat→Prop}{p:z0}{w:World}{dep dep':List Nat}{own:List (Nat×Nat)}(hd:∀x∈dep,x∈dep')(hp:∀x∈own.map (·.2),x∈dep'):∀{ds:List D}{j:Nat}{fs:List Ty}{cs:List Value},Fls A p w dep own j ds fs cs→Fls A p w dep' (ql6 own) j ds fs cs
 |[],_,_,_,h=>h
 |d::ds,j,fs,cs,⟨t,ts,c1,c2,e1,e2,h1,h2⟩=>⟨t,ts,c1,c2,e1,e2,h1.weak hd hp,Fls.weak hd hp h2⟩
theorem Con.weak{A:Nat→Prop}{p:z0}{w:World}{dep dep':List Nat}{own:List (Nat×Nat)}(hd:∀x∈dep,x∈dep')(hp:∀x∈own.map (·.2),x∈dep'){d:D}{t:Ty}{cs:List Value}(h:Con A p w d t own dep cs):Con A p w d t (ql6 own) dep' cs:=by
 unfold Con at h⊢;split at h
 ·obtain⟨fs,ds,hf,e,h⟩:=h;exact⟨fs,ds,hf,e,h.weak hd hp⟩
 ·exact Fl.weak hd hp h
theorem z3f(hf:SF c σ p w a)(ks:List Nat):SF c (z6y σ ks) p w a:=by
 refine⟨hf.t,fun k e he=>?_⟩;obtain⟨e0,h0,rfl⟩:∃e0,lkA σ.m k=some e0∧e=if zx ks k then qx9 e0 else e0:=by
  have:∀l:List (Nat×Ent),lkA (l.map fun e=>(e.1,if zx ks e.1 then qx9 e.2 else e.2)) k=some e→∃e0,lkA l k=some e0∧e=if zx ks k then qx9 e0 else e0:=by
   intro l
   induction l with
   |nil=>intro h;cases h
   | cons x l ih =>
    obtain⟨i,y⟩:=x;intro h;rw[uQ] at h;by_cases hi:i=k
    ·subst hi;rw[q9] at h;injection h with h;exact⟨y,q9,h.symm⟩
    ·rw[qb hi] at h;rw[qb hi];exact ih h
  exact this _ he
 split
 ·obtain⟨g,cur,T',h1,h2,h3,h4⟩:=hf.m k e0 h0;exact⟨g,cur,T',h1,h2,h3,h4.weak (fun x hx=>q3i hx) (fun x hx=>q14 hx)⟩
 ·exact hf.m k e0 h0
theorem qpa(htb:q16 tbl)(hS:HS c tbl)(hb:Bs c.A c.F w0 S0 p w)(hf:SF c σ p w a)(hc:hold c.v cs=true)(hd:a.defers=d)(hz:a.tmps.size=z){k:Nat}(hk:k<z)(hdst:o.dst=some k){y:Operand}{args:Array Operand}{tys:Array TypeId}(heq:o.op=.call {callee:=.value y,args:=args,argTypes:=tys})
  {ns:List X}{σ':St}(h:qky tbl σ cs k y args.toList=some (ns,σ'))(hn:∀n∈ns,n.says c.v){Q:Exit→Act→World→Prop}(hQ:qeq tbl w0 S0 d Q):o.wp uA a w (j9 c w0 S0 d z σ') Q:=by
 unfold qky at h;split at h
 ·rename_i r h1;simp only[uF] at h;subst h;exact qod htb hS hb hf hc hd hz hk hdst heq h1 hn hQ
 ·split at h
  ·exact qod htb hS hb (z3f hf _) hc hd hz hk hdst heq h hn hQ
  ·cases h
theorem qpk{m:List (Nat×Ent)}:∀{l:List (Nat×AV)}{t:Nat}{x:AV},lkA (qjr m l).2 t=some x→∃y,lkA l t=some y∧(x=y∨∃n,z6a m y=some (n,x)∧n∈(qjr m l).1)
  |[],t,x,h=>by cases h
  | (j, a) :: l, t, x, h => by
    unfold qjr at h⊢;split at h
    · rename_i n a' ha;by_cases hj:j=t
      · subst hj;rw[q9] at h;injection h with h;subst h;exact⟨a,q9,.inr ⟨n,ha,by simp[ha]⟩⟩
      · rw[qb hj] at h;obtain⟨y,h1,h2⟩:=qpk h;refine⟨y,by rw[qb hj];exact h1,h2.imp id fun⟨n',h3,h4⟩=>⟨n',h3,by simp[ha,h4]⟩⟩
    · rename_i ha;by_cases hj:j=t
      · subst hj;rw[q9] at h;injection h with h;subst h;exact⟨a,q9,.inl rfl⟩
      · rw[qb hj] at h;obtain⟨y,h1,h2⟩:=qpk h;exact⟨y,by rw[qb hj];exact h1,h2.imp id fun⟨n',h3,h4⟩=>⟨n',h3,by simp[ha,h4]⟩⟩
theorem z4c{m:List (Nat×Ent)}{x y:AV}{n:X}(h:z6a m y=some (n,x))(hn:n.says c.v){v:Value}(hv:y.pd c p w v):x.pd c p w v:=by
 unfold z6a at h;split at h
 ·split at h
  ·rename_i y' _;split at h
   ·cases h
   ·simp only[gnS] at h;obtain⟨rfl,rfl⟩:=h;obtain⟨cs,h1,h2⟩:=hv;refine⟨cs,h1,?_⟩;have:y'.ev c.v=_:=of_decide_eq_true (show decide _=true from hn);rw[this];exact h2
  ·cases h
 ·cases h
theorem z85(hf:SF c σ p w a)(hn:∀n∈(qjr σ.m σ.t).1,n.says c.v):SF c ⟨(qjr σ.m σ.t).2,σ.m⟩ p w a:=by
 refine⟨fun t x hx=>?_,hf.m⟩;obtain⟨y,h1,h2⟩:=qpk hx;obtain⟨v,h3,h4⟩:=hf.t t y h1;rcases h2 with rfl|⟨n,h5,h6⟩
 ·exact⟨v,h3,h4⟩
 ·exact⟨v,h3,z4c h5 (hn n h6) h4⟩
theorem z07(htb:q16 tbl)(hS:HS c tbl)(hb:Bs c.A c.F w0 S0 p w)(hf:SF c σ p w a)(hc:hold c.v cs=true)(hd:a.defers=d)(hz:a.tmps.size=z){k:Nat}(hk:k<z)(hdst:o.dst=some k){y:Operand}{args:Array Operand}{tys:Array TypeId}(heq:o.op=.call {callee:=.value y,args:=args,argTypes:=tys})
  {ns:List X}{σ':St}(h:qy0 tbl σ cs k y args.toList=some (ns,σ'))(hn:∀n∈ns,n.says c.v){Q:Exit→Act→World→Prop}(hQ:qeq tbl w0 S0 d Q):o.wp uA a w (j9 c w0 S0 d z σ') Q:=by
 obtain⟨⟨ns1,σ1⟩,h1,h2⟩:=uO.1 h;unfold za4 at h2;split at h2
 ·simp only[kG] at h2;obtain⟨rfl,rfl⟩:=h2;refine Oper.wp_mono ?_ (qpa htb hS hb hf hc hd hz hk hdst heq h1 (fun n hm=>hn n (uK _ hm)) hQ);rintro a' w'⟨p',hb',hf',hd',hz'⟩;exact⟨p',hb',z85 hf' fun n hm=>hn n (uI _ hm),hd',hz'⟩
 ·simp only[kG] at h2;obtain⟨rfl,rfl⟩:=h2;exact qpa htb hS hb hf hc hd hz hk hdst heq h1 hn hQ
theorem z5s(hb:Bs c.A c.F w0 S0 p w)(hf:SF c σ p w a)(hc:hold c.v cs=true)(hd:a.defers=d)(hz:a.tmps.size=z){k:Nat}(hk:k<z)(hdst:o.dst=some k){T:TypeId}{x y:Operand}(heq:o.op=.call {callee:=.builtin .append,args:= #[x,y],argTypes:= #[T,T]})
  {ns:List X}{σ':St}{fb:Ty→Option X}(hF:qzy c fb)(h:qvu fb σ cs k T x y=some (ns,σ'))(hn:∀n∈ns,n.says c.v){Q:Exit→Act→World→Prop}:o.wp uA a w (j9 c w0 S0 d z σ') Q:=by
 unfold qvu at h;split at h
 ·rename_i ns1 σ1 h1;split at h
  ·simp only[gnS] at h;obtain⟨rfl,rfl⟩:=h;exact qub hb hf hc hd hz hk hdst heq hF h1 hn
  ·split at h
   ·rename_i r h2;simp only[uF] at h;subst h;exact qub hb (qsu hf _) hc hd hz hk hdst heq hF h2 hn
   ·simp only[gnS] at h;obtain⟨rfl,rfl⟩:=h;exact qub hb hf hc hd hz hk hdst heq hF h1 hn
 ·cases h
theorem qsr(htb:q16 tbl)(hS:HS c tbl)(hb:Bs c.A c.F w0 S0 p w)(hf:SF c σ p w a)(hc:hold c.v cs=true)(hd:a.defers=d)(hz:a.tmps.size=z)(hk:qaf c.lo z o=true)
  {ns:List X}{e:Eff}(h:qo5 uA tbl σ cs o=some (ns,e))(hn:∀n∈ns,n.says c.v){Q:Exit→Act→World→Prop}(hQ:qeq tbl w0 S0 d Q):o.wp uA a w (qq6 c w0 S0 d z σ p w a o.dst e) Q:=by
 have hst:∀{r:Option St},sts r=some (ns,e)→∃σ',r=some σ'∧e=.st σ':=fun{r}h=>by
  unfold sts at h;split at h
  ·simp only[gnS] at h;exact⟨_,rfl,h.2.symm⟩
  ·cases h
 have hsn:∀{r:Option (List X×St)},stn r=some (ns,e)→∃σ',r=some (ns,σ')∧e=.st σ':=fun{r}h=>by
  unfold stn at h;split at h
  ·simp only[gnS] at h;obtain⟨rfl,rfl⟩:=h;exact⟨_,rfl,rfl⟩
  ·cases h
 have hvl:∀{r:Option (List X×AV)},vals r=some (ns,e)→∃x,r=some (ns,x)∧e=.val x:=fun{r}h=>by
  unfold vals at h;split at h
  ·simp only[gnS] at h;obtain⟨rfl,rfl⟩:=h;exact⟨_,rfl,rfl⟩
  ·cases h
 unfold qo5 at h;split at h
 ·rename_i hdst;split at h
  ·rename_i T y x heq;unfold z9v at h;split at h
   ·rename_i σ' h1;simp only[gnS] at h;obtain⟨h2,rfl⟩:=h;refine z31 hb hf hc hd hz hdst heq h1 (fun xx t dep pin i path q te hy=>z4j hS hy ?_) fun k path q t e hy he hv=>z5i hS hy he hv ?_
    ·rw[h2];exact hn
    ·rw[h2];exact hn
   ·cases h
  ·rename_i T m k x heq;obtain⟨σ',h1,rfl⟩:=hst h;exact qx3 hb hf hc hd hz hdst (.inl heq) h1
  ·rename_i T m k x heq;obtain⟨σ',h1,rfl⟩:=hst h;exact qx3 hb hf hc hd hz hdst (.inr heq) h1
  ·cases h
 ·rename_i k hdst;have hkz:k<z∧(isVar o.op=true→c.lo≤k∧k<VB):=by
   unfold qaf at hk;rw[hdst] at hk;simp only[gnB,kH,kA,uG] at hk;exact⟨hk.1,fun e=>by
    rcases hk.2 with h1|⟨h1,h2⟩
    ·rw[h1] at e;cases e
    ·exact⟨kE h1,h2⟩⟩
  split at h
  ·rename_i T heq;obtain⟨σ',h1,rfl⟩:=hst h;exact qzt hb hf hd hz hkz.1 (hkz.2 (by rw[heq];rfl)) hdst heq h1
  ·rename_i T y heq;obtain⟨σ',h1,rfl⟩:=hst h;exact z86 hb hf hc hd hz hkz.1 (hkz.2 (by rw[heq];rfl)) hdst heq h1
  ·rename_i T n ps heq;obtain⟨σ',h1,rfl⟩:=hst h;exact z5k hb hf hc hd hz hkz.1 hdst heq h1
  ·rename_i T x y heq;obtain⟨σ',h1,rfl⟩:=hsn h;exact z6g hb hf hc hd hz hkz.1 hdst heq h1 hn
  ·rename_i T r heq;obtain⟨σ',h1,rfl⟩:=hst h;exact z9h hb hf hc hd hz hkz.1 hdst heq h1
  ·rename_i T ps heq;split at h
   ·rename_i x hx;simp only[gnS] at h;obtain⟨rfl,rfl⟩:=h;exact qdt (qzp hf hc heq hx)
   ·split at h
    ·rename_i x hx;simp only[gnS] at h;obtain⟨rfl,rfl⟩:=h;exact qdt (z66 hf hc heq hx)
    ·cases h
  ·rename_i c' heq;unfold qxi at h;split at h
   ·rename_i f hcal;obtain⟨callee,args,tys⟩:=c';obtain rfl:callee=_:=hcal;split at h
    ·rename_i σ1 h1;simp only[gnS] at h;obtain⟨rfl,rfl⟩:=h;exact z99 hb hf hc hd hz hkz.1 hdst heq h1
    ·split at h
     ·rename_i σ1 h1;simp only[gnS] at h;obtain⟨rfl,rfl⟩:=h;exact z9y hb hf hc hd hz hkz.1 hdst heq h1
     ·split at h
      ·rename_i σ1 h1;simp only[gnS] at h;obtain⟨rfl,rfl⟩:=h;split at h1
       ·rename_i hfl;exact z90 hb hf hc hd hz hkz.1 hdst heq (fun te=>hS.zero (by rw[vD.1 hfl];simp)) h1
       ·cases h1
      ·split at h
       ·rename_i r h1;obtain⟨σ',h2,rfl⟩:=hsn h;injection h2 with h2;subst h2;exact z9n hb hf hc hd hz hkz.1 hdst heq (fun hfl te=>hS.zero (by rw[vD.1 hfl];simp)) h1 hn
       ·obtain⟨σ',h1,rfl⟩:=hsn h;exact z07 htb hS hb hf hc hd hz hkz.1 hdst heq h1 hn hQ
   ·rename_i hcal;split at h
    ·rename_i x y T T' h1 h2;split at h
     ·rename_i hT;obtain rfl:=gnN hT;obtain⟨σ',h3,rfl⟩:=hsn h;obtain⟨callee,⟨args⟩,⟨tys⟩⟩:=c';obtain rfl:callee=_:=hcal;obtain rfl:args=_:=h1;obtain rfl:tys=_:=h2;exact z5s hb hf hc hd hz hkz.1 hdst heq hS.fb h3 hn
     ·obtain⟨σ',h3,rfl⟩:=hsn h;obtain⟨callee,⟨args⟩,⟨tys⟩⟩:=c';obtain rfl:callee=_:=hcal;obtain rfl:args=_:=h1;obtain rfl:tys=_:=h2;exact z5c hb hf hc hd hz hkz.1 hdst heq hS.fb h3 hn
    ·cases h
   ·obtain⟨x,h1,rfl⟩:=hvl h;exact qdt (qlf hf hc h1 hn)
  ·obtain⟨x,h1,rfl⟩:=hvl h;exact qdt (qlf hf hc h1 hn)
theorem qjb(htb:q16 tbl)(hS:HS c tbl)(hb:Bs c.A c.F w0 S0 p w)(hf:SF c σ p w a)(hc:hold c.v cs=true)(hd:a.defers=d)(hz:a.tmps.size=z)(hk:qaf c.lo z o=true)
  {ns:List X}{e:Eff}(h:step uA tbl σ cs o=some (ns,e))(hn:∀n∈ns,n.says c.v){Q:Exit→Act→World→Prop}(hQ:qeq tbl w0 S0 d Q):o.wp uA a w (qq6 c w0 S0 d z σ p w a o.dst e) Q:=by
 unfold step at h;obtain⟨⟨ns0,e0⟩,h0,h1⟩:=uO.1 h;unfold zaz at h1;split at h1
 ·simp only[kG] at h1;obtain⟨rfl,rfl⟩:=h1;have hn0:∀n∈ns0,n.says c.v:=fun n hm=>by
   have this:(qfj (yx tbl) n).says c.v:=by
    cases hl:z5n (qfj (yx tbl) n) with
    |true=>exact z56 hl
    |false=>exact hn _ (uZ.2 ⟨kJ (f:=qfj (yx tbl)) hm,by rw[hl];rfl⟩)
   unfold X.says at this⊢;rw[←hS.s,qbf] at this;exact this
  refine Oper.wp_mono (fun a' w' hp=>?_) (qsr htb hS hb hf hc hd hz hk h0 hn0 hQ);cases e0 with
  |val x=>
   obtain⟨e1,v,e2,h2⟩:=hp;exact⟨e1,v,e2,by rw[←hS.s];exact qdy x h2⟩
  |st σ1=>
   obtain⟨p',h1,h2,h3,h4⟩:=hp;exact⟨p',h1,by rw[←hS.s];exact z44 h2,h3,h4⟩
 ·simp only[kG] at h1;obtain⟨rfl,rfl⟩:=h1;exact qsr htb hS hb hf hc hd hz hk h0 hn hQ
theorem qns{r:List X×Eff}(h:qo5 uA tbl σ cs o=some r):∀c',o.op≠.defer c':=fun c' hc=>by
 unfold qo5 at h;rw[hc] at h;split at h
 ·cases h
 ·simp[quiet,hc,vals] at h
theorem q68{r:List X×Eff}(h:step uA tbl σ cs o=some r):∀c',o.op≠.defer c':=by
 obtain⟨r0,h0,-⟩:=uO.1 h;exact qns h0
theorem q7a(hb:Bs c.A c.F w0 S0 p w)(hf:SF c σ p w a)(hd:a.defers=d)(hz:a.tmps.size=z){k:Nat}(hk:k<z){x:AV}{v:Value}(hv:x.pd c p w v):j9 c w0 S0 d z ⟨jy σ.t k x,σ.m⟩ (a.put (some k) v) w:=
 ⟨p,hb,hf.put (by rw[hz];exact hk) hv,hd,by simp only[Act.put,uH];exact hz⟩
theorem qoa(hb:Bs c.A c.F w0 S0 p w)(hf:SF c σ p w a)(hd:a.defers=d)(hz:a.tmps.size=z){k:Option Nat}(hk:∀t,k=some t→t<z):j9 c w0 S0 d z (z76 σ k) (a.put k Go.undef) w:=by
 cases k with
 |none=>exact⟨p,hb,hf,hd,hz⟩
 |some k=>exact q7a hb hf hd hz (hk k rfl) rfl
def z1q(c:Cx)(cs:List (X×Bool))(R:Prop):Gd→Prop
 |.yes=>R
 |.no=>¬R
 |.ask l=>(hold c.v l=true→hold c.v cs=true∧R)∧(hold c.v l=false→¬R)
theorem qsa{b:Bool}{cs:List (X×Bool)}{x:AV}{g:Gd}(h:qos b cs x=some g){v:Value}(h1:hold c.v cs=true→x.pd c p w v)(h2:hold c.v cs=false→v=Go.undef):z1q c cs (v=.bool b) g:=by
 have hu:Go.undef≠.bool b:=by intro e;cases e
 unfold qos at h;split at h
 ·rename_i x0 own dep;split at h
  ·rename_i _ u;have h3:hold c.v cs=true→v=.bool u:=fun hc=>by
    obtain⟨y,e1,e2⟩:=q3u (h1 hc);have:D.b u=D.b y:=e1;injection this with this;rw[e2,this]
   split at h
   ·rename_i hub;have hub':u=b:=by simpa using hub
    rw[←hub'] at hu⊢;injection h with h;subst h;cases cs with
    |nil=>exact h3 rfl
    |cons e l=>exact⟨(fun hc=>⟨hc,h3 hc⟩),(fun hc=>by rw[h2 hc];exact hu)⟩
   ·rename_i hub;injection h with h;subst h
    show ¬v=.bool b
    cases hc:hold c.v cs with
    |true=>
     rw[h3 hc];intro e;injection e with e;rw[e] at hub;simp at hub
    |false=>rw[h2 hc];exact hu
  ·injection h with h;subst h;have happ:hold c.v (cs++[(x0,b)])=(hold c.v cs&&(((x0.ev c.v).tt==b)&&true)):=by unfold hold;rw[List.all_append];rfl
   refine⟨fun hc=>?_,fun hc=>?_⟩
   ·rw[happ] at hc;simp only[gnB,Bool.and_true,beq_iff_eq] at hc;refine⟨hc.1,?_⟩;obtain⟨y,e1,e2⟩:=q3u (h1 hc.1);have h4:=hc.2;rw[e1] at h4;have h5:y=b:=h4;rw[e2,h5]
   ·rw[happ] at hc;cases hc2:hold c.v cs with
    |false=>rw[h2 hc2];exact hu
    |true=>
     rw[hc2] at hc;obtain⟨y,e1,e2⟩:=q3u (h1 hc2);rw[e1] at hc;rw[e2];intro e;injection e with e;subst e;simp[D.tt] at hc
 ·injection h with h;subst h
  show ¬v=.bool b
  cases hc:hold c.v cs with
  |true=>rw[show v=Go.undef from h1 hc];exact hu
  |false=>rw[h2 hc];exact hu
 ·cases h
theorem qk4{ops:Array Oper}{ds:List (Option Tmp)}(hds:ops.toList.map (·.dst)=ds){g:Nat}{t:Tmp}(h:(ds[g]?).join=some t){tmps:Array Value}{v:Value}(hv:tmps[t]? =some v){b:Bool}:(yielded ops tmps g=some b↔v=.bool b):=by
 have:yielded ops tmps g=match v with|.bool b=>some b|_=>none:=by
  unfold yielded;rw[←hds,uT,kS] at h;cases hog:ops[g]? with
  |none=>rw[hog] at h;cases h
  |some og=>
   rw[hog] at h;simp only[kQ,Option.join_some] at h;simp only[vT,h,hv];cases v<;>rfl
 rw[this];cases v<;>simp
theorem qlh{ops:Array Oper}{tmps:Array Value}{g:Nat}{b:Bool}(hg:o.guard=some (g,b)):(Region.wanted o (yielded ops tmps)=true)↔yielded ops tmps g=some b:=by
 unfold Region.wanted;simp only[hg];cases yielded ops tmps g<;>simp
theorem qt2(htb:q16 tbl)(hS:HS c tbl){ops:Array Oper}{ds:List (Option Tmp)}(hds:ops.toList.map (·.dst)=ds)(hb:Bs c.A c.F w0 S0 p w)(hf:SF c σ p w a)(hd:a.defers=d)(hz:a.tmps.size=z)(hk:qaf c.lo z o=true)
  {ns:List X}(h:stepG uA tbl ds σ o=some (ns,σ'))(hn:∀n∈ns,n.says c.v){Q:Exit→Act→World→Prop}(hQ:qeq tbl w0 S0 d Q){K:Act→World→Prop}(ro:Option Nat)(nn:Nat)(hK:∀a' w',j9 c w0 S0 d z σ' a' w'→K a' w'):
  if Region.wanted o (yielded ops a.tmps) then o.wpIn (FR ro) nn uA a w K Q else(∀f,o.about uA w a.eval=some f→(FR ro).fn f)∧K (a.put o.dst Go.undef) w:=by
 have hkz:∀t,o.dst=some t→t<z:=fun t e=>by
  unfold qaf at hk;rw[e] at hk;simp only[gnB,kH] at hk;exact hk.1
 have hplain:(step uA tbl σ [] o).bind (qq5 σ o.dst)=some (ns,σ')→o.wpIn (FR ro) nn uA a w K Q:=fun h=>by
  obtain⟨⟨ms,e⟩,h1,h2⟩:=uJ.1 h;have h2:(match e.on σ o.dst with|some σ'=>some (ms,σ')|none=>none)=some (ns,σ'):=h2;split at h2
  ·rename_i σ1 he;injection h2 with h2;obtain⟨rfl,rfl⟩:=kN h2;refine Oper.wp_round ro (q68 h1) (Oper.wp_mono ?_ (qjb htb hS hb hf rfl hd hz hk h1 hn hQ));intro a' w' hp;refine hK a' w' ?_;cases e with
   |st σ2=>
    injection he with he;subst he;exact hp
   | val x =>
    obtain⟨rfl,v,rfl,hv⟩:=hp;cases hdst:o.dst with
    |none=>rw[hdst] at he;cases he
    |some k=>
     rw[hdst] at he;injection he with he;subst he;exact q7a hb hf hd hz (hkz k hdst) hv
  ·cases h2
 unfold stepG at h;cases hg:o.guard with
 |none=>
  rw[hg] at h;rw[if_pos (by unfold Region.wanted;simp only[hg])];exact hplain h
 | some gb =>
  obtain⟨g,b⟩:=gb;rw[hg] at h;simp only at h
  -- the guard
  have hgd:∀G,guardOf ds σ g b=some G→z1q c [] (Region.wanted o (yielded ops a.tmps)=true) G:=fun G hG=>by
   unfold guardOf at hG;split at hG
   ·rename_i t ht;have key:∀{x:AV}{l:List (X×Bool)}{v:Value},a.tmps[t]? =some v→qos b l x=some G→(hold c.v l=true→x.pd c p w v)→(hold c.v l=false→v=Go.undef)→z1q c [] (Region.wanted o (yielded ops a.tmps)=true) G:=fun{x l v}hv hG h1 h2=>by
     have hy:=qk4 (ops:=ops) hds ht hv (b:=b);have hw:=qlh (ops:=ops) (tmps:=a.tmps) hg;have:=qsa hG h1 h2;cases G with
     |yes=>exact hw.2 (hy.2 this)
     |no=>exact fun e=>this (hy.1 (hw.1 e))
     |ask l=>exact⟨(fun e=>⟨rfl,hw.2 (hy.2 (this.1 e).2)⟩),(fun e e'=>this.2 e (hy.1 (hw.1 e')))⟩
    split at hG
    ·rename_i l x hx;obtain⟨v,hv1,hv2⟩:=hf.t t _ hx;exact key hv1 hG hv2.1 hv2.2
    ·rename_i x _ hx;obtain⟨v,hv1,hv2⟩:=hf.t t _ hx;exact key (l:=[]) hv1 hG (fun _=>hv2) (fun e=>by cases e)
    ·cases hG
   ·cases hG
  split at h
  ·rename_i hG;have h1:Region.wanted o (yielded ops a.tmps)=true:=hgd _ hG;rw[if_pos h1];exact hplain h
  ·rename_i hG;have h1:¬Region.wanted o (yielded ops a.tmps)=true:=hgd _ hG;rw[if_neg h1];simp only[gnS] at h;obtain⟨rfl,rfl⟩:=h;exact⟨fun _ _=>trivial,hK _ _ (qoa hb hf hd hz hkz)⟩
  ·rename_i cs hG;have h1:=hgd _ hG;obtain⟨⟨ms,e⟩,h2,h3⟩:=uJ.1 h;cases hc:hold c.v cs with
   | true =>
    rw[if_pos (h1.1 hc).2];have hns:ns=ms.map (qrs cs):=by
     cases e with
     | val x =>
      cases hdst:o.dst with
      |none=>rw[hdst] at h3;cases h3
      |some k=>
       rw[hdst] at h3;injection h3 with h3;exact(kN h3).1.symm
     |st σ1=>
      injection h3 with h3;exact(kN h3).1.symm
    refine Oper.wp_round ro (q68 h2) (Oper.wp_mono ?_ (qjb htb hS hb hf hc hd hz hk h2 (fun n hm=>qwd (hn (qrs cs n) (by rw[hns];exact kJ hm)) hc) hQ));intro a' w' hp;refine hK a' w' ?_;cases e with
    | val x =>
     obtain⟨rfl,v,rfl,hv⟩:=hp;unfold under at h3;simp only at h3;cases hdst:o.dst with
     |none=>rw[hdst] at h3;cases h3
     |some k=>
      rw[hdst] at h3;simp only[gnS] at h3;obtain⟨-,rfl⟩:=h3;exact q7a hb hf hd hz (hkz k hdst) ⟨(fun _=>hv),(fun e=>by rw[hc] at e;cases e)⟩
    |st σ1=>
     unfold under at h3;simp only[gnS] at h3;obtain⟨-,rfl⟩:=h3;obtain⟨p',hb',hf',hd',hz'⟩:=hp;exact⟨p',hb',qog hc hf' (fun t e=>⟨_,vK (by have:=hkz t e;rw[hz'];exact this)⟩),hd',hz'⟩
   | false =>
    rw[if_neg (h1.2 hc)];refine⟨fun _ _=>trivial,hK _ _ ?_⟩;cases e with
    | val x =>
     unfold under at h3;simp only at h3;cases hdst:o.dst with
     |none=>rw[hdst] at h3;cases h3
     |some k=>
      rw[hdst] at h3;simp only[gnS] at h3;obtain⟨-,rfl⟩:=h3;exact q7a hb hf hd hz (hkz k hdst) ⟨(fun e=>by rw[hc] at e;cases e),(fun _=>rfl)⟩
    |st σ1=>
     unfold under at h3;simp only[gnS] at h3;obtain⟨-,rfl⟩:=h3;exact⟨p,hb,qrp hc hf (fun t e=>by rw[hz];exact hkz t e),(by cases o.dst<;>exact hd),(by cases o.dst<;>simp only[Act.put,uH]<;>exact hz)⟩
  ·cases h
end
end
section
def z0f(P:Program)(tbl:Tbl)(ds:List (Option Tmp)):St→List Oper→Option (List X×St)
 |σ,[]=>some ([],σ)
 | σ, o :: l => match stepG P tbl ds σ o with
  |some (ns,σ1)=>(match z0f P tbl ds σ1 l with
   |some (ms,σ2)=>some (ns++ms,σ2)
   |none=>none)
  |none=>none
def z4f(N:List X)(n:X):Bool:=N.any fun m=>X.beq m n
def q7u:List Edge→Nat
 |[]=>0
 |e::l=>if Region.binds .any e then vO (uL 1 e.on) (q7u l) else q7u l
def zn(o:Oper):Nat:=q7u o.after.toList
def q0k:List Nat→Nat→Nat→List Nat
 |[],_,_=>[]
 |m::l,i,S=>if uE (uY 1 (uX S i)) 0&&uE (uY m S) m then i::q0k l (i+1) S else q0k l (i+1) S
def plus(S i:Nat):Nat:=vO S (uL 1 i)
abbrev Lv:=List (Nat×St)
def z77(S:Nat):Lv→Bool
 |[]=>false
 |e::l=>if uE e.1 S then true else z77 S l
def z5r(P:Program)(tbl:Tbl)(ds:List (Option Tmp))(ops:List Oper)(ms:List Nat)(lv:Lv):Lv:=
 lv.foldl (fun acc e=>(q0k ms 0 e.1).foldl (fun acc i=>if z77 (plus e.1 i) acc then acc else match ops[i]? with
  |some o=>(match stepG P tbl ds e.2 o with
   |some (_,σ')=>(plus e.1 i,σ')::acc
   |none=>acc)
  |none=>acc) acc) []
def qob(P:Program)(tbl:Tbl)(ds:List (Option Tmp))(ops:List Oper)(ms:List Nat):Nat→Lv→List Lv
 |0,lv=>[lv]
 |n+1,lv=>lv::qob P tbl ds ops ms n (z5r P tbl ds ops ms lv)
def qr2(S:Nat):Lv→Option St
 |[]=>none
 |e::l=>if uE e.1 S then some e.2 else qr2 S l
def qwu(P:Program)(tbl:Tbl)(ds:List (Option Tmp))(ops:List Oper)(ms:List Nat)(N:List X)(l:St):List Lv→Bool
 |[]=>false
 |[lv]=>lv.all fun e=>(q0k ms 0 e.1).isEmpty&&covers e.2 l
 | lv :: lv' :: r => (lv.all fun e => !(q0k ms 0 e.1).isEmpty && (q0k ms 0 e.1).all fun i => match ops[i]? with
   | some o => (match stepG P tbl ds e.2 o with
    |some (ns,σ')=>ns.all (z4f N)&&(match qr2 (plus e.1 i) lv' with
     |some σ2=>covers σ' σ2
     |none=>false)
    |none=>false)
   |none=>false)&&qwu P tbl ds ops ms N l (lv'::r)
def z7p:List Lv→Option St
 |[]=>none
 |[lv]=>(match lv with
  |[e]=>some e.2
  |_=>none)
 |_::l=>z7p l
def dsts(l:List Oper):List (Option Tmp):=l.map (·.dst)
def seg(P:Program)(tbl:Tbl)(lo z:Nat)(σ:St)(l:List Oper)(d:Bool):Option (List X×St):=
 if l.all (qaf lo z) then match z0f P tbl (dsts l) σ l with
  | some (N, σ') => if d then
    (match z7p (qob P tbl (dsts l) l (l.map zn) l.length [(0,σ)]) with
    |some σf=>if qwu P tbl (dsts l) l (l.map zn) N σf (qob P tbl (dsts l) l (l.map zn) l.length [(0,σ)]) then some (N,σf) else none
    |none=>none)
   else some (N,σ')
  |none=>none
 else none
theorem qoe:uA.follows .mixedOrders=true:=by kernel_rfl
section
variable{c:Cx}{p:z0}{w w0:World}{S0:Nat→Prop}{a:Act}{σ σ':St}{d:List Deferred}{z:Nat}{tbl:Tbl}
theorem qq0{N:List X}{n:X}(h:z4f N n=true):n∈N:=by
 obtain⟨m,hm,he⟩:=vF.1 h;rw[←X.beq_ok _ _ he];exact hm
theorem qo4(ro:Option Nat)(nn:Nat)(htb:q16 tbl)(hS:HS c tbl){ops:Array Oper}{ds:List (Option Tmp)}(hds:ops.toList.map (·.dst)=ds){Q:Exit→Act→World→Prop}(hQ:qeq tbl w0 S0 d Q):∀{l:List Oper}{σ σ':St}{p:z0}{w:World}{a:Act}{N:List X},z0f uA tbl ds σ l=some (N,σ')→
  l.all (qaf c.lo z)=true→(∀n∈N,n.says c.v)→Bs c.A c.F w0 S0 p w→SF c σ p w a→a.defers=d→a.tmps.size=z→
  (∀a' w',j9 c w0 S0 d z σ' a' w'→Q .normal a' w')→wpListIn (FR ro) nn uA ops Q l a w
 |[],σ,σ',p,w,a,N,h,_,_,hb,hf,hd,hz,hk=>by
  simp only[z0f,gnS] at h;obtain⟨-,rfl⟩:=h;exact hk a w ⟨p,hb,hf,hd,hz⟩
 | o :: l, σ, σ', p, w, a, N, h, hall, hn, hb, hf, hd, hz, hk => by
  simp only[vM,gnB] at hall;unfold z0f at h;split at h
  ·rename_i ns σ1 h1;split at h
   ·rename_i ms σ2 h2;simp only[gnS] at h;obtain⟨rfl,rfl⟩:=h;unfold wpListIn
    exact qt2 htb hS hds hb hf hd hz hall.1 h1 (fun n hm=>hn n (uK _ hm)) hQ ro nn fun a' w'⟨p',hb',hf',hd',hz'⟩=>
     qo4 ro nn htb hS hds hQ h2 hall.2 (fun n hm=>hn n (uI _ hm)) hb' hf' hd' hz' hk
   ·cases h
  ·cases h
theorem q6e(j:Nat):∀{l:List Edge},(q7u l).testBit j=true↔∃e∈l,Region.binds .any e=true∧e.on=j
 |[]=>by simp[q7u]
 | e :: l => by
  unfold q7u;split
  ·rename_i hb;rw[show vO (uL 1 e.on) (q7u l)=(1 <<< e.on) ||| q7u l from rfl,vL,kA,q6e j];rw[kC,kW];constructor
   ·rintro(h|⟨e',he',h⟩)
    ·exact⟨e,uC,hb,by simpa using h⟩
    ·exact⟨e',uD _ he',h⟩
   ·rintro⟨e',he',h1,h2⟩;rcases uM.1 he' with rfl|he'
    ·exact .inl (by simpa using h2)
    ·exact .inr ⟨e',he',h1,h2⟩
  ·rename_i hb;rw[q6e j];constructor
   ·rintro⟨e',he',h⟩;exact⟨e',uD _ he',h⟩
   ·rintro⟨e',he',h1,h2⟩;rcases uM.1 he' with rfl|he'
    ·exact absurd h1 hb
    ·exact⟨e',he',h1,h2⟩
theorem z2z{l:List Edge}{S:Nat}:uE (uY (q7u l) S) (q7u l)=true↔∀e∈l,Region.binds .any e=true→S.testBit e.on=true:=by
 rw[vU,show uY (q7u l) S=q7u l &&& S from rfl];constructor
 ·intro h e he hb;have h1:(q7u l).testBit e.on=true:=(q6e e.on).2 ⟨e,he,hb,rfl⟩;rw[←h,kT,gnB] at h1;exact h1.2
 ·intro h;refine vS fun j=>?_;rw[kT];cases hj:(q7u l).testBit j with
  |false=>rfl
  |true=>
   obtain⟨e,he,hb,rfl⟩:=(q6e j).1 hj;rw[h e he hb];rfl
theorem q51{S:Nat}:∀{l:List Oper}{i j:Nat},j∈q0k (l.map zn) i S↔i≤j∧S.testBit j=false∧∃o,l[j - i]? =some o∧∀e∈o.after,Region.binds .any e=true→S.testBit e.on=true
 |[],i,j=>by simp[q0k]
 | o :: l, i, j => by
  have hbit:uE (uY 1 (uX S i)) 0=true↔S.testBit i=false:=by
   rw[vU];unfold jF;rw[show uY 1 (uX S i)=1 &&& (S >>> i) from rfl];simp
  have hhd:(uE (uY 1 (uX S i)) 0&&uE (uY (zn o) S) (zn o))=true↔S.testBit i=false∧∀e∈o.after,Region.binds .any e=true→S.testBit e.on=true:=by
   rw[gnB,hbit];unfold zn;rw[z2z];constructor
   ·rintro⟨h1,h2⟩;exact⟨h1,fun e he=>h2 e (by simpa using he)⟩
   ·rintro⟨h1,h2⟩;exact⟨h1,fun e he=>h2 e (by simpa using he)⟩
  have htl:i+1≤j→(l[j - (i+1)]? =(o::l)[j - i]?):=fun h=>by
   rw[show j - i=(j - (i+1))+1 by omega,kP]
  simp only[uQ,q0k];split
  ·rename_i hc;rw[uM,q51 (l:=l)];constructor
   ·rintro(rfl|⟨h1,h2,o',h3,h4⟩)
    ·exact⟨kO _,(hhd.1 hc).1,o,by simp,(hhd.1 hc).2⟩
    ·exact⟨by omega,h2,o',by rw[←htl h1];exact h3,h4⟩
   ·rintro⟨h1,h2,o',h3,h4⟩;by_cases hij:j=i
    ·exact .inl hij
    ·exact .inr ⟨by omega,h2,o',by rw[htl (by omega)];exact h3,h4⟩
  ·rename_i hc;rw[q51 (l:=l)];constructor
   ·rintro⟨h1,h2,o',h3,h4⟩;exact⟨by omega,h2,o',by rw[←htl h1];exact h3,h4⟩
   ·rintro⟨h1,h2,o',h3,h4⟩;by_cases hij:j=i
    ·subst hij;simp only[Nat.sub_self,List.getElem?_cons_zero,uF] at h3;subst h3;exact absurd (hhd.2 ⟨h2,h4⟩) hc
    ·exact⟨by omega,h2,o',by rw[htl (by omega)];exact h3,h4⟩
def Rep(n S:Nat)(listed:Array Bool):Prop:=listed.size=n∧∀j,listed.getD j false=S.testBit j
theorem Rep.plus{n S i:Nat}{listed:Array Bool}(h:Rep n S listed)(hi:i<n):Rep n (plus S i) (listed.setIfInBounds i true):=by
  refine⟨by rw[uH];exact h.1,fun j=>?_⟩;unfold Proofs.Ytbmaffphliignaa.plus;rw[show vO S (uL 1 i)=S ||| (1 <<< i) from rfl,vL,kC,kW,←h.2 j];by_cases hij:i=j
  · subst hij;simp[h.1,hi]
  · rw[getD_set_ne false hij];simp[hij]
theorem Rep.ready{l:List Oper}{S:Nat}{listed:Array Bool}(h:Rep l.length S listed)(j:Nat):j∈Region.ready .any l.toArray listed↔j∈q0k (l.map zn) 0 S:=by
 rw[mem_ready,q51];simp only[vR,true_and,vN,uV];constructor
 ·rintro⟨h0,o,ho,h1⟩;have hlt:j<listed.size:=by rw[h.1];exact(gnH.1 ho).1
  refine⟨?_,o,ho,fun e he hb=>by rw[←h.2];exact h1 e he hb⟩;rw[←h.2 j];simpa[vH,hlt] using h0
 ·rintro⟨h0,o,ho,h1⟩;have hlt:j<listed.size:=by rw[h.1];exact(gnH.1 ho).1
  refine⟨?_,o,ho,fun e he hb=>by rw[h.2];exact h1 e he hb⟩;rw[←h.2 j] at h0;simpa[vH,hlt] using h0
theorem qjt{S:Nat}:∀{lv:Lv}{σ:St},qr2 S lv=some σ→(S,σ)∈lv
  |[],σ,h=>by cases h
  | (S', σ') :: l, σ, h => by
    unfold qr2 at h;split at h
    · rename_i he;injection h with h;have:=gnN he;subst h;rw[←this];exact uC
    · exact uD _ (qjt h)
theorem z1n(ro:Option Nat)(nn:Nat)(htb:q16 tbl)(hS:HS c tbl){ops:List Oper}{N:List X}{l:St}(hN:∀n∈N,n.says c.v)(hall:ops.all (qaf c.lo z)=true){Q:Exit→Act→World→Prop}(hQ:qeq tbl w0 S0 d Q)
  (hk:∀a' w',j9 c w0 S0 d z l a' w'→Q .normal a' w'):∀(L:List Lv)(n:Nat),L.length=n+1→qwu uA tbl (ops.map (·.dst)) ops (ops.map zn) N l L=true→
  ∀lv,L.head? =some lv→∀e∈lv,∀(listed:Array Bool)(p:z0)(w:World)(a:Act),Rep ops.length e.1 listed→Bs c.A c.F w0 S0 p w→a.defers=d→a.tmps.size=z→SF c e.2 p w a→wpAnyIn (FR ro) nn uA .any ops.toArray Q n listed a w
 |[],n,hn,h=>by cases h
 |[lv],n,hn,h=>fun lv0 hlv e he listed p w a hrep hx hd hz hf=>by
  obtain rfl:n=0:=by simpa using hn.symm
  simp only[uS,uF] at hlv;subst hlv;have h1:=uB.1 (show(lv.all fun e=>(q0k (ops.map zn) 0 e.1).isEmpty&&covers e.2 l)=true from h) e he;simp only[gnB,vD] at h1;refine⟨vE.2 fun j hj=>?_,hk a w ⟨p,hx,q6f h1.2 hf,hd,hz⟩⟩;have:=(hrep.ready j).1 hj;rw[h1.1] at this;cases this
 | lv :: lv' :: r, n, hn, h => fun lv0 hlv e he listed p w a hrep hx hd hz hf => by
  obtain⟨m,rfl⟩:∃m,n=m+1:=⟨r.length,by simp at hn;omega⟩;simp only[uS,uF] at hlv;subst hlv;unfold qwu at h;simp only[gnB] at h;obtain⟨h1,h2⟩:=h;have h3:=uB.1 h1 e he;simp only[gnB,uG] at h3;refine⟨fun hr=>?_,fun i hi=>?_⟩
  ·exfalso;cases hl:q0k (ops.map zn) 0 e.1 with
   |nil=>rw[hl] at h3;simp at h3
   |cons j js=>
    have:=(hrep.ready j).2 (by rw[hl];exact uC);rw[hr] at this;cases this
  ·have h4:=uB.1 h3.2 i ((hrep.ready i).1 hi);split at h4
   ·rename_i o hoi;split at h4
    ·rename_i ns σ' hr;simp only[gnB] at h4;obtain⟨h4a,h4b⟩:=h4;split at h4b
     ·rename_i σ2 hfl;unfold wpOpIn;rw[uV,hoi];have hin:i<ops.length:=(gnH.1 hoi).1;have htl:qaf c.lo z o=true:=uB.1 hall o (uW hoi);refine qt2 htb hS (ds:=ops.map (·.dst)) (by simp) hx hf hd hz htl hr (fun n hm=>hN n (qq0 (uB.1 h4a n hm))) hQ ro nn fun a' w'⟨p',hx',hf',hd',hz'⟩=>?_;exact z1n ro nn htb hS hN hall hQ hk (lv'::r) m (by simpa using hn) h2 lv' rfl (plus e.1 i,σ2) (qjt hfl) _ p' w' a' (hrep.plus hin) hx' hd' hz' (q6f h4b hf')
     ·cases h4b
    ·cases h4
   ·cases h4
theorem qfi{ds:List (Option Tmp)}{ops:List Oper}{ms:List Nat}:∀(n:Nat)(lv:Lv),(qob uA tbl ds ops ms n lv).length=n+1∧(qob uA tbl ds ops ms n lv).head? =some lv
 |0,lv=>⟨rfl,rfl⟩
 |n+1,lv=>⟨by simp[qob,(qfi n _).1],rfl⟩
theorem SF.drew(h:SF c σ p w a):SF c σ p {w with drawn:=w.drawn+1} a:=
 have hs:Stab c.A no no p w p {w with drawn:=w.drawn+1}:=⟨kO _,fun _ _ _ h=>⟨rfl,h⟩,fun _ _ _ h=>h,fun _ _ _ _=>rfl⟩
 ⟨fun t x hx=>let ⟨v,h1,h2⟩:=h.t t x hx;⟨v,h1,AV.kept hs x v (fun _ _=>⟨rfl,rfl⟩) (fun _ _=>rfl) h2⟩,fun k e he=>(h.m k e he).kept hs (fun _ _=>⟨rfl,rfl⟩) ⟨rfl,rfl⟩⟩
theorem Bs.drew(h:Bs c.A c.F w0 S0 p w):Bs c.A c.F w0 S0 p {w with drawn:=w.drawn+1}:=⟨h.inj,h.bd,h.but.drew,h.pin,h.new,h.pa,h.obj,h.flo.same fun k _ _=>rfl⟩
theorem z1v(ro:Option Nat)(nn:Nat)(htb:q16 tbl)(hS:HS c tbl){id:Nat}{ops:Array Oper}{dr:Bool}{N:List X}(h:seg uA tbl c.lo z σ ops.toList dr=some (N,σ'))(hN:∀n∈N,n.says c.v)(hb:Bs c.A c.F w0 S0 p w)(hf:SF c σ p w a)(hd:a.defers=d)(hz:a.tmps.size=z){Q:Exit→Act→World→Prop}(hQ:qeq tbl w0 S0 d Q)
  (hk:∀a' w',j9 c w0 S0 d z σ' a' w'→Q .normal a' w'):(Code.region id ops dr).wpIn (FR ro) nn uA Q a w:=by
 obtain⟨l⟩:=ops;unfold seg at h;split at h
 ·rename_i hall;split at h
  ·rename_i N' σ1 hr;cases dr with
   |false=>
    rw[if_neg (by simp)] at h;simp only[gnS] at h;obtain⟨rfl,rfl⟩:=h;refine wpIn_region ?_;have:wpOpsIn (FR ro) nn uA l.toArray Q (vP 0 l.length)=wpListIn (FR ro) nn uA l.toArray Q l:=wpOpsIn_eq_wpListIn l 0 (fun j=>by simp);rw[show kZ (Array.mk l).size=vP 0 l.length by simp[List.range_eq_range']]
    show wpOpsIn (FR ro) nn uA l.toArray Q (vP 0 l.length) a w
    rw[this];exact qo4 ro nn htb hS (ds:=dsts l) (by simp[dsts]) hQ hr hall hN hb hf hd hz hk
   | true =>
    rw[if_pos rfl] at h;split at h
    ·rename_i σf hl;split at h
     ·rename_i hok;simp only[gnS] at h;obtain⟨rfl,rfl⟩:=h;refine wpIn_region_any qoe ?_;exact z1n ro nn htb hS (ops:=l) hN hall hQ hk _ _ (qfi l.length _).1 hok _ (qfi l.length _).2 (0,σ) uC (vY l.length false) p _ a ⟨by simp,fun j=>by simp[vH]⟩ hb.drew hd hz hf.drew
     ·cases h
    ·cases h
  ·cases h
 ·cases h
end
end
section
def qg9(n:Nat)(l:List (X×Bool)):Bool:=l.all fun y=>X.upto n y.1
mutual
def AV.upto(n:Nat):AV→Bool
 |.v x _ _ _=>X.upto n x
 |.rd x _ _ wr=>X.upto n x&&(match wr with|some (_,i,_)=>X.upto n i|none=>true)
 |.tup l=>qe7 n l
 |.gd cs a=>qg9 n cs&&AV.upto n a
 |.nb x _=>X.upto n x
 |.fn _ l=>qe7 n l
 |.bx _ _ a=>AV.upto n a
 |.ax _ _ _ a=>AV.upto n a
 |.fr _ a=>AV.upto n a
 |.ff _ _ x1 _ _ x2 _ _=>X.upto n x1&&X.upto n x2
 |.sn _ a=>AV.upto n a
 |.wf _ _ x _ _ _ a=>X.upto n x&&AV.upto n a
 |.pt _ i _ a=>X.upto n i&&AV.upto n a
 |.ar _ xs _=>X.uptos n xs
 |_=>true
def qe7(n:Nat):List AV→Bool
 |[]=>true
 |a::l=>AV.upto n a&&qe7 n l
end
section
variable{n:Nat}{c c':Cx}{p:z0}{w:World}
theorem qzm(hE:∀k,k<n→c.v.E k=c'.v.E k)(hS:c.v.S=c'.v.S){l:List (X×Bool)}(h:qg9 n l=true):hold c.v l=hold c'.v l:=by
 unfold hold
 induction l with
 |nil=>rfl
 |cons y l ih=>
  simp only[qg9,vM,gnB] at h;simp only[vM,X.ev_upto hE hS _ h.1];rw[ih h.2]
mutual
theorem AV.pd_upto(hE:∀k,k<n→c.v.E k=c'.v.E k)(hS:c.v.S=c'.v.S)(hA:c.A=c'.A)(hT:c.At=c'.At∧c.snap=c'.snap∧c.F=c'.F):∀(x:AV)(v:Value),x.upto n=true→x.pd c p w v→x.pd c' p w v
 |.any,v,_,h=>h
 |.undef,v,_,h=>h
 |.nilS,v,_,h=>h
 |.nb x neg,v,hb,h=>by
  simp only[AV.upto] at hb;obtain⟨b,e,h⟩:=h;rw[X.ev_upto hE hS x hb] at h;exact⟨b,e,h⟩
 |.nilP,v,_,h=>h
 |.ref k q o t,v,_,⟨g,hg,e,ha⟩=>⟨g,hg,e,by rw[←hT.1];exact ha⟩
 |.v x t own dep,v,hb,⟨cs,hp,hc⟩=>⟨cs,hp,by
  simp only[AV.upto] at hb;rw[X.ev_upto hE hS x hb,hA] at hc;exact hc⟩
 | .rd x t dep wr, v, hb, ⟨b, o, cs, e, hf, hr, h0, hd, hw⟩ => by
  simp only[AV.upto,gnB] at hb;rw[X.ev_upto hE hS x hb.1] at hd;rw[hA] at hf hd;refine⟨b,o,cs,e,hf,hr,h0,hd,?_⟩
  match wr,hw,hb.2 with
  |none,_,_=>trivial
  |some (pin,i,pt,q,te),hw,hi=>
   refine⟨hw.1,?_⟩;rw[←X.ev_upto hE hS i hi];exact hw.2
 |.tup l,v,hb,⟨vs,e,h⟩=>⟨vs,e,qkq hE hS hA hT l vs (by simpa[AV.upto] using hb) h⟩
 |.gd cs a,v,hb,h=>by
  simp only[AV.upto,gnB] at hb;rw[show AV.pd c' p w (.gd cs a) v=((hold c'.v cs=true→AV.pd c' p w a v)∧(hold c'.v cs=false→v=Go.undef)) from rfl,←qzm hE hS hb.1];exact⟨fun hc=>AV.pd_upto hE hS hA hT a v hb.2 (h.1 hc),h.2⟩
 |.fn f l,v,hb,⟨vs,e,h⟩=>⟨vs,e,qkq hE hS hA hT l vs (by simpa[AV.upto] using hb) h⟩
 |.bx k T a,v,hb,⟨g,u,hg,e,hh,h⟩=>⟨g,u,⟨hg.1,by rw[←hT.1];exact hg.2⟩,e,hh,AV.pd_upto hE hS hA hT a u (by simpa[AV.upto] using hb) h⟩
 |.ax k T m a,v,hb,⟨g,u,hg,e,hh,hn,h⟩=>⟨g,u,⟨hg.1,by rw[←hT.1];exact hg.2⟩,e,hh,hn,AV.pd_upto hE hS hA hT a (.agg u) (by simpa[AV.upto] using hb) h⟩
 |.lv k t,v,_,⟨g,cs,T,hg,e,hh,hs⟩=>⟨g,cs,T,⟨hg.1,by rw[←hT.1];exact hg.2⟩,e,hh,hs⟩
 |.ar E xs dep,v,hb,⟨te,cs,e1,e2,h3,h⟩=>⟨te,cs,e1,e2,h3,by
  simp only[AV.upto] at hb;rw[X.evs_upto hE hS xs hb,hA] at h;exact h⟩
 |.pt pin i E a,v,hb,⟨⟨te,A,m,cap,e1,e2,h3⟩,h⟩=>by
  simp only[AV.upto,gnB] at hb;exact⟨⟨te,A,m,cap,e1,e2,fun hn=>by rw[←X.ev_upto hE hS i hb.1];exact h3 hn⟩,AV.pd_upto hE hS hA hT a v hb.2 h⟩
 |.sn t a,v,hb,⟨e,h⟩=>⟨by rw[←hT.2.1];exact e,AV.pd_upto hE hS hA hT a v (by simpa[AV.upto] using hb) h⟩
 |.wf k j x t own dep a,v,hb,⟨h1,h2⟩=>by
  simp only[AV.upto,gnB] at hb;refine⟨?_,AV.pd_upto hE hS hA hT a v hb.2 h2⟩;unfold z23 at h1⊢;rw[←X.ev_upto hE hS x hb.1,←hA];exact h1
 |.fr T a,v,hb,⟨g,u,ha,hf,e,hh,h⟩=>⟨g,u,by rw[←hA];exact ha,hf,e,hh,AV.pd_upto hE hS hA hT a u (by simpa[AV.upto] using hb) h⟩
 |.ff f T1 x1 t1 T2 x2 t2 dep,v,hb,⟨g,cs1,cs2,e,ha,hb2,hfr,hg,hg2,r1,r2⟩=>by
  simp only[AV.upto,gnB] at hb;rw[X.ev_upto hE hS x1 hb.1,hA] at r1;rw[X.ev_upto hE hS x2 hb.2,hA] at r2;rw[hA] at ha hb2;rw[hT.2.2] at hfr;exact⟨g,cs1,cs2,e,ha,hb2,hfr,hg,hg2,r1,r2⟩
theorem qkq(hE:∀k,k<n→c.v.E k=c'.v.E k)(hS:c.v.S=c'.v.S)(hA:c.A=c'.A)(hT:c.At=c'.At∧c.snap=c'.snap∧c.F=c'.F):∀(l:List AV)(vs:List Value),qe7 n l=true→pds c p w l vs→pds c' p w l vs
 |[],vs,_,h=>h
 |a::l,vs,hb,⟨v,r,e,ha,hl⟩=>by
  simp only[qe7,gnB] at hb;exact⟨v,r,e,AV.pd_upto hE hS hA hT a v hb.1 ha,qkq hE hS hA hT l r hb.2 hl⟩
end
theorem q34.upto(hE:∀k,k<n→c.v.E k=c'.v.E k)(hS:c.v.S=c'.v.S)(hA:c.A=c'.A)(hT:c.At=c'.At∧c.snap=c'.snap∧c.F=c'.F){k:Nat}{e:Ent}(hb:X.upto n e.x=true)(h:q34 c p w k e):q34 c' p w k e:=by
 obtain⟨g,cs,T,hg,hh,hty,hc⟩:=h;rw[X.ev_upto hE hS e.x hb,hA] at hc;exact⟨g,cs,T,hg,hh,hty,hc⟩
end
def reN(ren:List (Nat×Nat))(x:Nat):Nat:=match lkA ren x with
 |some y=>y
 |none=>x
def reO(ren:List (Nat×Nat))(own:List (Nat×Nat)):List (Nat×Nat):=own.map fun e=>(e.1,reN ren e.2)
def reD(ren:List (Nat×Nat))(dep:List Nat):List Nat:=dep.map (reN ren)
mutual
def AV.re(r:List (Nat×Nat)):AV→AV
 |.v x t own dep=>.v x t (reO r own) (reD r dep)
 |.rd x t dep wr=>.rd x t (reD r dep) (match wr with|some (pin,s)=>some (reN r pin,s)|none=>none)
 |.tup l=>.tup (z6o r l)
 |.gd cs a=>.gd cs (AV.re r a)
 |.fn f l=>.fn f (z6o r l)
 |.bx k T a=>.bx k T (AV.re r a)
 |.fr T a=>.fr T (AV.re r a)
 |.ff f T1 x1 t1 T2 x2 t2 dep=>.ff f T1 x1 t1 T2 x2 t2 (reD r dep)
 |.sn t a=>.sn t (AV.re r a)
 |.wf _ _ _ _ _ _ a=>AV.re r a
 |.pt pin i E a=>.pt (reN r pin) i E (AV.re r a)
 |.ar E xs dep=>.ar E xs (reD r dep)
 |.lv k t=>.lv k t
 |.ax k T n a=>.ax k T n (AV.re r a)
 |.any=>.any
 |.undef=>.undef
 |.nilS=>.nilS
 |.nb x neg=>.nb x neg
 |.nilP=>.nilP
 |.ref k q o t=>.ref k q o t
def z6o(r:List (Nat×Nat)):List AV→List AV
 |[]=>[]
 |a::l=>AV.re r a::z6o r l
end
def Ent.re(r:List (Nat×Nat))(e:Ent):Ent:=⟨e.x,e.t,reO r e.own,reD r e.dep⟩
def St.re(r:List (Nat×Nat))(σ:St):St:=⟨σ.t.map fun e=>(e.1,e.2.re r),σ.m.map fun e=>(e.1,e.2.re r)⟩
structure ReOk(r:List (Nat×Nat))(p p':z0):Prop where
 to:∀x b,p x=some b→p' (reN r x)=some b
 of:∀y b,p' y=some b→∃x,p x=some b∧y=reN r x
 key:∀k,reN r (k * 16)=k * 16
section
variable{r:List (Nat×Nat)}{A:Nat→Prop}{F:Flr}{p p':z0}{w:World}(hr:ReOk r p p')
include hr
theorem FFD.re{dep:List Nat}{b:Nat}(h:FFD A p dep b):FFD A p' (reD r dep) b:=by
 rcases h with⟨ha,hf⟩|⟨x,hx,e⟩
 ·refine .inl ⟨ha,fun y hy=>?_⟩;obtain⟨x,hx,-⟩:=hr.of y b hy;exact hf x hx
 ·exact .inr ⟨reN r x,kJ hx,hr.to x b e⟩
omit hr in
theorem qy8{own:List (Nat×Nat)}{j:Nat}:lkA (reO r own) j=(lkA own j).map (reN r):=by
 induction own with
 |nil=>rfl
 | cons e l ih =>
  obtain⟨i,x⟩:=e;by_cases h:i=j
  ·subst h
   show lkA ((i,reN r x)::reO r l) i=_
   rw[q9,q9];rfl
  ·show lkA ((i,reN r x)::reO r l) j=_
   rw[qb h,qb h,ih]
theorem Rd.re{dep:List Nat}{d:D}{t:Ty}{cs:List Value}(h:Rd w (FFD A p dep) d t cs):Rd w (FFD A p' (reD r dep)) d t cs:=Rd.mono (fun b _ hb=>hb.re hr) h
theorem Fl.re{dep:List Nat}{o:Option Nat}{d:D}{t:Ty}{cs:List Value}(h:Fl A p w dep o d t cs):Fl A p' w (reD r dep) (o.map (reN r)) d t cs:=by
 cases o with
 |none=>exact Rd.re hr h
 | some pin =>
  rcases h.symm with⟨K,V,kt,vt,l,g,es,clock,e1,hK,hV,e2,e3,hg,hh,hl⟩|⟨E,te,l,v,e1,hte,e2,e3,hv⟩
  ·exact .inr ⟨K,V,kt,vt,l,g,es,clock,e1,hK,hV,e2,e3,hr.to _ _ hg,hh,hl⟩
  refine .inl ⟨E,te,l,v,e1,hte,e2,e3,?_⟩;rcases hv with hv|⟨g,cap,cur,e4,hg,hh,q1,q2,q3,q4,q5⟩
  ·exact .inl hv
  ·refine .inr ⟨g,cap,cur,e4,hr.to _ _ hg,hh,q1,q2,q3,q4,fun i hi=>?_⟩;obtain⟨vs,hr1,hd⟩:=q5 i hi;exact⟨vs,hr1,Rd.re hr hd⟩
theorem Fls.re{dep:List Nat}{own:List (Nat×Nat)}:∀{ds:List D}{j:Nat}{fs:List Ty}{cs:List Value},Fls A p w dep own j ds fs cs→Fls A p' w (reD r dep) (reO r own) j ds fs cs
 |[],_,_,_,h=>h
 |d::ds,j,fs,cs,⟨t,ts,c1,c2,e1,e2,h1,h2⟩=>⟨t,ts,c1,c2,e1,e2,by rw[qy8];exact Fl.re hr h1,Fls.re h2⟩
theorem Con.re{dep:List Nat}{own:List (Nat×Nat)}{d:D}{t:Ty}{cs:List Value}(h:Con A p w d t own dep cs):Con A p' w d t (reO r own) (reD r dep) cs:=by
 unfold Con at h⊢;split
 ·obtain⟨fs,ds,hf,e,h⟩:=h;exact⟨fs,ds,hf,e,Fls.re hr h⟩
 ·rename_i hne;split at h
  ·rename_i T;exact absurd rfl (hne T)
  ·rw[qy8];exact Fl.re hr h
end
section
variable{r:List (Nat×Nat)}{c:Cx}{p p':z0}{w:World}
mutual
theorem AV.re_ok(hr:ReOk r p p'):∀(x:AV)(v:Value),x.pd c p w v→(x.re r).pd c p' w v
 |.any,v,h=>h
 |.undef,v,h=>h
 |.nilS,v,h=>h
 |.nb x neg,v,h=>h
 |.nilP,v,h=>h
 |.ref k q o t,v,⟨g,hg,e,ha⟩=>⟨g,by have:=hr.to _ _ hg;rwa [hr.key] at this,e,ha⟩
 |.v x t own dep,v,⟨cs,hp,hc⟩=>⟨cs,hp,hc.re hr⟩
 |.rd x t dep wr,v,⟨b,o,cs,e,hf,hrg,h0,hd,hw⟩=>by
  refine⟨b,o,cs,e,hf.re hr,hrg,h0,Rd.re hr hd,?_⟩
  match wr,hw with
  |none,_=>trivial
  |some (pin,i,pt,q,te),hw=>exact⟨hr.to _ _ hw.1,hw.2⟩
 |.tup l,v,⟨vs,e,h⟩=>⟨vs,e,qr1 hr l vs h⟩
 |.gd cs a,v,h=>⟨fun hc=>AV.re_ok hr a v (h.1 hc),h.2⟩
 |.fn f l,v,⟨vs,e,h⟩=>⟨vs,e,qr1 hr l vs h⟩
 |.bx k T a,v,⟨g,u,hg,e,hh,h⟩=>⟨g,u,⟨by have:=hr.to _ _ hg.1;rwa [hr.key] at this,hg.2⟩,e,hh,AV.re_ok hr a u h⟩
 |.ax k T n a,v,⟨g,u,hg,e,hh,hn,h⟩=>⟨g,u,⟨by have:=hr.to _ _ hg.1;rwa [hr.key] at this,hg.2⟩,e,hh,hn,AV.re_ok hr a (.agg u) h⟩
 |.sn t a,v,⟨e,h⟩=>⟨e,AV.re_ok hr a v h⟩
 |.wf _ _ _ _ _ _ a,v,h=>AV.re_ok hr a v h.2
 |.lv k t,v,⟨g,cs,T,hg,e,hh,hs⟩=>⟨g,cs,T,⟨by have:=hr.to _ _ hg.1;rwa [hr.key] at this,hg.2⟩,e,hh,hs⟩
 |.ar E xs dep,v,⟨te,cs,e1,e2,h3,h⟩=>⟨te,cs,e1,e2,h3,fun j d hj=>Rd.re hr (h j d hj)⟩
 | .pt pin i E a, v, ⟨⟨te, A, n, cap, e1, e2, h3⟩, h⟩ => ⟨⟨te, A, n, cap, e1, e2, fun hn => by
   obtain⟨g,hg,e⟩:=h3 hn;exact⟨g,hr.to _ _ hg,e⟩⟩,AV.re_ok hr a v h⟩
 |.fr T a,v,⟨g,u,ha,hf,e,hh,h⟩=>⟨g,u,ha,fun y hy=>by obtain⟨x,hx,-⟩:=hr.of y g hy;exact hf x hx,e,hh,AV.re_ok hr a u h⟩
 |.ff f T1 x1 t1 T2 x2 t2 dep,v,⟨g,cs1,cs2,e,ha,hb,hfr,hg,hg2,r1,r2⟩=>⟨g,cs1,cs2,e,⟨ha.1,fun y hy=>by obtain⟨x,hx,-⟩:=hr.of y g hy;exact ha.2 x hx⟩,⟨hb.1,fun y hy=>by obtain⟨x,hx,-⟩:=hr.of y _ hy;exact hb.2 x hx⟩,hfr,hg,hg2,Rd.mono (fun b _ h=>⟨h.1.re hr,h.2⟩) r1,Rd.mono (fun b _ h=>⟨h.1.re hr,h.2⟩) r2⟩
theorem qr1(hr:ReOk r p p'):∀(l:List AV)(vs:List Value),pds c p w l vs→pds c p' w (z6o r l) vs
 |[],vs,h=>h
 |a::l,vs,⟨v,rr,e,ha,hl⟩=>⟨v,rr,e,AV.re_ok hr a v ha,qr1 hr l rr hl⟩
end
theorem SF.re(hr:ReOk r p p'){σ:St}{a:Act}(h:SF c σ p w a):SF c (σ.re r) p' w a:=by
 refine⟨fun t x hx=>?_,fun k e he=>?_⟩
 ·obtain⟨y,hy,rfl⟩:=q53 hx;obtain⟨v,h1,h2⟩:=h.t t y hy;exact⟨v,h1,AV.re_ok hr y v h2⟩
 ·obtain⟨e',he',rfl⟩:=q53 he;obtain⟨g,cs,T,hg,hh,hty,hc⟩:=h.m k e' he';exact⟨g,cs,T,by have:=hr.to _ _ hg;rwa [hr.key] at this,hh,hty,hc.re hr⟩
theorem Bs.re(hr:ReOk r p p'){A:Nat→Prop}{F:Flr}{w0:World}{S0:Nat→Prop}(h:Bs A F w0 S0 p w):Bs A F w0 S0 p' w:=
  ⟨fun x y b hx hy=>by
    obtain⟨x',e1,rfl⟩:=hr.of x b hx;obtain⟨y',e2,rfl⟩:=hr.of y b hy;rw[h.inj x' y' b e1 e2],
   fun x b hx=>let ⟨x',e1,_⟩:=hr.of x b hx;h.bd x' b e1,h.but,fun x b hx=>let ⟨x',e1,_⟩:=hr.of x b hx;h.pin x' b e1,h.new,fun x b hx=>let ⟨x',e1,_⟩:=hr.of x b hx;h.pa x' b e1,fun x b hx=>let ⟨x',e1,_⟩:=hr.of x b hx;h.obj x' b e1,h.flo⟩
end
def reQ(r:List (Nat×Nat)):Nat→Bool:=fun y=>zx (r.map (·.2)) y&& !zx (r.map (·.1)) y
def reP(r:List (Nat×Nat))(p:z0):z0:=fun y=>match lkA (r.map fun e=>(e.2,e.1)) y with
 |some x=>p x
 |none=>if zx (r.map (·.1)) y then none else p y
def reB(r:List (Nat×Nat)):Bool:=q0b (r.map (·.1))&&(q0b (r.map (·.2))&&r.all fun e=> !Nat.beq (e.1 % 16) 0&& !Nat.beq (e.2 % 16) 0)
theorem z3z{r:List (Nat×Nat)}(h:reB r=true){p:z0}:ReOk r (unP (reQ r) p) (reP r (unP (reQ r) p)):=by
 simp only[reB,gnB] at h;obtain⟨h1,h2,h3⟩:=h;have hmem:∀{x y:Nat},lkA r x=some y→(x,y)∈r:=fun h=>jv h;refine⟨fun x b hx=>?_,fun y b hy=>?_,fun k=>?_⟩
 ·obtain⟨hq,hx'⟩:=q0n hx;unfold reN;cases hl:lkA r x with
  |some y=>
   show reP r _ y=_
   unfold reP;rw[q95 (l:=r.map fun e=>(e.2,e.1)) (by rw[kR];exact h2) (q:=y) (x:=x) (uN.2 ⟨_,hmem hl,rfl⟩)];exact hx
  | none =>
   show reP r _ x=_
   have hn1:zx (r.map (·.1)) x=false:=by
    cases hh:zx (r.map (·.1)) x with
    |false=>rfl
    |true=>
     obtain⟨e,he,rfl⟩:=uN.1 (y3.1 hh);rw[q95 h1 (q:=e.1) (x:=e.2) he] at hl;cases hl
   have hn2:zx (r.map (·.2)) x=false:=by
    unfold reQ at hq;rw[hn1] at hq;simpa using hq
   unfold reP;cases hl2:lkA (r.map fun e=>(e.2,e.1)) x with
   |some z=>
    obtain⟨e,he,e1⟩:=uN.1 (jv hl2);injection e1 with e1 e2;have:zx (r.map (·.2)) x=true:=y3.2 (uN.2 ⟨e,he,e1⟩);rw[this] at hn2;cases hn2
   |none=>
    simp only[hn1];exact hx
 ·unfold reP at hy;split at hy
  ·rename_i x hl;obtain⟨e,he,e1⟩:=uN.1 (jv hl);injection e1 with e1 e2;subst e1 e2;exact⟨e.1,hy,by unfold reN;rw[q95 h1 (q:=e.1) (x:=e.2) he]⟩
  ·rename_i hl;split at hy
   ·cases hy
   ·rename_i hn;refine⟨y,hy,?_⟩;unfold reN;cases hl2:lkA r y with
    |none=>rfl
    |some z=>exact absurd (y3.2 (uN.2 ⟨_,hmem hl2,rfl⟩)) hn
 ·unfold reN;cases hl:lkA r (k * 16) with
  |none=>rfl
  |some y=>
   have:=uB.1 h3 _ (hmem hl);simp at this
def St.ren(r:List (Nat×Nat))(σ:St):St:=match r with
 |[]=>σ
 |_=>(σ.un (reQ r)).re r
theorem qvp{r:List (Nat×Nat)}(h:reB r=true){c:Cx}{w0 w:World}{S0:Nat→Prop}{p:z0}{σ:St}{a:Act}(hb:Bs c.A c.F w0 S0 p w)(hf:SF c σ p w a):∃p',Bs c.A c.F w0 S0 p' w∧SF c (σ.ren r) p' w a:=by
 cases r with
 |nil=>exact⟨p,hb,hf⟩
 |cons e r=>
  have hb1:=hb.un (reQ (e::r));have hf1:=SF.un (q:=reQ (e::r)) hb.inj hb.pa hf;exact⟨_,Bs.re (z3z h) hb1,SF.re (z3z h) hf1⟩
end
section
section
variable{c:Cx}{p:z0}{w w0:World}{S0:Nat→Prop}{a:Act}{σ σ':St}{cs:List (X×Bool)}{o:Oper}{d:List Deferred}{z:Nat}{tbl:Tbl}
theorem qcb{r:List X×Eff}(h0:step uA tbl σ cs o=some r):∀x y,o.op≠.select x y:=fun x y hc=>by
 obtain⟨r0,h,-⟩:=uO.1 h0;unfold qo5 at h;rw[hc] at h;split at h
 ·cases h
 ·simp[quiet,hc,vals] at h
theorem z18(htb:q16 tbl)(hS:HS c tbl){ops:Array Oper}{ds:List (Option Tmp)}(hds:ops.toList.map (·.dst)=ds)(hb:Bs c.A c.F w0 S0 p w)(hf:SF c σ p w a)(hd:a.defers=d)(hz:a.tmps.size=z)(hk:qaf c.lo z o=true)
  {ns:List X}(h:stepG uA tbl ds σ o=some (ns,σ'))(hn:∀n∈ns,n.says c.v){Q:Exit→Act→World→Prop}(hQ:qeq tbl w0 S0 d Q){K:Act→World→Prop}(hK:∀a' w',j9 c w0 S0 d z σ' a' w'→K a' w'):
  if Region.wanted o (yielded ops a.tmps) then((∀c',o.op≠.defer c')∧∀cs b,o.op≠.select cs b)∧o.wp uA a w K Q else K (a.put o.dst Go.undef) w:=by
 have hkz:∀t,o.dst=some t→t<z:=fun t e=>by
  unfold qaf at hk;rw[e] at hk;simp only[gnB,kH] at hk;exact hk.1
 have hplain:(step uA tbl σ [] o).bind (qq5 σ o.dst)=some (ns,σ')→((∀c',o.op≠.defer c')∧∀cs b,o.op≠.select cs b)∧o.wp uA a w K Q:=fun h=>by
  obtain⟨⟨ms,e⟩,h1,h2⟩:=uJ.1 h;have h2:(match e.on σ o.dst with|some σ'=>some (ms,σ')|none=>none)=some (ns,σ'):=h2;split at h2
  ·rename_i σ1 he;injection h2 with h2;obtain⟨rfl,rfl⟩:=kN h2;refine⟨⟨q68 h1,qcb h1⟩,Oper.wp_mono ?_ (qjb htb hS hb hf rfl hd hz hk h1 hn hQ)⟩;intro a' w' hp;refine hK a' w' ?_;cases e with
   |st σ2=>
    injection he with he;subst he;exact hp
   | val x =>
    obtain⟨rfl,v,rfl,hv⟩:=hp;cases hdst:o.dst with
    |none=>rw[hdst] at he;cases he
    |some k=>
     rw[hdst] at he;injection he with he;subst he;exact q7a hb hf hd hz (hkz k hdst) hv
  ·cases h2
 unfold stepG at h;cases hg:o.guard with
 |none=>
  rw[hg] at h;rw[if_pos (by unfold Region.wanted;simp only[hg])];exact hplain h
 | some gb =>
  obtain⟨g,b⟩:=gb;rw[hg] at h;simp only at h
  -- the guard
  have hgd:∀G,guardOf ds σ g b=some G→z1q c [] (Region.wanted o (yielded ops a.tmps)=true) G:=fun G hG=>by
   unfold guardOf at hG;split at hG
   ·rename_i t ht;have key:∀{x:AV}{l:List (X×Bool)}{v:Value},a.tmps[t]? =some v→qos b l x=some G→(hold c.v l=true→x.pd c p w v)→(hold c.v l=false→v=Go.undef)→z1q c [] (Region.wanted o (yielded ops a.tmps)=true) G:=fun{x l v}hv hG h1 h2=>by
     have hy:=qk4 (ops:=ops) hds ht hv (b:=b);have hw:=qlh (ops:=ops) (tmps:=a.tmps) hg;have:=qsa hG h1 h2;cases G with
     |yes=>exact hw.2 (hy.2 this)
     |no=>exact fun e=>this (hy.1 (hw.1 e))
     |ask l=>exact⟨(fun e=>⟨rfl,hw.2 (hy.2 (this.1 e).2)⟩),(fun e e'=>this.2 e (hy.1 (hw.1 e')))⟩
    split at hG
    ·rename_i l x hx;obtain⟨v,hv1,hv2⟩:=hf.t t _ hx;exact key hv1 hG hv2.1 hv2.2
    ·rename_i x _ hx;obtain⟨v,hv1,hv2⟩:=hf.t t _ hx;exact key (l:=[]) hv1 hG (fun _=>hv2) (fun e=>by cases e)
    ·cases hG
   ·cases hG
  split at h
  ·rename_i hG;have h1:Region.wanted o (yielded ops a.tmps)=true:=hgd _ hG;rw[if_pos h1];exact hplain h
  ·rename_i hG;have h1:¬Region.wanted o (yielded ops a.tmps)=true:=hgd _ hG;rw[if_neg h1];simp only[gnS] at h;obtain⟨rfl,rfl⟩:=h;exact hK _ _ (qoa hb hf hd hz hkz)
  ·rename_i cs hG;have h1:=hgd _ hG;obtain⟨⟨ms,e⟩,h2,h3⟩:=uJ.1 h;cases hc:hold c.v cs with
   | true =>
    rw[if_pos (h1.1 hc).2];have hns:ns=ms.map (qrs cs):=by
     cases e with
     | val x =>
      cases hdst:o.dst with
      |none=>rw[hdst] at h3;cases h3
      |some k=>
       rw[hdst] at h3;injection h3 with h3;exact(kN h3).1.symm
     |st σ1=>
      injection h3 with h3;exact(kN h3).1.symm
    refine⟨⟨q68 h2,qcb h2⟩,Oper.wp_mono ?_ (qjb htb hS hb hf hc hd hz hk h2 (fun n hm=>qwd (hn (qrs cs n) (by rw[hns];exact kJ hm)) hc) hQ)⟩;intro a' w' hp;refine hK a' w' ?_;cases e with
    | val x =>
     obtain⟨rfl,v,rfl,hv⟩:=hp;unfold under at h3;simp only at h3;cases hdst:o.dst with
     |none=>rw[hdst] at h3;cases h3
     |some k=>
      rw[hdst] at h3;simp only[gnS] at h3;obtain⟨-,rfl⟩:=h3;exact q7a hb hf hd hz (hkz k hdst) ⟨(fun _=>hv),(fun e=>by rw[hc] at e;cases e)⟩
    |st σ1=>
     unfold under at h3;simp only[gnS] at h3;obtain⟨-,rfl⟩:=h3;obtain⟨p',hb',hf',hd',hz'⟩:=hp;exact⟨p',hb',qog hc hf' (fun t e=>⟨_,vK (by have:=hkz t e;rw[hz'];exact this)⟩),hd',hz'⟩
   | false =>
    rw[if_neg (h1.2 hc)];refine hK _ _ ?_;cases e with
    | val x =>
     unfold under at h3;simp only at h3;cases hdst:o.dst with
     |none=>rw[hdst] at h3;cases h3
     |some k=>
      rw[hdst] at h3;simp only[gnS] at h3;obtain⟨-,rfl⟩:=h3;exact q7a hb hf hd hz (hkz k hdst) ⟨(fun e=>by rw[hc] at e;cases e),(fun _=>rfl)⟩
    |st σ1=>
     unfold under at h3;simp only[gnS] at h3;obtain⟨-,rfl⟩:=h3;exact⟨p,hb,qrp hc hf (fun t e=>by rw[hz];exact hkz t e),(by cases o.dst<;>exact hd),(by cases o.dst<;>simp only[Act.put,uH]<;>exact hz)⟩
  ·cases h
def jw(o:Oper):Bool:=match o.guard with
 |some _=>false
 |none=>o.dst.isSome&&match o.op with
  |.move _=>true
  |.load _ _=>true
  |.fieldAddr _ _ _=>true
  |.field _ _ _=>true
  |.nilCheck _=>true
  |.binOp _ _ _ _ _=>true
  |.unOp _ _ _=>true
  |.extract _ _=>true
  |.index _ _ _=>true
  |.indexAddr _ _ _=>true
  |.convert _ _ _=>true
  |_=>false
def tmpsOf(o:Oper):List Nat:=o.op.operands.toList.filterMap fun|.tmp t=>some t|_=>none
def qag(ds:List (Option Tmp))(o:Oper):List Nat:=match o.guard with
 |some (g,_)=>(match(ds[g]?).join with
  |some t=>t::tmpsOf o
  |none=>tmpsOf o)
 |none=>tmpsOf o
def qvg:AV→Bool
 |.any=>true
 |_=>false
def bit(S i:Nat):Bool:=uE (uY 1 (uX S i)) 1
def inM(m S:Nat):Bool:=uE (uY m S) m
def only (l:List Nat)(σ:St):St:=⟨σ.t.filter fun e=>zx l e.1,σ.m⟩
def qxr(P:Program)(σ:St)(o:Oper):Option (List X×AV):=quiet P (only (tmpsOf o) σ) [] o
def qqn(P:Program):List Oper→List Nat→Nat→Nat→St→List X→Option (Nat×St×List X)
 |[],_,_,C,σ,N=>some (C,σ,N)
 |o::l,[],i,C,σ,N=>none
 | o :: l, m :: ms, i, C, σ, N => if jw o && (!bit C i && inM m C) then (match qxr P σ o, o.dst with
   |some (ns,x),some k=>qqn P l ms (i+1) (plus C i) ⟨jy σ.t k x,σ.m⟩ (ns++N)
   |_,_=>none) else qqn P l ms (i+1) C σ N
abbrev Nd:=Nat×St
def q3t:List Oper→List Nat→Nat→Nat→List Nat
 |o::l,m::ms,i,C=>if !jw o&&(!bit C i&&inM m C) then i::q3t l ms (i+1) C else q3t l ms (i+1) C
 |_,_,_,_=>[]
def z09(l:List Nat)(σ:St):St:=⟨σ.t.filter fun e=> !zx l e.1,σ.m⟩
def zal(ops:List Oper)(o:Oper):List Nat:=match o.dst with
 |some t=>ops.filterMap fun e=>if jw e&&zx (tmpsOf e) t then e.dst else none
 |none=>[]
def z71(C:Nat)(l:List Nd):Bool:=l.any fun e=>uE e.1 C
def z9u(P:Program)(tbl:Tbl)(ds:List (Option Tmp))(ops:List Oper)(ms:List Nat)(lv:List Nd×List X):Option (List Nd×List X):=
 lv.1.foldl (fun acc e=>(q3t ops ms 0 e.1).foldl (fun acc i=>match acc with
  |none=>none
  | some (l, N) => if z71 (plus e.1 i) l then some (l, N) else (match ops[i]? with
   | some o => (match stepG P tbl ds e.2 o with
    |some (ns,σ')=>(match qqn P ops ms 0 (plus e.1 i) (z09 (zal ops o) σ') [] with
     |some (C,σ2,N2)=>if z71 C l then some (l,N) else some ((C,σ2)::l,ns++(N2++N))
     |none=>none)
    |none=>none)
   |none=>none)) acc) (some ([],lv.2))
def z78(P:Program)(tbl:Tbl)(ds:List (Option Tmp))(ops:List Oper)(ms:List Nat):Nat→List Nd×List X→List (List Nd)→Option (List (List Nd)×List X)
 |0,lv,acc=>some ((lv.1::acc).reverse,lv.2)
 |n+1,lv,acc=>match z9u P tbl ds ops ms lv with
  |some ([],_)=>some ((lv.1::acc).reverse,lv.2)
  |some lv'=>z78 P tbl ds ops ms n lv' (lv.1::acc)
  |none=>none
def qso(ds:List (Option Tmp))(ops:List Oper)(ms:List Nat):Nat→List Oper→List Nat→Bool
  |i,o::l,m::mr=>kM m (uL 1 i)&&((!jw o||(match o.dst with
      |some t=>ops.zipIdx.all fun e=>(!zx (qag ds e.1) t||(match ms[e.2]? with
          |some m'=>bit m' i
          | none => false)) && (uE e.2 i || (match e.1.dst with
            |some t'=> !Nat.beq t' t
            |none=>true))
      |none=>false))&&qso ds ops ms (i+1) l mr)
  |_,[],[]=>true
  |_,_,_=>false
def z75(ops:List Oper)(ms:List Nat)(C i:Nat):Bool:=ops.zipIdx.any fun f=> !jw f.1&&(bit C f.2&&(match ms[f.2]? with
 |some m=>bit m i
 |none=>false))
def ndB(P:Program)(N:List X)(ops:List Oper)(ms:List Nat)(C:Nat)(τ:St):Bool:=(ops.zipIdx.filter fun e=>jw e.1).all fun e=>(if bit C e.2 then((match qxr P τ e.1,e.1.dst with
  |some (ns,x),some t=>ns.all (z4f N)&&(match lkA τ.t t with
   |some x'=>AV.beq x' x||qvg x'
   |none=>true)
  |_,_=>false)||z75 ops ms C e.2) else(match ms[e.2]? with
   |some m=> !inM m C
   |none=>false))
def qb8(ops:List Oper)(C i C':Nat):Option (List Nat):=if uE C' (plus C i) then some [] else ops.zipIdx.foldr (fun e acc=>match acc with
 |none=>none
 | some l => if bit C' e.2 && (!bit C e.2 && !Nat.beq e.2 i) then (if jw e.1 then (match e.1.dst with
   |some t=>some (t::l)
   |none=>none) else none) else some l) (some [])
def without(l:List Nat)(σ:St):St:=⟨σ.t.filter fun e=> !zx l e.1,σ.m⟩
def z7a(P:Program)(tbl:Tbl)(ds:List (Option Tmp))(ops:List Oper)(N:List X)(C:Nat)(τ:St)(lv':List Nd)(i:Nat):Bool:=match ops[i]? with
 | some o => (match stepG P tbl ds τ o with
  |some (ns,σ')=>ns.all (z4f N)&&lv'.any fun e'=>inM (plus C i) e'.1&&(match qb8 ops C i e'.1 with
   |some l=>covers σ' (without l e'.2)
   |none=>false)
  |none=>false)
 |none=>false
def okN(P:Program)(tbl:Tbl)(ds:List (Option Tmp))(ops:List Oper)(ms:List Nat)(N:List X)(l:St):List (List Nd)→Bool
 |[]=>false
 |[lv]=>lv.all fun e=>ndB P N ops ms e.1 e.2&&(uE e.1 (uL 1 ops.length - 1)&&covers e.2 l)
 |lv::lv'::r=>(lv.all fun e=>ndB P N ops ms e.1 e.2&&(!(q3t ops ms 0 e.1).isEmpty&&(q3t ops ms 0 e.1).all (z7a P tbl ds ops N e.1 e.2 lv')))&&okN P tbl ds ops ms N l (lv'::r)
def z7n:List (List Nd)→Option St
 |[]=>none
 |[lv]=>(match lv with
  |[e]=>some e.2
  |_=>none)
 |_::l=>z7n l
def quk(l:List Oper)(σ:St):List (List Nd)→Bool
 |[]=>false
 | lv :: _ => match lv with
  |[e]=>(match qb8 l 0 l.length e.1 with
   |some out=>covers σ (without out e.2)
   |none=>false)
  |_=>false
def z8n(P:Program)(tbl:Tbl)(σ:St)(l:List Oper):Option (List X×St):=
 if qso (dsts l) l (l.map zn) 0 l (l.map zn) then match qqn P l (l.map zn) 0 0 σ [] with
  | some (C, σ1, N1) => (match z78 P tbl (dsts l) l (l.map zn) l.length ([(C, σ1)], N1) [] with
   |some (L,N)=>(match z7n L with
    |some σf=>if okN P tbl (dsts l) l (l.map zn) N σf L&&quk l σ L then some (N,σf) else none
    |none=>none)
   |none=>none)
  |none=>none
 else none
theorem q9c(S i:Nat):bit S i=S.testBit i:=by
 have h:uY 1 (uX S i)=(S >>> i) % 2:=by
  rw[show uY 1 (uX S i)=1 &&& (S >>> i) from rfl,Nat.and_comm,Nat.and_one_is_mod]
 unfold bit;rw[h,Nat.testBit_eq_decide_div_mod_eq,Nat.shiftRight_eq_div_pow];by_cases hh:S / 2^i % 2=1
 ·rw[hh];rfl
 ·rw[decide_eq_false hh];cases hb:uE (S / 2^i % 2) 1 with
  |true=>exact absurd (gnN hb) hh
  |false=>rfl
theorem q41{m S:Nat}:inM m S=true↔∀j,m.testBit j=true→S.testBit j=true:=by
 unfold inM;rw[show uY m S=m &&& S from rfl];constructor
 ·intro h j hj;have:=congrArg (fun x=>jF x j) (gnN h);simp only[kT,hj,kX] at this;exact this
 ·intro h;have:m &&& S=m:=vS fun j=>by
   rw[kT];cases hj:m.testBit j with
   |false=>rfl
   |true=>rw[h j hj];rfl
  rw[this];exact vC m
theorem q0z{S i j:Nat}:(plus S i).testBit j=(S.testBit j||decide (i=j)):=by
  unfold plus;rw[show vO S (uL 1 i)=S ||| (1 <<< i) from rfl,vL,kC,kW]
theorem qum{m i:Nat}(h:kM m (uL 1 i)=true){j:Nat}(hj:m.testBit j=true):j<i:=by
 have h1:m<2^i:=by
  have:=kE h;have:m<uL 1 i:=this;rw[show uL 1 i=1 <<< i from rfl,kC] at this;exact this
 rcases kD j i with hl|hg
 ·exact hl
 ·have:=Nat.testBit_lt_two_pow (Nat.lt_of_lt_of_le h1 (Nat.pow_le_pow_right (by decide) hg));rw[this] at hj;cases hj
theorem qgo{l:List Oper}{S j:Nat}:j∈q0k (l.map zn) 0 S↔S.testBit j=false∧∃o,l[j]? =some o∧inM (zn o) S=true:=by
 rw[q51];simp only[vR,true_and,vN];refine and_congr_right fun _=>exists_congr fun o=>and_congr_right fun _=>?_;rw[q41];constructor
 ·intro h k hk;unfold zn at hk;obtain⟨e,he,hb,rfl⟩:=(q6e k).1 hk;exact h e (by simpa using he) hb
 ·intro h e he hb;exact h _ ((q6e _).2 ⟨e,by simpa using he,hb,rfl⟩)
theorem qqt:∀{l:List Oper}{i j C:Nat},j∈q3t l (l.map zn) i C↔i≤j∧∃o,l[j - i]? =some o∧jw o=false∧C.testBit j=false∧inM (zn o) C=true
 |[],i,j,C=>by simp[q3t]
 | o :: l, i, j, C => by
  have ih:=qqt (l:=l) (i:=i+1) (j:=j) (C:=C);have tail:(i+1≤j∧∃o,l[j - (i+1)]? =some o∧jw o=false∧C.testBit j=false∧inM (zn o) C=true)→i≤j∧∃o',(o::l)[j - i]? =some o'∧jw o'=false∧C.testBit j=false∧inM (zn o') C=true:=by
   rintro⟨h1,o',h2,h3⟩;refine⟨by omega,o',?_,h3⟩;rw[show j - i=(j - (i+1))+1 by omega,kP];exact h2
  have back:(i≤j∧∃o',(o::l)[j - i]? =some o'∧jw o'=false∧C.testBit j=false∧inM (zn o') C=true)→(j=i∧jw o=false∧C.testBit j=false∧inM (zn o) C=true)∨(i+1≤j∧∃o,l[j - (i+1)]? =some o∧jw o=false∧C.testBit j=false∧inM (zn o) C=true):=by
   rintro⟨h1,o',h2,h3⟩;rcases Nat.eq_or_lt_of_le h1 with he|hl
   ·subst he;simp at h2;subst h2;exact .inl ⟨rfl,h3⟩
   ·rw[show j - i=(j - (i+1))+1 by omega,kP] at h2;exact .inr ⟨by omega,o',h2,h3⟩
  simp only[uQ,q3t];split
  ·rename_i hc;simp only[gnB,uG,q9c] at hc;rw[uM,ih];constructor
   ·rintro(rfl|h)
    ·exact⟨kO _,o,by simp,hc⟩
    ·exact tail h
   ·intro h;rcases back h with h|h
    ·exact .inl h.1
    ·exact .inr h
  ·rename_i hc;rw[ih];constructor
   ·exact tail
   ·intro h;rcases back h with h|h
    ·exfalso;apply hc;obtain⟨rfl,h1,h2,h3⟩:=h;simp only[gnB,uG,q9c];exact⟨h1,h2,h3⟩
    ·exact h
theorem qmm{α:Type}{q:Nat→Bool}{l:List (Nat×α)}{k:Nat}{e:α}(h:lkA (l.filter fun y=>q y.1) k=some e):lkA l k=some e∧q k=true:=by
 have hq:q k=true:=(uZ.1 (jv h)).2;refine⟨?_,hq⟩
 induction l with
 |nil=>cases h
 | cons a l ih =>
  obtain⟨j,x⟩:=a;by_cases hjk:j=k
  ·subst hjk;rw[kF,if_pos hq,q9] at h;rw[q9];exact h
  ·rw[qb hjk];rw[kF] at h;split at h
   ·rw[qb hjk] at h;exact ih h
   ·exact ih h
theorem qk6{α:Type}{q:Nat→Bool}{l:List (Nat×α)}{k:Nat}{e:α}(h:lkA l k=some e)(hq:q k=true):lkA (l.filter fun y=>q y.1) k=some e:=by
 induction l with
 |nil=>cases h
 | cons a l ih =>
  obtain⟨j,x⟩:=a;by_cases hjk:j=k
  ·subst hjk;rw[kF,if_pos hq,q9];rw[q9] at h;exact h
  ·rw[qb hjk] at h;rw[kF];split
   ·rw[qb hjk];exact ih h
   ·exact ih h
structure FormR(ops:List Oper):Prop where
 back:∀(i:Nat)(o:Oper),ops[i]? =some o→∀j,(zn o).testBit j=true→j<i
 dst:∀(i:Nat)(o:Oper),ops[i]? =some o→jw o=true→∃t,o.dst=some t
 read:∀(i:Nat)(o:Oper)(t:Tmp),ops[i]? =some o→jw o=true→o.dst=some t→∀(i':Nat)(o':Oper),ops[i']? =some o'→t∈qag (dsts ops) o'→(zn o').testBit i=true
 once:∀(i:Nat)(o:Oper)(t:Tmp),ops[i]? =some o→jw o=true→o.dst=some t→∀(i':Nat)(o':Oper),ops[i']? =some o'→i'≠i→o'.dst≠some t
theorem qjh{ops:List Oper}{i:Nat}{o:Oper}(h:ops[i]? =some o):(o,i)∈ops.zipIdx:=by
 obtain⟨hl,rfl⟩:=gnH.1 h;exact kI.2 ⟨i,by simpa using hl,by simp⟩
theorem z68{ops:List Oper}(h:qso (dsts ops) ops (ops.map zn) 0 ops (ops.map zn)=true):FormR ops:=by
  have key:∀(l:List Oper)(i:Nat),qso (dsts ops) ops (ops.map zn) i l (l.map zn)=true→∀j o,l[j]? =some o→
      kM (zn o) (uL 1 (i+j))=true∧(jw o=true→∃t,o.dst=some t∧ops.zipIdx.all (fun e=>(!zx (qag (dsts ops) e.1) t||(match(ops.map zn)[e.2]? with
          |some m'=>bit m' (i+j)
          | none => false)) && (uE e.2 (i + j) || (match e.1.dst with
            |some t'=> !Nat.beq t' t
            |none=>true)))=true):=by
    intro l
    induction l with
    |nil=>intro i _ j o h;simp at h
    | cons x l ih =>
      intro i h j o hj;simp only[uQ,qso,gnB] at h;obtain⟨h1,h2,h3⟩:=h;cases j with
      | zero =>
        simp at hj;subst hj;refine⟨h1,fun hs=>?_⟩;rw[hs] at h2;simp only[Bool.not_true,kY] at h2;split at h2
        · rename_i t ht;exact⟨t,ht,h2⟩
        · cases h2
      | succ j =>
        have:=ih (i+1) h3 j o (by simpa using hj);rw[show i+1+j=i+(j+1) by omega] at this;exact this
  have k0:=fun(i:Nat)(o:Oper)(ho:ops[i]? =some o)=>key ops 0 h i o ho;refine⟨fun i o ho j hj=>?_,fun i o ho hs=>?_,fun i o t ho hs ht i' o' ho' hl=>?_,fun i o t ho hs ht i' o' ho' hne=>?_⟩
  · have:=qum (k0 i o ho).1 hj;omega
  · obtain⟨t,h1,-⟩:=(k0 i o ho).2 hs;exact⟨t,h1⟩
  · obtain⟨t',h1,h2⟩:=(k0 i o ho).2 hs;obtain rfl:=gnI (ht.symm.trans h1);have:=uB.1 h2 _ (qjh ho');simp only[gnB,kA,uG,jD,uT,ho',kQ] at this;rcases this.1 with h3|h3
    · rw[y3.2 hl] at h3;cases h3
    · rw[q9c] at h3;exact h3
  · obtain⟨t',h1,h2⟩:=(k0 i o ho).2 hs;obtain rfl:=gnI (ht.symm.trans h1);have:=uB.1 h2 _ (qjh ho');simp only[gnB,kA,jD] at this;rcases this.2 with h3|h3
    · exact absurd (gnN h3) hne
    · intro hd;rw[hd] at h3;simp only[uG] at h3;rw[vC] at h3;cases h3
def qfu(ops:List Oper)(C S:Nat)(t:Tmp):Prop:=∃j o,ops[j]? =some o∧o.dst=some t∧jw o=true∧C.testBit j=true∧S.testBit j=false
structure SFx(c:Cx)(Y:Tmp→Prop)(σ:St)(p:z0)(w:World)(a:Act):Prop where
 t:∀t x,¬Y t→lkA σ.t t=some x→∃v,a.tmps[t]? =some v∧x.pd c p w v
 m:∀k e,lkA σ.m k=some e→q34 c p w k e
theorem z0p{o:Oper}{t:Tmp}:t∈tmpsOf o↔Operand.tmp t∈o.op.operands:=by
 unfold tmpsOf;rw[List.mem_filterMap];constructor
 ·rintro⟨x,hx,h⟩;cases x<;>simp at h;subst h;simpa using hx
 ·intro h;exact⟨.tmp t,by simpa using h,rfl⟩
theorem qcg{ds:List (Option Tmp)}{o:Oper}{t:Tmp}(h:t∈tmpsOf o):t∈qag ds o:=by
 unfold qag;split
 ·split
  ·exact uD _ h
  ·exact h
 ·exact h
theorem SFx.only{Y:Tmp→Prop}{o:Oper}(h:SFx c Y σ p w a)(hY:∀t∈tmpsOf o,¬Y t):SF c (only (tmpsOf o) σ) p w a:=
 ⟨fun t x hx=>h.t t x (hY t (y3.1 (qmm hx).2)) (qmm hx).1,h.m⟩
theorem qvw{o:Oper}(h:jw o=true):o.guard=none:=by
 unfold jw at h;cases hg:o.guard with
 |none=>rfl
 |some g=>rw[hg] at h;cases h
theorem qhd{Y:Tmp→Prop}{ns:List X}{x:AV}(h:SFx c Y σ p w a)(hY:∀t∈tmpsOf o,¬Y t)(hs:qxr uA σ o=some (ns,x))(hn:∀n∈ns,n.says c.v):q4a o a c p w x:=qlf (h.only hY) rfl hs hn
theorem SFx.give{ops:List Oper}{C S j:Nat}{t:Tmp}(hF:FormR ops)(ho:ops[j]? =some o)(hs:jw o=true)(hd:o.dst=some t)(hC:C.testBit j=true)(hz:t<a.tmps.size){x:AV}{v:Value}(hx:x.pd c p w v)
    (hm:∀x',lkA σ.t t=some x'→AV.beq x' x=true∨qvg x'=true)(h:SFx c (qfu ops C S) σ p w a):SFx c (qfu ops C (plus S j)) σ p w (a.put (some t) v):=by
  refine⟨fun t' x' hY hl=>?_,h.m⟩;by_cases htt:t'=t
  · subst htt;refine⟨v,by simp[Act.put,hz],?_⟩;rcases hm x' hl with h1|h1
    · rw[AV.beq_ok _ _ h1];exact hx
    · cases x'<;>first|(cases h1;done)|exact trivial
  · obtain⟨u,h1,h2⟩:=h.t t' x' (fun⟨j',o',e1,e2,e3,e4,e5⟩=>hY ⟨j',o',e1,e2,e3,e4,by
      rw[q0z,e5,kY];refine decide_eq_false fun e=>?_;subst e;obtain rfl:=gnI (ho.symm.trans e1);exact htt (gnI (e2.symm.trans hd))⟩) hl
    refine⟨u,?_,h2⟩;simp only[Act.put];rw[uP (Ne.symm htt)];exact h1
def Seen(ops:List Oper)(C j:Nat):Prop:=∃f o,ops[f]? =some o∧jw o=false∧C.testBit f=true∧(zn o).testBit j=true
theorem z4n{ops:List Oper}{C j:Nat}(h:z75 ops (ops.map zn) C j=true):Seen ops C j:=by
 obtain⟨⟨o,f⟩,hm,hf⟩:=vF.1 h;obtain⟨k,hk,e⟩:=kI.1 hm;simp at e hk;obtain⟨rfl,rfl⟩:=e;have ho:ops[k]? =some ops[k]:=gnK hk;simp only[gnB,uG,q9c,uT,ho,kQ] at hf;exact⟨k,_,ho,hf.1,hf.2.1,hf.2.2⟩
theorem qpi{ops:List Oper}{N:List X}{C:Nat}{τ:St}(h:ndB uA N ops (ops.map zn) C τ=true){j:Nat}(ho:ops[j]? =some o)(hs:jw o=true):
  (C.testBit j=true→(∃ns x t,qxr uA τ o=some (ns,x)∧o.dst=some t∧(∀n∈ns,n∈N)∧∀x',lkA τ.t t=some x'→AV.beq x' x=true∨qvg x'=true)∨Seen ops C j)∧
  (C.testBit j=false→inM (zn o) C=false):=by
 have h1:=uB.1 h _ (uZ.2 ⟨qjh ho,hs⟩);simp only[q9c,uT,ho,kQ] at h1;refine⟨fun hC=>?_,fun hC=>?_⟩
 ·rw[if_pos hC] at h1;rcases kK.1 h1 with h1|h1
  ·refine .inl ?_;split at h1
   ·rename_i ns x t e1 e2;simp only[gnB] at h1;refine⟨ns,x,t,e1,e2,fun n hn=>qq0 (uB.1 h1.1 n hn),fun x' hx'=>?_⟩;rw[hx'] at h1;simp only[kA] at h1;exact h1.2
   ·cases h1
  ·exact .inr (z4n h1)
 ·rw[if_neg (by rw[hC];decide)] at h1;simpa using h1
theorem qam{ops:List Oper}(hF:FormR ops){C S i:Nat}(ho:ops[i]? =some o)(hm:inM (zn o) S=true):∀t∈qag (dsts ops) o,¬qfu ops C S t:=fun t ht⟨j,o',e1,e2,e3,e4,e5⟩=>by
 have:=q41.1 hm j (hF.read j o' t e1 e3 e2 i o ho ht);rw[e5] at this;cases this
theorem virt{ops:List Oper}(hF:FormR ops){N:List X}{C S lo:Nat}{τ:St}(hN:∀n∈N,n.says c.v)(hall:ops.all (qaf lo z)=true)(h:ndB uA N ops (ops.map zn) C τ=true)(hsn:∀j,C.testBit j=true→S.testBit j=false→¬Seen ops C j)(hz:a.tmps.size=z)(hx:SFx c (qfu ops C S) τ p w a):
  ∃a',a'.defers=a.defers∧a'.tmps.size=z∧(∀t,¬qfu ops C S t→a'.tmps[t]? =a.tmps[t]?)∧SF c τ p w a':=by
 have key:∀m,m≤ops.length→∃a' S',a'.defers=a.defers∧a'.tmps.size=z∧(∀t,¬qfu ops C S t→a'.tmps[t]? =a.tmps[t]?)∧(∀j,S.testBit j=true→S'.testBit j=true)∧
   (∀j o,j<m→ops[j]? =some o→jw o=true→C.testBit j=true→S'.testBit j=true)∧SFx c (qfu ops C S') τ p w a':=by
  intro m
  induction m with
  |zero=>exact fun _=>⟨a,S,rfl,hz,fun _ _=>rfl,fun _ h=>h,fun j o hj=>by omega,hx⟩
  | succ m ih =>
   intro hm;obtain⟨a1,S1,g1,g2,g3,g4,g5,g6⟩:=ih (by omega);have ho:ops[m]? =some ops[m]:=gnK (by omega);by_cases hcond:jw ops[m]=true∧C.testBit m=true∧S1.testBit m=false
   ·obtain⟨hs,hC,hSm⟩:=hcond;obtain⟨ns,x,t,e1,e2,e3,e4⟩:=((qpi h ho hs).1 hC).resolve_right (hsn m hC (by
     cases hSb:S.testBit m with
     |false=>rfl
     |true=>rw[g4 m hSb] at hSm;cases hSm))
    have hgive:=qhd (o:=ops[m]) (Y:=qfu ops C S1) g6 (fun t ht⟨j,o',f1,f2,f3,f4,f5⟩=>by
     have hj:=hF.back m _ ho j (hF.read j o' t f1 f3 f2 m _ ho (qcg ht));rw[g5 j o' hj f1 f3 f4] at f5;cases f5) e1 (fun n hn=>hN n (e3 n hn))
    obtain⟨v,-,hv⟩:=hgive;have htz:t<a1.tmps.size:=by
     have:=uB.1 hall _ (uW ho);unfold qaf at this;rw[e2] at this;simp only[gnB,kH] at this;rw[g2];exact this.1
    refine⟨a1.put (some t) v,plus S1 m,g1,by simp[Act.put,g2],fun t' ht'=>?_,fun j hj=>by rw[q0z,g4 j hj];rfl,fun j o' hj ho' hs' hC'=>?_,g6.give hF ho hs e2 hC htz hv e4⟩
    ·have hne:t'≠t:=by
      rintro rfl;refine ht' ⟨m,_,ho,e2,hs,hC,?_⟩;cases hSb:S.testBit m with
      |false=>rfl
      |true=>rw[g4 m hSb] at hSm;cases hSm
     rw[←g3 t' ht'];simp only[Act.put];rw[uP (Ne.symm hne)]
    ·rw[q0z];rcases kD j m with hl|hg
     ·rw[g5 j o' hl ho' hs' hC'];rfl
     ·obtain rfl:j=m:=by omega
      simp
   ·refine⟨a1,S1,g1,g2,g3,g4,fun j o' hj ho' hs' hC'=>?_,g6⟩;rcases kD j m with hl|hg
    ·exact g5 j o' hl ho' hs' hC'
    ·obtain rfl:j=m:=by omega
     obtain rfl:=gnI (ho.symm.trans ho');cases hSb:S1.testBit j with
     |true=>rfl
     |false=>exact absurd ⟨hs',hC',hSb⟩ hcond
 obtain⟨a',S',g1,g2,g3,g4,g5,g6⟩:=key ops.length (kO _);refine⟨a',g1,g2,g3,fun t x hl=>g6.t t x (fun⟨j,o,f1,f2,f3,f4,f5⟩=>?_) hl,g6.m⟩;rw[g5 j o (gnH.1 f1).1 f1 f3 f4] at f5;cases f5
theorem qzk{a b:Act}{K:Act→World→Prop}{Q:Exit→Act→World→Prop}{r:Result Next}(hb:b.defers=a.defers)(h:o.upon uA b K (fun e x w=>∀y,y.defers=a.defers→Q e y w) r)(hnd:∀x w',K x w'→x.defers=b.defers):
  o.upon uA a (fun x w'=>∃v,x=a.put o.dst v∧K (b.put o.dst v) w') Q r:=by
 cases r with
 | ok n w' =>
  cases n<;>simp only[Oper.upon] at h⊢
  case value v=>exact⟨v,rfl,h⟩
  case skip=>exact⟨_,rfl,h⟩
  case defer d'=>
   have h1:=hnd _ _ h;have h2:d'::b.defers=b.defers:=by
    cases hdst:o.dst with
    |none=>rw[hdst] at h1;exact h1
    |some k=>rw[hdst] at h1;exact h1
   have:=congrArg List.length h2;simp at this
  case enter f args=>
   exact Calls.mono h fun e w'' he=>by
    cases e with
    |returned v=>exact⟨v,rfl,he⟩
    |panicked ch=>exact he a rfl
    |outgrown=>obtain⟨x,w1,hq⟩:=he;exact⟨a,w1,hq a rfl⟩
  case row row args=>exact Rows.mono h fun v w'' he=>⟨v,rfl,he⟩
  all_goals exact h
 |halt x w'=>cases x<;>simp only[Oper.upon] at h⊢<;>first|exact h a rfl|exact h
theorem qui{a:Act}{K K':Act→World→Prop}{Q:Exit→Act→World→Prop}{r:Result Next}(h:∀a w,K a w→K' a w)(hh:o.upon uA a K Q r):o.upon uA a K' Q r:=by
 cases r with
 | ok n w' =>
  cases n<;>simp only[Oper.upon] at hh⊢<;>
   first
    |exact h _ _ hh
    |exact Calls.mono hh (fun e w'' he=>by cases e<;>first|exact h _ _ he|exact he)
    |exact Rows.mono hh (fun _ _ he=>h _ _ he)
 |halt x w'=>cases x<;>simp only[Oper.upon] at hh⊢<;>exact hh
theorem qyh{a b:Act}{x:Operand}(h:∀t,x=.tmp t→b.tmps[t]? =a.tmps[t]?):b.eval x=a.eval x:=by
 cases x with
 |tmp t=>
  show b.tmps.getD t undef=a.tmps.getD t undef
  rw[kL,kL,h t rfl]
 |const v=>rfl
 |global g=>rfl
 |func f=>rfl
theorem qok{ops:List Oper}{C i C':Nat}{l:List Nat}(h:qb8 ops C i C'=some l):∀j o,ops[j]? =some o→C'.testBit j=true→C.testBit j=false→j≠i→jw o=true∧∃t,o.dst=some t∧t∈l:=by
 have key:∀(m:List (Oper×Nat))(l:List Nat),m.foldr (fun e acc=>match acc with
   |none=>none
   | some l => if bit C' e.2 && (!bit C e.2 && !Nat.beq e.2 i) then (if jw e.1 then (match e.1.dst with
     |some t=>some (t::l)
     |none=>none) else none) else some l) (some [])=some l→∀e∈m,C'.testBit e.2=true→C.testBit e.2=false→e.2≠i→jw e.1=true∧∃t,e.1.dst=some t∧t∈l:=by
  intro m
  induction m with
  |nil=>intro l _ e he;cases he
  | cons x m ih =>
   intro l hl e he h1 h2 h3;rw[jB] at hl;split at hl
   ·cases hl
   ·rename_i l' hl';split at hl
    ·rename_i hc;split at hl
     ·rename_i hs;split at hl
      ·rename_i t ht;injection hl with hl;subst hl;rcases uM.1 he with rfl|he
       ·exact⟨hs,t,ht,by simp⟩
       ·obtain⟨g1,t',g2,g3⟩:=ih l' hl' e he h1 h2 h3;exact⟨g1,t',g2,uD _ g3⟩
      ·cases hl
     ·cases hl
    ·rename_i hc;injection hl with hl;subst hl;rcases uM.1 he with rfl|he
     ·exfalso;apply hc;simp only[q9c,h1,h2,Bool.not_false,kX,uG];cases hb:uE e.2 i with
      |false=>rfl
      |true=>exact absurd (gnN hb) h3
     ·exact ih l' hl' e he h1 h2 h3
 intro j o ho;unfold qb8 at h;split at h
 ·rename_i he;have he:=gnN he;subst he;intro h1 h2 h3;rw[q0z,h2] at h1;simp only[kY,gnD] at h1;exact absurd h1.symm h3
 ·exact key _ _ h (o,j) (qjh ho)
theorem qmg{ops:List Oper}{C i C':Nat}{l:List Nat}(h:qb8 ops C i C'=some l):∀t∈l,∃j o,ops[j]? =some o∧o.dst=some t∧jw o=true∧C'.testBit j=true∧C.testBit j=false∧j≠i:=by
 have key:∀(m:List (Oper×Nat))(l:List Nat),m.foldr (fun e acc=>match acc with
   |none=>none
   | some l => if bit C' e.2 && (!bit C e.2 && !Nat.beq e.2 i) then (if jw e.1 then (match e.1.dst with
     |some t=>some (t::l)
     |none=>none) else none) else some l) (some [])=some l→∀t∈l,∃e∈m,e.1.dst=some t∧jw e.1=true∧C'.testBit e.2=true∧C.testBit e.2=false∧e.2≠i:=by
  intro m
  induction m with
  |nil=>
   intro l hl t ht;simp only[List.foldr_nil,uF] at hl;subst hl;cases ht
  | cons x m ih =>
   intro l hl t ht;rw[jB] at hl;split at hl
   ·cases hl
   ·rename_i l' hl';have up:t∈l'→∃e∈x::m,e.1.dst=some t∧jw e.1=true∧C'.testBit e.2=true∧C.testBit e.2=false∧e.2≠i:=fun h=>by
     obtain⟨e,he,r⟩:=ih l' hl' t h;exact⟨e,uD _ he,r⟩
    split at hl
    ·rename_i hc;split at hl
     ·rename_i hs;split at hl
      ·rename_i t' ht';injection hl with hl;subst hl;rcases uM.1 ht with rfl|ht
       ·simp only[q9c,gnB,uG] at hc;refine⟨x,uC,ht',hs,hc.1,hc.2.1,fun e=>?_⟩;rw[e,vC] at hc;exact absurd hc.2.2 (by decide)
       ·exact up ht
      ·cases hl
     ·cases hl
    ·injection hl with hl;subst hl;exact up ht
 intro t ht;unfold qb8 at h;split at h
 ·injection h with h;subst h;cases ht
 rename_i hne;obtain⟨⟨o,j⟩,he,r⟩:=key _ _ h t ht;refine⟨j,o,?_,r⟩;obtain⟨k,hk,e⟩:=kI.1 he;simp at e hk;obtain⟨rfl,rfl⟩:=e;exact gnK hk
def undone(S:Nat)(l:List Nat):Nat:=(l.filter fun j=> !S.testBit j).length
theorem q3m{S x:Nat}{l:List Nat}:undone S (x::l)=(if S.testBit x then 0 else 1)+undone S l:=by
 unfold undone;rw[kF];cases S.testBit x<;>simp<;>omega
theorem qoj{S i:Nat}:∀l:List Nat,undone (plus S i) l≤undone S l
 |[]=>kO _
 | x :: l => by
  have ih:=qoj (S:=S) (i:=i) l;rw[q3m,q3m,q0z];cases S.testBit x
  ·by_cases hx:i=x
   ·rw[decide_eq_true hx];simp;omega
   ·rw[decide_eq_false hx];simp;omega
  ·simp;omega
theorem qgp{S i:Nat}(hi:S.testBit i=false):∀l:List Nat,i∈l→undone (plus S i) l<undone S l
 |[],h=>by cases h
 | x :: l, h => by
  have hle:=qoj (S:=S) (i:=i) l;by_cases hx:i=x
  ·subst hx;rw[q3m,q3m,q0z,hi];simp;omega
  ·have ih:=qgp hi l (by rcases uM.1 h with e|e;exact absurd e hx;exact e);rw[q3m,q3m,q0z,decide_eq_false hx];simp;omega
theorem z9o(ro:Option Nat)(nn:Nat)(htb:q16 tbl)(hS:HS c tbl){ops:List Oper}(hF:FormR ops){N:List X}{l:St}(hN:∀n∈N,n.says c.v)(hall:ops.all (qaf c.lo z)=true){Q:Exit→Act→World→Prop}(hQ:qeq tbl w0 S0 d Q)
  (hk:∀a' w',j9 c w0 S0 d z l a' w'→Q .normal a' w'):∀(n:Nat)(L:List (List Nd)),okN uA tbl (dsts ops) ops (ops.map zn) N l L=true→
  ∀lv,L.head? =some lv→∀e∈lv,∀(S:Nat)(listed:Array Bool)(p:z0)(w:World)(a:Act),Rep ops.length S listed→undone S (kZ ops.length)≤n→(∀j,S.testBit j=true→e.1.testBit j=true)→
   (∀j o,ops[j]? =some o→e.1.testBit j=true→S.testBit j=false→jw o=true)→(∀j o,ops[j]? =some o→S.testBit j=true→inM (zn o) S=true)→Bs c.A c.F w0 S0 p w→a.defers=d→a.tmps.size=z→SFx c (qfu ops e.1 S) e.2 p w a→wpAnyIn (FR ro) nn uA .any ops.toArray Q n listed a w:=by
 -- all is done
 have last:∀(L:List (List Nd)),okN uA tbl (dsts ops) ops (ops.map zn) N l L=true→∀lv,L.head? =some lv→∀e∈lv,∀(S:Nat)(p:z0)(w:World)(a:Act),(∀j,j<ops.length→S.testBit j=true)→(∀j,S.testBit j=true→e.1.testBit j=true)→
   Bs c.A c.F w0 S0 p w→a.defers=d→a.tmps.size=z→SFx c (qfu ops e.1 S) e.2 p w a→Q .normal a w:=by
  intro L hL lv hlv e he S p w a hS' hSC hb hd hz hx;have hnl:∀t,¬qfu ops e.1 S t:=fun t⟨j,o,f1,_,_,_,f5⟩=>by
   rw[hS' j (gnH.1 f1).1] at f5;cases f5
  have hsf:SF c e.2 p w a:=⟨fun t x h=>hx.t t x (hnl t) h,hx.m⟩
  match L,hL,hlv with
  |[lv'],hL,hlv=>
   simp only[uS,uF] at hlv;subst hlv;have h1:=uB.1 (show(lv'.all fun e=>ndB uA N ops (ops.map zn) e.1 e.2&&(uE e.1 (uL 1 ops.length - 1)&&covers e.2 l))=true from hL) e he;simp only[gnB] at h1;exact hk a w ⟨p,hb,q6f h1.2.2 hsf,hd,hz⟩
  | lv' :: lv2 :: r, hL, hlv =>
   simp only[uS,uF] at hlv;subst hlv;unfold okN at hL;simp only[gnB] at hL;have h1:=uB.1 hL.1 e he;simp only[gnB,uG] at h1;exfalso;cases hs:q3t ops (ops.map zn) 0 e.1 with
   |nil=>rw[hs] at h1;simp at h1
   |cons i is=>
    obtain⟨-,o,f1,f2,f3,f4⟩:=qqt.1 (show i∈q3t ops (ops.map zn) 0 e.1 by rw[hs];exact uC);simp only[vN] at f1;rw[hSC i (hS' i (gnH.1 f1).1)] at f3;cases f3
 intro n
 induction n with
 | zero =>
  intro L hL lv hlv e he S listed p w a hrep hn hSC hsi hcl hb hd hz hx;have hfull:∀j,j<ops.length→S.testBit j=true:=fun j hj=>by
   cases hb:S.testBit j with
   |true=>rfl
   |false=>
    have:=qgp hb (kZ ops.length) (jC.2 hj);omega
  refine⟨vE.2 fun j hj=>?_,last L hL lv hlv e he S p w a hfull hSC hb hd hz hx⟩;obtain⟨f1,o,f2,-⟩:=qgo.1 ((hrep.ready j).1 hj);rw[hfull j (gnH.1 f2).1] at f1;cases f1
 | succ n ih =>
  intro L hL lv hlv e he S listed p w a hrep hn hSC hsi hcl hb hd hz hx;have hnode:ndB uA N ops (ops.map zn) e.1 e.2=true:=by
   match L,hL,hlv with
   |[lv'],hL,hlv=>
    simp only[uS,uF] at hlv;subst hlv;have h1:=uB.1 (show(lv'.all fun e=>ndB uA N ops (ops.map zn) e.1 e.2&&(uE e.1 (uL 1 ops.length - 1)&&covers e.2 l))=true from hL) e he;simp only[gnB] at h1;exact h1.1
   |lv'::lv2::r,hL,hlv=>
    simp only[uS,uF] at hlv;subst hlv;unfold okN at hL;simp only[gnB] at hL;have h1:=uB.1 hL.1 e he;simp only[gnB] at h1;exact h1.1
  have hsn:∀j,e.1.testBit j=true→S.testBit j=false→¬Seen ops e.1 j:=fun j hCj hSj⟨f,o,f1,f2,f3,f4⟩=>by
   cases hSf:S.testBit f with
   |false=>
    have:=hsi f o f1 f3 hSf;rw[f2] at this;cases this
   |true=>
    have:=q41.1 (hcl f o f1 hSf) j f4;rw[hSj] at this;cases this
  refine⟨fun hr=>?_,fun i hi=>?_⟩
  ·refine last L hL lv hlv e he S p w a ?_ hSC hb hd hz hx;intro j
   induction j using Nat.strongRecOn with
   | _ j ihj =>
    intro hj;cases hbj:S.testBit j with
    |true=>rfl
    |false=>
     exfalso;have ho:ops[j]? =some ops[j]:=gnK hj;have:j∈Region.ready .any ops.toArray listed:=(hrep.ready j).2 (qgo.2 ⟨hbj,_,ho,q41.2 fun k hk'=>ihj k (hF.back j _ ho k hk') (Nat.lt_trans (hF.back j _ ho k hk') hj)⟩);rw[hr] at this;cases this
  ·obtain⟨hSi,o,ho,hm⟩:=qgo.1 ((hrep.ready i).1 hi);have hin:i<ops.length:=(gnH.1 ho).1;have hcl2:∀j o,ops[j]? =some o→(plus S i).testBit j=true→inM (zn o) (plus S i)=true:=fun j o' ho' hj=>by
    refine q41.2 fun k hk'=>?_;rw[q0z] at hj⊢;rcases kK.1 hj with h|h
    ·rw[q41.1 (hcl j o' ho' h) k hk'];rfl
    ·obtain rfl:=of_decide_eq_true h;obtain rfl:=gnI (ho.symm.trans ho');rw[q41.1 hm k hk'];rfl
   have hund:undone (plus S i) (kZ ops.length)≤n:=by
    have:=qgp hSi (kZ ops.length) (jC.2 hin);omega
   have hdB:qaf c.lo z o=true:=uB.1 hall o (uW ho);have hkz:∀t,o.dst=some t→t<z:=fun t e=>by
    unfold qaf at hdB;rw[e] at hdB;simp only[gnB,kH] at hdB;exact hdB.1
   unfold wpOpIn;rw[uV,ho];simp only;cases hC:e.1.testBit i with
   | true =>
    -- an operation that reads
    have hs:=hsi i o ho hC hSi;obtain⟨ns,x,t,e1,e2,e3,e4⟩:=((qpi hnode ho hs).1 hC).resolve_right (hsn i hC hSi);obtain⟨v,hv1,hv2⟩:=qhd hx (fun t ht=>qam hF ho hm t (qcg ht)) e1 (fun n hn=>hN n (e3 n hn));have hg:=qvw hs;rw[if_pos (by unfold Region.wanted;simp only[hg])];have hnd:∀c',o.op≠.defer c':=fun c' hc=>by
     unfold jw at hs;rw[hg,hc] at hs;simp at hs
    refine Oper.wp_round ro hnd ?_;unfold Oper.wp;rw[hv1]
    show wpAnyIn (FR ro) nn uA .any ops.toArray Q n (listed.setIfInBounds i true) (a.put o.dst v) w
    rw[e2];exact ih L hL lv hlv e he (plus S i) _ p w (a.put (some t) v) (hrep.plus hin) hund (fun j hj=>by
     rw[q0z] at hj;rcases kK.1 hj with h|h
     ·exact hSC j h
     ·rw[←of_decide_eq_true h];exact hC) (fun j o' ho' h1 h2=>hsi j o' ho' h1 (by
     rw[q0z] at h2;exact(vQ.1 h2).1)) hcl2 hb hd (by simp[Act.put,hz]) (hx.give hF ho hs e2 hC (by rw[hz];exact hkz t e2) hv2 e4)
   | false =>
    have hmC:inM (zn o) e.1=true:=q41.2 fun k hk'=>hSC k (q41.1 hm k hk');have hs:jw o=false:=by
     cases hs:jw o with
     |false=>rfl
     |true=>
      have:=(qpi hnode ho hs).2 hC;rw[hmC] at this;cases this
    have hsig:i∈q3t ops (ops.map zn) 0 e.1:=qqt.2 ⟨vR _,o,by simpa using ho,hs,hC,hmC⟩
    match L,hL,hlv with
    |[lv'],hL,hlv=>
     exfalso;simp only[uS,uF] at hlv;subst hlv;have h1:=uB.1 (show(lv'.all fun e=>ndB uA N ops (ops.map zn) e.1 e.2&&(uE e.1 (uL 1 ops.length - 1)&&covers e.2 l))=true from hL) e he;simp only[gnB] at h1;have hall1:=gnN h1.2.1;rw[hall1,show uL 1 ops.length=1 <<< ops.length from rfl,kC,Nat.testBit_two_pow_sub_one,decide_eq_true hin] at hC;cases hC
    | lv' :: lv2 :: r, hL, hlv =>
     simp only[uS,uF] at hlv;subst hlv;unfold okN at hL;simp only[gnB] at hL;obtain⟨hL1,hL2⟩:=hL;have h1:=uB.1 hL1 e he;simp only[gnB] at h1;have h2:=uB.1 h1.2.2 i hsig;unfold z7a at h2;rw[ho] at h2;simp only at h2;split at h2
     ·rename_i ns σ' hst;simp only[gnB] at h2;obtain⟨h3,h4⟩:=h2;obtain⟨e',he',h5⟩:=vF.1 h4;simp only[gnB] at h5;obtain⟨h5a,h5b⟩:=h5;split at h5b
      ·rename_i out hout;obtain⟨b,hb1,hb2,hb3,hb4⟩:=virt hF hN hall hnode hsn hz hx;have hops:∀t∈qag (dsts ops) o,b.tmps[t]? =a.tmps[t]? :=fun t ht=>hb3 t (qam hF ho hm t ht);have hw:Region.wanted o (yielded ops.toArray b.tmps)=Region.wanted o (yielded ops.toArray a.tmps):=by
        unfold Region.wanted;cases hg:o.guard with
        |none=>rfl
        | some gb =>
         obtain⟨g,bb⟩:=gb;simp only;cases ht:((dsts ops)[g]?).join with
         | none =>
          have:∀tm:Array Value,yielded ops.toArray tm g=none:=fun tm=>by
           unfold dsts at ht;rw[uT] at ht;unfold yielded;rw[uV];cases hg2:ops[g]? with
           |none=>rfl
           |some og=>
            rw[hg2] at ht;simp at ht;simp[ht]
          rw[this,this]
         | some t =>
          have hsame:=hops t (by unfold qag;rw[hg];simp only[ht];exact uC);have:∀(bb:Bool)(tm:Array Value),tm[t]? =a.tmps[t]?→(yielded ops.toArray tm g=some bb↔a.tmps[t]? =some (.bool bb)):=fun bb tm he=>by
           unfold dsts at ht;rw[uT] at ht;unfold yielded;rw[uV];cases hg2:ops[g]? with
           |none=>rw[hg2] at ht;simp at ht
           |some og=>
            rw[hg2] at ht;simp at ht;simp only[vT,ht,he];cases a.tmps[t]? with
            |none=>simp
            |some v=>cases v<;>simp
          have heq:yielded ops.toArray b.tmps g=yielded ops.toArray a.tmps g:=by
           cases h1:yielded ops.toArray b.tmps g with
           |some bb=>exact((this bb a.tmps rfl).2 ((this bb b.tmps hsame).1 h1)).symm
           |none=>
            cases h2:yielded ops.toArray a.tmps g with
            |none=>rfl
            |some bb=>rw[(this bb b.tmps hsame).2 ((this bb a.tmps rfl).1 h2)] at h1;cases h1
          rw[heq]
       have hsG:=z18 (ops:=ops.toArray) (ds:=dsts ops) (Q:=fun ex x w=>∀y,y.defers=a.defers→Q ex y w) htb hS (by simp[dsts]) hb hb4 (hb1.trans hd) hb2 hdB hst (fun n hm=>hN n (qq0 (uB.1 h3 n hm))) (fun e he T h1 h2 a1 w1 h4 h5 y hy=>hQ e he T h1 h2 y w1 (hy.trans hd) h5) (fun a' w' hp=>hp)
       -- what is known behind it
       have goal:∀(u:Value)(w1:World),j9 c w0 S0 d z σ' (b.put o.dst u) w1→wpAnyIn (FR ro) nn uA .any ops.toArray Q n (listed.setIfInBounds i true) (a.put o.dst u) w1:=by
        rintro u w1⟨p',hb',hf',hd',hz'⟩;have hcv:=q6f h5b hf';refine ih (lv2::r) hL2 lv2 rfl e' he' (plus S i) _ p' w1 (a.put o.dst u) (hrep.plus hin) hund (fun j hj=>?_) (fun j o' ho' h1' h2'=>?_) hcl2 hb' (by cases o.dst<;>exact hd) (by cases o.dst<;>simp only[Act.put,uH]<;>exact hz) ⟨fun t x hY hl=>?_,hcv.m⟩
        ·refine q41.1 h5a j ?_;rw[q0z] at hj⊢;rcases kK.1 hj with h|h
         ·rw[hSC j h];rfl
         ·rw[h,Bool.or_true]
        ·rw[q0z] at h2';obtain⟨g1,g2⟩:=vQ.1 h2';cases hCj:e.1.testBit j with
         |true=>exact hsi j o' ho' hCj g1
         |false=>exact(qok hout j o' ho' h1' hCj (fun e=>by subst e;simp at g2)).1
        ·have hto:t∉out∨t∈out:=(Classical.em _).symm;have hnot:∀j o',ops[j]? =some o'→o'.dst=some t→jw o'=true→e'.1.testBit j=true→S.testBit j=true:=fun j o' f1 f2 f3 f4=>by
          cases hSj:S.testBit j with
          |true=>rfl
          |false=>
           exfalso;refine hY ⟨j,o',f1,f2,f3,f4,?_⟩;rw[q0z,hSj,kY];refine decide_eq_false fun e=>?_;subst e;obtain rfl:=gnI (ho.symm.trans f1);rw[hs] at f3;cases f3
         have hno:t∉out:=fun hmem=>by
          obtain⟨j,o',f1,f2,f3,f4,f5,f6⟩:=qmg hout t hmem;have:=hSC j (hnot j o' f1 f2 f3 f4);rw[f5] at this;cases this
         obtain⟨v,g1,g2⟩:=hcv.t t x (qk6 (q:=fun y=> !zx out y) hl (by
          cases hq:zx out t with
          |false=>rfl
          |true=>exact absurd (y3.1 hq) hno))
         refine⟨v,?_,g2⟩;rw[←g1];have hlk:¬qfu ops e.1 S t∨o.dst=some t:=by
          rcases Classical.em (qfu ops e.1 S t) with h|h
          ·obtain⟨j,o',f1,f2,f3,f4,f5⟩:=h;have:=hnot j o' f1 f2 f3 (q41.1 h5a j (by rw[q0z,f4];rfl));rw[f5] at this;cases this
          ·exact .inl h
         cases hdd:o.dst with
         |none=>
          rcases hlk with h|h
          ·exact(hb3 t h).symm
          ·rw[hdd] at h;cases h
         | some k =>
          simp only[Act.put];by_cases hkt:k=t
          ·subst hkt;rw[vA,vA,hz,hb2]
          ·rw[uP hkt,uP hkt];rcases hlk with h|h
           ·exact(hb3 t h).symm
           ·rw[hdd] at h;exact absurd (gnI h) hkt
       rw[hw] at hsG;split
       ·rename_i hwt;rw[if_pos hwt] at hsG;obtain⟨⟨hnd,hns⟩,hwp⟩:=hsG;refine Oper.wp_round ro hnd ?_;have hev:execOp a.eval o=execOp b.eval o:=execOp_congr o hns fun x hx'=>(qyh fun t ht=>by subst ht;exact hops t (qcg (z0p.2 hx'))).symm;unfold Oper.wp at hwp⊢;rw[hev];refine qui ?_ (qzk (a:=a) (b:=b) hb1 hwp fun x w1 hp=>?_)
        ·rintro x w1⟨u,rfl,hp⟩;exact goal u w1 hp
        ·obtain⟨p',-,-,hd',-⟩:=hp;rw[hd',hb1,hd]
       ·rename_i hwt;rw[if_neg hwt] at hsG;exact⟨fun _ _=>trivial,goal _ _ hsG⟩
      ·cases h5b
     ·cases h2
theorem z22{l:List Oper}{L:List (List Nd)}(h:quk l σ L=true):∃e r out,L=[e]::r∧qb8 l 0 l.length e.1=some out∧covers σ (without out e.2)=true:=by
  match L with
  |[]=>cases h
  |[]::r=>cases h
  | [e] :: r =>
    have h':(match qb8 l 0 l.length e.1 with
      |some out=>covers σ (without out e.2)
      |none=>false)=true:=h
    split at h'
    · rename_i out ho;exact⟨e,r,out,rfl,ho,h'⟩
    · cases h'
  |(e::f::t)::r=>cases h
def z91(P:Program)(tbl:Tbl)(lo z:Nat)(σ:St)(l:List Oper)(d:Bool):Option (List X×St):=
 if(d&&l.all (qaf lo z))=true then(match z8n P tbl σ l with
  |some r=>some r
  |none=>if vB l.length 22 then seg P tbl lo z σ l d else none) else seg P tbl lo z σ l d
theorem z5z(ro:Option Nat)(nn:Nat)(htb:q16 tbl)(hS:HS c tbl){id:Nat}{ops:Array Oper}{dr:Bool}{N:List X}(h:z91 uA tbl c.lo z σ ops.toList dr=some (N,σ'))(hN:∀n∈N,n.says c.v)(hb:Bs c.A c.F w0 S0 p w)(hf:SF c σ p w a)(hd:a.defers=d)(hz:a.tmps.size=z){Q:Exit→Act→World→Prop}(hQ:qeq tbl w0 S0 d Q)
  (hk:∀a' w',j9 c w0 S0 d z σ' a' w'→Q .normal a' w'):(Code.region id ops dr).wpIn (FR ro) nn uA Q a w:=by
 unfold z91 at h;split at h
 ·rename_i hc;obtain⟨hdr,hall⟩:=kV.1 hc;subst hdr;split at h
  ·rename_i r hr;injection h with h;subst h;obtain⟨l⟩:=ops;have hr:z8n uA tbl σ l=some (N,σ'):=hr;have hall:l.all (qaf c.lo z)=true:=hall;unfold z8n at hr;split at hr
   ·rename_i hform;split at hr
    ·rename_i C σ1 N1 hcl;split at hr
     ·rename_i L N' hlv;split at hr
      ·rename_i σf hlast;by_cases hok:(okN uA tbl (dsts l) l (l.map zn) N' σf L&&quk l σ L)=true
       ·rw[if_pos hok] at hr;simp only[gnS] at hr;obtain⟨rfl,rfl⟩:=hr;obtain⟨hok1,hok2⟩:=kV.1 hok;obtain⟨e,r,out,rfl,hout,hok3⟩:=z22 hok2
        ··refine wpIn_region_any qoe ?_
          have hF:=z68 hform;have hcv:=q6f hok3 hf.drew;refine z9o ro nn htb hS hF hN hall hQ hk l.length _ hok1 [e] rfl e uC 0 (vY l.length false) p _ a ⟨by simp,fun j=>by simp[vH]⟩ ?_ (fun j hj=>by simp at hj) (fun j o ho h1 _=>(qok hout j o ho h1 (by simp) (fun e=>by have:=(gnH.1 ho).1;omega)).1) (fun j o _ hj=>by simp at hj) hb.drew hd hz ⟨fun t x hY hl=>?_,hcv.m⟩
          ·unfold undone;exact jE (List.length_filter_le _ _) (by simp)
          ·refine hcv.t t x (qk6 (q:=fun y=> !zx out y) hl ?_);cases hq:zx out t with
           |false=>rfl
           |true=>
            exfalso;obtain⟨j,o,f1,f2,f3,f4,-,-⟩:=qmg hout t (y3.1 hq);exact hY ⟨j,o,f1,f2,f3,f4,by simp⟩
       ·rw[if_neg hok] at hr;cases hr
      ·cases hr
     ·cases hr
    ·cases hr
   ·cases hr
  ·split at h
   ·exact z1v ro nn htb hS h hN hb hf hd hz hQ hk
   ·cases h
 ·exact z1v ro nn htb hS h hN hb hf hd hz hQ hk
end
end
end Go.Proofs.Ytbmaffphliignaa
