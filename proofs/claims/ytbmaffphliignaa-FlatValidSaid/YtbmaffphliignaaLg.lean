/-
 Lemmas of the walk and plain laws, put together. No condition.
-/
import Derived.ChangeArms
import Derived.OpenShut
import Derived.ProofKit
import Derived.SizedLaws
import Derived.Test.YtbmaffphliignaaRows
import Derived.Test.YtbmaffphliignaaLf
namespace Go.Proofs.Ytbmaffphliignaa
open Go.RowKit
set_option linter.unusedVariables false
set_option linter.unusedSimpArgs false
set_option maxRecDepth 100000
open _root_.Option.some renaming injEq→uA
open _root_.Option renaming ite_none_right_eq_some→uB,isSome_some→uG,getD_some→uH
open _root_.List renaming map_append→uC,getD_cons_zero→uD,getD_cons_succ→uE,length_map→uF,take_length→uI,map_cons→uK,map_nil→uM,length_cons→uN,length_take→uO,all_eq_true→uP,take_append_drop→uR,length_flatten→uS,length_append→uU,getElem?_map→uV,foldl_append→uW,getElem_mem→uX,mem_append→uY,length_nil→uZ,append_nil→kA,mem_cons→kB,map_map→kC,map_id→kD
open _root_.Go.Proofs.Try renaming prog→uJ,f9→kF
open _root_.Nat renaming zero_le→uL,le_refl→kE
section
def q25(l:List FC):D:=.r (l.map eFC)
def eN(v a:Int):D:=.a [.i v,.i a]
def eX(x:X24):D:=.a [eN x.nv x.na,.b x.tr,.r (x.aux.map q25)]
def dX(d:D):X24:=⟨((d.fld 0).fld 0).int,((d.fld 0).fld 1).int,(d.fld 1).tt,(d.fld 2).rs.map fun r=>r.rs.map dFC⟩
theorem yi(x:X24):dX (eX x)=x:=by
 show(⟨x.nv,x.na,x.tr,(x.aux.map q25).map fun r=>r.rs.map dFC⟩:X24)=x
 rw[kC];have:((fun r:D=>r.rs.map dFC) ∘ q25)=id:=funext fun l=>qxt l;rw[this,kD]
theorem j3(v a:Int):(eN v a).fld 0=.i v:=rfl
theorem j4(v a:Int):(eN v a).fld 1=.i a:=rfl
theorem yy(x:X24):(eX x).fld 0=eN x.nv x.na:=rfl
theorem j6(x:X24):(eX x).fld 1=.b x.tr:=rfl
theorem yz(x:X24):(eX x).fld 2=.r (x.aux.map q25):=rfl
def X24.incA(x:X24):X24:=⟨x.nv,x.na+1,x.tr,x.aux⟩
theorem zh(x:X24):D.a ((eX x).fs.set 0 (D.a ((eN x.nv x.na).fs.set 0 (.i (x.nv+1)))))=eX x.var:=rfl
theorem zx(x:X24):D.a ((eX x).fs.set 0 (D.a ((eN x.nv x.na).fs.set 1 (.i (x.na+1)))))=eX x.incA:=rfl
theorem z9(x:X24):D.a ((eX x.incA).fs.set 2 (.r (x.incA.aux.map q25++[.r []])))=eX x.pred:=by
 show _=D.a [_,_,.r ((x.aux++[[]]).map q25)]
 rw[uC];rfl
theorem zi(x:X24)(n:Nat)(l:List FC):D.a ((eX x).fs.set 2 (.r ((x.aux.map q25).set n (.r (l.map eFC)))))=eX (x.put n l):=by
 show _=D.a [_,_,.r ((x.aux.set n l).map q25)]
 rw[List.map_set];rfl
abbrev TX:Ty:=.st 52
theorem wfX{d:D}(h:Wf d TX):∃x:X24,d=eX x∧x.aux.length≤5864062014634:=by
 obtain⟨ds,rfl,hl⟩:=h.st_of (fs:=[.st 49,.bool,.row 27]) rfl;obtain⟨d0,r,rfl,h0,hl⟩:=q7w hl;obtain⟨d1,d2,rfl,h1,h2⟩:=qvl hl;obtain⟨es,rfl,hl0⟩:=h0.st_of (fs:=[.int .i64,.int .i64]) rfl;obtain⟨e0,e1,rfl,g0,g1⟩:=qvl hl0;obtain⟨v,rfl,-⟩:=wfI g0;obtain⟨a,rfl,-⟩:=wfI g1;obtain⟨b,rfl⟩:=h1.bool;obtain⟨l,rfl,hl1,hl2⟩:=h2.row_of (te:=qf9) rfl;obtain⟨m,rfl,-⟩:=qgn (e:=q25) (P:=fun _=>True) fun x hx=>by
  obtain⟨z,rfl,-⟩:=z7n (hl2 x hx);exact⟨z,rfl,trivial⟩
 have e:LM qf9=5864062014634:=by kernel_rfl
 rw[uF] at hl1;exact⟨⟨v,a,b,m⟩,rfl,by show m.length≤_;omega⟩
def gOp:List D→Option (List D)
 |[k,v]=>some [eFG (opG k.int v.int)]
 |_=>none
theorem q7s:FOk yr gOp:=qtd fun ds outs hw hg=>by
 obtain⟨d,r,rfl,hd,e,r',rfl,he,rfl⟩:=hw;obtain⟨k,rfl,-⟩:=wfI hd;obtain⟨v,rfl,-⟩:=wfI he;simp only[gOp,qe,uA] at hg;subst hg;simp only[qa2,gnZ,gnT,z4,qy,z5,qq,z6,z7,qw,z3,z0,qv,qx,qz,qt,qu,qr];rfl
theorem ql5:FOk q0w gIs:=qtz fun ds outs hw hg=>by
 obtain⟨d,r,rfl,hd,e,r',rfl,he,e2,r2,rfl,he2,rfl⟩:=hw;obtain⟨t,rfl,ht⟩:=wfT hd;obtain⟨s,rfl,hs⟩:=he.str;obtain⟨n,rfl,hn⟩:=wfI he2;simp only[gIs,zw,qf,qe,uA] at hg;subst hg;simp only[q9z,gnZ,gnT,z4,qy,z5,qq,z6,z7,qw,z3,z0,qv,qx,qz,qt,qu,qr,isT]
def q7i:List D→Option (List D)
 |[p,l]=>some [eFG (qlb (dPr p) (l.rs.map dT))]
 |_=>none
theorem qxl(f:Te→Te)(t:Te):gTT f [eT t]=some [eT (f t)]:=by simp only[gTT,zw]
theorem z22(k:Int)(p:Pr)(l:List Te)(v:Int)(t:Te):D.a ((eFG ⟨k,p,l,v⟩).fs.set 2 (.r (l.map eT++[eT t])))=eFG ⟨k,p,l++[t],v⟩:=by
 show _=D.a [_,_,.r ((l++[t]).map eT),_]
 rw[uC];rfl
theorem q42:FOk y3 q7i:=qp4 q43 fun ds outs hw hg=>by
 obtain⟨d,r,rfl,hd,e,r',rfl,he,rfl⟩:=hw;obtain⟨p,rfl,hp⟩:=z2c hd;obtain⟨l,rfl,hl,-⟩:=qj2 he;simp only[q7i,qt,qo,q33,uA] at hg;subst hg;rw[q79,j7];refine⟨fun st=>∃k:Nat,k≤l.length∧st=[.i k,eFG ⟨1,p,(l.take k).map q3x,0⟩],fun st=>l.length - (st.getD 0 .u).int.toNat,⟨0,uL _,rfl⟩,?_⟩;rintro st - ⟨k,hk,rfl⟩;rw[qd];refine⟨fun hlt=>?_,fun hlt=>?_⟩
 ·simp only[gnZ,gnT,z4,qy,z5,qq,z6,z7,qw,z3,z0,qv,qx,qz,qt,qu,qr] at hlt;have hkl:k<l.length:=by omega
  simp only[gnZ,gnT,z4,qy,z5,qq,z6,z7,qw,z3,z0,qv,qx,qz,qt,qu,qr,q12 hkl,qxl,uO];refine⟨⟨by omega,by omega⟩,by omega,⟨by omega,by omega⟩,?_⟩;rw[q1n,if_pos rfl];refine⟨⟨k+1,by omega,?_⟩,?_⟩
  ·rw[q0j hkl,uC,z22];rfl
  ·simp[D.int];omega
 ·simp only[gnZ,gnT,z4,qy,z5,qq,z6,z7,qw,z3,z0,qv,qx,qz,qt,qu,qr] at hlt⊢;have:k=l.length:=by omega
  subst this;rw[uI];rfl
def q39(t:Te):List Te:=(q8x t).map q2z
def qli(f:Te→List Te):List D→Option (List D)
 |[t]=>some [.r ((f (dT t)).map eT)]
 |_=>none
theorem q46:FOk y4 (qli q39):=qoa qe3 q3q fun ds outs hw hg=>by
 obtain⟨d,r,rfl,hd,rfl⟩:=hw;obtain⟨t,rfl,ht⟩:=wfT hd;simp only[qli,zw,uA] at hg;subst hg;have hlen:=qgj t;unfold q39;generalize hvs:q8x t=vs at *;rw[q7a,q9];refine⟨by simp only[gnZ,gnT,z4,qy,z5,qq,z6,z7,qw,z3,z0,qv,qx,qz,qt,qu,qr,qur],?_⟩;rw[j7];refine⟨fun st=>∃k:Nat,k≤vs.length∧st=[.r (((vs.take k).map q2z).map eT),.i k],fun st=>vs.length - (st.getD 1 .u).int.toNat,⟨0,uL _,rfl⟩,?_⟩;rintro st - ⟨k,hk,rfl⟩;rw[qd];refine⟨fun hlt=>?_,fun hlt=>?_⟩
 ·simp only[gnZ,gnT,z4,qy,z5,qq,z6,z7,qw,z3,z0,qv,qx,qz,qt,qu,qr,qur,hvs,qa4] at hlt;have hkl:k<vs.length:=by omega
  simp only[gnZ,gnT,z4,qy,z5,qq,z6,z7,qw,z3,z0,qv,qx,qz,qt,qu,qr,qur,hvs,qa4,qx3 hkl,gNT,uO];refine⟨⟨by omega,by omega⟩,by omega,⟨by omega,by omega⟩,?_⟩;rw[q1n,if_pos rfl];refine⟨⟨k+1,by omega,?_⟩,?_⟩
  ·rw[q0j hkl,uC,uC];rfl
  ·simp[D.int];omega
 ·simp only[gnZ,gnT,z4,qy,z5,qq,z6,z7,qw,z3,z0,qv,qx,qz,qt,qu,qr,qur,hvs,qa4] at hlt⊢;have:k=vs.length:=by omega
  subst this;rw[uI]
theorem qcs:FOk jl (gTT q29):=qn3 q9s fun ds outs hw hg=>by
 obtain⟨d,r,rfl,hd,rfl⟩:=hw;obtain⟨t,rfl,ht⟩:=wfT hd;simp only[gTT,zw,uA] at hg;subst hg;rw[q6g,q9,qd];refine⟨by simp only[gnZ,gnT,z4,qy,z5,qq,z6,z7,qw,z3,z0,qv,qx,qz,qt,qu,qr,qe8],fun h=>?_,fun h=>?_⟩
 ·simp only[gnZ,gnT,z4,qy,z5,qq,z6,z7,qw,z3,z0,qv,qx,qz,qt,qu,qr,qe8] at h;unfold q29;rw[if_pos h];simp only[gnZ,gnT,z4,qy,z5,qq,z6,z7,qw,z3,z0,qv,qx,qz,qt,qu,qr,qe8]
 ·simp only[gnZ,gnT,z4,qy,z5,qq,z6,z7,qw,z3,z0,qv,qx,qz,qt,qu,qr,qe8] at h;unfold q29;rw[if_neg (by rw[h];decide)];simp only[gnZ,gnT,z4,qy,z5,qq,z6,z7,qw,z3,z0,qv,qx,qz,qt,qu,qr,qe8,q6k];rfl
theorem qog:FOk q0o (gTb z3m):=qne fun ds outs hw hg=>by
 obtain⟨d,r,rfl,hd,rfl⟩:=hw;obtain⟨t,rfl,ht⟩:=wfT hd;simp only[gTb,zw,uA] at hg;subst hg;have hpos:t.s≠⟨#[]⟩→0<(t.s.size:Int):=fun h=>by
  have:t.s.size≠0:=fun e=>h (by
   cases hs:t.s with
   |mk data=>
    rw[hs] at e;have:data= #[]:=Array.eq_empty_of_size_eq_zero e;rw[this])
  omega
 unfold z3m z7k;simp only[q6i,gnZ,gnT,z4,qy,z5,qq,z6,z7,qw,z3,z0,qv,qx,qz,qt,qu,qr,qh];refine⟨fun h=>?_,fun h=>?_⟩
 ·rw[if_pos h]
 rw[if_neg h];have hp:=hpos h;refine⟨fun h1=>?_,fun h1=>?_⟩
 ·rw[if_pos h1]
 rw[if_neg h1];have yes:∀(P:Prop)[Decidable P](a b:Bool),P→[D.b a]=[D.b (if P then a else b)]:=fun P _ a b h=>by rw[if_pos h]
 have no:∀(P:Prop)[Decidable P](a b:Bool),¬P→[D.b b]=[D.b (if P then a else b)]:=fun P _ a b h=>by rw[if_neg h]
 refine⟨fun h2=>⟨fun _=>yes _ _ _ (.inl h2),fun q=>absurd h2 q⟩,fun h2=>⟨fun h3=>⟨fun _=>yes _ _ _ (.inr (.inl h3)),fun q=>absurd h3 q⟩,fun h3=>⟨fun h4=>⟨fun _=>yes _ _ _ (.inr (.inr (.inl h4))),fun q=>absurd h4 q⟩,fun h4=>⟨fun h5=>yes _ _ _ (.inr (.inr (.inr h5))),fun h5=>⟨hp,no _ _ _ fun q=>?_⟩⟩⟩⟩⟩;rcases q with q|q|q|q
 ·exact h2 q
 ·exact h3 q
 ·exact h4 q
 ·exact h5 q
def q95(v a:Nat)(x:X24):Bool:=decide (-4611686018427387904≤x.nv)&&decide (x.nv+v≤4611686018427387904)&&decide (-4611686018427387904≤x.na)&&decide (x.na+a≤4611686018427387904)&&decide (x.aux.length+a≤1000000000000)&&decide (v≤100000000000)
theorem q2p{v a:Nat}{x:X24}:q95 v a x=true↔-4611686018427387904≤x.nv∧x.nv+v≤4611686018427387904∧-4611686018427387904≤x.na∧x.na+a≤4611686018427387904∧x.aux.length+a≤1000000000000∧v≤100000000000:=by
 simp only[q95,gnB,gnD];constructor
 ·rintro⟨⟨⟨⟨⟨h1,h2⟩,h3⟩,h4⟩,h5⟩,h6⟩;exact⟨h1,h2,h3,h4,h5,h6⟩
 ·rintro⟨h1,h2,h3,h4,h5,h6⟩;exact⟨⟨⟨⟨⟨h1,h2⟩,h3⟩,h4⟩,h5⟩,h6⟩
theorem q1a{v a v1 a1 v2 a2:Nat}{x y:X24}(h:q95 v a x=true)(g:Grw x y v1 a1)(hv:v1+v2≤v)(ha:a1+a2≤a):q95 v2 a2 y=true:=by
 rw[q2p] at h⊢;obtain⟨g1,g2,g3,g4,g5,g6⟩:=g;obtain⟨h1,h2,h3,h4,h5,h6⟩:=h;exact⟨by omega,by omega,by omega,by omega,by omega,by omega⟩
theorem qpj{v a:Nat}{x:X24}(h:q95 v (a+1) x=true):q95 v a x.pred=true:=by
 rw[q2p] at h⊢;obtain⟨h1,h2,h3,h4,h5,h6⟩:=h;have e:x.pred.aux.length=x.aux.length+1:=by simp[X24.pred]
 have e2:x.pred.nv=x.nv:=rfl;have e3:x.pred.na=x.na+1:=rfl;exact⟨by omega,by omega,by omega,by omega,by omega,by omega⟩
def mG(ds:List D):Nat:=rho (dT (ds.getD 1 .u))
def gGo:List D→Option (List D)
 |[x,g,c]=>if q95 (2 * rho (dT g)) (rho (dT g)) (dX x) then some [.r ((q05 (dX x) (dT g) c.int).1.map eFG),eX (q05 (dX x) (dT g) c.int).2] else none
 |_=>none
theorem qcw{N:Nat}{x:X24}{g:Te}(c:Int)(h1:rho g<N)(h2:q95 (2 * rho g) (rho g) x=true):q01 mG N gGo [eX x,eT g,.i c]=some [.r ((q05 x g c).1.map eFG),eX (q05 x g c).2]:=by
 simp only[q01,mG,gGo,uD,uE,zw,yi,qe,if_pos h1,if_pos h2]
def z6g(N:Nat):List D→Option (List D)
 |[x,g]=>if rho (dT g)<N∧q95 (1+2 * rho (dT g)) (rho (dT g)) (dX x)=true then some [.r ((q4w q05 (dX x) (dT g)).1.map eFG),eX (q4w q05 (dX x) (dT g)).2] else none
 |_=>none
theorem z2v{N:Nat}{x:X24}{g:Te}(h1:rho g<N)(h2:q95 (1+2 * rho g) (rho g) x=true):z6g N [eX x,eT g]=some [.r ((q4w q05 x g).1.map eFG),eX (q4w q05 x g).2]:=by
 simp only[z6g,zw,yi,if_pos (show rho g<N∧q95 (1+2 * rho g) (rho g) x=true from⟨h1,h2⟩)]
theorem eOp(k v:Int):gOp [.i k,.i v]=some [eFG (opG k v)]:=rfl
theorem qfh:FOk ze fun _=>none:=FOk.none q6t
theorem qbu:FOk zd fun _=>none:=FOk.none q68
theorem qcy{N:Nat}(ih:FOk ql (q01 mG N gGo)):FOk zn (z6g N):=q8b qfh q7s ih fun ds outs hw hg=>by
 obtain⟨d,r,rfl,hd,e,r',rfl,he,rfl⟩:=hw;obtain⟨x,rfl,hx⟩:=wfX hd;obtain⟨t,rfl,ht⟩:=wfT he;simp only[z6g,zw,yi,uB,uA] at hg;obtain⟨⟨h1,h2⟩,rfl⟩:=hg;have hp:=q2p.1 h2;have hc:=qcw (x:=x.var) x.nv h1 (q1a h2 (Grw.var x) (by omega) (by omega));have hb:=(q06 t x.var x.nv).2;simp only[q11,gnZ,gnT,z4,qy,z5,qq,z6,z7,qw,z3,z0,qv,qx,qz,qt,qu,qr,yi,yy,j6,yz,j3,j4,zh,zx,z9,zi,eOp,hc];refine⟨⟨by omega,by omega⟩,by omega,by simp only[uN,uF];omega,?_⟩;simp[q4w,q2e]
def eGs(l:List FG):D:=.r (l.map eFG)
theorem z9q(x:X24):D.a ((eX x.var).fs.set 0 (D.a ((eN (x.nv+1) x.var.na).fs.set 0 (D.i (x.nv+1+1)))))=eX x.var.var:=rfl
def qdv(ok:Te→Bool)(N:Nat)(f:X24→Te→Int→List (List FG)×X24):List D→Option (List D)
 |[x,g,c]=>if ok (dT g)=true∧rho (dT g)≤N∧q95 (2 * rho (dT g)) (rho (dT g) - 1) (dX x)=true then some [.r ((f (dX x) (dT g) c.int).1.map eGs),eX (f (dX x) (dT g) c.int).2] else none
 |_=>none
theorem z3n{ok:Te→Bool}{N:Nat}{f:X24→Te→Int→List (List FG)×X24}{x:X24}{g:Te}(c:Int)(h0:ok g=true)(h1:rho g≤N)(h2:q95 (2 * rho g) (rho g - 1) x=true):qdv ok N f [eX x,eT g,.i c]=some [.r ((f x g c).1.map eGs),eX (f x g c).2]:=by
 simp only[qdv,zw,yi,qe,if_pos (show ok g=true∧rho g≤N∧q95 (2 * rho g) (rho g - 1) x=true from⟨h0,h1,h2⟩)]
theorem qcv{t:Te}{k:Nat}(h:k<t.l.length):(D.r (t.l.map eT)).get (k:Int)=eT (ag t k):=q12 h
theorem qsr{N:Nat}(ih:FOk ql (q01 mG N gGo)):FOk y9 (qdv (fun g=>isT g q1g 2) N (qel q05)):=q97 (qcy ih) ih fun ds outs hw hg=>by
 obtain⟨d,r,rfl,hd,e,r',rfl,he,f,r2,rfl,hf,rfl⟩:=hw;obtain⟨x,rfl,hx⟩:=wfX hd;obtain⟨g,rfl,ht⟩:=wfT he;obtain⟨c,rfl,-⟩:=wfI hf;simp only[qdv,zw,yi,qe,uB,uA] at hg;obtain⟨⟨h0,h1,h2⟩,rfl⟩:=hg;obtain⟨hr,hl⟩:=qag (.inr (.inr h0));have hp:=q2p.1 h2;have p0:=q18 (ag g 0);have p1:=q18 (ag g 1);have e0:(D.r (g.l.map eT)).get 0=eT (ag g 0):=qcv (k:=0) (by omega);have e1:(D.r (g.l.map eT)).get 1=eT (ag g 1):=qcv (k:=1) (by omega);have hb0:=qfu (q06 (ag g 0)) x;have c0:=z2v (N:=N) (x:=x) (g:=ag g 0) (by omega) (q1a h2 (Grw.refl x) (by omega) (by omega));have c1:=qcw (N:=N) (x:=(q4w q05 x (ag g 0)).2) (g:=ag g 1) c (by omega) (q1a h2 hb0.1 (by omega) (by omega));have hb1:=(q06 (ag g 1) (q4w q05 x (ag g 0)).2 c).2;have hb2:=hb0.2;have hl2:(g.l.length:Int)=2:=by omega
 simp only[q15,gnZ,gnT,z4,qy,z5,qq,z6,z7,qw,z3,z0,qv,qx,qz,qt,qu,qr,yi,yy,j6,yz,j3,j4,zh,zx,z9,zi,e0,e1,c0,c1,hl2];refine⟨by decide,⟨by decide,by omega⟩,?_⟩;simp[qel,qzn,q2e,eGs]
theorem quv{N:Nat}(ih:FOk ql (q01 mG N gGo)):FOk yd (qdv (fun g=>isT g qj8 1) N (fun x g _=>qsh q05 x g)):=q9h qfh q7s qcs ih fun ds outs hw hg=>by
 obtain⟨d,r,rfl,hd,e,r',rfl,he,f,r2,rfl,hf,rfl⟩:=hw;obtain⟨x,rfl,hx⟩:=wfX hd;obtain⟨g,rfl,ht⟩:=wfT he;obtain⟨c,rfl,-⟩:=wfI hf;simp only[qdv,zw,yi,qe,uB,uA] at hg;obtain⟨⟨h0,h1,h2⟩,rfl⟩:=hg;obtain⟨hr,hl⟩:=qpr (.inl h0);have hi:=q6z (ag g 0);have hp:=q2p.1 h2;have e0:(D.r (g.l.map eT)).get 0=eT (ag g 0):=qcv (k:=0) (by omega);have ei:gTT q29 [eT (ag g 0)]=some [eT (q29 (ag g 0))]:=qxl _ _;have ev:x.var.nv=x.nv+1:=rfl;have c0:=qcw (N:=N) (x:=x.var.var) (g:=q29 (ag g 0)) (x.nv+1) (by omega) (q1a h2 ((Grw.var x).trans (Grw.var _)) (by omega) (by omega));have hb0:=(q06 (q29 (ag g 0)) x.var.var (x.nv+1)).2;have hl2:(g.l.length:Int)=1:=by omega
 simp only[q1f,gnZ,gnT,z4,qy,z5,qq,z6,z7,qw,z3,z0,qv,qx,qz,qt,qu,qr,yi,yy,j6,yz,j3,j4,zh,zx,z9,zi,e0,ei,eOp,ev,z9q,c0,hl2];refine⟨⟨by omega,by omega⟩,⟨by omega,by omega⟩,⟨by decide,by omega⟩,by simp only[uN,uF];omega,?_⟩;simp[qsh,noX,q2e,eGs]
theorem qs8{N:Nat}(ih:FOk ql (q01 mG N gGo)):FOk yb (qdv (fun g=>isT g qb4 1) N (fun x g _=>qeo q05 x g)):=q9a qcs (qcy ih) fun ds outs hw hg=>by
 obtain⟨d,r,rfl,hd,e,r',rfl,he,f,r2,rfl,hf,rfl⟩:=hw;obtain⟨x,rfl,hx⟩:=wfX hd;obtain⟨g,rfl,ht⟩:=wfT he;obtain⟨c,rfl,-⟩:=wfI hf;simp only[qdv,zw,yi,qe,uB,uA] at hg;obtain⟨⟨h0,h1,h2⟩,rfl⟩:=hg;obtain⟨hr,hl⟩:=qpr (.inr h0);have hi:=q6z (ag g 0);have hp:=q2p.1 h2;have e0:(D.r (g.l.map eT)).get 0=eT (ag g 0):=qcv (k:=0) (by omega);have ei:gTT q29 [eT (ag g 0)]=some [eT (q29 (ag g 0))]:=qxl _ _;have c0:=z2v (N:=N) (x:=x) (g:=q29 (ag g 0)) (by omega) (q1a h2 (Grw.refl x) (by omega) (by omega));have hl2:(g.l.length:Int)=1:=by omega
 simp only[q14,gnZ,gnT,z4,qy,z5,qq,z6,z7,qw,z3,z0,qv,qx,qz,qt,qu,qr,yi,yy,j6,yz,j3,j4,zh,zx,z9,zi,e0,ei,c0,hl2];refine⟨by decide,?_⟩;simp[qeo,qzn,eGs]
theorem qmu{N:Nat}(ih:FOk ql (q01 mG N gGo)):FOk y5 (qdv (fun g=>isT g q5y 2) N (q3d q05)):=q7p ql5 qfh q7s ih fun ds outs hw hg=>by
 obtain⟨d,r,rfl,hd,e,r',rfl,he,f,r2,rfl,hf,rfl⟩:=hw;obtain⟨x,rfl,hx⟩:=wfX hd;obtain⟨g,rfl,ht⟩:=wfT he;obtain⟨c,rfl,-⟩:=wfI hf;simp only[qdv,zw,yi,qe,uB,uA] at hg;obtain⟨⟨h0,h1,h2⟩,rfl⟩:=hg;obtain⟨hr,hl⟩:=qag (.inr (.inl h0));have hp:=q2p.1 h2;have p0:=q18 (ag g 0);have p1:=q18 (ag g 1);have e0:(D.r (g.l.map eT)).get 0=eT (ag g 0):=qcv (k:=0) (by omega);have e1:(D.r (g.l.map eT)).get 1=eT (ag g 1):=qcv (k:=1) (by omega);have hl2:(g.l.length:Int)=2:=by omega
 have es:gIs [eT (ag g 0),.s ⟨#[45,62]⟩,.i 2]=some [.b (isT (ag g 0) q1g 2)]:=by
  simp only[gIs,zw,qf,qe,q1g]
 rw[q0n];simp only[q9,qd];simp only[gnZ,gnT,z4,qy,z5,qq,z6,z7,qw,z3,z0,qv,qx,qz,qt,qu,qr,yi,yy,j6,yz,j3,j4,zh,zx,z9,zi,e0,e1,es,hl2];refine⟨by decide,fun ha=>?_,fun ha=>?_⟩
 ·obtain⟨hr2,hla⟩:=qag (.inr (.inr ha));have q0:=q18 (ag (ag g 0) 0);have q1:=q18 (ag (ag g 0) 1);have d0:(D.r ((ag g 0).l.map eT)).get 0=eT (ag (ag g 0) 0):=qcv (k:=0) (by omega);have d1:(D.r ((ag g 0).l.map eT)).get 1=eT (ag (ag g 0) 1):=qcv (k:=1) (by omega);have hla2:((ag g 0).l.length:Int)=2:=by omega
  have g2:Grw x x.var.var 2 0:=(Grw.var x).trans (Grw.var _);have b0:=q06 (ag (ag g 0) 0) x.var.var x.var.nv;have c0:=qcw (N:=N) (x:=x.var.var) (g:=ag (ag g 0) 0) x.var.nv (by omega) (q1a h2 g2 (by omega) (by omega));generalize hy:q05 x.var.var (ag (ag g 0) 0) x.var.nv=r1 at *;have b1:=q06 (ag (ag g 0) 1) r1.2 c;have c1:=qcw (N:=N) (x:=r1.2) (g:=ag (ag g 0) 1) c (by omega) (q1a h2 (g2.trans b0.1) (by omega) (by omega));generalize hy1:q05 r1.2 (ag (ag g 0) 1) c=r2 at *;have b2:=q06 (ag g 1) r2.2 c;have c2:=qcw (N:=N) (x:=r2.2) (g:=ag g 1) c (by omega) (q1a h2 ((g2.trans b0.1).trans b1.1) (by omega) (by omega));have l0:=b0.2;have l1:=b1.2;simp only[eOp,d0,d1,hla2,c0,c1,c2,uG,uH,uD,uE,qo,uF,true_and];refine⟨⟨by omega,by omega⟩,⟨by show _≤x.nv+1+1;omega,by show x.nv+1+1≤_;omega⟩,⟨by decide,by omega⟩,by simp only[uN,uF];omega,⟨by decide,?_⟩,by decide,?_⟩
  ·simp only[uN,uU,uF,uZ];omega
  ·have ev:x.var.nv=x.nv+1:=rfl;rw[ev] at hy;unfold q3d;rw[if_pos ha];simp only[z0x,q2e,qzv,hy,hy1,eGs,ev,uK,uM,uC,List.cons_append,List.nil_append,List.append_assoc]
 ·have b0:=q06 (ag g 0) x c;have c0:=qcw (N:=N) (x:=x) (g:=ag g 0) c (by omega) (q1a h2 (Grw.refl x) (by omega) (by omega));generalize hy:q05 x (ag g 0) c=r1 at *;have c1:=qcw (N:=N) (x:=r1.2) (g:=ag g 1) c (by omega) (q1a h2 b0.1 (by omega) (by omega));simp only[c0,c1,uG,uH,uD,uE,qo,uF,true_and,and_true];refine⟨by decide,?_⟩;unfold q3d;rw[if_neg (by rw[ha];decide)];simp only[qzv,hy,eGs,uK,uM]
def qu5(ok:Te→Bool)(N:Nat)(f:X24→Te→Int→List (List FG)×X24):List D→Option (List D)
 |[x,g,c]=>if ok (dT g)=true∧rho (dT g)≤N∧q95 (2 * rho (dT g)) (rho (dT g)) (dX x)=true then some [eFG (q8t (fun y=>f y (dT g) c.int) (dX x) (dT g) c.int).1,eX (q8t (fun y=>f y (dT g) c.int) (dX x) (dT g) c.int).2] else none
 |_=>none
theorem qqn{ok:Te→Bool}{N:Nat}{f:X24→Te→Int→List (List FG)×X24}{x:X24}{g:Te}(c:Int)(h0:ok g=true)(h1:rho g≤N)(h2:q95 (2 * rho g) (rho g) x=true):qu5 ok N f [eX x,eT g,.i c]=some [eFG (q8t (fun y=>f y g c) x g c).1,eX (q8t (fun y=>f y g c) x g c).2]:=by
 simp only[qu5,zw,yi,qe,if_pos (show ok g=true∧rho g≤N∧q95 (2 * rho g) (rho g) x=true from⟨h0,h1,h2⟩)]
def z82(xa:X):Tree:=(.loop 9 3 [(.lit (.r [])),(.lit (.i 0))] (.br (.lt (.tok 4) (.len (.call 0 0 [(.set (.set (.tok 0) 0 (.set (.fld (.tok 0) 0) 1 (.add (.fld (.fld (.tok 0) 0) 1) (.lit (.i 1))))) 2 (.app (.fld (.set (.tok 0) 0 (.set (.fld (.tok 0) 0) 1 (.add (.fld (.fld (.tok 0) 0) 1) (.lit (.i 1))))) 2) (.row [(.lit (.r []))]))),(.tok 1),(.tok 2)]))) (.need [(.le (.lit (.i 0)) (.tok 4)),(.lt (.tok 4) (.len (.call 0 0 [(.set (.set (.tok 0) 0 (.set (.fld (.tok 0) 0) 1 (.add (.fld (.fld (.tok 0) 0) 1) (.lit (.i 1))))) 2 (.app (.fld (.set (.tok 0) 0 (.set (.fld (.tok 0) 0) 1 (.add (.fld (.fld (.tok 0) 0) 1) (.lit (.i 1))))) 2) (.row [(.lit (.r []))]))),(.tok 1),(.tok 2)])))] (.need [(.le (.add (.len (.tok 3)) (.lit (.i 1))) (.lit (.i 1759218604390))),(.ok 5 [xa])] (.need [(.rng .i64 (.add (.tok 4) (.lit (.i 1))))] (.back 9 [(.app (.tok 3) (.row [(.mk [(.set (.set (.lit (.a [(.s ⟨#[]⟩),(.i 0),(.i 0)])) 1 (.len xa)) 2 (.fld (.fld (.tok 0) 0) 1)),(.call 5 0 [xa]),(.get (.call 0 0 [(.set (.set (.tok 0) 0 (.set (.fld (.tok 0) 0) 1 (.add (.fld (.fld (.tok 0) 0) 1) (.lit (.i 1))))) 2 (.app (.fld (.set (.tok 0) 0 (.set (.fld (.tok 0) 0) 1 (.add (.fld (.fld (.tok 0) 0) 1) (.lit (.i 1))))) 2) (.row [(.lit (.r []))]))),(.tok 1),(.tok 2)]) (.tok 4))])])),(.add (.tok 4) (.lit (.i 1)))])))) (.need [(.le (.lit (.i 0)) (.len (.fld (.set (.tok 0) 0 (.set (.fld (.tok 0) 0) 1 (.add (.fld (.fld (.tok 0) 0) 1) (.lit (.i 1))))) 2))),(.lt (.len (.fld (.set (.tok 0) 0 (.set (.fld (.tok 0) 0) 1 (.add (.fld (.fld (.tok 0) 0) 1) (.lit (.i 1))))) 2)) (.len (.fld (.call 0 1 [(.set (.set (.tok 0) 0 (.set (.fld (.tok 0) 0) 1 (.add (.fld (.fld (.tok 0) 0) 1) (.lit (.i 1))))) 2 (.app (.fld (.set (.tok 0) 0 (.set (.fld (.tok 0) 0) 1 (.add (.fld (.fld (.tok 0) 0) 1) (.lit (.i 1))))) 2) (.row [(.lit (.r []))]))),(.tok 1),(.tok 2)]) 2)))] (.need [(.ok 6 [(.set (.set (.lit (.a [(.s ⟨#[]⟩),(.i 0),(.i 0)])) 1 (.len xa)) 2 (.fld (.fld (.tok 0) 0) 1)),xa])] (.leaf [(.call 6 0 [(.set (.set (.lit (.a [(.s ⟨#[]⟩),(.i 0),(.i 0)])) 1 (.len xa)) 2 (.fld (.fld (.tok 0) 0) 1)),xa]),(.set (.call 0 1 [(.set (.set (.tok 0) 0 (.set (.fld (.tok 0) 0) 1 (.add (.fld (.fld (.tok 0) 0) 1) (.lit (.i 1))))) 2 (.app (.fld (.set (.tok 0) 0 (.set (.fld (.tok 0) 0) 1 (.add (.fld (.fld (.tok 0) 0) 1) (.lit (.i 1))))) 2) (.row [(.lit (.r []))]))),(.tok 1),(.tok 2)]) 2 (.put (.fld (.call 0 1 [(.set (.set (.tok 0) 0 (.set (.fld (.tok 0) 0) 1 (.add (.fld (.fld (.tok 0) 0) 1) (.lit (.i 1))))) 2 (.app (.fld (.set (.tok 0) 0 (.set (.fld (.tok 0) 0) 1 (.add (.fld (.fld (.tok 0) 0) 1) (.lit (.i 1))))) 2) (.row [(.lit (.r []))]))),(.tok 1),(.tok 2)]) 2) (.len (.fld (.set (.tok 0) 0 (.set (.fld (.tok 0) 0) 1 (.add (.fld (.fld (.tok 0) 0) 1) (.lit (.i 1))))) 2)) (.tok 3)))])))))
theorem zb5(l:List Te):gLL id [.r (l.map eT)]=some [.r (l.map eT)]:=by simp only[gLL,qo,q33,id]
theorem qk9(p:Pr)(l:List Te):q7i [ePr p,.r (l.map eT)]=some [eFG (qlb p l)]:=by simp only[q7i,qo,q33,qt]
section
variable{ok:Te→Bool}{N:Nat}{f:X24→Te→Int→List (List FG)×X24}{t0 t1 t2 t3 t4 t5 t6:Ct}{x:X24}{g:Te}{c:Int}
theorem qv1(hf:∀x g c,ok g=true→Grw x (f x g c).2 (2 * rho g) (rho g - 1)∧(f x g c).1.length≤2)(h0:ok g=true)(h1:rho g≤N)(h2:q95 (2 * rho g) (rho g) x=true){xa:X}
  (hxa:∀s0 s1,xa.ev (evl (qm [(t0,qdv ok N f),(t1,qli q39),(t2,gTb q6m),(t3,gNT q2z),(t4,fun _=>none),(t5,gLL id),(t6,q7i)]) [eX x,eT g,.i c,s0,s1])=.r ((qbn g c).map eT))
  (hxb:xa.ev (evl (qm [(t0,qdv ok N f),(t1,qli q39),(t2,gTb q6m),(t3,gNT q2z),(t4,fun _=>none),(t5,gLL id),(t6,q7i)]) [eX x,eT g,.i c])=.r ((qbn g c).map eT)):
  (z82 xa).go (qm [(t0,qdv ok N f),(t1,qli q39),(t2,gTb q6m),(t3,gNT q2z),(t4,fun _=>none),(t5,gLL id),(t6,q7i)]) (fun o=>o=[eFG (q8t (fun y=>f y g c) x g c).1,eX (q8t (fun y=>f y g c) x g c).2]) [eX x,eT g,.i c] fun _ _=>False:=by
 simp only[evl] at hxa hxb;have hp:=q2p.1 h2;have hr:=q18 g;have hb:=z3n (f:=f) (ok:=ok) (N:=N) (x:=x.pred) c h0 h1 (qpj (by rw[show rho g - 1+1=rho g by omega];exact h2));obtain⟨hg,hl⟩:=hf x.pred g c h0;have ha0:=hg.a0;have e:x.pred.aux.length=x.aux.length+1:=by simp[X24.pred]
 have e9:x.incA.aux.length=x.aux.length:=rfl;unfold q8t
 show(z82 xa).go _ (fun o=>o=[eFG (qlb (qx6 g c x) (qbn g c)),eX ((f x.pred g c).2.put x.aux.length (qcr g c x (f x.pred g c).1))]) _ _
 generalize f x.pred g c=R at *;unfold z82;rw[j7];refine⟨fun st=>∃k:Nat,k≤R.1.length∧st=[.r ((qcr g c x (R.1.take k)).map eFC),.i k],fun st=>R.1.length - (st.getD 1 .u).int.toNat,⟨0,uL _,rfl⟩,?_⟩;rintro st - ⟨k,hk,rfl⟩;rw[qd];refine⟨fun hlt=>?_,fun hlt=>?_⟩
 ·simp only[gnZ,gnT,z4,qy,z5,qq,z6,z7,qw,z3,z0,qv,qx,qz,qt,qu,qr,yi,yy,j6,yz,j3,j4,zh,zx,z9,zi,hb] at hlt;have hkl:k<R.1.length:=by omega
  simp only[gnZ,gnT,z4,qy,z5,qq,z6,z7,qw,z3,z0,qv,qx,qz,qt,qu,qr,yi,yy,j6,yz,j3,j4,zh,zx,z9,zi,hb,hxa,zb5,qb6 eGs hkl];refine⟨⟨by omega,by omega⟩,?_,⟨by omega,by omega⟩,?_⟩
  ·simp only[qcr,uF,uO];omega
  rw[q1n,if_pos rfl];refine⟨⟨k+1,by omega,?_⟩,?_⟩
  ·rw[q0j hkl]
   show _=[D.r ((qcr g c x (R.1.take k++[R.1.getD k default])).map eFC),_]
   simp only[qcr,uC];rfl
  ·simp[D.int];omega
 ·simp only[gnZ,gnT,z4,qy,z5,qq,z6,z7,qw,z3,z0,qv,qx,qz,qt,qu,qr,yi,yy,j6,yz,j3,j4,zh,zx,z9,zi,hb] at hlt;have:k=R.1.length:=by omega
  subst this;have e3:D.a ((D.a ((ePr zPr).fs.set 1 (.i ((qbn g c).length:Nat)))).fs.set 2 (.i x.na))=ePr (qx6 g c x):=rfl;simp only[gnZ,gnT,z4,qy,z5,qq,z6,z7,qw,z3,z0,qv,qx,qz,qt,qu,qr,yi,yy,j6,yz,j3,j4,zh,zx,z9,zi,hb,hxa,e3,qk9,uI,Int.toNat_natCast,e9];exact⟨by omega,by omega⟩
theorem z59(hf:∀x g c,ok g=true→Grw x (f x g c).2 (2 * rho g) (rho g - 1)∧(f x g c).1.length≤2)(h0:ok g=true)(h1:rho g≤N)(h2:q95 (2 * rho g) (rho g) x=true):
  yq.go (qm [(t0,qdv ok N f),(t1,qli q39),(t2,gTb q6m),(t3,gNT q2z),(t4,fun _=>none),(t5,gLL id),(t6,q7i)]) (fun o=>o=[eFG (q8t (fun y=>f y g c) x g c).1,eX (q8t (fun y=>f y g c) x g c).2]) [eX x,eT g,.i c] fun _ _=>False:=by
 have hp:=q2p.1 h2;have hr:=q18 g;have hb:=z3n (f:=f) (ok:=ok) (N:=N) (x:=x.pred) c h0 h1 (qpj (by rw[show rho g - 1+1=rho g by omega];exact h2));have e1:qli q39 [eT g]=some [.r ((q39 g).map eT)]:=by simp only[qli,zw]
 have e2:gTb q6m [eT g]=some [.b (q6m g)]:=by simp only[gTb,zw]
 have e3:gNT q2z [.i c]=some [eT (q2z c)]:=rfl;have hvl:(q39 g).length≤2000:=by
  unfold q39;rw[uF];exact qgj g
 have e9:x.incA.aux.length=x.aux.length:=rfl;rw[yq];simp only[q9,qd];refine⟨by simp only[gnZ,gnT,z4,qy,z5,qq,z6,z7,qw,z3,z0,qv,qx,qz,qt,qu,qr,yi,yy,j6,yz,j3,j4,zh,zx,z9,zi,e1],by simp only[gnZ,gnT,z4,qy,z5,qq,z6,z7,qw,z3,z0,qv,qx,qz,qt,qu,qr,yi,yy,j6,yz,j3,j4,zh,zx,z9,zi,e2],fun h=>?_,fun h=>?_⟩
 ·simp only[gnZ,gnT,z4,qy,z5,qq,z6,z7,qw,z3,z0,qv,qx,qz,qt,qu,qr,yi,yy,j6,yz,j3,j4,zh,zx,z9,zi,e2] at h;refine⟨by simp only[gnZ,gnT,z4,qy,z5,qq,z6,z7,qw,z3,z0,qv,qx,qz,qt,qu,qr,yi,yy,j6,yz,j3,j4,zh,zx,z9,zi,e1,e3];omega,by simp only[gnZ,gnT,z4,qy,z5,qq,z6,z7,qw,z3,z0,qv,qx,qz,qt,qu,qr,yi,yy,j6,yz,j3,j4,zh,zx,z9,zi];omega,by simp only[gnZ,gnT,z4,qy,z5,qq,z6,z7,qw,z3,z0,qv,qx,qz,qt,qu,qr,yi,yy,j6,yz,j3,j4,zh,zx,z9,zi,e9];omega,by simp only[gnZ,gnT,z4,qy,z5,qq,z6,z7,qw,z3,z0,qv,qx,qz,qt,qu,qr,yi,yy,j6,yz,j3,j4,zh,zx,z9,zi,hb],?_⟩;refine qv1 hf h0 h1 h2 (xa:=(.app (.call 1 0 [(.tok 1)]) (.row [(.call 3 0 [(.tok 2)])]))) (fun s0 s1=>?_) ?_
  ·simp only[gnZ,gnT,z4,qy,z5,qq,z6,z7,qw,z3,z0,qv,qx,qz,qt,qu,qr,yi,yy,j6,yz,j3,j4,zh,zx,z9,zi,e1,e3,qbn,h,if_true,uC,q39,uK,uM]
  ·simp only[gnZ,gnT,z4,qy,z5,qq,z6,z7,qw,z3,z0,qv,qx,qz,qt,qu,qr,yi,yy,j6,yz,j3,j4,zh,zx,z9,zi,e1,e3,qbn,h,if_true,uC,q39,uK,uM]
 ·simp only[gnZ,gnT,z4,qy,z5,qq,z6,z7,qw,z3,z0,qv,qx,qz,qt,qu,qr,yi,yy,j6,yz,j3,j4,zh,zx,z9,zi,e2] at h;refine⟨by simp only[gnZ,gnT,z4,qy,z5,qq,z6,z7,qw,z3,z0,qv,qx,qz,qt,qu,qr,yi,yy,j6,yz,j3,j4,zh,zx,z9,zi];omega,by simp only[gnZ,gnT,z4,qy,z5,qq,z6,z7,qw,z3,z0,qv,qx,qz,qt,qu,qr,yi,yy,j6,yz,j3,j4,zh,zx,z9,zi,e9];omega,by simp only[gnZ,gnT,z4,qy,z5,qq,z6,z7,qw,z3,z0,qv,qx,qz,qt,qu,qr,yi,yy,j6,yz,j3,j4,zh,zx,z9,zi,hb],?_⟩;refine qv1 hf h0 h1 h2 (xa:=(.call 1 0 [(.tok 1)])) (fun s0 s1=>?_) ?_
  ·simp only[gnZ,gnT,z4,qy,z5,qq,z6,z7,qw,z3,z0,qv,qx,qz,qt,qu,qr,yi,yy,j6,yz,j3,j4,zh,zx,z9,zi,e1,qbn,h,gnF,if_false,kA,q39]
  ·simp only[gnZ,gnT,z4,qy,z5,qq,z6,z7,qw,z3,z0,qv,qx,qz,qt,qu,qr,yi,yy,j6,yz,j3,j4,zh,zx,z9,zi,e1,qbn,h,gnF,if_false,kA,q39]
end
theorem qk1{ok:Te→Bool}{N:Nat}{f:X24→Te→Int→List (List FG)×X24}{t0 t1 t2 t3 t4 t5 t6:Ct}(hf:∀x g c,ok g=true→Grw x (f x g c).2 (2 * rho g) (rho g - 1)∧(f x g c).1.length≤2):∀ds outs,WfA zo.ars ds→qu5 ok N f ds=some outs→yq.go (qm [(t0,qdv ok N f),(t1,qli q39),(t2,gTb q6m),(t3,gNT q2z),(t4,fun _=>none),(t5,gLL id),(t6,q7i)]) (fun o=>o=outs) ds fun _ _=>False:=fun ds outs hw hg=>by
 obtain⟨d,r,rfl,hd,e,r',rfl,he,f,r2,rfl,hf,rfl⟩:=hw;obtain⟨x,rfl,hx⟩:=wfX hd;obtain⟨g,rfl,ht⟩:=wfT he;obtain⟨c,rfl,-⟩:=wfI hf;simp only[qu5,zw,yi,qe,uB,uA] at hg;obtain⟨⟨h0,h1,h2⟩,rfl⟩:=hg;exact z59 (by assumption) h0 h1 h2
theorem qop{N:Nat}(ih:FOk ql (q01 mG N gGo)):FOk zo (qu5 (fun g=>isT g q5y 2) N (q3d q05)):=q5s (qmu ih) q46 q4c q3q qbu q19 q42 (qk1 fun x g c h=>⟨qma h (fun g' _=>q06 g') x c,by
 unfold q3d;split<;>exact kE _⟩)
theorem qoj{N:Nat}(ih:FOk ql (q01 mG N gGo)):FOk zu (qu5 (fun g=>isT g q1g 2) N (qel q05)):=q5o (qsr ih) q46 q4c q3q qbu q19 q42 (qk1 fun x g c h=>⟨qtl h (fun g' _=>q06 g') x c,by show 1≤2;omega⟩)
theorem qp7{N:Nat}(ih:FOk ql (q01 mG N gGo)):FOk zt (qu5 (fun g=>isT g qj8 1) N (fun x g _=>qsh q05 x g)):=q5q (quv ih) q46 q4c q3q qbu q19 q42 (qk1 fun x g c h=>⟨qyo h (fun g' _=>q06 g') x,by show 2≤2;omega⟩)
theorem qor{N:Nat}(ih:FOk ql (q01 mG N gGo)):FOk zs (qu5 (fun g=>isT g qb4 1) N (fun x g _=>qeo q05 x g)):=q5p (qs8 ih) q46 q4c q3q qbu q19 q42 (qk1 fun x g c h=>⟨qsz h (fun g' _=>q06 g') x,by show 1≤2;omega⟩)
theorem z9p:((D.r [D.a [D.s ⟨#[59]⟩,D.i 2,D.i 96],D.a [D.s ⟨#[45,62]⟩,D.i 2,D.i 97],D.a [D.s ⟨#[92,43]⟩,D.i 1,D.i 98],D.a [D.s ⟨#[111,110,99,101]⟩,D.i 1,D.i 99]]).get 0).fld 0=.s ⟨#[59]⟩:=rfl
theorem za2:((D.r [D.a [D.s ⟨#[59]⟩,D.i 2,D.i 96],D.a [D.s ⟨#[45,62]⟩,D.i 2,D.i 97],D.a [D.s ⟨#[92,43]⟩,D.i 1,D.i 98],D.a [D.s ⟨#[111,110,99,101]⟩,D.i 1,D.i 99]]).get 0).fld 1=.i 2:=rfl
theorem zb1:((D.r [D.a [D.s ⟨#[59]⟩,D.i 2,D.i 96],D.a [D.s ⟨#[45,62]⟩,D.i 2,D.i 97],D.a [D.s ⟨#[92,43]⟩,D.i 1,D.i 98],D.a [D.s ⟨#[111,110,99,101]⟩,D.i 1,D.i 99]]).get 1).fld 0=.s ⟨#[45,62]⟩:=rfl
theorem zar:((D.r [D.a [D.s ⟨#[59]⟩,D.i 2,D.i 96],D.a [D.s ⟨#[45,62]⟩,D.i 2,D.i 97],D.a [D.s ⟨#[92,43]⟩,D.i 1,D.i 98],D.a [D.s ⟨#[111,110,99,101]⟩,D.i 1,D.i 99]]).get 1).fld 1=.i 2:=rfl
theorem zaa:((D.r [D.a [D.s ⟨#[59]⟩,D.i 2,D.i 96],D.a [D.s ⟨#[45,62]⟩,D.i 2,D.i 97],D.a [D.s ⟨#[92,43]⟩,D.i 1,D.i 98],D.a [D.s ⟨#[111,110,99,101]⟩,D.i 1,D.i 99]]).get 2).fld 0=.s ⟨#[92,43]⟩:=rfl
theorem zas:((D.r [D.a [D.s ⟨#[59]⟩,D.i 2,D.i 96],D.a [D.s ⟨#[45,62]⟩,D.i 2,D.i 97],D.a [D.s ⟨#[92,43]⟩,D.i 1,D.i 98],D.a [D.s ⟨#[111,110,99,101]⟩,D.i 1,D.i 99]]).get 2).fld 1=.i 1:=rfl
theorem zao:((D.r [D.a [D.s ⟨#[59]⟩,D.i 2,D.i 96],D.a [D.s ⟨#[45,62]⟩,D.i 2,D.i 97],D.a [D.s ⟨#[92,43]⟩,D.i 1,D.i 98],D.a [D.s ⟨#[111,110,99,101]⟩,D.i 1,D.i 99]]).get 3).fld 0=.s ⟨#[111,110,99,101]⟩:=rfl
theorem za1:((D.r [D.a [D.s ⟨#[59]⟩,D.i 2,D.i 96],D.a [D.s ⟨#[45,62]⟩,D.i 2,D.i 97],D.a [D.s ⟨#[92,43]⟩,D.i 1,D.i 98],D.a [D.s ⟨#[111,110,99,101]⟩,D.i 1,D.i 99]]).get 3).fld 1=.i 1:=rfl
theorem qrt:FOk ql gGo:=q2d (m:=mG) q2n fun N ih=>q93 (qop ih) (qoj ih) (qp7 ih) (qor ih) ql5 q7s ih q42 qog q3q fun ds outs hw hg=>by
 obtain⟨d,r,rfl,hd,e,r',rfl,he,f,r2,rfl,hf,rfl⟩:=hw;obtain⟨x,rfl,hx⟩:=wfX hd;obtain⟨g,rfl,ht⟩:=wfT he;obtain⟨c,rfl,-⟩:=wfI hf;simp only[q01,mG,gGo,uD,uE,zw,yi,qe,uB,uA] at hg;obtain⟨h1,h2,rfl⟩:=hg;have hp:=q2p.1 h2;have hr:=q18 g;rw[qvr];have eis:∀(s:ByteArray)(n:Int),gIs [eT g,.s s,.i n]=some [.b (isT g s n)]:=fun s n=>by
  simp only[gIs,zw,qf,qe]
 have ebx:gTb z3m [eT g]=some [.b (z3m g)]:=by simp only[gTb,zw]
 have ent:gNT q2z [.i x.nv]=some [eT (q2z x.nv)]:=rfl;have hN:rho g≤N:=by omega
 rw[q13];simp only[q9,qd,qa];simp only[gnZ,gnT,z4,qy,z5,qq,z6,z7,qw,z3,z0,qv,qx,qz,qt,qu,qr,yi,yy,j6,yz,j3,j4,zh,zx,z9,zi,z9p,za2,zb1,zar,zaa,zas,zao,za1,eis,eOp];refine⟨fun h=>?_,fun n1=>⟨fun h=>?_,fun n2=>⟨fun h=>?_,fun n3=>⟨fun h=>?_,fun n4=>⟨fun h=>?_,fun n5=>⟨by decide,fun h=>?_,fun n6=>⟨by decide,fun h=>?_,fun n7=>⟨by decide,fun h=>?_,fun n8=>⟨by decide,?_⟩⟩⟩⟩⟩⟩⟩⟩⟩
 ·simp only[q6n,show isT g qco 0=true from h,if_true,gnF,if_false];rfl
 ·simp only[q6n,show isT g qco 0=false from n1,show isT g qf3 0=true from h,if_true,gnF,if_false];rfl
 ·simp only[q6n,show isT g qco 0=false from n1,show isT g qf3 0=false from n2,show isT g quw 0=true from h,if_true,gnF,if_false];rfl
 ·obtain⟨hq,hl⟩:=qag (.inl h);have p0:=q18 (ag g 0);have p1:=q18 (ag g 1);have e0:(D.r (g.l.map eT)).get 0=eT (ag g 0):=qcv (k:=0) (by omega);have e1:(D.r (g.l.map eT)).get 1=eT (ag g 1):=qcv (k:=1) (by omega);have hl2:(g.l.length:Int)=2:=by omega
  have b0:=q06 (ag g 0) x c;have c0:=qcw (N:=N) (x:=x) (g:=ag g 0) c (by omega) (q1a h2 (Grw.refl x) (by omega) (by omega));simp only[q6n,show isT g qco 0=false from n1,show isT g qf3 0=false from n2,show isT g quw 0=false from n3,show isT g q51 2=true from h,if_true,gnF,if_false];generalize hy:q05 x (ag g 0) c=r1 at *;have b1:=q06 (ag g 1) r1.2 c;have c1:=qcw (N:=N) (x:=r1.2) (g:=ag g 1) c (by omega) (q1a h2 b0.1 (by omega) (by omega));have l0:=b0.2;have l1:=b1.2;simp only[e0,e1,hl2,c0,c1,uG,uH,uD,uE,qo,uF,true_and,and_true];refine⟨by decide,⟨by decide,by omega⟩,?_⟩;simp only[q2e,uC]
 ·have e:=qqn (ok:=fun g=>isT g q5y 2) (N:=N) (f:=q3d q05) (x:=x) c h hN h2;simp only[e,q6n,show isT g qco 0=false from n1,show isT g qf3 0=false from n2,show isT g quw 0=false from n3,show isT g q51 2=false from n4,show isT g q5y 2=true from h,if_true,gnF,if_false,onR,uG,uH,uD,uE,true_and,uK,uM]
 ·have e:=qqn (ok:=fun g=>isT g q1g 2) (N:=N) (f:=qel q05) (x:=x) c h hN h2;simp only[e,q6n,show isT g qco 0=false from n1,show isT g qf3 0=false from n2,show isT g quw 0=false from n3,show isT g q51 2=false from n4,show isT g q5y 2=false from n5,show isT g q1g 2=true from h,if_true,gnF,if_false,onR,uG,uH,uD,uE,true_and,uK,uM]
 ·have e:=qqn (ok:=fun g=>isT g qj8 1) (N:=N) (f:=fun x g _=>qsh q05 x g) (x:=x) c h hN h2;simp only[e,q6n,show isT g qco 0=false from n1,show isT g qf3 0=false from n2,show isT g quw 0=false from n3,show isT g q51 2=false from n4,show isT g q5y 2=false from n5,show isT g q1g 2=false from n6,show isT g qj8 1=true from h,if_true,gnF,if_false,onR,uG,uH,uD,uE,true_and,uK,uM]
 ·have e:=qqn (ok:=fun g=>isT g qb4 1) (N:=N) (f:=fun x g _=>qeo q05 x g) (x:=x) c h hN h2;simp only[e,q6n,show isT g qco 0=false from n1,show isT g qf3 0=false from n2,show isT g quw 0=false from n3,show isT g q51 2=false from n4,show isT g q5y 2=false from n5,show isT g q1g 2=false from n6,show isT g qj8 1=false from n7,show isT g qb4 1=true from h,if_true,gnF,if_false,onR,uG,uH,uD,uE,true_and,uK,uM]
 ·have ec:=qk9 ⟨g.s,(g.l.length:Nat),0⟩ g.l;simp only[q6n,show isT g qco 0=false from n1,show isT g qf3 0=false from n2,show isT g quw 0=false from n3,show isT g q51 2=false from n4,show isT g q5y 2=false from n5,show isT g q1g 2=false from n6,show isT g qj8 1=false from n7,show isT g qb4 1=false from n8,if_true,gnF,if_false,qwr,qw2];have q0:D.a ((D.a ((ePr zPr).fs.set 0 (.s g.s))).fs.set 1 (.i (g.l.length:Nat)))=ePr ⟨g.s,(g.l.length:Nat),0⟩:=rfl;have q1:D.a ((D.a ((ePr zPr).fs.set 1 (.i 2))).fs.set 2 (.i 1099511627775))=ePr ⟨⟨#[]⟩,2,1099511627775⟩:=rfl;have q2:D.a ((D.a ((ePr zPr).fs.set 1 (.i 2))).fs.set 2 (.i 1099511627776))=ePr ⟨⟨#[]⟩,2,1099511627776⟩:=rfl;have c1:q7i [ePr ⟨⟨#[]⟩,2,1099511627775⟩,.r [eT (q2z x.nv),eT g]]=_:=qk9 ⟨⟨#[]⟩,2,1099511627775⟩ [q2z x.nv,g];have c2:q7i [ePr ⟨⟨#[]⟩,2,1099511627776⟩,.r [eT (q2z x.nv),eT g]]=_:=qk9 ⟨⟨#[]⟩,2,1099511627776⟩ [q2z x.nv,g];simp only[q0,q1,q2,ec,ebx,ent,uG,uH,uD,uE,c1,c2,Bool.or_true,qp,true_and,and_true];refine⟨fun h=>?_,fun h=>⟨⟨by omega,by omega⟩,?_⟩⟩
  ·rw[if_pos h];rfl
  ·rw[if_neg (by rw[h];decide)];rfl
end
def z5y:List D→Option (List D)
 |[n]=>if decide (0≤n.int)&&decide (n.int≤1000000) then some [.r []] else none
 |_=>none
theorem qcl:FOk yx z5y:=qbe fun ds outs hw hg=>by
 obtain⟨d,r,rfl,hd,rfl⟩:=hw;obtain⟨n,rfl,hn⟩:=wfI hd;unfold z5y at hg;simp only at hg;split at hg
 ·rename_i hc;rw[gnB,gnD,gnD] at hc;obtain⟨h0,h1⟩:0≤n∧n≤1000000:=hc;injection hg with hg;subst hg;have e1:¬n<0:=by omega
  simp only[q2a,gnZ,gnT,z4,qy,z5,qq,z6,z7,qw,z3,z0,qv,qx,qz,qt,qu,qr,e1,Int.sub_zero];refine⟨fun q=>(by first|exact q.elim|cases q),fun _=>⟨⟨by omega,by omega⟩,fun h2=>⟨⟨by omega,by omega,by omega,by omega⟩,by simp⟩,fun h2=>by first|trivial|rfl⟩⟩
 ·cases hg
def q9l(l:List (List FC)):Nat:=(l.map List.length).sum
theorem qfv{l:List (List FC)}{k:Nat}(h:k<l.length):q9l (l.take (k+1))=q9l (l.take k)+(l.getD k []).length:=by
 rw[show l.take (k+1)=l.take k++[l.getD k []] from q0j h];simp[q9l]
theorem qju(l:List (List FC))(k:Nat):q9l (l.take k)≤q9l l:=by
 have:q9l l=q9l (l.take k)+q9l (l.drop k):=by
  unfold q9l;rw[←List.sum_append,←uC,uR]
 omega
def qwp:List D→Option (List D)
 |[r]=>if q9l (r.rs.map fun q=>q.rs.map dFC)≤1000000 then some [q25 (r.rs.map fun q=>q.rs.map dFC).flatten] else none
 |_=>none
theorem za4(l:List (List FC)):((D.r (l.map q25)).rs.map fun q=>q.rs.map dFC)=l:=by
 show((l.map q25).map fun q=>q.rs.map dFC)=l
 rw[kC];have:((fun r:D=>r.rs.map dFC) ∘ q25)=id:=funext fun l=>qxt l;rw[this,kD]
theorem z3u{l:List (List FC)}(h:q9l l≤1000000):qwp [.r (l.map q25)]=some [q25 l.flatten]:=by
 simp only[qwp,za4,if_pos h]
theorem qao:FOk yl qwp:=qa1 qcl fun ds outs hw hg=>by
 obtain⟨d,r,rfl,hd,rfl⟩:=hw;obtain⟨l0,rfl,hl1,hl2⟩:=hd.row_of (te:=qf9) rfl;obtain⟨l,rfl,-⟩:=qgn (e:=q25) (P:=fun _=>True) fun x hx=>by
  obtain⟨z,rfl,-⟩:=z7n (hl2 x hx);exact⟨z,rfl,trivial⟩
 have e:LM qf9=5864062014634:=by kernel_rfl
 rw[uF,e] at hl1;simp only[qwp,za4,uB,uA] at hg;obtain⟨hs,rfl⟩:=hg;rw[q1s,j7];refine⟨fun st=>∃k:Nat,k≤l.length∧st=[.i (q9l (l.take k):Nat),.i k],fun st=>l.length - (st.getD 1 .u).int.toNat,⟨0,uL _,by simp[X.evs,X.ev,q9l]⟩,?_⟩;rintro st - ⟨k,hk,rfl⟩;have hle:=qju l k;rw[qd];refine⟨fun hlt=>?_,fun hlt=>?_⟩
 ·simp only[gnZ,gnT,z4,qy,z5,qq,z6,z7,qw,z3,z0,qv,qx,qz,qt,qu,qr,yi,yy,j6,yz,j3,j4,zh,zx,z9,zi] at hlt;have hkl:k<l.length:=by omega
  have hle2:=qju l (k+1);rw[qfv hkl] at hle2;have e0:(D.r (l.map q25)).get (k:Int)=q25 (l.getD k []):=qb6 q25 hkl;have e1:(q25 (l.getD k [])).rs.length=(l.getD k []).length:=by simp[q25,qo]
  simp only[gnZ,gnT,z4,qy,z5,qq,z6,z7,qw,z3,z0,qv,qx,qz,qt,qu,qr,yi,yy,j6,yz,j3,j4,zh,zx,z9,zi,e0,e1];refine⟨⟨by omega,by omega⟩,⟨by omega,by omega⟩,fun q=>by omega,fun _=>⟨⟨by omega,by omega⟩,?_⟩⟩;rw[q1n,if_pos rfl];refine⟨⟨k+1,by omega,?_⟩,by simp[D.int];omega⟩;rw[qfv hkl];simp
 ·simp only[gnZ,gnT,z4,qy,z5,qq,z6,z7,qw,z3,z0,qv,qx,qz,qt,qu,qr,yi,yy,j6,yz,j3,j4,zh,zx,z9,zi] at hlt;obtain rfl:k=l.length:=by omega
  rw[uI] at *;have hgr:z5y [.i (q9l l:Nat)]=some [.r []]:=by
   have q1:decide ((0:Int)≤(q9l l:Nat))=true:=decide_eq_true (by omega);have q2:decide (((q9l l:Nat):Int)≤1000000)=true:=decide_eq_true (by omega);unfold z5y;simp only;rw[if_pos (by rw[gnB];exact⟨q1,q2⟩)]
  rw[q9];refine⟨by simp only[gnZ,gnT,z4,qy,z5,qq,z6,z7,qw,z3,z0,qv,qx,qz,qt,qu,qr,yi,yy,j6,yz,j3,j4,zh,zx,z9,zi,hgr],?_⟩;rw[j7];refine⟨fun st=>∃k:Nat,k≤l.length∧st=[q25 (l.take k).flatten,.i k],fun st=>l.length - (st.getD 1 .u).int.toNat,⟨0,uL _,by simp[X.evs,X.ev,evl,qm,hgr,q25,qo]⟩,?_⟩;rintro st - ⟨k,hk,rfl⟩;have hle:=qju l k;rw[qd];refine⟨fun hlt=>?_,fun hlt=>?_⟩
  ·simp only[gnZ,gnT,z4,qy,z5,qq,z6,z7,qw,z3,z0,qv,qx,qz,qt,qu,qr,yi,yy,j6,yz,j3,j4,zh,zx,z9,zi] at hlt;have hkl:k<l.length:=by omega
   have hle2:=qju l (k+1);rw[qfv hkl] at hle2;have e0:(D.r (l.map q25)).get (k:Int)=q25 (l.getD k []):=qb6 q25 hkl;have e1:(q25 (l.getD k [])).rs.length=(l.getD k []).length:=by simp[q25,qo]
   have e2:(q25 (l.take k).flatten).rs.length=q9l (l.take k):=by
    show((l.take k).flatten.map eFC).length=_
    rw[uF,uS];rfl
   simp only[gnZ,gnT,z4,qy,z5,qq,z6,z7,qw,z3,z0,qv,qx,qz,qt,qu,qr,yi,yy,j6,yz,j3,j4,zh,zx,z9,zi,e0,e1,e2];refine⟨⟨by omega,by omega⟩,by omega,⟨by omega,by omega⟩,?_⟩;rw[q1n,if_pos rfl];refine⟨⟨k+1,by omega,?_⟩,by simp[D.int];omega⟩;rw[show l.take (k+1)=l.take k++[l.getD k []] from q0j hkl,List.flatten_append];simp[q25,qo]
  ·simp only[gnZ,gnT,z4,qy,z5,qq,z6,z7,qw,z3,z0,qv,qx,qz,qt,qu,qr,yi,yy,j6,yz,j3,j4,zh,zx,z9,zi] at hlt⊢;obtain rfl:k=l.length:=by omega
   rw[uI]
def mxI(m v:Int):Int:=if m<v+1 then v+1 else m
def qks(m:Int)(t:Te):Int:=(q8x t).foldl mxI m
def q7y(l:List Te):Int:=l.foldl qks 0
def z03(t:Te):Bool:=(q8x t).all fun v=>decide (-1≤v)&&decide (v≤1099511627776)
def qze:List D→Option (List D)
 |[l]=>if(l.rs.map dT).all z03 then some [.i (q7y (l.rs.map dT))] else none
 |_=>none
theorem z1u{l:List Te}(h:l.all z03=true):qze [.r (l.map eT)]=some [.i (q7y l)]:=by
 simp only[qze,qo,q33,if_pos h]
theorem gmem{α:Type}{l:List α}{k:Nat}{d:α}(h:k<l.length):l.getD k d∈l:=by
 rw[gnG,gnK h];exact uX h
theorem qcx:FOk jo qze:=ql6 qe3 fun ds outs hw hg=>by
 obtain⟨d,r,rfl,hd,rfl⟩:=hw;obtain⟨l,rfl,hl,-⟩:=qj2 hd;simp only[qze,qo,q33,uB,uA] at hg;obtain⟨hv,rfl⟩:=hg;rw[q67,j7];refine⟨fun st=>∃k:Nat,k≤l.length∧st=[.i ((l.take k).foldl qks 0),.i k],fun st=>l.length - (st.getD 1 .u).int.toNat,⟨0,uL _,rfl⟩,?_⟩;rintro st - ⟨k,hk,rfl⟩;rw[qd];refine⟨fun hlt=>?_,fun hlt=>?_⟩
 ·simp only[gnZ,gnT,z4,qy,z5,qq,z6,z7,qw,z3,z0,qv,qx,qz,qt,qu,qr,yi,yy,j6,yz,j3,j4,zh,zx,z9,zi] at hlt;have hkl:k<l.length:=by omega
  have hvs:=qgj (l.getD k default);have e0:(D.r (l.map eT)).get (k:Int)=eT (l.getD k default):=q12 hkl;have e1:qur q8x [eT (l.getD k default)]=some [eIs (q8x (l.getD k default))]:=by simp only[qur,zw]
  have hok:=uP.1 hv _ (gmem (d:=default) hkl);unfold z03 at hok;have hfold:(l.take (k+1)).foldl qks 0=(q8x (l.getD k default)).foldl mxI ((l.take k).foldl qks 0):=by
   rw[q0j hkl,uW];rfl
  generalize (l.take k).foldl qks 0=m at *;generalize q8x (l.getD k default)=vs at *;simp only[q9,gnZ,gnT,z4,qy,z5,qq,z6,z7,qw,z3,z0,qv,qx,qz,qt,qu,qr,yi,yy,j6,yz,j3,j4,zh,zx,z9,zi,e0,e1];refine⟨⟨by omega,by omega⟩,?_⟩;rw[j7];refine⟨fun st=>∃j:Nat,j≤vs.length∧st=[.i ((vs.take j).foldl mxI m),.i j],fun st=>vs.length - (st.getD 1 .u).int.toNat,⟨0,uL _,rfl⟩,?_⟩;rintro st - ⟨j,hj,rfl⟩;rw[qd];refine⟨fun hlt2=>?_,fun hlt2=>?_⟩
  ·simp only[gnZ,gnT,z4,qy,z5,qq,z6,z7,qw,z3,z0,qv,qx,qz,qt,qu,qr,yi,yy,j6,yz,j3,j4,zh,zx,z9,zi,e0,e1,qa4] at hlt2;have hjl:j<vs.length:=by omega
   have hb:=uP.1 hok _ (gmem (d:=0) hjl);simp only[gnB,gnD] at hb;simp only[gnZ,gnT,z4,qy,z5,qq,z6,z7,qw,z3,z0,qv,qx,qz,qt,qu,qr,yi,yy,j6,yz,j3,j4,zh,zx,z9,zi,e0,e1,qa4,qx3 hjl];refine⟨⟨by omega,by omega⟩,⟨by omega,by omega⟩,⟨by omega,by omega⟩,?_⟩;rw[q1n,if_pos rfl];refine⟨⟨j+1,by omega,?_⟩,by simp[D.int];omega⟩;rw[show vs.take (j+1)=vs.take j++[vs.getD j 0] from q0j hjl,uW]
   show _=[D.i (if _<_ then _ else _),_]
   split<;>rfl
  ·simp only[gnZ,gnT,z4,qy,z5,qq,z6,z7,qw,z3,z0,qv,qx,qz,qt,qu,qr,yi,yy,j6,yz,j3,j4,zh,zx,z9,zi,e0,e1,qa4] at hlt2;obtain rfl:j=vs.length:=by omega
   rw[uI];simp only[gnZ,gnT,z4,qy,z5,qq,z6,z7,qw,z3,z0,qv,qx,qz,qt,qu,qr,yi,yy,j6,yz,j3,j4,zh,zx,z9,zi];refine⟨by omega,?_⟩;rw[q1n,if_neg (by decide),q1n,if_pos rfl];refine⟨⟨k+1,by omega,?_⟩,by simp[D.int];omega⟩;rw[hfold];rfl
 ·simp only[gnZ,gnT,z4,qy,z5,qq,z6,z7,qw,z3,z0,qv,qx,qz,qt,qu,qr,yi,yy,j6,yz,j3,j4,zh,zx,z9,zi] at hlt⊢;obtain rfl:k=l.length:=by omega
  rw[uI];rfl
section
def qiq(x:X24)(h:FC)(b:Te):List FG×X24:=if q6m b then q2e (h.g++[opG 2 x.nv],x.var) (fun y=>q05 y b x.nv) else q05 x b 0
def qab(x:X24)(h:FC)(b:Te):List FC:=⟨h.p,h.l,(qiq x h b).1⟩::(qiq x h b).2.aux.flatten
def q44(x:X24)(h:FC)(b:Te):List FC×Int×X24:=if(qab x h b).all q1h then(qab x h b,0,(qiq x h b).2) else([],2,(qiq x h b).2)
def okW(x:X24)(h:FC)(b:Te):Bool:=q95 (1+2 * rho b) (rho b) x&&decide (h.g.length≤1000000)&&decide (q9l (qiq x h b).2.aux≤1000000)
def z58:List D→Option (List D)
 |[x,h,b]=>if okW (dX x) (dFC h) (dT b) then some [q25 (q44 (dX x) (dFC h) (dT b)).1,.i (q44 (dX x) (dFC h) (dT b)).2.1,eX (q44 (dX x) (dFC h) (dT b)).2.2] else none
 |_=>none
theorem z2b{x:X24}{h:FC}{b:Te}(hk:okW x h b=true):z58 [eX x,eFC h,eT b]=some [q25 (q44 x h b).1,.i (q44 x h b).2.1,eX (q44 x h b).2.2]:=by
 simp only[z58,yi,qr,zw,if_pos hk]
theorem z7s{x:X24}{g:Te}(c:Int)(h2:q95 (2 * rho g) (rho g) x=true):gGo [eX x,eT g,.i c]=some [.r ((q05 x g c).1.map eFG),eX (q05 x g c).2]:=by
 simp only[gGo,zw,yi,qe,if_pos h2]
theorem qv2(h:FC)(a:FG):D.a ((eFC h).fs.set 2 (.r (h.g.map eFG++[eFG a])))=eFC ⟨h.p,h.l,h.g++[a]⟩:=by
 show _=D.a [_,_,.r ((h.g++[a]).map eFG)]
 rw[uC];rfl
theorem z65(h:FC)(m:List FG):D.a ((eFC h).fs.set 2 (.r (h.g.map eFG++m.map eFG)))=eFC ⟨h.p,h.l,h.g++m⟩:=by
 show _=D.a [_,_,.r ((h.g++m).map eFG)]
 rw[uC];rfl
theorem z1m(p:Pr)(l:List Te)(g m:List FG):D.a ((eFC ⟨p,l,g⟩).fs.set 2 (.r (g.map eFG++m.map eFG)))=eFC ⟨p,l,g++m⟩:=z65 ⟨p,l,g⟩ m
theorem z67(h:FC)(m:List FG):D.a ((eFC h).fs.set 2 (.r (m.map eFG)))=eFC ⟨h.p,h.l,m⟩:=rfl
def zb7(xr xx:X):Tree:=(.loop 8 3 [(.lit (.r [])),(.lit (.i 0)),(.lit (.i 0))] (.br (.lt (.tok 5) (.len xr)) (.need [(.le (.lit (.i 0)) (.tok 5)),(.lt (.tok 5) (.len xr))] (.need [(.ok 5 [(.get xr (.tok 5))])] (.br (.not (.call 5 0 [(.get xr (.tok 5))])) (.leaf [(.lit (.r [])),(.lit (.i 2)),xx]) (.need [(.rng .i64 (.add (.tok 5) (.lit (.i 1))))] (.back 8 [(.tok 3),(.tok 4),(.add (.tok 5) (.lit (.i 1)))]))))) (.leaf [xr,(.lit (.i 0)),xx])))
theorem qya(f:FC→Bool)(c:FC):gFb f [eFC c]=some [.b (f c)]:=by simp only[gFb,qr]
section
variable{t0 t1 t2 t3 t4 t5:Ct}
theorem qv8{d0 d1 d2:D}{rows:List FC}{dx:D}{xr xx:X}{R:List D→Prop}
  (hr:∀s0 s1 s2,xr.ev (evl (qm [(t0,gTb q6m),(t1,fun _=>none),(t2,gOp),(t3,gGo),(t4,qwp),(t5,gFb q1h)]) [d0,d1,d2,s0,s1,s2])=.r (rows.map eFC))
  (hx:∀s0 s1 s2,xx.ev (evl (qm [(t0,gTb q6m),(t1,fun _=>none),(t2,gOp),(t3,gGo),(t4,qwp),(t5,gFb q1h)]) [d0,d1,d2,s0,s1,s2])=dx)(hl:rows.length≤4000000)
  (hR:R [.r ((if rows.all q1h then rows else[]).map eFC),.i (if rows.all q1h then 0 else 2),dx]):(zb7 xr xx).go (qm [(t0,gTb q6m),(t1,fun _=>none),(t2,gOp),(t3,gGo),(t4,qwp),(t5,gFb q1h)]) R [d0,d1,d2] fun _ _=>False:=by
 unfold zb7;simp only[evl] at hr hx;rw[j7];refine⟨fun st=>∃k:Nat,k≤rows.length∧(∀j,j<k→q1h (rows.getD j default)=true)∧st=[.r [],.i 0,.i k],fun st=>rows.length - (st.getD 2 .u).int.toNat,⟨0,uL _,fun j hj=>absurd hj (Nat.not_lt_zero _),rfl⟩,?_⟩;rintro st - ⟨k,hk,hP,rfl⟩;rw[qd];refine⟨fun hlt=>?_,fun hlt=>?_⟩
 ·simp only[gnZ,gnT,z4,qy,z5,qq,z6,z7,qw,z3,z0,qv,qx,qz,qt,qu,qr,yi,yy,j6,yz,j3,j4,zh,zx,z9,zi,hr] at hlt;have hkl:k<rows.length:=by omega
  simp only[gnZ,gnT,z4,qy,z5,qq,z6,z7,qw,z3,z0,qv,qx,qz,qt,qu,qr,yi,yy,j6,yz,j3,j4,zh,zx,z9,zi,hr,hx,qb6 eFC hkl,qya];refine⟨⟨by omega,by omega⟩,fun hv=>?_,fun hv=>⟨⟨by omega,by omega⟩,?_⟩⟩
  ·simp only[Bool.not_eq_true'] at hv;have:rows.all q1h=false:=by
    rw[List.all_eq_false];exact⟨_,gmem hkl,by rw[hv];decide⟩
   rw[this] at hR;exact hR
  ·simp only[Bool.not_eq_false'] at hv;rw[q1n,if_pos rfl];refine⟨⟨k+1,by omega,fun j hj=>?_,rfl⟩,by simp[D.int];omega⟩;by_cases h:j<k
   ·exact hP j h
   ·obtain rfl:j=k:=by omega
    exact hv
 ·simp only[gnZ,gnT,z4,qy,z5,qq,z6,z7,qw,z3,z0,qv,qx,qz,qt,qu,qr,yi,yy,j6,yz,j3,j4,zh,zx,z9,zi,hr] at hlt;simp only[gnZ,gnT,z4,qy,z5,qq,z6,z7,qw,z3,z0,qv,qx,qz,qt,qu,qr,yi,yy,j6,yz,j3,j4,zh,zx,z9,zi,hr,hx];obtain rfl:k=rows.length:=by omega
  have:rows.all q1h=true:=uP.2 fun t ht=>by
   obtain⟨j,hj,rfl⟩:=List.getElem_of_mem ht;have:=hP j hj;rwa [gnG,gnK hj] at this
  rw[this] at hR;exact hR
end
theorem qlw(l:List (List FC)):l.flatten.length=q9l l:=by
 rw[uS];rfl
theorem qct:FOk zl z58:=q8h q4c qfh q7s qrt qao q91 fun ds outs hw hg=>by
 obtain⟨d,r,rfl,hd,e,r',rfl,he,f,r2,rfl,hf,rfl⟩:=hw;obtain⟨x,rfl,hx⟩:=wfX hd;obtain⟨h,rfl,hh⟩:=qfw he;obtain⟨b,rfl,hb⟩:=wfT hf;simp only[z58,yi,qr,zw,uB,uA] at hg;obtain⟨hk,rfl⟩:=hg;simp only[okW,gnB,gnD] at hk;obtain⟨⟨h2,hgl⟩,hs⟩:=hk;have hp:=q2p.1 h2;have ec:gTb q6m [eT b]=some [.b (q6m b)]:=by simp only[gTb,zw]
 have fin:∀dx,dx=(qiq x h b).2→(fun o=>o=[q25 (q44 x h b).1,.i (q44 x h b).2.1,eX (q44 x h b).2.2]) [D.r ((if(qab x h b).all q1h then qab x h b else[]).map eFC),.i (if(qab x h b).all q1h then 0 else 2),eX dx]:=fun dx hdx=>by
  subst hdx;unfold q44;cases hv:(qab x h b).all q1h<;>rfl
 have hrl:(qab x h b).length≤4000000:=by
  unfold qab;rw[uN,qlw];omega
 rw[q0y,q9,qd];refine⟨by simp only[gnZ,gnT,z4,qy,z5,qq,z6,z7,qw,z3,z0,qv,qx,qz,qt,qu,qr,yi,yy,j6,yz,j3,j4,zh,zx,z9,zi,ec],fun hc=>?_,fun hc=>?_⟩
 ·simp only[gnZ,gnT,z4,qy,z5,qq,z6,z7,qw,z3,z0,qv,qx,qz,qt,qu,qr,yi,yy,j6,yz,j3,j4,zh,zx,z9,zi,ec] at hc;have c0:=z7s (x:=x.var) (g:=b) x.nv (q1a h2 (Grw.var x) (by omega) (by omega));have b0:=q06 b x.var x.nv;have hraw:qiq x h b=(h.g++[opG 2 x.nv]++(q05 x.var b x.nv).1,(q05 x.var b x.nv).2):=by
   unfold qiq;rw[if_pos hc];rfl
  have hb1:=b0.2;rw[hraw] at hs;have hs:q9l (q05 x.var b x.nv).2.aux≤1000000:=hs;have hcc:=z3u hs;simp only[q9];refine⟨by simp only[gnZ,gnT,z4,qy,z5,qq,z6,z7,qw,z3,z0,qv,qx,qz,qt,qu,qr,yi,yy,j6,yz,j3,j4,zh,zx,z9,zi];omega,by simp only[gnZ,gnT,z4,qy,z5,qq,z6,z7,qw,z3,z0,qv,qx,qz,qt,qu,qr,yi,yy,j6,yz,j3,j4,zh,zx,z9,zi,eOp];omega,by simp only[gnZ,gnT,z4,qy,z5,qq,z6,z7,qw,z3,z0,qv,qx,qz,qt,qu,qr,yi,yy,j6,yz,j3,j4,zh,zx,z9,zi,eOp,c0,qv2,uU,uN,uZ];omega,by simp only[gnZ,gnT,z4,qy,z5,qq,z6,z7,qw,z3,z0,qv,qx,qz,qt,qu,qr,yi,yy,j6,yz,j3,j4,zh,zx,z9,zi,c0,hcc,q25,qlw];omega,?_⟩;refine qv8 (rows:=qab x h b) (dx:=eX (qiq x h b).2) (fun s0 s1 s2=>?_) (fun s0 s1 s2=>?_) hrl (fin _ rfl)
  ·simp only[gnZ,gnT,z4,qy,z5,qq,z6,z7,qw,z3,z0,qv,qx,qz,qt,qu,qr,yi,yy,j6,yz,j3,j4,zh,zx,z9,zi,eOp,c0,qv2,z1m,hcc,qab,hraw,q25];rfl
  ·simp only[gnZ,gnT,z4,qy,z5,qq,z6,z7,qw,z3,z0,qv,qx,qz,qt,qu,qr,yi,yy,j6,yz,j3,j4,zh,zx,z9,zi,c0,hraw]
 ·simp only[gnZ,gnT,z4,qy,z5,qq,z6,z7,qw,z3,z0,qv,qx,qz,qt,qu,qr,yi,yy,j6,yz,j3,j4,zh,zx,z9,zi,ec] at hc;have c0:=z7s (x:=x) (g:=b) 0 (q1a h2 (Grw.refl x) (by omega) (by omega));have hraw:qiq x h b=q05 x b 0:=by
   unfold qiq;rw[if_neg (by rw[hc];decide)]
  rw[hraw] at hs;have hcc:=z3u hs;simp only[q9];refine⟨by simp only[gnZ,gnT,z4,qy,z5,qq,z6,z7,qw,z3,z0,qv,qx,qz,qt,qu,qr,yi,yy,j6,yz,j3,j4,zh,zx,z9,zi,c0],by simp only[gnZ,gnT,z4,qy,z5,qq,z6,z7,qw,z3,z0,qv,qx,qz,qt,qu,qr,yi,yy,j6,yz,j3,j4,zh,zx,z9,zi,c0,hcc,q25,qlw];omega,?_⟩;refine qv8 (rows:=qab x h b) (dx:=eX (qiq x h b).2) (fun s0 s1 s2=>?_) (fun s0 s1 s2=>?_) hrl (fin _ rfl)
  ·simp only[gnZ,gnT,z4,qy,z5,qq,z6,z7,qw,z3,z0,qv,qx,qz,qt,qu,qr,yi,yy,j6,yz,j3,j4,zh,zx,z9,zi,eOp,c0,z67,hcc,qab,hraw,q25];rfl
  ·simp only[gnZ,gnT,z4,qy,z5,qq,z6,z7,qw,z3,z0,qv,qx,qz,qt,qu,qr,yi,yy,j6,yz,j3,j4,zh,zx,z9,zi,c0,hraw]
end
def qy9(h:Te):FC:=⟨⟨h.s,(h.l.length:Nat),0⟩,h.l.map q3x,[]⟩
def qnd(c:Cla)(f:Int)(tr:Bool):X24:=⟨q7y [c.1,c.2],f,tr,[]⟩
def qjx(c:Cla)(f:Int)(tr:Bool):List FC×Int:=
 if(!q4n c||decide (f<1))||decide (1099511623776<f) then([],1) else((q44 (qnd c f tr) (qy9 c.1) c.2).1,(q44 (qnd c f tr) (qy9 c.1) c.2).2.1)
def okC(c:Cla)(f:Int)(tr:Bool):Bool:=((!q4n c||decide (f<1))||decide (1099511623776<f))||((z03 c.1&&z03 c.2)&&okW (qnd c f tr) (qy9 c.1) c.2)
def z96:List D→Option (List D)
 |[c,f,t]=>if okC (dK c) f.int t.tt then some [q25 (qjx (dK c) f.int t.tt).1,.i (qjx (dK c) f.int t.tt).2] else none
 |_=>none
theorem z2y(p:Pr)(l:List Te)(t:Te):D.a ((eFC ⟨p,l,[]⟩).fs.set 1 (.r (l.map eT++[eT t])))=eFC ⟨p,l++[t],[]⟩:=by
 show _=D.a [_,.r ((l++[t]).map eT),_]
 rw[uC];rfl
theorem qlk:FOk q20 z96:=qj3 qp0 qcx q43 qct fun ds outs hw hg=>by
 obtain⟨d,r,rfl,hd,e,r',rfl,he,f,r2,rfl,hf,rfl⟩:=hw;obtain⟨c,rfl,hc1,hc2⟩:=wfK hd;obtain⟨n,rfl,-⟩:=wfI he;obtain⟨t,rfl⟩:=hf.bool;simp only[z96,qnc,qe,qp,uB,uA] at hg;obtain⟨hk,rfl⟩:=hg;have ev:gKb q4n [eK c]=some [.b (q4n c)]:=by simp only[gKb,qnc]
 rw[q52,q9,qd,qa,q9];refine⟨by simp only[gnZ,gnT,z4,qy,z5,qq,z6,z7,qw,z3,z0,qv,qx,qz,qt,qu,qr,yi,yy,j6,yz,j3,j4,zh,zx,z9,zi,ev],fun hc=>?_,fun hc=>?_⟩
 ·simp only[gnZ,gnT,z4,qy,z5,qq,z6,z7,qw,z3,z0,qv,qx,qz,qt,qu,qr,yi,yy,j6,yz,j3,j4,zh,zx,z9,zi,ev] at hc;unfold qjx;rw[if_pos hc];rfl
 ·simp only[gnZ,gnT,z4,qy,z5,qq,z6,z7,qw,z3,z0,qv,qx,qz,qt,qu,qr,yi,yy,j6,yz,j3,j4,zh,zx,z9,zi,ev] at hc;unfold qjx;rw[if_neg (by rw[hc];decide)];unfold okC at hk;rw[hc,Bool.false_or,gnB,gnB] at hk;obtain⟨⟨v1,v2⟩,hk⟩:=hk;have ha:qze [.r [eT c.1,eT c.2]]=some [.i (q7y [c.1,c.2])]:=z1u (l:=[c.1,c.2]) (by simp[v1,v2]);refine⟨by simp only[gnZ,gnT,z4,qy,z5,qq,z6,z7,qw,z3,z0,qv,qx,qz,qt,qu,qr,yi,yy,j6,yz,j3,j4,zh,zx,z9,zi,qc7,qi7,ha],?_⟩;rw[j7];refine⟨fun st=>∃k:Nat,k≤c.1.l.length∧st=[.i k,eFC ⟨⟨c.1.s,(c.1.l.length:Nat),0⟩,(c.1.l.take k).map q3x,[]⟩],fun st=>c.1.l.length - (st.getD 0 .u).int.toNat,⟨0,uL _,?_⟩,?_⟩
  ·simp only[gnZ,gnT,z4,qy,z5,qq,z6,z7,qw,z3,z0,qv,qx,qz,qt,qu,qr,yi,yy,j6,yz,j3,j4,zh,zx,z9,zi,qc7];rfl
  rintro st - ⟨k,hkk,rfl⟩;rw[qd];have hln:=hc1.l;refine⟨fun hlt=>?_,fun hlt=>?_⟩
  ·simp only[gnZ,gnT,z4,qy,z5,qq,z6,z7,qw,z3,z0,qv,qx,qz,qt,qu,qr,yi,yy,j6,yz,j3,j4,zh,zx,z9,zi,qc7] at hlt;have hkl:k<c.1.l.length:=by omega
   simp only[gnZ,gnT,z4,qy,z5,qq,z6,z7,qw,z3,z0,qv,qx,qz,qt,qu,qr,yi,yy,j6,yz,j3,j4,zh,zx,z9,zi,qc7,q12 hkl,qxl,uO];refine⟨⟨by omega,by omega⟩,by omega,⟨by omega,by omega⟩,?_⟩;rw[q1n,if_pos rfl];refine⟨⟨k+1,by omega,?_⟩,by simp[D.int];omega⟩;rw[q0j hkl,uC,z2y];rfl
  ·simp only[gnZ,gnT,z4,qy,z5,qq,z6,z7,qw,z3,z0,qv,qx,qz,qt,qu,qr,yi,yy,j6,yz,j3,j4,zh,zx,z9,zi,qc7] at hlt;obtain rfl:k=c.1.l.length:=by omega
   have hw:=z2b hk;have e1:D.a (((D.a [D.a [D.i 0,D.i 0],D.b false,D.r []]).fs.set 0 (D.a [D.i (q7y [c.1,c.2]),D.i n])).set 1 (D.b t))=eX (qnd c n t):=rfl;have e2:eFC ⟨⟨c.1.s,(c.1.l.length:Nat),0⟩,c.1.l.map q3x,[]⟩=eFC (qy9 c.1):=rfl;rw[uI,e2];have e3:D.a ((D.a ((D.a [D.a [D.i 0,D.i 0],D.b false,D.r []]).fs.set 0 (D.a [D.i (q7y [c.1,c.2]),D.i n]))).fs.set 1 (D.b t))=eX (qnd c n t):=rfl;simp only[gnZ,gnT,z4,qy,z5,qq,z6,z7,qw,z3,z0,qv,qx,qz,qt,qu,qr,yi,yy,j6,yz,j3,j4,zh,zx,z9,zi,qc7,qi7,ha,e3,hw]
def qxe(g:Te)(f:Int):FC:=⟨⟨⟨#[]⟩,((q39 g).length:Nat),f⟩,q39 g,[]⟩
def z2k(g:Te)(f:Int):Bool:=((!(q2x g).2|| !q6j g (q2x g).1)||decide (f<1))||decide (1099511623776<f)
def qrp(g:Te)(f:Int)(tr:Bool):X24:=⟨q7y [g],f+1,tr,[]⟩
def qyz(g:Te)(f:Int)(tr:Bool):List FC×Int:=
 if z2k g f then([],1) else if 1099511625777<q7y [g] then([],2) else((q44 (qrp g f tr) (qxe g f) g).1,(q44 (qrp g f tr) (qxe g f) g).2.1)
def okG(g:Te)(f:Int)(tr:Bool):Bool:=z2k g f||(z03 g&&(decide (1099511625777<q7y [g])||okW (qrp g f tr) (qxe g f) g))
def z8y:List D→Option (List D)
 |[g,f,t]=>if okG (dT g) f.int t.tt then some [q25 (qyz (dT g) f.int t.tt).1,.i (qyz (dT g) f.int t.tt).2] else none
 |_=>none
theorem qsf:FOk q2t z8y:=qoc q9s q9v qcx q46 qct fun ds outs hw hg=>by
 obtain⟨d,r,rfl,hd,e,r',rfl,he,f,r2,rfl,hf,rfl⟩:=hw;obtain⟨g,rfl,hgg⟩:=wfT hd;obtain⟨n,rfl,-⟩:=wfI he;obtain⟨t,rfl⟩:=hf.bool;simp only[z8y,zw,qe,qp,uB,uA] at hg;obtain⟨hk,rfl⟩:=hg;have e1:qe8 q2x [eT g]=some [eT (q2x g).1,.b (q2x g).2]:=by simp only[qe8,zw]
 have e2:q6v q6j [eT g,eT (q2x g).1]=some [.b (q6j g (q2x g).1)]:=by simp only[q6v,zw]
 have e4:qli q39 [eT g]=some [.r ((q39 g).map eT)]:=by simp only[qli,zw]
 rw[q75];simp only[q9,qd,qa];refine⟨by simp only[gnZ,gnT,z4,qy,z5,qq,z6,z7,qw,z3,z0,qv,qx,qz,qt,qu,qr,yi,yy,j6,yz,j3,j4,zh,zx,z9,zi,e1],by simp only[gnZ,gnT,z4,qy,z5,qq,z6,z7,qw,z3,z0,qv,qx,qz,qt,qu,qr,yi,yy,j6,yz,j3,j4,zh,zx,z9,zi,e1,e2],fun hc=>?_,fun hc=>?_⟩
 ·simp only[gnZ,gnT,z4,qy,z5,qq,z6,z7,qw,z3,z0,qv,qx,qz,qt,qu,qr,yi,yy,j6,yz,j3,j4,zh,zx,z9,zi,e1,e2] at hc;have hc:z2k g n=true:=hc;unfold qyz;rw[if_pos hc];rfl
 ·simp only[gnZ,gnT,z4,qy,z5,qq,z6,z7,qw,z3,z0,qv,qx,qz,qt,qu,qr,yi,yy,j6,yz,j3,j4,zh,zx,z9,zi,e1,e2] at hc;have hc:z2k g n=false:=hc;unfold okG at hk;rw[hc,Bool.false_or,gnB] at hk;obtain⟨v1,hk⟩:=hk;have hn:1≤n∧n≤1099511623776:=by
   simp only[z2k,Bool.or_eq_false_iff,decide_eq_false_iff_not] at hc;omega
  have ha:qze [.r [eT g]]=some [.i (q7y [g])]:=z1u (l:=[g]) (by simp[v1]);unfold qyz;rw[if_neg (by rw[hc];decide)];refine⟨by simp only[gnZ,gnT,z4,qy,z5,qq,z6,z7,qw,z3,z0,qv,qx,qz,qt,qu,qr,yi,yy,j6,yz,j3,j4,zh,zx,z9,zi,ha],fun h3=>?_,fun h3=>?_⟩
  ·simp only[gnZ,gnT,z4,qy,z5,qq,z6,z7,qw,z3,z0,qv,qx,qz,qt,qu,qr,yi,yy,j6,yz,j3,j4,zh,zx,z9,zi,ha] at h3;rw[if_pos h3];rfl
  ·simp only[gnZ,gnT,z4,qy,z5,qq,z6,z7,qw,z3,z0,qv,qx,qz,qt,qu,qr,yi,yy,j6,yz,j3,j4,zh,zx,z9,zi,ha] at h3;rw[if_neg h3];rw[decide_eq_false h3,Bool.false_or] at hk;have hw:=z2b hk;have e5:D.a ((D.a ((D.a [D.a [D.i 0,D.i 0],D.b false,D.r []]).fs.set 0 (D.a [D.i (q7y [g]),D.i (n+1)]))).fs.set 1 (D.b t))=eX (qrp g n t):=rfl;have e6:D.a ((D.a ((D.a [ePr zPr,D.r [],D.r []]).fs.set 0 (D.a ((D.a ((ePr zPr).fs.set 1 (.i ((q39 g).length:Nat)))).fs.set 2 (.i n))))).fs.set 1 (.r ((q39 g).map eT)))=eFC (qxe g n):=rfl;simp only[gnZ,gnT,z4,qy,z5,qq,z6,z7,qw,z3,z0,qv,qx,qz,qt,qu,qr,yi,yy,j6,yz,j3,j4,zh,zx,z9,zi,e4,ha,e5,e6,hw];exact⟨by omega,by omega⟩
def q1q:Ct:=⟨9,[],[(.bool,false)],[],none,[],[]⟩
theorem qfg:EnZ q1q:=fun _ _=>by kernel_rfl
def qa8:Ann:=⟨[0,1,2,82,161,223],[]⟩
def q0v:Ct:=⟨5,[.val (.st 37),.val (.st 37)],[(.bool,false)],[],none,[],[]⟩
theorem qas:EnZ q0v:=fun _ _=>by kernel_rfl
def qc6:Ann:=⟨[0,1,2,3,4,10],[]⟩
def q2l:Tree:=(.need [(.ok 0 [(.tok 0)]),(.imp (.not (.call 0 0 [(.tok 0)])) (.ok 0 [(.tok 1)]))] (.br (.or (.call 0 0 [(.tok 0)]) (.call 0 0 [(.tok 1)])) (.need [(.ok 1 [])] (.leaf [(.call 1 0 [])])) (.need [(.imp (.and (.eq (.call 2 0 [(.tok 0)]) (.call 3 0 [(.tok 0)])) (.eq (.call 4 0 [(.tok 0),(.tok 1)]) (.call 5 0 [(.tok 0),(.tok 1)]))) (.ok 1 [])),(.imp (.eq (.call 2 0 [(.tok 0)]) (.call 3 0 [(.tok 0)])) (.ok 5 [(.tok 0),(.tok 1)])),(.imp (.eq (.call 2 0 [(.tok 0)]) (.call 3 0 [(.tok 0)])) (.ok 4 [(.tok 0),(.tok 1)])),(.imp (.eq (.call 2 0 [(.tok 0)]) (.call 3 0 [(.tok 0)])) (.ok 4 [(.tok 0),(.tok 1)])),(.imp (.eq (.call 2 0 [(.tok 0)]) (.call 3 0 [(.tok 0)])) (.ok 4 [(.tok 0),(.tok 1)])),(.ok 3 [(.tok 0)]),(.ok 2 [(.tok 0)])] (.leaf [(.and (.and (.eq (.call 2 0 [(.tok 0)]) (.call 3 0 [(.tok 0)])) (.eq (.call 4 0 [(.tok 0),(.tok 1)]) (.call 5 0 [(.tok 0),(.tok 1)]))) (.call 1 0 []))]))))
theorem qau(g0 g1 g2 g3 g4 g5:GfZ):CdZ [(q0s,g0),(q1q,g1),(yt,g2),(jf,g3),(q1d,g4),(q0t,g5)] qc6 q0v Try.f5 q2l:=fun cd h=>by injection h with h;subst h;kernel_rfl
theorem qcg{g0 g1 g2 g3 g4 g5 g:GfZ}(h0:FOk q0s g0)(h1:FOk q1q g1)(h2:FOk yt g2)(h3:FOk jf g3)(h4:FOk q1d g4)(h5:FOk q0t g5)(h:HgZ q2l q0v [(q0s,g0),(q1q,g1),(yt,g2),(jf,g3),(q1d,g4),(q0t,g5)] g):FOk q0v g:=yw (qau g0 g1 g2 g3 g4 g5) (.cons h0 (.cons h1 (.cons h2 (.cons h3 (.cons h4 (.cons h5 .nil)))))) rfl rfl qas (by decide) h
def z9d:List D→Option (List D)
 |[n]=>some [eT (.mk 0 n.int ⟨#[]⟩ [])]
 |_=>none
theorem qvf:FOk q5h z9d:=qti fun ds outs hw hg=>by
 obtain⟨d,r,rfl,hd,rfl⟩:=hw;obtain⟨n,rfl,hn⟩:=wfI hd;simp only[z9d,qe,uA] at hg;subst hg;simp only[q9u,gnZ,gnT];rfl
def z91:List D→Option (List D)
 |[s]=>some [eT (.mk 2 0 s.str [])]
 |_=>none
theorem qw3:FOk q5d z91:=qtk fun ds outs hw hg=>by
 obtain⟨d,r,rfl,hd,rfl⟩:=hw;obtain⟨s,rfl,hs⟩:=hd.str;simp only[z91,qf,uA] at hg;subst hg;simp only[q9w,gnZ,gnT];rfl
def z9e:List D→Option (List D)
 |[s,l]=>some [eT (.mk 3 0 s.str (l.rs.map dT))]
 |_=>none
theorem qwn:FOk q53 z9e:=qtt fun ds outs hw hg=>by
 obtain⟨d,r,rfl,hd,e,r',rfl,he,rfl⟩:=hw;obtain⟨s,rfl,hs⟩:=hd.str;obtain⟨l,rfl,hl,-⟩:=qj2 he;simp only[z9e,qf,qo,q33,uA] at hg;subst hg;simp only[q9t,gnZ,gnT,q6k];rfl
theorem qx0{ct:Ct}{tbl:Tbl}{outs:List D}{fuel:Nat}(ann:Ann)(fn:Func)(cd:Code)(htb:q1k tbl)(hf:uJ.funcs[ct.f]? =some fn)(hb:fn.body=some cd)
  (hen:∀args w,(callFunc ct.f args).run uJ w=.ok (.enter ct.f args) w)(hsz:ct.ar.length≤fn.ntmps)(har:ct.ars=[])(hden:z9c tbl fuel (qbj uJ tbl ann ct fn cd) []=some outs)(hnp:qyf tbl=true)(hkp:ct.kp=[])(hfl:ct.fl=[]):FOk ct fun _=>some outs:=
 z23 ann fn cd htb hf hb hen hsz (fun ds o hw hg=>by
  rw[har] at hw;obtain rfl:ds=[]:=hw;injection hg with hg;subst hg;exact z4x hden) hnp hkp hfl
def qxu:Ct:=⟨29,[],[(.st 4242424242,true)],[],none,[],[]⟩
theorem z64:FOk qxu fun _=>none:=FOk.none qcu
noncomputable def awC:Code:=match kF.body with
 |some c=>c
 |none=>.skip
def z9o:Tbl:=[(qxu,fun _=>none),(q5d,z91),(q53,z9e),(q20,z96),(q5h,z9d),(q2t,z8y),(q0b,q6v q6j)]
theorem z6j:q1k z9o:=.cons z64 (.cons qw3 (.cons qwn (.cons qlk (.cons qvf (.cons qsf (.cons qcm .nil))))))
theorem z89:z9c z9o 12 (qbj uJ z9o qa8 q1q kF awC) []=some [.b true]:=by kernel_rfl
theorem qml:FOk q1q fun _=>some [.b true]:=qx0 qa8 kF awC z6j (by kernel_rfl) (by kernel_rfl) qfg (by decide) (by kernel_rfl) z89 (by kernel_rfl) (by kernel_rfl) (by kernel_rfl)
theorem qoh:FOk q0v fun _=>some [.b true]:=qcg qo2 qml q91 qb7 qqp qo8 fun ds outs hw hg=>by
 obtain⟨d,r,rfl,hd,e,r',rfl,he,rfl⟩:=hw;obtain⟨a,rfl,ha⟩:=qfw hd;obtain⟨b,rfl,hb⟩:=qfw he;injection hg with hg;subst hg;have e1:=qya qt3 a;have e2:=qya qt3 b;have e3:=qya q1h a;have e4:gFF qpb [eFC a,eFC b]=some [.b (qpb a b)]:=by simp only[gFF,qr]
 simp only[q2l,gnZ,gnT,z4,qy,z5,qq,z6,z7,qw,z3,z0,qv,qx,qz,qt,qu,qr,yi,yy,j6,yz,j3,j4,zh,zx,z9,zi,e1,e2,e3,e4];simp
section
open Go.ChangeShapes Go.WideShapes Go.ChangeAt Go.RowKit
theorem z06:ownKnob uJ.godebug=none:=by kernel_rfl
theorem qpg:laidOutB uJ=true:=by kernel_rfl
section
variable{H:Type}{enc:TypeId×Value→H}{W:World}{base:Nat}{spare:Nat→Bool}{held:Bool}
def qbc(t:TypeId)(d:DataW H):Prop:=∀n∈d.weights uJ t,n≤reachBytes
theorem qaj{e:TypeId}:∀{l:List (DataW H)}{d:DataW H},d∈l→∀n∈d.weights uJ e,n∈DataW.weightsAll uJ e l
 |[],_,h,_,_=>by cases h
 |x::l,d,h,n,hn=>by
  simp only[DataW.weightsAll,uY];rcases kB.1 h with rfl|h
  ·exact .inl hn
  ·exact .inr (qaj h n hn)
theorem qbc.each{ts:List TypeId}{l:List (DataW H)}{k:Nat}{t:TypeId}{d:DataW H}(h:∀n∈DataW.weightsEach uJ ts l,n≤reachBytes)(ht:ts[k]? =some t)(hd:l[k]? =some d):qbc t d:=fun n hn=>
 h n (DataW.weights_mem_each ht hd n hn)
theorem qq6:reachBytes=LIM:=rfl
theorem qr9{T:TypeId}{t:Ty}(h:zb T=some t):uJ.cellsOf T=t.w:=by
 obtain⟨i,hi,h1,-⟩:=q2k h;simp[Program.cellsOf,hi,h1]
theorem z8h{k:IntKind}{t:TypeId}(ht:zb t=some (.int k)){n:Int}(h:(Lit.int k n).wf=true):q16 k n=true:=by
 have h0:=(q2w ht).2.1;cases k<;>first|(simp[q16] at h0;done)|(simp[Lit.wf,IntKind.min,IntKind.max,IntKind.signed,IntKind.bits] at h;simp[q16];omega)
theorem qws{a:Addr}{v:Value}(h:W.cell? a=some v):a.spot=none:=by
 unfold World.cell? at h;split at h
 ·split at h
  ·cases h
  ·rename_i hs;simpa using hs
 ·cases h
theorem z13{F:Nat→Prop}{cs:List Value}:∀{fl:List Field}{fs:List Ty}{o:Nat},q2b fl fs o=true→(∀(j:Nat)(f:Field)(t:Ty),fl[j]? =some f→fs[j]? =some t→∃y,Rd W F y t ((cs.drop f.offset).take t.w))→cs.length=o+widths fs→∃ds,RdF W F ds fs (cs.drop o)
 |[],[],o,_,_,hl=>by
  simp[widths] at hl;exact⟨[],rfl,by rw[List.drop_eq_nil_iff];omega⟩
 |f::l,t::ts,o,hb,hf,hl=>by
  simp only[q2b,gnB] at hb;obtain⟨⟨⟨h1,-⟩,-⟩,h3⟩:=hb;have ho:=gnN h1;rw[q5m] at hl;obtain⟨ds,hds⟩:=z13 h3 (fun j f' t' hj ht=>hf (j+1) f' t' (by simpa using hj) (by simpa using ht)) (by omega);obtain⟨y,hy⟩:=hf 0 f t rfl rfl;refine⟨y::ds,t,ts,(cs.drop o).take t.w,cs.drop (o+t.w),rfl,?_,by rw[←ho];exact hy,hds⟩;rw[←List.drop_drop,uR]
 |[],_::_,o,hb,_,_=>by cases hb
 |_::_,[],o,hb,_,_=>by cases hb
theorem qzf:∀(fuel:Nat){T:TypeId}{t:Ty}(cs:List Value)(x:DataW H×List MemPlace),zb T=some t→qtx t=false→DataW.trod enc uJ W base spare held fuel T cs=some x→qbc T x.1→∃y,Rd W (fun _=>True) y t cs:=by
 intro fuel
 induction fuel with
 |zero=>intro T t cs x _ _ h;simp[DataW.trod] at h
 | succ fuel ih =>
  intro T t cs x hT hM h hL;cases t with
  |map K V=>cases hM
  |fnv=>cases hM
  |int k=>
   obtain⟨n,rfl,-,hw⟩:=DataW.trod_int (q2w hT).1 h;exact⟨.i n,.inl ⟨k,rfl,rfl,z8h hT hw⟩⟩
  |bool=>
   obtain⟨b,rfl,-⟩:=DataW.trod_bool (q3b hT).1 h;exact⟨.b b,rfl,rfl⟩
  |str=>
   obtain⟨s,rfl,rfl,-⟩:=DataW.trod_string (q2s hT).1 h;have:=hL s.data.toList.length (by simp[DataW.weights]);exact⟨.s s,rfl,rfl,by rw[qq6] at this;simpa using this⟩
  | st S =>
   obtain⟨fields,fs,zc,i,hu,hfs,hfb,hi,hsz,-,-,-,-⟩:=q32 hT;obtain⟨xs,n,hn,hx,hlen,hxl,hf⟩:=DataW.trod_struct hu h;obtain rfl:fuel=n:=by omega
   have hw:∀n∈DataW.weightsEach uJ (fields.toList.map (·.type)) (xs.map (·.1)),n≤reachBytes:=fun n hn=>hL n (by rw[hx];simp only[DataW.weights,hu];exact hn);have hcl:cs.length=0+widths fs:=by rw[hlen,qr9 hT,(qjw hfs).1];omega
   obtain⟨ds,hds⟩:=z13 (W:=W) (F:=fun _=>True) hfb (fun j f t hj ht=>by
    obtain⟨f',hf',ho,hty,-⟩:=q5n hfb ht;obtain rfl:=gnI (hj.symm.trans hf');have h5:=hf j f (by rw[←Array.getElem?_toList];exact hj);have hjl:j<fields.toList.length:=(gnH.1 hj).1;have hjx:j<xs.length:=by rw[hxl];simpa using hjl
    rw[qr9 hty,gnK hjx] at h5;refine ih _ _ hty (z4z hfs hM (List.mem_of_getElem? ht)) h5 (qbc.each (k:=j) hw ?_ ?_)
    ·rw[uV,hj];rfl
    ·rw[uV,gnK hjx];rfl) hcl
   exact⟨.a ds,S,fs,rfl,hfs,by simpa using hds⟩
  | row E =>
   obtain⟨hu,⟨te,hte⟩,-⟩:=q0m hT;rcases DataW.trod_slice hu h with⟨rfl,hx⟩|⟨a,len,cap,elems,rest,n,hn,rfl,hx,hb,hl,hm,hlen,hel,-⟩
   ·exact⟨.r [],E,te,none,0,rfl,hte,rfl,by simp,by simp,by simp[maxLen],by simp[RdE]⟩
   ·obtain rfl:fuel=n:=by omega
    have hwd:=q3z hte;rw[qr9 hte] at hel;have hw:=hL;rw[hx] at hw;simp only[qbc,DataW.weights,hu,kB,uY] at hw;have hlen2:len≤LM te:=by
     have:=hw _ (.inl rfl);rw[qq6] at this;have hbe:uJ.bytesOf E=te.by:=by
      obtain⟨i,hi,-⟩:=q2k hte;simp[Program.bytesOf,hi,qfn hte hi]
     refine(Nat.le_div_iff_mul_le (z48 hte).1).2 ?_;simp[hbe] at this;have h2:len * te.by≤(elems.length+rest.length) * te.by:=Nat.mul_le_mul_right _ (by omega);exact Nat.le_trans h2 this
    have spot:0<len→a.spot=none:=fun h0=>by
     have h2:=hel 0 h0;rw[gnK (by omega)] at h2;cases hc0:W.cells? base (a.add (0 * te.w)) te.w with
     |none=>rw[hc0] at h2;cases h2
     |some cs0=>
      obtain⟨_,hcl0,hat0⟩:=World.cells?_some hc0;have hp:0<cs0.length:=by omega
      have:=hat0 0 (by omega);rw[gnK hp] at this;exact qws (a:=a) (v:=cs0[0]) (by simpa[Addr.add] using this)
    have each:∀i,i<len→∃y,z97 W (fun _=>True) y te (some a) i:=fun i hi=>by
     have h1:=hel i hi;rw[gnK (by omega)] at h1;cases hc:W.cells? base (a.add (i * te.w)) te.w with
     |none=>rw[hc] at h1;cases h1
     | some cs' =>
      rw[hc] at h1;obtain⟨_,hcl,hat⟩:=World.cells?_some hc;obtain⟨y,hy⟩:=ih cs' _ hte (z61 hT hte) h1 (fun n hn=>hw n (.inr (.inl (qaj (List.mem_map.2 ⟨_,uX (by omega),rfl⟩) n hn))));have hsp:=spot (by omega);obtain⟨b,o,sp⟩:=a;obtain rfl:sp=none:=hsp;have add:∀k,(Addr.add ⟨b,o,none⟩ (i * te.w)).add k=⟨b,o+i * te.w+k,none⟩:=fun k=>by
       unfold Addr.add;split<;>split<;>simp<;>omega
      refine⟨y,b,o,cs',rfl,trivial,fun j v hj=>?_,hy⟩;have hj':=(gnH.1 hj).1;have:=hat j (by omega);rw[add,hj] at this;exact this
    have pick:∀n,n≤len→∃l:List D,l.length=n∧∀i(h:i<l.length),z97 W (fun _=>True) l[i] te (some a) i:=by
     intro n
     induction n with
     |zero=>exact fun _=>⟨[],rfl,fun i hi=>by simp at hi⟩
     | succ n ihn =>
      intro hn;obtain⟨l,hl1,hl2⟩:=ihn (by omega);obtain⟨t,ht⟩:=each n (by omega);refine⟨l++[t],by simp[hl1],fun i hi=>?_⟩;by_cases hin:i<l.length
      ·rw[List.getElem_append_left hin];exact hl2 i hin
      ·obtain rfl:i=l.length:=by simp at hi;omega
       rw[List.getElem_append_right (by omega)];simp[hl1];exact ht
    obtain⟨l,hl1,hl2⟩:=pick len (kE _);exact⟨.r l,E,te,some a,cap,rfl,hte,by rw[hl1],by omega,by omega,hm,q23.2 fun j hj=>by rw[Nat.zero_add];exact hl2 j hj⟩
theorem z1c{T:TypeId}{t:Ty}(hT:zb T=some t)(hM:qtx t=false){v:Value}{d:DataW H}{p:List MemPlace}{b0:Nat}{r:Reach}(hv:Value.okWide uJ W r b0 T v)(h:DataW.Trod enc uJ W base spare held T v d p)(hL:qbc T d):
  ∃x cs,ym t cs v∧Rd W (fun b=>b<W.heap.size) x t cs:=by
 obtain⟨fuel,hf⟩:=h;obtain⟨y,hy⟩:=qzf fuel _ _ hT hM hf hL;refine⟨y,v.cells.toList,?_,Rd.keeps (fun b o _ ho=>⟨ho,yo ho⟩) _ hy⟩;cases t with
 |int k=>obtain⟨n,rfl⟩:=okWide_int (q2w hT).1 hv;rfl
 |bool=>obtain⟨n,rfl⟩:=okWide_bool (q3b hT).1 hv;rfl
 |str=>obtain⟨n,rfl⟩:=okWide_string (q2s hT).1 hv;rfl
 |map K V=>cases hM
 |fnv=>cases hM
 |row E=>obtain⟨A,l,c,rfl⟩:=okWide_slice (q0m hT).1 hv;rfl
 |st S=>
  obtain⟨fields,fs,zc,i,hu,-⟩:=q32 hT;obtain⟨cs,rfl,-⟩:=okWide_struct hu hv;simp[ym,Value.cells]
end
def qpv(W:World):List Ar→List Value→List D→Prop
 |[],vs,ds=>vs=[]∧ds=[]
 |.val t::l,vs,ds=>∃v r d ds',vs=v::r∧ds=d::ds'∧(∃cs,ym t cs v∧Rd W (FFD (fun _=>True) (fun _=>none) []) d t cs)∧qpv W l r ds'
 |_::_,_,_=>False
theorem qpv.ok{W:World}{V:List Value}:∀{i:Nat}{ar:List Ar}{vs:List Value}{ds:List D},qpv W ar vs ds→yk V (fun _=>True) (fun _=>none) W (idx i ar) vs ds∧vs.length=ar.length
 |_,[],vs,ds,h=>⟨h,by rw[h.1];rfl⟩
 |i,.val t::l,vs,ds,⟨v,r,d,ds',e1,e2,h1,h⟩=>by
  obtain⟨h2,h3⟩:=qpv.ok (V:=V) (i:=i+1) h;exact⟨⟨v,r,d,ds',e1,e2,h1,h2⟩,by rw[e1];simp[h3]⟩
 |_,.ref _ _::_,_,_,h=>h.elim
 |_,.rref _::_,_,_,h=>h.elim
 |_,.own _::_,_,_,h=>h.elim
 |_,.mref _::_,_,_,h=>h.elim
 |_,.nils::_,_,_,h=>h.elim
 |_,.nilp::_,_,_,h=>h.elim
 |_,.cst _ _::_,_,_,h=>h.elim
 |_,.fn _ _::_,_,_,h=>h.elim
 |_,.cell _ _::_,_,_,h=>h.elim
theorem z0i{ct:Ct}{g:List D→Option (List D)}(h:FOk ct g)(hrs:ct.rs=[(.bool,false)])(hvr:ct.vr=[]){W:World}{vs:List Value}{ds:List D}(ha:qpv W ct.ar vs ds)(hg:g ds=some [.b true]):
  Calls uJ ct.f vs.toArray W fun e W'=>e=.returned (.bool true)∧But Nil W W':=by
 obtain⟨h1,h2⟩:=qpv.ok (V:=vs++[]) (i:=0) ha;refine(h.call (fun _=>True) .no (fun _=>none) W vs [] ds _ hg (qde.of0 fun _=>rfl) Flo.no (by constructor<;>simp[Flr.no]) h2 (by simpa[Ct.all,hvr,idx] using h1)).mono ?_;rintro e W'(⟨T,-,ho,-⟩|⟨rs,p',rfl,hb,hr,-⟩)
 ·cases ho
 rw[hrs] at hr;obtain⟨v,r,d,ds',rfl,hd,⟨cs,hp,hc⟩,rfl⟩:=hr;simp at hd;obtain⟨rfl,rfl⟩:=hd;obtain⟨e1,e2⟩:D.b true=.b true∧cs=[.bool true]:=⟨rfl,by
  have hc':Rd W' (FFD (fun _=>True) p' []) (.b true) .bool cs:=hc;exact hc'.2⟩
 subst e2;have hpv:[Value.bool true]=[v]:=hp;injection hpv with hpv;subst hpv;exact⟨rfl,hb.but.mono fun i hi _=>by obtain⟨x,hx⟩:=hi;cases hx⟩
end
end Go.Proofs.Ytbmaffphliignaa
