/-
 Lemmas of the walk and plain laws, put together. No condition.
-/
import Derived.ChangeArms
import Derived.OpenShut
import Derived.ProofKit
import Derived.SizedLaws
import Derived.Test.YtbmaffphliignaaRows
import Derived.Test.YtbmaffphliignaaKf
namespace Go.Proofs.Ytbmaffphliignaa
open Go.RowKit
set_option linter.unusedVariables false
set_option linter.unusedSimpArgs false
set_option maxRecDepth 100000
open _root_.List renaming length_append→uA,mem_cons→uB,flatten_cons→uE,all_eq_true→uH,append_assoc→uI,mem_append→uK,map_append→uL,mem_singleton→uN,map_cons→uP,take_length→uQ,length_take→uR,length_cons→uS,mem_map→uT,nil_append→uU,length_map→uV,take_append_drop→uW,getElem?_map→uY,not_mem_nil→uZ,Perm→kB,drop_eq_nil_iff→kD,cons_append→kI,length_nil→kJ,foldl_cons→kK
open _root_.Nat renaming zero_le→uC,le_trans→uF,le_refl→kA,not_lt_zero→kL
open _root_.Go.Proofs.Try renaming prog→uD,f9→kO
open _root_.Option.some renaming injEq→uG
open _root_.Option renaming ite_none_right_eq_some→uJ
open _root_.Bool renaming or_eq_true→uM,not_eq_true'→uO,false_or→uX,or_true→kC,or_eq_false_iff→kE,not_eq_false'→kH,true_and→kM,and_self→kN
section
def q5q(x:X24)(h:FC)(b:Te):List FG×X24:=if q63 b then q1z (h.g++[opG 2 x.nv],x.var) (fun y=>jq y b x.nv) else jq x b 0
def q1n(x:X24)(h:FC)(b:Te):List FC:=⟨h.p,h.l,(q5q x h b).1⟩::(q5q x h b).2.aux.flatten
def q3f(x:X24)(h:FC)(b:Te):List FC×Int×X24:=if(q1n x h b).all q3e then(q1n x h b,0,(q5q x h b).2) else([],2,(q5q x h b).2)
def okW(x:X24)(h:FC)(b:Te):Bool:=q8e (1+2 * rho b) (rho b) x&&decide (h.g.length≤1000000)&&decide (q8v (q5q x h b).2.aux≤1000000)
def z4l:List D→Option (List D)
 |[x,h,b]=>if okW (dX x) (dFC h) (dT b) then some [q1p (q3f (dX x) (dFC h) (dT b)).1,.i (q3f (dX x) (dFC h) (dT b)).2.1,eX (q3f (dX x) (dFC h) (dT b)).2.2] else none
 |_=>none
theorem z0z{x:X24}{h:FC}{b:Te}(hk:okW x h b=true):z4l [eX x,eFC h,eT b]=some [q1p (q3f x h b).1,.i (q3f x h b).2.1,eX (q3f x h b).2.2]:=by
 simp only[z4l,z8,qh,zm,if_pos hk]
theorem z7k{x:X24}{g:Te}(c:Int)(h2:q8e (2 * rho g) (rho g) x=true):gGo [eX x,eT g,.i c]=some [.r ((jq x g c).1.map eFG),eX (jq x g c).2]:=by
 simp only[gGo,zm,z8,q04,if_pos h2]
theorem qtm(h:FC)(a:FG):D.a ((eFC h).fs.set 2 (.r (h.g.map eFG++[eFG a])))=eFC ⟨h.p,h.l,h.g++[a]⟩:=by
 show _=D.a [_,_,.r ((h.g++[a]).map eFG)]
 rw[uL];rfl
theorem z6n(h:FC)(m:List FG):D.a ((eFC h).fs.set 2 (.r (h.g.map eFG++m.map eFG)))=eFC ⟨h.p,h.l,h.g++m⟩:=by
 show _=D.a [_,_,.r ((h.g++m).map eFG)]
 rw[uL];rfl
theorem z02(p:Pr)(l:List Te)(g m:List FG):D.a ((eFC ⟨p,l,g⟩).fs.set 2 (.r (g.map eFG++m.map eFG)))=eFC ⟨p,l,g++m⟩:=z6n ⟨p,l,g⟩ m
theorem z60(h:FC)(m:List FG):D.a ((eFC h).fs.set 2 (.r (m.map eFG)))=eFC ⟨h.p,h.l,m⟩:=rfl
def zan(xr xx:X):Tree:=(.loop 8 3 [(.lit (.r [])),(.lit (.i 0)),(.lit (.i 0))] (.br (.lt (.tok 5) (.len xr)) (.need [(.le (.lit (.i 0)) (.tok 5)),(.lt (.tok 5) (.len xr))] (.need [(.ok 5 [(.get xr (.tok 5))])] (.br (.not (.call 5 0 [(.get xr (.tok 5))])) (.leaf [(.lit (.r [])),(.lit (.i 2)),xx]) (.need [(.rng .i64 (.add (.tok 5) (.lit (.i 1))))] (.back 8 [(.tok 3),(.tok 4),(.add (.tok 5) (.lit (.i 1)))]))))) (.leaf [xr,(.lit (.i 0)),xx])))
theorem zah(f:FC→Bool)(c:FC):gFb f [eFC c]=some [.b (f c)]:=by simp only[gFb,qh]
section
variable{t0 t1 t2 t3 t4 t5:Ct}
theorem qtj{d0 d1 d2:D}{rows:List FC}{dx:D}{xr xx:X}{R:List D→Prop}
  (hr:∀s0 s1 s2,xr.ev (evl (yx [(t0,gTb q63),(t1,fun _=>none),(t2,gOp),(t3,gGo),(t4,qv1),(t5,gFb q3e)]) [d0,d1,d2,s0,s1,s2])=.r (rows.map eFC))
  (hx:∀s0 s1 s2,xx.ev (evl (yx [(t0,gTb q63),(t1,fun _=>none),(t2,gOp),(t3,gGo),(t4,qv1),(t5,gFb q3e)]) [d0,d1,d2,s0,s1,s2])=dx)(hl:rows.length≤4000000)
  (hR:R [.r ((if rows.all q3e then rows else[]).map eFC),.i (if rows.all q3e then 0 else 2),dx]):(zan xr xx).go (yx [(t0,gTb q63),(t1,fun _=>none),(t2,gOp),(t3,gGo),(t4,qv1),(t5,gFb q3e)]) R [d0,d1,d2] fun _ _=>False:=by
 unfold zan;simp only[evl] at hr hx;rw[j4];refine⟨fun st=>∃k:Nat,k≤rows.length∧(∀j,j<k→q3e (rows.getD j default)=true)∧st=[.r [],.i 0,.i k],fun st=>rows.length - (st.getD 2 .u).int.toNat,⟨0,uC _,fun j hj=>absurd hj (kL _),rfl⟩,?_⟩;rintro st - ⟨k,hk,hP,rfl⟩;rw[yb];refine⟨fun hlt=>?_,fun hlt=>?_⟩
 ·simp only[gnZ,gnT,qr,ql,qj,qd,qp,qu,qk,qt,qq,qm,qn,qo,qg,qi,qh,z8,zl,zh,ze,zj,zg,qe,qx,qc,qf,hr] at hlt;have hkl:k<rows.length:=by omega
  simp only[gnZ,gnT,qr,ql,qj,qd,qp,qu,qk,qt,qq,qm,qn,qo,qg,qi,qh,z8,zl,zh,ze,zj,zg,qe,qx,qc,qf,hr,hx,qax eFC hkl,zah];refine⟨⟨by omega,by omega⟩,fun hv=>?_,fun hv=>⟨⟨by omega,by omega⟩,?_⟩⟩
  ·simp only[uO] at hv;have:rows.all q3e=false:=by
    rw[List.all_eq_false];exact⟨_,gmem hkl,by rw[hv];decide⟩
   rw[this] at hR;exact hR
  ·simp only[kH] at hv;rw[q0t,if_pos rfl];refine⟨⟨k+1,by omega,fun j hj=>?_,rfl⟩,by simp[D.int];omega⟩;by_cases h:j<k
   ·exact hP j h
   ·obtain rfl:j=k:=by omega
    exact hv
 ·simp only[gnZ,gnT,qr,ql,qj,qd,qp,qu,qk,qt,qq,qm,qn,qo,qg,qi,qh,z8,zl,zh,ze,zj,zg,qe,qx,qc,qf,hr] at hlt;simp only[gnZ,gnT,qr,ql,qj,qd,qp,qu,qk,qt,qq,qm,qn,qo,qg,qi,qh,z8,zl,zh,ze,zj,zg,qe,qx,qc,qf,hr,hx];obtain rfl:k=rows.length:=by omega
  have:rows.all q3e=true:=uH.2 fun t ht=>by
   obtain⟨j,hj,rfl⟩:=List.getElem_of_mem ht;have:=hP j hj;rwa [gnG,gnK hj] at this
  rw[this] at hR;exact hR
end
theorem qdv(l:List (List FC)):l.flatten.length=q8v l:=by
 rw[List.length_flatten];rfl
theorem qce:FOk z7 z4l:=q7l q42 qe0 q6t qpq qae qms fun ds outs hw hg=>by
 obtain⟨d,r,rfl,hd,e,r',rfl,he,f,r2,rfl,hf,rfl⟩:=hw;obtain⟨x,rfl,hx⟩:=wfX hd;obtain⟨h,rfl,hh⟩:=z7y he;obtain⟨b,rfl,hb⟩:=wfT hf;simp only[z4l,z8,qh,zm,uJ,uG] at hg;obtain⟨hk,rfl⟩:=hg;simp only[okW,gnB,gnD] at hk;obtain⟨⟨h2,hgl⟩,hs⟩:=hk;have hp:=q1y.1 h2;have ec:gTb q63 [eT b]=some [.b (q63 b)]:=by simp only[gTb,zm]
 have fin:∀dx,dx=(q5q x h b).2→(fun o=>o=[q1p (q3f x h b).1,.i (q3f x h b).2.1,eX (q3f x h b).2.2]) [D.r ((if(q1n x h b).all q3e then q1n x h b else[]).map eFC),.i (if(q1n x h b).all q3e then 0 else 2),eX dx]:=fun dx hdx=>by
  subst hdx;unfold q3f;cases hv:(q1n x h b).all q3e<;>rfl
 have hrl:(q1n x h b).length≤4000000:=by
  unfold q1n;rw[uS,qdv];omega
 rw[q0m,yp,yb];refine⟨by simp only[gnZ,gnT,qr,ql,qj,qd,qp,qu,qk,qt,qq,qm,qn,qo,qg,qi,qh,z8,zl,zh,ze,zj,zg,qe,qx,qc,qf,ec],fun hc=>?_,fun hc=>?_⟩
 ·simp only[gnZ,gnT,qr,ql,qj,qd,qp,qu,qk,qt,qq,qm,qn,qo,qg,qi,qh,z8,zl,zh,ze,zj,zg,qe,qx,qc,qf,ec] at hc;have c0:=z7k (x:=x.var) (g:=b) x.nv (q0x h2 (Grw.var x) (by omega) (by omega));have b0:=jg b x.var x.nv;have hraw:q5q x h b=(h.g++[opG 2 x.nv]++(jq x.var b x.nv).1,(jq x.var b x.nv).2):=by
   unfold q5q;rw[if_pos hc];rfl
  have hb1:=b0.2;rw[hraw] at hs;have hs:q8v (jq x.var b x.nv).2.aux≤1000000:=hs;have hcc:=z13 hs;simp only[yp];refine⟨by simp only[gnZ,gnT,qr,ql,qj,qd,qp,qu,qk,qt,qq,qm,qn,qo,qg,qi,qh,z8,zl,zh,ze,zj,zg,qe,qx,qc,qf];omega,by simp only[gnZ,gnT,qr,ql,qj,qd,qp,qu,qk,qt,qq,qm,qn,qo,qg,qi,qh,z8,zl,zh,ze,zj,zg,qe,qx,qc,qf,eOp];omega,by simp only[gnZ,gnT,qr,ql,qj,qd,qp,qu,qk,qt,qq,qm,qn,qo,qg,qi,qh,z8,zl,zh,ze,zj,zg,qe,qx,qc,qf,eOp,c0,qtm,uA,uS,kJ];omega,by simp only[gnZ,gnT,qr,ql,qj,qd,qp,qu,qk,qt,qq,qm,qn,qo,qg,qi,qh,z8,zl,zh,ze,zj,zg,qe,qx,qc,qf,c0,hcc,q1p,qdv];omega,?_⟩;refine qtj (rows:=q1n x h b) (dx:=eX (q5q x h b).2) (fun s0 s1 s2=>?_) (fun s0 s1 s2=>?_) hrl (fin _ rfl)
  ·simp only[gnZ,gnT,qr,ql,qj,qd,qp,qu,qk,qt,qq,qm,qn,qo,qg,qi,qh,z8,zl,zh,ze,zj,zg,qe,qx,qc,qf,eOp,c0,qtm,z02,hcc,q1n,hraw,q1p];rfl
  ·simp only[gnZ,gnT,qr,ql,qj,qd,qp,qu,qk,qt,qq,qm,qn,qo,qg,qi,qh,z8,zl,zh,ze,zj,zg,qe,qx,qc,qf,c0,hraw]
 ·simp only[gnZ,gnT,qr,ql,qj,qd,qp,qu,qk,qt,qq,qm,qn,qo,qg,qi,qh,z8,zl,zh,ze,zj,zg,qe,qx,qc,qf,ec] at hc;have c0:=z7k (x:=x) (g:=b) 0 (q0x h2 (Grw.refl x) (by omega) (by omega));have hraw:q5q x h b=jq x b 0:=by
   unfold q5q;rw[if_neg (by rw[hc];decide)]
  rw[hraw] at hs;have hcc:=z13 hs;simp only[yp];refine⟨by simp only[gnZ,gnT,qr,ql,qj,qd,qp,qu,qk,qt,qq,qm,qn,qo,qg,qi,qh,z8,zl,zh,ze,zj,zg,qe,qx,qc,qf,c0],by simp only[gnZ,gnT,qr,ql,qj,qd,qp,qu,qk,qt,qq,qm,qn,qo,qg,qi,qh,z8,zl,zh,ze,zj,zg,qe,qx,qc,qf,c0,hcc,q1p,qdv];omega,?_⟩;refine qtj (rows:=q1n x h b) (dx:=eX (q5q x h b).2) (fun s0 s1 s2=>?_) (fun s0 s1 s2=>?_) hrl (fin _ rfl)
  ·simp only[gnZ,gnT,qr,ql,qj,qd,qp,qu,qk,qt,qq,qm,qn,qo,qg,qi,qh,z8,zl,zh,ze,zj,zg,qe,qx,qc,qf,eOp,c0,z60,hcc,q1n,hraw,q1p];rfl
  ·simp only[gnZ,gnT,qr,ql,qj,qd,qp,qu,qk,qt,qq,qm,qn,qo,qg,qi,qh,z8,zl,zh,ze,zj,zg,qe,qx,qc,qf,c0,hraw]
end
def q15(h:Te):FC:=⟨⟨h.s,(h.l.length:Nat),0⟩,h.l.map q1s,[]⟩
def yr(c:Cla)(f:Int)(tr:Bool):X24:=⟨q38 [c.1,c.2],f,tr,[]⟩
def q52(c:Cla)(f:Int)(tr:Bool):List FC×Int:=
 if(!q1r c||decide (f<1))||decide (1099511623776<f) then([],1) else((q3f (yr c f tr) (q15 c.1) c.2).1,(q3f (yr c f tr) (q15 c.1) c.2).2.1)
def okC(c:Cla)(f:Int)(tr:Bool):Bool:=((!q1r c||decide (f<1))||decide (1099511623776<f))||((qlg c.1&&qlg c.2)&&okW (yr c f tr) (q15 c.1) c.2)
def qsd:List D→Option (List D)
 |[c,f,t]=>if okC (dK c) f.int t.tt then some [q1p (q52 (dK c) f.int t.tt).1,.i (q52 (dK c) f.int t.tt).2] else none
 |_=>none
theorem z41(p:Pr)(l:List Te)(t:Te):D.a ((eFC ⟨p,l,[]⟩).fs.set 1 (.r (l.map eT++[eT t])))=eFC ⟨p,l++[t],[]⟩:=by
 show _=D.a [_,.r ((l++[t]).map eT),_]
 rw[uL];rfl
theorem qaj:FOk jp qsd:=qhw qmv qc5 q3v qce fun ds outs hw hg=>by
 obtain⟨d,r,rfl,hd,e,r',rfl,he,f,r2,rfl,hf,rfl⟩:=hw;obtain⟨c,rfl,hc1,hc2⟩:=wfK hd;obtain⟨n,rfl,-⟩:=wfI he;obtain⟨t,rfl⟩:=hf.bool;simp only[qsd,qhc,q04,qdc,uJ,uG] at hg;obtain⟨hk,rfl⟩:=hg;have ev:gKb q1r [eK c]=some [.b (q1r c)]:=by simp only[gKb,qhc]
 rw[q4f,yp,yb,q9f,yp];refine⟨by simp only[gnZ,gnT,qr,ql,qj,qd,qp,qu,qk,qt,qq,qm,qn,qo,qg,qi,qh,z8,zl,zh,ze,zj,zg,qe,qx,qc,qf,ev],fun hc=>?_,fun hc=>?_⟩
 ·simp only[gnZ,gnT,qr,ql,qj,qd,qp,qu,qk,qt,qq,qm,qn,qo,qg,qi,qh,z8,zl,zh,ze,zj,zg,qe,qx,qc,qf,ev] at hc;unfold q52;rw[if_pos hc];rfl
 ·simp only[gnZ,gnT,qr,ql,qj,qd,qp,qu,qk,qt,qq,qm,qn,qo,qg,qi,qh,z8,zl,zh,ze,zj,zg,qe,qx,qc,qf,ev] at hc;unfold q52;rw[if_neg (by rw[hc];decide)];unfold okC at hk;rw[hc,uX,gnB,gnB] at hk;obtain⟨⟨v1,v2⟩,hk⟩:=hk;have ha:qzf [.r [eT c.1,eT c.2]]=some [.i (q38 [c.1,c.2])]:=z04 (l:=[c.1,c.2]) (by simp[v1,v2]);refine⟨by simp only[gnZ,gnT,qr,ql,qj,qd,qp,qu,qk,qt,qq,qm,qn,qo,qg,qi,qh,z8,zl,zh,ze,zj,zg,qe,qx,qc,qf,qa9,qj3,ha],?_⟩;rw[j4];refine⟨fun st=>∃k:Nat,k≤c.1.l.length∧st=[.i k,eFC ⟨⟨c.1.s,(c.1.l.length:Nat),0⟩,(c.1.l.take k).map q1s,[]⟩],fun st=>c.1.l.length - (st.getD 0 .u).int.toNat,⟨0,uC _,?_⟩,?_⟩
  ·simp only[gnZ,gnT,qr,ql,qj,qd,qp,qu,qk,qt,qq,qm,qn,qo,qg,qi,qh,z8,zl,zh,ze,zj,zg,qe,qx,qc,qf,qa9];rfl
  rintro st - ⟨k,hkk,rfl⟩;rw[yb];have hln:=hc1.l;refine⟨fun hlt=>?_,fun hlt=>?_⟩
  ·simp only[gnZ,gnT,qr,ql,qj,qd,qp,qu,qk,qt,qq,qm,qn,qo,qg,qi,qh,z8,zl,zh,ze,zj,zg,qe,qx,qc,qf,qa9] at hlt;have hkl:k<c.1.l.length:=by omega
   simp only[gnZ,gnT,qr,ql,qj,qd,qp,qu,qk,qt,qq,qm,qn,qo,qg,qi,qh,z8,zl,zh,ze,zj,zg,qe,qx,qc,qf,qa9,q1j hkl,qwc,uR];refine⟨⟨by omega,by omega⟩,by omega,⟨by omega,by omega⟩,?_⟩;rw[q0t,if_pos rfl];refine⟨⟨k+1,by omega,?_⟩,by simp[D.int];omega⟩;rw[ji hkl,uL,z41];rfl
  ·simp only[gnZ,gnT,qr,ql,qj,qd,qp,qu,qk,qt,qq,qm,qn,qo,qg,qi,qh,z8,zl,zh,ze,zj,zg,qe,qx,qc,qf,qa9] at hlt;obtain rfl:k=c.1.l.length:=by omega
   have hw:=z0z hk;have e1:D.a (((D.a [D.a [D.i 0,D.i 0],D.b false,D.r []]).fs.set 0 (D.a [D.i (q38 [c.1,c.2]),D.i n])).set 1 (D.b t))=eX (yr c n t):=rfl;have e2:eFC ⟨⟨c.1.s,(c.1.l.length:Nat),0⟩,c.1.l.map q1s,[]⟩=eFC (q15 c.1):=rfl;rw[uQ,e2];have e3:D.a ((D.a ((D.a [D.a [D.i 0,D.i 0],D.b false,D.r []]).fs.set 0 (D.a [D.i (q38 [c.1,c.2]),D.i n]))).fs.set 1 (D.b t))=eX (yr c n t):=rfl;simp only[gnZ,gnT,qr,ql,qj,qd,qp,qu,qk,qt,qq,qm,qn,qo,qg,qi,qh,z8,zl,zh,ze,zj,zg,qe,qx,qc,qf,qa9,qj3,ha,e3,hw]
def qya(g:Te)(f:Int):FC:=⟨⟨⟨#[]⟩,((q30 g).length:Nat),f⟩,q30 g,[]⟩
def z2j(g:Te)(f:Int):Bool:=((!(q2q g).2|| !q6q g (q2q g).1)||decide (f<1))||decide (1099511623776<f)
def qqw(g:Te)(f:Int)(tr:Bool):X24:=⟨q38 [g],f+1,tr,[]⟩
def qwr(g:Te)(f:Int)(tr:Bool):List FC×Int:=
 if z2j g f then([],1) else if 1099511625777<q38 [g] then([],2) else((q3f (qqw g f tr) (qya g f) g).1,(q3f (qqw g f tr) (qya g f) g).2.1)
def okG(g:Te)(f:Int)(tr:Bool):Bool:=z2j g f||(qlg g&&(decide (1099511625777<q38 [g])||okW (qqw g f tr) (qya g f) g))
def z8t:List D→Option (List D)
 |[g,f,t]=>if okG (dT g) f.int t.tt then some [q1p (qwr (dT g) f.int t.tt).1,.i (qwr (dT g) f.int t.tt).2] else none
 |_=>none
theorem qql:FOk q2o z8t:=qnx q9r qex qc5 q3z qce fun ds outs hw hg=>by
 obtain⟨d,r,rfl,hd,e,r',rfl,he,f,r2,rfl,hf,rfl⟩:=hw;obtain⟨g,rfl,hgg⟩:=wfT hd;obtain⟨n,rfl,-⟩:=wfI he;obtain⟨t,rfl⟩:=hf.bool;simp only[z8t,zm,q04,qdc,uJ,uG] at hg;obtain⟨hk,rfl⟩:=hg;have e1:qe2 q2q [eT g]=some [eT (q2q g).1,.b (q2q g).2]:=by simp only[qe2,zm]
 have e2:q7n q6q [eT g,eT (q2q g).1]=some [.b (q6q g (q2q g).1)]:=by simp only[q7n,zm]
 have e4:qma q30 [eT g]=some [.r ((q30 g).map eT)]:=by simp only[qma,zm]
 rw[q6r];simp only[yp,yb,q9f];refine⟨by simp only[gnZ,gnT,qr,ql,qj,qd,qp,qu,qk,qt,qq,qm,qn,qo,qg,qi,qh,z8,zl,zh,ze,zj,zg,qe,qx,qc,qf,e1],by simp only[gnZ,gnT,qr,ql,qj,qd,qp,qu,qk,qt,qq,qm,qn,qo,qg,qi,qh,z8,zl,zh,ze,zj,zg,qe,qx,qc,qf,e1,e2],fun hc=>?_,fun hc=>?_⟩
 ·simp only[gnZ,gnT,qr,ql,qj,qd,qp,qu,qk,qt,qq,qm,qn,qo,qg,qi,qh,z8,zl,zh,ze,zj,zg,qe,qx,qc,qf,e1,e2] at hc;have hc:z2j g n=true:=hc;unfold qwr;rw[if_pos hc];rfl
 ·simp only[gnZ,gnT,qr,ql,qj,qd,qp,qu,qk,qt,qq,qm,qn,qo,qg,qi,qh,z8,zl,zh,ze,zj,zg,qe,qx,qc,qf,e1,e2] at hc;have hc:z2j g n=false:=hc;unfold okG at hk;rw[hc,uX,gnB] at hk;obtain⟨v1,hk⟩:=hk;have hn:1≤n∧n≤1099511623776:=by
   simp only[z2j,kE,decide_eq_false_iff_not] at hc;omega
  have ha:qzf [.r [eT g]]=some [.i (q38 [g])]:=z04 (l:=[g]) (by simp[v1]);unfold qwr;rw[if_neg (by rw[hc];decide)];refine⟨by simp only[gnZ,gnT,qr,ql,qj,qd,qp,qu,qk,qt,qq,qm,qn,qo,qg,qi,qh,z8,zl,zh,ze,zj,zg,qe,qx,qc,qf,ha],fun h3=>?_,fun h3=>?_⟩
  ·simp only[gnZ,gnT,qr,ql,qj,qd,qp,qu,qk,qt,qq,qm,qn,qo,qg,qi,qh,z8,zl,zh,ze,zj,zg,qe,qx,qc,qf,ha] at h3;rw[if_pos h3];rfl
  ·simp only[gnZ,gnT,qr,ql,qj,qd,qp,qu,qk,qt,qq,qm,qn,qo,qg,qi,qh,z8,zl,zh,ze,zj,zg,qe,qx,qc,qf,ha] at h3;rw[if_neg h3];rw[decide_eq_false h3,uX] at hk;have hw:=z0z hk;have e5:D.a ((D.a ((D.a [D.a [D.i 0,D.i 0],D.b false,D.r []]).fs.set 0 (D.a [D.i (q38 [g]),D.i (n+1)]))).fs.set 1 (D.b t))=eX (qqw g n t):=rfl;have e6:D.a ((D.a ((D.a [ePr zPr,D.r [],D.r []]).fs.set 0 (D.a ((D.a ((ePr zPr).fs.set 1 (.i ((q30 g).length:Nat)))).fs.set 2 (.i n))))).fs.set 1 (.r ((q30 g).map eT)))=eFC (qya g n):=rfl;simp only[gnZ,gnT,qr,ql,qj,qd,qp,qu,qk,qt,qq,qm,qn,qo,qg,qi,qh,z8,zl,zh,ze,zj,zg,qe,qx,qc,qf,e4,ha,e5,e6,hw];exact⟨by omega,by omega⟩
def q1o:Ct:=⟨9,[],[(.bool,false)],[],none,[],[]⟩
theorem qdr:EnZ q1o:=fun _ _=>by kernel_rfl
def qa4:Ann:=⟨[0,1,2,82,161,223],[]⟩
def z8z:List D→Option (List D)
 |[n]=>some [eT (.mk 0 n.int ⟨#[]⟩ [])]
 |_=>none
theorem qu8:FOk q4i z8z:=qta fun ds outs hw hg=>by
 obtain⟨d,r,rfl,hd,rfl⟩:=hw;obtain⟨n,rfl,hn⟩:=wfI hd;simp only[z8z,q04,uG] at hg;subst hg;simp only[q9o,gnZ,gnT];rfl
def z8c:List D→Option (List D)
 |[s]=>some [eT (.mk 2 0 s.str [])]
 |_=>none
theorem qv6:FOk q4s z8c:=qs6 fun ds outs hw hg=>by
 obtain⟨d,r,rfl,hd,rfl⟩:=hw;obtain⟨s,rfl,hs⟩:=hd.str;simp only[z8c,qew,uG] at hg;subst hg;simp only[q9q,gnZ,gnT];rfl
def z7r:List D→Option (List D)
 |[s,l]=>some [eT (.mk 3 0 s.str (l.rs.map dT))]
 |_=>none
theorem qvz:FOk q4e z7r:=qst fun ds outs hw hg=>by
 obtain⟨d,r,rfl,hd,e,r',rfl,he,rfl⟩:=hw;obtain⟨s,rfl,hs⟩:=hd.str;obtain⟨l,rfl,hl,-⟩:=qq1 he;simp only[z7r,qew,q7p,q4g,uG] at hg;subst hg;simp only[q9l,gnZ,gnT,q64];rfl
theorem qu7{ct:Ct}{tbl:Tbl}{outs:List D}{fuel:Nat}(ann:Ann)(fn:Func)(cd:Code)(htb:q16 tbl)(hf:uD.funcs[ct.f]? =some fn)(hb:fn.body=some cd)
  (hen:∀args w,(callFunc ct.f args).run uD w=.ok (.enter ct.f args) w)(hsz:ct.ar.length≤fn.ntmps)(har:ct.ars=[])(hden:z9b tbl fuel (qb7 uD tbl ann ct fn cd) []=some outs)(hnp:qwo tbl=true)(hkp:ct.kp=[])(hfl:ct.fl=[]):FOk ct fun _=>some outs:=
 z3l ann fn cd htb hf hb hen hsz (fun ds o hw hg=>by
  rw[har] at hw;obtain rfl:ds=[]:=hw;injection hg with hg;subst hg;exact z49 hden) hnp hkp hfl
def qwb:Ct:=⟨29,[],[(.st 4242424242,true)],[],none,[],[]⟩
theorem z5f:FOk qwb fun _=>none:=FOk.none qc9
noncomputable def awC:Code:=match kO.body with
 |some c=>c
 |none=>.skip
def z8u:Tbl:=[(qwb,fun _=>none),(q4s,z8c),(q4e,z7r),(jp,qsd),(q4i,z8z),(q2o,z8t),(q01,q7n q6q)]
theorem z4r:q16 z8u:=.cons z5f (.cons qv6 (.cons qvz (.cons qaj (.cons qu8 (.cons qql (.cons qc4 .nil))))))
theorem z8o:z9b z8u 12 (qb7 uD z8u qa4 q1o kO awC) []=some [.b true]:=by kernel_rfl
theorem ql8:FOk q1o fun _=>some [.b true]:=qu7 qa4 kO awC z4r (by kernel_rfl) (by kernel_rfl) qdr (by decide) (by kernel_rfl) z8o (by kernel_rfl) (by kernel_rfl) (by kernel_rfl)
mutual
theorem qhe:∀(t:Te){u:Te},yi t=true→j3 t=some u→yi u=true
 | .mk k n s l, u, hn, hb => by
  rw[j3] at hb;split at hb
  ·injection hb with hb;subst hb;exact qfh (by decide) (by simp) (by simp) fun t ht=>by rw[uN.1 ht];exact hn
  split at hb
  ·rename_i hbr;split at hb
   ·rename_i m hm;injection hb with hb;subst hb;rw[yi,gnB] at hn;have hl:=(q2c hbr).1;have hk:=(q2c hbr).2;have hl:l.length=2:=hl;have hk:k=3:=hk;obtain⟨h1,h2⟩:=qdp l hn.2 hm;have hs:s.size≤100:=by
     have:=hn.1;rw[qev,hk,if_neg (by decide),if_neg (by decide),if_neg (by decide),if_pos rfl] at this;simp only[gnB,gnD] at this;omega
    exact qfh hs (by omega) (by omega) (q3l.1 h2)
   ·cases hb
  split at hb
  ·injection hb with hb;subst hb;exact hn
  ·cases hb
theorem qdp:∀(l:List Te){m:List Te},q54 l=true→q0q l=some m→m.length=l.length∧q54 m=true
 |[],m,_,hb=>by
  rw[q0q] at hb;injection hb with hb;subst hb;exact⟨rfl,rfl⟩
 | t :: l, m, hn, hb => by
  rw[q0q] at hb;rw[q54,gnB] at hn;split at hb
  ·rename_i x y hx hy;injection hb with hb;subst hb;obtain⟨h1,h2⟩:=qdp l hn.2 hy;exact⟨by simp[h1],by rw[q54,qhe t hn.1 hx,h2];rfl⟩
  ·cases hb
end
def Gdl(b:Te):Prop:=yi b=true∧∃a,j3 a=some b
theorem Gdl.kind{b:Te}(h:Gdl b):b.k=2∨b.k=3:=by
 obtain⟨-,a,ha⟩:=h;rw[q94] at ha;split at ha
 ·injection ha with ha;subst ha;exact .inr rfl
 split at ha
 ·split at ha
  ·injection ha with ha;subst ha;exact .inr rfl
  ·cases ha
 split at ha
 ·rename_i hc;injection ha with ha;subst ha;simpa only[q9u,uM,gnD] using hc
 ·cases ha
theorem qbg{b:Te}(h:yi b=true){j:Nat}(hj:j<b.l.length):yi (ag b j)=true:=by
 cases b with
 |mk k n s l=>
  rw[yi,gnB] at h;exact q3l.1 h.2 _ (gmem hj)
theorem qkc:∀{l m:List Te}{j:Nat},q0q l=some m→j<m.length→∃a,j3 a=some (m.getD j default)
 |[],m,j,h,hj=>by
  rw[q0q] at h;injection h with h;subst h;exact absurd hj (kL _)
 | t :: l, m, j, h, hj => by
  rw[q0q] at h;split at h
  ·rename_i x y hx hy;injection h with h;subst h;cases j with
   |zero=>exact⟨t,hx⟩
   |succ j=>exact qkc (j:=j) hy (by simpa using hj)
  ·cases h
theorem Gdl.arg{b:Te}(h:Gdl b)(hc:isT b q24 2=true∨isT b q26 2=true∨isT b ju 2=true){j:Nat}(hj:j<2):Gdl (ag b j):=by
 have hl:=(q2r hc).2;refine⟨qbg h.1 (by omega),?_⟩;obtain⟨hn,a,ha⟩:=h;have hk3:b.k=3:=by
  have hk:b.k=2∨b.k=3:=by
   rcases hc with h|h|h<;>(simp only[isT,gnB,uM,gnD] at h;exact h.1.1)
  rcases hk with hk|hk
  ·exfalso;rw[qcz,gnB] at hn;have h1:=hn.1;cases b with
   |mk k n s l=>
    have hk:k=2:=hk;have hl:l.length=2:=hl;rw[qev,hk] at h1;simp at h1;have:l=[]:=by first|exact h1.1.2|exact h1.2|simp_all
    rw[this] at hl;cases hl
  ·exact hk
 rw[q94] at ha;split at ha
 ·injection ha with ha;subst ha;cases hl
 split at ha
 ·split at ha
  ·rename_i m hm;injection ha with ha;subst ha;exact qkc hm (by have:m.length=2:=hl;omega)
  ·cases ha
 split at ha
 ·rename_i hnb _;injection ha with ha;subst ha;exfalso;apply hnb;have hs:a.s=q24∨a.s=q26∨a.s=ju:=by
   rcases hc with h|h|h
   ·exact .inl (z1g h)
   ·exact .inr (.inl (z1g h))
   ·exact .inr (.inr (z1g h))
  simp only[q02,hk3,hl,gnB,uM,gnD];refine⟨⟨trivial,by decide⟩,?_⟩;rcases hs with h|h|h
  ·exact .inl (.inl h)
  ·exact .inl (.inr h)
  ·exact .inr h
 ·cases ha
theorem Gdl.inner{a:Te}(h:yi a=true):Gdl (q08 a):=by
 unfold q08;split
 ·rename_i hg;have hb:=qm2 hg;exact⟨qhe a h hb,a,hb⟩
 ·refine⟨qfh (by decide) (by simp) (by simp) fun t ht=>by rw[uN.1 ht];exact h,.mk 3 0 qhm [a],?_⟩;rw[q94,if_neg (by simp[Te.k]),if_neg (by simp[q02,Te.k,Te.l]),if_pos (by simp[q9u,Te.k])]
def q5e(tr:Bool)(g:FG):Bool:=decide (g.k=1)&&(!decide (g.p.x=0)&&(!tr||decide (g.p.x<1099511627775)))
def okg(g:FG):Bool:= !(decide (g.k=1)&&decide (g.p.x=0)&&qbx g.p.s g.p.a)
def q0a(tr:Bool)(gs:List FG):List Pr:=(gs.filter (q5e tr)).map (·.p)
def jz(tr:Bool)(cs:List FC):List Pr:=q0a tr (cs.map (·.g)).flatten
theorem qcu(tr:Bool)(a b:List FG):q0a tr (a++b)=q0a tr a++q0a tr b:=by simp[q0a]
theorem q9i(tr:Bool)(a b:List FC):jz tr (a++b)=jz tr a++jz tr b:=by simp[jz,q0a]
def hP(e:List FC):Pr:=(e.getD 0 default).p
structure Ety(n:Int)(e:List FC):Prop where
 len:e.length=1∨e.length=2
 x:(hP e).x=n
 pr:∀r∈e,r.p=hP e
 ok:∀r∈e,r.g.all okg=true
 gl:∀r∈e,r.g.length≤9000000000000
def qbz:Int→List (List FC)→Prop
 |_,[]=>True
 |n,e::l=>Ety n e∧qbz (n+1) l
theorem qbz.app:∀{l:List (List FC)}{m:List (List FC)}{n:Int},qbz n l→qbz (n+l.length) m→qbz n (l++m)
 |[],m,n,_,h=>by simpa using h
 |e::l,m,n,h1,h2=>⟨h1.1,qbz.app h1.2 (by
  have:n+((e::l).length:Int)=n+1+(l.length:Int):=by simp;omega
  rwa [this] at h2)⟩
structure Dfn(tr:Bool)(x:X24)(gs:List FG)(y:X24)(m:Nat):Prop where
 xt:x.tr=tr
 yt:y.tr=tr
 ok:gs.all okg=true
 ex:∃new:List (List FC),y.aux=x.aux++new∧y.na=x.na+new.length∧new.length≤m∧qbz x.na new∧(q0a tr gs++jz tr new.flatten).Perm (new.map hP)
theorem Dfn.mono{tr:Bool}{x y:X24}{gs:List FG}{m m':Nat}(h:Dfn tr x gs y m)(hm:m≤m'):Dfn tr x gs y m':=⟨h.xt,h.yt,h.ok,by
 obtain⟨new,a,b,c,d,e⟩:=h.ex;exact⟨new,a,b,uF c hm,d,e⟩⟩
theorem Dfn.na{tr:Bool}{x y:X24}{gs:List FG}{m:Nat}(h:Dfn tr x gs y m):x.na≤y.na∧y.na≤x.na+m:=by
 obtain⟨new,a,b,c,d,e⟩:=h.ex;omega
theorem Dfn.app{tr:Bool}{x y z:X24}{a b:List FG}{m k:Nat}(h:Dfn tr x a y m)(h':Dfn tr y b z k):Dfn tr x (a++b) z (m+k):=⟨h.xt,h'.yt,by rw[List.all_append,h.ok,h'.ok];rfl,by
 obtain⟨n1,a1,a2,a3,a4,a5⟩:=h.ex;obtain⟨n2,b1,b2,b3,b4,b5⟩:=h'.ex;refine⟨n1++n2,by rw[b1,a1,uI],by rw[b2,a2,uA];push_cast;omega,by rw[uA];omega,a4.app (by rw[←a2];exact b4),?_⟩;rw[List.flatten_append,qcu,q9i,uL];refine kB.trans ?_ (a5.append b5);rw[uI,uI];refine kB.append_left _ ?_;rw[←uI,←uI];exact kB.append_right _ List.perm_append_comm⟩
theorem Dfn.ops{tr:Bool}{x y:X24}{gs:List FG}(hx:x.tr=tr)(hy:y.tr=tr)(ha:y.aux=x.aux)(hn:y.na=x.na)(h1:gs.all okg=true)(h2:gs.filter (q5e tr)=[]):Dfn tr x gs y 0:=
 ⟨hx,hy,h1,[],by simp[ha],by simp[hn],kA _,trivial,by simp[q0a,jz,h2]⟩
def qiq(tr:Bool)(r:Rec)(g:Te):Prop:=∀(x:X24)(c:Int),x.tr=tr→1≤x.na→x.na+(rho g:Int)≤1099511627775→Dfn tr x (r x g c).1 (r x g c).2 (rho g - 1)
def Bod(tr:Bool)(r:List (List FG)×X24)(x:X24)(m:Nat):Prop:=Dfn tr x r.1.flatten r.2 m∧(r.1.length=1∨r.1.length=2)
theorem qg2(k v:Int)(hk:k≠1)(tr:Bool):okg (opG k v)=true∧q5e tr (opG k v)=false:=by
 simp[okg,q5e,opG,hk]
theorem z98{tr:Bool}{x y:X24}{k v k' v':Int}(hk:k≠1)(hk':k'≠1)(hx:x.tr=tr)(hy:y.tr=tr)(ha:y.aux=x.aux)(hn:y.na=x.na):Dfn tr x [opG k v,opG k' v'] y 0:=
 Dfn.ops hx hy ha hn (by simp[qg2 _ _ hk tr,qg2 _ _ hk' tr]) (by simp[qg2 _ _ hk tr,qg2 _ _ hk' tr])
theorem qyr{tr:Bool}{x y:X24}{k v:Int}(hk:k≠1)(hx:x.tr=tr)(hy:y.tr=tr)(ha:y.aux=x.aux)(hn:y.na=x.na):Dfn tr x [opG k v] y 0:=
 Dfn.ops hx hy ha hn (by simp[qg2 _ _ hk tr]) (by simp[qg2 _ _ hk tr])
theorem q7v{tr:Bool}{r:Rec}{g:Te}(h:qiq tr r g){x0 x:X24}{gs:List FG}{m:Nat}(h0:Dfn tr x0 gs x m)(h1:1≤x0.na)(h2:x0.na+m+rho g≤1099511627775)(c:Int):Dfn tr x (r x g c).1 (r x g c).2 (rho g - 1):=by
 have:=h0.na;exact h x c h0.yt (by omega) (by omega)
theorem z69{tr:Bool}{r:Rec}{a b:Te}(ha:qiq tr r a)(hb:qiq tr r b){x:X24}(hx:x.tr=tr)(h1:1≤x.na)(h2:x.na+rho a+rho b≤1099511627775)(c:Int):Dfn tr x (qt3 r x a b c).1 (qt3 r x a b c).2 (rho a - 1+(rho b - 1)):=by
 have p:=zw a;have q:=zw b;have d0:Dfn tr x [opG 2 x.nv,opG 3 (x.nv+1)] x.var.var 0:=z98 (by decide) (by decide) hx hx rfl rfl;have d1:=d0.app (q7v ha d0 h1 (by omega) (x.nv+1));have d2:=d1.app (qyr (k:=4) (v:=x.nv) (by decide) d1.yt d1.yt rfl rfl);have d3:=d2.app (q7v hb d2 h1 (by omega) c);exact d3.mono (by omega)
theorem qou{tr:Bool}{r:Rec}{a:Te}(ha:qiq tr r a){x:X24}(hx:x.tr=tr)(h1:1≤x.na)(h2:x.na+rho a≤1099511627775):Dfn tr x (q3a r x a).1 (q3a r x a).2 (rho a - 1):=by
 have d0:Dfn tr x [opG 3 x.nv] x.var 0:=qyr (by decide) hx hx rfl rfl;have d1:=d0.app (q7v ha d0 h1 (by omega) x.nv);have d2:=d1.app (qyr (k:=4) (v:=x.nv) (by decide) d1.yt d1.yt rfl rfl);exact d2.mono (by omega)
theorem qvv{tr:Bool}{r:Rec}{g:Te}(hg:isT g q26 2=true)(gd:Gdl g)(h:∀g',Gdl g'→rho g'<rho g→qiq tr r g'){x:X24}(hx:x.tr=tr)(h1:1≤x.na)(h2:x.na+rho g≤1099511627776)(c:Int):Bod tr (q18 r x g c) x (rho g - 2):=by
 have hr:=(q2r (.inr (.inl hg))).1;have p0:=zw (ag g 0);have p1:=zw (ag g 1);have g0:=gd.arg (.inr (.inl hg)) (j:=0) (by omega);have g1:=gd.arg (.inr (.inl hg)) (j:=1) (by omega);unfold q18;split
 ·rename_i ha;have hr2:=(q2r (.inr (.inr ha))).1;have q0:=zw (ag (ag g 0) 0);have q1:=zw (ag (ag g 0) 1);have d:=z69 (h _ (g0.arg (.inr (.inr ha)) (j:=0) (by omega)) (by omega)) (h _ (g0.arg (.inr (.inr ha)) (j:=1) (by omega)) (by omega)) hx h1 (by omega) c;have d2:=d.app (q7v (h _ g1 (by omega)) d h1 (by omega) c);exact⟨by simpa[qn5] using d2.mono (by omega),.inr rfl⟩
 ·have d:=h _ g0 (by omega) x c hx h1 (by omega);have d2:=d.app (q7v (h _ g1 (by omega)) d h1 (by omega) c);exact⟨by simpa[qn5] using d2.mono (by omega),.inr rfl⟩
theorem z0u{tr:Bool}{r:Rec}{g:Te}(hg:isT g ju 2=true)(gd:Gdl g)(h:∀g',Gdl g'→rho g'<rho g→qiq tr r g'){x:X24}(hx:x.tr=tr)(h1:1≤x.na)(h2:x.na+rho g≤1099511627776)(c:Int):Bod tr (q8m r x g c) x (rho g - 2):=by
 have hr:=(q2r (.inr (.inr hg))).1;have p0:=zw (ag g 0);have p1:=zw (ag g 1);have g0:=gd.arg (.inr (.inr hg)) (j:=0) (by omega);have g1:=gd.arg (.inr (.inr hg)) (j:=1) (by omega);have d:=qou (h _ g0 (by omega)) hx h1 (by omega);have d2:=d.app (q7v (h _ g1 (by omega)) d h1 (by omega) c);exact⟨by simpa[q8m,qo2,q1z] using d2.mono (by omega),.inl rfl⟩
theorem z5t{tr:Bool}{r:Rec}{g:Te}(hg:isT g qdf 1=true)(gd:Gdl g)(h:∀g',Gdl g'→rho g'<rho g→qiq tr r g'){x:X24}(hx:x.tr=tr)(h1:1≤x.na)(h2:x.na+rho g≤1099511627776):Bod tr (qfe r x g) x (rho g - 2):=by
 obtain⟨hr,hl⟩:=qa2 (.inl hg);have p0:=zw (q08 (ag g 0));have hi:=q22 (ag g 0);have g0:Gdl (q08 (ag g 0)):=Gdl.inner (qbg gd.1 (by omega));have d0:Dfn tr x [opG 2 x.nv,opG 3 (x.nv+1)] x.var.var 0:=z98 (by decide) (by decide) hx hx rfl rfl;have d1:=d0.app (q7v (h _ g0 (by omega)) d0 h1 (by omega) (x.nv+1));have d2:=d1.app (z98 (k:=4) (v:=x.nv) (k':=5) (v':=0) (by decide) (by decide) d1.yt d1.yt rfl rfl);exact⟨by simpa[qfe,noX,q1z] using d2.mono (by omega),.inr rfl⟩
theorem z3r{tr:Bool}{r:Rec}{g:Te}(hg:isT g q7y 1=true)(gd:Gdl g)(h:∀g',Gdl g'→rho g'<rho g→qiq tr r g'){x:X24}(hx:x.tr=tr)(h1:1≤x.na)(h2:x.na+rho g≤1099511627776):Bod tr (q8s r x g) x (rho g - 2):=by
 obtain⟨hr,hl⟩:=qa2 (.inr hg);have p0:=zw (q08 (ag g 0));have hi:=q22 (ag g 0);have g0:Gdl (q08 (ag g 0)):=Gdl.inner (qbg gd.1 (by omega));have d:=qou (h _ g0 (by omega)) hx h1 (by omega);exact⟨by simpa[q8s,qo2] using d.mono (by omega),.inl rfl⟩
theorem z8f(g:Te)(c:Int)(x:X24)(l:List (List FG)):(q1w g c x l).map (·.g)=l:=by
 unfold q1w;rw[List.map_map];exact List.map_id l
theorem qeh{tr:Bool}{b:X24→List (List FG)×X24}{x:X24}{g:Te}{c:Int}{m:Nat}(h:Bod tr (b x.pred) x.pred m)(h1:1≤x.na)(h2:x.na<1099511627775)(hgl:∀gs∈(b x.pred).1,gs.length≤9000000000000):Dfn tr x (onR (q58 b x g c)).1 (onR (q58 b x g c)).2 (m+1):=by
 obtain⟨hd,hl⟩:=h;obtain⟨hx,hy,hok,new,a1,a2,a3,a4,a5⟩:=hd;unfold q58 onR;generalize b x.pred=R at *;have e0:x.pred.na=x.na+1:=rfl;have e1:x.pred.aux=x.aux++[[]]:=rfl;rw[e0] at a2 a4;rw[e1] at a1;refine⟨hx,hy,by simp[okg,q31,q9z,show ¬x.na=0 by omega],q1w g c x R.1::new,?_,?_,by simp;omega,⟨⟨by simpa[q1w] using hl,?_,?_,?_,?_⟩,a4⟩,?_⟩
 ·show R.2.aux.set x.aux.length (q1w g c x R.1)=_
  rw[a1];simp
 ·show R.2.na=_
  rw[a2,uS]
  push_cast
  omega
 ·have:hP (q1w g c x R.1)=q9z g c x:=by
   unfold hP q1w;have:0<R.1.length:=by omega
   simp[gnG,this]
  rw[this];rfl
 ·have:hP (q1w g c x R.1)=q9z g c x:=by
   unfold hP q1w;have:0<R.1.length:=by omega
   simp[gnG,this]
  rw[this];intro r hr;simp only[q1w,uT] at hr;obtain⟨a,-,rfl⟩:=hr;rfl
 ·intro r hr;simp only[q1w,uT] at hr;obtain⟨a,ha,rfl⟩:=hr;rw[uH] at hok⊢;exact fun q hq=>hok q (List.mem_flatten.2 ⟨a,ha,hq⟩)
 ·intro r hr;simp only[q1w,uT] at hr;obtain⟨a,ha,rfl⟩:=hr;exact hgl a ha
 ·have hpp:hP (q1w g c x R.1)=q9z g c x:=by
   unfold hP q1w;have:0<R.1.length:=by omega
   simp[gnG,this]
  rw[uE,q9i,uP,hpp];have e3:jz tr (q1w g c x R.1)=q0a tr R.1.flatten:=by
   unfold jz;rw[z8f]
  have e4:q0a tr [q31 (q9z g c x) (q97 g c)]=[q9z g c x]:=by
   have:q5e tr (q31 (q9z g c x) (q97 g c))=true:=by
    simp[q5e,q31,q9z,show ¬x.na=0 by omega,h2]
   simp[q0a,this];rfl
  rw[e3,e4];exact kB.cons _ a5
theorem qzg{tr:Bool}{x:X24}{g:Te}(hx:x.tr=tr)(hc:qbx g.s (g.l.length:Nat)=false):Dfn tr x (qfw x g).1 (qfw x g).2 0:=by
 have o1:okg (qd8 g)=true:=by simp[okg,qd8,q31,hc]
 have o2:∀t,q5e t (qd8 g)=false:=fun t=>by simp[q5e,qd8,q31]
 unfold qfw;split
 ·exact Dfn.ops hx hx rfl rfl (by simp[o1]) (by simp[o2])
 ·rename_i hb;have ht:x.tr=true:=by
   cases h:x.tr with
   |true=>rfl
   |false=>simp[h] at hb
  rw[ht] at hx;subst hx;refine Dfn.ops ht ht rfl rfl ?_ ?_
  ·have o3:∀l,okg (q31 ⟨⟨#[]⟩,2,1099511627776⟩ l)=true:=fun l=>by simp[okg,q31]
   have o4:∀l,okg (q31 ⟨⟨#[]⟩,2,1099511627775⟩ l)=true:=fun l=>by simp[okg,q31]
   simp only[List.all_cons,List.all_nil,o1,o3,o4,kN]
  ·have o3:∀l,q5e true (q31 ⟨⟨#[]⟩,2,1099511627776⟩ l)=false:=fun l=>by simp[q5e,q31]
   have o4:∀l,q5e true (q31 ⟨⟨#[]⟩,2,1099511627775⟩ l)=false:=fun l=>by simp[q5e,q31]
   simp[o2,o3,o4]
theorem z2q{g:Te}(gd:Gdl g)(n1:¬isT g qb0 0=true)(n2:¬isT g qc3 0=true)(n3:¬isT g qpm 0=true)(n4:¬isT g q24 2=true)(n5:¬isT g q26 2=true)(n6:¬isT g ju 2=true)(n7:¬isT g qdf 1=true)(n8:¬isT g q7y 1=true):qbx g.s (g.l.length:Nat)=false:=by
 have hk:=gd.kind;have is:∀s(n:Int),isT g s n=true↔g.s=s∧((g.l.length:Nat):Int)=n:=fun s n=>by
  simp only[isT,gnB,uM,gnD];exact⟨fun h=>⟨h.1.2,h.2⟩,fun h=>⟨⟨hk,h.1⟩,h.2⟩⟩
 rw[is] at n1 n2 n3 n4 n5 n6 n7 n8;unfold qbx;rw[decide_eq_false_iff_not];rintro(⟨h|h|h,hn⟩|⟨h|h|h,hn⟩|⟨h|h,hn⟩)
 ·exact n1 ⟨h,hn⟩
 ·exact n2 ⟨h,hn⟩
 ·exact n3 ⟨h,hn⟩
 ·exact n4 ⟨h,hn⟩
 ·exact n5 ⟨h,hn⟩
 ·exact n6 ⟨h,hn⟩
 ·exact n7 ⟨h,hn⟩
 ·exact n8 ⟨h,hn⟩
theorem qvm{r:Rec}{g:Te}(hg:isT g q26 2=true)(h:∀g',rho g'<rho g→qb2 r g')(x:X24)(c:Int):∀gs∈(q18 r x g c).1,gs.length≤3 * rho g+1:=by
 have hr:=(q2r (.inr (.inl hg))).1;unfold q18;split
 ·rename_i ha;have hr2:=(q2r (.inr (.inr ha))).1;have b0:=(qxs (h (ag (ag g 0) 0) (by omega)) (h (ag (ag g 0) 1) (by omega)) x c).2;have b1:=(h (ag g 1) (by omega) (qt3 r x (ag (ag g 0) 0) (ag (ag g 0) 1) c).2 c).2;intro gs hgs;simp only[qn5,uB,uZ,or_false] at hgs;rcases hgs with rfl|rfl<;>omega
 ·have b0:=(h (ag g 0) (by omega) x c).2;have b1:=(h (ag g 1) (by omega) (r x (ag g 0) c).2 c).2;intro gs hgs;simp only[qn5,uB,uZ,or_false] at hgs;rcases hgs with rfl|rfl<;>omega
theorem z3n{r:Rec}{g:Te}(hg:isT g ju 2=true)(h:∀g',rho g'<rho g→qb2 r g')(x:X24)(c:Int):∀gs∈(q8m r x g c).1,gs.length≤3 * rho g+1:=by
 have hr:=(q2r (.inr (.inr hg))).1;have b:=(q2l (f:=fun y=>r y (ag g 1) c) (q8o (h (ag g 0) (by omega)) x) (h (ag g 1) (by omega) _ c)).2;intro gs hgs;simp only[q8m,qo2,uN] at hgs;subst hgs;omega
theorem z5g{r:Rec}{g:Te}(hg:isT g qdf 1=true)(h:∀g',rho g'<rho g→qb2 r g')(x:X24):∀gs∈(qfe r x g).1,gs.length≤3 * rho g+1:=by
 have hr:=(qa2 (.inl hg)).1;have hi:=q22 (ag g 0);have b:=(qxx (h (q08 (ag g 0)) (by omega)) x).2;intro gs hgs;simp only[qfe,noX,uB,uZ,or_false] at hgs;rcases hgs with rfl|rfl
 ·omega
 ·exact uC _
theorem z1u{r:Rec}{g:Te}(hg:isT g q7y 1=true)(h:∀g',rho g'<rho g→qb2 r g')(x:X24):∀gs∈(q8s r x g).1,gs.length≤3 * rho g+1:=by
 have hr:=(qa2 (.inr hg)).1;have hi:=q22 (ag g 0);have b:=(q8o (h (q08 (ag g 0)) (by omega)) x).2;intro gs hgs;simp only[q8s,qo2,uN] at hgs;subst hgs;omega
theorem z16{tr:Bool}{r:Rec}{g:Te}(gd:Gdl g)(hB:∀g',rho g'<rho g→qb2 r g')(h:∀g',Gdl g'→rho g'<rho g→qiq tr r g'):qiq tr (q49 r) g:=fun x c hx h1 h2=>by
 have hp:=zw g;have hxp:x.pred.tr=tr:=hx;have e0:x.pred.na=x.na+1:=rfl;unfold q49;split
 ·exact(Dfn.ops hx hx rfl rfl rfl rfl).mono (uC _)
 rename_i n1;split
 ·exact(qyr (by decide) hx hx rfl rfl).mono (uC _)
 rename_i n2;split
 ·exact(qyr (by decide) hx hx rfl rfl).mono (uC _)
 rename_i n3;split
 ·rename_i hg;have hr:=(q2r (.inl hg)).1;have p0:=zw (ag g 0);have p1:=zw (ag g 1);have d:=h _ (gd.arg (.inl hg) (j:=0) (by omega)) (by omega) x c hx h1 (by omega);exact(d.app (q7v (h _ (gd.arg (.inl hg) (j:=1) (by omega)) (by omega)) d h1 (by omega) c)).mono (by omega)
 rename_i n4;split
 ·rename_i hg;have hr:=(q2r (.inr (.inl hg))).1;have p0:=zw (ag g 0);have p1:=zw (ag g 1);exact(qeh (qvv hg gd h hxp (by omega) (by omega) c) h1 (by omega) fun gs hgs=>uF (qvm hg hB _ c gs hgs) (by omega)).mono (by omega)
 rename_i n5;split
 ·rename_i hg;have hr:=(q2r (.inr (.inr hg))).1;have p0:=zw (ag g 0);have p1:=zw (ag g 1);exact(qeh (z0u hg gd h hxp (by omega) (by omega) c) h1 (by omega) fun gs hgs=>uF (z3n hg hB _ c gs hgs) (by omega)).mono (by omega)
 rename_i n6;split
 ·rename_i hg;have hr:=(qa2 (.inl hg)).1;have p0:=zw (ag g 0);exact(qeh (z5t hg gd h hxp (by omega) (by omega)) h1 (by omega) fun gs hgs=>uF (z5g hg hB _ gs hgs) (by omega)).mono (by omega)
 rename_i n7;split
 ·rename_i hg;have hr:=(qa2 (.inr hg)).1;have p0:=zw (ag g 0);exact(qeh (z3r hg gd h hxp (by omega) (by omega)) h1 (by omega) fun gs hgs=>uF (z1u hg hB _ gs hgs) (by omega)).mono (by omega)
 rename_i n8;exact(qzg hx (z2q gd n1 n2 n3 n4 n5 n6 n7 n8)).mono (uC _)
theorem qoq{tr:Bool}:∀(n:Nat)(g:Te),Gdl g→rho g≤n→qiq tr (qk2 n) g
 |0,g,_,h=>by have:=zw g;omega
 |n+1,g,gd,h=>z16 gd (fun g' hg'=>qh2 n g' (by omega)) fun g' gd' hg'=>qoq n g' gd' (by omega)
theorem qom{tr:Bool}{g:Te}(gd:Gdl g):qiq tr jq g:=fun x c=>qoq (rho g) g gd (kA _) x c
theorem z57{tr:Bool}{x:X24}{h:FC}{b:Te}(gd:Gdl b)(hx:x.tr=tr)(h1:1≤x.na)(h2:x.na+(rho b:Int)≤1099511627775)(hg:h.g=[]):Dfn tr x (q5q x h b).1 (q5q x h b).2 (rho b - 1):=by
 unfold q5q;split
 ·rw[hg];have d0:Dfn tr x ([]++[opG 2 x.nv]) x.var 0:=qyr (by decide) hx hx rfl rfl;exact(d0.app (qom gd x.var x.nv hx h1 h2)).mono (by omega)
 ·exact qom gd x 0 hx h1 h2
def qlx(n:Int):List FC→Option Int
 |[]=>some n
 |r::l=>if r.p.x=n then qlx (n+1) l else if r.p.x=n - 1 then qlx n l else none
theorem Ety.x_all{n:Int}{e:List FC}(h:Ety n e):∀r∈e,r.p.x=n:=fun r hr=>by rw[h.pr r hr,h.x]
theorem qu5:∀{l:List (List FC)}{n:Int},qbz n l→qlx n l.flatten=some (n+l.length)
 |[],n,_=>by simp[qlx]
 | e :: l, n, h => by
  have ih:=qu5 h.2;have hx:=h.1.x_all;have e2:n+((e::l).length:Int)=n+1+(l.length:Int):=by simp;omega
  rw[uE,e2];rcases h.1.len with hl|hl
  ·match e,hl with
   |[r],_=>
    have h1:=hx r (by simp);simp only[kI,uU,qlx,if_pos h1,ih]
  ·match e,hl with
   |[r,q],_=>
    have h1:=hx r (by simp);have h2:=hx q (by simp);simp only[kI,uU,qlx,if_pos h1,h2,if_neg (show ¬n=n+1 by omega),if_pos (show n=n+1 - 1 by omega),ih]
theorem qwi:∀{l:List (List FC)}{n:Int},qbz n l→∀r∈l.flatten,n≤r.p.x
 |[],n,_,r,hr=>by simp at hr
 | e :: l, n, h, r, hr => by
  rw[uE,uK] at hr;rcases hr with hr|hr
  ·rw[h.1.x_all r hr];exact Int.le_refl _
  ·have:=qwi h.2 r hr;omega
theorem z0m:∀{l:List (List FC)}{n:Int},qbz n l→∀p∈l.map hP,n≤p.x
 |[],n,_,p,hp=>by simp at hp
 | e :: l, n, h, p, hp => by
  rw[uP,uB] at hp;rcases hp with rfl|hp
  ·rw[h.1.x];exact Int.le_refl _
  ·have:=z0m h.2 p hp;omega
def qde(p:Pr)(l:List FC):Nat:=(l.filter fun r=>decide (r.p=p)).length
theorem qs8(p:Pr)(a b:List FC):qde p (a++b)=qde p a+qde p b:=by simp[qde]
theorem qo7{p:Pr}{l:List FC}(h:∀r∈l,r.p≠p):qde p l=0:=by
 unfold qde;rw[List.length_eq_zero_iff,List.filter_eq_nil_iff];intro r hr;simpa using h r hr
theorem z0d{p:Pr}{l:List FC}(h:∀r∈l,r.p=p):qde p l=l.length:=by
 unfold qde;rw[List.filter_eq_self.2 fun r hr=>by simpa using h r hr]
theorem qrw:∀{l:List (List FC)}{n:Int},qbz n l→∀p∈l.map hP,qde p l.flatten=1∨qde p l.flatten=2
 |[],n,_,p,hp=>by simp at hp
 | e :: l, n, h, p, hp => by
  rw[uP,uB] at hp;rw[uE,qs8];rcases hp with rfl|hp
  ·rw[z0d h.1.pr,qo7 (l:=l.flatten) fun r hr he=>by
    have h1:=qwi h.2 r hr;rw[he,h.1.x] at h1;omega]
   have:=h.1.len;omega
  ·have h1:=z0m h.2 p hp;rw[qo7 (l:=e) fun r hr he=>by
    have h2:=h.1.x_all r hr;rw[he] at h2;omega]
   have:=qrw h.2 p hp;omega
theorem qk1:∀{l:List (List FC)}{n:Int},qbz n l→((l.map hP).map (·.x)).Nodup
 |[],n,_=>by simp
 |e::l,n,h=>by
  rw[uP,uP,List.nodup_cons];refine⟨fun hm=>?_,qk1 h.2⟩;obtain⟨p,hp,he⟩:=uT.1 hm;have h1:=z0m h.2 p hp;have h2:=h.1.x;omega
theorem qlq:∀{l:List (List FC)}{n:Int},qbz n l→l.flatten.length≤2 * l.length
 |[],n,_=>by simp
 |e::l,n,h=>by
  have:=qlq h.2;have:=h.1.len;rw[uE,uA,uS];omega
theorem qy6:∀{l:List (List FC)}{n:Int},qbz n l→∀r∈l.flatten,r.g.all okg=true
 |[],n,_,r,hr=>by simp at hr
 |e::l,n,h,r,hr=>by
  rw[uE,uK] at hr;rcases hr with hr|hr
  ·exact h.1.ok r hr
  ·exact qy6 h.2 r hr
theorem qx7:∀{l:List (List FC)}{n:Int},qbz n l→∀r∈l.flatten,r.g.length≤9000000000000
 |[],n,_,r,hr=>by simp at hr
 |e::l,n,h,r,hr=>by
  rw[uE,uK] at hr;rcases hr with hr|hr
  ·exact h.1.gl r hr
  ·exact qx7 h.2 r hr
def q06:Ct:=⟨4,[.val (.st 25),.val (.int .i64),.val (.bool)],[(.bool,false)],[],none,[],[]⟩
theorem q8t:EnZ q06:=fun _ _=>by kernel_rfl
def qab:Ann:=⟨[0,1,2,3,6,7,8,9,10,11,12,13,14,15,16,17,26,74,79,89,117,136,164,176,184,188,194,206,214,217,230],[(9,⟨[(6,.bool,false),(10,.row 35,false),(9,.int .i64,false),(11,.int .i64,false)],[],[76,77,78,79,12,82,83,84,85,86,87,88,89,92,93,94,95,96,97,98,99,13,100,101,102,103,104,105,106,107,108,109,110,111,112,113,114,115,116,117,118,119,120,121,122,123,124,125,126,127,128,129,130,131,132,133,134,135,136,137,138,139,140,141,90,91,142,143,144,145,146,147,148,149,150,151,152,153,154,155,156,157,158,159,160,161,162,163,164,165,166,167,168,169,170,171,172,173,174,175,176,177,178,80,81],[]⟩),
 (12,⟨[(6,.bool,false),(10,.row 35,false),(12,.int .i64,false)],[],[82,83,84,85,86,87,88,89,92,93,94,95,96,97,98,99,13,100,101,102,103,104,105,106,107,108,109,110,111,112,113,114,115,116,117,118,119,120,121,122,123,124,125,126,127,128,129,130,131,132,133,134,135,136,137,138,139,140,141,90,91],[]⟩),
 (26,⟨[(6,.bool,false),(14,.int .i64,false)],[],[185,186,187,188,15,16,191,192,193,194,197,198,199,200,201,202,203,204,205,206,207,208,195,196,209,210,211,212,213,214,17,215,216,217,220,221,222,223,224,225,226,227,228,229,230,218,219,189,190],[]⟩),
 (30,⟨[(15,.int .i64,false),(16,.int .i64,false)],[],[191,192,193,194,197,198,199,200,201,202,203,204,205,206,207,208,195,196],[]⟩),
 (37,⟨[(6,.bool,false),(17,.int .i64,false)],[],[215,216,217,220,221,222,223,224,225,226,227,228,229,230,218,219],[]⟩)]⟩
def q1t:Tree:=
 let a:X:=.call 0 0 [(.tok 0),(.tok 1),(.tok 2)]
 let d:X:=.lit (.i 0)
 let f:X:=.lit (.i 1)
 let h:X:=.call 0 1 [(.tok 0),(.tok 1),(.tok 2)]
 let i:X:=.tok 6
 let j:X:=.lit (.b .true)
 let m:X:=.lit (.b .false)
 let n:X:=.tok 8
 let s:X:=.tok 4
 let t:X:=.tok 10
 let u:X:=.tok 5
 let x:X:=.tok 12
 let d1:X:=.fld (.fld (.tok 0) 0) 3
 let e1:X:=.tok 7
 let b:X:=.or (.eq (.len a) d) (.lt (.lit (.i 4000)) (.len a))
 let e:X:=.get (.fld (.get a i) 2) (.tok 9)
 let k:X:=.lt d (.len a)
 let o:X:=.add (.tok 9) f
 let p:X:=.lt i (.len a)
 let r:X:=.and (.or (.eq h f) (.eq h (.lit (.i 2)))) (.eq (.len a) d)
 let w:X:=.lt (.tok 9) (.len (.fld (.get a i) 2))
 let y:X:=.le d i
 let z:X:=.lt d i
 let a1:X:=.lt n (.len s)
 let b1:X:=.fld (.fld (.get a i) 0) 2
 let f1:X:=.add i f
 let g1:X:=.add t f
 let c:X:=.or b (.not (.eq (.fld (.get a d) 0) (.set (.set (.lit (.a [(.s ⟨#[]⟩),(.i 0),(.i 0)])) 0 (.fld (.fld (.tok 0) 0) 2)) 1 (.len d1))))
 let g:X:=.and z (.not (.eq b1 u))
 let l:X:=.not b
 let q:X:=.fld e 1
 let v:X:=.and (.eq (.fld e 0) f) (.eq (.fld q 2) d)
 let c1:X:=.not c
 (.need [(.ok 0 [(.tok 0),(.tok 1),(.tok 2)])] (.br (.not (.eq h d)) (.need [(.imp r (.ok 1 []))] (.leaf [(.and r (.call 1 0 []))])) (.need [(.imp c1 (.ok 2 [(.fld (.get a d) 1),d1])),(.imp c1 j),(.imp c1 k),(.imp c1 j),(.imp c1 k),(.imp l j),(.imp l k),(.imp l j),(.imp l k),(.imp l j),(.imp l k),(.imp l j),(.imp l k),(.imp l j),(.imp l k),(.imp l j),(.imp l k),(.imp l j),(.imp l k),(.imp l j),(.imp l k)] (.br (.or c (.not (.call 2 0 [(.fld (.get a d) 1),d1]))) (.leaf [m]) (.loop 9 3 [m,(.lit (.r [])),(.tok 1),d] (.br p (.loop 12 7 [(.tok 3),s,d] (.need [y,p] (.br w (.need [y,p,(.le d (.tok 9)),w] (.need [(.imp v (.ok 3 [(.fld q 0),(.fld q 1)]))] (.br (.and v (.call 3 0 [(.fld q 0),(.fld q 1)])) (.leaf [m]) (.br (.and (.and (.eq (.fld e 0) f) (.not (.eq (.fld q 2) d))) (.or (.not (.tok 2)) (.lt (.fld q 2) (.lit (.i 1099511627775))))) (.need [(.le (.add (.len n) f) (.lit (.i 4398046510976)))] (.need [(.rng .i64 o)] (.back 12 [e1,(.app n (.row [q])),o]))) (.need [(.rng .i64 o)] (.back 12 [e1,n,o])))))) (.need [(.imp z y),(.imp z p),(.imp g y),(.imp g p),(.imp g (.rng .i64 (.sub u f)))] (.br (.and g (.not (.eq b1 (.sub u f)))) (.leaf [m]) (.need [(.imp z y),(.imp z p)] (.br (.and z (.eq b1 u)) (.need [(.rng .i64 (.add u f))] (.need [(.rng .i64 f1)] (.back 9 [e1,n,(.add u f),f1]))) (.need [(.rng .i64 f1)] (.back 9 [e1,n,u,f1]))))))))) (.need [(.rng .i64 (.sub u (.tok 1)))] (.br (.not (.eq (.len s) (.sub u (.tok 1)))) (.leaf [m]) (.loop 26 7 [(.tok 3),d] (.br a1 (.loop 30 9 [d,f] (.br (.lt t (.len a)) (.need [(.le d n),a1,(.le d t),(.lt t (.len a))] (.br (.eq (.fld (.get a t) 0) (.get s n)) (.need [(.rng .i64 o)] (.need [(.rng .i64 g1)] (.back 30 [o,g1]))) (.need [(.rng .i64 g1)] (.back 30 [(.tok 9),g1])))) (.br (.or (.lt (.tok 9) f) (.lt (.lit (.i 2)) (.tok 9))) (.leaf [m]) (.loop 37 11 [e1,d] (.br (.lt x n) (.need [(.le d n),a1,(.le d x),(.lt x (.len s))] (.br (.eq (.fld (.get s x) 2) (.fld (.get s n) 2)) (.leaf [m]) (.need [(.rng .i64 (.add x f))] (.back 37 [(.tok 11),(.add x f)])))) (.need [(.rng .i64 (.add n f))] (.back 26 [(.tok 11),(.add n f)]))))))) (.need [(.ok 1 [])] (.leaf [(.call 1 0 [])]))))))))))))
theorem q99(g0 g1 g2 g3:GfZ):CdZ [(jp,g0),(q1o,g1),(jk,g2),(jf,g3)] qab q06 Try.f4 q1t:=fun cd h=>by injection h with h;subst h;kernel_rfl
theorem qac{g0 g1 g2 g3 g:GfZ}(h0:FOk jp g0)(h1:FOk q1o g1)(h2:FOk jk g2)(h3:FOk jf g3)(h:HgZ q1t q06 [(jp,g0),(q1o,g1),(jk,g2),(jf,g3)] g):FOk q06 g:=j6 (q99 g0 g1 g2 g3) (.cons h0 (.cons h1 (.cons h2 (.cons h3 .nil)))) rfl rfl q8t (by decide) h
theorem qli{t:Te}(h:zu t=true):qlg t=true:=by
 unfold qlg;rw[uH];intro v hv;unfold q65 at hv;rw[if_pos h] at hv;have:=qsg t [] (q3b.1 h).2 (fun x hx=>by cases hx) v hv;simp only[gnB,gnD];omega
theorem zb2{vs:List Int}:∀{m:Int},0≤m→m≤1099511627777→(∀v∈vs,v≤1099511627776)→0≤vs.foldl mxI m∧vs.foldl mxI m≤1099511627777:=by
 induction vs with
 |nil=>exact fun h1 h2 _=>⟨h1,h2⟩
 |cons v vs ih=>
  intro m h1 h2 h3;have hv:=h3 v (by simp);rw[kK];refine ih ?_ ?_ fun w hw=>h3 w (by simp[hw])
  ·unfold mxI;split<;>omega
  ·unfold mxI;split<;>omega
theorem z3x{l:List Te}(h:∀t∈l,qlg t=true):0≤q38 l∧q38 l≤1099511627777:=by
 unfold q38
 suffices H:∀(l:List Te)(m:Int),(∀t∈l,qlg t=true)→0≤m→m≤1099511627777→0≤l.foldl qda m∧l.foldl qda m≤1099511627777 from H l 0 h (by omega) (by omega)
 intro l
 induction l with
 |nil=>exact fun m _ h1 h2=>⟨h1,h2⟩
 | cons t l ih =>
  intro m h h1 h2;have ht:=h t (by simp);unfold qlg at ht;rw[uH] at ht;have:=zb2 (vs:=q65 t) h1 h2 fun v hv=>by
   have:=ht v hv;simp only[gnB,gnD] at this;exact this.2
  rw[kK];exact ih _ (fun u hu=>h u (by simp[hu])) this.1 this.2
def z37(c:Cla)(f:Int):Bool:=(!q1r c||decide (f<1))||decide (1099511623776<f)
structure Trn(c:Cla)(f:Int)(tr:Bool)(new:List (List FC)):Prop where
 v1:zu c.1=true
 f0:1≤f
 f1:f≤1099511623776
 aux:(q5q (yr c f tr) (q15 c.1) c.2).2.aux=new
 len:new.length≤1999
 ents:qbz f new
 ok:(q5q (yr c f tr) (q15 c.1) c.2).1.all okg=true
 perm:(q0a tr (q5q (yr c f tr) (q15 c.1) c.2).1++jz tr new.flatten).Perm (new.map hP)
 glen:(q5q (yr c f tr) (q15 c.1) c.2).1.length≤10000
 okc:okC c f tr=true
theorem z30{c:Cla}{f:Int}{tr:Bool}(hb:z37 c f=false):∃new,Trn c f tr new:=by
 have hb0:=hb;simp only[z37,kE,decide_eq_false_iff_not,kH] at hb;obtain⟨⟨hv,hf1⟩,hf2⟩:=hb;simp only[q1r,gnB,gnD] at hv;obtain⟨⟨hv1,hc1⟩,hfit,hv2,hbu,-,-⟩:=hv;have hz:=(qtt c).1 hfit;have hz1:=qje c.1;have hr:=z35 c.2;have hr0:=zw c.2;have gd:Gdl c.2:=⟨(q3b.1 hv2).2,c.2,hbu⟩;have o1:=qli hv1;have o2:=qli hv2;have ha:=z3x (l:=[c.1,c.2]) (by simp[o1,o2]);have e1:(yr c f tr).na=f:=rfl;have e2:(yr c f tr).nv=q38 [c.1,c.2]:=rfl;have e3:(yr c f tr).aux=[]:=rfl;have d:=z57 (h:=q15 c.1) gd (show(yr c f tr).tr=tr from rfl) (by rw[e1];omega) (by rw[e1];omega) rfl;obtain⟨-,-,hok,new,a1,a2,a3,a4,a5⟩:=d;rw[e3,uU] at a1;rw[e1] at a4;have hfl:=qlq a4;have hgl:(q5q (yr c f tr) (q15 c.1) c.2).1.length≤10000:=by
  unfold q5q;split
  ·have:=(jg c.2 (yr c f tr).var (yr c f tr).nv).2
   show(_++_:List FG).length≤_
   rw[uA]
   show([]++[opG 2 _]:List FG).length+_≤_
   simp only[uU,List.length_singleton];omega
  ·have:=(jg c.2 (yr c f tr) 0).2;omega
 refine⟨new,hv1,by omega,by omega,a1,by omega,a4,hok,a5,hgl,?_⟩;unfold okC;rw[show((!q1r c||decide (f<1))||decide (1099511623776<f))=false from hb0,o1,o2];simp only[uX,kM,kN];unfold okW;rw[gnB,gnB,gnD,gnD,a1];refine⟨⟨?_,uC _⟩,?_⟩
 ·rw[q1y,e1,e2,e3];simp only[kJ];exact⟨by omega,by omega,by omega,by omega,by omega,by omega⟩
 ·rw[←qdv];omega
theorem z4q(c:Cla)(f:Int)(tr:Bool):okC c f tr=true:=by
 cases hb:z37 c f with
 |false=>exact(z30 hb).choose_spec.okc
 |true=>
  unfold okC;rw[show((!q1r c||decide (f<1))||decide (1099511623776<f))=true from hb];rfl
theorem z8h(c:Cla)(f:Int)(tr:Bool):qsd [eK c,.i f,.b tr]=some [q1p (q52 c f tr).1,.i (q52 c f tr).2]:=by
 simp only[qsd,qhc,q04,qdc,z4q,if_true]
theorem qpu(c:Cla)(f:Int)(tr:Bool):q52 c f tr=([],1)∨q52 c f tr=([],2)∨(z37 c f=false∧q52 c f tr=(q1n (yr c f tr) (q15 c.1) c.2,0)):=by
 unfold q52;cases hb:z37 c f with
 |true=>
  rw[if_pos (show((!q1r c||decide (f<1))||decide (1099511623776<f))=true from hb)];exact .inl rfl
 |false=>
  rw[if_neg (by rw[show((!q1r c||decide (f<1))||decide (1099511623776<f))=false from hb];decide)];unfold q3f;split
  ·exact .inr (.inr ⟨rfl,rfl⟩)
  ·exact .inr (.inl rfl)
theorem z8p{t u:Te}(h:u∈t.l):szT u≤szT t:=by
 cases t with
 | mk k n s l =>
  have:∀l:List Te,u∈l→szT u≤q2x l:=by
   intro l
   induction l with
   |nil=>intro h;cases h
   | cons a l ih =>
    intro h;rw[q2x];rcases uB.1 h with rfl|h
    ·omega
    ·have:=ih h;omega
  have:=this l h;rw[szT];omega
theorem qzi{t:Te}(h:zu t=true):q6x (t.l.map q1s) t.l=true:=by
 unfold q6x;rw[uV,decide_eq_true rfl,kM,uH];intro j hj;have hj:j<t.l.length:=by simpa using hj
 have hm:ag t j∈t.l:=gmem hj;have hv:zu (ag t j)=true:=by
  have:=q3b.1 h;exact q3b.2 ⟨uF (z8p hm) this.1,qbg this.2 hj⟩
 have e:(t.l.map q1s).getD j default=ag t j:=by
  rw[gnG,uY];unfold ag at hv⊢;rw[gnG] at hv⊢;rw[gnK hj] at hv⊢;exact qgm hv
 rw[e]
 show q6q (ag t j) (ag t j)=true
 rw[qeg hv];simp
theorem qvj{tr:Bool}{l:List FG}{j:Nat}(hj:j<l.length):q0a tr (l.take (j+1))=q0a tr (l.take j)++(if q5e tr (l.getD j default) then[(l.getD j default).p] else[]):=by
 rw[ji hj,qcu]
 congr 1
 generalize l.getD j default=q
 show(List.filter (q5e tr) [q]).map (·.p)=_
 rw[List.filter_cons,List.filter_nil];cases q5e tr q<;>rfl
theorem qh8{tr:Bool}{l:List FC}{k:Nat}(hk:k<l.length):jz tr (l.take (k+1))=jz tr (l.take k)++q0a tr (l.getD k default).g:=by
 rw[ji hk,q9i]
 congr 1
 simp[jz]
theorem qyo{tr:Bool}(l:List FG)(j:Nat):(q0a tr (l.take j)).length≤(q0a tr l).length:=by
 have:q0a tr l=q0a tr (l.take j)++q0a tr (l.drop j):=by rw[←qcu,uW]
 rw[this,uA];omega
theorem qul{tr:Bool}{l:List FC}{k:Nat}(hk:k<l.length):(jz tr (l.take k)).length+(q0a tr (l.getD k default).g).length≤(jz tr l).length:=by
 have:jz tr l=jz tr (l.take (k+1))++jz tr (l.drop (k+1)):=by rw[←q9i,uW]
 rw[this,qh8 hk,uA,uA];omega
theorem drop_cons{α:Type}[Inhabited α]{l:List α}{k:Nat}(hk:k<l.length):l.drop k=l.getD k default::l.drop (k+1):=by
 rw[List.drop_eq_getElem_cons hk,gnG,gnK hk];rfl
theorem z2w{p:Pr}{l:List FC}{i:Nat}(h1:1≤i)(hi:i<l.length):qde p ((l.take (i+1)).drop 1)=qde p ((l.take i).drop 1)+if(l.getD i default).p=p then 1 else 0:=by
 rw[ji hi,List.drop_append_of_le_length (by rw[uR];omega),qs8]
 congr 1
 unfold qde;split<;>simp_all
theorem z0g(s:ByteArray)(n:Int):z83 [.s s,.i n]=some [.b (qbx s n)]:=rfl
theorem z8j{q:FG}(h:okg q=true):((decide (q.k=1)&&decide (q.p.x=0))&&qbx q.p.s q.p.a)=false:=by
 simpa only[okg,uO] using h
theorem z1x(tr:Bool)(q:FG):((decide (q.k=1)&& !decide (q.p.x=0))&&(!tr||decide (q.p.x<1099511627775)))=q5e tr q:=by
 unfold q5e;rw[Bool.and_assoc]
theorem qi7:FOk q06 fun _=>some [.b true]:=qac qaj ql8 qf8 qf7 fun ds outs hw hg=>by
 obtain⟨d,r,rfl,hd,e,r',rfl,he,f,r2,rfl,hf,rfl⟩:=hw;obtain⟨c,rfl,hc1,hc2⟩:=wfK hd;obtain⟨f,rfl,hf0⟩:=wfI he;obtain⟨tr,rfl⟩:=hf.bool;injection hg with hg;subst hg;have e0:=z8h c f tr;rw[q1t];simp only[yp,yb,q9f];rcases qpu c f tr with h|h|⟨hb,h⟩
 ·rw[h] at e0;have e0:qsd [eK c,.i f,.b tr]=some [.r [],.i 1]:=e0;refine⟨by simp only[gnZ,gnT,qr,ql,qj,qd,qp,qu,qk,qt,qq,qm,qn,qo,qg,qi,qh,z8,zl,zh,ze,zj,zg,qe,qx,qc,qf,e0],fun _=>by simp[gnZ,gnT,qr,ql,qj,qd,qp,qu,qk,qt,qq,qm,qn,qo,qg,qi,qh,z8,zl,zh,ze,zj,zg,qe,qx,qc,qf,e0],fun hq=>?_⟩;simp[gnZ,gnT,qr,ql,qj,qd,qp,qu,qk,qt,qq,qm,qn,qo,qg,qi,qh,z8,zl,zh,ze,zj,zg,qe,qx,qc,qf,e0] at hq
 ·rw[h] at e0;have e0:qsd [eK c,.i f,.b tr]=some [.r [],.i 2]:=e0;refine⟨by simp only[gnZ,gnT,qr,ql,qj,qd,qp,qu,qk,qt,qq,qm,qn,qo,qg,qi,qh,z8,zl,zh,ze,zj,zg,qe,qx,qc,qf,e0],fun _=>by simp[gnZ,gnT,qr,ql,qj,qd,qp,qu,qk,qt,qq,qm,qn,qo,qg,qi,qh,z8,zl,zh,ze,zj,zg,qe,qx,qc,qf,e0],fun hq=>?_⟩;simp[gnZ,gnT,qr,ql,qj,qd,qp,qu,qk,qt,qq,qm,qn,qo,qg,qi,qh,z8,zl,zh,ze,zj,zg,qe,qx,qc,qf,e0] at hq
 ·obtain⟨new,T⟩:=z30 (tr:=tr) hb;rw[h] at e0;have hl2:=qlq T.ents;have hlen:=T.len;have hf0:=T.f0;have hf1:=T.f1;have hrows:q1n (yr c f tr) (q15 c.1) c.2=⟨⟨c.1.s,(c.1.l.length:Nat),0⟩,c.1.l.map q1s,(q5q (yr c f tr) (q15 c.1) c.2).1⟩::new.flatten:=by
   unfold q1n;rw[T.aux];rfl
  have hcl:jz tr (q1n (yr c f tr) (q15 c.1) c.2)=q0a tr (q5q (yr c f tr) (q15 c.1) c.2).1++jz tr new.flatten:=by
   rw[hrows];simp[jz,q0a]
  have hperm:(jz tr (q1n (yr c f tr) (q15 c.1) c.2)).Perm (new.map hP):=by
   rw[hcl];exact T.perm
  have hokg:∀r∈q1n (yr c f tr) (q15 c.1) c.2,r.g.all okg=true:=by
   rw[hrows];intro r hr;rcases uB.1 hr with rfl|hr
   ·exact T.ok
   ·exact qy6 T.ents r hr
  have hgl:∀r∈q1n (yr c f tr) (q15 c.1) c.2,r.g.length≤9000000000000:=by
   rw[hrows];intro r hr;rcases uB.1 hr with rfl|hr
   ·exact uF T.glen (by omega)
   ·exact qx7 T.ents r hr
  have hr0:(q1n (yr c f tr) (q15 c.1) c.2).getD 0 default=⟨⟨c.1.s,(c.1.l.length:Nat),0⟩,c.1.l.map q1s,(q5q (yr c f tr) (q15 c.1) c.2).1⟩:=by rw[hrows];rfl
  have hdr:(q1n (yr c f tr) (q15 c.1) c.2).drop 1=new.flatten:=by rw[hrows];rfl
  have hrl:(q1n (yr c f tr) (q15 c.1) c.2).length=new.flatten.length+1:=by rw[hrows];rfl
  have e0:qsd [eK c,.i f,.b tr]=some [.r ((q1n (yr c f tr) (q15 c.1) c.2).map eFC),.i 0]:=e0;have hnum:=qu5 T.ents;rw[←hdr] at hnum;have hcnt:=qrw T.ents;rw[←hdr] at hcnt;have hnd:((jz tr (q1n (yr c f tr) (q15 c.1) c.2)).map (·.x)).Nodup:=(hperm.map (·.x)).nodup_iff.2 (qk1 T.ents);have hmem:∀p∈jz tr (q1n (yr c f tr) (q15 c.1) c.2),p∈new.map hP:=fun p hp=>hperm.mem_iff.1 hp;have hcll:(jz tr (q1n (yr c f tr) (q15 c.1) c.2)).length=new.length:=by
   have:=hperm.length_eq;rwa [uV] at this
  have hv1:=T.v1;clear T hrows hcl h;generalize q1n (yr c f tr) (q15 c.1) c.2=rows at *;generalize q5q (yr c f tr) (q15 c.1) c.2=RX at *;have hget0:(D.r (rows.map eFC)).get 0=eFC (rows.getD 0 default):=qax eFC (k:=0) (by omega);have esm:z4w q6x [.r ((c.1.l.map q1s).map eT),.r (c.1.l.map eT)]=some [.b true]:=by
   simp only[z4w,q7p,q4g,qzi hv1]
  have ehead:D.a ((D.a ((ePr zPr).fs.set 0 (.s c.1.s))).fs.set 1 (.i (c.1.l.length:Nat)))=ePr ⟨c.1.s,(c.1.l.length:Nat),0⟩:=rfl;refine⟨by simp only[gnZ,gnT,qr,ql,qj,qd,qp,qu,qk,qt,qq,qm,qn,qo,qg,qi,qh,z8,zl,zh,ze,zj,zg,qe,qx,qc,qf,e0],fun hq=>by simp[gnZ,gnT,qr,ql,qj,qd,qp,qu,qk,qt,qq,qm,qn,qo,qg,qi,qh,z8,zl,zh,ze,zj,zg,qe,qx,qc,qf,e0] at hq,fun _=>⟨?_,fun hq=>?_,fun _=>?_⟩⟩
  ·have q0:decide (0<(rows.length:Int))=true:=decide_eq_true (by omega);simp only[gnZ,gnT,qr,ql,qj,qd,qp,qu,qk,qt,qq,qm,qn,qo,qg,qi,qh,z8,zl,zh,ze,zj,zg,qe,qx,qc,qf,e0,qa9,hget0,hr0,ehead,esm];simp only[q0,kC,and_self]
  ·exfalso;have q1:decide ((rows.length:Int)=0)=false:=decide_eq_false (by omega);have q2:decide (4000<(rows.length:Int))=false:=decide_eq_false (by omega);simp only[gnZ,gnT,qr,ql,qj,qd,qp,qu,qk,qt,qq,qm,qn,qo,qg,qi,qh,z8,zl,zh,ze,zj,zg,qe,qx,qc,qf,e0,qa9,hget0,hr0,ehead,esm] at hq;simp[q1,q2] at hq;rw[hq] at hrl;simp at hrl
  rw[j4]
  refine⟨fun st=>∃(k:Nat)(nx:Int),k≤rows.length∧st=[.b false,.r ((jz tr (rows.take k)).map ePr),.i nx,.i k]∧f≤nx∧nx≤f+k∧((k=0∧nx=f)∨(1≤k∧qlx nx (rows.drop k)=some (f+new.length))),
   fun st=>rows.length - (st.getD 3 .u).int.toNat,⟨0,f,uC _,rfl,Int.le_refl _,by simp,.inl ⟨rfl,rfl⟩⟩,?_⟩
  rintro st - ⟨k,nx,hk,rfl,hn1,hn2,hn3⟩;rw[yb];refine⟨fun hlt=>?_,fun hlt=>?_⟩
  ·simp only[gnZ,gnT,qr,ql,qj,qd,qp,qu,qk,qt,qq,qm,qn,qo,qg,qi,qh,z8,zl,zh,ze,zj,zg,qe,qx,qc,qf,e0] at hlt;have hkl:k<rows.length:=by omega
   have hmr:rows.getD k default∈rows:=gmem hkl;have hrg:=hokg _ hmr;have hrn:=hgl _ hmr;have hcl2:=qul (tr:=tr) hkl;have hsn:=qh8 (tr:=tr) hkl;have hdk:=drop_cons hkl;have egk:(D.r (rows.map eFC)).get (k:Int)=eFC (rows.getD k default):=qax eFC hkl;generalize rows.getD k default=r at *;generalize jz tr (rows.take k)=c0 at *;rw[j4];refine⟨fun st=>∃j:Nat,j≤r.g.length∧st=[.b false,.r ((c0++q0a tr (r.g.take j)).map ePr),.i j],fun st=>r.g.length - (st.getD 2 .u).int.toNat,⟨0,uC _,by simp[X.evs,X.ev,evl,q0a]⟩,?_⟩;rintro st - ⟨j,hj,rfl⟩;rw[yp,yb];refine⟨by simp only[gnZ,gnT,qr,ql,qj,qd,qp,qu,qk,qt,qq,qm,qn,qo,qg,qi,qh,z8,zl,zh,ze,zj,zg,qe,qx,qc,qf,e0];omega,fun hlt2=>?_,fun hlt2=>?_⟩
   ·simp only[gnZ,gnT,qr,ql,qj,qd,qp,qu,qk,qt,qq,qm,qn,qo,qg,qi,qh,z8,zl,zh,ze,zj,zg,qe,qx,qc,qf,e0,egk] at hlt2;have hjl:j<r.g.length:=by omega
    have hq:=uH.1 hrg _ (gmem (d:=default) hjl);have hq1:=z8j hq;have hcs:=qvj (tr:=tr) hjl;have hcl3:=qyo (tr:=tr) r.g j;have egj:(D.r (r.g.map eFG)).get (j:Int)=eFG (r.g.getD j default):=qax eFG hjl;generalize r.g.getD j default=q at *;have hia:=z1x tr q;simp only[yp,yb];refine⟨by simp only[gnZ,gnT,qr,ql,qj,qd,qp,qu,qk,qt,qq,qm,qn,qo,qg,qi,qh,z8,zl,zh,ze,zj,zg,qe,qx,qc,qf,e0,egk];omega,by simp only[gnZ,gnT,qr,ql,qj,qd,qp,qu,qk,qt,qq,qm,qn,qo,qg,qi,qh,z8,zl,zh,ze,zj,zg,qe,qx,qc,qf,e0,egk,egj,z0g],fun hb1=>?_,fun _=>⟨fun hb2=>⟨?_,?_,?_⟩,fun hb2=>⟨?_,?_⟩⟩⟩
    ·exfalso;simp only[gnZ,gnT,qr,ql,qj,qd,qp,qu,qk,qt,qq,qm,qn,qo,qg,qi,qh,z8,zl,zh,ze,zj,zg,qe,qx,qc,qf,e0,egk,egj,z0g,hq1] at hb1;cases hb1
    ·simp only[gnZ,gnT,qr,ql,qj,qd,qp,qu,qk,qt,qq,qm,qn,qo,qg,qi,qh,z8,zl,zh,ze,zj,zg,qe,qx,qc,qf,uA];omega
    ·simp only[gnZ,gnT,qr,ql,qj,qd,qp,qu,qk,qt,qq,qm,qn,qo,qg,qi,qh,z8,zl,zh,ze,zj,zg,qe,qx,qc,qf];omega
    ·simp only[gnZ,gnT,qr,ql,qj,qd,qp,qu,qk,qt,qq,qm,qn,qo,qg,qi,qh,z8,zl,zh,ze,zj,zg,qe,qx,qc,qf,e0,egk,egj,hia] at hb2;simp only[gnZ,gnT,qr,ql,qj,qd,qp,qu,qk,qt,qq,qm,qn,qo,qg,qi,qh,z8,zl,zh,ze,zj,zg,qe,qx,qc,qf,e0,egk,egj];rw[q0t,if_pos rfl];refine⟨⟨j+1,by omega,?_⟩,by simp[D.int];omega⟩;rw[hcs,hb2];simp
    ·simp only[gnZ,gnT,qr,ql,qj,qd,qp,qu,qk,qt,qq,qm,qn,qo,qg,qi,qh,z8,zl,zh,ze,zj,zg,qe,qx,qc,qf];omega
    ·simp only[gnZ,gnT,qr,ql,qj,qd,qp,qu,qk,qt,qq,qm,qn,qo,qg,qi,qh,z8,zl,zh,ze,zj,zg,qe,qx,qc,qf,e0,egk,egj,hia] at hb2;simp only[gnZ,gnT,qr,ql,qj,qd,qp,qu,qk,qt,qq,qm,qn,qo,qg,qi,qh,z8,zl,zh,ze,zj,zg,qe,qx,qc,qf,e0,egk,egj];rw[q0t,if_pos rfl];refine⟨⟨j+1,by omega,?_⟩,by simp[D.int];omega⟩;rw[hcs,hb2];simp
   ·simp only[gnZ,gnT,qr,ql,qj,qd,qp,qu,qk,qt,qq,qm,qn,qo,qg,qi,qh,z8,zl,zh,ze,zj,zg,qe,qx,qc,qf,e0,egk] at hlt2;obtain rfl:j=r.g.length:=by omega
    rw[uQ];simp only[yp,yb];have hx:k=0∨(1≤k∧(r.p.x=nx∨r.p.x=nx - 1)):=by
     rcases hn3 with h|⟨h,hn⟩
     ·exact .inl h.1
     ·refine .inr ⟨h,?_⟩;rw[hdk,qlx] at hn;split at hn
      ·exact .inl (by assumption)
      ·split at hn
       ·exact .inr (by assumption)
       ·cases hn
    have w1:decide (0≤(k:Int))=true:=decide_eq_true (by omega);have w2:decide ((k:Int)<rows.length)=true:=decide_eq_true (by omega);have w3:q0r .i64 (nx - 1)=true:=qxk.2 ⟨by omega,by omega⟩;refine⟨?_,fun hb1=>?_,fun _=>⟨?_,fun hb2=>?_,fun hb2=>?_⟩⟩
    ·simp only[gnZ,gnT,qr,ql,qj,qd,qp,qu,qk,qt,qq,qm,qn,qo,qg,qi,qh,z8,zl,zh,ze,zj,zg,qe,qx,qc,qf,e0,egk];simp only[w1,w2,w3,kC,and_self]
    ·exfalso;simp only[gnZ,gnT,qr,ql,qj,qd,qp,qu,qk,qt,qq,qm,qn,qo,qg,qi,qh,z8,zl,zh,ze,zj,zg,qe,qx,qc,qf,e0,egk] at hb1;simp only[gnB,uO,gnD,decide_eq_false_iff_not] at hb1;omega
    ·simp only[gnZ,gnT,qr,ql,qj,qd,qp,qu,qk,qt,qq,qm,qn,qo,qg,qi,qh,z8,zl,zh,ze,zj,zg,qe,qx,qc,qf,e0,egk];simp only[w1,w2,kC,and_self]
    ·simp only[gnZ,gnT,qr,ql,qj,qd,qp,qu,qk,qt,qq,qm,qn,qo,qg,qi,qh,z8,zl,zh,ze,zj,zg,qe,qx,qc,qf,e0,egk] at hb2⊢;simp only[gnB,gnD] at hb2;refine⟨⟨by omega,by omega⟩,⟨by omega,by omega⟩,?_⟩;rw[q0t,if_neg (by decide),q0t,if_pos rfl];refine⟨⟨k+1,nx+1,by omega,by rw[hsn];rfl,by omega,by push_cast;omega,.inr ⟨by omega,?_⟩⟩,by simp[D.int];omega⟩;rcases hn3 with h|⟨h,hn⟩
     ·omega
     ·rw[hdk,qlx,if_pos hb2.2] at hn;exact hn
    ·simp only[gnZ,gnT,qr,ql,qj,qd,qp,qu,qk,qt,qq,qm,qn,qo,qg,qi,qh,z8,zl,zh,ze,zj,zg,qe,qx,qc,qf,e0,egk] at hb2⊢;simp only[Bool.and_eq_false_iff,decide_eq_false_iff_not] at hb2;refine⟨⟨by omega,by omega⟩,?_⟩;rw[q0t,if_neg (by decide),q0t,if_pos rfl];refine⟨⟨k+1,nx,by omega,by rw[hsn];rfl,by omega,by push_cast;omega,.inr ⟨by omega,?_⟩⟩,by simp[D.int];omega⟩;rcases hn3 with h|⟨h,hn⟩
     ·rw[h.1,h.2];exact hnum
     ·rw[hdk,qlx,if_neg (by omega),if_pos (by omega)] at hn;exact hn
  ·simp only[gnZ,gnT,qr,ql,qj,qd,qp,qu,qk,qt,qq,qm,qn,qo,qg,qi,qh,z8,zl,zh,ze,zj,zg,qe,qx,qc,qf,e0] at hlt;have hk2:k=rows.length:=by omega
   subst hk2;have hnx:nx=f+new.length:=by
    rcases hn3 with h|⟨h,hn⟩
    ·omega
    ·rw[List.drop_length,qlx] at hn;exact gnI hn
   rw[uQ];generalize jz tr rows=cl at *;simp only[yp,yb];refine⟨by simp only[gnZ,gnT,qr,ql,qj,qd,qp,qu,qk,qt,qq,qm,qn,qo,qg,qi,qh,z8,zl,zh,ze,zj,zg,qe,qx,qc,qf];omega,fun hb1=>?_,fun _=>?_⟩
   ·exfalso;simp only[gnZ,gnT,qr,ql,qj,qd,qp,qu,qk,qt,qq,qm,qn,qo,qg,qi,qh,z8,zl,zh,ze,zj,zg,qe,qx,qc,qf] at hb1;simp only[uO,decide_eq_false_iff_not] at hb1;omega
   rw[j4];refine⟨fun st=>∃k:Nat,k≤cl.length∧st=[.b false,.i k],fun st=>cl.length - (st.getD 1 .u).int.toNat,⟨0,uC _,rfl⟩,?_⟩;rintro st - ⟨k,hk,rfl⟩;rw[yb];refine⟨fun hlt=>?_,fun hlt=>?_⟩
   ·simp only[gnZ,gnT,qr,ql,qj,qd,qp,qu,qk,qt,qq,qm,qn,qo,qg,qi,qh,z8,zl,zh,ze,zj,zg,qe,qx,qc,qf] at hlt;have hkl:k<cl.length:=by omega
    have egk:(D.r (cl.map ePr)).get (k:Int)=ePr (cl.getD k default):=qax ePr hkl;have hpm:=hcnt _ (hmem _ (gmem (d:=default) hkl));generalize hp:cl.getD k default=p at *;rw[j4];refine⟨fun st=>∃i:Nat,1≤i∧i≤rows.length∧st=[.i (qde p ((rows.take i).drop 1):Nat),.i i],fun st=>rows.length - (st.getD 1 .u).int.toNat,⟨1,kA _,by omega,?_⟩,?_⟩
    ·have:(rows.take 1).drop 1=[]:=by
      rw[kD,uR];omega
     rw[this];rfl
    rintro st - ⟨i,hi1,hi,rfl⟩;rw[yb];refine⟨fun hlt2=>?_,fun hlt2=>?_⟩
    ·simp only[gnZ,gnT,qr,ql,qj,qd,qp,qu,qk,qt,qq,qm,qn,qo,qg,qi,qh,z8,zl,zh,ze,zj,zg,qe,qx,qc,qf,e0] at hlt2;have hil:i<rows.length:=by omega
     have egi:(D.r (rows.map eFC)).get (i:Int)=eFC (rows.getD i default):=qax eFC hil;have hcs:=z2w (p:=p) hi1 hil;have hcle:qde p ((rows.take i).drop 1)≤rows.length:=uF (List.length_filter_le _ _) (by rw[List.length_drop,uR];omega);simp only[yp,yb];simp only[gnZ,gnT,qr,ql,qj,qd,qp,qu,qk,qt,qq,qm,qn,qo,qg,qi,qh,z8,zl,zh,ze,zj,zg,qe,qx,qc,qf,e0,egk,egi];refine⟨⟨by omega,by omega,by omega,by omega⟩,fun h=>⟨⟨by omega,by omega⟩,⟨by omega,by omega⟩,?_⟩,fun h=>⟨⟨by omega,by omega⟩,?_⟩⟩
     ·rw[q0t,if_pos rfl];refine⟨⟨i+1,by omega,by omega,?_⟩,by simp[D.int];omega⟩;rw[hcs,if_pos h];rfl
     ·rw[q0t,if_pos rfl];refine⟨⟨i+1,by omega,by omega,?_⟩,by simp[D.int];omega⟩;rw[hcs,if_neg h];rfl
    ·simp only[gnZ,gnT,qr,ql,qj,qd,qp,qu,qk,qt,qq,qm,qn,qo,qg,qi,qh,z8,zl,zh,ze,zj,zg,qe,qx,qc,qf,e0] at hlt2;have hi2:i=rows.length:=by omega
     subst hi2;rw[uQ];rw[yb];refine⟨fun hb=>?_,fun _=>?_⟩
     ·exfalso;simp only[gnZ,gnT,qr,ql,qj,qd,qp,qu,qk,qt,qq,qm,qn,qo,qg,qi,qh,z8,zl,zh,ze,zj,zg,qe,qx,qc,qf] at hb;simp only[uM,gnD] at hb;omega
     rw[j4];refine⟨fun st=>∃m:Nat,m≤k∧st=[.b false,.i m],fun st=>k - (st.getD 1 .u).int.toNat,⟨0,uC _,rfl⟩,?_⟩;rintro st - ⟨m,hm,rfl⟩;rw[yb];refine⟨fun hlt3=>?_,fun hlt3=>?_⟩
     ·simp only[gnZ,gnT,qr,ql,qj,qd,qp,qu,qk,qt,qq,qm,qn,qo,qg,qi,qh,z8,zl,zh,ze,zj,zg,qe,qx,qc,qf] at hlt3;have hmk:m<k:=by omega
      have egm:(D.r (cl.map ePr)).get (m:Int)=ePr (cl.getD m default):=qax ePr (by omega);have hne:(cl.getD m default).x≠p.x:=by
       subst hp;intro he;have h1:(cl.map (·.x)).getD m 0=(cl.getD m default).x:=by
        simp[gnG,show m<cl.length by omega]
       have h2:(cl.map (·.x)).getD k 0=(cl.getD k default).x:=by
        simp[gnG,hkl]
       have hm':m<(cl.map (·.x)).length:=by rw[uV];omega
       have hk':k<(cl.map (·.x)).length:=by rw[uV];omega
       rw[←h1,←h2,gnG,gnG,gnK hm',gnK hk'] at he;exact List.pairwise_iff_getElem.1 hnd m k hm' hk' hmk he
      simp only[yp,yb];simp only[gnZ,gnT,qr,ql,qj,qd,qp,qu,qk,qt,qq,qm,qn,qo,qg,qi,qh,z8,zl,zh,ze,zj,zg,qe,qx,qc,qf,egk,egm];refine⟨⟨by omega,by omega,by omega,by omega⟩,fun h=>absurd h hne,fun _=>⟨⟨by omega,by omega⟩,?_⟩⟩;rw[q0t,if_pos rfl];exact⟨⟨m+1,by omega,rfl⟩,by simp[D.int];omega⟩
     ·simp only[gnZ,gnT,qr,ql,qj,qd,qp,qu,qk,qt,qq,qm,qn,qo,qg,qi,qh,z8,zl,zh,ze,zj,zg,qe,qx,qc,qf] at hlt3;simp only[yp];simp only[gnZ,gnT,qr,ql,qj,qd,qp,qu,qk,qt,qq,qm,qn,qo,qg,qi,qh,z8,zl,zh,ze,zj,zg,qe,qx,qc,qf];refine⟨⟨by omega,by omega⟩,?_⟩;rw[q0t,if_neg (by decide),q0t,if_neg (by decide),q0t,if_pos rfl];exact⟨⟨k+1,by omega,rfl⟩,by simp[D.int];omega⟩
   ·simp only[gnZ,gnT,qr,ql,qj,qd,qp,qu,qk,qt,qq,qm,qn,qo,qg,qi,qh,z8,zl,zh,ze,zj,zg,qe,qx,qc,qf] at hlt;simp only[yp,q9f];simp only[gnZ,gnT,qr,ql,qj,qd,qp,qu,qk,qt,qq,qm,qn,qo,qg,qi,qh,z8,zl,zh,ze,zj,zg,qe,qx,qc,qf]
section
open Go.ChangeShapes Go.WideShapes Go.ChangeAt Go.RowKit
theorem qz7:ownKnob uD.godebug=none:=by kernel_rfl
theorem qfr:laidOutB uD=true:=by kernel_rfl
section
variable{H:Type}{enc:TypeId×Value→H}{W:World}{base:Nat}{spare:Nat→Bool}{held:Bool}
def q9b(t:TypeId)(d:DataW H):Prop:=∀n∈d.weights uD t,n≤reachBytes
theorem q9v{e:TypeId}:∀{l:List (DataW H)}{d:DataW H},d∈l→∀n∈d.weights uD e,n∈DataW.weightsAll uD e l
 |[],_,h,_,_=>by cases h
 |x::l,d,h,n,hn=>by
  simp only[DataW.weightsAll,uK];rcases uB.1 h with rfl|h
  ·exact .inl hn
  ·exact .inr (q9v h n hn)
theorem q9b.each{ts:List TypeId}{l:List (DataW H)}{k:Nat}{t:TypeId}{d:DataW H}(h:∀n∈DataW.weightsEach uD ts l,n≤reachBytes)(ht:ts[k]? =some t)(hd:l[k]? =some d):q9b t d:=fun n hn=>
 h n (DataW.weights_mem_each ht hd n hn)
theorem qor:reachBytes=LIM:=rfl
theorem qre{T:TypeId}{t:Ty}(h:qw T=some t):uD.cellsOf T=t.w:=by
 obtain⟨i,hi,h1,-⟩:=q2d h;simp[Program.cellsOf,hi,h1]
theorem z96{k:IntKind}{t:TypeId}(ht:qw t=some (.int k)){n:Int}(h:(Lit.int k n).wf=true):q0r k n=true:=by
 have h0:=(q2m ht).2.1;cases k<;>first|(simp[q0r] at h0;done)|(simp[Lit.wf,IntKind.min,IntKind.max,IntKind.signed,IntKind.bits] at h;simp[q0r];omega)
theorem quc{a:Addr}{v:Value}(h:W.cell? a=some v):a.spot=none:=by
 unfold World.cell? at h;split at h
 ·split at h
  ·cases h
  ·rename_i hs;simpa using hs
 ·cases h
theorem z3t{F:Nat→Prop}{cs:List Value}:∀{fl:List Field}{fs:List Ty}{o:Nat},q28 fl fs o=true→(∀(j:Nat)(f:Field)(t:Ty),fl[j]? =some f→fs[j]? =some t→∃y,Rd W F y t ((cs.drop f.offset).take t.w))→cs.length=o+widths fs→∃ds,RdF W F ds fs (cs.drop o)
 |[],[],o,_,_,hl=>by
  simp[widths] at hl;exact⟨[],rfl,by rw[kD];omega⟩
 |f::l,t::ts,o,hb,hf,hl=>by
  simp only[q28,gnB] at hb;obtain⟨⟨⟨h1,-⟩,-⟩,h3⟩:=hb;have ho:=gnN h1;rw[q5i] at hl;obtain⟨ds,hds⟩:=z3t h3 (fun j f' t' hj ht=>hf (j+1) f' t' (by simpa using hj) (by simpa using ht)) (by omega);obtain⟨y,hy⟩:=hf 0 f t rfl rfl;refine⟨y::ds,t,ts,(cs.drop o).take t.w,cs.drop (o+t.w),rfl,?_,by rw[←ho];exact hy,hds⟩;rw[←List.drop_drop,uW]
 |[],_::_,o,hb,_,_=>by cases hb
 |_::_,[],o,hb,_,_=>by cases hb
theorem qzl:∀(fuel:Nat){T:TypeId}{t:Ty}(cs:List Value)(x:DataW H×List MemPlace),qw T=some t→qtd t=false→DataW.trod enc uD W base spare held fuel T cs=some x→q9b T x.1→∃y,Rd W (fun _=>True) y t cs:=by
 intro fuel
 induction fuel with
 |zero=>intro T t cs x _ _ h;simp[DataW.trod] at h
 | succ fuel ih =>
  intro T t cs x hT hM h hL;cases t with
  |map K V=>cases hM
  |fnv=>cases hM
  |int k=>
   obtain⟨n,rfl,-,hw⟩:=DataW.trod_int (q2m hT).1 h;exact⟨.i n,.inl ⟨k,rfl,rfl,z96 hT hw⟩⟩
  |bool=>
   obtain⟨b,rfl,-⟩:=DataW.trod_bool (q2z hT).1 h;exact⟨.b b,rfl,rfl⟩
  |str=>
   obtain⟨s,rfl,rfl,-⟩:=DataW.trod_string (q2k hT).1 h;have:=hL s.data.toList.length (by simp[DataW.weights]);exact⟨.s s,rfl,rfl,by rw[qor] at this;simpa using this⟩
  | st S =>
   obtain⟨fields,fs,zc,i,hu,hfs,hfb,hi,hsz,-,-,-,-⟩:=q2y hT;obtain⟨xs,n,hn,hx,hlen,hxl,hf⟩:=DataW.trod_struct hu h;obtain rfl:fuel=n:=by omega
   have hw:∀n∈DataW.weightsEach uD (fields.toList.map (·.type)) (xs.map (·.1)),n≤reachBytes:=fun n hn=>hL n (by rw[hx];simp only[DataW.weights,hu];exact hn);have hcl:cs.length=0+widths fs:=by rw[hlen,qre hT,(qjo hfs).1];omega
   obtain⟨ds,hds⟩:=z3t (W:=W) (F:=fun _=>True) hfb (fun j f t hj ht=>by
    obtain⟨f',hf',ho,hty,-⟩:=q5f hfb ht;obtain rfl:=gnI (hj.symm.trans hf');have h5:=hf j f (by rw[←Array.getElem?_toList];exact hj);have hjl:j<fields.toList.length:=(gnH.1 hj).1;have hjx:j<xs.length:=by rw[hxl];simpa using hjl
    rw[qre hty,gnK hjx] at h5;refine ih _ _ hty (z5x hfs hM (List.mem_of_getElem? ht)) h5 (q9b.each (k:=j) hw ?_ ?_)
    ·rw[uY,hj];rfl
    ·rw[uY,gnK hjx];rfl) hcl
   exact⟨.a ds,S,fs,rfl,hfs,by simpa using hds⟩
  | row E =>
   obtain⟨hu,⟨te,hte⟩,-⟩:=q0c hT;rcases DataW.trod_slice hu h with⟨rfl,hx⟩|⟨a,len,cap,elems,rest,n,hn,rfl,hx,hb,hl,hm,hlen,hel,-⟩
   ·exact⟨.r [],E,te,none,0,rfl,hte,rfl,by simp,by simp,by simp[maxLen],by simp[RdE]⟩
   ·obtain rfl:fuel=n:=by omega
    have hwd:=q3s hte;rw[qre hte] at hel;have hw:=hL;rw[hx] at hw;simp only[q9b,DataW.weights,hu,uB,uK] at hw;have hlen2:len≤LM te:=by
     have:=hw _ (.inl rfl);rw[qor] at this;have hbe:uD.bytesOf E=te.by:=by
      obtain⟨i,hi,-⟩:=q2d hte;simp[Program.bytesOf,hi,qh0 hte hi]
     refine(Nat.le_div_iff_mul_le (z0s hte).1).2 ?_;simp[hbe] at this;have h2:len * te.by≤(elems.length+rest.length) * te.by:=Nat.mul_le_mul_right _ (by omega);exact uF h2 this
    have spot:0<len→a.spot=none:=fun h0=>by
     have h2:=hel 0 h0;rw[gnK (by omega)] at h2;cases hc0:W.cells? base (a.add (0 * te.w)) te.w with
     |none=>rw[hc0] at h2;cases h2
     |some cs0=>
      obtain⟨_,hcl0,hat0⟩:=World.cells?_some hc0;have hp:0<cs0.length:=by omega
      have:=hat0 0 (by omega);rw[gnK hp] at this;exact quc (a:=a) (v:=cs0[0]) (by simpa[Addr.add] using this)
    have each:∀i,i<len→∃y,z7u W (fun _=>True) y te (some a) i:=fun i hi=>by
     have h1:=hel i hi;rw[gnK (by omega)] at h1;cases hc:W.cells? base (a.add (i * te.w)) te.w with
     |none=>rw[hc] at h1;cases h1
     | some cs' =>
      rw[hc] at h1;obtain⟨_,hcl,hat⟩:=World.cells?_some hc;obtain⟨y,hy⟩:=ih cs' _ hte (z5l hT hte) h1 (fun n hn=>hw n (.inr (.inl (q9v (uT.2 ⟨_,List.getElem_mem (by omega),rfl⟩) n hn))));have hsp:=spot (by omega);obtain⟨b,o,sp⟩:=a;obtain rfl:sp=none:=hsp;have add:∀k,(Addr.add ⟨b,o,none⟩ (i * te.w)).add k=⟨b,o+i * te.w+k,none⟩:=fun k=>by
       unfold Addr.add;split<;>split<;>simp<;>omega
      refine⟨y,b,o,cs',rfl,trivial,fun j v hj=>?_,hy⟩;have hj':=(gnH.1 hj).1;have:=hat j (by omega);rw[add,hj] at this;exact this
    have pick:∀n,n≤len→∃l:List D,l.length=n∧∀i(h:i<l.length),z7u W (fun _=>True) l[i] te (some a) i:=by
     intro n
     induction n with
     |zero=>exact fun _=>⟨[],rfl,fun i hi=>by simp at hi⟩
     | succ n ihn =>
      intro hn;obtain⟨l,hl1,hl2⟩:=ihn (by omega);obtain⟨t,ht⟩:=each n (by omega);refine⟨l++[t],by simp[hl1],fun i hi=>?_⟩;by_cases hin:i<l.length
      ·rw[List.getElem_append_left hin];exact hl2 i hin
      ·obtain rfl:i=l.length:=by simp at hi;omega
       rw[List.getElem_append_right (by omega)];simp[hl1];exact ht
    obtain⟨l,hl1,hl2⟩:=pick len (kA _);exact⟨.r l,E,te,some a,cap,rfl,hte,by rw[hl1],by omega,by omega,hm,q1u.2 fun j hj=>by rw[Nat.zero_add];exact hl2 j hj⟩
theorem quq{T:TypeId}{t:Ty}(hT:qw T=some t)(hM:qtd t=false){v:Value}{d:DataW H}{p:List MemPlace}{b0:Nat}{r:Reach}(hv:Value.okWide uD W r b0 T v)(h:DataW.Trod enc uD W base spare held T v d p)(hL:q9b T d):
  ∃x cs,yh t cs v∧Rd W (fun b=>b<W.heap.size) x t cs:=by
 obtain⟨fuel,hf⟩:=h;obtain⟨y,hy⟩:=qzl fuel _ _ hT hM hf hL;refine⟨y,v.cells.toList,?_,Rd.keeps (fun b o _ ho=>⟨ho,yf ho⟩) _ hy⟩;cases t with
 |int k=>obtain⟨n,rfl⟩:=okWide_int (q2m hT).1 hv;rfl
 |bool=>obtain⟨n,rfl⟩:=okWide_bool (q2z hT).1 hv;rfl
 |str=>obtain⟨n,rfl⟩:=okWide_string (q2k hT).1 hv;rfl
 |map K V=>cases hM
 |fnv=>cases hM
 |row E=>obtain⟨A,l,c,rfl⟩:=okWide_slice (q0c hT).1 hv;rfl
 |st S=>
  obtain⟨fields,fs,zc,i,hu,-⟩:=q2y hT;obtain⟨cs,rfl,-⟩:=okWide_struct hu hv;simp[yh,Value.cells]
end
def qoy(W:World):List Ar→List Value→List D→Prop
 |[],vs,ds=>vs=[]∧ds=[]
 |.val t::l,vs,ds=>∃v r d ds',vs=v::r∧ds=d::ds'∧(∃cs,yh t cs v∧Rd W (FFD (fun _=>True) (fun _=>none) []) d t cs)∧qoy W l r ds'
 |_::_,_,_=>False
theorem qoy.ok{W:World}{V:List Value}:∀{i:Nat}{ar:List Ar}{vs:List Value}{ds:List D},qoy W ar vs ds→y9 V (fun _=>True) (fun _=>none) W (idx i ar) vs ds∧vs.length=ar.length
 |_,[],vs,ds,h=>⟨h,by rw[h.1];rfl⟩
 |i,.val t::l,vs,ds,⟨v,r,d,ds',e1,e2,h1,h⟩=>by
  obtain⟨h2,h3⟩:=qoy.ok (V:=V) (i:=i+1) h;exact⟨⟨v,r,d,ds',e1,e2,h1,h2⟩,by rw[e1];simp[h3]⟩
 |_,.ref _ _::_,_,_,h=>h.elim
 |_,.rref _::_,_,_,h=>h.elim
 |_,.own _::_,_,_,h=>h.elim
 |_,.mref _::_,_,_,h=>h.elim
 |_,.nils::_,_,_,h=>h.elim
 |_,.nilp::_,_,_,h=>h.elim
 |_,.cst _ _::_,_,_,h=>h.elim
 |_,.fn _ _::_,_,_,h=>h.elim
 |_,.cell _ _::_,_,_,h=>h.elim
theorem qz9{ct:Ct}{g:List D→Option (List D)}(h:FOk ct g)(hrs:ct.rs=[(.bool,false)])(hvr:ct.vr=[]){W:World}{vs:List Value}{ds:List D}(ha:qoy W ct.ar vs ds)(hg:g ds=some [.b true]):
  Calls uD ct.f vs.toArray W fun e W'=>e=.returned (.bool true)∧But Nil W W':=by
 obtain⟨h1,h2⟩:=qoy.ok (V:=vs++[]) (i:=0) ha;refine(h.call (fun _=>True) .no (fun _=>none) W vs [] ds _ hg (qd5.of0 fun _=>rfl) Flo.no (by constructor<;>simp[Flr.no]) h2 (by simpa[Ct.all,hvr,idx] using h1)).mono ?_;rintro e W'(⟨T,-,ho,-⟩|⟨rs,p',rfl,hb,hr,-⟩)
 ·cases ho
 rw[hrs] at hr;obtain⟨v,r,d,ds',rfl,hd,⟨cs,hp,hc⟩,rfl⟩:=hr;simp at hd;obtain⟨rfl,rfl⟩:=hd;obtain⟨e1,e2⟩:D.b true=.b true∧cs=[.bool true]:=⟨rfl,by
  have hc':Rd W' (FFD (fun _=>True) p' []) (.b true) .bool cs:=hc;exact hc'.2⟩
 subst e2;have hpv:[Value.bool true]=[v]:=hp;injection hpv with hpv;subst hpv;exact⟨rfl,hb.but.mono fun i hi _=>by obtain⟨x,hx⟩:=hi;cases hx⟩
end
end Go.Proofs.Ytbmaffphliignaa
