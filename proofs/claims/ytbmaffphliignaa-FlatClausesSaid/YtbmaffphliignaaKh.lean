/-
 Lemmas of the walk and plain laws, put together. No condition.
-/
import Derived.ChangeArms
import Derived.OpenShut
import Derived.ProofKit
import Derived.SizedLaws
import Derived.Test.YtbmaffphliignaaRows
import Derived.Test.YtbmaffphliignaaKg
namespace Go.Proofs.Ytbmaffphliignaa
open Go.RowKit
set_option linter.unusedVariables false
set_option linter.unusedSimpArgs false
set_option maxRecDepth 100000
open _root_.List renaming length_append→uA,length_cons→uB,length_nil→uD,length_map→uE,map_append→uN,map→uO,append_assoc→uP,map_cons→uQ,map_nil→uR,mem_cons→uT,all_eq_true→uV,mem_append→uX,length_set→uY,getElem?_map→kB,set_set→kD,mem_map→kE
open _root_.Bool renaming true_and→uC,not_false→uF,false_and→uG,and_false→uH,and_self→uI,not_true→uJ,false_or→uK,and_true→uL,true_or→uM,not_eq_false'→kA
open _root_.Go.Proofs.Try renaming prog→uS
open _root_.Option.some renaming injEq→uU
open _root_.Nat renaming le_refl→uW,le_trans→kF
theorem zf6(l:List Int)(x:Int):q47 l x<l.length∨q47 l x= -1:=by
 by_cases h:x∈l
 ·exact .inl (qjn h).2
 ·exact .inr (qfd h)
mutual
theorem qxp{f:Int→Int}{x:Int}:∀(t:Te),z8f x (qgg f t)→∃y,f y=x
 | .mk k n s l, h => by
  rw[qgg,z8f] at h;rcases h with⟨hk,h⟩|h
  ·rw[if_pos hk] at h;exact⟨n,h⟩
  ·exact z27 l h
theorem z27{f:Int→Int}{x:Int}:∀(l:List Te),qgz x (qet f l)→∃y,f y=x
 |[],h=>by
  rw[qet,qgz] at h;exact h.elim
 |t::l,h=>by
  rw[qet,qgz] at h;rcases h with h|h
  ·exact qxp t h
  ·exact z27 l h
end
theorem z1b{c:Cla}(h:q03 c=true):q1x [c.1,c.2]≤65:=by
 simp only[q03,gnB,gnD] at h;obtain⟨⟨hv1,-⟩,-,hv2,-,h64,hcan⟩:=h;rw[←z0s hv1 hv2,qjb];refine⟨by omega,fun v hv=>?_⟩;rw[qds] at hv;simp only[qgz,or_false] at hv;have h1:c.1=qgg (q47 (q6y c)) c.1:=(congrArg Prod.fst hcan).symm;have h2:c.2=qgg (q47 (q6y c)) c.2:=(congrArg Prod.snd hcan).symm;have:∃y,q47 (q6y c) y=v:=by
  rcases hv with hv|hv|hv
  ·cases hv
  ·rw[h1] at hv;exact qxp _ hv
  ·rw[h2] at hv;exact qxp _ hv
 obtain⟨y,rfl⟩:=this;rcases zf6 (q6y c) y with h|h<;>omega
def zdc:List D→Option (List D)
 |[c,f,t]=>some [q7a (q2j (dK c) f.int t.tt).1,.i (q2j (dK c) f.int t.tt).2]
 |_=>none
theorem qop(hG:FOk qx q5e):FOk q0v zdc:=qkr qsm q4v qrc qe6 (qtp hG) qn1 fun ds outs hw hg=>by
 obtain⟨d,r,rfl,hd,e,r',rfl,he,f,r2,rfl,hf,rfl⟩:=hw;obtain⟨c,rfl,hc1,hc2⟩:=wfK hd;obtain⟨f,rfl,-⟩:=wfI he;obtain⟨tr,rfl⟩:=hf.bool;simp only[zdc,qe1,j6,qbb,uU] at hg;subst hg;have ev:gKb q03 [eK c]=some [.b (q03 c)]:=by simp only[gKb,qe1]
 rw[q6d];simp only[y7,y3,qbz];cases hb:zcd c f with
 |true=>
  have hq:((!q03 c||decide (f<1))||decide (1099511623776<f))=true:=hb;unfold q2j;rw[if_pos hq];refine⟨by simp only[gnZ,gnT,qp,qj,qn,qc,qq,qt,qr,qo,qm,ql,qu,qk,qh,qi,qg,zf,zs,zq,zp,zo,zr,qw,z0,qe,qv,ev],fun _=>rfl,fun h=>?_⟩;simp only[gnZ,gnT,qp,qj,qn,qc,qq,qt,qr,qo,qm,ql,qu,qk,qh,qi,qg,zf,zs,zq,zp,zo,zr,qw,z0,qe,qv,ev,hq] at h;cases h
 | false =>
  have hq:((!q03 c||decide (f<1))||decide (1099511623776<f))=false:=hb;obtain⟨new,T⟩:=zct (tr:=tr) hb;have hb2:=hb;simp only[zcd,Bool.or_eq_false_iff,decide_eq_false_iff_not,kA] at hb2;have hvk:=hb2.1.1;have hsm:=z1b hvk;have hvk2:=hvk;simp only[q03,gnB,gnD] at hvk2;obtain⟨⟨hv1,-⟩,hfit,hv2,-,-,-⟩:=hvk2;have hz:=(qeq c).1 hfit;have hr:=z3c c.2;have o1:=qdj hv1;have o2:=qdj hv2;have ha:=z1m (l:=[c.1,c.2]) (by simp[o1,o2]);have e1:q0q [.r [eT c.1,eT c.2]]=some [eIs (yc [] [c.1,c.2])]:=by
   have:(D.r [eT c.1,eT c.2]).rs.map dT=[c.1,c.2]:=q1t [c.1,c.2];simp only[q0q,this];rw[if_pos (by simp only[q28];omega)]
  have e2:zd2 [eIs (yc [] [c.1,c.2])]=some [.i (q1x [c.1,c.2])]:=by
   simp only[zd2,z57,z0s hv1 hv2];rw[if_pos];rw[uV];intro v hv;have:=qll [c.1,c.2] [] (by rw[q36,q36,q36,(jg.1 hv1).2,(jg.1 hv2).2];rfl) (fun x hx=>by cases hx) v hv;simp only[gnB,gnD];omega
  have e3:gLL (uO yv) [.r (c.1.l.map eT)]=some [.r ((c.1.l.map yv).map eT)]:=by simp only[gLL,q4g,q1t]
  have hna:okRf f (jm c f tr):=by
   show f=f+((0:Nat):Int)
   omega
  have hpre:qo3 (1+2 * rho c.2) (rho c.2) (jm c f tr)=true:=by
   rw[q6p,q1b]
   show(-4611686018427387904≤q1x [c.1,c.2]∧q1x [c.1,c.2]+(1+2 * rho c.2:Nat)≤4611686018427387904∧-4611686018427387904≤f∧f+(rho c.2:Nat)≤4611686018427387904∧0+rho c.2≤1000000000000∧1+2 * rho c.2≤100000000000)∧0≤q1x [c.1,c.2]∧q1x [c.1,c.2]+(1+2 * rho c.2:Nat)≤1099511627776
   have:=hb2.1.2;have:=hb2.2;exact⟨⟨by omega,by omega,by omega,by omega,by omega,by omega⟩,by omega,by omega⟩
  have ew:zcy [eRf f (jm c f tr),eT c.2]=some [.r ((q5b (jm c f tr) (q3r c.1) c.2).1.map eFG),eRf f (q5b (jm c f tr) (q3r c.1) c.2).2]:=by
   simp only[zcy,z9,qcm hna,q2f,j6,hv2,hpre,and_self,if_true];rfl
  have est:D.a ((D.a ((D.a ((D.a [D.i 0,D.i 0,D.r [],D.b false]).fs.set 0 (.i (q1x [c.1,c.2])))).fs.set 1 (.i f))).fs.set 3 (.b tr))=eRf f (jm c f tr):=rfl;have hY:okRf f (q5b (jm c f tr) (q3r c.1) c.2).2:=by
   unfold q5b;split
   ·exact((Grw.var _).trans (y5 c.2 (jm c f tr).var (jm c f tr).nv).1).okRf hna
   ·exact(y5 c.2 (jm c f tr) 0).1.okRf hna
  have hls:q9d (q5b (jm c f tr) (q3r c.1) c.2).2.aux≤1000000:=by
   have:=qqt T.ents;have:=T.len;rw[T.aux,←qcp,qtv];omega
  have ehd:D.a ((D.a ((D.a ((D.a [ePr zPr,D.r [],D.r []]).fs.set 0 (D.a ((D.a ((ePr zPr).fs.set 0 (D.s c.1.s))).fs.set 1 (D.i (c.1.l.length:Nat)))))).fs.set 1 (D.r ((c.1.l.map yv).map eT)))).fs.set 2 (D.r ((q5b (jm c f tr) (q3r c.1) c.2).1.map eFG)))=eFC ⟨(q3r c.1).p,(q3r c.1).l,(q5b (jm c f tr) (q3r c.1) c.2).1⟩:=rfl;have ecs:zdr [eRf f (q5b (jm c f tr) (q3r c.1) c.2).2,eFC ⟨(q3r c.1).p,(q3r c.1).l,(q5b (jm c f tr) (q3r c.1) c.2).1⟩]=some [q7a (if(q8h (jm c f tr) (q3r c.1) c.2).all q0p then q8h (jm c f tr) (q3r c.1) c.2 else[]),.b ((q8h (jm c f tr) (q3r c.1) c.2).all q0p)]:=by
   simp only[zdr,qcm hY,qg,if_pos hls];rfl
  have ecl:q2j c f tr=if(q8h (jm c f tr) (q3r c.1) c.2).all q0p then(q8h (jm c f tr) (q3r c.1) c.2,0) else([],2):=by
   unfold q2j;rw[if_neg (by rw[hq];decide)];unfold q54;split<;>rfl
  refine⟨by simp only[gnZ,gnT,qp,qj,qn,qc,qq,qt,qr,qo,qm,ql,qu,qk,qh,qi,qg,zf,zs,zq,zp,zo,zr,qw,z0,qe,qv,ev],fun h=>?_,fun _=>⟨?_,?_,?_,?_,fun h=>?_,fun h=>?_⟩⟩
  ·simp only[gnZ,gnT,qp,qj,qn,qc,qq,qt,qr,qo,qm,ql,qu,qk,qh,qi,qg,zf,zs,zq,zp,zo,zr,qw,z0,qe,qv,ev,hq] at h;cases h
  ·simp only[gnZ,gnT,qp,qj,qn,qc,qq,qt,qr,qo,qm,ql,qu,qk,qh,qi,qg,zf,zs,zq,zp,zo,zr,qw,z0,qe,qv,q8v,qc4,e1,e2,e3,est,ew]
  ·simp only[gnZ,gnT,qp,qj,qn,qc,qq,qt,qr,qo,qm,ql,qu,qk,qh,qi,qg,zf,zs,zq,zp,zo,zr,qw,z0,qe,qv,q8v,qc4,e1,e2,e3,est,ew]
  ·simp only[gnZ,gnT,qp,qj,qn,qc,qq,qt,qr,qo,qm,ql,qu,qk,qh,qi,qg,zf,zs,zq,zp,zo,zr,qw,z0,qe,qv,q8v,qc4,e1,e2,e3,est,ew]
  ·simp only[gnZ,gnT,qp,qj,qn,qc,qq,qt,qr,qo,qm,ql,qu,qk,qh,qi,qg,zf,zs,zq,zp,zo,zr,qw,z0,qe,qv,q8v,qc4,e1,e2,e3,est,ew,ehd,ecs]
  ·simp only[gnZ,gnT,qp,qj,qn,qc,qq,qt,qr,qo,qm,ql,qu,qk,qh,qi,qg,zf,zs,zq,zp,zo,zr,qw,z0,qe,qv,q8v,qc4,e1,e2,e3,est,ew,ehd,ecs,Bool.not_eq_true'] at h⊢;rw[ecl,h];rfl
  ·simp only[gnZ,gnT,qp,qj,qn,qc,qq,qt,qr,qo,qm,ql,qu,qk,qh,qi,qg,zf,zs,zq,zp,zo,zr,qw,z0,qe,qv,q8v,qc4,e1,e2,e3,est,ew,ehd,ecs,kA] at h⊢;rw[ecl,h];rfl
theorem qtc:∀{l:List Te}{left:Int},(q0i left l).2=true→∀t∈l,zb t=true
 |[],_,_,t,ht=>by cases ht
 | a :: l, left, h, t, ht => by
  unfold q0i at h;split at h
  ·rename_i hv;split at h
   ·cases h
   ·rcases uT.1 ht with rfl|ht
    ·exact hv
    ·exact qtc h t ht
  ·cases h
theorem qsh{α:Type}[Inhabited α]{f:α→α→Bool}{l:List α}(h:∀a∈l,f a a=true):qlf f l l=true:=by
 unfold qlf;rw[decide_eq_true rfl,uC,uV];intro j hj;exact h _ (gmem (by simpa using hj))
theorem qru{l:List Te}(h:∀t∈l,zb t=true):q39 l l=true:=qsh (f:=q6o) fun t ht=>by
 rw[qap (h t ht)];simp
theorem qn8:∀{gs:List FG}{left:Int}{b:Bool},q4s left b gs=true→∀g∈gs,∀t∈g.l,zb t=true
 |[],_,_,_,g,hg=>by cases hg
 | a :: l, left, b, h, g, hg => by
  rw[q4s] at h;split at h
  ·rename_i x y hs;rcases uT.1 hg with rfl|hg
   ·unfold q4e at hs;split at hs
    ·split at hs
     ·rename_i hc;simp only[gnB] at hc;exact qtc hc.2
     ·cases hs
    have none_l:∀g:FG,qsz g=true→∀t∈g.l,zb t=true:=fun g hb t ht=>by
     simp only[qsz,gnB,gnD] at hb;have:g.l=[]:=List.length_eq_zero_iff.1 (by omega);rw[this] at ht;cases ht
    split at hs
    ·split at hs
     ·rename_i hc;simp only[q8s,gnB] at hc;exact none_l _ hc.1.1.1
     ·cases hs
    split at hs
    ·split at hs
     ·rename_i hc;simp only[q8s,gnB] at hc;exact none_l _ hc.1.1
     ·cases hs
    split at hs
    ·split at hs
     ·rename_i hc;simp only[q8s,gnB] at hc;exact none_l _ hc.1.1
     ·cases hs
    split at hs
    ·split at hs
     ·rename_i hc;simp only[gnB] at hc;exact none_l _ hc.1
     ·cases hs
    cases hs
   ·exact qn8 h g hg
  ·cases h
theorem z3e{r:FC}(h:q0p r=true):qnh r r=true:=by
 have h0:=h;simp only[q0p,qdy,gnB] at h;unfold qnh eqF;rw[h0,decide_eq_true rfl,qru (qtc h.1.2),uC,uC,uC];refine qsh fun g hg=>?_;unfold qwl;rw[decide_eq_true rfl,decide_eq_true rfl,decide_eq_true rfl,qru (qn8 h.2 g hg)];rfl
theorem qp9(hG:FOk qx q5e):FOk q0l fun _=>some [.b true]:=qeh qf8 (qop hG) qlq qtd fun ds outs hw hg=>by
 obtain⟨d,r,rfl,hd,e,r',rfl,he,f,r2,rfl,hf,rfl⟩:=hw;obtain⟨c,rfl,hc1,hc2⟩:=wfK hd;obtain⟨f,rfl,-⟩:=wfI he;obtain⟨tr,rfl⟩:=hf.bool;injection hg with hg;subst hg;have e0:=zi7 c f tr;have e1:zdc [eK c,.i f,.b tr]=some [q7a (q2j c f tr).1,.i (q2j c f tr).2]:=by simp only[zdc,qe1,j6,qbb]
 have e2:zcz dFC (qlf qnh) [q7a (q2j c f tr).1,q7a (q2j c f tr).1]=some [.b true]:=by
  have:qlf qnh (q2j c f tr).1 (q2j c f tr).1=true:=qsh fun r hr=>z3e (by
   unfold q2j at hr;split at hr
   ·cases hr
   ·unfold q54 at hr;split at hr
    ·rename_i hall;exact uV.1 hall r hr
    ·cases hr)
  simp only[zcz,q7a,q4g,qzh,this]
 simp only[q42,gnZ,gnT,qp,qj,qn,qc,qq,qt,qr,qo,qm,ql,qu,qk,qh,qi,qg,zf,zs,zq,zp,zo,zr,qw,z0,qe,qv,e0,e1,e2];simp
def q7x:Ann:=⟨[0,1,2,4,6,7,8,9,10,11,12,13,14,15,16,17,18,19,20,21,22,23,24,45,57,95,154,175,209,243,267],[(6,⟨[(8,.row 24,false),(10,.int .i64,false)],[],[42,43,44,45,48,49,50,51,52,53,54,55,46,47],[]⟩)]⟩
def q0x:Tree:=
 let g:X:=.len (.fld (.tok 0) 2)
 let m:X:=.lit (.b .true)
 let n:X:=.lit (.i 0)
 let s:X:=.lit (.i 1)
 let u:X:=.call 7 0 [(.tok 3)]
 let w:X:=.lit (.i 1954687338211)
 let z:X:=.lit (.i 2)
 let i1:X:=.ok 7 [(.tok 3)]
 let p1:X:=.lit (.s ⟨#[45,62]⟩)
 let y1:X:=.lit (.i 3)
 let e2:X:=.tok 1
 let f2:X:=.tok 2
 let g2:X:=.lit (.s ⟨#[92,43]⟩)
 let n2:X:=.lit .u
 let e3:X:=.tok 4
 let a:X:=.set (.tok 0) 2 (.app (.fld (.tok 0) 2) (.row [n2]))
 let b:X:=.get (.fld e2 3) n
 let d:X:=.app (.tok 3) (.row [(.set (.set (.lit (.a [(.i 0),(.i 0),(.s ⟨#[]⟩),(.r [])])) 0 n) 1 f2)])
 let k:X:=.get (.fld e2 3) s
 let r:X:=.set (.lit (.a [(.i 0),(.a [(.s ⟨#[]⟩),(.i 0),(.i 0)]),(.r []),(.i 0)])) 0 s
 let t:X:=.call 2 0 [e2,(.lit (.s ⟨#[59]⟩)),z]
 let x:X:=.len (.fld e2 3)
 let e1:X:=.le n g
 let s1:X:=.ok 2 [e2,(.lit (.s ⟨#[59]⟩)),z]
 let z1:X:=.rng .i64 s
 let p2:X:=.rng .i64 z
 let q2:X:=.le (.add (.len (.tok 3)) s) (.lit (.i 2513169434843))
 let s2:X:=.call 0 0 [(.row [e2])]
 let s3:X:=.ok 4 [(.lit (.i 5)),n]
 let h:X:=.set (.set (.lit (.a [(.s ⟨#[]⟩),(.i 0),(.i 0)])) 1 (.len (.tok 3))) 2 (.add (.fld a 1) g)
 let i:X:=.set (.set (.lit (.a [(.s ⟨#[]⟩),(.i 0),(.i 0)])) 1 (.len d)) 2 (.add (.fld a 1) g)
 let j:X:=.call 3 1 [a]
 let o:X:=.call 3 0 [a]
 let p:X:=.call 5 1 [(.call 5 1 [a,b,f2]),k,f2]
 let q:X:=.row [(.call 5 0 [a,b,f2]),(.call 5 0 [(.call 5 1 [a,b,f2]),k,f2])]
 let c1:X:=.call 7 0 [d]
 let d1:X:=.call 6 0 [b]
 let x1:X:=.ok 7 [d]
 let a2:X:=.lt n x
 let c2:X:=.fld b 3
 let m2:X:=.ok 3 [a]
 let z2:X:=.ok 5 [(.call 5 1 [a,b,f2]),k,f2]
 let c3:X:=.lt s x
 let f3:X:=.rng .i64 (.add (.fld a 1) g)
 let g3:X:=.and t (.call 2 0 [b,p1,z])
 let l3:X:=.ok 6 [b]
 let y:X:=.call 5 1 [(.call 5 1 [j,b,o]),k,f2]
 let a1:X:=.app (.app (.row [(.call 4 0 [y1,o])]) (.call 5 0 [j,b,o])) (.row [(.call 4 0 [(.lit (.i 4)),o])])
 let f1:X:=.fld (.call 5 1 [j,d1,o]) 2
 let g1:X:=.app (.row [(.call 4 0 [y1,o])]) (.call 5 0 [j,d1,o])
 let h1:X:=.call 3 0 [j]
 let k1:X:=.set p 2 (.put (.fld p 2) g (.row [(.mk [i,c1,(.get q n)])]))
 let n1:X:=.set p 2 (.put (.fld p 2) g (.row [(.mk [h,u,(.get q n)])]))
 let q1:X:=.ok 4 [(.lit (.i 4)),o]
 let r1:X:=.call 5 0 [(.call 5 1 [j,b,o]),k,f2]
 let u1:X:=.row [(.set (.set r 1 i) 2 c1)]
 let w1:X:=.row [(.set (.set r 1 h) 2 u)]
 let b2:X:=.call 3 1 [j]
 let d2:X:=.le (.add (.len (.app (.row [(.call 4 0 [y1,o])]) (.call 5 0 [j,b,o]))) s) w
 let i2:X:=.lt g (.len (.fld p 2))
 let v2:X:=.le (.add s (.len (.call 5 0 [j,d1,o]))) w
 let w2:X:=.le (.add s (.len (.call 5 0 [j,b,o]))) w
 let y2:X:=.ok 4 [y1,o]
 let a3:X:=.ok 4 [z,o]
 let b3:X:=.ok 5 [(.call 5 1 [j,b,o]),k,f2]
 let i3:X:=.ok 3 [j]
 let n3:X:=.eq (.get (.fld p 2) g) n2
 let f:X:=.row [(.app (.app (.row [(.call 4 0 [z,o]),(.call 4 0 [y1,h1])]) (.call 5 0 [b2,d1,h1])) (.row [(.call 4 0 [(.lit (.i 4)),o]),(.call 4 0 [(.lit (.i 5)),n])])),(.lit (.r []))]
 let l:X:=.call 5 1 [b2,d1,h1]
 let v:X:=.app (.row [(.call 4 0 [z,o]),(.call 4 0 [y1,h1])]) (.call 5 0 [b2,(.get c2 n),h1])
 let b1:X:=.call 5 1 [b2,(.get c2 n),h1]
 let t1:X:=.le (.add (.len (.app (.row [(.call 4 0 [z,o]),(.call 4 0 [y1,h1])]) (.call 5 0 [b2,d1,h1]))) z) w
 let j2:X:=.lt g (.len (.fld y 2))
 let l2:X:=.get (.row [(.app g1 (.row [(.call 4 0 [(.lit (.i 4)),o])]))]) n
 let o2:X:=.le (.add z (.len (.call 5 0 [b2,(.get c2 n),h1]))) w
 let t2:X:=.le (.add z (.len (.call 5 0 [b2,d1,h1]))) w
 let u2:X:=.lt g (.len f1)
 let x2:X:=.ok 4 [y1,h1]
 let d3:X:=.le (.add (.len a1) (.len r1)) w
 let h3:X:=.get (.row [(.app a1 r1)]) n
 let j3:X:=.ok 5 [b2,(.get c2 n),h1]
 let o3:X:=.eq (.get (.fld y 2) g) n2
 let r3:X:=.lt g (.len (.fld k1 2))
 let u3:X:=.le (.add (.len g1) s) w
 let w3:X:=.lt g (.len (.fld n1 2))
 let c:X:=.row [(.app (.app v (.row [(.call 4 0 [(.lit (.i 4)),o])])) (.call 5 0 [b1,(.get c2 s),f2])),(.call 5 0 [(.call 5 1 [b1,(.get c2 s),f2]),k,f2])]
 let e:X:=.call 5 1 [(.call 5 1 [b1,(.get c2 s),f2]),k,f2]
 let l1:X:=.set l 2 (.put (.fld l 2) g (.row [(.mk [i,c1,(.get f n)])]))
 let o1:X:=.set l 2 (.put (.fld l 2) g (.row [(.mk [h,u,(.get f n)])]))
 let v1:X:=.le (.add (.len (.app v (.row [(.call 4 0 [(.lit (.i 4)),o])]))) (.len (.call 5 0 [b1,(.get c2 s),f2]))) w
 let k2:X:=.lt g (.len (.fld l 2))
 let r2:X:=.ok 5 [(.call 5 1 [b1,(.get c2 s),f2]),k,f2]
 let k3:X:=.ok 5 [b1,(.get c2 s),f2]
 let p3:X:=.eq (.get (.fld l 2) g) n2
 let j1:X:=.set e 2 (.put (.fld e 2) g (.row [(.mk [i,c1,(.get c n)])]))
 let m1:X:=.set e 2 (.put (.fld e 2) g (.row [(.mk [h,u,(.get c n)])]))
 let h2:X:=.lt g (.len (.fld e 2))
 let m3:X:=.eq (.get (.fld e 2) g) n2
 let t3:X:=.lt g (.len (.fld l1 2))
 let x3:X:=.lt g (.len (.fld o1 2))
 let q3:X:=.lt g (.len (.fld j1 2))
 let v3:X:=.lt g (.len (.fld m1 2))
 (.need [(.le (.add g s) (.lit (.i 5864062014634)))] (.need [(.ok 0 [(.row [e2])])] (.loop 6 3 [(.lit (.r [])),n] (.br (.lt e3 (.len s2)) (.need [(.le n e3),(.lt e3 (.len s2)),q2] (.need [(.rng .i64 (.add e3 s))] (.back 6 [(.app (.tok 3) (.row [(.set (.set (.lit (.a [(.i 0),(.i 0),(.s ⟨#[]⟩),(.r [])])) 0 n) 1 (.get s2 e3))])),(.add e3 s)]))) (.need [(.ok 1 [e2])] (.br (.call 1 0 [e2]) (.need [q2] (.need [f3] (.need [s1,(.imp t m),(.imp t a2),(.imp t (.ok 2 [b,p1,z]))] (.br g3 (.need [m2,i3] (.need [a3,x2] (.need [m,a2,m,(.lt n (.len c2)),j3,o2] (.need [q1,(.le (.add (.len v) s) w)] (.need [m,a2,m,(.lt s (.len c2)),k3,v1] (.need [m,c3,r2,m] (.need [m3,m,e1,h2,x1,m,m,e1,h2] (.need [z1] (.need [m,e1,q3,x1,m,m,e1,q3] (.need [p2] (.need [x1] (.leaf [u1,(.set j1 2 (.put (.fld j1 2) g (.row [(.mk [i,c1,(.get c n)]),(.mk [i,c1,(.get c s)])])))])))))))))))) (.need [s1] (.br t (.need [m,a2,(.ok 5 [a,b,f2])] (.need [m,c3,z2,m] (.need [n3,m,e1,i2,x1,m,m,e1,i2] (.need [z1] (.need [m,e1,r3,x1,m,m,e1,r3] (.need [p2] (.need [x1] (.leaf [u1,(.set k1 2 (.put (.fld k1 2) g (.row [(.mk [i,c1,(.get q n)]),(.mk [i,c1,(.get q s)])])))])))))))) (.need [(.ok 2 [e2,p1,z])] (.br (.call 2 0 [e2,p1,z]) (.need [m2] (.need [y2] (.need [m,a2,(.ok 5 [j,b,o]),w2] (.need [q1,d2] (.need [m,c3,b3,d3,m] (.need [o3,m,e1,j2,x1,m,m,e1,j2] (.need [z1] (.need [x1] (.leaf [u1,(.set y 2 (.put (.fld y 2) g (.row [(.mk [i,c1,h3])])))]))))))))) (.need [(.ok 2 [e2,g2,s])] (.br (.call 2 0 [e2,g2,s]) (.need [m2,i3] (.need [a3,x2] (.need [m,a2,l3,(.ok 5 [b2,d1,h1]),t2] (.need [q1,s3,t1,m] (.need [p3,m,e1,k2,x1,m,m,e1,k2] (.need [z1] (.need [m,e1,t3,x1,m,m,e1,t3] (.need [p2] (.need [x1] (.leaf [u1,(.set l1 2 (.put (.fld l1 2) g (.row [(.mk [i,c1,(.get f n)]),(.mk [i,c1,(.get f s)])])))])))))))))) (.need [m2] (.need [y2] (.need [m,a2,l3,(.ok 5 [j,d1,o]),v2] (.need [q1,u3,m] (.need [(.eq (.get f1 g) n2),m,e1,u2,x1,m,m,e1,u2] (.need [z1] (.need [x1] (.leaf [u1,(.set (.call 5 1 [j,d1,o]) 2 (.put f1 g (.row [(.mk [i,c1,l2])])))])))))))))))))))))) (.need [f3] (.need [s1,(.imp t m),(.imp t a2),(.imp t (.ok 2 [b,p1,z]))] (.br g3 (.need [m2,i3] (.need [a3,x2] (.need [m,a2,m,(.lt n (.len c2)),j3,o2] (.need [q1,(.le (.add (.len v) s) w)] (.need [m,a2,m,(.lt s (.len c2)),k3,v1] (.need [m,c3,r2,m] (.need [m3,m,e1,h2,i1,m,m,e1,h2] (.need [z1] (.need [m,e1,v3,i1,m,m,e1,v3] (.need [p2] (.need [i1] (.leaf [w1,(.set m1 2 (.put (.fld m1 2) g (.row [(.mk [h,u,(.get c n)]),(.mk [h,u,(.get c s)])])))])))))))))))) (.need [s1] (.br t (.need [m,a2,(.ok 5 [a,b,f2])] (.need [m,c3,z2,m] (.need [n3,m,e1,i2,i1,m,m,e1,i2] (.need [z1] (.need [m,e1,w3,i1,m,m,e1,w3] (.need [p2] (.need [i1] (.leaf [w1,(.set n1 2 (.put (.fld n1 2) g (.row [(.mk [h,u,(.get q n)]),(.mk [h,u,(.get q s)])])))])))))))) (.need [(.ok 2 [e2,p1,z])] (.br (.call 2 0 [e2,p1,z]) (.need [m2] (.need [y2] (.need [m,a2,(.ok 5 [j,b,o]),w2] (.need [q1,d2] (.need [m,c3,b3,d3,m] (.need [o3,m,e1,j2,i1,m,m,e1,j2] (.need [z1] (.need [i1] (.leaf [w1,(.set y 2 (.put (.fld y 2) g (.row [(.mk [h,u,h3])])))]))))))))) (.need [(.ok 2 [e2,g2,s])] (.br (.call 2 0 [e2,g2,s]) (.need [m2,i3] (.need [a3,x2] (.need [m,a2,l3,(.ok 5 [b2,d1,h1]),t2] (.need [q1,s3,t1,m] (.need [p3,m,e1,k2,i1,m,m,e1,k2] (.need [z1] (.need [m,e1,x3,i1,m,m,e1,x3] (.need [p2] (.need [i1] (.leaf [w1,(.set o1 2 (.put (.fld o1 2) g (.row [(.mk [h,u,(.get f n)]),(.mk [h,u,(.get f s)])])))])))))))))) (.need [m2] (.need [y2] (.need [m,a2,l3,(.ok 5 [j,d1,o]),v2] (.need [q1,u3,m] (.need [(.eq (.get f1 g) n2),m,e1,u2,i1,m,m,e1,u2] (.need [z1] (.need [i1] (.leaf [w1,(.set (.call 5 1 [j,d1,o]) 2 (.put f1 g (.row [(.mk [h,u,l2])])))])))))))))))))))))))))))
theorem q6r(g0 g1 g2 g3 g4 g5 g6 g7:GfZ):CdZ [(zu,g0),(q0g,g1),(je,g2),(qz,g3),(q08,g4),(qx,g5),(q1c,g6),(jj,g7)] q7x zj Try.f88 q0x:=fun cd h=>by injection h with h;subst h;kernel_rfl
theorem q71{g0 g1 g2 g3 g4 g5 g6 g7 g:GfZ}(h0:FOk zu g0)(h1:FOk q0g g1)(h2:FOk je g2)(h3:FOk qz g3)(h4:FOk q08 g4)(h5:FOk qx g5)(h6:FOk q1c g6)(h7:FOk jj g7)(h:HgZ q0x zj [(zu,g0),(q0g,g1),(je,g2),(qz,g3),(q08,g4),(qx,g5),(q1c,g6),(jj,g7)] g):FOk zj g:=yl (q6r g0 g1 g2 g3 g4 g5 g6 g7) (.cons h0 (.cons h1 (.cons h2 (.cons h3 (.cons h4 (.cons h5 (.cons h6 (.cons h7 .nil)))))))) rfl rfl q6i (by decide) h
section
theorem qs0:FOk q1c (gTT zi):=qp5 qua fun ds outs hw hg=>by
 obtain⟨d,r,rfl,hd,rfl⟩:=hw;obtain⟨t,rfl,ht⟩:=wfT hd;simp only[gTT,z9,uU] at hg;subst hg;rw[q7j,y7,y3];refine⟨by simp only[gnZ,gnT,qp,qj,qn,qc,qq,qt,qr,qo,qm,ql,qu,qk,qh,qi,qg,qce],fun h=>?_,fun h=>?_⟩
 ·simp only[gnZ,gnT,qp,qj,qn,qc,qq,qt,qr,qo,qm,ql,qu,qk,qh,qi,qg,qce] at h;unfold zi;rw[if_pos h];simp only[gnZ,gnT,qp,qj,qn,qc,qq,qt,qr,qo,qm,ql,qu,qk,qh,qi,qg,qce]
 ·simp only[gnZ,gnT,qp,qj,qn,qc,qq,qt,qr,qo,qm,ql,qu,qk,qh,qi,qg,qce] at h;unfold zi;rw[if_neg (by rw[h];decide)];simp only[gnZ,gnT,qp,qj,qn,qc,qq,qt,qr,qo,qm,ql,qu,qk,qh,qi,qg,qce,q6c];rfl
def Old(x y:X24):Prop:=x.aux.length≤y.aux.length∧∀n,n<x.aux.length→y.aux[n]? =x.aux[n]?
theorem Old.refl(x:X24):Old x x:=⟨uW _,fun _ _=>rfl⟩
theorem Old.trans{x y z:X24}(h:Old x y)(h':Old y z):Old x z:=⟨kF h.1 h'.1,fun n hn=>(h'.2 n (Nat.lt_of_lt_of_le hn h.1)).trans (h.2 n hn)⟩
theorem Old.var(x:X24):Old x x.var:=⟨uW _,fun _ _=>rfl⟩
theorem Old.repl{b:X24→List (List FG)×X24}{x:X24}{g:Te}{c:Int}(h:Old x.pred (b x.pred).2):Old x (onR (q1r b x g c)).2:=by
 have e:x.pred.aux.length=x.aux.length+1:=by simp[X24.pred]
 refine⟨?_,fun n hn=>?_⟩
 ·have:=h.1
  show x.aux.length≤((b x.pred).2.aux.set x.aux.length _).length
  rw[uY];omega
 ·show((b x.pred).2.aux.set x.aux.length _)[n]? =_
  rw[List.getElem?_set_ne (by omega),h.2 n (by omega)]
  show(x.aux++[none])[n]? =_
  rw[List.getElem?_append_left hn]
def quh(r:Rec):Prop:=∀x g c,Old x (r x g c).2
theorem zdo{r:Rec}(h:quh r)(x:X24)(a b:Te)(c:Int):Old x (qya r x a b c).2:=(((Old.var x).trans (Old.var _)).trans (h _ _ _)).trans (h _ _ _)
theorem z3r{r:Rec}(h:quh r)(x:X24)(g:Te)(c:Int):Old x (q0o r x g c).2:=by
 unfold q0o;split
 ·exact(zdo h _ _ _ _).trans (h _ _ _)
 ·exact(h _ _ _).trans (h _ _ _)
theorem qw1{r:Rec}(h:quh r)(x:X24)(g:Te):Old x (q5c r x g).2:=(Old.var x).trans (h _ _ _)
theorem zb6{r:Rec}(h:quh r)(x:X24)(g:Te)(c:Int):Old x (q8c r x g c).2:=(qw1 h _ _).trans (h _ _ _)
theorem zen{r:Rec}(h:quh r)(x:X24)(g:Te):Old x (qfj r x g).2:=((Old.var x).trans (Old.var _)).trans (h _ _ _)
theorem zb2{r:Rec}(h:quh r)(x:X24)(g:Te):Old x (q88 r x g).2:=qw1 h _ _
theorem z9o{r:Rec}(h:quh r):quh (q34 r):=fun x g c=>by
 unfold q34;split
 ·exact Old.refl x
 split
 ·exact Old.refl x
 split
 ·exact Old.refl x
 split
 ·exact(h _ _ _).trans (h _ _ _)
 split
 ·exact Old.repl (z3r h _ _ _)
 split
 ·exact Old.repl (zb6 h _ _ _)
 split
 ·exact Old.repl (zen h _ _)
 split
 ·exact Old.repl (zb2 h _ _)
 ·unfold qdw;split
  ·exact Old.refl x
  ·exact Old.var x
theorem qx0:∀n,quh (qng n)
 |0=>fun x _ _=>Old.refl x
 |n+1=>z9o (qx0 n)
theorem q4t:quh zg:=fun x g c=>qx0 (rho g) x g c
theorem qzy{x y:X24}(h:Old x.pred y):y.aux[x.aux.length]? =some none:=by
 have e:x.pred.aux.length=x.aux.length+1:=by simp[X24.pred]
 rw[h.2 _ (by omega)]
 show(x.aux++[none])[x.aux.length]? =_
 rw[List.getElem?_append_right (uW _),Nat.sub_self];rfl
def z0p(xa y b1:X):Tree:=(.need [(.eq (.get (.fld y 2) (.len (.fld (.tok 0) 2))) (.lit .u)),(.lit (.b .true)),(.le (.lit (.i 0)) (.len (.fld (.tok 0) 2))),(.lt (.len (.fld (.tok 0) 2)) (.len (.fld y 2))),(.ok 7 [xa]),(.lit (.b .true)),(.lit (.b .true)),(.le (.lit (.i 0)) (.len (.fld (.tok 0) 2))),(.lt (.len (.fld (.tok 0) 2)) (.len (.fld y 2)))] (.need [(.rng .i64 (.lit (.i 1)))] (.need [(.ok 7 [xa])] (.leaf [(.row [(.set (.set (.set (.lit (.a [(.i 0),(.a [(.s ⟨#[]⟩),(.i 0),(.i 0)]),(.r []),(.i 0)])) 0 (.lit (.i 1))) 1 (.set (.set (.lit (.a [(.s ⟨#[]⟩),(.i 0),(.i 0)])) 1 (.len xa)) 2 (.add (.fld (.set (.tok 0) 2 (.app (.fld (.tok 0) 2) (.row [(.lit .u)]))) 1) (.len (.fld (.tok 0) 2))))) 2 (.call 7 0 [xa]))]),(.set y 2 (.put (.fld y 2) (.len (.fld (.tok 0) 2)) (.row [(.mk [(.set (.set (.lit (.a [(.s ⟨#[]⟩),(.i 0),(.i 0)])) 1 (.len xa)) 2 (.add (.fld (.set (.tok 0) 2 (.app (.fld (.tok 0) 2) (.row [(.lit .u)]))) 1) (.len (.fld (.tok 0) 2)))),(.call 7 0 [xa]),(.get (.row [b1]) (.lit (.i 0)))])])))]))))
def qvx(xa y b1 b2:X):Tree:=(.need [(.eq (.get (.fld y 2) (.len (.fld (.tok 0) 2))) (.lit .u)),(.lit (.b .true)),(.le (.lit (.i 0)) (.len (.fld (.tok 0) 2))),(.lt (.len (.fld (.tok 0) 2)) (.len (.fld y 2))),(.ok 7 [xa]),(.lit (.b .true)),(.lit (.b .true)),(.le (.lit (.i 0)) (.len (.fld (.tok 0) 2))),(.lt (.len (.fld (.tok 0) 2)) (.len (.fld y 2)))] (.need [(.rng .i64 (.lit (.i 1)))] (.need [(.lit (.b .true)),(.le (.lit (.i 0)) (.len (.fld (.tok 0) 2))),(.lt (.len (.fld (.tok 0) 2)) (.len (.fld (.set y 2 (.put (.fld y 2) (.len (.fld (.tok 0) 2)) (.row [(.mk [(.set (.set (.lit (.a [(.s ⟨#[]⟩),(.i 0),(.i 0)])) 1 (.len xa)) 2 (.add (.fld (.set (.tok 0) 2 (.app (.fld (.tok 0) 2) (.row [(.lit .u)]))) 1) (.len (.fld (.tok 0) 2)))),(.call 7 0 [xa]),(.get (.row [b1,b2]) (.lit (.i 0)))])]))) 2))),(.ok 7 [xa]),(.lit (.b .true)),(.lit (.b .true)),(.le (.lit (.i 0)) (.len (.fld (.tok 0) 2))),(.lt (.len (.fld (.tok 0) 2)) (.len (.fld (.set y 2 (.put (.fld y 2) (.len (.fld (.tok 0) 2)) (.row [(.mk [(.set (.set (.lit (.a [(.s ⟨#[]⟩),(.i 0),(.i 0)])) 1 (.len xa)) 2 (.add (.fld (.set (.tok 0) 2 (.app (.fld (.tok 0) 2) (.row [(.lit .u)]))) 1) (.len (.fld (.tok 0) 2)))),(.call 7 0 [xa]),(.get (.row [b1,b2]) (.lit (.i 0)))])]))) 2)))] (.need [(.rng .i64 (.lit (.i 2)))] (.need [(.ok 7 [xa])] (.leaf [(.row [(.set (.set (.set (.lit (.a [(.i 0),(.a [(.s ⟨#[]⟩),(.i 0),(.i 0)]),(.r []),(.i 0)])) 0 (.lit (.i 1))) 1 (.set (.set (.lit (.a [(.s ⟨#[]⟩),(.i 0),(.i 0)])) 1 (.len xa)) 2 (.add (.fld (.set (.tok 0) 2 (.app (.fld (.tok 0) 2) (.row [(.lit .u)]))) 1) (.len (.fld (.tok 0) 2))))) 2 (.call 7 0 [xa]))]),(.set (.set y 2 (.put (.fld y 2) (.len (.fld (.tok 0) 2)) (.row [(.mk [(.set (.set (.lit (.a [(.s ⟨#[]⟩),(.i 0),(.i 0)])) 1 (.len xa)) 2 (.add (.fld (.set (.tok 0) 2 (.app (.fld (.tok 0) 2) (.row [(.lit .u)]))) 1) (.len (.fld (.tok 0) 2)))),(.call 7 0 [xa]),(.get (.row [b1,b2]) (.lit (.i 0)))])]))) 2 (.put (.fld (.set y 2 (.put (.fld y 2) (.len (.fld (.tok 0) 2)) (.row [(.mk [(.set (.set (.lit (.a [(.s ⟨#[]⟩),(.i 0),(.i 0)])) 1 (.len xa)) 2 (.add (.fld (.set (.tok 0) 2 (.app (.fld (.tok 0) 2) (.row [(.lit .u)]))) 1) (.len (.fld (.tok 0) 2)))),(.call 7 0 [xa]),(.get (.row [b1,b2]) (.lit (.i 0)))])]))) 2) (.len (.fld (.tok 0) 2)) (.row [(.mk [(.set (.set (.lit (.a [(.s ⟨#[]⟩),(.i 0),(.i 0)])) 1 (.len xa)) 2 (.add (.fld (.set (.tok 0) 2 (.app (.fld (.tok 0) 2) (.row [(.lit .u)]))) 1) (.len (.fld (.tok 0) 2)))),(.call 7 0 [xa]),(.get (.row [b1,b2]) (.lit (.i 0)))]),(.mk [(.set (.set (.lit (.a [(.s ⟨#[]⟩),(.i 0),(.i 0)])) 1 (.len xa)) 2 (.add (.fld (.set (.tok 0) 2 (.app (.fld (.tok 0) 2) (.row [(.lit .u)]))) 1) (.len (.fld (.tok 0) 2)))),(.call 7 0 [xa]),(.get (.row [b1,b2]) (.lit (.i 1)))])])))]))))))
theorem q0n(f:Int)(x:X24):D.a ((eRf f x).fs.set 2 (.r (x.aux.map eRo++[.u])))=eRf f x.pred:=by
 show _=D.a [_,_,.r ((x.aux++[none]).map eRo),_]
 rw[uN];rfl
theorem z5o(f:Int)(x:X24)(n:Nat)(l:List FC):D.a ((eRf f x).fs.set 2 (.r ((x.aux.map eRo).set n (.r (l.map eFC)))))=eRf f (x.put n l):=by
 show _=D.a [_,_,.r ((x.aux.set n (some l)).map eRo),_]
 rw[List.map_set];rfl
theorem z98(f:Int)(x:X24)(d:D):(D.a ((eRf f x).fs.set 2 d)).fld 2=d:=rfl
theorem za1(f:Int)(x:X24)(d d':D):D.a ((D.a ((eRf f x).fs.set 2 d)).fs.set 2 d')=D.a ((eRf f x).fs.set 2 d'):=rfl
theorem qj9(g:Te)(c:Int):(q15 g c).map yv=q15 g c:=by
 unfold q15;refine(List.map_congr_left fun t ht=>?_).trans (List.map_id _);rcases uX.1 ht with h|h
 ·obtain⟨n,-,rfl⟩:=kE.1 h;exact q60 (qfe n)
 ·split at h
  ·simp only[List.mem_singleton] at h;subst h;exact q60 (qfe c)
  ·cases h
section
variable{N:Nat}{t0 t1 t2 t3 t4 t5 t6 t7:Ct}{f:Int}{x Y:X24}{g:Te}{c:Int}{s3 s4:D}{xa y b1 b2:X}{B1 B2:List FG}{B:Nat→List D→Prop}
theorem zkc(hxa:xa.ev (evl (ym [(t0,q0q),(t1,gTb q07),(t2,gIs),(t3,q2n),(t4,gOp),(t5,yu mG N q5e),(t6,gTT zi),(t7,gLL (uO yv))]) [eRf f x,eT g,.i c,s3,s4])=.r ((q15 g c).map eT))(hy:y.ev (evl (ym [(t0,q0q),(t1,gTb q07),(t2,gIs),(t3,q2n),(t4,gOp),(t5,yu mG N q5e),(t6,gTT zi),(t7,gLL (uO yv))]) [eRf f x,eT g,.i c,s3,s4])=eRf f Y)
  (h1:b1.ev (evl (ym [(t0,q0q),(t1,gTb q07),(t2,gIs),(t3,q2n),(t4,gOp),(t5,yu mG N q5e),(t6,gTT zi),(t7,gLL (uO yv))]) [eRf f x,eT g,.i c,s3,s4])=eGs B1)(h2:b2.ev (evl (ym [(t0,q0q),(t1,gTb q07),(t2,gIs),(t3,q2n),(t4,gOp),(t5,yu mG N q5e),(t6,gTT zi),(t7,gLL (uO yv))]) [eRf f x,eT g,.i c,s3,s4])=eGs B2)(hna:okRf f x)(hnil:Y.aux[x.aux.length]? =some none):
  (qvx xa y b1 b2).go (ym [(t0,q0q),(t1,gTb q07),(t2,gIs),(t3,q2n),(t4,gOp),(t5,yu mG N q5e),(t6,gTT zi),(t7,gLL (uO yv))]) (fun o=>o=[.r ([q1p (q53 g c x) (q15 g c)].map eFG),eRf f (Y.put x.aux.length (q2v g c x [B1,B2]))]) [eRf f x,eT g,.i c,s3,s4] B:=by
 simp only[evl] at hxa hy h1 h2;have hlt:=(gnH.1 hnil).1;have en:(D.r (Y.aux.map eRo)).get (x.aux.length:Int)=.u:=by
  rw[qd9 eRo hlt,gnG,hnil];rfl
 have e7:gLL (uO yv) [.r ((q15 g c).map eT)]=some [.r ((q15 g c).map eT)]:=by
  simp only[gLL,q4g,q1t,qj9]
 have hna':f+(x.aux.length:Int)=x.na:=hna.symm;have e3:D.a ((D.a ((ePr zPr).fs.set 1 (.i ((q15 g c).length:Nat)))).fs.set 2 (.i x.na))=ePr (q53 g c x):=rfl;unfold qvx;simp only[gnZ,gnT,qp,qj,qn,qc,qq,qt,qr,qo,qm,ql,qu,qk,qh,qi,qg,zf,zs,zq,zp,zo,zr,qw,z0,qe,qv,hxa,hy,h1,h2,q4c,q2f,q0n,z98,za1,en,e7,hna',e3,uY,Int.toNat_natCast,kD];refine⟨⟨by omega,by omega,by omega,by omega⟩,⟨by omega,by omega⟩,⟨by omega,by omega,by omega,by omega⟩,⟨by omega,by omega⟩,?_⟩;rw[←z5o,show q1p (q53 g c x) (q15 g c)=⟨1,q53 g c x,q15 g c,0⟩ by unfold q1p;rw[qj9]];rfl
theorem zkk(hxa:xa.ev (evl (ym [(t0,q0q),(t1,gTb q07),(t2,gIs),(t3,q2n),(t4,gOp),(t5,yu mG N q5e),(t6,gTT zi),(t7,gLL (uO yv))]) [eRf f x,eT g,.i c,s3,s4])=.r ((q15 g c).map eT))(hy:y.ev (evl (ym [(t0,q0q),(t1,gTb q07),(t2,gIs),(t3,q2n),(t4,gOp),(t5,yu mG N q5e),(t6,gTT zi),(t7,gLL (uO yv))]) [eRf f x,eT g,.i c,s3,s4])=eRf f Y)
  (h1:b1.ev (evl (ym [(t0,q0q),(t1,gTb q07),(t2,gIs),(t3,q2n),(t4,gOp),(t5,yu mG N q5e),(t6,gTT zi),(t7,gLL (uO yv))]) [eRf f x,eT g,.i c,s3,s4])=eGs B1)(hna:okRf f x)(hnil:Y.aux[x.aux.length]? =some none):
  (z0p xa y b1).go (ym [(t0,q0q),(t1,gTb q07),(t2,gIs),(t3,q2n),(t4,gOp),(t5,yu mG N q5e),(t6,gTT zi),(t7,gLL (uO yv))]) (fun o=>o=[.r ([q1p (q53 g c x) (q15 g c)].map eFG),eRf f (Y.put x.aux.length (q2v g c x [B1]))]) [eRf f x,eT g,.i c,s3,s4] B:=by
 simp only[evl] at hxa hy h1;have hlt:=(gnH.1 hnil).1;have en:(D.r (Y.aux.map eRo)).get (x.aux.length:Int)=.u:=by
  rw[qd9 eRo hlt,gnG,hnil];rfl
 have e7:gLL (uO yv) [.r ((q15 g c).map eT)]=some [.r ((q15 g c).map eT)]:=by
  simp only[gLL,q4g,q1t,qj9]
 have hna':f+(x.aux.length:Int)=x.na:=hna.symm;have e3:D.a ((D.a ((ePr zPr).fs.set 1 (.i ((q15 g c).length:Nat)))).fs.set 2 (.i x.na))=ePr (q53 g c x):=rfl;unfold z0p;simp only[gnZ,gnT,qp,qj,qn,qc,qq,qt,qr,qo,qm,ql,qu,qk,qh,qi,qg,zf,zs,zq,zp,zo,zr,qw,z0,qe,qv,hxa,hy,h1,q4c,q2f,q0n,z98,za1,en,e7,hna',e3,uY,Int.toNat_natCast,kD];refine⟨⟨by omega,by omega,by omega,by omega⟩,⟨by omega,by omega⟩,?_⟩;rw[←z5o,show q1p (q53 g c x) (q15 g c)=⟨1,q53 g c x,q15 g c,0⟩ by unfold q1p;rw[qj9]];rfl
theorem zaf{b:X24→List (List FG)×X24}(hb:b x.pred=([B1,B2],Y))(hxa:xa.ev (evl (ym [(t0,q0q),(t1,gTb q07),(t2,gIs),(t3,q2n),(t4,gOp),(t5,yu mG N q5e),(t6,gTT zi),(t7,gLL (uO yv))]) [eRf f x,eT g,.i c,s3,s4])=.r ((q15 g c).map eT))(hy:y.ev (evl (ym [(t0,q0q),(t1,gTb q07),(t2,gIs),(t3,q2n),(t4,gOp),(t5,yu mG N q5e),(t6,gTT zi),(t7,gLL (uO yv))]) [eRf f x,eT g,.i c,s3,s4])=eRf f Y)
  (h1:b1.ev (evl (ym [(t0,q0q),(t1,gTb q07),(t2,gIs),(t3,q2n),(t4,gOp),(t5,yu mG N q5e),(t6,gTT zi),(t7,gLL (uO yv))]) [eRf f x,eT g,.i c,s3,s4])=eGs B1)(h2:b2.ev (evl (ym [(t0,q0q),(t1,gTb q07),(t2,gIs),(t3,q2n),(t4,gOp),(t5,yu mG N q5e),(t6,gTT zi),(t7,gLL (uO yv))]) [eRf f x,eT g,.i c,s3,s4])=eGs B2)(hna:okRf f x)(ho:Old x.pred Y):
  (qvx xa y b1 b2).go (ym [(t0,q0q),(t1,gTb q07),(t2,gIs),(t3,q2n),(t4,gOp),(t5,yu mG N q5e),(t6,gTT zi),(t7,gLL (uO yv))]) (fun o=>o=[.r ((onR (q1r b x g c)).1.map eFG),eRf f (onR (q1r b x g c)).2]) [eRf f x,eT g,.i c,s3,s4] B:=by
 have e:onR (q1r b x g c)=([q1p (q53 g c x) (q15 g c)],Y.put x.aux.length (q2v g c x [B1,B2])):=by
  unfold onR q1r;rw[hb]
 rw[e];exact zkc hxa hy h1 h2 hna (qzy ho)
theorem zg8{b:X24→List (List FG)×X24}(hb:b x.pred=([B1],Y))(hxa:xa.ev (evl (ym [(t0,q0q),(t1,gTb q07),(t2,gIs),(t3,q2n),(t4,gOp),(t5,yu mG N q5e),(t6,gTT zi),(t7,gLL (uO yv))]) [eRf f x,eT g,.i c,s3,s4])=.r ((q15 g c).map eT))(hy:y.ev (evl (ym [(t0,q0q),(t1,gTb q07),(t2,gIs),(t3,q2n),(t4,gOp),(t5,yu mG N q5e),(t6,gTT zi),(t7,gLL (uO yv))]) [eRf f x,eT g,.i c,s3,s4])=eRf f Y)
  (h1:b1.ev (evl (ym [(t0,q0q),(t1,gTb q07),(t2,gIs),(t3,q2n),(t4,gOp),(t5,yu mG N q5e),(t6,gTT zi),(t7,gLL (uO yv))]) [eRf f x,eT g,.i c,s3,s4])=eGs B1)(hna:okRf f x)(ho:Old x.pred Y):
  (z0p xa y b1).go (ym [(t0,q0q),(t1,gTb q07),(t2,gIs),(t3,q2n),(t4,gOp),(t5,yu mG N q5e),(t6,gTT zi),(t7,gLL (uO yv))]) (fun o=>o=[.r ((onR (q1r b x g c)).1.map eFG),eRf f (onR (q1r b x g c)).2]) [eRf f x,eT g,.i c,s3,s4] B:=by
 have e:onR (q1r b x g c)=([q1p (q53 g c x) (q15 g c)],Y.put x.aux.length (q2v g c x [B1])):=by
  unfold onR q1r;rw[hb]
 rw[e];exact zkk hxa hy h1 hna (qzy ho)
end
def csT(xa:X):Tree:=(.need [(.rng .i64 (.add (.fld (.set (.tok 0) 2 (.app (.fld (.tok 0) 2) (.row [(.lit .u)]))) 1) (.len (.fld (.tok 0) 2))))] (.need [(.ok 2 [(.tok 1),(.lit (.s ⟨#[59]⟩)),(.lit (.i 2))]),(.imp (.call 2 0 [(.tok 1),(.lit (.s ⟨#[59]⟩)),(.lit (.i 2))]) (.lit (.b .true))),(.imp (.call 2 0 [(.tok 1),(.lit (.s ⟨#[59]⟩)),(.lit (.i 2))]) (.lt (.lit (.i 0)) (.len (.fld (.tok 1) 3)))),(.imp (.call 2 0 [(.tok 1),(.lit (.s ⟨#[59]⟩)),(.lit (.i 2))]) (.ok 2 [(.get (.fld (.tok 1) 3) (.lit (.i 0))),(.lit (.s ⟨#[45,62]⟩)),(.lit (.i 2))]))] (.br (.and (.call 2 0 [(.tok 1),(.lit (.s ⟨#[59]⟩)),(.lit (.i 2))]) (.call 2 0 [(.get (.fld (.tok 1) 3) (.lit (.i 0))),(.lit (.s ⟨#[45,62]⟩)),(.lit (.i 2))])) (.need [(.ok 3 [(.set (.tok 0) 2 (.app (.fld (.tok 0) 2) (.row [(.lit .u)])))]),(.ok 3 [(.call 3 1 [(.set (.tok 0) 2 (.app (.fld (.tok 0) 2) (.row [(.lit .u)])))])])] (.need [(.ok 4 [(.lit (.i 2)),(.call 3 0 [(.set (.tok 0) 2 (.app (.fld (.tok 0) 2) (.row [(.lit .u)])))])]),(.ok 4 [(.lit (.i 3)),(.call 3 0 [(.call 3 1 [(.set (.tok 0) 2 (.app (.fld (.tok 0) 2) (.row [(.lit .u)])))])])])] (.need [(.lit (.b .true)),(.lt (.lit (.i 0)) (.len (.fld (.tok 1) 3))),(.lit (.b .true)),(.lt (.lit (.i 0)) (.len (.fld (.get (.fld (.tok 1) 3) (.lit (.i 0))) 3))),(.ok 5 [(.call 3 1 [(.call 3 1 [(.set (.tok 0) 2 (.app (.fld (.tok 0) 2) (.row [(.lit .u)])))])]),(.get (.fld (.get (.fld (.tok 1) 3) (.lit (.i 0))) 3) (.lit (.i 0))),(.call 3 0 [(.call 3 1 [(.set (.tok 0) 2 (.app (.fld (.tok 0) 2) (.row [(.lit .u)])))])])]),(.le (.add (.lit (.i 2)) (.len (.call 5 0 [(.call 3 1 [(.call 3 1 [(.set (.tok 0) 2 (.app (.fld (.tok 0) 2) (.row [(.lit .u)])))])]),(.get (.fld (.get (.fld (.tok 1) 3) (.lit (.i 0))) 3) (.lit (.i 0))),(.call 3 0 [(.call 3 1 [(.set (.tok 0) 2 (.app (.fld (.tok 0) 2) (.row [(.lit .u)])))])])]))) (.lit (.i 1954687338211)))] (.need [(.ok 4 [(.lit (.i 4)),(.call 3 0 [(.set (.tok 0) 2 (.app (.fld (.tok 0) 2) (.row [(.lit .u)])))])]),(.le (.add (.len (.app (.row [(.call 4 0 [(.lit (.i 2)),(.call 3 0 [(.set (.tok 0) 2 (.app (.fld (.tok 0) 2) (.row [(.lit .u)])))])]),(.call 4 0 [(.lit (.i 3)),(.call 3 0 [(.call 3 1 [(.set (.tok 0) 2 (.app (.fld (.tok 0) 2) (.row [(.lit .u)])))])])])]) (.call 5 0 [(.call 3 1 [(.call 3 1 [(.set (.tok 0) 2 (.app (.fld (.tok 0) 2) (.row [(.lit .u)])))])]),(.get (.fld (.get (.fld (.tok 1) 3) (.lit (.i 0))) 3) (.lit (.i 0))),(.call 3 0 [(.call 3 1 [(.set (.tok 0) 2 (.app (.fld (.tok 0) 2) (.row [(.lit .u)])))])])]))) (.lit (.i 1))) (.lit (.i 1954687338211)))] (.need [(.lit (.b .true)),(.lt (.lit (.i 0)) (.len (.fld (.tok 1) 3))),(.lit (.b .true)),(.lt (.lit (.i 1)) (.len (.fld (.get (.fld (.tok 1) 3) (.lit (.i 0))) 3))),(.ok 5 [(.call 5 1 [(.call 3 1 [(.call 3 1 [(.set (.tok 0) 2 (.app (.fld (.tok 0) 2) (.row [(.lit .u)])))])]),(.get (.fld (.get (.fld (.tok 1) 3) (.lit (.i 0))) 3) (.lit (.i 0))),(.call 3 0 [(.call 3 1 [(.set (.tok 0) 2 (.app (.fld (.tok 0) 2) (.row [(.lit .u)])))])])]),(.get (.fld (.get (.fld (.tok 1) 3) (.lit (.i 0))) 3) (.lit (.i 1))),(.tok 2)]),(.le (.add (.len (.app (.app (.row [(.call 4 0 [(.lit (.i 2)),(.call 3 0 [(.set (.tok 0) 2 (.app (.fld (.tok 0) 2) (.row [(.lit .u)])))])]),(.call 4 0 [(.lit (.i 3)),(.call 3 0 [(.call 3 1 [(.set (.tok 0) 2 (.app (.fld (.tok 0) 2) (.row [(.lit .u)])))])])])]) (.call 5 0 [(.call 3 1 [(.call 3 1 [(.set (.tok 0) 2 (.app (.fld (.tok 0) 2) (.row [(.lit .u)])))])]),(.get (.fld (.get (.fld (.tok 1) 3) (.lit (.i 0))) 3) (.lit (.i 0))),(.call 3 0 [(.call 3 1 [(.set (.tok 0) 2 (.app (.fld (.tok 0) 2) (.row [(.lit .u)])))])])])) (.row [(.call 4 0 [(.lit (.i 4)),(.call 3 0 [(.set (.tok 0) 2 (.app (.fld (.tok 0) 2) (.row [(.lit .u)])))])])]))) (.len (.call 5 0 [(.call 5 1 [(.call 3 1 [(.call 3 1 [(.set (.tok 0) 2 (.app (.fld (.tok 0) 2) (.row [(.lit .u)])))])]),(.get (.fld (.get (.fld (.tok 1) 3) (.lit (.i 0))) 3) (.lit (.i 0))),(.call 3 0 [(.call 3 1 [(.set (.tok 0) 2 (.app (.fld (.tok 0) 2) (.row [(.lit .u)])))])])]),(.get (.fld (.get (.fld (.tok 1) 3) (.lit (.i 0))) 3) (.lit (.i 1))),(.tok 2)]))) (.lit (.i 1954687338211)))] (.need [(.lit (.b .true)),(.lt (.lit (.i 1)) (.len (.fld (.tok 1) 3))),(.ok 5 [(.call 5 1 [(.call 5 1 [(.call 3 1 [(.call 3 1 [(.set (.tok 0) 2 (.app (.fld (.tok 0) 2) (.row [(.lit .u)])))])]),(.get (.fld (.get (.fld (.tok 1) 3) (.lit (.i 0))) 3) (.lit (.i 0))),(.call 3 0 [(.call 3 1 [(.set (.tok 0) 2 (.app (.fld (.tok 0) 2) (.row [(.lit .u)])))])])]),(.get (.fld (.get (.fld (.tok 1) 3) (.lit (.i 0))) 3) (.lit (.i 1))),(.tok 2)]),(.get (.fld (.tok 1) 3) (.lit (.i 1))),(.tok 2)]),(.lit (.b .true))] (qvx xa (.call 5 1 [(.call 5 1 [(.call 5 1 [(.call 3 1 [(.call 3 1 [(.set (.tok 0) 2 (.app (.fld (.tok 0) 2) (.row [(.lit .u)])))])]),(.get (.fld (.get (.fld (.tok 1) 3) (.lit (.i 0))) 3) (.lit (.i 0))),(.call 3 0 [(.call 3 1 [(.set (.tok 0) 2 (.app (.fld (.tok 0) 2) (.row [(.lit .u)])))])])]),(.get (.fld (.get (.fld (.tok 1) 3) (.lit (.i 0))) 3) (.lit (.i 1))),(.tok 2)]),(.get (.fld (.tok 1) 3) (.lit (.i 1))),(.tok 2)]) (.app (.app (.app (.row [(.call 4 0 [(.lit (.i 2)),(.call 3 0 [(.set (.tok 0) 2 (.app (.fld (.tok 0) 2) (.row [(.lit .u)])))])]),(.call 4 0 [(.lit (.i 3)),(.call 3 0 [(.call 3 1 [(.set (.tok 0) 2 (.app (.fld (.tok 0) 2) (.row [(.lit .u)])))])])])]) (.call 5 0 [(.call 3 1 [(.call 3 1 [(.set (.tok 0) 2 (.app (.fld (.tok 0) 2) (.row [(.lit .u)])))])]),(.get (.fld (.get (.fld (.tok 1) 3) (.lit (.i 0))) 3) (.lit (.i 0))),(.call 3 0 [(.call 3 1 [(.set (.tok 0) 2 (.app (.fld (.tok 0) 2) (.row [(.lit .u)])))])])])) (.row [(.call 4 0 [(.lit (.i 4)),(.call 3 0 [(.set (.tok 0) 2 (.app (.fld (.tok 0) 2) (.row [(.lit .u)])))])])])) (.call 5 0 [(.call 5 1 [(.call 3 1 [(.call 3 1 [(.set (.tok 0) 2 (.app (.fld (.tok 0) 2) (.row [(.lit .u)])))])]),(.get (.fld (.get (.fld (.tok 1) 3) (.lit (.i 0))) 3) (.lit (.i 0))),(.call 3 0 [(.call 3 1 [(.set (.tok 0) 2 (.app (.fld (.tok 0) 2) (.row [(.lit .u)])))])])]),(.get (.fld (.get (.fld (.tok 1) 3) (.lit (.i 0))) 3) (.lit (.i 1))),(.tok 2)])) (.call 5 0 [(.call 5 1 [(.call 5 1 [(.call 3 1 [(.call 3 1 [(.set (.tok 0) 2 (.app (.fld (.tok 0) 2) (.row [(.lit .u)])))])]),(.get (.fld (.get (.fld (.tok 1) 3) (.lit (.i 0))) 3) (.lit (.i 0))),(.call 3 0 [(.call 3 1 [(.set (.tok 0) 2 (.app (.fld (.tok 0) 2) (.row [(.lit .u)])))])])]),(.get (.fld (.get (.fld (.tok 1) 3) (.lit (.i 0))) 3) (.lit (.i 1))),(.tok 2)]),(.get (.fld (.tok 1) 3) (.lit (.i 1))),(.tok 2)])))))))) (.need [(.ok 2 [(.tok 1),(.lit (.s ⟨#[59]⟩)),(.lit (.i 2))])] (.br (.call 2 0 [(.tok 1),(.lit (.s ⟨#[59]⟩)),(.lit (.i 2))]) (.need [(.lit (.b .true)),(.lt (.lit (.i 0)) (.len (.fld (.tok 1) 3))),(.ok 5 [(.set (.tok 0) 2 (.app (.fld (.tok 0) 2) (.row [(.lit .u)]))),(.get (.fld (.tok 1) 3) (.lit (.i 0))),(.tok 2)])] (.need [(.lit (.b .true)),(.lt (.lit (.i 1)) (.len (.fld (.tok 1) 3))),(.ok 5 [(.call 5 1 [(.set (.tok 0) 2 (.app (.fld (.tok 0) 2) (.row [(.lit .u)]))),(.get (.fld (.tok 1) 3) (.lit (.i 0))),(.tok 2)]),(.get (.fld (.tok 1) 3) (.lit (.i 1))),(.tok 2)]),(.lit (.b .true))] (qvx xa (.call 5 1 [(.call 5 1 [(.set (.tok 0) 2 (.app (.fld (.tok 0) 2) (.row [(.lit .u)]))),(.get (.fld (.tok 1) 3) (.lit (.i 0))),(.tok 2)]),(.get (.fld (.tok 1) 3) (.lit (.i 1))),(.tok 2)]) (.call 5 0 [(.set (.tok 0) 2 (.app (.fld (.tok 0) 2) (.row [(.lit .u)]))),(.get (.fld (.tok 1) 3) (.lit (.i 0))),(.tok 2)]) (.call 5 0 [(.call 5 1 [(.set (.tok 0) 2 (.app (.fld (.tok 0) 2) (.row [(.lit .u)]))),(.get (.fld (.tok 1) 3) (.lit (.i 0))),(.tok 2)]),(.get (.fld (.tok 1) 3) (.lit (.i 1))),(.tok 2)])))) (.need [(.ok 2 [(.tok 1),(.lit (.s ⟨#[45,62]⟩)),(.lit (.i 2))])] (.br (.call 2 0 [(.tok 1),(.lit (.s ⟨#[45,62]⟩)),(.lit (.i 2))]) (.need [(.ok 3 [(.set (.tok 0) 2 (.app (.fld (.tok 0) 2) (.row [(.lit .u)])))])] (.need [(.ok 4 [(.lit (.i 3)),(.call 3 0 [(.set (.tok 0) 2 (.app (.fld (.tok 0) 2) (.row [(.lit .u)])))])])] (.need [(.lit (.b .true)),(.lt (.lit (.i 0)) (.len (.fld (.tok 1) 3))),(.ok 5 [(.call 3 1 [(.set (.tok 0) 2 (.app (.fld (.tok 0) 2) (.row [(.lit .u)])))]),(.get (.fld (.tok 1) 3) (.lit (.i 0))),(.call 3 0 [(.set (.tok 0) 2 (.app (.fld (.tok 0) 2) (.row [(.lit .u)])))])]),(.le (.add (.lit (.i 1)) (.len (.call 5 0 [(.call 3 1 [(.set (.tok 0) 2 (.app (.fld (.tok 0) 2) (.row [(.lit .u)])))]),(.get (.fld (.tok 1) 3) (.lit (.i 0))),(.call 3 0 [(.set (.tok 0) 2 (.app (.fld (.tok 0) 2) (.row [(.lit .u)])))])]))) (.lit (.i 1954687338211)))] (.need [(.ok 4 [(.lit (.i 4)),(.call 3 0 [(.set (.tok 0) 2 (.app (.fld (.tok 0) 2) (.row [(.lit .u)])))])]),(.le (.add (.len (.app (.row [(.call 4 0 [(.lit (.i 3)),(.call 3 0 [(.set (.tok 0) 2 (.app (.fld (.tok 0) 2) (.row [(.lit .u)])))])])]) (.call 5 0 [(.call 3 1 [(.set (.tok 0) 2 (.app (.fld (.tok 0) 2) (.row [(.lit .u)])))]),(.get (.fld (.tok 1) 3) (.lit (.i 0))),(.call 3 0 [(.set (.tok 0) 2 (.app (.fld (.tok 0) 2) (.row [(.lit .u)])))])]))) (.lit (.i 1))) (.lit (.i 1954687338211)))] (.need [(.lit (.b .true)),(.lt (.lit (.i 1)) (.len (.fld (.tok 1) 3))),(.ok 5 [(.call 5 1 [(.call 3 1 [(.set (.tok 0) 2 (.app (.fld (.tok 0) 2) (.row [(.lit .u)])))]),(.get (.fld (.tok 1) 3) (.lit (.i 0))),(.call 3 0 [(.set (.tok 0) 2 (.app (.fld (.tok 0) 2) (.row [(.lit .u)])))])]),(.get (.fld (.tok 1) 3) (.lit (.i 1))),(.tok 2)]),(.le (.add (.len (.app (.app (.row [(.call 4 0 [(.lit (.i 3)),(.call 3 0 [(.set (.tok 0) 2 (.app (.fld (.tok 0) 2) (.row [(.lit .u)])))])])]) (.call 5 0 [(.call 3 1 [(.set (.tok 0) 2 (.app (.fld (.tok 0) 2) (.row [(.lit .u)])))]),(.get (.fld (.tok 1) 3) (.lit (.i 0))),(.call 3 0 [(.set (.tok 0) 2 (.app (.fld (.tok 0) 2) (.row [(.lit .u)])))])])) (.row [(.call 4 0 [(.lit (.i 4)),(.call 3 0 [(.set (.tok 0) 2 (.app (.fld (.tok 0) 2) (.row [(.lit .u)])))])])]))) (.len (.call 5 0 [(.call 5 1 [(.call 3 1 [(.set (.tok 0) 2 (.app (.fld (.tok 0) 2) (.row [(.lit .u)])))]),(.get (.fld (.tok 1) 3) (.lit (.i 0))),(.call 3 0 [(.set (.tok 0) 2 (.app (.fld (.tok 0) 2) (.row [(.lit .u)])))])]),(.get (.fld (.tok 1) 3) (.lit (.i 1))),(.tok 2)]))) (.lit (.i 1954687338211))),(.lit (.b .true))] (z0p xa (.call 5 1 [(.call 5 1 [(.call 3 1 [(.set (.tok 0) 2 (.app (.fld (.tok 0) 2) (.row [(.lit .u)])))]),(.get (.fld (.tok 1) 3) (.lit (.i 0))),(.call 3 0 [(.set (.tok 0) 2 (.app (.fld (.tok 0) 2) (.row [(.lit .u)])))])]),(.get (.fld (.tok 1) 3) (.lit (.i 1))),(.tok 2)]) (.app (.app (.app (.row [(.call 4 0 [(.lit (.i 3)),(.call 3 0 [(.set (.tok 0) 2 (.app (.fld (.tok 0) 2) (.row [(.lit .u)])))])])]) (.call 5 0 [(.call 3 1 [(.set (.tok 0) 2 (.app (.fld (.tok 0) 2) (.row [(.lit .u)])))]),(.get (.fld (.tok 1) 3) (.lit (.i 0))),(.call 3 0 [(.set (.tok 0) 2 (.app (.fld (.tok 0) 2) (.row [(.lit .u)])))])])) (.row [(.call 4 0 [(.lit (.i 4)),(.call 3 0 [(.set (.tok 0) 2 (.app (.fld (.tok 0) 2) (.row [(.lit .u)])))])])])) (.call 5 0 [(.call 5 1 [(.call 3 1 [(.set (.tok 0) 2 (.app (.fld (.tok 0) 2) (.row [(.lit .u)])))]),(.get (.fld (.tok 1) 3) (.lit (.i 0))),(.call 3 0 [(.set (.tok 0) 2 (.app (.fld (.tok 0) 2) (.row [(.lit .u)])))])]),(.get (.fld (.tok 1) 3) (.lit (.i 1))),(.tok 2)])))))))) (.need [(.ok 2 [(.tok 1),(.lit (.s ⟨#[92,43]⟩)),(.lit (.i 1))])] (.br (.call 2 0 [(.tok 1),(.lit (.s ⟨#[92,43]⟩)),(.lit (.i 1))]) (.need [(.ok 3 [(.set (.tok 0) 2 (.app (.fld (.tok 0) 2) (.row [(.lit .u)])))]),(.ok 3 [(.call 3 1 [(.set (.tok 0) 2 (.app (.fld (.tok 0) 2) (.row [(.lit .u)])))])])] (.need [(.ok 4 [(.lit (.i 2)),(.call 3 0 [(.set (.tok 0) 2 (.app (.fld (.tok 0) 2) (.row [(.lit .u)])))])]),(.ok 4 [(.lit (.i 3)),(.call 3 0 [(.call 3 1 [(.set (.tok 0) 2 (.app (.fld (.tok 0) 2) (.row [(.lit .u)])))])])])] (.need [(.lit (.b .true)),(.lt (.lit (.i 0)) (.len (.fld (.tok 1) 3))),(.ok 6 [(.get (.fld (.tok 1) 3) (.lit (.i 0)))]),(.ok 5 [(.call 3 1 [(.call 3 1 [(.set (.tok 0) 2 (.app (.fld (.tok 0) 2) (.row [(.lit .u)])))])]),(.call 6 0 [(.get (.fld (.tok 1) 3) (.lit (.i 0)))]),(.call 3 0 [(.call 3 1 [(.set (.tok 0) 2 (.app (.fld (.tok 0) 2) (.row [(.lit .u)])))])])]),(.le (.add (.lit (.i 2)) (.len (.call 5 0 [(.call 3 1 [(.call 3 1 [(.set (.tok 0) 2 (.app (.fld (.tok 0) 2) (.row [(.lit .u)])))])]),(.call 6 0 [(.get (.fld (.tok 1) 3) (.lit (.i 0)))]),(.call 3 0 [(.call 3 1 [(.set (.tok 0) 2 (.app (.fld (.tok 0) 2) (.row [(.lit .u)])))])])]))) (.lit (.i 1954687338211)))] (.need [(.ok 4 [(.lit (.i 4)),(.call 3 0 [(.set (.tok 0) 2 (.app (.fld (.tok 0) 2) (.row [(.lit .u)])))])]),(.ok 4 [(.lit (.i 5)),(.lit (.i 0))]),(.le (.add (.len (.app (.row [(.call 4 0 [(.lit (.i 2)),(.call 3 0 [(.set (.tok 0) 2 (.app (.fld (.tok 0) 2) (.row [(.lit .u)])))])]),(.call 4 0 [(.lit (.i 3)),(.call 3 0 [(.call 3 1 [(.set (.tok 0) 2 (.app (.fld (.tok 0) 2) (.row [(.lit .u)])))])])])]) (.call 5 0 [(.call 3 1 [(.call 3 1 [(.set (.tok 0) 2 (.app (.fld (.tok 0) 2) (.row [(.lit .u)])))])]),(.call 6 0 [(.get (.fld (.tok 1) 3) (.lit (.i 0)))]),(.call 3 0 [(.call 3 1 [(.set (.tok 0) 2 (.app (.fld (.tok 0) 2) (.row [(.lit .u)])))])])]))) (.lit (.i 2))) (.lit (.i 1954687338211))),(.lit (.b .true))] (qvx xa (.call 5 1 [(.call 3 1 [(.call 3 1 [(.set (.tok 0) 2 (.app (.fld (.tok 0) 2) (.row [(.lit .u)])))])]),(.call 6 0 [(.get (.fld (.tok 1) 3) (.lit (.i 0)))]),(.call 3 0 [(.call 3 1 [(.set (.tok 0) 2 (.app (.fld (.tok 0) 2) (.row [(.lit .u)])))])])]) (.app (.app (.row [(.call 4 0 [(.lit (.i 2)),(.call 3 0 [(.set (.tok 0) 2 (.app (.fld (.tok 0) 2) (.row [(.lit .u)])))])]),(.call 4 0 [(.lit (.i 3)),(.call 3 0 [(.call 3 1 [(.set (.tok 0) 2 (.app (.fld (.tok 0) 2) (.row [(.lit .u)])))])])])]) (.call 5 0 [(.call 3 1 [(.call 3 1 [(.set (.tok 0) 2 (.app (.fld (.tok 0) 2) (.row [(.lit .u)])))])]),(.call 6 0 [(.get (.fld (.tok 1) 3) (.lit (.i 0)))]),(.call 3 0 [(.call 3 1 [(.set (.tok 0) 2 (.app (.fld (.tok 0) 2) (.row [(.lit .u)])))])])])) (.row [(.call 4 0 [(.lit (.i 4)),(.call 3 0 [(.set (.tok 0) 2 (.app (.fld (.tok 0) 2) (.row [(.lit .u)])))])]),(.call 4 0 [(.lit (.i 5)),(.lit (.i 0))])])) (.lit (.r []))))))) (.need [(.ok 3 [(.set (.tok 0) 2 (.app (.fld (.tok 0) 2) (.row [(.lit .u)])))])] (.need [(.ok 4 [(.lit (.i 3)),(.call 3 0 [(.set (.tok 0) 2 (.app (.fld (.tok 0) 2) (.row [(.lit .u)])))])])] (.need [(.lit (.b .true)),(.lt (.lit (.i 0)) (.len (.fld (.tok 1) 3))),(.ok 6 [(.get (.fld (.tok 1) 3) (.lit (.i 0)))]),(.ok 5 [(.call 3 1 [(.set (.tok 0) 2 (.app (.fld (.tok 0) 2) (.row [(.lit .u)])))]),(.call 6 0 [(.get (.fld (.tok 1) 3) (.lit (.i 0)))]),(.call 3 0 [(.set (.tok 0) 2 (.app (.fld (.tok 0) 2) (.row [(.lit .u)])))])]),(.le (.add (.lit (.i 1)) (.len (.call 5 0 [(.call 3 1 [(.set (.tok 0) 2 (.app (.fld (.tok 0) 2) (.row [(.lit .u)])))]),(.call 6 0 [(.get (.fld (.tok 1) 3) (.lit (.i 0)))]),(.call 3 0 [(.set (.tok 0) 2 (.app (.fld (.tok 0) 2) (.row [(.lit .u)])))])]))) (.lit (.i 1954687338211)))] (.need [(.ok 4 [(.lit (.i 4)),(.call 3 0 [(.set (.tok 0) 2 (.app (.fld (.tok 0) 2) (.row [(.lit .u)])))])]),(.le (.add (.len (.app (.row [(.call 4 0 [(.lit (.i 3)),(.call 3 0 [(.set (.tok 0) 2 (.app (.fld (.tok 0) 2) (.row [(.lit .u)])))])])]) (.call 5 0 [(.call 3 1 [(.set (.tok 0) 2 (.app (.fld (.tok 0) 2) (.row [(.lit .u)])))]),(.call 6 0 [(.get (.fld (.tok 1) 3) (.lit (.i 0)))]),(.call 3 0 [(.set (.tok 0) 2 (.app (.fld (.tok 0) 2) (.row [(.lit .u)])))])]))) (.lit (.i 1))) (.lit (.i 1954687338211))),(.lit (.b .true))] (z0p xa (.call 5 1 [(.call 3 1 [(.set (.tok 0) 2 (.app (.fld (.tok 0) 2) (.row [(.lit .u)])))]),(.call 6 0 [(.get (.fld (.tok 1) 3) (.lit (.i 0)))]),(.call 3 0 [(.set (.tok 0) 2 (.app (.fld (.tok 0) 2) (.row [(.lit .u)])))])]) (.app (.app (.row [(.call 4 0 [(.lit (.i 3)),(.call 3 0 [(.set (.tok 0) 2 (.app (.fld (.tok 0) 2) (.row [(.lit .u)])))])])]) (.call 5 0 [(.call 3 1 [(.set (.tok 0) 2 (.app (.fld (.tok 0) 2) (.row [(.lit .u)])))]),(.call 6 0 [(.get (.fld (.tok 1) 3) (.lit (.i 0)))]),(.call 3 0 [(.set (.tok 0) 2 (.app (.fld (.tok 0) 2) (.row [(.lit .u)])))])])) (.row [(.call 4 0 [(.lit (.i 4)),(.call 3 0 [(.set (.tok 0) 2 (.app (.fld (.tok 0) 2) (.row [(.lit .u)])))])])]))))))))))))))))
def csX:X:=(.app (.tok 3) (.row [(.set (.set (.lit (.a [(.i 0),(.i 0),(.s ⟨#[]⟩),(.r [])])) 0 (.lit (.i 0))) 1 (.tok 2))]))
def csW:Tree:=(.need [(.le (.add (.len (.fld (.tok 0) 2)) (.lit (.i 1))) (.lit (.i 5864062014634)))] (.need [(.ok 0 [(.row [(.tok 1)])])] (.loop 6 3 [(.lit (.r [])),(.lit (.i 0))] (.br (.lt (.tok 4) (.len (.call 0 0 [(.row [(.tok 1)])]))) (.need [(.le (.lit (.i 0)) (.tok 4)),(.lt (.tok 4) (.len (.call 0 0 [(.row [(.tok 1)])]))),(.le (.add (.len (.tok 3)) (.lit (.i 1))) (.lit (.i 2513169434843)))] (.need [(.rng .i64 (.add (.tok 4) (.lit (.i 1))))] (.back 6 [(.app (.tok 3) (.row [(.set (.set (.lit (.a [(.i 0),(.i 0),(.s ⟨#[]⟩),(.r [])])) 0 (.lit (.i 0))) 1 (.get (.call 0 0 [(.row [(.tok 1)])]) (.tok 4)))])),(.add (.tok 4) (.lit (.i 1)))]))) (.need [(.ok 1 [(.tok 1)])] (.br (.call 1 0 [(.tok 1)]) (.need [(.le (.add (.len (.tok 3)) (.lit (.i 1))) (.lit (.i 2513169434843)))] (csT csX)) (csT (.tok 3))))))))
theorem zh8:q0x=csW:=by kernel_rfl
theorem zjx{f:Int}{y:X24}(hna:okRf f y)(h1:0≤y.nv)(h2:y.nv≤1099511627776):q2n [eRf f y]=some [.i y.nv,eRf f y.var]:=by
 simp only[q2n,qcm hna,q2f,j6,decide_eq_true (show -4611686018427387904≤y.nv by omega),decide_eq_true (show y.nv≤4611686018427387904 by omega),uI,if_true]
section
variable{N:Nat}{t0 t1 t2 t3 t4 t5 t6 t7:Ct}{f:Int}{x:X24}{g:Te}{c:Int}{s3 s4:D}{xa:X}{B:Nat→List D→Prop}
theorem qnb{g:Te}(hv:zb g=true)(hl:0<g.l.length):zb (zi (ag g 0))=true:=by
 have hs:=(jg.1 hv).1;have ha:=qci hv hl;have hz:szT (ag g 0)<szT g:=q3j hl;unfold zi;split
 ·rename_i h;have hb:=qig h;refine jg.2 ⟨?_,qfl _ (jg.1 ha).2 hb⟩;have h':=h;unfold q3l at h';rw[if_pos ha,hb] at h';simp only at h';by_cases hq:2000<szT (q3l (ag g 0)).1
  ·rw[if_pos hq] at h';cases h'
  ·omega
 ·refine jg.2 ⟨?_,?_⟩
  ·rw[szT,q28,q28];omega
  ·rw[j4,q36,q36,qd4,(jg.1 ha).2];rfl
theorem Grw.pred(x:X24):Grw x x.pred 0 1:=by
 have e:x.pred.aux.length=x.aux.length+1:=by simp[X24.pred]
 refine⟨Int.le_refl _,by show x.nv≤_;simp,rfl,?_,by omega,by omega⟩
 show x.na+1 - x.na=(x.pred.aux.length:Int) - x.aux.length
 rw[e]
 push_cast
 omega
theorem z8v(hxa:xa.ev (evl (ym [(t0,q0q),(t1,gTb q07),(t2,gIs),(t3,q2n),(t4,gOp),(t5,yu mG N q5e),(t6,gTT zi),(t7,gLL (uO yv))]) [eRf f x,eT g,.i c,s3,s4])=.r ((q15 g c).map eT))(hcon:qnf g=true)(hv:zb g=true)(h1:rho g≤N)(h2:qo3 (2 * rho g) (rho g) x=true)(h3:isNum c=true)(hna:okRf f x):
  (csT xa).go (ym [(t0,q0q),(t1,gTb q07),(t2,gIs),(t3,q2n),(t4,gOp),(t5,yu mG N q5e),(t6,gTT zi),(t7,gLL (uO yv))]) (fun o=>o=[.r ((qgo x g c).1.map eFG),eRf f (qgo x g c).2]) [eRf f x,eT g,.i c,s3,s4] B:=by
 have hp:=q1b.1 (q6p.1 h2).1;have hp2:=(q6p.1 h2).2;have hr:=zm g;have eis:∀(t:Te)(s:ByteArray)(n:Int),gIs [eT t,.s s,.i n]=some [.b (isT t s n)]:=fun t s n=>by
  simp only[gIs,z9,qh3,j6]
 have G0:=Grw.pred x;have hna0:okRf f x.pred:=G0.okRf hna;have hna':f+(x.aux.length:Int)=x.na:=hna.symm;have ev0:q2n [eRf f x.pred]=some [.i x.nv,eRf f x.pred.var]:=zjx hna0 (show 0≤x.nv by omega) (show x.nv≤_ by omega);have ev1:q2n [eRf f x.pred.var]=some [.i (x.nv+1),eRf f x.pred.var.var]:=zjx (y:=x.pred.var) hna0 (show 0≤x.nv+1 by omega) (show x.nv+1≤_ by omega);have G1:=G0.trans (Grw.var x.pred);have G2:=G1.trans (Grw.var x.pred.var);have n0:isNum x.nv=true:=q5x.2 ⟨by omega,by omega⟩;have n1:isNum (x.nv+1)=true:=q5x.2 ⟨by omega,by omega⟩;unfold csT;cases q1:isT g q3s 2 with
 | true =>
  obtain⟨hq,hl⟩:=q3x (.inr (.inl q1));have p0:=zm (ag g 0);have p1:=zm (ag g 1);have e0:(D.r (g.l.map eT)).get 0=eT (ag g 0):=q5v (k:=0) (by omega);have e1:(D.r (g.l.map eT)).get 1=eT (ag g 1):=q5v (k:=1) (by omega);have hl2:(g.l.length:Int)=2:=by omega
  have v0:=qci hv (j:=0) (by omega);have v1:=qci hv (j:=1) (by omega);have hcp:qgo x g c=onR (q1r (fun y=>q0o zg y g c) x g c):=by unfold qgo;rw[if_pos q1]
  rw[hcp];cases qa:isT (ag g 0) q02 2 with
  | true =>
   obtain⟨hqa,hla⟩:=q3x (.inr (.inr qa));have p00:=zm (ag (ag g 0) 0);have p01:=zm (ag (ag g 0) 1);have f0:(D.r ((ag g 0).l.map eT)).get 0=eT (ag (ag g 0) 0):=q5v (k:=0) (by omega);have f1:(D.r ((ag g 0).l.map eT)).get 1=eT (ag (ag g 0) 1):=q5v (k:=1) (by omega);have hla2:((ag g 0).l.length:Int)=2:=by omega
   have w0:=qci v0 (j:=0) (by omega);have w1:=qci v0 (j:=1) (by omega);have b3:=y5 (ag (ag g 0) 0) x.pred.var.var (x.nv+1);have o3:=q4t x.pred.var.var (ag (ag g 0) 0) (x.nv+1);have c3:=qao (N:=N) (x:=x.pred.var.var) (g:=ag (ag g 0) 0) (x.nv+1) (G2.okRf hna) w0 (by omega) (q3a h2 G2 (by omega) (by omega)) n1;have hb:q0o zg x.pred g c=([([opG 2 x.nv,opG 3 (x.nv+1)]++(zg x.pred.var.var (ag (ag g 0) 0) (x.nv+1)).1++[opG 4 x.nv])++(zg (zg x.pred.var.var (ag (ag g 0) 0) (x.nv+1)).2 (ag (ag g 0) 1) c).1,(zg (zg (zg x.pred.var.var (ag (ag g 0) 0) (x.nv+1)).2 (ag (ag g 0) 1) c).2 (ag g 1) c).1],(zg (zg (zg x.pred.var.var (ag (ag g 0) 0) (x.nv+1)).2 (ag (ag g 0) 1) c).2 (ag g 1) c).2):=by
    unfold q0o;rw[if_pos qa];rfl
   generalize zg x.pred.var.var (ag (ag g 0) 0) (x.nv+1)=r3 at *;have G3:=G2.trans b3.1;have b4:=y5 (ag (ag g 0) 1) r3.2 c;have o4:=q4t r3.2 (ag (ag g 0) 1) c;have c4:=qao (N:=N) (x:=r3.2) (g:=ag (ag g 0) 1) c (G3.okRf hna) w1 (by omega) (q3a h2 G3 (by omega) (by omega)) h3;generalize zg r3.2 (ag (ag g 0) 1) c=r4 at *;have G4:=G3.trans b4.1;have b5:=y5 (ag g 1) r4.2 c;have o5:=q4t r4.2 (ag g 1) c;have c5:=qao (N:=N) (x:=r4.2) (g:=ag g 1) c (G4.okRf hna) v1 (by omega) (q3a h2 G4 (by omega) (by omega)) h3;generalize zg r4.2 (ag g 1) c=r5 at *;have l3:=b3.2;have l4:=b4.2;have l5:=b5.2;simp only[y7,y3];simp only[gnZ,gnT,qp,qj,qn,qc,qq,qt,qr,qo,qm,ql,qu,qk,qh,qi,qg,zf,zs,zq,zp,zo,zr,qw,z0,qe,qv,eis,q0n,q2f,q4c,q68,hna',ev0,eOp,true_implies,false_implies,implies_true,reduceCtorEq,uI,uL,uC,uH,uG,uJ,uF,uM,uK,uA,uB,uD,uE,ev1,e0,e1,hl2,f0,f1,hla2,c3,c4,c5,show isT g ⟨#[59]⟩ 2=true from q1,show isT (ag g 0) ⟨#[45,62]⟩ 2=true from qa];refine⟨by omega,by omega,by omega,by omega,by omega,by omega,?_⟩;refine zaf hb hxa ?_ ?_ ?_ hna ((((Old.var _).trans (Old.var _)).trans o3).trans o4|>.trans o5)
   ·simp only[gnZ,gnT,qp,qj,qn,qc,qq,qt,qr,qo,qm,ql,qu,qk,qh,qi,qg,zf,zs,zq,zp,zo,zr,qw,z0,qe,qv,eis,q0n,q2f,q4c,q68,hna',ev0,eOp,true_implies,false_implies,implies_true,reduceCtorEq,uI,uL,uC,uH,uG,uJ,uF,uM,uK,uA,uB,uD,uE,ev1,e0,e1,hl2,f0,f1,hla2,c3,c4,c5]
   ·simp only[gnZ,gnT,qp,qj,qn,qc,qq,qt,qr,qo,qm,ql,qu,qk,qh,qi,qg,zf,zs,zq,zp,zo,zr,qw,z0,qe,qv,eis,q0n,q2f,q4c,q68,hna',ev0,eOp,true_implies,false_implies,implies_true,reduceCtorEq,uI,uL,uC,uH,uG,uJ,uF,uM,uK,uA,uB,uD,uE,ev1,e0,e1,hl2,f0,f1,hla2,c3,c4,c5,eGs,uN,uQ,uR,uP]
   ·simp only[gnZ,gnT,qp,qj,qn,qc,qq,qt,qr,qo,qm,ql,qu,qk,qh,qi,qg,zf,zs,zq,zp,zo,zr,qw,z0,qe,qv,eis,q0n,q2f,q4c,q68,hna',ev0,eOp,true_implies,false_implies,implies_true,reduceCtorEq,uI,uL,uC,uH,uG,uJ,uF,uM,uK,uA,uB,uD,uE,ev1,e0,e1,hl2,f0,f1,hla2,c3,c4,c5,eGs,uN,uQ,uR,uP]
  | false =>
   have b3:=y5 (ag g 0) x.pred c;have o3:=q4t x.pred (ag g 0) c;have c3:=qao (N:=N) (x:=x.pred) (g:=ag g 0) c hna0 v0 (by omega) (q3a h2 G0 (by omega) (by omega)) h3;have hb:q0o zg x.pred g c=([(zg x.pred (ag g 0) c).1,(zg (zg x.pred (ag g 0) c).2 (ag g 1) c).1],(zg (zg x.pred (ag g 0) c).2 (ag g 1) c).2):=by
    unfold q0o;rw[if_neg (by rw[qa];decide)];rfl
   generalize zg x.pred (ag g 0) c=r3 at *;have G3:=G0.trans b3.1;have b4:=y5 (ag g 1) r3.2 c;have o4:=q4t r3.2 (ag g 1) c;have c4:=qao (N:=N) (x:=r3.2) (g:=ag g 1) c (G3.okRf hna) v1 (by omega) (q3a h2 G3 (by omega) (by omega)) h3;generalize zg r3.2 (ag g 1) c=r4 at *;have l3:=b3.2;have l4:=b4.2;simp only[y7,y3];simp only[gnZ,gnT,qp,qj,qn,qc,qq,qt,qr,qo,qm,ql,qu,qk,qh,qi,qg,zf,zs,zq,zp,zo,zr,qw,z0,qe,qv,eis,q0n,q2f,q4c,q68,hna',ev0,eOp,true_implies,false_implies,implies_true,reduceCtorEq,uI,uL,uC,uH,uG,uJ,uF,uM,uK,uA,uB,uD,uE,e0,e1,hl2,c3,c4,show isT g ⟨#[59]⟩ 2=true from q1,show isT (ag g 0) ⟨#[45,62]⟩ 2=false from qa];refine⟨by omega,by omega,by omega,by omega,?_⟩;refine zaf hb hxa ?_ ?_ ?_ hna (o3.trans o4)
   ·simp only[gnZ,gnT,qp,qj,qn,qc,qq,qt,qr,qo,qm,ql,qu,qk,qh,qi,qg,zf,zs,zq,zp,zo,zr,qw,z0,qe,qv,eis,q0n,q2f,q4c,q68,hna',ev0,eOp,true_implies,false_implies,implies_true,reduceCtorEq,uI,uL,uC,uH,uG,uJ,uF,uM,uK,uA,uB,uD,uE,e0,e1,hl2,c3,c4]
   ·simp only[gnZ,gnT,qp,qj,qn,qc,qq,qt,qr,qo,qm,ql,qu,qk,qh,qi,qg,zf,zs,zq,zp,zo,zr,qw,z0,qe,qv,eis,q0n,q2f,q4c,q68,hna',ev0,eOp,true_implies,false_implies,implies_true,reduceCtorEq,uI,uL,uC,uH,uG,uJ,uF,uM,uK,uA,uB,uD,uE,e0,e1,hl2,c3,c4,eGs,uN,uQ,uR,uP]
   ·simp only[gnZ,gnT,qp,qj,qn,qc,qq,qt,qr,qo,qm,ql,qu,qk,qh,qi,qg,zf,zs,zq,zp,zo,zr,qw,z0,qe,qv,eis,q0n,q2f,q4c,q68,hna',ev0,eOp,true_implies,false_implies,implies_true,reduceCtorEq,uI,uL,uC,uH,uG,uJ,uF,uM,uK,uA,uB,uD,uE,e0,e1,hl2,c3,c4,eGs,uN,uQ,uR,uP]
 | false =>
  cases q2:isT g q02 2 with
  |true=>
   obtain⟨hq,hl⟩:=q3x (.inr (.inr q2));have p0:=zm (ag g 0);have p1:=zm (ag g 1);have e0:(D.r (g.l.map eT)).get 0=eT (ag g 0):=q5v (k:=0) (by omega);have e1:(D.r (g.l.map eT)).get 1=eT (ag g 1):=q5v (k:=1) (by omega);have hl2:(g.l.length:Int)=2:=by omega
   have v0:=qci hv (j:=0) (by omega);have v1:=qci hv (j:=1) (by omega);have hcp:qgo x g c=onR (q1r (fun y=>q8c zg y g c) x g c):=by unfold qgo;rw[if_neg (by rw[q1];decide),if_pos q2]
   rw[hcp];have b3:=y5 (ag g 0) x.pred.var x.nv;have o3:=q4t x.pred.var (ag g 0) x.nv;have c3:=qao (N:=N) (x:=x.pred.var) (g:=ag g 0) x.nv (G1.okRf hna) v0 (by omega) (q3a h2 G1 (by omega) (by omega)) n0;have hb:q8c zg x.pred g c=([([opG 3 x.nv]++(zg x.pred.var (ag g 0) x.nv).1++[opG 4 x.nv])++(zg (zg x.pred.var (ag g 0) x.nv).2 (ag g 1) c).1],(zg (zg x.pred.var (ag g 0) x.nv).2 (ag g 1) c).2):=rfl;generalize zg x.pred.var (ag g 0) x.nv=r3 at *;have G3:=G1.trans b3.1;have b4:=y5 (ag g 1) r3.2 c;have o4:=q4t r3.2 (ag g 1) c;have c4:=qao (N:=N) (x:=r3.2) (g:=ag g 1) c (G3.okRf hna) v1 (by omega) (q3a h2 G3 (by omega) (by omega)) h3;generalize zg r3.2 (ag g 1) c=r4 at *;have l3:=b3.2;have l4:=b4.2;simp only[y7,y3];simp only[gnZ,gnT,qp,qj,qn,qc,qq,qt,qr,qo,qm,ql,qu,qk,qh,qi,qg,zf,zs,zq,zp,zo,zr,qw,z0,qe,qv,eis,q0n,q2f,q4c,q68,hna',ev0,eOp,true_implies,false_implies,implies_true,reduceCtorEq,uI,uL,uC,uH,uG,uJ,uF,uM,uK,uA,uB,uD,uE,e0,e1,hl2,c3,c4,show isT g ⟨#[59]⟩ 2=false from q1,show isT g ⟨#[45,62]⟩ 2=true from q2];refine⟨by omega,by omega,by omega,by omega,?_⟩;refine zg8 hb hxa ?_ ?_ hna (((Old.var _).trans o3).trans o4)
   ·simp only[gnZ,gnT,qp,qj,qn,qc,qq,qt,qr,qo,qm,ql,qu,qk,qh,qi,qg,zf,zs,zq,zp,zo,zr,qw,z0,qe,qv,eis,q0n,q2f,q4c,q68,hna',ev0,eOp,true_implies,false_implies,implies_true,reduceCtorEq,uI,uL,uC,uH,uG,uJ,uF,uM,uK,uA,uB,uD,uE,e0,e1,hl2,c3,c4]
   ·simp only[gnZ,gnT,qp,qj,qn,qc,qq,qt,qr,qo,qm,ql,qu,qk,qh,qi,qg,zf,zs,zq,zp,zo,zr,qw,z0,qe,qv,eis,q0n,q2f,q4c,q68,hna',ev0,eOp,true_implies,false_implies,implies_true,reduceCtorEq,uI,uL,uC,uH,uG,uJ,uF,uM,uK,uA,uB,uD,uE,e0,e1,hl2,c3,c4,eGs,uN,uQ,uR,uP]
  | false =>
   cases q3:isT g qdo 1 with
   |true=>
    obtain⟨hq,hl⟩:=qbl (.inl q3);have hi:=q2t (ag g 0);have p0:=zm (zi (ag g 0));have e0:(D.r (g.l.map eT)).get 0=eT (ag g 0):=q5v (k:=0) (by omega);have hl1:(g.l.length:Int)=1:=by omega
    have v0:=qnb hv (by omega);have ei:gTT zi [eT (ag g 0)]=some [eT (zi (ag g 0))]:=qj0 _ _;have hcp:qgo x g c=onR (q1r (fun y=>qfj zg y g) x g c):=by unfold qgo;rw[if_neg (by rw[q1];decide),if_neg (by rw[q2];decide),if_pos q3]
    rw[hcp];have b3:=y5 (zi (ag g 0)) x.pred.var.var (x.nv+1);have o3:=q4t x.pred.var.var (zi (ag g 0)) (x.nv+1);have c3:=qao (N:=N) (x:=x.pred.var.var) (g:=zi (ag g 0)) (x.nv+1) (G2.okRf hna) v0 (by omega) (q3a h2 G2 (by omega) (by omega)) n1;have hb:qfj zg x.pred g=([([opG 2 x.nv,opG 3 (x.nv+1)]++(zg x.pred.var.var (zi (ag g 0)) (x.nv+1)).1)++[opG 4 x.nv,opG 5 0],[]],(zg x.pred.var.var (zi (ag g 0)) (x.nv+1)).2):=rfl;generalize zg x.pred.var.var (zi (ag g 0)) (x.nv+1)=r3 at *;have l3:=b3.2;simp only[y7,y3];simp only[gnZ,gnT,qp,qj,qn,qc,qq,qt,qr,qo,qm,ql,qu,qk,qh,qi,qg,zf,zs,zq,zp,zo,zr,qw,z0,qe,qv,eis,q0n,q2f,q4c,q68,hna',ev0,eOp,true_implies,false_implies,implies_true,reduceCtorEq,uI,uL,uC,uH,uG,uJ,uF,uM,uK,uA,uB,uD,uE,ev1,e0,hl1,ei,c3,show isT g ⟨#[59]⟩ 2=false from q1,show isT g ⟨#[45,62]⟩ 2=false from q2,show isT g ⟨#[92,43]⟩ 1=true from q3];refine⟨by omega,by omega,by omega,?_⟩;refine zaf hb hxa ?_ ?_ ?_ hna (((Old.var _).trans (Old.var _)).trans o3)
    ·simp only[gnZ,gnT,qp,qj,qn,qc,qq,qt,qr,qo,qm,ql,qu,qk,qh,qi,qg,zf,zs,zq,zp,zo,zr,qw,z0,qe,qv,eis,q0n,q2f,q4c,q68,hna',ev0,eOp,true_implies,false_implies,implies_true,reduceCtorEq,uI,uL,uC,uH,uG,uJ,uF,uM,uK,uA,uB,uD,uE,ev1,e0,hl1,ei,c3]
    ·simp only[gnZ,gnT,qp,qj,qn,qc,qq,qt,qr,qo,qm,ql,qu,qk,qh,qi,qg,zf,zs,zq,zp,zo,zr,qw,z0,qe,qv,eis,q0n,q2f,q4c,q68,hna',ev0,eOp,true_implies,false_implies,implies_true,reduceCtorEq,uI,uL,uC,uH,uG,uJ,uF,uM,uK,uA,uB,uD,uE,ev1,e0,hl1,ei,c3,eGs,uN,uQ,uR,uP]
    ·simp only[gnZ,gnT,qp,qj,qn,qc,qq,qt,qr,qo,qm,ql,qu,qk,qh,qi,qg,zf,zs,zq,zp,zo,zr,qw,z0,qe,qv,eis,q0n,q2f,q4c,q68,hna',ev0,eOp,true_implies,false_implies,implies_true,reduceCtorEq,uI,uL,uC,uH,uG,uJ,uF,uM,uK,uA,uB,uD,uE,ev1,e0,hl1,ei,c3,eGs,uN,uQ,uR,uP]
   | false =>
    have q4:isT g q8r 1=true:=by
     unfold qnf at hcon;rw[q1,q2,q3] at hcon;simpa using hcon
    obtain⟨hq,hl⟩:=qbl (.inr q4);have hi:=q2t (ag g 0);have p0:=zm (zi (ag g 0));have e0:(D.r (g.l.map eT)).get 0=eT (ag g 0):=q5v (k:=0) (by omega);have hl1:(g.l.length:Int)=1:=by omega
    have v0:=qnb hv (by omega);have ei:gTT zi [eT (ag g 0)]=some [eT (zi (ag g 0))]:=qj0 _ _;have hcp:qgo x g c=onR (q1r (fun y=>q88 zg y g) x g c):=by unfold qgo;rw[if_neg (by rw[q1];decide),if_neg (by rw[q2];decide),if_neg (by rw[q3];decide)]
    rw[hcp];have b3:=y5 (zi (ag g 0)) x.pred.var x.nv;have o3:=q4t x.pred.var (zi (ag g 0)) x.nv;have c3:=qao (N:=N) (x:=x.pred.var) (g:=zi (ag g 0)) x.nv (G1.okRf hna) v0 (by omega) (q3a h2 G1 (by omega) (by omega)) n0;have hb:q88 zg x.pred g=([([opG 3 x.nv]++(zg x.pred.var (zi (ag g 0)) x.nv).1)++[opG 4 x.nv]],(zg x.pred.var (zi (ag g 0)) x.nv).2):=rfl;generalize zg x.pred.var (zi (ag g 0)) x.nv=r3 at *;have l3:=b3.2;simp only[y7,y3];simp only[gnZ,gnT,qp,qj,qn,qc,qq,qt,qr,qo,qm,ql,qu,qk,qh,qi,qg,zf,zs,zq,zp,zo,zr,qw,z0,qe,qv,eis,q0n,q2f,q4c,q68,hna',ev0,eOp,true_implies,false_implies,implies_true,reduceCtorEq,uI,uL,uC,uH,uG,uJ,uF,uM,uK,uA,uB,uD,uE,e0,hl1,ei,c3,show isT g ⟨#[59]⟩ 2=false from q1,show isT g ⟨#[45,62]⟩ 2=false from q2,show isT g ⟨#[92,43]⟩ 1=false from q3];refine⟨by omega,by omega,by omega,?_⟩;refine zg8 hb hxa ?_ ?_ hna ((Old.var _).trans o3)
    ·simp only[gnZ,gnT,qp,qj,qn,qc,qq,qt,qr,qo,qm,ql,qu,qk,qh,qi,qg,zf,zs,zq,zp,zo,zr,qw,z0,qe,qv,eis,q0n,q2f,q4c,q68,hna',ev0,eOp,true_implies,false_implies,implies_true,reduceCtorEq,uI,uL,uC,uH,uG,uJ,uF,uM,uK,uA,uB,uD,uE,e0,hl1,ei,c3]
    ·simp only[gnZ,gnT,qp,qj,qn,qc,qq,qt,qr,qo,qm,ql,qu,qk,qh,qi,qg,zf,zs,zq,zp,zo,zr,qw,z0,qe,qv,eis,q0n,q2f,q4c,q68,hna',ev0,eOp,true_implies,false_implies,implies_true,reduceCtorEq,uI,uL,uC,uH,uG,uJ,uF,uM,uK,uA,uB,uD,uE,e0,hl1,ei,c3,eGs,uN,uQ,uR,uP]
end
theorem z6s{g:Te}(hv:zb g=true):∀v∈q45 g,isNum v=true:=fun v h=>by
 unfold q45 at h;rw[if_pos hv] at h;have:=qrx g [] (jg.1 hv).2 (fun x hx=>by cases hx) v h;exact q5x.2 ⟨by omega,by omega⟩
theorem qhh{N:Nat}(ih:FOk qx (yu mG N q5e)):FOk zj (z0e N):=q71 q4v qgy qby q6k qf5 ih qs0 qe6 fun ds outs hw hg=>by
 obtain⟨d,r,rfl,hd,e,r',rfl,he,f',r2,rfl,hf,rfl⟩:=hw;obtain⟨f,x,rfl,hna,hx⟩:=zb8 hd;obtain⟨g,rfl,ht⟩:=wfT he;obtain⟨c,rfl,-⟩:=wfI hf;simp only[z0e,z9,qcm hna,q2f,j6,Option.ite_none_right_eq_some,uU] at hg;obtain⟨⟨hcon,hv,h1,h2,h3⟩,rfl⟩:=hg;have hp:=q1b.1 (q6p.1 h2).1;have hr:=zm g;have hsz:=(jg.1 hv).1;have eva:q0q [.r [eT g]]=some [eIs (q45 g)]:=by
  have e:[eT g].map dT=[g]:=by simp only[uQ,uR,z9]
  simp only[q0q,q4g,e];rw[if_pos (by rw[q28,q28];omega)];unfold q45;rw[if_pos hv];rfl
 have hvn:∀v∈q45 g,isNum v=true:=z6s hv;have ec:gTb q07 [eT g]=some [.b (q07 g)]:=by simp only[gTb,z9]
 have hvl:=qg8 g;rw[zh8];unfold csW;rw[y7,y7,yp];refine⟨by simp only[gnZ,gnT,qp,qj,qn,qc,qq,qt,qr,qo,qm,ql,qu,qk,qh,qi,qg,zf,zs,zq,zp,zo,zr,qw,z0,qe,qv,q4c];omega,by simp only[gnZ,gnT,qp,qj,qn,qc,qq,qt,qr,qo,qm,ql,qu,qk,qh,qi,qg,zf,zs,zq,zp,zo,zr,qw,z0,qe,qv,eva],?_⟩;generalize hvs:q45 g=vs at *;refine⟨fun st=>∃k:Nat,k≤vs.length∧st=[.r (((vs.take k).map q1d).map eT),.i k],fun st=>vs.length - (st.getD 1 .u).int.toNat,⟨0,Nat.zero_le _,rfl⟩,?_⟩;rintro st - ⟨k,hk,rfl⟩;rw[y3];refine⟨fun hlt=>?_,fun hlt=>?_⟩
 ·simp only[gnZ,gnT,qp,qj,qn,qc,qq,qt,qr,qo,qm,ql,qu,qk,qh,qi,qg,zf,zs,zq,zp,zo,zr,qw,z0,qe,qv,eva,q1w] at hlt;have hkl:k<vs.length:=by omega
  simp only[y7,gnZ,gnT,qp,qj,qn,qc,qq,qt,qr,qo,qm,ql,qu,qk,qh,qi,qg,zf,zs,zq,zp,zo,zr,qw,z0,qe,qv,eva,q1w,qiv hkl,List.length_take];refine⟨⟨by omega,by omega,by omega⟩,⟨by omega,by omega⟩,?_⟩;rw[q1u,if_pos rfl];refine⟨⟨k+1,by omega,?_⟩,?_⟩
  ·rw[jr hkl,uN,uN];have hn:=q5x.1 (hvn _ (gmem (d:=0) hkl))
   show _=[D.r (_++[eT (q1d (vs.getD k 0))]),_]
   unfold q1d;rw[if_pos hn];rfl
  ·simp[D.int];omega
 ·simp only[gnZ,gnT,qp,qj,qn,qc,qq,qt,qr,qo,qm,ql,qu,qk,qh,qi,qg,zf,zs,zq,zp,zo,zr,qw,z0,qe,qv,eva,q1w] at hlt;have:k=vs.length:=by omega
  subst this;rw[List.take_length];rw[y7,y3];refine⟨by simp only[gnZ,gnT,qp,qj,qn,qc,qq,qt,qr,qo,qm,ql,qu,qk,qh,qi,qg,zf,zs,zq,zp,zo,zr,qw,z0,qe,qv,ec],fun h=>?_,fun h=>?_⟩
  ·simp only[gnZ,gnT,qp,qj,qn,qc,qq,qt,qr,qo,qm,ql,qu,qk,qh,qi,qg,zf,zs,zq,zp,zo,zr,qw,z0,qe,qv,ec] at h;rw[y7];refine⟨by simp only[gnZ,gnT,qp,qj,qn,qc,qq,qt,qr,qo,qm,ql,qu,qk,qh,qi,qg,zf,zs,zq,zp,zo,zr,qw,z0,qe,qv];omega,?_⟩;refine z8v ?_ hcon hv h1 h2 h3 hna;unfold csX;simp only[gnZ,gnT,qp,qj,qn,qc,qq,qt,qr,qo,qm,ql,qu,qk,qh,qi,qg,zf,zs,zq,zp,zo,zr,qw,z0,qe,qv,q15,h,hvs,if_true];have hn:=q5x.1 h3;rw[uN]
   show _=D.r (_++[eT (q1d c)])
   unfold q1d;rw[if_pos hn];rfl
  ·simp only[gnZ,gnT,qp,qj,qn,qc,qq,qt,qr,qo,qm,ql,qu,qk,qh,qi,qg,zf,zs,zq,zp,zo,zr,qw,z0,qe,qv,ec] at h;refine z8v ?_ hcon hv h1 h2 h3 hna;simp only[gnZ,gnT,qp,qj,qn,qc,qq,qt,qr,qo,qm,ql,qu,qk,qh,qi,qg,zf,zs,zq,zp,zo,zr,qw,z0,qe,qv,q15,h,hvs,gnF,if_false,List.append_nil]
theorem qqy:FOk qx q5e:=quz fun N ih=>qhh ih
theorem qmp:FOk q0l fun _=>some [.b true]:=qp9 qqy
end
section
open Go.ChangeShapes Go.WideShapes Go.ChangeAt Go.RowKit
theorem z74:ownKnob uS.godebug=none:=by kernel_rfl
theorem qmj:laidOutB uS=true:=by kernel_rfl
section
variable{H:Type}{enc:TypeId×Value→H}{W:World}{base:Nat}{spare:Nat→Bool}{held:Bool}
def qdb(t:TypeId)(d:DataW H):Prop:=∀n∈d.weights uS t,n≤reachBytes
theorem qe0{e:TypeId}:∀{l:List (DataW H)}{d:DataW H},d∈l→∀n∈d.weights uS e,n∈DataW.weightsAll uS e l
 |[],_,h,_,_=>by cases h
 |x::l,d,h,n,hn=>by
  simp only[DataW.weightsAll,uX];rcases uT.1 h with rfl|h
  ·exact .inl hn
  ·exact .inr (qe0 h n hn)
theorem qdb.each{ts:List TypeId}{l:List (DataW H)}{k:Nat}{t:TypeId}{d:DataW H}(h:∀n∈DataW.weightsEach uS ts l,n≤reachBytes)(ht:ts[k]? =some t)(hd:l[k]? =some d):qdb t d:=fun n hn=>
 h n (DataW.weights_mem_each ht hd n hn)
theorem qwd:reachBytes=LIM:=rfl
theorem qyv{T:TypeId}{t:Ty}(h:qy T=some t):uS.cellsOf T=t.w:=by
 obtain⟨i,hi,h1,-⟩:=q4j h;simp[Program.cellsOf,hi,h1]
theorem zib{k:IntKind}{t:TypeId}(ht:qy t=some (.int k)){n:Int}(h:(Lit.int k n).wf=true):q2p k n=true:=by
 have h0:=(q50 ht).2.1;cases k<;>first|(simp[q2p] at h0;done)|(simp[Lit.wf,IntKind.min,IntKind.max,IntKind.signed,IntKind.bits] at h;simp[q2p];omega)
theorem z2c{a:Addr}{v:Value}(h:W.cell? a=some v):a.spot=none:=by
 unfold World.cell? at h;split at h
 ·split at h
  ·cases h
  ·rename_i hs;simpa using hs
 ·cases h
theorem z9c{F:Nat→Prop}{cs:List Value}:∀{fl:List Field}{fs:List Ty}{o:Nat},q4b fl fs o=true→(∀(j:Nat)(f:Field)(t:Ty),fl[j]? =some f→fs[j]? =some t→∃y,Rd W F y t ((cs.drop f.offset).take t.w))→cs.length=o+widths fs→∃ds,RdF W F ds fs (cs.drop o)
 |[],[],o,_,_,hl=>by
  simp[widths] at hl;exact⟨[],rfl,by rw[List.drop_eq_nil_iff];omega⟩
 |f::l,t::ts,o,hb,hf,hl=>by
  simp only[q4b,gnB] at hb;obtain⟨⟨⟨h1,-⟩,-⟩,h3⟩:=hb;have ho:=gnN h1;rw[q87] at hl;obtain⟨ds,hds⟩:=z9c h3 (fun j f' t' hj ht=>hf (j+1) f' t' (by simpa using hj) (by simpa using ht)) (by omega);obtain⟨y,hy⟩:=hf 0 f t rfl rfl;refine⟨y::ds,t,ts,(cs.drop o).take t.w,cs.drop (o+t.w),rfl,?_,by rw[←ho];exact hy,hds⟩;rw[←List.drop_drop,List.take_append_drop]
 |[],_::_,o,hb,_,_=>by cases hb
 |_::_,[],o,hb,_,_=>by cases hb
theorem z6z:∀(fuel:Nat){T:TypeId}{t:Ty}(cs:List Value)(x:DataW H×List MemPlace),qy T=some t→z17 t=false→DataW.trod enc uS W base spare held fuel T cs=some x→qdb T x.1→∃y,Rd W (fun _=>True) y t cs:=by
 intro fuel
 induction fuel with
 |zero=>intro T t cs x _ _ h;simp[DataW.trod] at h
 | succ fuel ih =>
  intro T t cs x hT hM h hL;cases t with
  |map K V=>cases hM
  |fnv=>cases hM
  |int k=>
   obtain⟨n,rfl,-,hw⟩:=DataW.trod_int (q50 hT).1 h;exact⟨.i n,.inl ⟨k,rfl,rfl,zib hT hw⟩⟩
  |bool=>
   obtain⟨b,rfl,-⟩:=DataW.trod_bool (q5i hT).1 h;exact⟨.b b,rfl,rfl⟩
  |str=>
   obtain⟨s,rfl,rfl,-⟩:=DataW.trod_string (q4z hT).1 h;have:=hL s.data.toList.length (by simp[DataW.weights]);exact⟨.s s,rfl,rfl,by rw[qwd] at this;simpa using this⟩
  | st S =>
   obtain⟨fields,fs,zc,i,hu,hfs,hfb,hi,hsz,-,-,-,-⟩:=q57 hT;obtain⟨xs,n,hn,hx,hlen,hxl,hf⟩:=DataW.trod_struct hu h;obtain rfl:fuel=n:=by omega
   have hw:∀n∈DataW.weightsEach uS (fields.toList.map (·.type)) (xs.map (·.1)),n≤reachBytes:=fun n hn=>hL n (by rw[hx];simp only[DataW.weights,hu];exact hn);have hcl:cs.length=0+widths fs:=by rw[hlen,qyv hT,(qq1 hfs).1];omega
   obtain⟨ds,hds⟩:=z9c (W:=W) (F:=fun _=>True) hfb (fun j f t hj ht=>by
    obtain⟨f',hf',ho,hty,-⟩:=q8q hfb ht;obtain rfl:=gnI (hj.symm.trans hf');have h5:=hf j f (by rw[←Array.getElem?_toList];exact hj);have hjl:j<fields.toList.length:=(gnH.1 hj).1;have hjx:j<xs.length:=by rw[hxl];simpa using hjl
    rw[qyv hty,gnK hjx] at h5;refine ih _ _ hty (zd5 hfs hM (List.mem_of_getElem? ht)) h5 (qdb.each (k:=j) hw ?_ ?_)
    ·rw[kB,hj];rfl
    ·rw[kB,gnK hjx];rfl) hcl
   exact⟨.a ds,S,fs,rfl,hfs,by simpa using hds⟩
  | row E =>
   obtain⟨hu,⟨te,hte⟩,-⟩:=q1y hT;rcases DataW.trod_slice hu h with⟨rfl,hx⟩|⟨a,len,cap,elems,rest,n,hn,rfl,hx,hb,hl,hm,hlen,hel,-⟩
   ·exact⟨.r [],E,te,none,0,rfl,hte,rfl,by simp,by simp,by simp[maxLen],by simp[RdE]⟩
   ·obtain rfl:fuel=n:=by omega
    have hwd:=q66 hte;rw[qyv hte] at hel;have hw:=hL;rw[hx] at hw;simp only[qdb,DataW.weights,hu,uT,uX] at hw;have hlen2:len≤LM te:=by
     have:=hw _ (.inl rfl);rw[qwd] at this;have hbe:uS.bytesOf E=te.by:=by
      obtain⟨i,hi,-⟩:=q4j hte;simp[Program.bytesOf,hi,qkq hte hi]
     refine(Nat.le_div_iff_mul_le (zcg hte).1).2 ?_;simp[hbe] at this;have h2:len * te.by≤(elems.length+rest.length) * te.by:=Nat.mul_le_mul_right _ (by omega);exact kF h2 this
    have spot:0<len→a.spot=none:=fun h0=>by
     have h2:=hel 0 h0;rw[gnK (by omega)] at h2;cases hc0:W.cells? base (a.add (0 * te.w)) te.w with
     |none=>rw[hc0] at h2;cases h2
     |some cs0=>
      obtain⟨_,hcl0,hat0⟩:=World.cells?_some hc0;have hp:0<cs0.length:=by omega
      have:=hat0 0 (by omega);rw[gnK hp] at this;exact z2c (a:=a) (v:=cs0[0]) (by simpa[Addr.add] using this)
    have each:∀i,i<len→∃y,zhf W (fun _=>True) y te (some a) i:=fun i hi=>by
     have h1:=hel i hi;rw[gnK (by omega)] at h1;cases hc:W.cells? base (a.add (i * te.w)) te.w with
     |none=>rw[hc] at h1;cases h1
     | some cs' =>
      rw[hc] at h1;obtain⟨_,hcl,hat⟩:=World.cells?_some hc;obtain⟨y,hy⟩:=ih cs' _ hte (zeq hT hte) h1 (fun n hn=>hw n (.inr (.inl (qe0 (kE.2 ⟨_,List.getElem_mem (by omega),rfl⟩) n hn))));have hsp:=spot (by omega);obtain⟨b,o,sp⟩:=a;obtain rfl:sp=none:=hsp;have add:∀k,(Addr.add ⟨b,o,none⟩ (i * te.w)).add k=⟨b,o+i * te.w+k,none⟩:=fun k=>by
       unfold Addr.add;split<;>split<;>simp<;>omega
      refine⟨y,b,o,cs',rfl,trivial,fun j v hj=>?_,hy⟩;have hj':=(gnH.1 hj).1;have:=hat j (by omega);rw[add,hj] at this;exact this
    have pick:∀n,n≤len→∃l:List D,l.length=n∧∀i(h:i<l.length),zhf W (fun _=>True) l[i] te (some a) i:=by
     intro n
     induction n with
     |zero=>exact fun _=>⟨[],rfl,fun i hi=>by simp at hi⟩
     | succ n ihn =>
      intro hn;obtain⟨l,hl1,hl2⟩:=ihn (by omega);obtain⟨t,ht⟩:=each n (by omega);refine⟨l++[t],by simp[hl1],fun i hi=>?_⟩;by_cases hin:i<l.length
      ·rw[List.getElem_append_left hin];exact hl2 i hin
      ·obtain rfl:i=l.length:=by simp at hi;omega
       rw[List.getElem_append_right (by omega)];simp[hl1];exact ht
    obtain⟨l,hl1,hl2⟩:=pick len (uW _);exact⟨.r l,E,te,some a,cap,rfl,hte,by rw[hl1],by omega,by omega,hm,q38.2 fun j hj=>by rw[Nat.zero_add];exact hl2 j hj⟩
theorem z3t{T:TypeId}{t:Ty}(hT:qy T=some t)(hM:z17 t=false){v:Value}{d:DataW H}{p:List MemPlace}{b0:Nat}{r:Reach}(hv:Value.okWide uS W r b0 T v)(h:DataW.Trod enc uS W base spare held T v d p)(hL:qdb T d):
  ∃x cs,j5 t cs v∧Rd W (fun b=>b<W.heap.size) x t cs:=by
 obtain⟨fuel,hf⟩:=h;obtain⟨y,hy⟩:=z6z fuel _ _ hT hM hf hL;refine⟨y,v.cells.toList,?_,Rd.keeps (fun b o _ ho=>⟨ho,jb ho⟩) _ hy⟩;cases t with
 |int k=>obtain⟨n,rfl⟩:=okWide_int (q50 hT).1 hv;rfl
 |bool=>obtain⟨n,rfl⟩:=okWide_bool (q5i hT).1 hv;rfl
 |str=>obtain⟨n,rfl⟩:=okWide_string (q4z hT).1 hv;rfl
 |map K V=>cases hM
 |fnv=>cases hM
 |row E=>obtain⟨A,l,c,rfl⟩:=okWide_slice (q1y hT).1 hv;rfl
 |st S=>
  obtain⟨fields,fs,zc,i,hu,-⟩:=q57 hT;obtain⟨cs,rfl,-⟩:=okWide_struct hu hv;simp[j5,Value.cells]
end
def qwy(W:World):List Ar→List Value→List D→Prop
 |[],vs,ds=>vs=[]∧ds=[]
 |.val t::l,vs,ds=>∃v r d ds',vs=v::r∧ds=d::ds'∧(∃cs,j5 t cs v∧Rd W (FFD (fun _=>True) (fun _=>none) []) d t cs)∧qwy W l r ds'
 |_::_,_,_=>False
theorem qwy.ok{W:World}{V:List Value}:∀{i:Nat}{ar:List Ar}{vs:List Value}{ds:List D},qwy W ar vs ds→j7 V (fun _=>True) (fun _=>none) W (idx i ar) vs ds∧vs.length=ar.length
 |_,[],vs,ds,h=>⟨h,by rw[h.1];rfl⟩
 |i,.val t::l,vs,ds,⟨v,r,d,ds',e1,e2,h1,h⟩=>by
  obtain⟨h2,h3⟩:=qwy.ok (V:=V) (i:=i+1) h;exact⟨⟨v,r,d,ds',e1,e2,h1,h2⟩,by rw[e1];simp[h3]⟩
 |_,.ref _ _::_,_,_,h=>h.elim
 |_,.rref _::_,_,_,h=>h.elim
 |_,.own _::_,_,_,h=>h.elim
 |_,.mref _::_,_,_,h=>h.elim
 |_,.nils::_,_,_,h=>h.elim
 |_,.nilp::_,_,_,h=>h.elim
 |_,.cst _ _::_,_,_,h=>h.elim
 |_,.fn _ _::_,_,_,h=>h.elim
 |_,.cell _ _::_,_,_,h=>h.elim
theorem z72{ct:Ct}{g:List D→Option (List D)}(h:FOk ct g)(hrs:ct.rs=[(.bool,false)])(hvr:ct.vr=[]){W:World}{vs:List Value}{ds:List D}(ha:qwy W ct.ar vs ds)(hg:g ds=some [.b true]):
  Calls uS ct.f vs.toArray W fun e W'=>e=.returned (.bool true)∧But Nil W W':=by
 obtain⟨h1,h2⟩:=qwy.ok (V:=vs++[]) (i:=0) ha;refine(h.call (fun _=>True) .no (fun _=>none) W vs [] ds _ hg (qij.of0 fun _=>rfl) Flo.no (by constructor<;>simp[Flr.no]) h2 (by simpa[Ct.all,hvr,idx] using h1)).mono ?_;rintro e W'(⟨T,-,ho,-⟩|⟨rs,p',rfl,hb,hr,-⟩)
 ·cases ho
 rw[hrs] at hr;obtain⟨v,r,d,ds',rfl,hd,⟨cs,hp,hc⟩,rfl⟩:=hr;simp at hd;obtain⟨rfl,rfl⟩:=hd;obtain⟨e1,e2⟩:D.b true=.b true∧cs=[.bool true]:=⟨rfl,by
  have hc':Rd W' (FFD (fun _=>True) p' []) (.b true) .bool cs:=hc;exact hc'.2⟩
 subst e2;have hpv:[Value.bool true]=[v]:=hp;injection hpv with hpv;subst hpv;exact⟨rfl,hb.but.mono fun i hi _=>by obtain⟨x,hx⟩:=hi;cases hx⟩
end
end Go.Proofs.Ytbmaffphliignaa
