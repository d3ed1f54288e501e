/-
 Lemmas of the walk and plain laws, put together. No condition.
-/
import Derived.ChangeArms
import Derived.OpenShut
import Derived.ProofKit
import Derived.SizedLaws
import Derived.Test.YtdaadonfbnedaaaRows
import Derived.Test.YtdaadonfbnedaaaLi
namespace Go.Proofs.Ytdaadonfbnedaaa
open Go.RowKit
set_option linter.unusedVariables false
set_option linter.unusedSimpArgs false
set_option maxRecDepth 100000
open _root_.Go.Proofs.Try renaming prog→uA
open _root_.Nat renaming zero_le→uB,le_refl→uF,not_lt_zero→uJ,lt_or_ge→uP
open _root_.Option.some renaming injEq→uC
open _root_.List renaming length_append→uD,getElem?_map→uH,mem_append→uI,mem_cons→uL,map_map→uO
open _root_.Int renaming toNat_natCast→uE
open _root_.Bool renaming not_false→uK,true_and→uM,not_true→uN
def z0c(s:So):Bool:=decide (s.cs.length≤300)&&decide (s.ys.length≤100)&&decide (s.tr.length≤300)&&decide (s.wk.length≤50)
theorem qt4:FOk q1k (gSb z0c):=qp8 fun ds outs hw hg=>by
 obtain⟨d,r,rfl,hd,rfl⟩:=hw;obtain⟨s,rfl,hs⟩:=wfS hd;simp only[gSb,yf,uC] at hg;subst hg;have h1:decide ((s.cs.length:Int)≤300)=decide (s.cs.length≤300):=decide_eq_decide.2 (by omega);have h2:decide ((s.ys.length:Int)≤100)=decide (s.ys.length≤100):=decide_eq_decide.2 (by omega);have h3:decide ((s.tr.length:Int)≤300)=decide (s.tr.length≤300):=decide_eq_decide.2 (by omega);have h4:decide ((s.wk.length:Int)≤50)=decide (s.wk.length≤50):=decide_eq_decide.2 (by omega);simp only[q8f,gnZ,z0c,h1,h2,h3,h4]
def zxt:List D→Option (List D)
 |[a,b]=>some [.b (decide (a.rs.map D.str=b.rs.map D.str))]
 |_=>none
theorem qx2:FOk q2a (gSb qei):=qsh fun ds outs hw hg=>by
 obtain⟨d,r,rfl,hd,rfl⟩:=hw;obtain⟨s,rfl,hs⟩:=wfS hd;have hwl:=hs.wk.1;simp only[gSb,yf,uC] at hg;subst hg;rw[q9r,zx];refine⟨fun st=>∃k:Nat,k≤s.wk.length∧st=[.b false,.i k]∧∀j,j<k→(s.wk.getD j default).att.t≠5∧(s.wk.getD j default).val.t≠5,fun st=>s.wk.length - (st.getD 1 .u).int.toNat,⟨0,uB _,rfl,fun j hj=>absurd hj (uJ _)⟩,?_⟩;rintro st - ⟨k,hk,rfl,hP⟩;rw[z8];refine⟨fun hlt=>?_,fun hlt=>?_⟩
 ·simp only[gnZ] at hlt;have hkl:k<s.wk.length:=by omega
  simp only[gnZ,q67 eW hkl,jv];generalize hw:s.wk.getD k default=w;have hno:(w.att.t=5∨w.val.t=5)→qei s=false:=fun h=>by
   cases hk:qei s with
   |false=>rfl
   |true=>
    have:=qdd.1 hk _ (q1y hkl);rw[hw] at this;rcases h with h|h
    ·exact absurd h this.1
    ·exact absurd h this.2
  refine⟨⟨by omega,by omega,by cases decide (w.att.t=5)<;>simp,by cases decide (w.att.t=5)<;>simp;omega⟩,fun hc=>?_,fun hc=>⟨⟨by omega,by omega⟩,?_⟩⟩
  ·rw[hno (by simpa using hc)]
  ·rw[if_pos trivial];refine⟨⟨k+1,by omega,by simp,fun j hj=>?_⟩,?_⟩
   ·rcases uP j k with q|q
    ·exact hP j q
    ·obtain rfl:j=k:=by omega
     rw[hw];simpa using hc
   ·simp[D.int];omega
 ·simp only[gnZ] at hlt⊢;have:k=s.wk.length:=by omega
  subst this;have:qei s=true:=qdd.2 fun w hw=>by
   obtain⟨j,hj,rfl⟩:=List.getElem_of_mem hw;have:=hP j hj;rwa [gnG,gnK hj] at this
  rw[this]
def zbg:List D→Option (List D)
 |[n]=>some [eC ⟨1,n.int⟩]
 |_=>none
theorem z24:FOk jn zbg:=qii fun ds outs hw hg=>by
 obtain⟨d,r,rfl,hd,rfl⟩:=hw;obtain⟨n,rfl,hn⟩:=wfI hd;simp only[zbg,j4,uC] at hg;subst hg;rfl
theorem zeg{s:So}(h:q3d s=true)(hmx:¬s.mx≤(s.cs.length:Nat)):HkI s ⟨0,(s.cs.length:Nat)⟩ 0 [] {s with cs:=s.cs++[⟨0,(s.cs.length:Nat)⟩]}:=by
 have hc:({s with cs:=s.cs++[⟨0,(s.cs.length:Nat)⟩]}:So).cs[s.cs.length]? =some ⟨0,(s.cs.length:Nat)⟩:=by simp
 obtain⟨h1,h2⟩:=cell_of hc;have h0:=h;unfold q3d at h0;rw[gnB] at h0;refine⟨?_,rfl,h1,rfl,fun y hy=>(by cases hy),List.nodup_nil,uF _,uB _,by simp,uF _,uF _,.inl ⟨rfl,h2,rfl⟩⟩;unfold q3d;rw[gnB];refine⟨h0.1,?_⟩;have E:Ext s {s with cs:=s.cs++[⟨0,(s.cs.length:Nat)⟩]}:=⟨fun i hi=>List.getElem?_append_left hi,by simp,fun i y hy=>hy⟩;obtain⟨k1,k2,k3,k4⟩:=q14.1 h0.2;refine q14.2 ⟨?_,fun i hi=>?_,fun u hu=>z1b E rfl (k3 u hu),fun w hw=>qrz E rfl (k4 w hw)⟩
 ·unfold q5b at k1⊢;simp only[gnB,gnD] at k1⊢;exact⟨k1.1,k1.2.1,by simp;omega,k1.2.2.2.1,k1.2.2.2.2⟩
 ·obtain⟨j1,j2⟩:=qi.1 hi;by_cases ho:i<s.cs.length
  ·exact qms E h0.2 rfl (qi.2 ⟨j1,ho⟩)
  ·obtain rfl:i=(s.cs.length:Nat):=by simp at j2;omega
   have hE:qcy {s with cs:=s.cs++[⟨0,(s.cs.length:Nat)⟩]} (s.cs.length:Nat)=true:=(En.st fun q=>q.2 (by rw[h2])).ends;unfold q34;rw[h2,if_neg (show ¬(0:Int)=4 by decide),hE];simp[vcR,h1,zw h1,h2]
set_option maxHeartbeats 4000000 in
theorem qwr:FOk q2k fun _=>some [.b true]:=qhs qt4 qp7 qx2 qt8 qu9 qb2 z24 z4d z34 qil z1o q2z qow q4j qx1 fun ds outs hw hg=>by
 obtain⟨d,r,rfl,hd,e,r',rfl,he,f,r2,rfl,hf,rfl⟩:=hw;obtain⟨s,rfl,hs⟩:=wfS hd;obtain⟨l,rfl,hl⟩:=zxg he;obtain⟨n,rfl,hn⟩:=wfI hf;injection hg with hg;subst hg;have hcl:z3d [eS s]=some [eS s]:=by
  simp only[z3d,yf];rw[if_pos (zro hs)]
 have hvP:q70 s=qr s:=zhd s;rw[q4h,qg];refine⟨by simp[gnZ,gSb],?_⟩;rw[z8];refine⟨fun _=>by simp[gnZ],fun hpre=>?_⟩;simp only[gnZ,gSb,hvP] at hpre;have hpre:z0c s=true∧qr s=true∧qei s=true∧l.length≤10:=by
  simp only[Bool.or_eq_false_iff,Bool.not_eq_false',decide_eq_false_iff_not] at hpre;exact⟨hpre.1.1.1,hpre.1.1.2,hpre.1.2,by omega⟩
 obtain⟨hsm,hv,hk,hll⟩:=hpre;unfold z0c at hsm;simp only[gnB,gnD] at hsm;have hg:q3d s=true:=by
  unfold q3d;rw[hv,hk];rfl
 rw[qg];refine⟨by simp only[gnZ,hcl],?_⟩;have hmx:=qyo hv;by_cases hfr:s.mx≤(s.cs.length:Nat)
 ·have hF:qfw [eS s]=some [eC ⟨0,0⟩,.i 13,eS s]:=by
   simp only[qfw,yf];rw[if_pos (decide_eq_true hfr)]
  rw[qg];refine⟨by simp only[gnZ,hcl,hF],?_⟩;rw[z8];refine⟨fun _=>by simp[gnZ],fun hc=>?_⟩;simp[gnZ,hcl,hF] at hc
 have hF:qfw [eS s]=some [eC ⟨0,(s.cs.length:Nat)⟩,.i 0,eS {s with cs:=s.cs++[⟨0,(s.cs.length:Nat)⟩]}]:=by
  simp only[qfw,yf];rw[if_neg (by simpa using hfr),if_pos (decide_eq_true (by omega))]
 rw[qg];refine⟨by simp only[gnZ,hcl,hF],?_⟩;rw[z8];refine⟨fun _=>by simp[gnZ],fun _=>?_⟩;have hx0:=zeg hg hfr;generalize hx:(⟨0,(s.cs.length:Nat)⟩:Ce)=x at hF hx0;rw[zx];refine⟨fun st=>∃(i:Nat)(L:List At)(a:So),i≤l.length∧st=[.b false,.r (q9y L),.r (qeh L),.i i,eS a]∧HkI s x i L a,fun st=>l.length - (st.getD 3 .u).int.toNat,⟨0,[],_,uB _,?_,hx0⟩,?_⟩
 ·simp only[gnZ,hcl,hF];rfl
 rintro st - ⟨i,L,a,hi,rfl,hI⟩;have hb1:=hI.bc;have hb2:=hI.bs;have hb3:=hI.bt;have hb4:=hI.li;rw[z8];refine⟨fun hlt=>?_,fun hlt=>?_⟩
 ·-- one name
  simp only[gnZ] at hlt;have hil:i<l.length:=by omega
  have eg:(D.r (l.map D.s)).get (i:Int)=.s (l.getD i default):=q67 D.s hil;generalize hnm:l.getD i default=nm at eg;have hser: -9223372036854775808≤a.ser:=by
   have h1:=qho hI.v;unfold q5b at h1;simp only[gnB,gnD] at h1;omega
  have hlit:zcr a:=⟨by omega,by omega,by omega,by rw[hI.wk];omega⟩;have hPut:zb2 [eS a,eC x,.s nm,eC ⟨1,(i:Nat)⟩]=some [.i (apA a x nm ⟨1,(i:Nat)⟩).1,eS (apA a x nm ⟨1,(i:Nat)⟩).2]:=by
   simp only[zb2,yf,q16,q7o];rw[if_pos (zoa hlit hser x nm _)]
  have hNum:zbg [.i (i:Nat)]=some [eC ⟨1,(i:Nat)⟩]:=rfl;rw[qg];refine⟨by simp only[gnZ,hcl,hF,eg,hNum,hPut];exact⟨by omega,by omega⟩,?_⟩;rw[z8];refine⟨fun _=>by simp[gnZ],fun hc=>?_⟩;have he:(apA a x nm ⟨1,(i:Nat)⟩).1=0:=by simpa[gnZ,hcl,hF,eg,hNum,hPut] using hc
  have hS:=zkk hI (by omega) nm ⟨1,(i:Nat)⟩ rfl he;rw[zx];refine⟨fun st=>∃k:Nat,k≤L.length∧st=[.i k]∧∀j,j<k→(L.getD j default).name≠nm,fun st=>L.length - (st.getD 0 .u).int.toNat,⟨0,uB _,rfl,fun j hj=>absurd hj (uJ _)⟩,?_⟩;rintro st - ⟨k,hkL,rfl,hP⟩;have hwl:(q9y L).length=L.length:=by simp[q9y]
  have hll2:(qeh L).length=L.length:=by simp[qeh]
  by_cases hkl:k<L.length
  ·have ek:(D.r (q9y L)).get (k:Int)=.s (L.getD k default).name:=by
    unfold q9y;rw[uO];exact q67 (fun y:At=>D.s y.name) hkl
   have e1:decide ((k:Int)<(L.length:Int))=true:=by simp;omega
   have e2:decide ((k:Int)=(L.length:Int))=false:=by simp;omega
   by_cases hq:(L.getD k default).name=nm
   ·have hset:=zlv (val:=⟨1,(i:Nat)⟩) hkl hq hP;rw[hset] at hS;simp only[gnZ,hcl,hF,eg,hNum,hPut,hwl,hll2,ek,e1,e2,hq,uN,Bool.and_false,uM,uE];refine⟨by simp;omega,fun h=>(by cases h),fun _=>⟨fun h=>(by cases h),fun _=>?_⟩⟩;rw[jv,if_neg (by decide),jv,if_pos rfl];refine⟨by omega,⟨by omega,by omega⟩,⟨i+1,L.set k ⟨nm,⟨1,(i:Nat)⟩⟩,_,by omega,by rw[zea hkl hq,←zec];simp,hS⟩,?_⟩;simp[D.int];omega
   ·have e3:decide ((L.getD k default).name=nm)=false:=decide_eq_false hq;simp only[gnZ,hcl,hF,eg,hNum,hPut,hwl,hll2,ek,e1,e2,e3,uN,uK,Bool.and_true,Bool.false_or,uM,uE];refine⟨by omega,fun _=>⟨by omega,?_⟩,fun h=>(by cases h)⟩;rw[jv,if_pos rfl];refine⟨⟨k+1,by omega,by simp,fun j hj=>?_⟩,?_⟩
    ·rcases uP j k with q|q
     ·exact hP j q
     ·obtain rfl:j=k:=by omega
      exact hq
    ·simp[D.int];omega
  ·obtain rfl:k=L.length:=by omega
   have e1:decide ((L.length:Int)<(L.length:Int))=false:=by simp
   have e2:decide ((L.length:Int)=(L.length:Int))=true:=by simp
   have hset:=zp0 (val:=⟨1,(i:Nat)⟩) hP;rw[hset] at hS;simp only[gnZ,hcl,hF,eg,hNum,hPut,hwl,hll2,e1,e2,uK,Bool.true_or,Bool.false_and,uE];refine⟨fun h=>(by cases h),fun _=>⟨fun _=>⟨⟨by omega,by omega,by omega⟩,by omega,⟨by omega,by simp[hll2];omega⟩,⟨by omega,by omega⟩,?_⟩,fun h=>(by cases h)⟩⟩;rw[jv,if_neg (by decide),jv,if_pos rfl];refine⟨⟨i+1,L++[⟨nm,⟨1,(i:Nat)⟩⟩],_,by omega,by rw[zdq,←zdw L nm];simp,hS⟩,?_⟩;simp[D.int];omega
 ·simp only[gnZ] at hlt;have hNum2:zbg [.i n]=some [eC ⟨1,n⟩]:=rfl;have hBind:qrp [eS a,eC x,eC ⟨1,n⟩]=some [.i (q9n a x ⟨1,n⟩).1,eS (q9n a x ⟨1,n⟩).2]:=by
   simp only[qrp,yf,q16];rw[if_pos (by simp only[qbw,hI.wk,gnB,gnD];exact⟨by omega,by omega⟩)]
  have hwl:(q9y L).length=L.length:=by simp[q9y]
  rw[z8];refine⟨fun hz=>?_,fun hz=>?_⟩
  ·-- no names
   obtain rfl:L=[]:=by
    simp only[gnZ,hwl,q9e] at hz;exact List.eq_nil_of_length_eq_zero (by omega)
   rw[bind_none hI n] at hBind;simp[gnZ,hcl,hF,hNum2,hBind]
  ·have hL:L≠[]:=fun e=>by
    subst e;simp[gnZ,q9y] at hz
   obtain⟨b0,w,B⟩:=zeh hI hL n;obtain⟨hW,hgl⟩:=zg3 B (by omega) (by omega) (by omega) (by omega);have hres:=zgq hv B hI.nm hI.nd;generalize q9n a x ⟨1,n⟩=R at hBind b0 B hW hgl hres;obtain⟨r0,b⟩:=R;simp only at b0 B hW hgl hres hBind;subst b0;generalize q92 b=G at hW hgl hres;obtain⟨goals,er,b'⟩:=G;simp only at hW hgl hres;rw[qg];refine⟨by simp only[gnZ,hcl,hF,hNum2,hBind],?_⟩;rw[z8];refine⟨fun hc=>by simp[gnZ,hcl,hF,hNum2,hBind] at hc,fun _=>?_⟩;rw[qg];refine⟨by simp only[gnZ,hcl,hF,hNum2,hBind,hW],?_⟩;rw[z8];refine⟨fun _=>by simp[gnZ],fun hc=>?_⟩;have her:¬er=13:=by simpa[gnZ,hcl,hF,hNum2,hBind,hW] using hc
   obtain⟨rfl,I⟩:=hres.resolve_left her;obtain⟨o,cs,rfl,hcsl,hget⟩:=I.go;have hwk0:=I.wk;rw[z8];refine⟨fun hc=>?_,fun _=>?_⟩
   ·exfalso;simp[gnZ,hcl,hF,hNum2,hBind,hW,hwk0,hwl,hcsl] at hc;omega
   rw[zx];refine⟨fun st=>∃k:Nat,k≤L.length∧st=[.b false,.i k],fun st=>L.length - (st.getD 1 .u).int.toNat,⟨0,uB _,rfl⟩,?_⟩;rintro st - ⟨k,hkL,rfl⟩;rw[z8];refine⟨fun hc=>?_,fun hc=>?_⟩
   ·simp only[gnZ,hwl] at hc;have hkl:k<L.length:=by omega
    have hm:=hI.nm _ (q1y hkl);have hG:=hget k hkl;have hlen:(((o++cs).length:Nat):Int)=(o.length:Int)+(L.length:Int):=by rw[uD,hcsl];omega
    have eidx:(o.length:Int)+(L.length:Int) - (L.length:Int)+(k:Int)=((o.length+k:Nat):Int):=by omega
    have egoal:(D.r ((o++cs).map eC)).get ((o.length+k:Nat):Int)=eC (cs.getD k default):=by
     rw[q67 eC (by rw[uD];omega)]
     congr 1
     rw[gnG,List.getElem?_append_right (by omega),Nat.add_sub_cancel_left,←gnG]
    have ek:(D.r (q9y L)).get (k:Int)=.s (L.getD k default).name:=by
     unfold q9y;rw[uO];exact q67 (fun y:At=>D.s y.name) hkl
    have el:(D.r (qeh L)).get (k:Int)=.i (L.getD k default).val.n:=q67 (fun y:At=>D.i y.val.n) hkl;have hll2:(qeh L).length=L.length:=by simp[qeh]
    generalize L.getD k default=y at hm hG ek el;generalize cs.getD k default=c at hG egoal;have hGet:zkx [eS b',eC c]=some [eT (q91 y.name y.val.n n),.i 0]:=by
     simp only[zkx,yf,q16,if_pos I.v,hG]
    have hA1:gSt q39 [D.s y.name]=some [eT (q39 y.name)]:=rfl;have hI1:∀z:Int,gIt (fun n=>Te.mk 1 n ⟨#[]⟩ []) [D.i z]=some [eT (.mk 1 z ⟨#[]⟩ [])]:=fun z=>rfl;have hSt:gSL q8x [D.s ⟨#[97,116,116,114,95,104,111,111,107]⟩,D.r [eT (q39 y.name),eT (.mk 1 y.val.n ⟨#[]⟩ []),eT (.mk 1 n ⟨#[]⟩ [])]]=some [eT (q91 y.name y.val.n n)]:=by
     rw[←zcg hm.1];simp only[gSL,q7o,q7i,List.map_cons,List.map_nil,jz];rfl
    have hSm:z30 z3x [eT (q91 y.name y.val.n n),eT (q91 y.name y.val.n n)]=some [.b true]:=by
     simp only[z30,jz,zdm hm.1]
    simp only[gnZ,gnT,hcl,hF,hNum2,hBind,hW,hwl,hlen,eidx,egoal,hGet,ek,el,hll2,hA1,hI1,hSt,hSm,jv];have z1:decide ((k:Int)<(L.length:Int))=true:=by simp;omega
    have hol:o.length≤62914560:=by
     rw[uD] at hgl;omega
    simp[z1];refine⟨⟨by omega,hkl,⟨by omega,by omega⟩,by omega⟩,hkl,⟨by omega,by omega⟩,⟨k+1,by omega,by omega⟩,?_⟩;simp[D.int];omega
   ·simp[gnZ]
variable{T:TypeId}{W:World}
section
open Go.ChangeShapes Go.WideShapes Go.ChangeAt Go.RowKit
theorem ze2:ownKnob uA.godebug=none:=by kernel_rfl
theorem qmk:laidOutB uA=true:=by kernel_rfl
section
variable{H:Type}{enc:TypeId×Value→H}{W:World}{base:Nat}{spare:Nat→Bool}{held:Bool}
def qee(t:TypeId)(d:DataW H):Prop:=∀n∈d.weights uA t,n≤reachBytes
theorem qep{e:TypeId}:∀{l:List (DataW H)}{d:DataW H},d∈l→∀n∈d.weights uA e,n∈DataW.weightsAll uA e l
 |[],_,h,_,_=>by cases h
 |x::l,d,h,n,hn=>by
  simp only[DataW.weightsAll,uI];rcases uL.1 h with rfl|h
  ·exact .inl hn
  ·exact .inr (qep h n hn)
theorem qee.each{ts:List TypeId}{l:List (DataW H)}{k:Nat}{t:TypeId}{d:DataW H}(h:∀n∈DataW.weightsEach uA ts l,n≤reachBytes)(ht:ts[k]? =some t)(hd:l[k]? =some d):qee t d:=fun n hn=>
 h n (DataW.weights_mem_each ht hd n hn)
theorem qye:reachBytes=LIM:=rfl
theorem z3e{t:Ty}(h:qm T=some t):uA.cellsOf T=t.w:=by
 obtain⟨i,hi,h1,-⟩:=q47 h;simp[Program.cellsOf,hi,h1]
theorem zqo{k:IntKind}{t:TypeId}(ht:qm t=some (.int k)){n:Int}(h:(Lit.int k n).wf=true):ji k n=true:=by
 have h0:=(q4q ht).2.1;cases k<;>first|(simp[ji] at h0;done)|(simp[Lit.wf,IntKind.min,IntKind.max,IntKind.signed,IntKind.bits] at h;simp[ji];omega)
theorem z87{a:Addr}{v:Value}(h:W.cell? a=some v):a.spot=none:=by
 unfold World.cell? at h;split at h
 ·split at h
  ·cases h
  ·rename_i hs;simpa using hs
 ·cases h
theorem zex{F:Nat→Prop}{cs:List Value}:∀{fl:List Field}{fs:List Ty}{o:Nat},q40 fl fs o=true→(∀(j:Nat)(f:Field)(t:Ty),fl[j]? =some f→fs[j]? =some t→∃y,Rd W F y t ((cs.drop f.offset).take t.w))→cs.length=o+widths fs→∃ds,RdF W F ds fs (cs.drop o)
 |[],[],o,_,_,hl=>by
  simp[widths] at hl;exact⟨[],rfl,by rw[List.drop_eq_nil_iff];omega⟩
 |f::l,t::ts,o,hb,hf,hl=>by
  simp only[q40,gnB] at hb;obtain⟨⟨⟨h1,-⟩,-⟩,h3⟩:=hb;have ho:=gnN h1;rw[q9f] at hl;obtain⟨ds,hds⟩:=zex h3 (fun j f' t' hj ht=>hf (j+1) f' t' (by simpa using hj) (by simpa using ht)) (by omega);obtain⟨y,hy⟩:=hf 0 f t rfl rfl;refine⟨y::ds,t,ts,(cs.drop o).take t.w,cs.drop (o+t.w),rfl,?_,by rw[←ho];exact hy,hds⟩;rw[←List.drop_drop,List.take_append_drop]
 |[],_::_,o,hb,_,_=>by cases hb
 |_::_,[],o,hb,_,_=>by cases hb
theorem zd0:∀(fuel:Nat){T:TypeId}{t:Ty}(cs:List Value)(x:DataW H×List MemPlace),qm T=some t→qbm t=false→DataW.trod enc uA W base spare held fuel T cs=some x→qee T x.1→∃y,Rd W (fun _=>True) y t cs:=by
 intro fuel
 induction fuel with
 |zero=>intro T t cs x _ _ h;simp[DataW.trod] at h
 | succ fuel ih =>
  intro T t cs x hT hM h hL;cases t with
  |map K V=>cases hM
  |int k=>
   obtain⟨n,rfl,-,hw⟩:=DataW.trod_int (q4q hT).1 h;exact⟨.i n,k,rfl,rfl,zqo hT hw⟩
  |bool=>
   obtain⟨b,rfl,-⟩:=DataW.trod_bool (q5e hT).1 h;exact⟨.b b,rfl,rfl⟩
  |str=>
   obtain⟨s,rfl,rfl,-⟩:=DataW.trod_string (q4m hT).1 h;have:=hL s.data.toList.length (by simp[DataW.weights]);exact⟨.s s,rfl,rfl,by rw[qye] at this;simpa using this⟩
  | st S =>
   obtain⟨fields,fs,zc,i,hu,hfs,hfb,hi,hsz,-,-,-,-⟩:=q5z hT;obtain⟨xs,n,hn,hx,hlen,hxl,hf⟩:=DataW.trod_struct hu h;obtain rfl:fuel=n:=by omega
   have hw:∀n∈DataW.weightsEach uA (fields.toList.map (·.type)) (xs.map (·.1)),n≤reachBytes:=fun n hn=>hL n (by rw[hx];simp only[DataW.weights,hu];exact hn);have hcl:cs.length=0+widths fs:=by rw[hlen,z3e hT,(qrq hfs).1];omega
   obtain⟨ds,hds⟩:=zex (W:=W) (F:=fun _=>True) hfb (fun j f t hj ht=>by
    obtain⟨f',hf',ho,hty,-⟩:=q90 hfb ht;obtain rfl:=gnI (hj.symm.trans hf');have h5:=hf j f (by rw[←Array.getElem?_toList];exact hj);have hjl:j<fields.toList.length:=(gnH.1 hj).1;have hjx:j<xs.length:=by rw[hxl];simpa using hjl
    rw[z3e hty,gnK hjx] at h5;refine ih _ _ hty (zkq hfs (List.mem_of_getElem? ht)) h5 (qee.each (k:=j) hw ?_ ?_)
    ·rw[uH,hj];rfl
    ·rw[uH,gnK hjx];rfl) hcl
   exact⟨.a ds,S,fs,rfl,hfs,by simpa using hds⟩
  | row E =>
   obtain⟨hu,⟨te,hte⟩,-⟩:=q23 hT;rcases DataW.trod_slice hu h with⟨rfl,hx⟩|⟨a,len,cap,elems,rest,n,hn,rfl,hx,hb,hl,hm,hlen,hel,-⟩
   ·exact⟨.r [],E,te,none,0,rfl,hte,rfl,by simp,by simp,by simp[maxLen],by simp[RdE]⟩
   ·obtain rfl:fuel=n:=by omega
    have hwd:=q3g hte;rw[z3e hte] at hel;have hw:=hL;rw[hx] at hw;simp only[qee,DataW.weights,hu,uL,uI] at hw;have hlen2:len≤LM te:=by
     have:=hw _ (.inl rfl);rw[qye] at this;have hbe:uA.bytesOf E=te.by:=by
      obtain⟨i,hi,-⟩:=q47 hte;simp[Program.bytesOf,hi,qof hte hi]
     refine(Nat.le_div_iff_mul_le (zi9 hte).1).2 ?_;simp[hbe] at this;have h2:len * te.by≤(elems.length+rest.length) * te.by:=Nat.mul_le_mul_right _ (by omega);exact Nat.le_trans h2 this
    have spot:0<len→a.spot=none:=fun h0=>by
     have h2:=hel 0 h0;rw[gnK (by omega)] at h2;cases hc0:W.cells? base (a.add (0 * te.w)) te.w with
     |none=>rw[hc0] at h2;cases h2
     |some cs0=>
      obtain⟨_,hcl0,hat0⟩:=World.cells?_some hc0;have hp:0<cs0.length:=by omega
      have:=hat0 0 (by omega);rw[gnK hp] at this;exact z87 (a:=a) (v:=cs0[0]) (by simpa[Addr.add] using this)
    have each:∀i,i<len→∃y,ztl W (fun _=>True) y te (some a) i:=fun i hi=>by
     have h1:=hel i hi;rw[gnK (by omega)] at h1;cases hc:W.cells? base (a.add (i * te.w)) te.w with
     |none=>rw[hc] at h1;cases h1
     | some cs' =>
      rw[hc] at h1;obtain⟨_,hcl,hat⟩:=World.cells?_some hc;obtain⟨y,hy⟩:=ih cs' _ hte (zo8 hT hte) h1 (fun n hn=>hw n (.inr (.inl (qep (List.mem_map.2 ⟨_,List.getElem_mem (by omega),rfl⟩) n hn))));have hsp:=spot (by omega);obtain⟨b,o,sp⟩:=a;obtain rfl:sp=none:=hsp;have add:∀k,(Addr.add ⟨b,o,none⟩ (i * te.w)).add k=⟨b,o+i * te.w+k,none⟩:=fun k=>by
       unfold Addr.add;split<;>split<;>simp<;>omega
      refine⟨y,b,o,cs',rfl,trivial,fun j v hj=>?_,hy⟩;have hj':=(gnH.1 hj).1;have:=hat j (by omega);rw[add,hj] at this;exact this
    have pick:∀n,n≤len→∃l:List D,l.length=n∧∀i(h:i<l.length),ztl W (fun _=>True) l[i] te (some a) i:=by
     intro n
     induction n with
     |zero=>exact fun _=>⟨[],rfl,fun i hi=>by simp at hi⟩
     | succ n ihn =>
      intro hn;obtain⟨l,hl1,hl2⟩:=ihn (by omega);obtain⟨t,ht⟩:=each n (by omega);refine⟨l++[t],by simp[hl1],fun i hi=>?_⟩;by_cases hin:i<l.length
      ·rw[List.getElem_append_left hin];exact hl2 i hin
      ·obtain rfl:i=l.length:=by simp at hi;omega
       rw[List.getElem_append_right (by omega)];simp[hl1];exact ht
    obtain⟨l,hl1,hl2⟩:=pick len (uF _);exact⟨.r l,E,te,some a,cap,rfl,hte,by rw[hl1],by omega,by omega,hm,q1r.2 fun j hj=>by rw[Nat.zero_add];exact hl2 j hj⟩
theorem z7h{t:Ty}(hT:qm T=some t)(hM:qbm t=false){v:Value}{d:DataW H}{p:List MemPlace}{b0:Nat}{r:Reach}(hv:Value.okWide uA W r b0 T v)(h:DataW.Trod enc uA W base spare held T v d p)(hL:qee T d):
  ∃x cs,jj t cs v∧Rd W (fun b=>b<W.heap.size) x t cs:=by
 obtain⟨fuel,hf⟩:=h;obtain⟨y,hy⟩:=zd0 fuel _ _ hT hM hf hL;refine⟨y,v.cells.toList,?_,Rd.keeps (fun b o _ ho=>⟨ho,qt ho⟩) _ hy⟩;cases t with
 |int k=>obtain⟨n,rfl⟩:=okWide_int (q4q hT).1 hv;rfl
 |bool=>obtain⟨n,rfl⟩:=okWide_bool (q5e hT).1 hv;rfl
 |str=>obtain⟨n,rfl⟩:=okWide_string (q4m hT).1 hv;rfl
 |map K V=>cases hM
 |row E=>obtain⟨A,l,c,rfl⟩:=okWide_slice (q23 hT).1 hv;rfl
 |st S=>
  obtain⟨fields,fs,zc,i,hu,-⟩:=q5z hT;obtain⟨cs,rfl,-⟩:=okWide_struct hu hv;simp[jj,Value.cells]
end
def qzi(W:World):List Ar→List Value→List D→Prop
 |[],vs,ds=>vs=[]∧ds=[]
 |.val t::l,vs,ds=>∃v r d ds',vs=v::r∧ds=d::ds'∧(∃cs,jj t cs v∧Rd W (FFD (fun _=>True) (fun _=>none) []) d t cs)∧qzi W l r ds'
 |_::_,_,_=>False
theorem qzi.ok{V:List Value}:∀{i:Nat}{ar:List Ar}{vs:List Value}{ds:List D},qzi W ar vs ds→jc V (fun _=>True) (fun _=>none) W (idx i ar) vs ds∧vs.length=ar.length
 |_,[],vs,ds,h=>⟨h,by rw[h.1];rfl⟩
 |i,.val t::l,vs,ds,⟨v,r,d,ds',e1,e2,h1,h⟩=>by
  obtain⟨h2,h3⟩:=qzi.ok (V:=V) (i:=i+1) h;exact⟨⟨v,r,d,ds',e1,e2,h1,h2⟩,by rw[e1];simp[h3]⟩
 |_,.ref _ _::_,_,_,h=>h.elim
 |_,.rref _::_,_,_,h=>h.elim
 |_,.own _::_,_,_,h=>h.elim
 |_,.mref _::_,_,_,h=>h.elim
 |_,.nils::_,_,_,h=>h.elim
 |_,.nilp::_,_,_,h=>h.elim
 |_,.fn _ _::_,_,_,h=>h.elim
 |_,.cell _ _::_,_,_,h=>h.elim
theorem zco{ct:Ct}{g:List D→Option (List D)}(h:FOk ct g)(hrs:ct.rs=[(.bool,false)])(hvr:ct.vr=[]){vs:List Value}{ds:List D}(ha:qzi W ct.ar vs ds)(hg:g ds=some [.b true]):
  Calls uA ct.f vs.toArray W fun e W'=>e=.returned (.bool true)∧But Nil W W':=by
 obtain⟨h1,h2⟩:=qzi.ok (V:=vs++[]) (i:=0) ha;refine(h.call (fun _=>True) .no (fun _=>none) W vs [] ds _ hg (qjt.of0 fun _=>rfl) Flo.no (by constructor<;>simp[Flr.no]) h2 (by simpa[Ct.all,hvr,idx] using h1)).mono ?_;rintro e W'(⟨T,-,ho,-⟩|⟨rs,p',rfl,hb,hr,-⟩)
 ·cases ho
 rw[hrs] at hr;obtain⟨v,r,d,ds',rfl,hd,⟨cs,hp,hc⟩,rfl⟩:=hr;simp at hd;obtain⟨rfl,rfl⟩:=hd;obtain⟨e1,e2⟩:D.b true=.b true∧cs=[.bool true]:=⟨rfl,by
  have hc':Rd W' (FFD (fun _=>True) p' []) (.b true) .bool cs:=hc;exact hc'.2⟩
 subst e2;have hpv:[Value.bool true]=[v]:=hp;injection hpv with hpv;subst hpv;exact⟨rfl,hb.but.mono fun i hi _=>by obtain⟨x,hx⟩:=hi;cases hx⟩
end
end Go.Proofs.Ytdaadonfbnedaaa
