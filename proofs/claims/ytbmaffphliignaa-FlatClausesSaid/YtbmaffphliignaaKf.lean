/-
 Lemmas of the walk and plain laws, put together. No condition.
-/
import Derived.Defers
import Derived.Recover
import Derived.TacticsInMore
import Derived.WalkLawsBesides
import Derived.Test.YtbmaffphliignaaKe
namespace Go.Proofs.Ytbmaffphliignaa
open Go.RowKit
set_option linter.unusedVariables false
set_option linter.unusedSimpArgs false
set_option maxRecDepth 100000
open _root_.Option.some renaming injEq→uA
open _root_.Option renaming ite_none_right_eq_some→uB,map_eq_some_iff→uH,isSome_some→kK,getD_some→kM
open _root_.List renaming getD_cons_zero→uC,take_length→uF,mem_cons_of_mem→uG,getD_cons_succ→uI,mem_cons_self→uJ,map_cons→uL,take_append_drop→uM,length_take→uN,length_cons→uO,cons_append→uQ,mem_cons→uR,length_nil→uS,drop_length→uW,map_append→uX,map_nil→kA,map_map→kB,map_id→kD,length_map→kE,length_eq_zero_iff→kJ,range→kN,not_mem_nil→kO
open _root_.Nat renaming zero_le→uD,not_lt_zero→uU,le_refl→kX
open _root_.Go.Proofs.Try renaming prog→uE,ntmps93→kW,func93→kZ,f94→vA
open _root_.Bool renaming and_assoc→uK,not_eq_false'→uP,or_eq_true→uT,eq_false_iff→uV,and_eq_false_iff→uY,or_eq_false_iff→uZ,eq_iff_iff→kF,false_and→kG,true_and→kI,and_false→kQ,and_true→kR,and_self→kS,or_true→kT
open Sem renaming run_bind→kC,run_pure→kU,run→kV
def mT(ds:List D):Nat:=szT (dT (ds.getD 0 .u))
def zcv:List D→Option (List D)
 |[t,m]=>if 1≤m.int then some [.i (min (szT (dT t):Int) m.int)] else none
 |_=>none
def gTi(f:Te→Int):List D→Option (List D)
 |[t]=>some [.i (f (dT t))]
 |_=>none
def gTb(f:Te→Bool):List D→Option (List D)
 |[t]=>some [.b (f (dT t))]
 |_=>none
def gTT(f:Te→Te):List D→Option (List D)
 |[t]=>some [eT (f (dT t))]
 |_=>none
def q6v(f:Te→Te→Bool):List D→Option (List D)
 |[t,v]=>some [.b (f (dT t) (dT v))]
 |_=>none
theorem za8(k n:Int)(s:ByteArray)(l:List Te):(Te.mk k n s l).l=l:=rfl
theorem q16{l:List Te}{k:Nat}(h:k<l.length):(D.r (l.map eT)).get (k:Int)=eT (l.getD k default):=zj3 eT h
theorem q3j{t:Te}{k:Nat}(h:k<t.l.length):szT (t.l.getD k default)<szT t:=zfn (qr5 h)
theorem qqc:FOk jv zcv:=q2l (m:=mT) qbx fun N ih=>qnz ih fun ds outs hw hg=>by
 obtain⟨d,r,rfl,hd,e,r',rfl,he,rfl⟩:=hw;obtain⟨t,rfl,ht⟩:=wfT hd;obtain⟨m,rfl,hm⟩:=wfI he;simp only[yu,mT,zcv,uC,z9,j6,uB,uA] at hg;obtain⟨hsz,h1,rfl⟩:=hg;have hl:=ht.l;rw[q7u,yp];refine⟨fun st=>∃k:Nat,k≤t.l.length∧st=[.i (min ((q28 (t.l.take k):Int)+1) m),.i k],fun st=>t.l.length - (st.getD 1 .u).int.toNat,⟨0,uD _,by simp[X.evs,X.ev,q28];omega⟩,?_⟩;rintro st - ⟨k,hk,rfl⟩;rw[y3];refine⟨fun hlt=>?_,fun hlt=>?_⟩
 ·simp only[gnZ,gnT,gnB] at hlt;obtain⟨hkl,hlm⟩:=hlt;have hkl':k<t.l.length:=by omega
  have ha:=q3j hkl';have hs:=qg0 hkl';have hmn:1≤m - min ((q28 (t.l.take k):Int)+1) m:=by omega
  simp only[gnZ,gnT,q16 hkl',yu,mT,zcv,if_pos hmn,if_pos (show szT (t.l.getD k default)<N by omega)];refine⟨⟨by omega,by omega,by omega,by omega⟩,⟨by omega,by omega⟩,?_⟩;rw[q1u,if_pos rfl];refine⟨⟨k+1,by omega,?_⟩,?_⟩
  ·rw[hs];simp;omega
  ·simp[D.int];omega
 ·simp only[gnZ,gnT,uY] at hlt;simp only[gnZ,gnT];have hz:=z0u t;have:min ((q28 (t.l.take k):Int)+1) m=min (szT t:Int) m:=by
   rcases hlt with h|h
   ·have:k=t.l.length:=by omega
    subst this;rw[uF];omega
   ·have h2:=qd7 (t.l.take k) (t.l.drop k);rw[uM] at h2;omega
  rw[this]
theorem q86:FOk yj (gTi fun t=>min (szT t:Int) 2001):=qrr qqc fun ds outs hw hg=>by
 obtain⟨d,r,rfl,hd,rfl⟩:=hw;obtain⟨t,rfl,ht⟩:=wfT hd;simp only[gTi,z9,uA] at hg;subst hg;simp[q92,gnZ,gnT,zcv]
theorem qvm:FOk q25 (gTb qbt):=qql fun ds outs hw hg=>by
 obtain⟨d,r,rfl,hd,rfl⟩:=hw;obtain⟨t,rfl,ht⟩:=wfT hd;simp only[gTb,z9,uA] at hg;subst hg;simp only[q95,gnZ,gnT,qbt];by_cases h0:t.k=0
 ·simp[h0,uK]
 ·by_cases h1:t.k=1
  ·simp[h1]
  ·by_cases h2:t.k=2
   ·simp[h2,uK]
   ·by_cases h3:t.k=3
    ·simp[h3,uK]
    ·simp[h0,h1,h2,h3]
theorem q9w(t:Te):j4 t=true↔qbt t=true∧∀j,j<t.l.length→j4 (t.l.getD j default)=true:=by
 rw[qhp,gnB,List.all_eq_true];simp
theorem qs5:FOk ju (gTb j4):=q2l (m:=mT) qbq fun N ih=>qpl qvm ih fun ds outs hw hg=>by
 obtain⟨d,r,rfl,hd,rfl⟩:=hw;obtain⟨t,rfl,ht⟩:=wfT hd;simp only[yu,mT,gTb,uC,z9,j6,uB,uA] at hg;obtain⟨hsz,rfl⟩:=hg;have hl:=ht.l;simp only[q7d,gnZ,gnT,gTb];refine⟨fun hn=>?_,fun hn=>?_⟩
 ·rw[qhp,show qbt t=false by simpa using hn];rfl
 have hn:qbt t=true:=by simpa using hn
 rw[yp];refine⟨fun st=>∃k:Nat,k≤t.l.length∧st=[.b false,.i k]∧∀j,j<k→j4 (t.l.getD j default)=true,fun st=>t.l.length - (st.getD 1 .u).int.toNat,⟨0,uD _,rfl,fun j hj=>absurd hj (uU _)⟩,?_⟩;rintro st - ⟨k,hk,rfl,hP⟩;rw[y3];refine⟨fun hlt=>?_,fun hlt=>?_⟩
 ·simp only[gnZ,gnT] at hlt;have hkl':k<t.l.length:=by omega
  have ha:=q3j hkl';simp only[gnZ,gnT,q16 hkl',yu,mT,gTb,if_pos (show szT (t.l.getD k default)<N by omega)];refine⟨⟨by omega,by omega⟩,fun hx=>?_,fun hx=>⟨⟨by omega,by omega⟩,?_⟩⟩
  ·have:j4 t=false:=by
    cases hh:j4 t with
    |false=>rfl
    |true=>rw[((q9w t).1 hh).2 k hkl'] at hx;cases hx
   rw[this]
  ·rw[q1u,if_pos rfl];refine⟨⟨k+1,by omega,by simp,q4y hP (by simpa using hx)⟩,?_⟩;simp[D.int];omega
 ·simp only[gnZ,gnT] at hlt⊢;have:k=t.l.length:=by omega
  subst this;rw[(q9w t).2 ⟨hn,hP⟩]
theorem q3i:FOk ze (gTb zb):=qo4 q86 qs5 fun ds outs hw hg=>by
 obtain⟨d,r,rfl,hd,rfl⟩:=hw;obtain⟨t,rfl,ht⟩:=wfT hd;simp only[gTb,z9,uA] at hg;subst hg;have e:decide (min (szT t:Int) 2001≤2000)=decide (szT t≤2000):=by rw[decide_eq_decide];omega
 simp[q73,gnZ,gnT,gTi,gTb,zb,e]
theorem qcl{t u:Te}:idT t u=true↔t.k=u.k∧t.n=u.n∧t.s=u.s∧t.l.length=u.l.length∧∀j,j<t.l.length→idT (t.l.getD j default) (u.l.getD j default)=true:=by
 rw[qfv];cases t with
 | mk k n s l =>
  cases u with
  | mk k' n' s' l' =>
   simp only[Te.k,Te.n,Te.s,Te.l,Te.mk.injEq,qfv];refine⟨?_,?_⟩
   ·rintro⟨rfl,rfl,rfl,rfl⟩;exact⟨rfl,rfl,rfl,rfl,fun _ _=>rfl⟩
   ·rintro⟨rfl,rfl,rfl,h1,h2⟩;refine⟨rfl,rfl,rfl,List.ext_getElem h1 fun i hi hi'=>?_⟩;have:=h2 i hi;simpa[gnG,gnK hi,gnK hi'] using this
theorem qhz:FOk yo (q6v idT):=q2l (m:=mT) q70 fun N ih=>qga ih fun ds outs hw hg=>by
 obtain⟨d,r,rfl,hd,e,r',rfl,he,rfl⟩:=hw;obtain⟨t,rfl,ht⟩:=wfT hd;obtain⟨u,rfl,hu⟩:=wfT he;simp only[yu,mT,q6v,uC,z9,j6,uB,uA] at hg;obtain⟨hsz,rfl⟩:=hg;have hl:=ht.l;have no:(¬idT t u=true)→[D.b false]=[D.b (idT t u)]:=fun h=>by rw[uV.2 h]
 simp only[q4o,gnZ,gnT,q6v];refine⟨fun hn=>no fun h=>?_,fun hn=>?_⟩
 ·obtain⟨e1,e2,e3,e4,-⟩:=qcl.1 h;simp[e1,e2,e3,e4] at hn
 simp only[uZ,uP,gnD] at hn;obtain⟨⟨⟨e1,e2⟩,e3⟩,e4⟩:=hn;have e4:t.l.length=u.l.length:=by omega
 rw[yp];refine⟨fun st=>∃k:Nat,k≤t.l.length∧st=[.b false,.i k]∧∀j,j<k→idT (t.l.getD j default) (u.l.getD j default)=true,fun st=>t.l.length - (st.getD 1 .u).int.toNat,⟨0,uD _,rfl,fun j hj=>absurd hj (uU _)⟩,?_⟩;rintro st - ⟨k,hk,rfl,hP⟩;rw[y3];refine⟨fun hlt=>?_,fun hlt=>?_⟩
 ·simp only[gnZ,gnT] at hlt;have hkl':k<t.l.length:=by omega
  have hku':k<u.l.length:=by omega
  have ha:=q3j hkl';simp only[gnZ,gnT,q16 hkl',q16 hku',yu,mT,q6v,if_pos (show szT (t.l.getD k default)<N by omega)];refine⟨⟨by omega,by omega,by omega,by omega⟩,fun hx=>no fun h=>?_,fun hx=>⟨⟨by omega,by omega⟩,?_⟩⟩
  ·rw[(qcl.1 h).2.2.2.2 k hkl'] at hx;cases hx
  ·rw[q1u,if_pos rfl];refine⟨⟨k+1,by omega,by simp,q4y hP (by simpa using hx)⟩,?_⟩;simp[D.int];omega
 ·simp only[gnZ,gnT] at hlt⊢;have:k=t.l.length:=by omega
  subst this;rw[qcl.2 ⟨e1,e2,e3,e4,hP⟩]
def q6o(t u:Te):Bool:=zb t&&(zb u&&idT t u)
theorem qcf:FOk q01 (q6v q6o):=qr4 q3i qhz fun ds outs hw hg=>by
 obtain⟨d,r,rfl,hd,e,r',rfl,he,rfl⟩:=hw;obtain⟨t,rfl,ht⟩:=wfT hd;obtain⟨u,rfl,hu⟩:=wfT he;simp only[q6v,z9,uA] at hg;subst hg;simp[q9f,gnZ,gnT,gTb,q6v,q6o,uK]
def zfk:List D→Option (List D)
 |[t,m]=>if 1≤m.int then some [.i (m.int - min (szT (dT t):Int) m.int)] else none
 |_=>none
theorem qqz:FOk jt zfk:=q2l (m:=mT) qbn fun N ih=>qp2 ih fun ds outs hw hg=>by
 obtain⟨d,r,rfl,hd,e,r',rfl,he,rfl⟩:=hw;obtain⟨t,rfl,ht⟩:=wfT hd;obtain⟨m,rfl,hm⟩:=wfI he;simp only[yu,mT,zfk,uC,z9,j6,uB,uA] at hg;obtain⟨hsz,h1,rfl⟩:=hg;have hl:=ht.l;rw[q7t,y7];refine⟨by simp only[gnZ,gnT];omega,?_⟩;rw[yp];refine⟨fun st=>∃k:Nat,k≤t.l.length∧st=[.i k,.i (m - min ((q28 (t.l.take k):Int)+1) m)],fun st=>t.l.length - (st.getD 0 .u).int.toNat,⟨0,uD _,by simp[X.evs,X.ev,q28,evl,D.int];omega⟩,?_⟩;rintro st - ⟨k,hk,rfl⟩;rw[y3];refine⟨fun hlt=>?_,fun hlt=>?_⟩
 ·simp only[gnZ,gnT,gnB] at hlt;obtain⟨hkl,hlm⟩:=hlt;have hkl':k<t.l.length:=by omega
  have ha:=q3j hkl';have hs:=qg0 hkl';have hmn:1≤m - min ((q28 (t.l.take k):Int)+1) m:=by omega
  simp only[gnZ,gnT,q16 hkl',yu,mT,zfk,if_pos hmn,if_pos (show szT (t.l.getD k default)<N by omega)];refine⟨⟨by omega,by omega⟩,⟨by omega,by omega⟩,?_⟩;rw[q1u,if_pos rfl];refine⟨⟨k+1,by omega,?_⟩,?_⟩
  ·rw[hs];simp;omega
  ·simp[D.int];omega
 ·simp only[gnZ,gnT,uY] at hlt;simp only[gnZ,gnT];have hz:=z0u t;have:m - min ((q28 (t.l.take k):Int)+1) m=m - min (szT t:Int) m:=by
   rcases hlt with h|h
   ·have:k=t.l.length:=by omega
    subst this;rw[uF];omega
   ·have h2:=qd7 (t.l.take k) (t.l.drop k);rw[uM] at h2;omega
  rw[this]
theorem q9o:FOk j1 (gTi fun t=>min (szT t:Int) 2001):=qvn qqz fun ds outs hw hg=>by
 obtain⟨d,r,rfl,hd,rfl⟩:=hw;obtain⟨t,rfl,ht⟩:=wfT hd;simp only[gTi,z9,uA] at hg;subst hg;simp[q9y,gnZ,gnT,zfk];omega
theorem qxr:FOk jp (gTb j4):=q2l (m:=mT) qe9 fun N ih=>qvk ih fun ds outs hw hg=>by
 obtain⟨d,r,rfl,hd,rfl⟩:=hw;obtain⟨t,rfl,ht⟩:=wfT hd;simp only[yu,mT,gTb,uC,z9,j6,uB,uA] at hg;obtain⟨hsz,rfl⟩:=hg;have hl:=ht.l;have key:∀(x:X),x.ev (evl (ym [(jp,yu mT N (gTb j4))]) [eT t])=.b (qbt t)→Tree.go (ym [(jp,yu mT N (gTb j4))]) (fun o=>o=[D.b (j4 t)]) (.loop 12 1 [x,(.lit (.i 0))] (.br (.and (.lt (.tok 2) (.len (.fld (.tok 0) 3))) (.tok 1)) (.need [(.le (.lit (.i 0)) (.tok 2)),(.lt (.tok 2) (.len (.fld (.tok 0) 3))),(.ok 0 [(.get (.fld (.tok 0) 3) (.tok 2))])] (.need [(.rng .i64 (.add (.tok 2) (.lit (.i 1))))] (.back 12 [(.call 0 0 [(.get (.fld (.tok 0) 3) (.tok 2))]),(.add (.tok 2) (.lit (.i 1)))]))) (.leaf [(.tok 1)]))) [eT t] fun _ _=>False:=by
  intro x hx;rw[yp];refine⟨fun st=>∃(k:Nat)(v:Bool),k≤t.l.length∧st=[.b v,.i k]∧(v=true↔qbt t=true∧∀j,j<k→j4 (t.l.getD j default)=true),fun st=>t.l.length - (st.getD 1 .u).int.toNat,⟨0,qbt t,uD _,by simp only[X.evs,hx,X.ev];rfl,by simp⟩,?_⟩;rintro st - ⟨k,v,hk,rfl,hv⟩;rw[y3];refine⟨fun hlt=>?_,fun hlt=>?_⟩
  ·simp only[gnZ,gnT,gnB] at hlt;obtain⟨hlt,rfl⟩:=hlt;have hkl':k<t.l.length:=by omega
   have ha:=q3j hkl';simp only[gnZ,gnT,q16 hkl',yu,mT,gTb,if_pos (show szT (t.l.getD k default)<N by omega)];refine⟨⟨by omega,by omega⟩,⟨by omega,by omega⟩,?_⟩;rw[q1u,if_pos rfl];have hv':=hv.1 rfl;refine⟨⟨k+1,_,by omega,rfl,⟨fun h=>⟨hv'.1,q4y hv'.2 h⟩,fun h=>h.2 k (Nat.lt_succ_self _)⟩⟩,?_⟩;simp[D.int];omega
  ·simp only[gnZ,gnT,uY] at hlt;simp only[gnZ,gnT];rw[show v=j4 t from ?_];cases hvv:v with
   | false =>
    cases hh:j4 t with
    |false=>rfl
    |true=>
     have h2:=(q9w t).1 hh;rw[hv.2 ⟨h2.1,fun j hj=>h2.2 j (by omega)⟩] at hvv;cases hvv
   | true =>
    have:k=t.l.length:=by
     rcases hlt with h|h
     ·omega
     ·rw[hvv] at h;cases h
    subst this;exact((q9w t).2 (hv.1 hvv)).symm
 rw[qag];simp only[y3];have e0:∀z:Int,(X.eq (.fld (.tok 0) 0) (.lit (.i z))).ev (evl (ym [(jp,yu mT N (gTb j4))]) [eT t])=.b (decide (t.k=z)):=fun z=>by
  simp only[gnZ,gnT]
 simp only[e0,qbb,gnD,decide_eq_false_iff_not];refine⟨fun h=>key _ ?_,fun h0=>⟨fun h=>key _ ?_,fun h1=>⟨fun h=>key _ ?_,fun h2=>⟨fun h=>key _ ?_,fun h3=>key _ ?_⟩⟩⟩⟩
 all_goals simp only[gnZ,gnT,qbt]
 ·simp[h,uK]
 ·simp[h,uK]
 ·simp[h,uK]
 ·have e8:decide (0<(t.l.length:Int))=decide (1≤(t.l.length:Int)):=rfl;rw[e8];simp[h,uK]
 ·simp[h0,h1,h2,h3]
theorem q33:FOk zd (gTb zb):=qsq q9o qxr fun ds outs hw hg=>by
 obtain⟨d,r,rfl,hd,rfl⟩:=hw;obtain⟨t,rfl,ht⟩:=wfT hd;simp only[gTb,z9,uA] at hg;subst hg;have e:decide (min (szT t:Int) 2001≤2000)=decide (szT t≤2000):=by rw[decide_eq_decide];omega
 simp[q99,gnZ,gnT,gTi,gTb,zb,e]
theorem qoj:FOk q0w (gTT id):=ql4 fun ds outs hw hg=>by
 obtain⟨d,r,rfl,hd,rfl⟩:=hw;obtain⟨t,rfl,ht⟩:=wfT hd;simp only[gTT,z9,uA] at hg;subst hg;simp only[q6q,gnZ,gnT,id]
theorem qvv:FOk q0b (gTT id):=q2l (m:=mT) qd8 fun N ih=>qso qoj ih fun ds outs hw hg=>by
 obtain⟨d,r,rfl,hd,rfl⟩:=hw;obtain⟨t,rfl,ht⟩:=wfT hd;simp only[yu,mT,gTT,uC,z9,j6,uB,uA] at hg;obtain⟨hsz,rfl⟩:=hg;have hl:=ht.l;rw[q98,y3];refine⟨fun h=>?_,fun h=>?_⟩
 ·simp only[gnZ,gnT,gTT,id]
 rw[yp];refine⟨fun st=>∃k:Nat,k≤t.l.length∧st=[.i k,eT (.mk t.k t.n t.s (t.l.take k))],fun st=>t.l.length - (st.getD 0 .u).int.toNat,⟨0,uD _,by simp only[X.evs,X.ev,evl,uC,zai,z8l,z9i,q6c];rfl⟩,?_⟩;rintro st - ⟨k,hk,rfl⟩;rw[y3];refine⟨fun hlt=>?_,fun hlt=>?_⟩
 ·simp only[gnZ,gnT] at hlt;have hkl':k<t.l.length:=by omega
  have ha:=q3j hkl';simp only[gnZ,gnT,q16 hkl',yu,mT,gTT,if_pos (show szT (t.l.getD k default)<N by omega),id,za8,uN];refine⟨⟨by omega,by omega⟩,by omega,⟨by omega,by omega⟩,?_⟩;rw[q1u,if_pos rfl];refine⟨⟨k+1,by omega,?_⟩,?_⟩
  ·rw[jr hkl',qjr];rfl
  ·simp[D.int];omega
 ·simp only[gnZ,gnT] at hlt⊢;have:k=t.l.length:=by omega
  subst this;rw[uF];cases t;rfl
theorem qv9:FOk j3 (gTT fun t=>if zb t then t else zT):=qtn q33 qvv fun ds outs hw hg=>by
 obtain⟨d,r,rfl,hd,rfl⟩:=hw;obtain⟨t,rfl,ht⟩:=wfT hd;simp only[gTT,z9,uA] at hg;subst hg;simp only[q8z,gnZ,gnT,gTb,gTT,id];cases zb t<;>simp
section
mutual
/-- Variables renumbered. -/
def qgg(f:Int→Int):Te→Te
 |.mk k n s l=>.mk k (if k=0 then f n else n) s (qet f l)
def qet(f:Int→Int):List Te→List Te
 |[]=>[]
 |t::l=>qgg f t::qet f l
end
mutual
/-- The variables in the order of their first occurrence, behind those given. -/
def jf(vs:List Int):Te→List Int
 |.mk k n s l=>yc (if k=0∧n∉vs then vs++[n] else vs) l
def yc(vs:List Int):List Te→List Int
 |[]=>vs
 |t::l=>yc (jf vs t) l
end
mutual
def inV(V:List Int):Te→Prop
 |.mk k n s l=>(k=0→n∈V)∧z6y V l
def z6y(V:List Int):List Te→Prop
 |[]=>True
 |t::l=>inV V t∧z6y V l
end
def q47:List Int→Int→Int
 |[],_=> -1
 |a::l,x=>if a=x then 0 else if q47 l x<0 then -1 else q47 l x+1
abbrev qju(V:List Int):Te→Te:=qgg (q47 V)
section
variable{f g:Int→Int}
theorem qwr:∀l,qet f l=l.map (qgg f)
 |[]=>rfl
 |t::l=>by rw[qet,qwr l];rfl
theorem zfo(k n:Int)(s:ByteArray)(l:List Te):qgg f (.mk k n s l)=.mk k (if k=0 then f n else n) s (l.map (qgg f)):=by rw[qgg,qwr]
theorem z0r:∀(l:List Te)(vs:List Int),yc vs l=l.foldl jf vs
 |[],_=>rfl
 |t::l,vs=>by rw[yc,z0r l];rfl
theorem qb3:∀(l m:List Te)(vs:List Int),yc vs (l++m)=yc (yc vs l) m
 |[],_,_=>rfl
 |t::l,m,vs=>by rw[uQ,yc,yc,qb3 l]
mutual
theorem qu8{V:List Int}(h:∀x∈V,f x=g x):∀t,inV V t→qgg f t=qgg g t
 |.mk k n s l,hi=>by
  rw[qgg,qgg,qn5 h l hi.2];by_cases hk:k=0
  ·rw[if_pos hk,if_pos hk,h n (hi.1 hk)]
  ·rw[if_neg hk,if_neg hk]
theorem qn5{V:List Int}(h:∀x∈V,f x=g x):∀l,z6y V l→qet f l=qet g l
 |[],_=>rfl
 |t::l,hi=>by rw[qet,qet,qu8 h t hi.1,qn5 h l hi.2]
end
mutual
theorem z0g{V W:List Int}(h:∀x∈V,x∈W):∀t,inV V t→inV W t
 |.mk k n s l,hi=>⟨fun hk=>h n (hi.1 hk),qw3 h l hi.2⟩
theorem qw3{V W:List Int}(h:∀x∈V,x∈W):∀l,z6y V l→z6y W l
 |[],_=>trivial
 |t::l,hi=>⟨z0g h t hi.1,qw3 h l hi.2⟩
end
mutual
theorem ql1:∀(t:Te)(vs:List Int),∃m,jf vs t=vs++m
 |.mk k n s l,vs=>by
  rw[jf];obtain⟨m,hm⟩:=qa2 l (if k=0∧n∉vs then vs++[n] else vs);rw[hm];split
  ·exact⟨[n]++m,by simp⟩
  ·exact⟨m,rfl⟩
theorem qa2:∀(l:List Te)(vs:List Int),∃m,yc vs l=vs++m
 |[],vs=>⟨[],by simp[yc]⟩
 |t::l,vs=>by
  rw[yc];obtain⟨m,hm⟩:=ql1 t vs;obtain⟨m',hm'⟩:=qa2 l (jf vs t);exact⟨m++m',by rw[hm',hm];simp⟩
end
theorem qtl{t:List Te}{vs:List Int}{x:Int}(h:x∈vs):x∈yc vs t:=by
 obtain⟨m,hm⟩:=qa2 t vs;rw[hm];exact List.mem_append_left _ h
mutual
theorem qtt:∀(t:Te)(vs:List Int),inV (jf vs t) t
 | .mk k n s l, vs => by
  rw[jf];refine⟨fun hk=>qtl ?_,qxa l _⟩;split
  ·simp
  ·rename_i h;exact Classical.byContradiction fun hn=>h ⟨hk,hn⟩
theorem qxa:∀(l:List Te)(vs:List Int),z6y (yc vs l) l
 |[],vs=>trivial
 |t::l,vs=>by
  rw[yc];exact⟨z0g (fun x hx=>qtl hx) t (qtt t vs),qxa l _⟩
end
mutual
theorem qg7:∀(t:Te)(vs:List Int),(jf vs t).length≤vs.length+szT t
 |.mk k n s l,vs=>by
  rw[jf,szT];refine Nat.le_trans (q7i l _) ?_;split
  ·simp;omega
  ·omega
theorem q7i:∀(l:List Te)(vs:List Int),(yc vs l).length≤vs.length+q28 l
 |[],vs=>by simp[yc,q28]
 |t::l,vs=>by
  rw[yc,q28];have h1:=q7i l (jf vs t);have h2:=qg7 t vs;omega
end
theorem qd4(k n:Int)(s:ByteArray)(l:List Te):qbt (.mk k n s l)=if k=0 then decide (0≤n)&&(decide (n≤1099511627776)&&(decide (s=⟨#[]⟩)&&decide ((l.length:Int)=0)))
 else if k=1 then decide (s=⟨#[]⟩)&&decide ((l.length:Int)=0)
 else if k=2 then decide (n=0)&&(decide ((s.size:Int)≤100)&&decide ((l.length:Int)=0))
 else if k=3 then decide (n=0)&&(decide ((s.size:Int)≤100)&&(decide (1≤(l.length:Int))&&decide ((l.length:Int)≤8)))
 else false:=rfl
end
theorem qjn:∀{l:List Int}{x:Int},x∈l→0≤q47 l x∧q47 l x<l.length
 | a :: l, x, h => by
  unfold q47;split
  ·simp only[uO];omega
  ·rename_i hne;have:=qjn (l:=l) (x:=x) (by
    rcases uR.1 h with rfl|h
    ·exact absurd rfl hne
    ·exact h)
   rw[if_neg (by omega)];simp only[uO];omega
theorem qfd:∀{l:List Int}{x:Int},x∉l→q47 l x= -1
 |[],_,_=>rfl
 |a::l,x,h=>by
  unfold q47;rw[if_neg (fun e:a=x=>h (by rw[e];exact uJ)),if_pos (by rw[qfd fun q=>h (uG _ q)];omega)]
theorem z8x{l:List Int}{x:Int}:q47 l x<0↔x∉l:=⟨fun h hm=>by have:=(qjn hm).1;omega,fun h=>by rw[qfd h];omega⟩
theorem qu5{l m:List Int}{x:Int}(h:x∈l):q47 (l++m) x=q47 l x:=by
 induction l with
 |nil=>cases h
 | cons a l ih =>
  rw[uQ];unfold q47;by_cases e:a=x
  ·rw[if_pos e,if_pos e]
  ·have hx:x∈l:=by
    rcases uR.1 h with rfl|h
    ·exact absurd rfl e
    ·exact h
   rw[if_neg e,if_neg e,ih hx]
theorem qx1:∀{l:List Int}{x:Int},x∉l→q47 (l++[x]) x=l.length
 |[],x,_=>by simp[q47]
 |a::l,x,h=>by
  rw[uQ];unfold q47;have:=qx1 (l:=l) (x:=x) fun q=>h (uG _ q);rw[if_neg (fun e:a=x=>h (by rw[e];exact uJ)),this,if_neg (by omega)];simp
theorem z0v:∀{l:List Int}{x:Int}{k:Nat},k<l.length→l.getD k 0=x→(∀j,j<k→l.getD j 0≠x)→q47 l x=k
 |a::l,x,0,_,h,_=>by
  unfold q47;rw[if_pos (by simpa using h)];rfl
 |a::l,x,k+1,hk,h,hn=>by
  unfold q47;have:=z0v (l:=l) (x:=x) (k:=k) (by simpa using hk) (by simpa using h) (fun j hj=>by simpa using hn (j+1) (by omega));rw[if_neg (by simpa using hn 0 (by omega)),this,if_neg (by omega)];simp
end
def yv(t:Te):Te:=if zb t then t else zT
theorem q6l:FOk j3 (gTT yv):=qv9
theorem qjq:FOk yy (q6v idT):=q2l (m:=mT) q8j fun N ih=>qhj ih fun ds outs hw hg=>by
 obtain⟨d,r,rfl,hd,e,r',rfl,he,rfl⟩:=hw;obtain⟨t,rfl,ht⟩:=wfT hd;obtain⟨u,rfl,hu⟩:=wfT he;simp only[yu,mT,q6v,uC,z9,j6,uB,uA] at hg;obtain⟨hsz,rfl⟩:=hg;have hl:=ht.l;have no:(¬idT t u=true)→[D.b false]=[D.b (idT t u)]:=fun h=>by rw[uV.2 h]
 simp only[q59,gnZ,gnT,q6v];refine⟨fun hn=>no fun h=>?_,fun hn=>?_⟩
 ·obtain⟨e1,e2,e3,e4,-⟩:=qcl.1 h;simp[e1,e2,e3,e4] at hn
 simp only[uZ,uP,gnD] at hn;obtain⟨⟨⟨e1,e2⟩,e3⟩,e4⟩:=hn;have e4:t.l.length=u.l.length:=by omega
 rw[yp];refine⟨fun st=>∃k:Nat,k≤t.l.length∧st=[.b false,.i k]∧∀j,j<k→idT (t.l.getD j default) (u.l.getD j default)=true,fun st=>t.l.length - (st.getD 1 .u).int.toNat,⟨0,uD _,rfl,fun j hj=>absurd hj (uU _)⟩,?_⟩;rintro st - ⟨k,hk,rfl,hP⟩;rw[y3];refine⟨fun hlt=>?_,fun hlt=>?_⟩
 ·simp only[gnZ,gnT] at hlt;have hkl':k<t.l.length:=by omega
  have hku':k<u.l.length:=by omega
  have ha:=q3j hkl';simp only[gnZ,gnT,q16 hkl',q16 hku',yu,mT,q6v,if_pos (show szT (t.l.getD k default)<N by omega)];refine⟨⟨by omega,by omega⟩,⟨by omega,by omega⟩,fun hx=>no fun h=>?_,fun hx=>⟨⟨by omega,by omega⟩,?_⟩⟩
  ·rw[(qcl.1 h).2.2.2.2 k hkl'] at hx;cases hx
  ·rw[q1u,if_pos rfl];refine⟨⟨k+1,by omega,by simp,q4y hP (by simpa using hx)⟩,?_⟩;simp[D.int];omega
 ·simp only[gnZ,gnT] at hlt⊢;have:k=t.l.length:=by omega
  subst this;rw[qcl.2 ⟨e1,e2,e3,e4,hP⟩]
theorem qdd:FOk jn (q6v q6o):=qv3 q33 qjq fun ds outs hw hg=>by
 obtain⟨d,r,rfl,hd,e,r',rfl,he,rfl⟩:=hw;obtain⟨t,rfl,ht⟩:=wfT hd;obtain⟨u,rfl,hu⟩:=wfT he;simp only[q6v,z9,uA] at hg;subst hg;simp[qaa,gnZ,gnT,gTb,q6v,q6o,uK]
def gSL(f:ByteArray→List Te→Te):List D→Option (List D)
 |[s,l]=>some [eT (f s.str (l.rs.map dT))]
 |_=>none
theorem q1t(l:List Te):(l.map eT).map dT=l:=by
 rw[kB];have:dT ∘ eT=id:=funext z9;rw[this,kD]
theorem qp4:FOk jh (gTT id):=q2l (m:=mT) qan fun N ih=>qm1 ih fun ds outs hw hg=>by
 obtain⟨d,r,rfl,hd,rfl⟩:=hw;obtain⟨t,rfl,ht⟩:=wfT hd;simp only[yu,mT,gTT,uC,z9,j6,uB,uA] at hg;obtain⟨hsz,rfl⟩:=hg;have hl:=ht.l;rw[q69,yp];refine⟨fun st=>∃k:Nat,k≤t.l.length∧st=[.i k,eT (.mk t.k t.n t.s (t.l.take k))],fun st=>t.l.length - (st.getD 0 .u).int.toNat,⟨0,uD _,by simp only[X.evs,X.ev,evl,uC,zai,z8l,z9i,q6c];rfl⟩,?_⟩;rintro st - ⟨k,hk,rfl⟩;rw[y3];refine⟨fun hlt=>?_,fun hlt=>?_⟩
 ·simp only[gnZ,gnT] at hlt;have hkl':k<t.l.length:=by omega
  have ha:=q3j hkl';simp only[gnZ,gnT,q16 hkl',yu,mT,gTT,if_pos (show szT (t.l.getD k default)<N by omega),id,za8,uN];refine⟨⟨by omega,by omega,by omega⟩,⟨by omega,by omega⟩,?_⟩;rw[q1u,if_pos rfl];refine⟨⟨k+1,by omega,?_⟩,?_⟩
  ·rw[jr hkl',qjr];rfl
  ·simp[D.int];omega
 ·simp only[gnZ,gnT] at hlt⊢;have:k=t.l.length:=by omega
  subst this;rw[uF];cases t;rfl
theorem q6e:FOk yb (gTT yv):=qol q3i qp4 fun ds outs hw hg=>by
 obtain⟨d,r,rfl,hd,rfl⟩:=hw;obtain⟨t,rfl,ht⟩:=wfT hd;simp only[gTT,z9,uA] at hg;subst hg;simp only[q7v,gnZ,gnT,gTb,gTT,id,yv];cases zb t<;>simp
def q39(l m:List Te):Bool:=decide (l.length=m.length)&&(kN l.length).all fun j=>q6o (l.getD j default) (m.getD j default)
def z1u(f:List Te→List Te→Bool):List D→Option (List D)
 |[l,m]=>some [.b (f (l.rs.map dT) (m.rs.map dT))]
 |_=>none
theorem qd1:FOk jd (z1u q39):=qj3 qcf fun ds outs hw hg=>by
 obtain⟨d,r,rfl,hd,e,r',rfl,he,rfl⟩:=hw;obtain⟨l,rfl,hl,-⟩:=qib hd;obtain⟨m,rfl,hm,-⟩:=qib he;simp only[z1u,q4g,q1t,uA] at hg;subst hg;simp only[q5n,gnZ,gnT,q6v];refine⟨fun hn=>?_,fun hn=>?_⟩
 ·rw[q39,show decide (l.length=m.length)=false by simp at hn⊢;omega];rfl
 have hn:l.length=m.length:=by simp at hn;omega
 rw[yp];refine⟨fun st=>∃k:Nat,k≤l.length∧st=[.b false,.i k]∧∀j,j<k→q6o (l.getD j default) (m.getD j default)=true,fun st=>l.length - (st.getD 1 .u).int.toNat,⟨0,uD _,rfl,fun j hj=>absurd hj (uU _)⟩,?_⟩;rintro st - ⟨k,hk,rfl,hP⟩;rw[y3];refine⟨fun hlt=>?_,fun hlt=>?_⟩
 ·simp only[gnZ,gnT] at hlt;have hkl:k<l.length:=by omega
  have hkm:k<m.length:=by omega
  simp only[gnZ,gnT,q16 hkl,q16 hkm,q6v];refine⟨⟨by omega,by omega,by omega,by omega⟩,fun hx=>?_,fun hx=>⟨⟨by omega,by omega⟩,?_⟩⟩
  ·rw[q39,z61 hkl (by simpa using hx),kQ]
  ·rw[q1u,if_pos rfl];refine⟨⟨k+1,by omega,by simp,q4y hP (by simpa using hx)⟩,?_⟩;simp[D.int];omega
 ·simp only[gnZ,gnT] at hlt⊢;have:k=l.length:=by omega
  subst this;rw[q39,z66 hP,kR,decide_eq_true hn]
def qfa:Tree→Tree
 |.br _ _ e=>qfa e
 |.need _ t=>qfa t
 |.loop _ _ _ b=>b
 |t=>t
def eIs(l:List Int):D:=.r (l.map .i)
def dIs(d:D):List Int:=d.rs.map D.int
theorem q41(l:List Int):dIs (eIs l)=l:=by
 show(l.map .i).map D.int=l
 rw[kB];have:D.int ∘ D.i=id:=funext fun _=>rfl;rw[this,kD]
theorem q1w(l:List Int):(eIs l).rs.length=l.length:=by simp[eIs,q4g]
theorem z1q(l:List Int)(x:Int):D.r ((eIs l).rs++[.i x])=eIs (l++[x]):=by simp[eIs,q4g]
theorem qiv{l:List Int}{k:Nat}(h:k<l.length):(eIs l).get (k:Int)=.i (l.getD k 0):=by
 show(l.map D.i).getD k .u=_
 simp[gnG,h]
theorem z7s{d:D}{E:TypeId}(hE:qy E=some (.int .i64))(h:Wf d (.row E)):∃l:List Int,d=eIs l∧l.length≤17592186043904∧∀x∈l,i64 x:=by
 obtain⟨l,rfl,h1,h2⟩:=h.row_of (te:=.int .i64) hE (by unfold qlu;rw[hE]);obtain⟨m,rfl,h3⟩:=qi3 (e:=D.i) (P:=fun n=>i64 n) fun x hx=>wfI (h2 x hx);refine⟨m,rfl,?_,h3⟩;have e:LM (.int .i64)=17592186043904:=by kernel_rfl
 rw[kE] at h1;omega
def qt4:List D→Option (List D)
 |[vs,n]=>some [.i (q47 (dIs vs) n.int)]
 |_=>none
theorem qs7:qy 2=some (.int .i64):=by kernel_rfl
theorem qc0:FOk zx qt4:=qh9 fun ds outs hw hg=>by
 obtain⟨d,r,rfl,hd,e,r',rfl,he,rfl⟩:=hw;obtain⟨l,rfl,hl,-⟩:=z7s qs7 hd;obtain⟨n,rfl,hn⟩:=wfI he;simp only[qt4,q41,j6,uA] at hg;subst hg;rw[q55,yp];refine⟨fun st=>∃k:Nat,k≤l.length∧st=[.i 0,.i k]∧∀j,j<k→l.getD j 0≠n,fun st=>l.length - (st.getD 1 .u).int.toNat,⟨0,uD _,rfl,fun j hj=>absurd hj (uU _)⟩,?_⟩;rintro st - ⟨k,hk,rfl,hP⟩;rw[y3];refine⟨fun hlt=>?_,fun hlt=>?_⟩
 ·simp only[gnZ,gnT,q1w] at hlt;have hkl:k<l.length:=by omega
  simp only[gnZ,gnT,q1w,qiv hkl];refine⟨⟨by omega,by omega⟩,fun hx=>?_,fun hx=>⟨⟨by omega,by omega⟩,?_⟩⟩
  ·rw[z0v hkl hx hP]
  ·rw[q1u,if_pos rfl];refine⟨⟨k+1,by omega,by simp,q4y hP hx⟩,?_⟩;simp[D.int];omega
 ·simp only[gnZ,gnT,q1w] at hlt⊢;have:k=l.length:=by omega
  subst this;rw[qfd fun hm=>by
   obtain⟨j,hj,e⟩:=List.getElem_of_mem hm;exact hP j hj (by rw[gnG,gnK hj];exact e)]
def mT1(ds:List D):Nat:=szT (dT (ds.getD 1 .u))
def qwx:List D→Option (List D)
 |[vs,t]=>if(dIs vs).length+szT (dT t)≤1000000 then some [eIs (jf (dIs vs) (dT t))] else none
 |_=>none
theorem qfn{vs:List Int}{l:List Te}{k:Nat}(h:k<l.length):yc vs (l.take (k+1))=jf (yc vs (l.take k)) (l.getD k default):=by
 rw[jr h,qb3];rfl
theorem qdu(vs:List Int)(t:Te):jf vs t=yc (if t.k=0∧t.n∉vs then vs++[t.n] else vs) t.l:=by cases t;rfl
theorem qv5:FOk jk qwx:=q2l (m:=mT1) qd6 fun N ih=>qti qc0 ih fun ds outs hw hg=>by
 obtain⟨d,r,rfl,hd,e,r',rfl,he,rfl⟩:=hw;obtain⟨vs,rfl,hvs,-⟩:=z7s qs7 hd;obtain⟨t,rfl,ht⟩:=wfT he;simp only[yu,mT1,qwx,uC,uI,z9,q41,uB,uA] at hg;obtain⟨hsz,hlen,rfl⟩:=hg;have hl:=ht.l;have key:∀(x:X)(V:List Int),V.length≤vs.length+1→V.length+q28 t.l≤1000000→yc V t.l=jf vs t→x.ev (evl (ym [(zx,qt4),(jk,yu mT1 N qwx)]) [eIs vs,eT t])=eIs V→Tree.go (ym [(zx,qt4),(jk,yu mT1 N qwx)]) (fun o=>o=[eIs (jf vs t)]) (.loop 4 2 [x,(.lit (.i 0))] (qfa q44)) [eIs vs,eT t] fun _ _=>False:=by
  intro x V hV1 hV2 hV3 hx;rw[yp];simp only[qfa,q44];refine⟨fun st=>∃k:Nat,k≤t.l.length∧st=[eIs (yc V (t.l.take k)),.i k],fun st=>t.l.length - (st.getD 1 .u).int.toNat,⟨0,uD _,by simp only[X.evs,hx,X.ev];rfl⟩,?_⟩;rintro st - ⟨k,hk,rfl⟩;rw[y3];refine⟨fun hlt=>?_,fun hlt=>?_⟩
  ·simp only[gnZ,gnT] at hlt;have hkl':k<t.l.length:=by omega
   have ha:=q3j hkl';have h1:=q7i (t.l.take k) V;have h2:=qg0 hkl';have h3:q28 (t.l.take (k+1))≤q28 t.l:=by
    have:=qd7 (t.l.take (k+1)) (t.l.drop (k+1));rw[uM] at this;omega
   simp only[gnZ,gnT,q16 hkl',yu,mT1,qwx,q41,if_pos (show szT (t.l.getD k default)<N by omega),if_pos (show(yc V (t.l.take k)).length+szT (t.l.getD k default)≤1000000 by omega)];refine⟨⟨by omega,by omega⟩,⟨by omega,by omega⟩,?_⟩;rw[q1u,if_pos rfl];refine⟨⟨k+1,by omega,by rw[qfn hkl'];rfl⟩,?_⟩;simp[D.int];omega
  ·simp only[gnZ,gnT] at hlt⊢;have:k=t.l.length:=by omega
   subst this;rw[uF,hV3]
 have hs:=z0u t;rw[q44,y7,y3];refine⟨by simp only[gnZ,gnT,qt4],fun h=>?_,fun h=>?_⟩
 ·simp only[gnZ,gnT,qt4,q41,gnB,gnD,z8x] at h;rw[y7];refine⟨by simp only[gnZ,gnT,q1w];omega,key _ (vs++[t.n]) (by simp) (by simp;omega) (by rw[qdu,if_pos h]) ?_⟩;simp only[gnZ,gnT,z1q]
 ·simp only[gnZ,gnT,qt4,q41] at h;refine key _ vs (by omega) (by omega) ?_ (by simp only[gnZ,gnT]);rw[qdu,if_neg fun q=>by rw[q.1,qfd q.2] at h;simp at h]
def q0q:List D→Option (List D)
 |[l]=>if q28 (l.rs.map dT)≤100000 then some [eIs (yc [] (l.rs.map dT))] else none
 |_=>none
theorem qyr{l:List Te}{k:Nat}(hk:k<l.length):q28 (l.take k)+szT (l.getD k default)≤q28 l:=by
 have h2:=qg0 hk;have:=qd7 (l.take (k+1)) (l.drop (k+1));rw[uM] at this;omega
theorem q4v:FOk zu q0q:=qkd qv5 fun ds outs hw hg=>by
 obtain⟨d,r,rfl,hd,rfl⟩:=hw;obtain⟨l,rfl,hl,-⟩:=qib hd;simp only[q0q,q4g,q1t,uB,uA] at hg;obtain⟨hsz,rfl⟩:=hg;rw[q5o,yp];refine⟨fun st=>∃k:Nat,k≤l.length∧st=[eIs (yc [] (l.take k)),.i k],fun st=>l.length - (st.getD 1 .u).int.toNat,⟨0,uD _,rfl⟩,?_⟩;rintro st - ⟨k,hk,rfl⟩;rw[y3];refine⟨fun hlt=>?_,fun hlt=>?_⟩
 ·simp only[gnZ,gnT] at hlt;have hkl:k<l.length:=by omega
  have h1:=q7i (l.take k) [];have h2:=qyr hkl;simp only[uS] at h1;simp only[gnZ,gnT,q16 hkl,qwx,q41,if_pos (show(yc [] (l.take k)).length+szT (l.getD k default)≤1000000 by omega)];refine⟨⟨by omega,by omega⟩,⟨by omega,by omega⟩,?_⟩;rw[q1u,if_pos rfl];refine⟨⟨k+1,by omega,by rw[qfn hkl];rfl⟩,?_⟩;simp[D.int];omega
 ·simp only[gnZ,gnT] at hlt⊢;have:k=l.length:=by omega
  subst this;rw[uF]
def z7n:List D→Option (List D)
 |[vs,t]=>some [eT (qju (dIs vs) (dT t))]
 |_=>none
theorem zap(f:Int→Int)(t:Te):qgg f t=.mk t.k (if t.k=0 then f t.n else t.n) t.s (t.l.map (qgg f)):=by cases t;rw[zfo];rfl
theorem qpp:FOk yw z7n:=q2l (m:=mT1) qay fun N ih=>qlk qc0 ih fun ds outs hw hg=>by
 obtain⟨d,r,rfl,hd,e,r',rfl,he,rfl⟩:=hw;obtain⟨vs,rfl,hvs,-⟩:=z7s qs7 hd;obtain⟨t,rfl,ht⟩:=wfT he;simp only[yu,mT1,z7n,uC,uI,z9,q41,uB,uA] at hg;obtain⟨hsz,rfl⟩:=hg;have hl:=ht.l;have key:∀(x:X)(n:Int),(n=if t.k=0 then q47 vs t.n else t.n)→x.ev (evl (ym [(zx,qt4),(yw,yu mT1 N z7n)]) [eIs vs,eT t])=eT (.mk t.k n t.s [])→Tree.go (ym [(zx,qt4),(yw,yu mT1 N z7n)]) (fun o=>o=[eT (qju vs t)]) (.loop 5 2 [(.lit (.i 0)),x] (qfa q2x)) [eIs vs,eT t] fun _ _=>False:=by
  intro x n hn hx;rw[yp];simp only[qfa,q2x];refine⟨fun st=>∃k:Nat,k≤t.l.length∧st=[.i k,eT (.mk t.k n t.s ((t.l.take k).map (qju vs)))],fun st=>t.l.length - (st.getD 0 .u).int.toNat,⟨0,uD _,by simp only[X.evs,hx,X.ev];rfl⟩,?_⟩;rintro st - ⟨k,hk,rfl⟩;rw[y3];refine⟨fun hlt=>?_,fun hlt=>?_⟩
  ·simp only[gnZ,gnT] at hlt;have hkl':k<t.l.length:=by omega
   have ha:=q3j hkl';simp only[gnZ,gnT,q16 hkl',yu,mT1,z7n,q41,if_pos (show szT (t.l.getD k default)<N by omega),za8,uN];refine⟨⟨by omega,by omega,by omega⟩,⟨by omega,by omega⟩,?_⟩;rw[q1u,if_pos rfl];refine⟨⟨k+1,by omega,?_⟩,?_⟩
   ·rw[jr hkl',qjr,uX];rfl
   ·simp[D.int];omega
  ·simp only[gnZ,gnT] at hlt⊢;have:k=t.l.length:=by omega
   subst this;rw[uF,hn,qju,zap]
 rw[q2x,y3];refine⟨fun h=>?_,fun h=>?_⟩
 ·simp only[gnZ,gnT] at h;rw[y7];refine⟨by simp only[gnZ,gnT,qt4],key _ (q47 vs t.n) (by rw[if_pos h]) ?_⟩;simp only[gnZ,gnT,qt4,q41,q6c];rfl
 ·simp only[gnZ,gnT] at h;refine key _ t.n (by rw[if_neg h]) ?_;simp only[gnZ,gnT,q6c];rfl
def z56:List D→Option (List D)
 |[l]=>if q28 (l.rs.map dT)≤100000 then some [.r (((l.rs.map dT).map (qju (yc [] (l.rs.map dT)))).map eT)] else none
 |_=>none
theorem qiy:FOk q06 z56:=qhr q4v qpp fun ds outs hw hg=>by
 obtain⟨d,r,rfl,hd,rfl⟩:=hw;obtain⟨l,rfl,hl,-⟩:=qib hd;simp only[z56,q4g,q1t,uB,uA] at hg;obtain⟨hsz,rfl⟩:=hg;rw[q56,y7];refine⟨by simp only[gnZ,gnT,q0q,q1t,if_pos hsz],?_⟩;rw[yp];refine⟨fun st=>∃k:Nat,k≤l.length∧st=[.r (((l.take k).map (qju (yc [] l))).map eT),.i k],fun st=>l.length - (st.getD 1 .u).int.toNat,⟨0,uD _,rfl⟩,?_⟩;rintro st - ⟨k,hk,rfl⟩;rw[y3];refine⟨fun hlt=>?_,fun hlt=>?_⟩
 ·simp only[gnZ,gnT] at hlt;have hkl:k<l.length:=by omega
  simp only[gnZ,gnT,q16 hkl,q0q,z7n,q1t,q41,if_pos hsz,uN];refine⟨⟨by omega,by omega,by omega⟩,⟨by omega,by omega⟩,?_⟩;rw[q1u,if_pos rfl];refine⟨⟨k+1,by omega,by rw[jr hkl,uX,uX];rfl⟩,?_⟩;simp[D.int];omega
 ·simp only[gnZ,gnT] at hlt⊢;have:k=l.length:=by omega
  subst this;rw[uF]
mutual
theorem qrx:∀(t:Te)(vs:List Int),j4 t=true→(∀x∈vs,0≤x∧x≤1099511627776)→∀x∈jf vs t,0≤x∧x≤1099511627776
 | .mk k n s l, vs, h, hv => by
  rw[j4,gnB,qd4] at h;rw[jf];refine qll l _ h.2 fun x hx=>?_;split at hx
  ·rename_i hk;rw[if_pos hk.1] at h;simp only[gnB,gnD] at h;rcases List.mem_append.1 hx with hx|hx
   ·exact hv x hx
   ·rw[List.mem_singleton.1 hx];exact⟨h.1.1,h.1.2.1⟩
  ·exact hv x hx
theorem qll:∀(l:List Te)(vs:List Int),q36 l=true→(∀x∈vs,0≤x∧x≤1099511627776)→∀x∈yc vs l,0≤x∧x≤1099511627776
 |[],vs,h,hv=>hv
 |t::l,vs,h,hv=>by
  rw[q36,gnB] at h;rw[yc];exact qll l _ h.2 (qrx t vs h.1 hv)
end
theorem jg{t:Te}:zb t=true↔szT t≤2000∧j4 t=true:=by simp[zb]
theorem qmv{s:ByteArray}{l:List Te}(hs:s.size≤100)(h1:1≤l.length)(h2:l.length≤8)(h:∀t∈l,j4 t=true):j4 (.mk 3 0 s l)=true:=by
 rw[j4,q5w.2 h,kR,qd4];have h':(s.size:Int)≤100:=by omega
 have h3:(1:Int)≤l.length:=by omega
 have h4:(l.length:Int)≤8:=by omega
 simp[h',h3,h4]
theorem q60{t:Te}(h:zb t=true):yv t=t:=if_pos h
section
def Two(b c:Nat):Nat→Prop:=fun k=>k=b∨k=c
abbrev q22:Array Value:= #[.int .i64 0,.int .i64 0,.string ⟨#[]⟩,.slice none 0 0]
theorem z2n(v:Value)(w:World):(Instr.typeAssert (.iface 113 v) 20 113 true).run uE w=.ok (.tuple #[v,.bool true]) w:=by
 have hu:uE.underlying 113=some (.struct #[]):=by kernel_rfl
 simp[Instr.typeAssert,run_underlying hu]
section
variable{P:Program}{ops:Array Oper}{Q:Exit→Act→World→Prop}{a:Act}{w w':World}{K:Act→World→Prop}
theorem q4q{i:Nat}{rest:List Nat}(o:Oper)(ho:ops[i]? =some o)(hg:o.guard=none)(h:o.wp P a w (wpOps P ops Q rest) Q):wpOps P ops Q (i::rest) a w:=by
 simp only[wpOps,ho];rw[if_pos (by simp[Region.wanted,hg])];exact .inl h
theorem qii{o:Oper}{v:Value}(h:(execOp a.eval o).run P w=.ok (.value v) w')(hk:K (a.put o.dst v) w'):o.wp P a w K Q:=by
 unfold Oper.wp;rw[h];exact hk
theorem zb3{o:Oper}(h:(execOp a.eval o).run P w=.ok .skip w')(hk:K (a.put o.dst undef) w'):o.wp P a w K Q:=by
 unfold Oper.wp;rw[h];exact hk
end
theorem q3q{a b:Act}{l:List Nat}{P:Program}{ops:Array Oper}{Q:Exit→Act→World→Prop}{w:World}(h:a=b)(hk:wpOps P ops Q l b w):wpOps P ops Q l a w:=h▸hk
theorem qx7{x:Sem Value}{w w':World}{v:Value}(h:x.run uE w=.ok v w'):(x>>= fun v=>pure (.value v)).run uE w=.ok (Next.value v) w':=by
 rw[kC,h];rfl
theorem z0t{x:Sem Unit}{w w':World}(h:x.run uE w=.ok () w'):(x>>= fun _=>pure .skip).run uE w=.ok Next.skip w':=by
 rw[kC,h];rfl
theorem q5j{T:TypeId}{w:World}{g:Nat}{cur cs:Array Value}{T':TypeId}(hg:w.heap[g]? =some (.cells cur T' (0,0))){i:TypeInfo}(hi:uE.info? T=some i)(h1:i.size=cs.size)(h2:cur.size=cs.size)(hone:∀x∈cs.toList,x.oneCell'=true){v:Value}(hc:v.cells=cs):
  (Instr.storeAt T (.pointer (some ⟨g,0,none⟩)) v).run uE w=.ok () (w.setRow g cs):=by
 have hst:=run_storeCells_at uE g 0 T' cs.toList 0 cur w hg (by simp;omega) hone;have e1:(cur.toList.take (0+0)++cs.toList++cur.toList.drop (0+0+cs.toList.length))=cs.toList:=by
  rw[List.drop_eq_nil_of_le (by simp;omega)];simp
 rw[e1] at hst;simp only[Instr.storeAt,Instr.sureAddr,kC,kU,Result.andThen_ok,storeVar,sizeOf,typeInfo,run_program,hi,hc];rw[if_neg (by omega)];simpa using hst
theorem zcu:(uE.info? 113).map (fun i=>(i.size,i.zero))=some (0,some (.agg #[])):=by kernel_rfl
theorem qku:(uE.info? 24).map (fun i=>(i.size,i.zero))=some (4,some (.agg q22)):=by kernel_rfl
theorem qvz:(uE.info? 4).map (fun i=>(i.size,i.zero))=some (1,some (.bool false)):=by kernel_rfl
theorem z2u(w:World):(Instr.build 24 #[]).run uE w=.ok (.agg q22) w:=by
 obtain⟨i24,hi24,e24⟩:=uH.1 qku;simp only[Prod.mk.injEq] at e24;have hT:(qy 24).isSome=true:=by kernel_rfl
 have hS:(qy 24).map qgk=some true:=by kernel_rfl
 obtain⟨t,ht⟩:=Option.isSome_iff_exists.1 hT;rw[ht] at hS;have hS:qgk t=true:=by simpa using hS
 obtain⟨S,rfl⟩:∃S,t=.st S:=by cases t<;>first|exact⟨_,rfl⟩|(simp[qgk] at hS;done)
 obtain⟨fields,fs,zc,i,hu,hf,hfb,hi,hs,hz,-⟩:=q57 ht;obtain⟨places,hpr,hpl⟩:=run_places (w:=w) hfb;have hzv:(zeroValue 24).run uE w=.ok (.agg q22) w:=by simp[zeroValue,typeInfo,hi24,e24.2]
 simp only[Instr.build,kC,hzv,run_underlying hu,Result.andThen_ok,hpr,Value.cells,Instr.fill,kU]
theorem z3z{ps:Array (Nat×Value)}(w:World)(h:ps= #[]):(Instr.build 24 ps).run uE w=.ok (.agg q22) w:=by rw[h];exact z2u w
theorem q4p{w:World}{g k:Nat}{cs:Array Value}(h:k≠g):(w.setRow g cs).heap[k]? =w.heap[k]? :=setRow_other w g k cs h
theorem z76(b2 b3:Nat)(w:World){c2 c3:Array Value}(h2:w.heap[b2]? =some (.cells c2 24 (0,0)))(hc2:c2.size=4)(h3:w.heap[b3]? =some (.cells c3 4 (0,0)))(hc3:c3.size=1)(hne:b2≠b3):
  CallsD uE 93 #[.pointer (some ⟨b2,0,none⟩),.pointer (some ⟨b3,0,none⟩)] (.panicking (qcq 113)) w fun e u' w'=>
   e=.returned (.tuple #[])∧(∃v,u'=.panicking [{v:=v,recovered:=true}])∧But (Two b2 b3) w w'∧w'.heap[b2]? =some (.cells q22 24 (0,0))∧w'.heap[b3]? =some (.cells #[.bool false] 4 (0,0)):=by
 obtain⟨i73,hi73,e73⟩:=uH.1 zcu;obtain⟨i24,hi24,e24⟩:=uH.1 qku;obtain⟨i4,hi4,e4⟩:=uH.1 qvz;simp only[Prod.mk.injEq] at e73 e24 e4;refine callsD_of_wpS kZ rfl fun c₀ cs hu=>?_;apply wpS_seq;apply wpS_region;simp[wpOpsS,go_sem,recoverD,hu,kW,Exit.thenS,qcq];apply wpS_seq;apply wpS_region;simp[wpOpsS,go_sem,Exit.thenS];refine wpS_cond (t:=true) (by simp[Act.eval,Array.replicate]) ?_;simp only[if_true];refine wpS_of_wp ?_;refine wp_seq (wp_seq (wp_region ?_));refine q3q (b:={tmps:= #[.pointer (some ⟨b2,0,none⟩),.pointer (some ⟨b3,0,none⟩),.iface 113 (.agg #[]),undef,undef,.iface 113 (.agg #[]),.iface 113 (.agg #[]),.bool true,undef,undef,undef,undef,undef,undef,undef,undef,undef],defers:=[]}) (by kernel_rfl) ?_;refine q4q _ rfl rfl (qii (w':=w) (v:=.iface 113 (.agg #[])) (by kernel_rfl) ?_);refine q3q (b:={tmps:= #[.pointer (some ⟨b2,0,none⟩),.pointer (some ⟨b3,0,none⟩),.iface 113 (.agg #[]),undef,undef,.iface 113 (.agg #[]),.iface 113 (.agg #[]),.bool true,undef,(.iface 113 (.agg #[])),undef,undef,undef,undef,undef,undef,undef],defers:=[]}) (by kernel_rfl) ?_;refine q4q _ rfl rfl (qii (w':=w) (v:=.tuple #[.agg #[],.bool true]) (qx7 (z2n (.agg #[]) w)) ?_);refine q3q (b:={tmps:= #[.pointer (some ⟨b2,0,none⟩),.pointer (some ⟨b3,0,none⟩),.iface 113 (.agg #[]),undef,undef,.iface 113 (.agg #[]),.iface 113 (.agg #[]),.bool true,undef,(.iface 113 (.agg #[])),(.tuple #[.agg #[],.bool true]),undef,undef,undef,undef,undef,undef],defers:=[]}) (by kernel_rfl) ?_;refine q4q _ rfl rfl (qii (w':=w) (v:=.tuple #[.agg #[],.bool true]) (by kernel_rfl) ?_);refine q3q (b:={tmps:= #[.pointer (some ⟨b2,0,none⟩),.pointer (some ⟨b3,0,none⟩),.iface 113 (.agg #[]),undef,undef,.iface 113 (.agg #[]),.iface 113 (.agg #[]),.bool true,(.tuple #[.agg #[],.bool true]),(.iface 113 (.agg #[])),(.tuple #[.agg #[],.bool true]),undef,undef,undef,undef,undef,undef],defers:=[]}) (by kernel_rfl) ?_;refine q4q _ rfl rfl (qii (w':=w) (v:=.agg #[]) (by kernel_rfl) ?_);refine q3q (b:={tmps:= #[.pointer (some ⟨b2,0,none⟩),.pointer (some ⟨b3,0,none⟩),.iface 113 (.agg #[]),undef,undef,.iface 113 (.agg #[]),.iface 113 (.agg #[]),.bool true,(.tuple #[.agg #[],.bool true]),(.iface 113 (.agg #[])),(.tuple #[.agg #[],.bool true]),(.agg #[]),undef,undef,undef,undef,undef],defers:=[]}) (by kernel_rfl) ?_;refine q4q _ rfl rfl (qii (w':=w) (v:=.bool true) (by kernel_rfl) ?_);refine q3q (b:={tmps:= #[.pointer (some ⟨b2,0,none⟩),.pointer (some ⟨b3,0,none⟩),.iface 113 (.agg #[]),undef,undef,.iface 113 (.agg #[]),.iface 113 (.agg #[]),.bool true,(.tuple #[.agg #[],.bool true]),(.iface 113 (.agg #[])),(.tuple #[.agg #[],.bool true]),(.agg #[]),(.bool true),undef,undef,undef,undef],defers:=[]}) (by kernel_rfl) ?_;refine q4q _ rfl rfl (qii (w':=(w.alloc (.cells #[] 113))) (v:=.pointer (some ⟨w.heap.size,0,none⟩)) (by simp[execOp,Instr.alloc,zeroValue,typeInfo,hi73,e73.2,newVar,newRow,newObj,Value.cells,kV]) ?_)
 refine q3q (b:={tmps:= #[.pointer (some ⟨b2,0,none⟩),.pointer (some ⟨b3,0,none⟩),.iface 113 (.agg #[]),(.pointer (some ⟨w.heap.size,0,none⟩)),undef,.iface 113 (.agg #[]),.iface 113 (.agg #[]),.bool true,(.tuple #[.agg #[],.bool true]),(.iface 113 (.agg #[])),(.tuple #[.agg #[],.bool true]),(.agg #[]),(.bool true),undef,undef,undef,undef],defers:=[]}) (by kernel_rfl) ?_;refine q4q _ rfl rfl (zb3 (w':=((w.alloc (.cells #[] 113)).setRow w.heap.size #[])) (z0t (q5j (T:=113) (cur:= #[]) (cs:= #[]) (q3h rfl) hi73 e73.1 rfl (fun x hx=>by cases hx) (v:=.agg #[]) rfl)) ?_);refine q3q (b:={tmps:= #[.pointer (some ⟨b2,0,none⟩),.pointer (some ⟨b3,0,none⟩),.iface 113 (.agg #[]),(.pointer (some ⟨w.heap.size,0,none⟩)),undef,.iface 113 (.agg #[]),.iface 113 (.agg #[]),.bool true,(.tuple #[.agg #[],.bool true]),(.iface 113 (.agg #[])),(.tuple #[.agg #[],.bool true]),(.agg #[]),(.bool true),undef,undef,undef,undef],defers:=[]}) (by kernel_rfl) ?_;refine q4q _ rfl rfl (qii (w':=((w.alloc (.cells #[] 113)).setRow w.heap.size #[])) (v:=.bool true) (by kernel_rfl) ?_);refine q3q (b:={tmps:= #[.pointer (some ⟨b2,0,none⟩),.pointer (some ⟨b3,0,none⟩),.iface 113 (.agg #[]),(.pointer (some ⟨w.heap.size,0,none⟩)),(.bool true),.iface 113 (.agg #[]),.iface 113 (.agg #[]),.bool true,(.tuple #[.agg #[],.bool true]),(.iface 113 (.agg #[])),(.tuple #[.agg #[],.bool true]),(.agg #[]),(.bool true),undef,undef,undef,undef],defers:=[]}) (by kernel_rfl) ?_
 show Code.wp uE (.seq (.region 3 _ _) _) _ _ _
 refine wp_seq (wp_region ?_);refine q4q _ rfl rfl (qii (w':=((w.alloc (.cells #[] 113)).setRow w.heap.size #[])) (v:=.bool true) (by kernel_rfl) ?_);refine q3q (b:={tmps:= #[.pointer (some ⟨b2,0,none⟩),.pointer (some ⟨b3,0,none⟩),.iface 113 (.agg #[]),(.pointer (some ⟨w.heap.size,0,none⟩)),(.bool true),.iface 113 (.agg #[]),.iface 113 (.agg #[]),.bool true,(.tuple #[.agg #[],.bool true]),(.iface 113 (.agg #[])),(.tuple #[.agg #[],.bool true]),(.agg #[]),(.bool true),(.bool true),undef,undef,undef],defers:=[]}) (by kernel_rfl) ?_;refine q4q _ rfl rfl (qii (w':=((w.alloc (.cells #[] 113)).setRow w.heap.size #[])) (v:=.bool false) (by kernel_rfl) ?_);refine q3q (b:={tmps:= #[.pointer (some ⟨b2,0,none⟩),.pointer (some ⟨b3,0,none⟩),.iface 113 (.agg #[]),(.pointer (some ⟨w.heap.size,0,none⟩)),(.bool true),.iface 113 (.agg #[]),.iface 113 (.agg #[]),.bool true,(.tuple #[.agg #[],.bool true]),(.iface 113 (.agg #[])),(.tuple #[.agg #[],.bool true]),(.agg #[]),(.bool true),(.bool true),(.bool false),undef,undef],defers:=[]}) (by kernel_rfl) ?_;refine wp_cond (t:=false) (by kernel_rfl) ?_;simp only[gnF,if_false];refine wp_skip ?_
 show Code.wp uE (.region 5 _ _) _ _ _
 refine wp_region ?_;refine q4q _ rfl rfl (qii (w':=((w.alloc (.cells #[] 113)).setRow w.heap.size #[])) (v:=.agg q22) (qx7 (z3z _ (by simp))) ?_);refine q3q (b:={tmps:= #[.pointer (some ⟨b2,0,none⟩),.pointer (some ⟨b3,0,none⟩),.iface 113 (.agg #[]),(.pointer (some ⟨w.heap.size,0,none⟩)),(.bool true),.iface 113 (.agg #[]),.iface 113 (.agg #[]),.bool true,(.tuple #[.agg #[],.bool true]),(.iface 113 (.agg #[])),(.tuple #[.agg #[],.bool true]),(.agg #[]),(.bool true),(.bool true),(.bool false),undef,(.agg q22)],defers:=[]}) (by kernel_rfl) ?_;have hlt2:=jb h2;have hlt3:=jb h3;have g2:((w.alloc (.cells #[] 113)).setRow w.heap.size #[]).heap[b2]? =some (.cells c2 24 (0,0)):=by
  rw[q4p (by omega)];exact q2h h2
 refine q4q _ rfl rfl (zb3 (w':=((w.alloc (.cells #[] 113)).setRow w.heap.size #[]).setRow b2 q22) (z0t (q5j (T:=24) (cs:=q22) g2 hi24 e24.1 hc2 (by simp[Value.oneCell']) (v:=.agg q22) rfl)) ?_);have g3:(((w.alloc (.cells #[] 113)).setRow w.heap.size #[]).setRow b2 q22).heap[b3]? =some (.cells c3 4 (0,0)):=by
  rw[q4p (fun e=>hne e.symm),q4p (by omega)];exact q2h h3
 refine q4q _ rfl rfl (zb3 (w':=(((w.alloc (.cells #[] 113)).setRow w.heap.size #[]).setRow b2 q22).setRow b3 #[.bool false]) (z0t (q5j (T:=4) (cs:= #[.bool false]) g3 hi4 e4.1 hc3 (by simp[Value.oneCell']) (v:=.bool false) rfl)) ?_);refine⟨rfl,_,rfl,.tuple #[],by kernel_rfl,rfl,⟨_,rfl⟩,?_,?_,setRow_heap _ _ _ _ _ _ g3⟩
 ·exact q81 (q81 (q81 ((But.refl _ w).alloc _) (.inr (kX _)) _) (.inl (.inl rfl)) _) (.inl (.inr rfl)) _
 ·rw[q4p hne];exact setRow_heap _ _ _ _ _ _ g2
theorem z39(b2 b3:Nat)(w:World):
  CallsD uE 93 #[.pointer (some ⟨b2,0,none⟩),.pointer (some ⟨b3,0,none⟩)] .returning w fun e u' w'=>e=.returned (.tuple #[])∧u'=.returning∧w'=w:=by
 refine callsD_of_wpS kZ rfl fun c₀ cs hu=>?_;apply wpS_seq;apply wpS_region;simp[wpOpsS,go_sem,recoverD,hu,kW,Exit.thenS];apply wpS_seq;apply wpS_region;simp[wpOpsS,go_sem,Exit.thenS];refine wpS_cond (t:=false) (by simp[Act.eval,Array.replicate]) ?_;simp only[gnF,if_false];refine wpS_of_wp (wp_skip ?_);cases c₀;simp_all [bodyPostS,results,Try.results93]
def z8o(g:List D→Option (List D)):List D→Option (List D):=fun ds=>match g ds with
 |some [.u]=>some [.a [.i 0,.i 0,.s ⟨#[]⟩,.r []],.b false]
 |some [d]=>some [d,.b true]
 |_=>none
theorem z5l{o:Oper}{a:Act}{w w':World}{K:Act→World→Prop}{Q:Exit→Act→World→Prop}{f:FuncId}{args:Array Value}{R:Ending→World→Prop}(h:(execOp a.eval o).run uE w=.ok (.enter f args) w')(hc:Calls uE f args w' R)
  (hr:∀v w'',R (.returned v) w''→K (a.put o.dst v) w'')(hp:∀ch w'',R (.panicked ch) w''→Q (.panic ch) a w'')(ho:∀w'',¬R .outgrown w''):o.wp uE a w K Q:=by
 unfold Oper.wp;rw[h];refine hc.mono ?_;intro e w'' hR;cases e with
 |returned v=>exact hr v w'' hR
 |panicked ch=>exact hp ch w'' hR
 |outgrown=>exact(ho w'' hR).elim
theorem qyd:qy 24=some q48:=by kernel_rfl
theorem zd9:qy 4=some .bool:=by kernel_rfl
theorem zbd{t:Ty}{cs:List Value}{v v':Value}(h:j5 t cs v)(h':j5 t cs v'):v'=v:=by
 unfold j5 at h h';split at h
 ·rw[h,h']
 ·rename_i hn;have h2:cs=[v']:=by
   cases t<;>first|exact h'|exact absurd rfl (hn _)
  rw[h] at h2;injection h2 with h2;exact h2.symm
theorem qi6{T:TypeId}{t:Ty}(h:qy T=some t){w:World}{F:Nat→Prop}{d:D}{cs:List Value}{v:Value}(hd:Rd w F d t cs)(hp:j5 t cs v){b:Nat}{T':TypeId}(hb:w.heap[b]? =some (.cells cs.toArray T' (0,0))):(Instr.loadAt T (.pointer (some ⟨b,0,none⟩))).run uE w=.ok v w:=by
 have hr:w.rangeAt b 0 cs:=fun j u hj=>by
  rw[cell_of_row w b (0+j) _ T' (0,0) hb];simpa using hj
 obtain⟨v',h1,h2⟩:=qbj h hr hd;rw[←zbd hp h2];exact h1
theorem zke{o:Oper}{a:Act}{w w':World}{K:Act→World→Prop}{Q:Exit→Act→World→Prop}{d:Deferred}(h:(execOp a.eval o).run uE w=.ok (.defer d) w')(hk:K ({a with defers:=d::a.defers}.put o.dst undef) w'):o.wp uE a w K Q:=by
 unfold Oper.wp;rw[h];exact hk
theorem z42{T:TypeId}{v:Value}{cs:Array Value}{w:World}(hc:v.cells=cs):(Instr.box T v).run uE w=.ok (.pointer (some ⟨w.heap.size,0,none⟩)) (w.alloc (.cells cs T)):=by
 simp[Instr.box,newVar,newRow,newObj,hc,kV]
theorem qne{T:TypeId}{z:Value}{w:World}{i:TypeInfo}(hi:uE.info? T=some i)(hz:i.zero=some z){n:Nat}(hn:n=w.heap.size):(Instr.alloc T true (.tuple #[])).run uE w=.ok (.pointer (some ⟨n,0,none⟩)) (w.alloc (.cells z.cells T)):=by
 subst hn;simp[Instr.alloc,zeroValue,typeInfo,hi,hz,newVar,newRow,newObj,kV]
theorem qpe{g:List D→Option (List D)}(hB:FOk q0r g):FOk q2u (z8o g):=by
 refine⟨qhm,fun A F0 p w vs us ds outs hg hflo hfo hpre hvl hargs=>?_,fun h=>absurd rfl h⟩;obtain⟨i24,hi24,e24⟩:=uH.1 qku;obtain⟨i4,hi4,e4⟩:=uH.1 qvz;simp only[Prod.mk.injEq] at e24 e4;obtain⟨v,r,d,ds',hvs,rfl,⟨cs,hpk,hrd⟩,hr⟩:=hargs;obtain⟨rfl,rfl⟩:r=[]∧ds'=[]:=hr;obtain⟨rfl,rfl⟩:vs=[v]∧us=[]:=by
  cases vs with
  |nil=>cases hvl
  |cons a l=>
   have hl:l=[]:=kJ.1 (Nat.succ.inj hvl);subst hl;simp only[uQ,List.nil_append,List.cons.injEq] at hvs;exact⟨by rw[hvs.1],hvs.2⟩
 obtain⟨hlen,hone⟩:=Rd.len _ hrd;have hcells:v.cells=cs.toArray:=hpk.cells hone;have hrd3:=Rd.keeps (F':=FFD A p []) (w':=((w.alloc (.cells cs.toArray 24)).alloc (.cells q22 24)).alloc (.cells #[.bool false] 4)) (fun b o hb ho=>⟨q2h (q2h (q2h ho)),hb⟩) _ hrd
 show Calls uE 69 #[v] w _
 refine calls_of_wp_defers Try.func69 rfl ?_;refine wp_seq (wp_region ?_);refine q3q (b:={tmps:= #[v,undef,undef,undef,undef,undef,undef],defers:=[]}) (by kernel_rfl) ?_;refine q4q _ rfl rfl (qii (w':=(w.alloc (.cells cs.toArray 24))) (v:=.pointer (some ⟨w.heap.size,0,none⟩)) (qx7 (z42 hcells)) ?_);refine q3q (b:={tmps:= #[v,(.pointer (some ⟨w.heap.size,0,none⟩)),undef,undef,undef,undef,undef],defers:=[]}) (by kernel_rfl) ?_;refine q4q _ rfl rfl (qii (w':=((w.alloc (.cells cs.toArray 24)).alloc (.cells q22 24))) (v:=.pointer (some ⟨w.heap.size+1,0,none⟩)) (qx7 (qne hi24 e24.2 (by simp))) ?_);refine q3q (b:={tmps:= #[v,(.pointer (some ⟨w.heap.size,0,none⟩)),(.pointer (some ⟨w.heap.size+1,0,none⟩)),undef,undef,undef,undef],defers:=[]}) (by kernel_rfl) ?_;refine q4q _ rfl rfl (qii (w':=(((w.alloc (.cells cs.toArray 24)).alloc (.cells q22 24)).alloc (.cells #[.bool false] 4))) (v:=.pointer (some ⟨w.heap.size+2,0,none⟩)) (qx7 (qne hi4 e4.2 (by simp))) ?_);refine q3q (b:={tmps:= #[v,(.pointer (some ⟨w.heap.size,0,none⟩)),(.pointer (some ⟨w.heap.size+1,0,none⟩)),(.pointer (some ⟨w.heap.size+2,0,none⟩)),undef,undef,undef],defers:=[]}) (by kernel_rfl) ?_;refine wp_seq (wp_region ?_);refine q4q _ rfl rfl (qii (w':=(((w.alloc (.cells cs.toArray 24)).alloc (.cells q22 24)).alloc (.cells #[.bool false] 4))) (v:=.func (.func 93) #[] #[.pointer (some ⟨w.heap.size+1,0,none⟩),.pointer (some ⟨w.heap.size+2,0,none⟩)]) (by kernel_rfl) ?_);refine q3q (b:={tmps:= #[v,(.pointer (some ⟨w.heap.size,0,none⟩)),(.pointer (some ⟨w.heap.size+1,0,none⟩)),(.pointer (some ⟨w.heap.size+2,0,none⟩)),(.func (.func 93) #[] #[.pointer (some ⟨w.heap.size+1,0,none⟩),.pointer (some ⟨w.heap.size+2,0,none⟩)]),undef,undef],defers:=[]}) (by kernel_rfl) ?_;refine q4q _ rfl rfl (zke (w':=(((w.alloc (.cells cs.toArray 24)).alloc (.cells q22 24)).alloc (.cells #[.bool false] 4))) (d:={target:=.fn (.func 93) #[.pointer (some ⟨w.heap.size+1,0,none⟩),.pointer (some ⟨w.heap.size+2,0,none⟩)],args:= #[]}) (by kernel_rfl) ?_);refine q3q (b:={tmps:= #[v,(.pointer (some ⟨w.heap.size,0,none⟩)),(.pointer (some ⟨w.heap.size+1,0,none⟩)),(.pointer (some ⟨w.heap.size+2,0,none⟩)),(.func (.func 93) #[] #[.pointer (some ⟨w.heap.size+1,0,none⟩),.pointer (some ⟨w.heap.size+2,0,none⟩)]),undef,undef],defers:=[{target:=.fn (.func 93) #[.pointer (some ⟨w.heap.size+1,0,none⟩),.pointer (some ⟨w.heap.size+2,0,none⟩)],args:= #[]}]}) (by kernel_rfl) ?_;refine wp_seq (wp_region ?_);refine q4q _ rfl rfl (qii (w':=(((w.alloc (.cells cs.toArray 24)).alloc (.cells q22 24)).alloc (.cells #[.bool false] 4))) (v:=v) (qx7 (qi6 qyd hrd3 hpk (q2h (q2h (q3h rfl))))) ?_)
 refine q3q (b:={tmps:= #[v,(.pointer (some ⟨w.heap.size,0,none⟩)),(.pointer (some ⟨w.heap.size+1,0,none⟩)),(.pointer (some ⟨w.heap.size+2,0,none⟩)),(.func (.func 93) #[] #[.pointer (some ⟨w.heap.size+1,0,none⟩),.pointer (some ⟨w.heap.size+2,0,none⟩)]),v,undef],defers:=[{target:=.fn (.func 93) #[.pointer (some ⟨w.heap.size+1,0,none⟩),.pointer (some ⟨w.heap.size+2,0,none⟩)],args:= #[]}]}) (by kernel_rfl) ?_;have hB2:(((w.alloc (.cells cs.toArray 24)).alloc (.cells q22 24)).alloc (.cells #[.bool false] 4)).heap[w.heap.size+1]? =some (.cells q22 24 (0,0)):=q2h (q3h (by simp));have hB3:(((w.alloc (.cells cs.toArray 24)).alloc (.cells q22 24)).alloc (.cells #[.bool false] 4)).heap[w.heap.size+2]? =some (.cells #[.bool false] 4 (0,0)):=q3h (by simp);have hsz3:(((w.alloc (.cells cs.toArray 24)).alloc (.cells q22 24)).alloc (.cells #[.bool false] 4)).heap.size=w.heap.size+3:=by simp
 have hbut3:But (pinned p) w (((w.alloc (.cells cs.toArray 24)).alloc (.cells q22 24)).alloc (.cells #[.bool false] 4)):=(((But.refl _ w).alloc _).alloc _).alloc _;have hall3:∀b,b<w.heap.size→(((w.alloc (.cells cs.toArray 24)).alloc (.cells q22 24)).alloc (.cells #[.bool false] 4)).heap[b]? =w.heap[b]? :=fun b hb=>((((But.refl Nil w).alloc _).alloc _).alloc _).block b hb id;have hold:∀b o,w.heap[b]? =some o→(((w.alloc (.cells cs.toArray 24)).alloc (.cells q22 24)).alloc (.cells #[.bool false] 4)).heap[b]? =some o:=fun b o h=>q2h (q2h (q2h h));clear hrd3;generalize (((w.alloc (.cells cs.toArray 24)).alloc (.cells q22 24)).alloc (.cells #[.bool false] 4))=w3 at *;have hb2:w3.heap[w.heap.size+1]? =some (.cells q22 24 (0,0)):=hB2
 have hpre2:Pre q0r.ar.length (fun b=>A b∧qcc p b∧b≠w.heap.size+1∧b≠w.heap.size+2) .no (fun _=>none) w3:=
  ⟨(fun x y b h=>by cases h),(fun x b h=>by cases h),(fun x b h=>by cases h),(fun x b h=>by cases h),(fun b hb=>⟨⟨(hpre.new b (by omega)).1,(fun x hx=>by have:=hpre.bd x b hx;omega),by omega,by omega⟩,trivial⟩),(fun x b h=>by cases h)⟩
 have hrd2:Rd w3 (FFD (fun b=>A b∧qcc p b∧b≠w.heap.size+1∧b≠w.heap.size+2) (fun _=>none) []) d q48 cs:=Rd.keeps (F:=FFD A p []) (w:=w) (fun b o hb ho=>⟨hold b o ho,by
  have hlt:=jb ho;rcases hb with⟨h1,h2⟩|⟨x,hx,-⟩
  ·exact .inl ⟨⟨h1,h2,by omega,by omega⟩,fun x hx=>by cases hx⟩
  ·cases hx⟩) _ hrd
 have hen:∀(args:Array Value)(w:World),(callFunc 94 args).run uE w=.ok (.enter 94 args) w:=q77;have hcall:∀o1,g [d]=some o1→_:=fun o1 h1=>hB.call (fun b=>A b∧qcc p b∧b≠w.heap.size+1∧b≠w.heap.size+2) .no (fun _=>none) w3 [v] [] [d] o1 h1 (qij.of0 fun _=>rfl) Flo.no hpre2 rfl ⟨v,[],d,[],rfl,rfl,⟨cs,hpk,hrd2⟩,rfl,rfl⟩
 have hrun6:∀(w':World)(c2:List Value)(b:Bool)(d2:D)(F:Nat→Prop),w'.heap[w.heap.size+1]? =some (.cells c2.toArray 24 (0,0))→Rd w' F d2 q48 c2→w'.heap[w.heap.size+2]? =some (.cells #[.bool b] 4 (0,0))→
   ∀tmps:Array Value,tmps.getD 2 undef=.pointer (some ⟨w.heap.size+1,0,none⟩)→tmps.getD 3 undef=.pointer (some ⟨w.heap.size+2,0,none⟩)→(results Try.f69 tmps).run uE w'=.ok (qt9 [.agg c2.toArray,.bool b]) w':=by
  intro w' c2 b d2 F h2 hd2 h3 tmps e2 e3;refine qni ?_;rw[Try.results69];refine⟨_,_,rfl,?_,_,_,rfl,?_,rfl⟩
  ·show(do loadVar 24 (←asAddr (tmps.getD 2 undef))).run _ _=_
   rw[e2];have:=qi6 qyd hd2 (v:=.agg c2.toArray) rfl h2;simpa[asAddr,Instr.loadAt,Instr.sureAddr] using this
  ·show(do loadVar 4 (←asAddr (tmps.getD 3 undef))).run _ _=_
   rw[e3];have:=qi6 (w:=w') (F:=F) (d:=.b b) zd9 ⟨rfl,rfl⟩ (v:=.bool b) rfl h3;simpa[asAddr,Instr.loadAt,Instr.sureAddr] using this
 have hfinBs:∀w',But (pinned p) w w'→(∀b,b<w.heap.size→w'.heap[b]? =w.heap[b]?)→Bs A F0 w (pinned p) p w':=fun w' hb hs=>
  ⟨hpre.inj,(fun x b hx=>Nat.lt_of_lt_of_le (hpre.bd x b hx) hb.size),hb,(fun x b hx=>.inl ⟨x,hx⟩),hpre.new,hpre.pa,(fun x b hx=>(hpre.obj x b hx).same (hs b (hpre.bd x b hx))),hfo.same fun k hk _=>hs k hk⟩
 have hz:∀(w':World)(F:Nat→Prop),Rd w' F (.a [.i 0,.i 0,.s ⟨#[]⟩,.r []]) q48 q22.toList:=fun w' F=>
  ⟨_,[.int .i64,.int .i64,.str,qc2],rfl,rfl,_,_,[.int .i64 0],_,rfl,rfl,.inl ⟨.i64,rfl,rfl,rfl⟩,_,_,[.int .i64 0],_,rfl,rfl,.inl ⟨.i64,rfl,rfl,rfl⟩,_,_,[.string ⟨#[]⟩],_,rfl,rfl,⟨rfl,rfl,uD _⟩,
   _,_,[.slice none 0 0],_,rfl,rfl,⟨_,q48,none,0,rfl,qyd,rfl,kX _,uD _,uD _,trivial⟩,rfl,rfl⟩
 have hnp:∀b,¬pinned (fun _=>none) b:=fun b⟨x,hx⟩=>by cases hx
 have hpn:∀k,¬pinned p (w.heap.size+k):=fun k⟨x,hx⟩=>by have:=hpre.bd x _ hx;omega
 have hex:(execOp (({tmps:= #[v,.pointer (some ⟨w.heap.size,0,none⟩),.pointer (some ⟨w.heap.size+1,0,none⟩),.pointer (some ⟨w.heap.size+2,0,none⟩),(.func (.func 93) #[] #[.pointer (some ⟨w.heap.size+1,0,none⟩),.pointer (some ⟨w.heap.size+2,0,none⟩)]),v,undef],defers:=[{target:=.fn (.func 93) #[.pointer (some ⟨w.heap.size+1,0,none⟩),.pointer (some ⟨w.heap.size+2,0,none⟩)],args:= #[]}]}:Act)).eval {dst:=some 6,op:=.call {callee:=.value (.func 94),args:= #[.tmp 5],argTypes:= #[24]},type:=24,pos:= "body.go:46",after:= #[{on:=0,ground:=Ground.data}],guard:=none}).run uE w3=.ok (.enter 94 #[v]) w3:=by
  simp[execOp,resolve,Deferred.ofValue,invoke,hen,Act.eval]
 unfold z8o at hg;split at hg
 ·rename_i hgd;injection hg with hg;subst hg;refine q4q _ rfl rfl (z5l hex (hcall _ hgd) ?_ ?_ ?_)
  ·rintro v4 w4(⟨T,-,-,e,-⟩|⟨rs,p',e,hbs,⟨v5,r5,d5,ds5,rfl,hd5,⟨cs5,hpk5,hcon5⟩,-⟩,-⟩)
   ·cases e
   ·exfalso;injection hd5 with hd5 _;subst hd5;obtain⟨fs,dd,-,e,-⟩:=hcon5;cases e
  ·rintro ch w4(⟨T,hT,-,e,hb4⟩|⟨rs,p',e,-⟩)
   ·injection e with e;subst e;injection hT with hT;subst hT;refine leaves_cons (f:=93) (args:= #[.pointer (some ⟨w.heap.size+1,0,none⟩),.pointer (some ⟨w.heap.size+2,0,none⟩)]) (by simp) (by kernel_rfl) ?_;refine(z76 (w.heap.size+1) (w.heap.size+2) w4 (hb4.heap (hnp _) hB2) rfl (hb4.heap (hnp _) hB3) rfl (by omega)).mono ?_;rintro e u' w'⟨rfl,⟨v',rfl⟩,hbt,h2,h3⟩;have hall:∀b,b<w.heap.size→w'.heap[b]? =w.heap[b]? :=fun b hb=>by
     rw[hbt.block b (by have:=hb4.size;omega) (by rintro(h|h)<;>omega),hb4.block b (by omega) (hnp b)];exact hall3 b hb
    have hbw:But (pinned p) w w':=(hbut3.trans (hb4.mono (S':=pinned p) fun k hk _=>(hnp k hk).elim) fun k hk _=>.inl hk).trans hbt fun k hk _=>.inr (by rcases hk with h|h<;>omega);refine⟨_,hrun6 w' q22.toList false _ _ h2 (hz w' (FFD A p [])) h3 _ (by kernel_rfl) (by kernel_rfl),.inr ⟨[.agg q22,.bool false],p,rfl,hfinBs w' hbw hall,?_,rfl⟩⟩;exact⟨_,_,_,_,rfl,rfl,⟨q22.toList,rfl,Con.of_rd (hz w' _)⟩,_,_,_,_,rfl,rfl,⟨[.bool false],rfl,⟨rfl,rfl⟩⟩,rfl⟩
   ·cases e
  ·rintro w4(⟨T,-,-,e,-⟩|⟨rs,p',e,-⟩)<;>cases e
 ·rename_i d1 hd1 hgd;injection hg with hg;subst hg;refine q4q _ rfl rfl (z5l hex (hcall _ hgd) ?_ ?_ ?_)
  ·rintro v4 w4(⟨T,-,-,e,-⟩|⟨rs,p',e,hbs,⟨v5,r5,d5,ds5,rfl,hd5,⟨cs5,hpk5,hcon5⟩,hr5⟩,-⟩)
   ·cases e
   ·obtain rfl:r5=[]:=hr5;injection e with e;obtain rfl:v4=v5:=e;injection hd5 with hd5 _;subst hd5;have hcon5:Con _ p' w4 d1 q48 [] [] cs5:=hcon5;obtain⟨hlen5,hone5⟩:=hcon5.len;have hw4:q48.w=4:=by kernel_rfl
    rw[hw4] at hlen5;have hb4:=hbs.but;have hg2:w4.heap[w.heap.size+1]? =some (.cells q22 24 (0,0)):=hb4.heap (hnp _) hB2;have hg3:w4.heap[w.heap.size+2]? =some (.cells #[.bool false] 4 (0,0)):=hb4.heap (hnp _) hB3;refine q3q (b:={tmps:= #[v,.pointer (some ⟨w.heap.size,0,none⟩),.pointer (some ⟨w.heap.size+1,0,none⟩),.pointer (some ⟨w.heap.size+2,0,none⟩),(.func (.func 93) #[] #[.pointer (some ⟨w.heap.size+1,0,none⟩),.pointer (some ⟨w.heap.size+2,0,none⟩)]),v,v4],defers:=[{target:=.fn (.func 93) #[.pointer (some ⟨w.heap.size+1,0,none⟩),.pointer (some ⟨w.heap.size+2,0,none⟩)],args:= #[]}]}) (by kernel_rfl) ?_;refine q4q _ rfl rfl (zb3 (w':=w4.setRow (w.heap.size+1) cs5.toArray) (z0t (q5j (T:=24) (cs:=cs5.toArray) hg2 hi24 (by simp[e24.1,hlen5]) (by simp[hlen5]) hone5 (v:=v4) (hpk5.cells hone5))) ?_);have hg3':(w4.setRow (w.heap.size+1) cs5.toArray).heap[w.heap.size+2]? =some (.cells #[.bool false] 4 (0,0)):=by
     rw[q4p (by omega)];exact hg3
    refine q4q _ rfl rfl (zb3 (w':=(w4.setRow (w.heap.size+1) cs5.toArray).setRow (w.heap.size+2) #[.bool true]) (z0t (q5j (T:=4) (cs:= #[.bool true]) hg3' hi4 e4.1 rfl (by simp[Value.oneCell']) (v:=.bool true) rfl)) ?_)
    show Code.wp uE .ret _ _ _
    refine wp_ret ?_;refine leaves_cons (f:=93) (args:= #[.pointer (some ⟨w.heap.size+1,0,none⟩),.pointer (some ⟨w.heap.size+2,0,none⟩)]) (by simp) (by kernel_rfl) ?_;refine(z39 (w.heap.size+1) (w.heap.size+2) _).mono ?_;rintro e u' w'⟨rfl,rfl,rfl⟩;have hall:∀b,b≠w.heap.size+1→b≠w.heap.size+2→((w4.setRow (w.heap.size+1) cs5.toArray).setRow (w.heap.size+2) #[.bool true]).heap[b]? =w4.heap[b]? :=fun b h1 h2=>by
     rw[q4p h2,q4p h1]
    have h3:=setRow_heap _ _ _ #[.bool true] _ _ hg3';have h2:((w4.setRow (w.heap.size+1) cs5.toArray).setRow (w.heap.size+2) #[.bool true]).heap[w.heap.size+1]? =some (.cells cs5.toArray 24 (0,0)):=by
     rw[q4p (by omega)];exact setRow_heap _ _ _ _ _ _ hg2
    have hbw:But (pinned p) w ((w4.setRow (w.heap.size+1) cs5.toArray).setRow (w.heap.size+2) #[.bool true]):=
     q81 (q81 (hbut3.trans (hb4.mono (S':=pinned p) fun k hk _=>(hnp k hk).elim) fun k hk _=>.inl hk) (.inr (by omega)) _) (.inr (by omega)) _
    have hrd5:Rd ((w4.setRow (w.heap.size+1) cs5.toArray).setRow (w.heap.size+2) #[.bool true]) (FFD A p []) d1 q48 cs5:=Rd.keeps (F:=FFD _ p' []) (w:=w4) (fun b o hb ho=>by
     rcases hb with⟨⟨h1,h2,h3,h4⟩,-⟩|⟨x,hx,-⟩
     ·exact⟨(hall b h3 h4).trans ho,.inl ⟨h1,h2⟩⟩
     ·cases hx) _ (hcon5.rd (dep':=[]) (fun x hx=>by cases hx) (fun x hx=>by cases hx))
    refine⟨_,hrun6 _ cs5 true _ _ h2 hrd5 h3 _ (by kernel_rfl) (by kernel_rfl),.inr ⟨[.agg cs5.toArray,.bool true],p,rfl,hfinBs _ hbw (fun b hb=>?_),?_,rfl⟩⟩
    ·rw[hall b (by omega) (by omega),hb4.block b (by omega) (hnp b)];exact hall3 b hb
    ·exact⟨_,_,_,_,rfl,rfl,⟨cs5,rfl,Con.of_rd hrd5⟩,_,_,_,_,rfl,rfl,⟨[.bool true],rfl,⟨rfl,rfl⟩⟩,rfl⟩
  ·rintro ch w4(⟨T,hT,e0,e,hb4⟩|⟨rs,p',e,-⟩)
   ·injection e0 with e0;exact(hd1 e0).elim
   ·cases e
  ·rintro w4(⟨T,-,-,e,-⟩|⟨rs,p',e,-⟩)<;>cases e
 ·cases hg
end
abbrev qna:ByteArray:=⟨#[99,97,108,108]⟩
abbrev q3b:ByteArray:=⟨#[44]⟩
abbrev q3s:ByteArray:=⟨#[59]⟩
abbrev q02:ByteArray:=⟨#[45,62]⟩
abbrev zin:ByteArray:=⟨#[116,114,117,101]⟩
abbrev z0i:ByteArray:=⟨#[33]⟩
theorem qws{k n:Int}{s:ByteArray}{l:List Te}(h:zb (.mk k n s l)=true){a:Te}(ha:a∈l):zb a=true:=by
 rw[jg] at h⊢;obtain⟨h1,h2⟩:=h;rw[szT] at h1;rw[j4,gnB] at h2;have:=qu4 ha;exact⟨by omega,q5w.1 h2.2 a ha⟩
theorem q5p{t:Te}(h:zb t=true){j:Nat}(hj:j<t.l.length):zb (t.l.getD j default)=true:=by
 cases t with
 |mk k n s l=>exact qws h (qr5 hj)
def isT(t:Te)(s:ByteArray)(n:Int):Bool:=((decide (t.k=2)||decide (t.k=3))&&decide (t.s=s))&&decide ((t.l.length:Int)=n)
def gIs:List D→Option (List D)
 |[t,s,n]=>some [.b (isT (dT t) s.str n.int)]
 |_=>none
theorem qby:FOk je gIs:=qxx fun ds outs hw hg=>by
 obtain⟨d,r,rfl,hd,e,r',rfl,he,e2,r2,rfl,he2,rfl⟩:=hw;obtain⟨t,rfl,ht⟩:=wfT hd;obtain⟨s,rfl,hs⟩:=he.str;obtain⟨n,rfl,hn⟩:=wfI he2;simp only[gIs,z9,qh3,j6,uA] at hg;subst hg;simp only[qcj,gnZ,gnT,isT]
def q58(t:Te):Bool:=(isT t q3b 2||isT t q3s 2)||isT t q02 2
theorem qqo:FOk q1j (gTb q58):=qoo qby fun ds outs hw hg=>by
 obtain⟨d,r,rfl,hd,rfl⟩:=hw;obtain⟨t,rfl,ht⟩:=wfT hd;simp only[gTb,z9,uA] at hg;subst hg;simp only[q76,gnZ,gnT,gIs,q58]
def q19(t:Te):Bool:=(decide (t.k=3)&&decide ((t.l.length:Int)=2))&&((decide (t.s=q3b)||decide (t.s=q3s))||decide (t.s=q02))
theorem qb1:FOk jy (gTb q19):=qor fun ds outs hw hg=>by
 obtain⟨d,r,rfl,hd,rfl⟩:=hw;obtain⟨t,rfl,ht⟩:=wfT hd;simp only[gTb,z9,uA] at hg;subst hg;simp only[q82,gnZ,gnT,q19]
def qas(t:Te):Bool:=decide (t.k=2)||decide (t.k=3)
theorem q75:FOk ja (gTb qas):=qj2 fun ds outs hw hg=>by
 obtain⟨d,r,rfl,hd,rfl⟩:=hw;obtain⟨t,rfl,ht⟩:=wfT hd;simp only[gTb,z9,uA] at hg;subst hg;simp only[q5q,gnZ,gnT,qas]
mutual
/-- The conversion to a goal. -/
def jq:Te→Option Te
 | .mk k n s l => if k = 0 then some (.mk 3 0 qna [.mk k n s l])
  else if q19 (.mk k n s l) then(match q2k l with
   |some m=>some (.mk 3 0 s m)
   |none=>none)
  else if qas (.mk k n s l) then some (.mk k n s l) else none
def q2k:List Te→Option (List Te)
 |[]=>some []
 |t::l=>match jq t,q2k l with
  |some x,some m=>some (x::m)
  |_,_=>none
end
theorem qcr(t:Te):jq t=if t.k=0 then some (.mk 3 0 qna [t]) else if q19 t then(match q2k t.l with|some m=>some (.mk 3 0 t.s m)|none=>none) else if qas t then some t else none:=by
 cases t;rw[jq];rfl
theorem q4i{t:Te}(h:q19 t=true):t.l.length=2∧t.k=3:=by
 simp only[q19,gnB,gnD] at h;exact⟨by omega,h.1.1⟩
theorem zbl{l:List Te}(h:l.length=2):l=[l.getD 0 default,l.getD 1 default]:=by
 match l,h with
 |[a,b],_=>rfl
def qaf:List D→Option (List D)
 |[t]=>if zb (dT t) then(match jq (dT t) with
  |some u=>some [eT u]
  |none=>some [.u]) else none
 |_=>none
def gR(g:List D→Option (List D)):List D→Option (List D):=fun ds=>match g ds with
 |some [.u]=>none
 |r=>r
theorem zhi{g:List D→Option (List D)}{ds outs:List D}(h:gR g ds=some outs):g ds=some outs:=by
 unfold gR at h;split at h
 ·cases h
 ·exact h
theorem zh9{g:List D→Option (List D)}{ds:List D}:gR g ds≠some [.u]:=by
 unfold gR;split
 ·simp
 ·rename_i h;exact fun e=>h e
theorem zix:zic q0r [.u]:=fun A p w n rs h=>by
 obtain⟨v,r,d,ds',-,e,⟨cs,-,hc⟩,-⟩:=h;have e:[D.u]=d::ds':=e;injection e with e _;subst e;obtain⟨fs,dd,-,e,-⟩:=hc;cases e
theorem zfr{a b c x y:D}(h:x=.u∨y=.u):zic q0r [.a [a,b,c,.r [x,y]]]:=fun A p w n rs hr=>by
 obtain⟨v,r,d,ds',-,e,⟨cs,-,hc⟩,-⟩:=hr;have e:[D.a [a,b,c,.r [x,y]]]=d::ds':=e;injection e with e _;subst e;have hrd:Rd w (FFD A p []) (D.a [a,b,c,.r [x,y]]) q48 cs:=hc.rd (fun x hx=>by cases hx) (fun x hx=>by cases hx);obtain⟨T,fs,eT,hfs,t1,ts1,c1,c2,f1,-,-,t2,ts2,c3,c4,f2,-,-,t3,ts3,c5,c6,f3,-,-,t4,ts4,c7,c8,f4,-,h4,f5,-⟩:=hrd;obtain⟨E,te,A',cap,e4,hte,-,-,-,-,⟨b1,o1,cs1,-,-,-,q1⟩,⟨b2,o2,cs2,-,-,-,q2⟩,-⟩:=h4;have hk:(match q48 with|.st T=>(match flds T with|some [_,_,_,.row E]=>(match qy E with|some (.st _)=>true|_=>false)|_=>false)|_=>false)=true:=by kernel_rfl
 subst f1 f2 f3 f4 f5 e4;rw[eT] at hk;simp only[hfs,hte] at hk;rcases h with rfl|rfl
 ·obtain⟨E',te',e,-⟩:=q1;subst e;cases hk
 ·obtain⟨E',te',e,-⟩:=q2;subst e;cases hk
theorem qvb:FOk q0r qaf:=q2l (m:=mT) q77 fun N ih=>FOk.of_at q77 fun ds outs hw hg=>by
 obtain⟨d,r,rfl,hd,rfl⟩:=hw;obtain⟨t,rfl,ht⟩:=wfT hd;simp only[yu,mT,qaf,uC,z9,uB] at hg;obtain⟨hsz,hv,hg⟩:=hg;have arg:∀j,j<t.l.length→yu mT N qaf [eT (t.l.getD j default)]=(match jq (t.l.getD j default) with|some u=>some [eT u]|none=>some [.u]):=fun j hj=>by
  have:=q3j hj;simp only[yu,mT,uC,z9,if_pos (show szT (t.l.getD j default)<N by omega),qaf,q5p hv hj,if_true]
 have two:q19 t=true→q2k t.l=match jq (t.l.getD 0 default),jq (t.l.getD 1 default) with|some x,some y=>some [x,y]|_,_=>none:=fun hb=>by
  have:=zbl (q4i hb).1;generalize t.l.getD 0 default=a at *;generalize t.l.getD 1 default=b at *;rw[this];simp only[q2k];cases jq a<;>cases jq b<;>rfl
 rw[qcr] at hg;cases hb:jq t with
 | some u =>
  rw[qcr] at hb;rw[hb] at hg;simp only[uA] at hg;subst hg;refine zek (tbl:=[(jy,gTb q19),(q0r,gR (yu mT N qaf)),(ja,gTb qas),(j3,gTT yv)]) qau vA _ (.cons qb1 (.cons (ih.sub fun _ _ h=>zhi h) (.cons q75 (.cons q6l .nil)))) rfl rfl (by decide) (fun e he ds hp=>?_) (by cases u;simp[eT]) ?_
  ·simp only[uR,kO,or_false] at he;rcases he with rfl|rfl|rfl|rfl
   ·exact absurd rfl hp
   ·exact zh9
   ·exact absurd rfl hp
   ·exact absurd rfl hp
  rw[qdz _ _ _ _ _ rfl];rw[q91,y3];refine⟨fun h=>?_,fun h=>?_⟩
  ·simp only[gnZ,gnT] at h;rw[if_pos h,uA] at hb;subst hb;simp only[gnZ,gnT,q6c,uL,kA];rfl
  ·simp only[gnZ,gnT] at h;rw[if_neg h] at hb;simp only[gnZ,gnT,gTb,gTT];refine⟨fun hbr=>?_,fun hbr=>⟨fun hc=>?_,fun hc=>?_⟩⟩
   ·obtain⟨h2,h3⟩:=q4i hbr;rw[if_pos hbr,two hbr] at hb;have a0:=arg 0 (by omega);have a1:=arg 1 (by omega);cases b0:jq (t.l.getD 0 default) with
    |none=>rw[b0] at hb;cases hb
    | some x =>
     cases b1:jq (t.l.getD 1 default) with
     |none=>rw[b0,b1] at hb;cases hb
     |some y=>
      rw[b0,b1] at hb;simp only[uA] at hb;subst hb;rw[b0] at a0;rw[b1] at a1;have g0:(D.r (t.l.map eT)).get 0=eT (t.l.getD 0 default):=q16 (k:=0) (by omega);have g1:(D.r (t.l.map eT)).get 1=eT (t.l.getD 1 default):=q16 (k:=1) (by omega);have r0:gR (yu mT N qaf) [eT (t.l.getD 0 default)]=some [eT x]:=by unfold gR;rw[a0];cases x;simp[eT]
      have r1:gR (yu mT N qaf) [eT (t.l.getD 1 default)]=some [eT y]:=by unfold gR;rw[a1];cases y;simp[eT]
      have hl2:(t.l.length:Int)=2:=by omega
      simp only[gnZ,gnT,g0,g1,r0,r1,q6c,uL,kA,zi1,hl2];exact⟨by decide,rfl⟩
   ·rw[if_neg (by simp[hbr]),if_pos hc,uA] at hb;subst hb;simp only[gnZ,gnT,gTT,q60 hv]
   ·rw[if_neg (by simp[hbr]),if_neg (by simp[hc])] at hb;cases hb
 | none =>
  rw[qcr] at hb;rw[hb] at hg;simp only[uA] at hg;subst hg;refine ze4 (tbl:=[(jy,gTb q19),(q0r,yu mT N qaf),(ja,gTb qas),(j3,gTT yv)]) qau vA _ (.cons qb1 (.cons ih (.cons q75 (.cons q6l .nil)))) rfl rfl (by decide) rfl (fun e he T' hT=>?_) ?_
  ·simp only[uR,kO,or_false] at he;rcases he with rfl|rfl|rfl|rfl
   ·cases hT
   ·injection hT with hT;exact hT.symm
   ·cases hT
   ·cases hT
  rw[qdz _ _ _ _ _ rfl];rw[q91,y3];refine⟨fun h=>?_,fun h=>?_⟩
  ·simp only[gnZ,gnT] at h;rw[if_pos h] at hb;cases hb
  ·simp only[gnZ,gnT] at h;rw[if_neg h] at hb;simp only[gnZ,gnT,gTb,gTT];refine⟨fun hbr=>?_,fun hbr=>⟨fun hc=>?_,fun hc=>?_⟩⟩
   ·obtain⟨h2,h3⟩:=q4i hbr;rw[if_pos hbr,two hbr] at hb;have a0:=arg 0 (by omega);have a1:=arg 1 (by omega);have g0:(D.r (t.l.map eT)).get 0=eT (t.l.getD 0 default):=q16 (k:=0) (by omega);have g1:(D.r (t.l.map eT)).get 1=eT (t.l.getD 1 default):=q16 (k:=1) (by omega);have ok0:(yu mT N qaf [eT (t.l.getD 0 default)]).isSome=true:=by rw[a0];cases jq (t.l.getD 0 default)<;>rfl
    have ok1:(yu mT N qaf [eT (t.l.getD 1 default)]).isSome=true:=by rw[a1];cases jq (t.l.getD 1 default)<;>rfl
    simp only[gnZ,gnT,g0,g1,ok0,ok1];refine⟨by simp;omega,?_⟩;refine zfr ?_;rw[a0,a1];cases b0:jq (t.l.getD 0 default) with
    |none=>exact .inl rfl
    |some x=>
     cases b1:jq (t.l.getD 1 default) with
     |none=>exact .inr rfl
     |some y=>rw[b0,b1] at hb;cases hb
   ·rw[if_neg (by simp[hbr]),if_pos hc] at hb;cases hb
   ·exact zix
def zat(t:Te):Te×Bool:=match jq t with
 |some u=>(u,true)
 |none=>(zT,false)
def gCv(f:Te→Te×Bool):List D→Option (List D)
 |[t]=>if zb (dT t) then some [eT (f (dT t)).1,.b (f (dT t)).2] else none
 |_=>none
theorem qzf:FOk q2u (gCv zat):=(qpe qvb).subW fun ds outs hw hg=>by
 obtain⟨d,r,rfl,hd,rfl⟩:=hw;obtain⟨t,rfl,ht⟩:=wfT hd;simp only[gCv,z9,uB,uA] at hg;obtain⟨hv,rfl⟩:=hg;unfold z8o zat;simp only[qaf,z9,hv,if_true];cases jq t with
 |none=>rfl
 |some u=>
  cases u;simp[eT]
mutual
def qe3:Te→Te×Bool
 |.mk k n s l=>if k=0 then(.mk 3 0 qna [.mk k n s l],true) else if k=1 then(zT,false)
  else if q58 (.mk k n s l) then(.mk 3 0 s ((q9c l).map (·.1)),(q9c l).all (·.2)) else(yv (.mk k n s l),true)
def q9c:List Te→List (Te×Bool)
 |[]=>[]
 |t::l=>qe3 t::q9c l
end
theorem ze6(t:Te):qe3 t=if t.k=0 then(.mk 3 0 qna [t],true) else if t.k=1 then(zT,false) else if q58 t then(.mk 3 0 t.s ((q9c t.l).map (·.1)),(q9c t.l).all (·.2)) else(yv t,true):=by
 cases t;rw[qe3];rfl
theorem qx6{t:Te}(h:q58 t=true):t.l.length=2:=by
 simp only[q58,isT,uT,gnB,gnD] at h;omega
theorem qct:FOk yf (gCv qe3):=q2l (m:=mT) q9j fun N ih=>qim qqo q6e ih fun ds outs hw hg=>by
 obtain⟨d,r,rfl,hd,rfl⟩:=hw;obtain⟨t,rfl,ht⟩:=wfT hd;simp only[yu,mT,gCv,uC,z9,uB,uA] at hg;obtain⟨hsz,hv,rfl⟩:=hg;rw[q5s,ze6,y3];refine⟨fun h=>?_,fun h=>?_⟩
 ·simp only[gnZ,gnT] at h;rw[if_pos h];simp only[gnZ,gnT,q6c,uL,kA];rfl
 ·simp only[gnZ,gnT] at h;rw[if_neg h,y3];refine⟨fun h1=>?_,fun h1=>?_⟩
  ·simp only[gnZ,gnT] at h1;rw[if_pos h1];simp only[gnZ,gnT]
  ·simp only[gnZ,gnT] at h1;rw[if_neg h1];simp only[gnZ,gnT,gTb,gTT];refine⟨fun hj=>?_,fun hj=>?_⟩
   ·rw[if_neg (by simpa using hj)]
   ·have hj:q58 t=true:=by simpa using hj
    have hl:=qx6 hj;rw[if_pos hj];have s0:=q3j (t:=t) (k:=0) (by omega);have s1:=q3j (t:=t) (k:=1) (by omega);have g0:(D.r (t.l.map eT)).get 0=eT (t.l.getD 0 default):=q16 (k:=0) (by omega);have g1:(D.r (t.l.map eT)).get 1=eT (t.l.getD 1 default):=q16 (k:=1) (by omega);have e:=zbl hl;have v0:=q5p hv (j:=0) (by omega);have v1:=q5p hv (j:=1) (by omega);have hl2:(t.l.length:Int)=2:=by omega
    have ec:q9c t.l=[qe3 (t.l.getD 0 default),qe3 (t.l.getD 1 default)]:=by
     generalize t.l.getD 0 default=a at *;generalize t.l.getD 1 default=b at *;rw[e];rfl
    simp only[gnZ,gnT,g0,g1,yu,mT,gCv,if_pos (show szT (t.l.getD 0 default)<N by omega),if_pos (show szT (t.l.getD 1 default)<N by omega),v0,v1,if_true,hl2,ec,q6c,uL,kA,zi1];refine⟨by decide,?_⟩;simp;rfl
theorem qhv{t:Te}(h:zb t=true):t.k=0∨t.k=1∨(t.k=2∧t.l.length=0)∨(t.k=3∧1≤t.l.length):=by
 have h:=((q9w t).1 (jg.1 h).2).1;unfold qbt at h;split at h
 ·exact .inl (by assumption)
 split at h
 ·exact .inr (.inl (by assumption))
 split at h
 ·rename_i h2;simp only[gnB,gnD] at h;exact .inr (.inr (.inl ⟨h2,by omega⟩))
 split at h
 ·rename_i h3;simp only[gnB,gnD] at h;exact .inr (.inr (.inr ⟨h3,by omega⟩))
 ·cases h
theorem qkb{t:Te}(h:zb t=true):q58 t=q19 t:=by
 have hk:=qhv h;rw[kF];simp only[q58,isT,q19,uT,gnB,gnD];constructor
 ·rintro((⟨⟨h1,h2⟩,h3⟩|⟨⟨h1,h2⟩,h3⟩)|⟨⟨h1,h2⟩,h3⟩)
  ·exact⟨⟨by omega,by omega⟩,.inl (.inl h2)⟩
  ·exact⟨⟨by omega,by omega⟩,.inl (.inr h2)⟩
  ·exact⟨⟨by omega,by omega⟩,.inr h2⟩
 ·rintro⟨⟨h1,h2⟩,(h3|h3)|h3⟩
  ·exact .inl (.inl ⟨⟨.inr h1,h3⟩,by omega⟩)
  ·exact .inl (.inr ⟨⟨.inr h1,h3⟩,by omega⟩)
  ·exact .inr ⟨⟨.inr h1,h3⟩,by omega⟩
mutual
theorem qyi:∀(t:Te),zb t=true→(match jq t with|some u=>qe3 t=(u,true)|none=>(qe3 t).2=false)
 | .mk k n s l, hv => by
  have hj:=qkb hv;have hk:=qhv hv;rw[jq,qe3];by_cases h0:k=0
  ·rw[if_pos h0,if_pos h0]
  rw[if_neg h0,if_neg h0];by_cases h1:k=1
  ·subst h1;rw[if_pos rfl,if_neg (by simp[q19,Te.k]),if_neg (by simp[qas,Te.k])]
  rw[if_neg h1,hj];by_cases hb:q19 (.mk k n s l)=true
  ·rw[if_pos hb,if_pos hb];have ih:=z16 l fun a ha=>qws hv ha;cases hm:q2k l with
   |some m=>
    rw[hm] at ih
    show(_,_)=_
    rw[ih.1,ih.2]
   |none=>
    rw[hm] at ih;exact ih
  ·rw[if_neg hb,if_neg hb];have hc:qas (.mk k n s l)=true:=by
    have hk:k=0∨k=1∨(k=2∧l.length=0)∨(k=3∧1≤l.length):=hk;have hk:k=2∨k=3:=by omega
    show(decide (k=2)||decide (k=3))=true
    rw[uT,gnD,gnD];exact hk
   rw[if_pos hc]
   show(yv _,true)=_
   rw[q60 hv]
theorem z16:∀(l:List Te),(∀a∈l,zb a=true)→(match q2k l with|some m=>(q9c l).map (·.1)=m∧(q9c l).all (·.2)=true|none=>(q9c l).all (·.2)=false)
 |[],_=>⟨rfl,rfl⟩
 | t :: l, hv => by
  have h1:=qyi t (hv t uJ);have h2:=z16 l fun a ha=>hv a (uG _ ha);rw[q2k,q9c];cases ht:jq t with
  |none=>
   rw[ht] at h1
   show((qe3 t).2&&_)=false
   rw[h1];rfl
  | some x =>
   rw[ht] at h1;cases hl:q2k l with
   |none=>
    rw[hl] at h2
    show((qe3 t).2&&(q9c l).all (·.2))=false
    rw[h2,kQ]
   | some m =>
    rw[hl] at h2;refine⟨?_,?_⟩
    ·rw[uL,h1,h2.1]
    ·show((qe3 t).2&&(q9c l).all (·.2))=true
     rw[h1,h2.2];rfl
end
theorem qr3:FOk q1i (gTb fun t=>decide (min (szT t:Int) 2001≤2000)):=qoi q86 fun ds outs hw hg=>by
 obtain⟨d,r,rfl,hd,rfl⟩:=hw;obtain⟨t,rfl,ht⟩:=wfT hd;simp only[gTb,z9,uA] at hg;subst hg;simp only[q7z,gnZ,gnT,gTi]
def q3l(t:Te):Te×Bool:=if zb t then(match jq t with
 |some u=>if 2000<szT u then(zT,false) else(u,true)
 |none=>(zT,false)) else(zT,false)
def qce(f:Te→Te×Bool):List D→Option (List D)
 |[t]=>some [eT (f (dT t)).1,.b (f (dT t)).2]
 |_=>none
theorem qdh:FOk jo (qce q3l):=qui q33 qzf q9o fun ds outs hw hg=>by
 obtain⟨d,r,rfl,hd,rfl⟩:=hw;obtain⟨t,rfl,ht⟩:=wfT hd;simp only[qce,z9,uA] at hg;subst hg;simp only[qal,gnZ,gnT,gTb];refine⟨fun h=>?_,fun h=>?_⟩
 ·have h:zb t=false:=by simpa using h
  simp only[q3l,h];rfl
 have h:zb t=true:=by simpa using h
 simp only[gnZ,gnT,gTb,gCv,gTi,h,if_true,q3l,zat];cases jq t with
 |none=>simp
 | some u =>
  by_cases hz:2000<szT u
  ·have:(2000:Int)<min (szT u:Int) 2001:=by omega
   simp[hz,this]
  ·have:¬(2000:Int)<min (szT u:Int) 2001:=by omega
   simp[hz,this]
theorem qua:FOk q24 (qce q3l):=qqs q3i qct qr3 fun ds outs hw hg=>by
 obtain⟨d,r,rfl,hd,rfl⟩:=hw;obtain⟨t,rfl,ht⟩:=wfT hd;simp only[qce,z9,uA] at hg;subst hg;simp only[q8t,gnZ,gnT,gTb];refine⟨fun h=>?_,fun h=>?_⟩
 ·have h:zb t=false:=by simpa using h
  simp only[q3l,h];rfl
 have h:zb t=true:=by simpa using h
 have hc:=qyi t h;simp only[gnZ,gnT,gTb,gCv,gTi,h,if_true,q3l];cases hb:jq t with
 |none=>
  rw[hb] at hc;simp only[hc];simp
 | some u =>
  rw[hb] at hc;simp only[hc];by_cases hz:2000<szT u
  ·have:¬min (szT u:Int) 2001≤2000:=by omega
   simp[hz,this]
  ·have:min (szT u:Int) 2001≤2000:=by omega
   simp[hz,this]
mutual
def qkh:Te→Bool
  |.mk k n s l=>if k=2 then decide (s=z0i) else if q19 (.mk k n s l) then(if s=q02 then(qml l).getD 1 false else(qml l).getD 0 false||(qml l).getD 1 false) else false
def qml:List Te→List Bool
 |[]=>[]
 |t::l=>qkh t::qml l
end
theorem qhk:∀(l:List Te)(j:Nat),j<l.length→(qml l).getD j false=qkh (l.getD j default)
 |t::l,0,_=>rfl
 |t::l,j+1,h=>by
  rw[qml,uI,uI];exact qhk l j (by simpa using h)
theorem qpy{t:Te}:qkh t=if t.k=2 then decide (t.s=z0i) else if q19 t then(if t.s=q02 then qkh (t.l.getD 1 default) else qkh (t.l.getD 0 default)||qkh (t.l.getD 1 default)) else false:=by
 cases t with
 | mk k n s l =>
  rw[qkh];by_cases hb:q19 (.mk k n s l)=true
  ·have hl:=(q4i hb).1;have hl:l.length=2:=hl;rw[qhk l 0 (by omega),qhk l 1 (by omega)];rfl
  ·rw[if_neg hb,if_neg hb];rfl
def gCu:List D→Option (List D)
 |[t]=>if zb (dT t) then some [.b (qkh (dT t))] else none
 |_=>none
theorem qxv:FOk q0s gCu:=q2l (m:=mT) qe4 fun N ih=>quv qb1 ih fun ds outs hw hg=>by
 obtain⟨d,r,rfl,hd,rfl⟩:=hw;obtain⟨t,rfl,ht⟩:=wfT hd;simp only[yu,mT,gCu,uC,z9,uB,uA] at hg;obtain⟨hsz,hv,rfl⟩:=hg;rw[qa4,qpy,y3];refine⟨fun h=>?_,fun h=>?_⟩
 ·simp only[gnZ,gnT] at h;rw[if_pos h];simp only[gnZ,gnT]
 simp only[gnZ,gnT] at h;rw[if_neg h];simp only[gnZ,gnT,gTb];refine⟨fun hb=>?_,fun hb=>?_⟩
 ·rw[if_neg (by simpa using hb)]
 have hb:q19 t=true:=by simpa using hb
 have hl:=(q4i hb).1;have s0:=q3j (t:=t) (k:=0) (by omega);have s1:=q3j (t:=t) (k:=1) (by omega);have g0:(D.r (t.l.map eT)).get 0=eT (t.l.getD 0 default):=q16 (k:=0) (by omega);have g1:(D.r (t.l.map eT)).get 1=eT (t.l.getD 1 default):=q16 (k:=1) (by omega);have v0:=q5p hv (j:=0) (by omega);have v1:=q5p hv (j:=1) (by omega);have hl2:(t.l.length:Int)=2:=by omega
 simp only[hb,if_true,gnZ,gnT,g0,g1,yu,mT,gCu,if_pos (show szT (t.l.getD 0 default)<N by omega),if_pos (show szT (t.l.getD 1 default)<N by omega),v0,v1,hl2];refine⟨fun ha=>?_,fun ha=>?_⟩
 ·rw[if_pos ha];simp
 ·rw[if_neg ha];simp
theorem qup:FOk q0e gCu:=q2l (m:=mT) qcz fun N ih=>qsa qby ih fun ds outs hw hg=>by
 obtain⟨d,r,rfl,hd,rfl⟩:=hw;obtain⟨t,rfl,ht⟩:=wfT hd;simp only[yu,mT,gCu,uC,z9,uB,uA] at hg;obtain⟨hsz,hv,rfl⟩:=hg;have hk:=qhv hv;have hjb:=qkb hv;have two:q58 t=true→_:=fun hj=>by
  have hl:=qx6 hj;have s0:=q3j (t:=t) (k:=0) (by omega);have s1:=q3j (t:=t) (k:=1) (by omega);exact(⟨hl,q16 (k:=0) (by omega),q16 (k:=1) (by omega),q5p hv (j:=0) (by omega),q5p hv (j:=1) (by omega),s0,s1⟩:t.l.length=2∧(D.r (t.l.map eT)).get ((0:Nat):Int)=eT (t.l.getD 0 default)∧(D.r (t.l.map eT)).get ((1:Nat):Int)=eT (t.l.getD 1 default)∧zb (t.l.getD 0 default)=true∧zb (t.l.getD 1 default)=true∧szT (t.l.getD 0 default)<szT t∧szT (t.l.getD 1 default)<szT t)
 simp only[q96,gnZ,gnT,gIs];refine⟨fun h=>?_,fun h=>⟨fun ha=>?_,fun ha=>?_⟩⟩
 ·have hj:q58 t=true:=by rw[q58,h];rfl
  obtain⟨hl,g0,g1,v0,v1,s0,s1⟩:=two hj;have g0:(D.r (t.l.map eT)).get 0=eT (t.l.getD 0 default):=g0;have g1:(D.r (t.l.map eT)).get 1=eT (t.l.getD 1 default):=g1;have hl2:(t.l.length:Int)=2:=by omega
  have hna:¬t.s=q02:=by
   simp only[isT,uT,gnB,gnD] at h;rcases h with h|h<;>(rw[h.1.2];decide)
  have hk3:¬t.k=2:=by omega
  simp only[gnZ,gnT,g0,g1,yu,mT,gCu,if_pos (show szT (t.l.getD 0 default)<N by omega),if_pos (show szT (t.l.getD 1 default)<N by omega),v0,v1,hl2];rw[qpy (t:=t),if_neg hk3,←hjb,if_pos hj,if_neg hna];simp[qbb]
 ·have hj:q58 t=true:=by rw[q58,ha];simp
  obtain⟨hl,g0,g1,v0,v1,s0,s1⟩:=two hj;have g1:(D.r (t.l.map eT)).get 1=eT (t.l.getD 1 default):=g1;have hl2:(t.l.length:Int)=2:=by omega
  have hna:t.s=q02:=by
   simp only[isT,gnB,gnD] at ha;exact ha.1.2
  have hk3:¬t.k=2:=by omega
  simp only[gnZ,gnT,g1,yu,mT,gCu,if_pos (show szT (t.l.getD 1 default)<N by omega),v1,hl2];rw[qpy (t:=t),if_neg hk3,←hjb,if_pos hj,if_pos hna];simp[qbb]
 ·have hj:q58 t=false:=by rw[q58,h,ha];rfl
  rw[qpy,←hjb,hj];by_cases hk2:t.k=2
  ·have hl0:t.l.length=0:=by omega
   simp[isT,hk2,hl0]
  ·have hl0:¬((t.k=2∨t.k=3)∧(t.l.length:Int)=0):=by omega
   rw[if_neg hk2];have:isT t z0i 0=false:=by
    rw[uV];intro q;simp only[isT,gnB,uT,gnD] at q;exact hl0 ⟨q.1.1,q.2⟩
   show[D.b (isT t z0i 0)]=_
   rw[this];rfl
def q07(t:Te):Bool:=zb t&&qkh t
theorem q6n:FOk ye (gTb q07):=qv1 q33 qxv fun ds outs hw hg=>by
 obtain⟨d,r,rfl,hd,rfl⟩:=hw;obtain⟨t,rfl,ht⟩:=wfT hd;simp only[gTb,z9,uA] at hg;subst hg;simp only[qa9,gnZ,gnT,gTb,gCu,q07];cases zb t<;>simp[qbb]
theorem qgy:FOk q0g (gTb q07):=qqe q3i qup fun ds outs hw hg=>by
 obtain⟨d,r,rfl,hd,rfl⟩:=hw;obtain⟨t,rfl,ht⟩:=wfT hd;simp only[gTb,z9,uA] at hg;subst hg;simp only[q97,gnZ,gnT,gTb,gCu,q07];cases zb t<;>simp[qbb]
abbrev zjs:ByteArray:=⟨#[102,97,105,108]⟩
abbrev zkd:ByteArray:=⟨#[92,43]⟩
abbrev zim:ByteArray:=⟨#[111,110,99,101]⟩
def zd4(s:ByteArray)(n:Int):Bool:=decide ((s=zin∨s=zjs∨s=z0i)∧n=0∨(s=q3b∨s=q3s∨s=q02)∧n=2∨(s=zkd∨s=zim)∧n=1)
def qeu:Nat→List Int→List D
 |_,[]=>[]
 |i,v::l=>.a [.i v,.i (i:Nat)]::qeu (i+1) l
def qei(vs:List Int):D:=.mp (qeu 0 vs)
def z7i(d:D):List Int:=d.ms.map fun p=>(p.fld 0).int
theorem zk8:∀(i:Nat)(l:List Int),(qeu i l).map (fun p=>(p.fld 0).int)=l
 |_,[]=>rfl
 |i,v::l=>by rw[qeu,uL,zk8 (i+1) l];rfl
theorem qck(vs:List Int):z7i (qei vs)=vs:=zk8 0 vs
theorem z0d:∀(i:Nat)(l:List Int),(qeu i l).length=l.length
 |_,[]=>rfl
 |i,v::l=>by rw[qeu,uO,z0d (i+1) l];rfl
theorem qky:∀(i:Nat)(l:List Int)(x:Int),mfind (.i x) (qeu i l)=if x∈l then some (.i (i+q47 l x)) else none
 |_,[],x=>by simp[qeu,mfind]
 | i, v :: l, x => by
  rw[qeu,mfind];have e:(D.a [.i v,.i (i:Nat)]).fld 0=.i v:=rfl;have e1:(D.a [.i v,.i (i:Nat)]).fld 1=.i (i:Nat):=rfl;rw[e,e1];by_cases h:v=x
  ·subst h;rw[if_pos rfl,if_pos uJ];unfold q47;rw[if_pos rfl,Int.add_zero]
  ·rw[if_neg (by simpa using h),qky (i+1) l x];by_cases hx:x∈l
   ·have:=(qjn hx).1;rw[if_pos hx,if_pos (uG _ hx)];have e2:q47 (v::l) x=q47 l x+1:=by
     conv=>lhs;unfold q47
     rw[if_neg h,if_neg (by omega)]
    rw[e2]
    congr 2
    push_cast
    omega
   ·rw[if_neg hx,if_neg fun q=>by
     rcases uR.1 q with q|q
     ·exact h q.symm
     ·exact hx q]
theorem z1e:∀(i:Nat)(l:List Int)(x:Int),x∉l→mset (.i x) (.i ((i+l.length:Nat):Int)) (qeu i l)=qeu i (l++[x])
 |i,[],x,_=>rfl
 |i,v::l,x,h=>by
  rw[qeu,mset];have e:(D.a [.i v,.i (i:Nat)]).fld 0=.i v:=rfl;have hv:v≠x:=fun e=>h (by rw[e];exact uJ);rw[e,if_neg (by simpa using hv),uQ,qeu,uO,show i+(l.length+1)=(i+1)+l.length by omega,z1e (i+1) l x fun q=>h (uG _ q)]
theorem z19(vs:List Int)(x:Int):fnD 1 [qei vs,.i x]=.b (decide (x∈vs)):=by
 show D.b (mfind (.i x) (qeu 0 vs)).isSome=_
 rw[qky];by_cases h:x∈vs<;>simp[h]
theorem zbo{vs:List Int}{x:Int}(h:x∈vs):fnD 0 [qei vs,.i x,.i 0]=.i (q47 vs x):=by
 show(mfind (.i x) (qeu 0 vs)).getD (.i 0)=_
 rw[qky,if_pos h];simp
theorem z9a{vs:List Int}{x:Int}(h:x∉vs):fnD 2 [qei vs,.i x,.i (vs.length:Nat)]=qei (vs++[x]):=by
 show D.mp (mset (.i x) (.i (vs.length:Nat)) (qeu 0 vs))=_
 have:=z1e 0 vs x h;rw[Nat.zero_add] at this;rw[this];rfl
theorem qip(vs:List Int):fnD 3 [qei vs]=.i (vs.length:Nat):=by
 show D.i ((qeu 0 vs).length:Nat)=_
 rw[z0d]
def okM(m:D)(n:Nat):Bool:=decide (m=qei (z7i m))&&decide ((z7i m).length+n≤1000000)
def qtq:List D→Option (List D)
 |[t,m]=>if okM m (szT (dT t)) then some [eT (qju (jf (z7i m) (dT t)) (dT t)),qei (jf (z7i m) (dT t))] else none
 |_=>none
theorem qzt{vs W:List Int}{t:Te}{m:List Int}(h:W=jf vs t++m):qju (jf vs t) t=qju W t:=
 qu8 (V:=jf vs t) (fun x hx=>by rw[h,qu5 hx]) t (qtt t vs)
theorem qsk:FOk yx qtq:=q2l (m:=mT) qbw fun N ih=>qob ih fun ds outs hw hg=>by
 obtain⟨d,r,rfl,hd,e,r',rfl,he,rfl⟩:=hw;obtain⟨t,rfl,ht⟩:=wfT hd;simp only[yu,mT,qtq,uC,z9,uB,uA,okM,gnB,gnD] at hg;obtain⟨hsz,⟨hm,hlen⟩,rfl⟩:=hg;generalize z7i e=vs at *;subst hm;have hl:=ht.l;have hs:=z0u t
 have key:∀(x y:X)(V:List Int)(n:Int),V.length+q28 t.l≤1000000→yc V t.l=jf vs t→(n=if t.k=0 then q47 (jf vs t) t.n else t.n)→
   x.ev (evl (ym [(yx,yu mT N qtq)]) [eT t,qei vs])=qei V→y.ev (evl (ym [(yx,yu mT N qtq)]) [eT t,qei vs])=eT (.mk t.k n t.s [])→
   Tree.go (ym [(yx,yu mT N qtq)]) (fun o=>o=[eT (qju (jf vs t) t),qei (jf vs t)]) (.loop 9 2 [(.lit (.i 0)),x,y] (qfa q3t)) [eT t,qei vs] fun _ _=>False:=by
  intro x y V n hV1 hV2 hn hx hy;rw[yp];simp only[qfa,q3t];refine⟨fun st=>∃k:Nat,k≤t.l.length∧st=[.i k,qei (yc V (t.l.take k)),eT (.mk t.k n t.s ((t.l.take k).map (qju (jf vs t))))],fun st=>t.l.length - (st.getD 0 .u).int.toNat,⟨0,uD _,by simp only[X.evs,hx,hy,X.ev];rfl⟩,?_⟩;rintro st - ⟨k,hk,rfl⟩;rw[y3];refine⟨fun hlt=>?_,fun hlt=>?_⟩
  ·simp only[gnZ,gnT] at hlt;have hkl':k<t.l.length:=by omega
   have ha:=q3j hkl';have h1:=q7i (t.l.take k) V;have h2:=qyr hkl';have hok:okM (qei (yc V (t.l.take k))) (szT (t.l.getD k default))=true:=by
    rw[okM,qck,gnB];exact⟨decide_eq_true rfl,decide_eq_true (by omega)⟩
   have hW:∃m,jf vs t=jf (yc V (t.l.take k)) (t.l.getD k default)++m:=by
    rw[←hV2,←qfn hkl'];have e:t.l=t.l.take (k+1)++t.l.drop (k+1):=(uM _ _).symm;obtain⟨m,hm⟩:=qa2 (t.l.drop (k+1)) (yc V (t.l.take (k+1)));refine⟨m,?_⟩
    conv=>lhs;rw[e,qb3]
    exact hm
   obtain⟨m,hm⟩:=hW;simp only[gnZ,gnT,q16 hkl',yu,mT,qtq,qck,hok,if_true,if_pos (show szT (t.l.getD k default)<N by omega),za8,uN];refine⟨⟨by omega,by omega⟩,by omega,⟨by omega,by omega⟩,?_⟩;rw[q1u,if_pos rfl];refine⟨⟨k+1,by omega,?_⟩,?_⟩
   ·rw[jr hkl',qb3,uX,qjr,qzt hm];rfl
   ·simp[D.int];omega
  ·simp only[gnZ,gnT] at hlt⊢;have:k=t.l.length:=by omega
   subst this;rw[uF,hV2,hn,qju,zap]
 rw[q3t,y3];refine⟨fun h=>?_,fun h=>?_⟩
 ·simp only[gnZ,gnT] at h;rw[y3];have hwin:t.n∈jf vs t:=by
   have:=qtt t vs;cases t with
   |mk k n s l=>exact this.1 h
  refine⟨fun hh=>?_,fun hh=>?_⟩
  ·simp only[gnZ,gnT,z19,gnD,Bool.not_eq_true',decide_eq_false_iff_not] at hh;have e1:yc (vs++[t.n]) t.l=jf vs t:=by rw[qdu,if_pos ⟨h,hh⟩]
   have e2:q47 (jf vs t) t.n=vs.length:=by
    obtain⟨m,hm⟩:=qa2 t.l (vs++[t.n]);rw[←e1,hm,qu5 (by simp),qx1 hh]
   rw[y7];refine⟨by simp only[gnZ,gnT,qip];omega,key _ _ (vs++[t.n]) vs.length (by simp only[List.length_append,uO,uS];omega) e1 (by rw[if_pos h,e2]) ?_ ?_⟩
   ·simp only[gnZ,gnT,qip,z9a hh]
   ·simp only[gnZ,gnT,qip,q6c];rfl
  ·simp only[gnZ,gnT,z19,gnD,uP] at hh;have e1:yc vs t.l=jf vs t:=by rw[qdu,if_neg fun q=>q.2 hh]
   have e2:q47 (jf vs t) t.n=q47 vs t.n:=by
    obtain⟨m,hm⟩:=ql1 t vs;rw[hm,qu5 hh]
   refine key _ _ vs (q47 vs t.n) (by omega) e1 (by rw[if_pos h,e2]) ?_ ?_
   ·simp only[gnZ,gnT]
   ·simp only[gnZ,gnT,zbo hh,q6c];rfl
 ·simp only[gnZ,gnT] at h;refine key _ _ vs t.n (by omega) (by rw[qdu,if_neg fun q=>h q.1]) (by rw[if_neg h]) ?_ ?_
  ·simp only[gnZ,gnT]
  ·simp only[gnZ,gnT,q6c];rfl
abbrev Cla:=Te×Te
def eK(c:Cla):D:=.a [eT c.1,eT c.2]
def dK(d:D):Cla:=(dT (d.fld 0),dT (d.fld 1))
theorem qe1(c:Cla):dK (eK c)=c:=by
 show(dT (eT c.1),dT (eT c.2))=c
 rw[z9,z9]
theorem q8v(c:Cla):(eK c).fld 0=eT c.1:=rfl
theorem qc4(c:Cla):(eK c).fld 1=eT c.2:=rfl
theorem zjg(a b:Te):D.a [eT a,eT b]=eK (a,b):=rfl
def zK:Cla:=(zT,zT)
theorem zkj:D.a [eT zT,eT zT]=eK zK:=rfl
theorem zjo:D.a [.a [.i 0,.i 0,.s ⟨#[]⟩,.r []],.a [.i 0,.i 0,.s ⟨#[]⟩,.r []]]=eK zK:=rfl
theorem zh5(a b:Te):D.a (((eK zK).fs.set 0 (eT a)).set 1 (eT b))=eK (a,b):=rfl
theorem wfK{d:D}(h:Wf d zbi):∃c:Cla,d=eK c∧okT c.1∧okT c.2:=by
 obtain⟨ds,rfl,hl⟩:=h.st_of (fs:=[q48,q48]) rfl;obtain⟨a,b,rfl,ha,hb⟩:=z0y hl;obtain⟨x,rfl,hx⟩:=wfT ha;obtain⟨y,rfl,hy⟩:=wfT hb;exact⟨(x,y),rfl,hx,hy⟩
def qkj(c:Cla):Bool:=decide (min (szT c.1:Int) 2001+min (szT c.2:Int) 2001≤2000)
theorem qeq(c:Cla):qkj c=true↔szT c.1+szT c.2≤2000:=by
 have h1:=qg5 c.1;have h2:=qg5 c.2;simp only[qkj,gnD];omega
def gKb(f:Cla→Bool):List D→Option (List D)
 |[c]=>some [.b (f (dK c))]
 |_=>none
theorem qy4:FOk q31 (gKb qkj):=qvg q9o fun ds outs hw hg=>by
 obtain⟨d,r,rfl,hd,rfl⟩:=hw;obtain⟨c,rfl,h1,h2⟩:=wfK hd;simp only[gKb,qe1,uA] at hg;subst hg;simp only[qar,gnZ,gnT,q8v,qc4,gTi,qkj];omega
def q6y(c:Cla):List Int:=yc [] [c.1,c.2]
def qee(c:Cla):Cla:=(qju (q6y c) c.1,qju (q6y c) c.2)
def szK(c:Cla):Nat:=szT c.1+szT c.2
def zbr:List D→Option (List D)
 |[c]=>if szK (dK c)≤10000 then some [eK (qee (dK c)),.i ((q6y (dK c)).length:Nat)] else none
 |_=>none
theorem zgt:D.mp []=qei []:=rfl
theorem qkl:FOk q05 zbr:=qi5 qsk fun ds outs hw hg=>by
 obtain⟨d,r,rfl,hd,rfl⟩:=hw;obtain⟨⟨a,b⟩,rfl,h1,h2⟩:=wfK hd;simp only[zbr,qe1,uB,uA] at hg;obtain⟨hsz,rfl⟩:=hg;have hsz:szT a+szT b≤10000:=hsz;have l1:=qg7 a [];have l2:=qg7 b (jf [] a);simp only[uS] at l1;have o1:okM (qei []) (szT a)=true:=by
  rw[okM,qck,gnB];exact⟨decide_eq_true rfl,decide_eq_true (by simp;omega)⟩
 have o2:okM (qei (jf [] a)) (szT b)=true:=by
  rw[okM,qck,gnB];exact⟨decide_eq_true rfl,decide_eq_true (by omega)⟩
 have ev:q6y (a,b)=jf (jf [] a) b:=rfl;obtain⟨m,hm⟩:=ql1 b (jf [] a);simp only[q5d,gnZ,gnT,q8v,qc4,zgt,qtq,o1,o2,if_true,qck,qip,zjo,zkj,zh5,zi1];refine⟨by omega,?_⟩;rw[qzt hm,qee,ev]
theorem zgw{head g:Te}(h:szT head+szT g≤2000):zbr [D.a [eT head,eT g]]=some [eK (qee (head,g)),.i ((q6y (head,g)).length:Nat)]:=by
 have:szK (head,g)≤10000:=by show szT head+szT g≤10000;omega
 simp only[zbr,zjg,qe1,if_pos this]
theorem zds{h g:Te}(hz:szT h+szT g≤2000):z56 [D.r [eT h,eT g]]=some [.r [eT (qee (h,g)).1,eT (qee (h,g)).2]]:=by
 have:q28 [h,g]≤100000:=by simp only[q28];omega
 have e:([eT h,eT g].map dT)=[h,g]:=by simp[z9]
 simp only[z56,q4g,e,if_pos this];rfl
theorem z8s{h g:Te}(hz:szT h+szT g≤2000):q0q [D.r [eT h,eT g]]=some [eIs (q6y (h,g))]:=by
 have:q28 [h,g]≤100000:=by simp only[q28];omega
 have e:([eT h,eT g].map dT)=[h,g]:=by simp[z9]
 simp only[q0q,q4g,e,if_pos this];rfl
theorem z5h(a b:Te)(h:szT a+szT b≤2000):¬(2000:Int)<min (szT a:Int) 2001+min (szT b:Int) 2001:=by omega
theorem z8n(a b:Te)(h:¬szT a+szT b≤2000):(2000:Int)<min (szT a:Int) 2001+min (szT b:Int) 2001:=by
 have h1:=qg5 a;have h2:=qg5 b;omega
theorem qxo(a b:Te): -9223372036854775808≤min (szT a:Int) 2001+min (szT b:Int) 2001∧min (szT a:Int) 2001+min (szT b:Int) 2001≤9223372036854775807:=by omega
def q03(c:Cla):Bool:=(zb c.1&&qas c.1)&&(qkj c&&(zb c.2&&(decide (jq c.2=some c.2)&&(decide ((q6y c).length≤64)&&decide (qee c=c)))))
theorem qap{t u:Te}(h:zb t=true):q6o u t=decide (u=t):=by
 rw[kF];simp only[q6o,gnB,gnD,qfv];exact⟨fun q=>q.2.2,fun q=>⟨by rw[q];exact h,h,q⟩⟩
theorem z59(c:Cla):decide (qee c=c)=(decide ((qee c).1=c.1)&&decide ((qee c).2=c.2)):=by
 rw[kF];simp only[gnB,gnD];exact⟨fun h=>⟨by rw[h],by rw[h]⟩,fun h=>Prod.ext h.1 h.2⟩
theorem z7b{t:Te}(hv:zb t=true):((q3l t).2&&q6o (q3l t).1 t)=decide (jq t=some t):=by
 rw[qap hv];have hz:=(jg.1 hv).1;simp only[q3l,hv,if_true];cases hb:jq t with
 |none=>simp
 | some u =>
  by_cases h:u=t
  ·subst h;have:¬2000<szT u:=by omega
   simp[this]
  ·by_cases h2:2000<szT u
   ·simp[h2,h]
   ·simp[h2,h]
theorem quk:FOk q20 (gKb q03):=qqn q33 q75 qy4 qdh qdd qkl fun ds outs hw hg=>by
 obtain⟨d,r,rfl,hd,rfl⟩:=hw;obtain⟨c,rfl,-⟩:=wfK hd;simp only[gKb,qe1,uA] at hg;subst hg;have hfo:gKb qkj [eK c]=some [.b (qkj c)]:=by simp only[gKb,qe1]
 cases hv:zb c.1 with
 |false=>simp[q00,gnZ,gnT,q8v,qc4,gTb,hv,q03,hfo]
 | true =>
  cases hc:qas c.1 with
  |false=>simp[q00,gnZ,gnT,q8v,qc4,gTb,hv,hc,q03,hfo]
  | true =>
   cases hf:qkj c with
   |false=>simp[q00,gnZ,gnT,q8v,qc4,gTb,hv,hc,q03,hfo,hf,qbb]
   | true =>
    have hz:=(qeq c).1 hf;have hco:zbr [eK c]=some [eK (qee c),.i ((q6y c).length:Nat)]:=zgw (head:=c.1) (g:=c.2) hz;cases hv2:zb c.2 with
    |false=>
     have:(q3l c.2).2=false:=by simp[q3l,hv2]
     simp[q00,gnZ,gnT,q8v,qc4,gTb,hv,hc,q03,hfo,hf,qbb,qce,this,hv2]
    | true =>
     have hgs:=z7b hv2;cases hg2:(q3l c.2).2 with
     |false=>
      rw[hg2,kG] at hgs;simp[q00,gnZ,gnT,q8v,qc4,gTb,hv,hc,q03,hfo,hf,qbb,qce,hg2,hv2,←hgs]
      all_goals exact fun q=>absurd q (of_decide_eq_false hgs.symm)
     | true =>
      rw[hg2,kI] at hgs;cases hs:q6o (q3l c.2).1 c.2 with
      |false=>
       rw[hs] at hgs;simp[q00,gnZ,gnT,q8v,qc4,gTb,hv,hc,q03,hfo,hf,qbb,qce,hg2,hv2,q6v,hs]
       all_goals exact fun q=>absurd q (of_decide_eq_false hgs.symm)
      | true =>
       rw[hs] at hgs;have hbb:=of_decide_eq_true hgs.symm;by_cases h64:(q6y c).length≤64
       ·have h65:((q6y c).length:Int)≤64:=by omega
        simp[q00,gnZ,gnT,q8v,qc4,gTb,hv,hc,q03,hfo,hf,qbb,qce,hg2,hv2,q6v,hs,hco,h64,h65,hbb,qap hv,qap hv2,z59]
       ·have h65:¬((q6y c).length:Int)≤64:=by omega
        simp[q00,gnZ,gnT,q8v,qc4,gTb,hv,hc,q03,hfo,hf,qbb,qce,hg2,hv2,q6v,hs,hco,h64,h65]
theorem z7f{t:Te}:(!decide (t.k=2)&& !decide (t.k=3))= !qas t:=by simp[qas]
theorem qsm:FOk q1e (gKb q03):=qo8 q3i qct qcf q86 q4v qiy qd1 fun ds outs hw hg=>by
 obtain⟨d,r,rfl,hd,rfl⟩:=hw;obtain⟨c,rfl,-⟩:=wfK hd;simp only[gKb,qe1,uA] at hg;subst hg;cases hv:zb c.1 with
 |false=>simp[q3c,gnZ,gnT,q8v,qc4,gTb,hv,q03]
 | true =>
  cases hv2:zb c.2 with
  |false=>simp[q3c,gnZ,gnT,q8v,qc4,gTb,hv,hv2,q03]
  | true =>
   simp only[q3c,gnZ,gnT,q8v,qc4,gTb,hv,hv2,z7f];cases hc:qas c.1 with
   |false=>simp[gnZ,gnT,hc,q03]
   | true =>
    have hcc:=qyi c.2 hv2;have hz2:=(jg.1 hv2).1;cases hb:jq c.2 with
    |none=>
     rw[hb] at hcc;simp[gnZ,gnT,gCv,hv2,hcc,hc,q03,hb]
    | some u =>
     rw[hb] at hcc;have hs:=qap (u:=u) hv2;by_cases hu:u=c.2
     ·subst hu;by_cases hz:szT c.1+szT c.2≤2000
      ·have hf:=(qeq c).2 hz;have e1:=z8s hz;have e2:=zds hz;by_cases h64:(q6y c).length≤64
       ·have h65:((q6y c).length:Int)≤64:=by omega
        have e3:z1u q39 [D.r [eT (qee c).1,eT (qee c).2],D.r [eT c.1,eT c.2]]=some [.b (q6o (qee c).1 c.1&&q6o (qee c).2 c.2)]:=by
         have q1:([eT (qee c).1,eT (qee c).2].map dT)=[(qee c).1,(qee c).2]:=by simp[z9]
         have q2:([eT c.1,eT c.2].map dT)=[c.1,c.2]:=by simp[z9]
         simp only[z1u,q4g,q1,q2]
         congr 3
         simp only[q39,uO,uS]
         show(decide (0+1+1=0+1+1)&&(kN 2).all _)=_
         rw[show kN 2=[0,1] from rfl];simp
        simp[gnZ,gnT,gCv,hv2,hcc,hc,q03,hb,hv,q6v,hs,gTi,z5h _ _ hz,qxo,e1,e2,q1w,h64,h65,hf,e3,z59,qap hv,qap hv2]
       ·have h65:¬((q6y c).length:Int)≤64:=by omega
        simp[gnZ,gnT,gCv,hv2,hcc,hc,q03,hb,hv,q6v,hs,gTi,z5h _ _ hz,qxo,e1,e2,q1w,h64,h65,hf]
      ·have hf:qkj c=false:=by rw[uV];exact fun q=>hz ((qeq _).1 q)
       simp[gnZ,gnT,gCv,hv2,hcc,hc,q03,hb,hv,q6v,hs,gTi,z8n _ _ hz,qxo,hf]
     ·simp[gnZ,gnT,gCv,hv2,hcc,hc,q03,hb,hv,q6v,hs,hu]
def enV(l:List Int):D:=.mp (l.map fun v=>.a [.i v,.i 1])
theorem z4d:∀(l:List Int)(x:Int),mfind (.i x) (l.map fun v=>D.a [.i v,.i 1])=if x∈l then some (.i 1) else none
 |[],x=>rfl
 | v :: l, x => by
  rw[uL,mfind];have e:(D.a [.i v,.i 1]).fld 0=.i v:=rfl;have e1:(D.a [.i v,.i 1]).fld 1=.i 1:=rfl;rw[e,e1];by_cases h:v=x
  ·subst h;rw[if_pos rfl,if_pos uJ]
  ·rw[if_neg (by simpa using h),z4d l x];by_cases hx:x∈l
   ·rw[if_pos hx,if_pos (uG _ hx)]
   ·rw[if_neg hx,if_neg fun q=>by
     rcases uR.1 q with q|q
     ·exact h q.symm
     ·exact hx q]
theorem z90:∀(l:List Int)(x:Int),x∉l→mset (.i x) (.i 1) (l.map fun v=>D.a [.i v,.i 1])=(l++[x]).map fun v=>D.a [.i v,.i 1]
 |[],x,_=>rfl
 |v::l,x,h=>by
  rw[uL,mset];have e:(D.a [.i v,.i 1]).fld 0=.i v:=rfl;have hv:v≠x:=fun e=>h (by rw[e];exact uJ);rw[e,if_neg (by simpa using hv),z90 l x fun q=>h (uG _ q)];rfl
theorem vget(vs:List Int)(x:Int):fnD 0 [enV vs,.i x,.i 0]=.i (if x∈vs then 1 else 0):=by
 show(mfind (.i x) (vs.map fun v=>D.a [.i v,.i 1])).getD (.i 0)=_
 rw[z4d];by_cases h:x∈vs
 ·rw[if_pos h,if_pos h];rfl
 ·rw[if_neg h,if_neg h];rfl
theorem vput{vs:List Int}{x:Int}(h:x∉vs):fnD 2 [enV vs,.i x,.i 1]=enV (vs++[x]):=by
 show D.mp (mset (.i x) (.i 1) (vs.map fun v=>D.a [.i v,.i 1]))=_
 rw[z90 vs x h];rfl
def okV(m r:D)(n:Nat):Bool:=decide (m=enV (dIs r))&&decide ((dIs r).length+n≤1000000)
def zd3:List D→Option (List D)
 |[t,m,r]=>if okV m r 1 then some (if(dT t).n∈dIs r then[t,m,r] else[t,enV (dIs r++[(dT t).n]),eIs (dIs r++[(dT t).n])]) else none
 |_=>none
theorem qf6:FOk jw zd3:=qp0 fun ds outs hw hg=>by
 obtain⟨d,r,rfl,hd,e,r',rfl,he,f,r'',rfl,hf,rfl⟩:=hw;obtain⟨t,rfl,ht⟩:=wfT hd;obtain⟨vs,rfl,-,-⟩:=z7s qs7 hf;simp only[zd3,z9,q41,uB,uA,okV,gnB,gnD] at hg;obtain⟨⟨rfl,hlen⟩,rfl⟩:=hg;rw[q7e,y3];refine⟨fun hh=>?_,fun hh=>?_⟩
 ·simp only[gnZ,gnT,vget] at hh;have hn:t.n∉vs:=fun q=>by rw[if_pos q] at hh;omega
  rw[if_neg hn];simp only[gnZ,gnT,q1w,vput hn,z1q,and_true];omega
 ·simp only[gnZ,gnT,vget] at hh;have hn:t.n∈vs:=Classical.byContradiction fun q=>by rw[if_neg q] at hh;exact hh rfl
  rw[if_pos hn];simp only[gnZ,gnT]
theorem zbj{t:Te}(h:j4 t=true)(hk:t.k=0):t=.mk 0 t.n ⟨#[]⟩ []:=by
 cases t with
 |mk k n s l=>
  have hk:k=0:=hk;subst hk;rw[j4] at h;simp only[qbt,Te.k,Te.n,Te.s,Te.l,gnB,if_true,gnD] at h;have h1:s=⟨#[]⟩:=of_decide_eq_true h.1.2.2.1;have h2:l=[]:=kJ.1 (by have:=of_decide_eq_true h.1.2.2.2;omega);rw[h1,h2];rfl
theorem zab{t:Te}(h:j4 t=true){k:Nat}(hk:k<t.l.length):j4 (t.l.getD k default)=true:=((q9w t).1 h).2 k hk
theorem z7z{t:Te}(h:j4 t=true)(hk:t.k=0)(vs:List Int):jf vs t=if t.n∈vs then vs else vs++[t.n]:=by
 have hl:t.l=[]:=by rw[zbj h hk];rfl
 rw[qdu,hl,yc];by_cases hn:t.n∈vs
 ·rw[if_neg fun q=>q.2 hn,if_pos hn]
 ·rw[if_pos ⟨hk,hn⟩,if_neg hn]
def zby:List D→Option (List D)
 |[t,m,r]=>if okV m r (szT (dT t))&&j4 (dT t) then some [t,enV (jf (dIs r) (dT t)),eIs (jf (dIs r) (dT t))] else none
 |_=>none
theorem qz8{vs:List Int}{n:Nat}(h:vs.length+n≤1000000):okV (enV vs) (eIs vs) n=true:=by
 rw[okV,q41,gnB];exact⟨decide_eq_true rfl,decide_eq_true h⟩
theorem qok:FOk ji zby:=q2l (m:=mT) qah fun N ih=>ql8 qf6 ih fun ds outs hw hg=>by
 obtain⟨d,r,rfl,hd,e,r',rfl,he,f,r'',rfl,hf,rfl⟩:=hw;obtain⟨t,rfl,ht⟩:=wfT hd;obtain⟨vs,rfl,-,-⟩:=z7s qs7 hf;simp only[yu,mT,zby,uC,z9,q41,uB,uA,okV,gnB,gnD] at hg;obtain⟨hsz,⟨⟨rfl,hlen⟩,hnod⟩,rfl⟩:=hg;have hl:=ht.l;have hs:=z0u t;rw[q64,y3];refine⟨fun h=>?_,fun h=>?_⟩
 ·simp only[gnZ,gnT] at h;have hq:zd3 [eT t,enV vs,eIs vs]=some [eT t,enV (jf vs t),eIs (jf vs t)]:=by
   simp only[zd3,z9,q41,qz8 (vs:=vs) (n:=1) (by omega),if_true];rw[z7z hnod h];by_cases hin:t.n∈vs
   ·rw[if_pos hin,if_pos hin]
   ·rw[if_neg hin,if_neg hin]
  simp only[gnZ,gnT,hq]
 ·simp only[gnZ,gnT] at h;have hV2:yc vs t.l=jf vs t:=by rw[qdu,if_neg fun q=>h q.1]
  rw[yp];refine⟨fun st=>∃k:Nat,k≤t.l.length∧st=[.i k,eT (.mk t.k t.n t.s (t.l.take k)),enV (yc vs (t.l.take k)),eIs (yc vs (t.l.take k))],fun st=>t.l.length - (st.getD 0 .u).int.toNat,⟨0,uD _,by simp only[X.evs,X.ev,evl,uC,uI,zai,z8l,z9i,q6c];rfl⟩,?_⟩;rintro st - ⟨k,hk,rfl⟩;rw[y3];refine⟨fun hlt=>?_,fun hlt=>?_⟩
  ·simp only[gnZ,gnT] at hlt;have hkl':k<t.l.length:=by omega
   have ha:=q3j hkl';have h1:=q7i (t.l.take k) vs;have h2:=qyr hkl';have hno:=zab hnod hkl';have hok:okV (enV (yc vs (t.l.take k))) (eIs (yc vs (t.l.take k))) (szT (t.l.getD k default))=true:=qz8 (by omega);simp only[gnZ,gnT,q16 hkl',yu,mT,zby,q41,hok,hno,kS,if_true,if_pos (show szT (t.l.getD k default)<N by omega),za8,uN];refine⟨⟨by omega,by omega⟩,by omega,⟨by omega,by omega⟩,?_⟩;rw[q1u,if_pos rfl];refine⟨⟨k+1,by omega,?_⟩,?_⟩
   ·rw[jr hkl',qb3,qjr];rfl
   ·simp[D.int];omega
  ·simp only[gnZ,gnT] at hlt⊢;have:k=t.l.length:=by omega
   subst this;rw[uF,hV2];cases t;rfl
def q45(t:Te):List Int:=if zb t then jf [] t else[]
def z1l(f:Te→List Int):List D→Option (List D)
 |[t]=>some [eIs (f (dT t))]
 |_=>none
theorem qk2:FOk q0t (z1l q45):=qva qf6 q33 qok fun ds outs hw hg=>by
 obtain⟨d,r,rfl,hd,rfl⟩:=hw;obtain⟨t,rfl,ht⟩:=wfT hd;simp only[z1l,z9,uA] at hg;subst hg;cases hv:zb t with
 |false=>simp[q6h,gnZ,gnT,gTb,z9,hv,q45,D.tt,eIs]
 | true =>
  have hv':=hv;simp only[zb,gnB,gnD] at hv';have hq:zby [eT t,.mp [],.r []]=some [eT t,enV (jf [] t),eIs (jf [] t)]:=by
   have:okV (.mp []) (.r []) (szT t)=true:=qz8 (vs:=[]) (by simp;omega);simp only[zby,z9,this,hv'.2,kS,if_true];rfl
  simp[q6h,gnZ,gnT,gTb,z9,hv,q45,D.tt,hq]
theorem qg8(t:Te):(q45 t).length≤2000:=by
 unfold q45;split
 ·rename_i h;simp only[zb,gnB,gnD] at h;have:=qg7 t [];simp only[uS] at this;omega
 ·exact uD _
def q1d(n:Int):Te:=if 0≤n∧n≤1099511627776 then .mk 0 n ⟨#[]⟩ [] else zT
def isNum(n:Int):Bool:=decide (0≤n)&&decide (n≤1099511627776)
theorem q5x{n:Int}:isNum n=true↔0≤n∧n≤1099511627776:=by rw[isNum,gnB,gnD,gnD]
def gNb(f:Int→Bool):List D→Option (List D)
 |[n]=>some [.b (f n.int)]
 |_=>none
def gNT(f:Int→Te):List D→Option (List D)
 |[n]=>some [eT (f n.int)]
 |_=>none
theorem qsp:FOk q1g (gNb isNum):=qom fun ds outs hw hg=>by
 obtain⟨d,r,rfl,hd,rfl⟩:=hw;obtain⟨n,rfl,hn⟩:=wfI hd;simp only[gNb,j6,uA] at hg;subst hg;simp only[q7n,gnZ,gnT]
 try rfl
theorem q5u:FOk y8 (gNT q1d):=qy6 qsp fun ds outs hw hg=>by
 obtain⟨d,r,rfl,hd,rfl⟩:=hw;obtain⟨n,rfl,hn⟩:=wfI hd;simp only[gNT,j6,uA] at hg;subst hg;rw[qc3,y7,y3];refine⟨by simp only[gnZ,gnT,gNb],fun h=>?_,fun h=>?_⟩
 ·simp only[gnZ,gnT,gNb] at h;have hn:¬(0≤n∧n≤1099511627776):=fun q=>by
   rw[q5x.2 q] at h;cases h
  rw[q1d,if_neg hn];simp only[gnZ,gnT]
 ·simp only[gnZ,gnT,gNb] at h;have h:isNum n=true:=by simpa using h
  rw[q1d,if_pos (q5x.1 h)];simp only[gnZ,gnT];rfl
def gLL(f:List Te→List Te):List D→Option (List D)
 |[l]=>some [.r ((f (l.rs.map dT)).map eT)]
 |_=>none
theorem q2w:FOk z8 (gLL id):=qek fun ds outs hw hg=>by
 obtain⟨d,r,rfl,hd,rfl⟩:=hw;obtain⟨l,rfl,hl,-⟩:=qib hd;simp only[gLL,q4g,q1t,uA] at hg;subst hg;refine⟨fun h=>?_,fun _=>?_⟩
 ·have h1:(l.map eT:List D)=[]:=h rfl;rw[List.map_eq_nil_iff] at h1;subst h1;rfl
 ·rw[y7];refine⟨by simp only[gnZ,gnT];omega,?_⟩;simp only[gnZ,gnT,id]
structure Pr where
 s:ByteArray
 a:Int
 x:Int
structure FG where
 k:Int
 p:Pr
 l:List Te
 v:Int
structure FC where
 p:Pr
 l:List Te
 g:List FG
instance:Inhabited Pr:=⟨⟨⟨#[]⟩,0,0⟩⟩
instance:Inhabited FG:=⟨⟨0,default,[],0⟩⟩
instance:Inhabited FC:=⟨⟨default,[],[]⟩⟩
def zPr:Pr:=⟨⟨#[]⟩,0,0⟩
def ePr(p:Pr):D:=.a [.s p.s,.i p.a,.i p.x]
def eFG(g:FG):D:=.a [.i g.k,ePr g.p,.r (g.l.map eT),.i g.v]
def eFC(f:FC):D:=.a [ePr f.p,.r (f.l.map eT),.r (f.g.map eFG)]
def dPr(d:D):Pr:=⟨(d.fld 0).str,(d.fld 1).int,(d.fld 2).int⟩
def dFG(d:D):FG:=⟨(d.fld 0).int,dPr (d.fld 1),(d.fld 2).rs.map dT,(d.fld 3).int⟩
def dFC(d:D):FC:=⟨dPr (d.fld 0),(d.fld 1).rs.map dT,(d.fld 2).rs.map dFG⟩
theorem qh(p:Pr):dPr (ePr p)=p:=rfl
theorem qi(g:FG):dFG (eFG g)=g:=by
 show(⟨g.k,dPr (ePr g.p),(g.l.map eT).map dT,g.v⟩:FG)=g
 rw[q1t,qh]
theorem zdt(l:List FG):(l.map eFG).map dFG=l:=by
 rw[kB];have:dFG ∘ eFG=id:=funext fun _=>qi _;rw[this,kD]
theorem qg(f:FC):dFC (eFC f)=f:=by
 show(⟨dPr (ePr f.p),(f.l.map eT).map dT,(f.g.map eFG).map dFG⟩:FC)=f
 rw[q1t,qh,zdt]
theorem qzh(l:List FC):(l.map eFC).map dFC=l:=by
 rw[kB];have:dFC ∘ eFC=id:=funext fun _=>qg _;rw[this,kD]
theorem qp(p:Pr):(ePr p).fld 0=.s p.s:=rfl
theorem qj(p:Pr):(ePr p).fld 1=.i p.a:=rfl
theorem qn(p:Pr):(ePr p).fld 2=.i p.x:=rfl
theorem qt(p:FG):(eFG p).fld 0=.i p.k:=rfl
theorem qr(p:FG):(eFG p).fld 1=ePr p.p:=rfl
theorem qo(p:FG):(eFG p).fld 2=.r (p.l.map eT):=rfl
theorem qm(p:FG):(eFG p).fld 3=.i p.v:=rfl
theorem ql(p:FC):(eFC p).fld 0=ePr p.p:=rfl
theorem qu(p:FC):(eFC p).fld 1=.r (p.l.map eT):=rfl
theorem qk(p:FC):(eFC p).fld 2=.r (p.g.map eFG):=rfl
theorem qc(p q:Pr):(ePr p=ePr q)=(p=q):=propext ⟨fun h=>by rw[←qh p,h,qh],fun h=>h▸rfl⟩
theorem zhj(p q:FG):(eFG p=eFG q)=(p=q):=propext ⟨fun h=>by rw[←qi p,h,qi],fun h=>h▸rfl⟩
theorem qq:D.a [.s ⟨#[]⟩,.i 0,.i 0]=ePr zPr:=rfl
instance:DecidableEq Pr:=fun p q=>decidable_of_iff (ePr p=ePr q) (by rw[qc])
instance:DecidableEq FG:=fun p q=>decidable_of_iff (eFG p=eFG q) (by rw[zhj])
def zij(p:Pr):Prop:=p.s.size≤LIM∧i64 p.a∧i64 p.x
def zdh(g:FG):Prop:=i64 g.k∧zij g.p∧(g.l.length≤2513169434843∧∀t∈g.l,okT t)∧i64 g.v
def zi9(f:FC):Prop:=zij f.p∧(f.l.length≤2513169434843∧∀t∈f.l,okT t)∧(f.g.length≤1954687338211∧∀g∈f.g,zdh g)
theorem z89{d:D}(h:Wf d z2q):∃p:Pr,d=ePr p∧zij p:=by
 obtain⟨ds,rfl,hl⟩:=h.st_of (fs:=[.str,.int .i64,.int .i64]) rfl;obtain⟨d0,r,rfl,h0,hl⟩:=q62 hl;obtain⟨d1,d2,rfl,h1,h2⟩:=z0y hl;obtain⟨s,rfl,hs⟩:=h0.str;obtain⟨k,rfl,hk⟩:=wfI h1;obtain⟨n,rfl,hn⟩:=wfI h2;exact⟨⟨s,k,n⟩,rfl,hs,hk,hn⟩
theorem zkg{d:D}(h:Wf d qi1):∃g:FG,d=eFG g∧zdh g:=by
 obtain⟨ds,rfl,hl⟩:=h.st_of (fs:=[.int .i64,z2q,qc2,.int .i64]) rfl;obtain⟨d0,r,rfl,h0,hl⟩:=q62 hl;obtain⟨d1,r,rfl,h1,hl⟩:=q62 hl;obtain⟨d2,d3,rfl,h2,h3⟩:=z0y hl;obtain⟨k,rfl,hk⟩:=wfI h0;obtain⟨p,rfl,hp⟩:=z89 h1;obtain⟨l,rfl,hl1,hl2⟩:=qib h2;obtain⟨n,rfl,hn⟩:=wfI h3;exact⟨⟨k,p,l,n⟩,rfl,hk,hp,⟨hl1,hl2⟩,hn⟩
theorem zj1{d:D}(h:Wf d qnc):∃l:List FG,d=.r (l.map eFG)∧l.length≤1954687338211∧∀g∈l,zdh g:=by
 obtain⟨l,rfl,h1,h2⟩:=h.row_of (te:=qi1) rfl;obtain⟨m,rfl,h3⟩:=qi3 (e:=eFG) (P:=zdh) fun x hx=>zkg (h2 x hx);have e:LM qi1=1954687338211:=by kernel_rfl
 rw[kE] at h1;exact⟨m,rfl,by omega,h3⟩
theorem qzo{d:D}(h:Wf d z3y):∃f:FC,d=eFC f∧zi9 f:=by
 obtain⟨ds,rfl,hl⟩:=h.st_of (fs:=[z2q,qc2,qnc]) rfl;obtain⟨d0,r,rfl,h0,hl⟩:=q62 hl;obtain⟨d1,d2,rfl,h1,h2⟩:=z0y hl;obtain⟨p,rfl,hp⟩:=z89 h0;obtain⟨l,rfl,hl1,hl2⟩:=qib h1;obtain⟨g,rfl,hg1,hg2⟩:=zj1 h2;exact⟨⟨p,l,g⟩,rfl,hp,⟨hl1,hl2⟩,hg1,hg2⟩
abbrev qer:=Option (List FC)
def eRo:qer→D
 |none=>.u
 |some l=>.r (l.map eFC)
def qdn:qer→List FC
 |none=>[]
 |some l=>l
theorem z48(o:qer):(eRo o).rs=(qdn o).map eFC:=by cases o<;>rfl
theorem z0w{d:D}(h:Wf d qdv):∃o:qer,d=eRo o∧(qdn o).length≤1759218604390∧∀g∈qdn o,zi9 g:=by
 rcases h.rowN with⟨rfl,-⟩|⟨l,te,rfl,hte,h1,h2⟩
 ·exact⟨none,rfl,by simp[qdn],fun g hg=>by cases hg⟩
 obtain rfl:te=z3y:=gnI (hte.symm.trans rfl);obtain⟨m,rfl,h3⟩:=qi3 (e:=eFC) (P:=zi9) fun x hx=>qzo (h2 x hx);have e:LM z3y=1759218604390:=by kernel_rfl
 rw[kE] at h1;exact⟨some m,rfl,by show m.length≤_;omega,h3⟩
def qe7(p:Pr):Bool:=if p.x=0 then decide ((p.s.size:Int)≤100)&&decide (0≤p.a)&&decide (p.a≤8)
 else decide (p.s=⟨#[]⟩)&&decide (1≤p.x)&&decide (p.x≤1099511627776)&&decide (0≤p.a)&&decide (p.a≤4096)
def gPb(f:Pr→Bool):List D→Option (List D)
 |[p]=>some [.b (f (dPr p))]
 |_=>none
theorem qil:FOk q04 (gPb qe7):=qi4 fun ds outs hw hg=>by
 obtain⟨d,r,rfl,hd,rfl⟩:=hw;obtain⟨p,rfl,hp⟩:=z89 hd;simp only[gPb,qh,uA] at hg;subst hg;simp only[q5a,gnZ,gnT,qp,qj,qn,qc,qq,qt,qr,qo,qm,ql,qu,qk,qh,qi,qg,qe7];refine⟨fun h=>?_,fun h=>?_⟩
 ·rw[if_pos h]
 ·rw[if_neg h]
theorem qh7:FOk jx (gPb qe7):=qgj fun ds outs hw hg=>by
 obtain⟨d,r,rfl,hd,rfl⟩:=hw;obtain⟨p,rfl,hp⟩:=z89 hd;simp only[gPb,qh,uA] at hg;subst hg;simp only[q4m,gnZ,gnT,qp,qj,qn,qc,qq,qt,qr,qo,qm,ql,qu,qk,qh,qi,qg,qe7];refine⟨fun h=>?_,fun h=>?_⟩
 ·rw[if_pos h]
 ·rw[if_neg h]
def q0i:Int→List Te→Int×Bool
 |left,[]=>(left,true)
 |left,t::l=>if zb t then(if left - szT t<0 then(left - szT t,false) else q0i (left - szT t) l) else(left,false)
theorem qr0{t:Te}(h:zb t=true):szT t≤2000:=by
 simp only[zb,gnB,gnD] at h;exact h.1
theorem z21:∀{l:List Te}{left:Int},0≤left→(q0i left l).1≤left∧-2000≤(q0i left l).1∧((q0i left l).2=true→0≤(q0i left l).1)
 |[],left,h=>⟨Int.le_refl _,by show -2000≤left;omega,fun _=>h⟩
 | t :: l, left, h => by
  have hp:=qg5 t;unfold q0i;split
  ·rename_i hv;have:=qr0 hv;split
   ·refine⟨?_,?_,fun q=>by cases q⟩
    ·show left - szT t≤left;omega
    ·show -2000≤left - szT t;omega
   ·obtain⟨h1,h2,h3⟩:=z21 (l:=l) (left:=left - szT t) (by omega);exact⟨by omega,h2,h3⟩
  ·refine⟨Int.le_refl _,?_,fun q=>by cases q⟩
   show -2000≤left;omega
theorem qg3{α:Type}[Inhabited α]{l:List α}{k:Nat}(h:k<l.length):l.drop k=l.getD k default::l.drop (k+1):=by
 rw[List.drop_eq_getElem_cons h,gnG,gnK h];rfl
def z4m:List D→Option (List D)
 |[n,l]=>if 0≤n.int∧n.int≤1000000 then some [.b (q0i n.int (l.rs.map dT)).2,.i (q0i n.int (l.rs.map dT)).1] else none
 |_=>none
theorem qzi:FOk q30 z4m:=qvi q33 q9o fun ds outs hw hg=>by
 obtain⟨d,r,rfl,hd,e,r',rfl,he,rfl⟩:=hw;obtain⟨n,rfl,hn⟩:=wfI hd;obtain⟨l,rfl,hl,-⟩:=qib he;simp only[z4m,j6,q4g,q1t,uB,uA] at hg;obtain⟨hn2,rfl⟩:=hg;rw[qa7,yp];refine⟨fun st=>∃(k:Nat)(m:Int),k≤l.length∧st=[.b false,.i k,.i m]∧0≤m∧m≤1000000∧q0i n l=q0i m (l.drop k),fun st=>l.length - (st.getD 1 .u).int.toNat,⟨0,n,uD _,rfl,by omega,by omega,rfl⟩,?_⟩;rintro st - ⟨k,m,hk,rfl,hm0,hm1,hP⟩;rw[y3];refine⟨fun hlt=>?_,fun hlt=>?_⟩
 ·simp only[gnZ,gnT] at hlt;have hkl:k<l.length:=by omega
  rw[qg3 hkl,q0i] at hP;simp only[gnZ,gnT,q16 hkl,gTb,gTi];refine⟨⟨by omega,by omega⟩,fun hv=>?_,fun hv=>?_⟩
  ·have hv:zb (l.getD k default)=false:=by simpa using hv
   rw[if_neg (by rw[hv];decide)] at hP;rw[hP]
  ·have hv:zb (l.getD k default)=true:=by simpa using hv
   have hs:=qr0 hv;rw[if_pos hv] at hP;have e:min (szT (l.getD k default):Int) 2001=szT (l.getD k default):=by omega
   rw[e];refine⟨⟨by omega,by omega⟩,fun hx=>?_,fun hx=>⟨⟨by omega,by omega⟩,?_⟩⟩
   ·rw[if_pos hx] at hP;rw[hP]
   ·rw[if_neg hx] at hP;rw[q1u,if_pos rfl];refine⟨⟨k+1,_,by omega,rfl,by omega,by omega,hP⟩,?_⟩;simp[D.int];omega
 ·simp only[gnZ,gnT] at hlt⊢;have:k=l.length:=by omega
  subst this;rw[uW] at hP;rw[hP];rfl
def qu2:List D→Option (List D)
 |[l,n]=>if 0≤n.int∧n.int≤131072 then some [.i (131072 - (q0i (131072 - n.int) (l.rs.map dT)).1),.b (q0i (131072 - n.int) (l.rs.map dT)).2] else none
 |_=>none
theorem qsv:FOk q1l qu2:=qos q3i q86 fun ds outs hw hg=>by
 obtain⟨d,r,rfl,hd,e,r',rfl,he,rfl⟩:=hw;obtain⟨l,rfl,hl,-⟩:=qib hd;obtain⟨n,rfl,hn⟩:=wfI he;simp only[qu2,j6,q4g,q1t,uB,uA] at hg;obtain⟨hn2,rfl⟩:=hg;rw[q7l,yp];refine⟨fun st=>∃(k:Nat)(m:Int),k≤l.length∧st=[.i 0,.b false,.i m,.i k]∧0≤m∧m≤131072∧q0i (131072 - n) l=q0i (131072 - m) (l.drop k),fun st=>l.length - (st.getD 3 .u).int.toNat,⟨0,n,uD _,rfl,by omega,by omega,rfl⟩,?_⟩;rintro st - ⟨k,m,hk,rfl,hm0,hm1,hP⟩;rw[y3];refine⟨fun hlt=>?_,fun hlt=>?_⟩
 ·simp only[gnZ,gnT] at hlt;have hkl:k<l.length:=by omega
  rw[qg3 hkl,q0i] at hP;simp only[gnZ,gnT,q16 hkl,gTb,gTi];refine⟨⟨by omega,by omega⟩,fun hv=>?_,fun hv=>?_⟩
  ·have hv:zb (l.getD k default)=false:=by simpa using hv
   rw[if_neg (by rw[hv];decide)] at hP;rw[hP]
   congr 2
   omega
  ·have hv:zb (l.getD k default)=true:=by simpa using hv
   have hs:=qr0 hv;rw[if_pos hv] at hP;have e:min (szT (l.getD k default):Int) 2001=szT (l.getD k default):=by omega
   rw[e];refine⟨⟨by omega,by omega,by omega,by omega⟩,fun hx=>?_,fun hx=>⟨⟨by omega,by omega⟩,?_⟩⟩
   ·rw[if_pos (by omega)] at hP;rw[hP]
    congr 2
    omega
   ·rw[if_neg (by omega)] at hP;rw[q1u,if_pos rfl];refine⟨⟨k+1,_,by omega,rfl,by omega,by omega,?_⟩,?_⟩
    ·rw[hP]
     congr 1
     omega
    ·simp[D.int];omega
 ·simp only[gnZ,gnT] at hlt⊢;have:k=l.length:=by omega
  subst this;rw[uW] at hP;rw[hP]
  show _=[D.i (131072 - (131072 - m)),D.b true]
  congr 2
  omega
theorem qd9{α:Type}[Inhabited α](e:α→D){l:List α}{k:Nat}(h:k<l.length):(D.r (l.map e)).get (k:Int)=e (l.getD k default):=by
 show(l.map e).getD k .u=_
 simp[gnG,h]
def qsz(g:FG):Bool:=decide (g.p=zPr)&&decide ((g.l.length:Int)=0)
def q8s(g:FG):Bool:=qsz g&&decide (0≤g.v)&&decide (g.v≤1099511627776)
def q4e(left:Int)(called:Bool)(g:FG):Option (Int×Bool):=
 if g.k=1 then(if qe7 g.p&&decide ((g.l.length:Int)=g.p.a)&&decide (g.v=0)&&(q0i left g.l).2 then some ((q0i left g.l).1,true) else none)
 else if g.k=2 then(if q8s g&& !called then some (left,called) else none)
 else if g.k=3 then(if q8s g then some (left,called) else none)
 else if g.k=4 then(if q8s g then some (left,called) else none)
 else if g.k=5 then(if qsz g&&decide (g.v=0) then some (left,called) else none)
 else none
def q4s:Int→Bool→List FG→Bool
 |_,_,[]=>true
 |left,called,g::l=>match q4e left called g with
  |some (a,b)=>q4s a b l
  |none=>false
def qdy(f:FC):Bool:=(qe7 f.p&&decide ((f.l.length:Int)=f.p.a))&&(q0i 131072 f.l).2
def q0p(f:FC):Bool:=qdy f&&q4s (q0i 131072 f.l).1 false f.g
def gFb(f:FC→Bool):List D→Option (List D)
 |[d]=>some [.b (f (dFC d))]
 |_=>none
theorem qqx{left:Int}{c:Bool}{l:List FG}{k:Nat}(hk:k<l.length){r:Bool}(hP:r=q4s left c (l.drop k))(h:q4e left c (l.getD k default)=none):r=false:=by
 rw[hP,qg3 hk,q4s,h]
theorem qqm{left:Int}{c:Bool}{l:List FG}{k:Nat}(hk:k<l.length){r:Bool}(hP:r=q4s left c (l.drop k)){a:Int}{b:Bool}(h:q4e left c (l.getD k default)=some (a,b)):r=q4s a b (l.drop (k+1)):=by
 rw[hP,qg3 hk,q4s,h]
theorem z4c(left:Int)(l:List Te)(h:0≤left∧left≤131072)(ht:(q0i left l).2=true):0≤(q0i left l).1∧(q0i left l).1≤131072:=by
 obtain⟨h1,h2,h3⟩:=z21 (l:=l) h.1;exact⟨h3 ht,by omega⟩
theorem z4h{left:Int}{l:List Te}(h:0≤left∧left≤131072):z4m [.i left,.r (l.map eT)]=some [.b (q0i left l).2,.i (q0i left l).1]:=by
 simp only[z4m,j6,q4g,q1t,if_pos (show 0≤left∧left≤1000000 by omega)]
theorem qfi(f:Pr→Bool)(p:Pr):gPb f [ePr p]=some [.b (f p)]:=rfl
theorem qv6:FOk q27 (gFb q0p):=qrm qil qzi fun ds outs hw hg=>by
 obtain⟨d,r,rfl,hd,rfl⟩:=hw;obtain⟨f,rfl,hp,⟨hl,-⟩,hgl,hgo⟩:=qzo hd;simp only[gFb,qg,uA] at hg;subst hg;have e131:=z4h (left:=131072) (l:=f.l) (by omega);rw[q9b,y7];refine⟨by simp[gnZ,gnT,qp,qj,qn,qc,qq,qt,qr,qo,qm,ql,qu,qk,qh,qi,qg,qfi,e131],?_⟩;rw[y3];refine⟨fun h=>?_,fun h=>?_⟩
 ·simp only[gnZ,gnT,qp,qj,qn,qc,qq,qt,qr,qo,qm,ql,qu,qk,qh,qi,qg,qfi,e131] at h;have hh:qdy f=false:=by
   unfold qdy;cases h1:qe7 f.p<;>cases h2:decide ((f.l.length:Int)=f.p.a)<;>cases h3:(q0i 131072 f.l).2<;>simp_all
  rw[q0p,hh];simp only[gnZ,gnT,qp,qj,qn,qc,qq,qt,qr,qo,qm,ql,qu,qk,qh,qi,qg,kG]
 ·simp only[gnZ,gnT,qp,qj,qn,qc,qq,qt,qr,qo,qm,ql,qu,qk,qh,qi,qg,qfi,e131] at h;have hh:qdy f=true:=by
   unfold qdy;cases h1:qe7 f.p<;>cases h2:decide ((f.l.length:Int)=f.p.a)<;>cases h3:(q0i 131072 f.l).2<;>simp_all
  rw[q0p,hh,kI];have hh2:=hh;simp only[qdy,gnB] at hh2;obtain⟨⟨q1,q2⟩,q3⟩:=hh2;have hr:=z4c 131072 f.l (by omega) q3;generalize hV:q4s (q0i 131072 f.l).1 false f.g=r;rw[yp];refine⟨fun st=>∃(k:Nat)(c:Bool)(left:Int),k≤f.g.length∧st=[.b c,.b false,.i k,.i left]∧(0≤left∧left≤131072)∧r=q4s left c (f.g.drop k),fun st=>f.g.length - (st.getD 2 .u).int.toNat,⟨0,false,_,uD _,?_,hr,hV.symm⟩,?_⟩
  ·simp[gnZ,gnT,qp,qj,qn,qc,qq,qt,qr,qo,qm,ql,qu,qk,qh,qi,qg,qfi,e131,q1,of_decide_eq_true q2]
  rintro st - ⟨k,c,left,hk,rfl,hleft,hP⟩;rw[y3];refine⟨fun hlt=>?_,fun hlt=>?_⟩
  ·simp only[gnZ,gnT,qp,qj,qn,qc,qq,qt,qr,qo,qm,ql,qu,qk,qh,qi,qg] at hlt;have hkl:k<f.g.length:=by omega
   have hstep:∀a b,q4e left c (f.g.getD k default)=some (a,b)→0≤a∧a≤131072→q1u (fun _ _=>False) 6 (fun st'=>(∃(k:Nat)(c:Bool)(left:Int),k≤f.g.length∧st'=[.b c,.b false,.i k,.i left]∧(0≤left∧left≤131072)∧r=q4s left c (f.g.drop k))∧f.g.length - (st'.getD 2 .u).int.toNat<f.g.length - (k:Int).toNat) 6 [.b b,.b false,.i ((k:Int)+1),.i a]:=fun a b hs ha=>by
    rw[q1u,if_pos rfl];refine⟨⟨k+1,b,a,by omega,rfl,ha,qqm hkl hP hs⟩,?_⟩;simp[D.int];omega
   have hno:q4e left c (f.g.getD k default)=none→r=false:=qqx hkl hP;have arm:∀(C:Bool)(a:Int)(b:Bool),q4e left c (f.g.getD k default)=(if C then some (a,b) else none)→(C=true→0≤a∧a≤131072)→((!C)=true→[D.b false]=[D.b r])∧((!C)=false→(-9223372036854775808≤(k:Int)+1∧(k:Int)+1≤9223372036854775807)∧q1u (fun _ _=>False) 6 (fun st'=>(∃(k:Nat)(c:Bool)(left:Int),k≤f.g.length∧st'=[.b c,.b false,.i k,.i left]∧(0≤left∧left≤131072)∧r=q4s left c (f.g.drop k))∧f.g.length - (st'.getD 2 .u).int.toNat<f.g.length - (k:Int).toNat) 6 [.b b,.b false,.i ((k:Int)+1),.i a]):=fun C a b hs ha=>by
    cases C with
    |true=>exact⟨fun h=>by simp at h,fun _=>⟨⟨by omega,by omega⟩,hstep a b (by rw[hs,if_pos rfl]) (ha rfl)⟩⟩
    |false=>exact⟨fun _=>by rw[hno (by rw[hs];rfl)],fun h=>by simp at h⟩
   clear hstep;simp only[gnZ,gnT,qp,qj,qn,qc,qq,qt,qr,qo,qm,ql,qu,qk,qh,qi,qg,qd9 eFG hkl,qfi];generalize f.g.getD k default=g at *;have eR:=z4h (left:=left) (l:=g.l) hleft;refine⟨⟨by omega,by omega⟩,fun h1=>?_,fun h1=>⟨fun h2=>?_,fun h2=>⟨fun h3=>⟨fun _=>?_,fun q=>absurd h3 q⟩,fun h3=>⟨fun h4=>?_,fun h4=>⟨fun h5=>?_,fun h5=>?_⟩⟩⟩⟩⟩
   ·simp only[eR,kK,kM,qbb,kT,true_and,uC,uI,j6];have q:=arm (qe7 g.p&&decide ((g.l.length:Int)=g.p.a)&&decide (g.v=0)&&(q0i left g.l).2) (q0i left g.l).1 true (by unfold q4e;rw[if_pos h1]) (fun q=>by simp only[gnB] at q;exact z4c left g.l hleft q.2);refine⟨q.1,fun h=>?_⟩;have q2:=q.2 h;have h':(qe7 g.p&&decide ((g.l.length:Int)=g.p.a)&&decide (g.v=0))=true:=by
     simp only[uP,gnB] at h;simp only[gnB];exact h.1
    rw[if_pos h'];exact q2
   ·exact arm (q8s g&& !c) left c (by unfold q4e;rw[if_neg h1,if_pos h2]) fun _=>hleft
   ·exact arm (q8s g) left c (by unfold q4e;rw[if_neg h1,if_neg h2,if_pos h3]) fun _=>hleft
   ·exact arm (q8s g) left c (by unfold q4e;rw[if_neg h1,if_neg h2,if_neg h3,if_pos h4]) fun _=>hleft
   ·exact arm (qsz g&&decide (g.v=0)) left c (by unfold q4e;rw[if_neg h1,if_neg h2,if_neg h3,if_neg h4,if_pos h5]) fun _=>hleft
   ·rw[hno (by unfold q4e;rw[if_neg h1,if_neg h2,if_neg h3,if_neg h4,if_neg h5])]
  ·simp only[gnZ,gnT,qp,qj,qn,qc,qq,qt,qr,qo,qm,ql,qu,qk,qh,qi,qg] at hlt⊢;have:k=f.g.length:=by omega
   subst this;rw[uW] at hP;rw[hP];rfl
theorem z1f{left:Int}{l:List Te}(h:0≤left∧left≤131072):qu2 [.r (l.map eT),.i (131072 - left)]=some [.i (131072 - (q0i left l).1),.b (q0i left l).2]:=by
 have e:(131072:Int) - (131072 - left)=left:=by omega
 simp only[qu2,j6,q4g,q1t,if_pos (show 0≤131072 - left∧131072 - left≤131072 by omega),e]
theorem z8t(g:FG):(decide (g.v<0)||decide (1099511627776<g.v)|| !decide (g.p=zPr)|| !decide ((g.l.length:Int)=0))= !q8s g:=by
 unfold q8s qsz;have e1:decide (g.v<0)= !decide (0≤g.v):=by rw[←decide_not,decide_eq_decide];omega
 have e2:decide (1099511627776<g.v)= !decide (g.v≤1099511627776):=by rw[←decide_not,decide_eq_decide];omega
 rw[e1,e2];cases decide (0≤g.v)<;>cases decide (g.v≤1099511627776)<;>cases decide (g.p=zPr)<;>cases decide ((g.l.length:Int)=0)<;>rfl
theorem qff:FOk jz (gFb q0p):=qph qsv qh7 fun ds outs hw hg=>by
  obtain⟨d,r,rfl,hd,rfl⟩:=hw;obtain⟨f,rfl,hp,⟨hl,-⟩,hgl,hgo⟩:=qzo hd;simp only[gFb,qg,uA] at hg;subst hg;have e131:qu2 [.r (f.l.map eT),.i 0]=some [.i (131072 - (q0i 131072 f.l).1),.b (q0i 131072 f.l).2]:=z1f (left:=131072) (by omega);rw[q80,y7];refine⟨by simp[gnZ,gnT,qp,qj,qn,qc,qq,qt,qr,qo,qm,ql,qu,qk,qh,qi,qg,qfi,e131],?_⟩;rw[y7];refine⟨by simp[gnZ,gnT,qp,qj,qn,qc,qq,qt,qr,qo,qm,ql,qu,qk,qh,qi,qg,qfi,e131],?_⟩;rw[y3];refine⟨fun h=>?_,fun h=>?_⟩
  · simp only[gnZ,gnT,qp,qj,qn,qc,qq,qt,qr,qo,qm,ql,qu,qk,qh,qi,qg,qfi,e131] at h;have hh:qdy f=false:=by
      unfold qdy;cases h1:qe7 f.p<;>cases h2:decide ((f.l.length:Int)=f.p.a)<;>cases h3:(q0i 131072 f.l).2<;>simp_all
    rw[q0p,hh];simp only[gnZ,gnT,qp,qj,qn,qc,qq,qt,qr,qo,qm,ql,qu,qk,qh,qi,qg,kG]
  · simp only[gnZ,gnT,qp,qj,qn,qc,qq,qt,qr,qo,qm,ql,qu,qk,qh,qi,qg,qfi,e131] at h;have hh:qdy f=true:=by
      unfold qdy;cases h1:qe7 f.p<;>cases h2:decide ((f.l.length:Int)=f.p.a)<;>cases h3:(q0i 131072 f.l).2<;>simp_all
    rw[q0p,hh,kI];have hh2:=hh;simp only[qdy,gnB] at hh2;obtain⟨⟨q1,q2⟩,q3⟩:=hh2;have hr:=z4c 131072 f.l (by omega) q3;generalize hV:q4s (q0i 131072 f.l).1 false f.g=r;rw[yp];refine⟨fun st=>∃(k:Nat)(c o:Bool)(left:Int),k≤f.g.length∧st=[.b false,.i (131072 - left),.b o,.b c,.i k]∧(0≤left∧left≤131072)∧r=q4s left c (f.g.drop k),fun st=>f.g.length - (st.getD 4 .u).int.toNat,⟨0,false,(q0i 131072 f.l).2,(q0i 131072 f.l).1,uD _,?_,hr,hV.symm⟩,?_⟩
    · simp only[gnZ,gnT,qp,qj,qn,qc,qq,qt,qr,qo,qm,ql,qu,qk,qh,qi,qg,qfi,e131];rfl
    rintro st - ⟨k,c,o,left,hk,rfl,hleft,hP⟩;rw[y3];refine⟨fun hlt=>?_,fun hlt=>?_⟩
    · simp only[gnZ,gnT,qp,qj,qn,qc,qq,qt,qr,qo,qm,ql,qu,qk,qh,qi,qg] at hlt;have hkl:k<f.g.length:=by omega
      have hstep:∀a b o,q4e left c (f.g.getD k default)=some (a,b)→0≤a∧a≤131072→q1u (fun _ _=>False) 6 (fun st'=>(∃(k:Nat)(c o:Bool)(left:Int),k≤f.g.length∧st'=[.b false,.i (131072 - left),.b o,.b c,.i k]∧(0≤left∧left≤131072)∧r=q4s left c (f.g.drop k))∧f.g.length - (st'.getD 4 .u).int.toNat<f.g.length - (k:Int).toNat) 6 [.b false,.i (131072 - a),.b o,.b b,.i ((k:Int)+1)]:=fun a b o hs ha=>by
        rw[q1u,if_pos rfl];refine⟨⟨k+1,b,o,a,by omega,rfl,ha,qqm hkl hP hs⟩,?_⟩;simp[D.int];omega
      have hno:q4e left c (f.g.getD k default)=none→r=false:=qqx hkl hP;have arm:∀(C:Bool)(a:Int)(b:Bool),q4e left c (f.g.getD k default)=(if C then none else some (a,b))→(C=false→0≤a∧a≤131072)→(C=true→[D.b false]=[D.b r])∧(C=false→(-9223372036854775808≤(k:Int)+1∧(k:Int)+1≤9223372036854775807)∧q1u (fun _ _=>False) 6 (fun st'=>(∃(k:Nat)(c o:Bool)(left:Int),k≤f.g.length∧st'=[.b false,.i (131072 - left),.b o,.b c,.i k]∧(0≤left∧left≤131072)∧r=q4s left c (f.g.drop k))∧f.g.length - (st'.getD 4 .u).int.toNat<f.g.length - (k:Int).toNat) 6 [.b false,.i (131072 - a),.b o,.b b,.i ((k:Int)+1)]):=fun C a b hs ha=>by
        cases C with
        |false=>exact⟨fun h=>by simp at h,fun _=>⟨⟨by omega,by omega⟩,hstep a b o (by rw[hs];rfl) (ha rfl)⟩⟩
        |true=>exact⟨fun _=>by rw[hno (by rw[hs];rfl)],fun h=>by simp at h⟩
      simp only[gnZ,gnT,qp,qj,qn,qc,qq,qt,qr,qo,qm,ql,qu,qk,qh,qi,qg,qd9 eFG hkl,qfi];generalize f.g.getD k default=g at *;have eR:=z1f (left:=left) (l:=g.l) hleft;refine⟨⟨by omega,by omega⟩,fun h1=>?_,fun h1=>⟨fun h2=>⟨fun _=>?_,fun q=>absurd h2 q⟩,fun h2=>⟨fun h3=>⟨fun _=>?_,fun q=>absurd h3 q⟩,fun h3=>⟨fun h4=>?_,fun h4=>⟨fun h5=>?_,fun h5=>?_⟩⟩⟩⟩⟩
      · simp only[eR,kK,kM,qbb,kT,true_and,uC,uI,j6];refine⟨fun h=>?_,fun h=>⟨fun h'=>?_,fun h'=>⟨⟨by omega,by omega⟩,?_⟩⟩⟩
        · rw[hno];unfold q4e;rw[if_pos h1,if_neg];intro q;simp only[gnB,gnD] at q;simp[q] at h
        · rw[hno];unfold q4e;rw[if_pos h1,if_neg];intro q;simp only[gnB,gnD] at q;simp[q] at h'
        · have h':(q0i left g.l).2=true:=by simpa using h'
          refine hstep _ true _ ?_ (z4c left g.l hleft h');unfold q4e;rw[if_pos h1,if_pos];simp only[uZ,uP] at h;simp only[gnB];exact⟨⟨⟨h.1.1,h.1.2⟩,h.2⟩,h'⟩
      · rw[z8t];have q:=arm (!q8s g||(decide (g.k=2)&&c)) left c (by unfold q4e;rw[if_neg h1,if_pos h2,decide_eq_true h2];cases q8s g<;>cases c<;>rfl) fun _=>hleft;exact q
      · rw[z8t];exact arm (!q8s g||(decide (g.k=2)&&c)) left c (by unfold q4e;rw[if_neg h1,if_neg h2,if_pos h3,decide_eq_false h2];cases q8s g<;>cases c<;>rfl) fun _=>hleft
      · rw[z8t];exact arm (!q8s g||(decide (g.k=2)&&c)) left c (by unfold q4e;rw[if_neg h1,if_neg h2,if_neg h3,if_pos h4,decide_eq_false h2];cases q8s g<;>cases c<;>rfl) fun _=>hleft
      · exact arm (!decide (g.v=0)|| !decide (g.p=zPr)|| !decide ((g.l.length:Int)=0)) left c (by unfold q4e qsz;rw[if_neg h1,if_neg h2,if_neg h3,if_neg h4,if_pos h5];cases decide (g.v=0)<;>cases decide (g.p=zPr)<;>cases decide ((g.l.length:Int)=0)<;>rfl) fun _=>hleft
      · rw[hno (by unfold q4e;rw[if_neg h1,if_neg h2,if_neg h3,if_neg h4,if_neg h5])]
    · simp only[gnZ,gnT,qp,qj,qn,qc,qq,qt,qr,qo,qm,ql,qu,qk,qh,qi,qg] at hlt⊢;have:k=f.g.length:=by omega
      subst this;rw[uW] at hP;rw[hP];rfl
end Go.Proofs.Ytbmaffphliignaa
