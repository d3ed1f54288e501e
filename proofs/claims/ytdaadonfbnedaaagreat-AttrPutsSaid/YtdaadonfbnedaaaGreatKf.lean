/-
 Lemmas of the walk and plain laws, put together. No condition.
-/
import Derived.Deep.RegionLaw
import Derived.Lib.AppendZerosOnto
import Derived.Shelf.Spec.SlicesInsert
import Derived.StillTailTactics
import Derived.TacticsInMore
import Derived.Test.YtdaadonfbnedaaaGreatKe
namespace Go.Proofs.YtdaadonfbnedaaaGreat
open Go.RowKit
set_option linter.unusedVariables false
set_option linter.unusedSimpArgs false
set_option maxRecDepth 100000
open _root_.Option.some renaming injEq→uA
open _root_.Option renaming ite_none_right_eq_some→uB,getD_some→kH,map_eq_some_iff→kI,isSome_some→kN
open _root_.List renaming length_map→uC,getElem?_append_left→uD,getD_cons_zero→uE,mem_cons→uI,take_append_drop→uK,drop_eq_getElem_cons→uL,append_assoc→uM,length_append→uN,replicate→uP,pairwise_cons→uR,length_eq_zero_iff→uT,take_length→uW,length_drop→uX,all_eq_true→uY,mem_append→kA,mem_range→kD,getElem?_append_right→kE,pairwise_iff_getElem→kG,length_take→kJ,drop_eq_nil_of_le→kK,length→kM,getD_cons_succ→kO,length_cons→kS,drop_append→kT,cons_append→kU,take_left→kX,map_map→kY,mem_iff_getElem→vC,mem_cons_of_mem→vD,getElem_of_mem→vF,mem_singleton→vG,size_toArray→vI,drop_length→vJ,nil_append→vK,map_id''→vQ,Pairwise→vR,map_set→vW,range→vY
open _root_.Nat renaming zero_le→uF,le_refl→uH,not_lt_zero→kB,le_trans→kC,zero_add→kL,min_def→kV,sub_zero→kZ,sub_self→vA,lt_or_eq_of_le→vH,zero_mul→vX
open _root_.Go.Proofs.Tryz renaming prog→uG,ntmps107→vO,func107→vV
open _root_.Bool renaming and_assoc→uJ,and_eq_false_iff→uV,not_eq_false'→kF,true_and→kQ,not_eq_true'→kR,eq_iff_iff→vL,or_assoc→vS,not_true→vT,false_or→vU
open _root_.And renaming intro→uO
open Builtin renaming copy_→uQ,zeroCells→kP,firstCells→vB
open _root_.Int renaming toNat_natCast→uU,le_refl→kW,ofNat→vZ
open _root_.List.cons renaming inj→uZ
theorem qlj{l m:List D}(hl:l.length=m.length)(h:∀j,j<l.length→l.getD j .u=m.getD j .u):l=m:=by
 refine List.ext_getElem hl fun j h1 h2=>?_
 have:=h j h1
 simpa[gnG,h1,h2] using this
theorem z7b(l:List D)(k:Nat):(D.r l).get (k:Int)=l.getD k .u:=rfl
def eqT:Tree:=(.br (.not (.eq (.len (.tok 0)) (.len (.tok 1)))) (.leaf [(.lit (.b .false))]) (.loop 4 2 [(.lit (.b .false)),(.lit (.i 0))] (.br (.lt (.tok 3) (.len (.tok 0))) (.need [(.le (.lit (.i 0)) (.tok 3)),(.lt (.tok 3) (.len (.tok 1))),(.le (.lit (.i 0)) (.tok 3)),(.lt (.tok 3) (.len (.tok 0)))] (.br (.not (.eq (.get (.tok 0) (.tok 3)) (.get (.tok 1) (.tok 3)))) (.leaf [(.lit (.b .false))]) (.need [(.rng .i64 (.add (.tok 3) (.lit (.i 1))))] (.back 4 [(.tok 2),(.add (.tok 3) (.lit (.i 1)))])))) (.leaf [(.lit (.b .true))]))))
variable{S:Nat→List D→Option (List D)}{R:List D→Prop}{B:Nat→List D→Prop}
theorem zwq{l m:List D}(hl:l.length≤LIM)(hR:R [.b (decide (l=m))]):eqT.go S R [.r l,.r m] B:=by
 simp only[LIM] at hl
 rw[eqT,zd]
 refine⟨fun hx=>?_,fun hx=>?_⟩
 ·have:¬l=m:=fun e=>by subst e;simp[X.ev,evl,D.rs,D.tt] at hx
  rw[decide_eq_false this] at hR
  exact hR
 have hlen:l.length=m.length:=by
  simp[X.ev,evl,D.rs,D.tt] at hx
  omega
 refine qbx l.length (fun j=>decide (l.getD j .u=m.getD j .u)) (v0:=.b false) rfl fun k B' hk hP hB _=>?_
 rw[zd]
 refine⟨fun hlt=>?_,fun hlt=>?_⟩
 ·have hkl:k<l.length:=by simpa[X.ev,evl,D.int,D.rs,D.tt] using hlt
  simp only[gnZ,z7b]
  refine⟨⟨by omega,by omega,by omega,by omega⟩,fun hb=>?_,fun hb=>⟨⟨by omega,by omega⟩,?_⟩⟩
  ·have:¬l=m:=fun e=>by subst e;simp at hb
   rw[decide_eq_false this] at hR
   exact hR
  ·exact hB hkl (by simpa using hb)
 ·have:k=l.length:=by
   have:¬(k<l.length):=by simpa[X.ev,evl,D.int,D.rs,D.tt] using hlt
   omega
  subst this
  have:l=m:=qlj hlen fun j hj=>by simpa using hP j hj
  rw[decide_eq_true this] at hR
  exact hR
def gEq:List D→Option (List D)
 |[a,b]=>some [.b (decide (a=b))]
 |_=>none
def zfm(n:Nat)(d:D):Bool:=decide (d.rs.length≤n)
theorem z9c(n:Nat)(l:List D):(zfm n (.r l)=true)=(l.length≤n):=by simp only[zfm,gnD];rfl
def gCl(n:Nat):List D→Option (List D)
 |[a]=>if zfm n a then some [a] else none
 |_=>none
def clT(n:Nat):Tree:=(.amb (.tok 0) .false (.leaf [(.lit (.r []))]) (.need [(.le (.add (.lit (.i 0)) (.len (.tok 0))) (.lit (.i (n:Nat))))] (.leaf [(.app (.row []) (.tok 0))])))
theorem zj2{l:List D}{n:Nat}(hl:l.length≤n)(hR:R [.r l]):(clT n).go S R [.r l] B:=by
 refine⟨fun h=>?_,fun _=>?_⟩
 ·have:l=[]:=h rfl
  subst this
  exact hR
 ·rw[qj]
  refine⟨by simp only[gnZ];omega,?_⟩
  simpa[q4n,X.evs,X.ev,evl,D.rs] using hR
theorem qg9:FOk q0g (gCl 3518437208780):=qex fun ds outs hw hg=>by
 obtain⟨d,r,rfl,hd,rfl⟩:=hw
 obtain⟨l,te,rfl,-⟩:=hd.row
 simp only[gCl,z9c,uB,uA] at hg
 obtain⟨h1,rfl⟩:=hg
 exact zj2 h1 rfl
def clQ(s:So):Bool:=decide (s.cs.length≤8796093021952)&&(decide (s.ys.length≤5864062014634)&&(decide (s.tr.length≤5864062014634)&&decide (s.wk.length≤3518437208780)))
def qcm:List D→Option (List D)
 |[s]=>if clQ (dS s) then some [eS (dS s)] else none
 |_=>none
theorem z3r{s:So}(hs:s.ok):clQ s=true:=by
 simp only[clQ,gnB,gnD]
 exact⟨hs.cs.1,hs.ys.1,hs.tr.1,hs.wk.1⟩
theorem q6t:FOk zt qcm:=qra fun ds outs hw hg=>by
 obtain⟨d,r,rfl,hd,rfl⟩:=hw
 obtain⟨s,rfl,hs⟩:=wfS hd
 simp only[qcm,qy,uB,uA] at hg
 obtain⟨hq,rfl⟩:=hg
 simp only[clQ,gnB,gnD] at hq
 simp only[q7q,gnZ,eS,D.fs,D.fld]
 simp
 omega
def zbc:List D→Option (List D)
 |[a,b]=>some [.b (decide (a=b))]
 |_=>none
theorem qzm:FOk q21 zbc:=qtv fun ds outs hw hg=>by
 obtain⟨d,r,rfl,hd,e,r',rfl,he,rfl⟩:=hw
 obtain⟨s,rfl,hs⟩:=wfS hd
 obtain⟨t,rfl,ht⟩:=wfS he
 simp only[zbc,uA] at hg
 subst hg
 have hl:=hs.cs.1
 have hl1:=hs.ys.1
 have hl2:=hs.tr.1
 have hl3:=hs.wk.1
 have e0:decide (eS s=eS t)=decide (s=t):=by simp[zhg]
 rw[e0]
 have no:¬s=t→[D.b false]=[D.b (decide (s=t))]:=fun h=>by rw[decide_eq_false h]
 rw[q9g,zd]
 refine⟨fun hx=>?_,fun hx=>?_⟩
 ·refine no fun e=>?_
  subst e
  simp[X.ev,evl,D.tt] at hx
 simp only[gnZ] at hx
 have hx':s.cs.length=t.cs.length∧s.ys.length=t.ys.length∧s.tr.length=t.tr.length∧s.wk.length=t.wk.length∧s.ser=t.ser∧s.mx=t.mx:=by
  simp at hx
  omega
 obtain⟨q1,q2,q3,q4,q5,q6⟩:=hx'
 refine qbx s.cs.length (fun j=>decide ((s.cs.map eC).getD j .u=(t.cs.map eC).getD j .u)) (v0:=.b false) rfl fun k B' hk hP hB _=>?_
 rw[zd]
 refine⟨fun hlt=>?_,fun hlt=>?_⟩
 ·have hkl:k<s.cs.length:=by simpa[X.ev,evl,qf0,D.int,D.rs,D.tt] using hlt
  simp only[gnZ,z7b]
  refine⟨⟨by omega,by omega,by omega,by omega⟩,fun hb=>?_,fun hb=>⟨⟨by omega,by omega⟩,?_⟩⟩
  ·refine no fun e=>?_
   subst e
   simp at hb
  ·exact hB hkl (by simpa only[kF] using hb)
 have hc0:∀j,j<(s.cs.map eC).length→(s.cs.map eC).getD j .u=(t.cs.map eC).getD j .u:=by
  have:k=s.cs.length:=by
   have:¬(k<s.cs.length):=by simpa[X.ev,evl,qf0,D.int,D.rs,D.tt] using hlt
   omega
  subst this
  exact fun j hj=>by simpa only[gnD] using hP j (by simpa using hj)
 refine qbx s.ys.length (fun j=>decide ((s.ys.map eY).getD j .u=(t.ys.map eY).getD j .u)) (v0:=.b false) rfl fun k B' hk hP hB _=>?_
 rw[zd]
 refine⟨fun hlt=>?_,fun hlt=>?_⟩
 ·have hkl:k<s.ys.length:=by simpa[X.ev,evl,z9d,D.int,D.rs,D.tt] using hlt
  simp only[gnZ,z7b]
  refine⟨⟨by omega,by omega,by omega,by omega⟩,fun hb=>?_,fun hb=>⟨⟨by omega,by omega⟩,?_⟩⟩
  ·refine no fun e=>?_
   subst e
   simp at hb
  ·exact hB hkl (by simpa only[kF] using hb)
 have hc1:∀j,j<(s.ys.map eY).length→(s.ys.map eY).getD j .u=(t.ys.map eY).getD j .u:=by
  have:k=s.ys.length:=by
   have:¬(k<s.ys.length):=by simpa[X.ev,evl,z9d,D.int,D.rs,D.tt] using hlt
   omega
  subst this
  exact fun j hj=>by simpa only[gnD] using hP j (by simpa using hj)
 refine qbx s.tr.length (fun j=>decide ((s.tr.map eU).getD j .u=(t.tr.map eU).getD j .u)) (v0:=.b false) rfl fun k B' hk hP hB _=>?_
 rw[zd]
 refine⟨fun hlt=>?_,fun hlt=>?_⟩
 ·have hkl:k<s.tr.length:=by simpa[X.ev,evl,z3w,D.int,D.rs,D.tt] using hlt
  simp only[gnZ,z7b]
  refine⟨⟨by omega,by omega,by omega,by omega⟩,fun hb=>?_,fun hb=>⟨⟨by omega,by omega⟩,?_⟩⟩
  ·refine no fun e=>?_
   subst e
   simp at hb
  ·exact hB hkl (by simpa only[kF] using hb)
 have hc2:∀j,j<(s.tr.map eU).length→(s.tr.map eU).getD j .u=(t.tr.map eU).getD j .u:=by
  have:k=s.tr.length:=by
   have:¬(k<s.tr.length):=by simpa[X.ev,evl,z3w,D.int,D.rs,D.tt] using hlt
   omega
  subst this
  exact fun j hj=>by simpa only[gnD] using hP j (by simpa using hj)
 refine qbx s.wk.length (fun j=>decide ((s.wk.map eW).getD j .u=(t.wk.map eW).getD j .u)) (v0:=.b false) rfl fun k B' hk hP hB _=>?_
 rw[zd]
 refine⟨fun hlt=>?_,fun hlt=>?_⟩
 ·have hkl:k<s.wk.length:=by simpa[X.ev,evl,qxs,D.int,D.rs,D.tt] using hlt
  simp only[gnZ,z7b]
  refine⟨⟨by omega,by omega,by omega,by omega⟩,fun hb=>?_,fun hb=>⟨⟨by omega,by omega⟩,?_⟩⟩
  ·refine no fun e=>?_
   subst e
   simp at hb
  ·exact hB hkl (by simpa only[kF] using hb)
 have hc3:∀j,j<(s.wk.map eW).length→(s.wk.map eW).getD j .u=(t.wk.map eW).getD j .u:=by
  have:k=s.wk.length:=by
   have:¬(k<s.wk.length):=by simpa[X.ev,evl,qxs,D.int,D.rs,D.tt] using hlt
   omega
  subst this
  exact fun j hj=>by simpa only[gnD] using hP j (by simpa using hj)
 have e1:=map_inj (fun _ _=>z4n) (qlj (by simpa using q1) hc0)
 have e2:=map_inj (fun _ _=>qv9) (qlj (by simpa using q2) hc1)
 have e3:=map_inj (fun _ _=>z9k) (qlj (by simpa using q3) hc2)
 have e4:=map_inj (fun _ _=>z9n) (qlj (by simpa using q4) hc3)
 have:s=t:=by cases s;cases t;simp_all
 subst this
 simp[q4n,X.evs,X.ev]
def fnd(nm:ByteArray)(ar:Int):Nat→List Sy→Int
 |_,[]=> -1
 |k,y::l=>if y.name=nm∧y.ar=ar then(k:Int) else fnd nm ar (k+1) l
def q6e(s:So)(nm:ByteArray)(ar:Int):Int:=fnd nm ar 0 s.ys
theorem qhd{α:Type}[Inhabited α]{l:List α}{k:Nat}(h:k<l.length):l.drop k=l.getD k default::l.drop (k+1):=by
 rw[uL h]
 simp[gnG,h]
variable{nm:ByteArray}
theorem z7n{ar:Int}{l:List Sy}{k:Nat}(h:k<l.length):fnd nm ar k (l.drop k)=if(l.getD k default).name=nm∧(l.getD k default).ar=ar then(k:Int) else fnd nm ar (k+1) (l.drop (k+1)):=by
 rw[qhd h]
 rfl
theorem zcd{nm:ByteArray}{ar:Int}:∀(k:Nat)(l:List Sy),fnd nm ar k l= -1∨((k:Int)≤fnd nm ar k l∧fnd nm ar k l<k+l.length)
 |k,[]=>.inl rfl
 | k, y :: l => by
  unfold fnd
  split
  ·exact .inr ⟨kW _,by simp;omega⟩
  ·rcases zcd (nm:=nm) (ar:=ar) (k+1) l with h|⟨h1,h2⟩
   ·exact .inl h
   ·exact .inr ⟨by omega,by simp;omega⟩
def qdo:List D→Option (List D)
 |[s,y]=>some [.i (q6e (dS s) (y.fld 0).str (y.fld 1).int)]
 |_=>none
def zfl:List D→Option (List D)
 |[s,nm,ar]=>some [.i (q6e (dS s) nm.str ar.int)]
 |_=>none
theorem qie:FOk ym qdo:=qtl fun ds outs hw hg=>by
 obtain⟨d,r,rfl,hd,e,r',rfl,he,rfl⟩:=hw
 obtain⟨s,rfl,hs⟩:=wfS hd
 obtain⟨y,rfl,hy⟩:=wfY he
 simp only[qdo,qy,zek,zaw,q1z,yh,uA] at hg
 subst hg
 have hl:=hs.ys.1
 rw[q9j,j3]
 refine⟨fun st=>∃k:Nat,k≤s.ys.length∧st=[.i 0,.i k]∧fnd y.name y.ar k (s.ys.drop k)=q6e s y.name y.ar,fun st=>s.ys.length - (st.getD 1 .u).int.toNat,⟨0,uF _,rfl,rfl⟩,?_⟩
 rintro st - ⟨k,hk,rfl,hf⟩
 simp only[gnZ]
 refine⟨fun hlt=>?_,fun hlt=>?_⟩
 ·have hkn:k<s.ys.length:=by omega
  rw[z7n hkn] at hf
  simp only[q3k eY hkn,z10]
  generalize s.ys.getD k default=z at hf
  refine⟨⟨by omega,by omega⟩,fun he=>?_,fun he=>⟨⟨by omega,by omega⟩,?_⟩⟩
  ·have he':z=y:=by simpa using he
   subst he'
   rw[if_pos ⟨rfl,rfl⟩] at hf
   rw[←hf]
  ·have he':¬z=y:=by simpa using he
   have hne:¬(z.name=y.name∧z.ar=y.ar):=fun h=>he' (by cases z;cases y;simp_all)
   rw[if_neg hne] at hf
   rw[q2r,if_pos rfl]
   refine⟨⟨k+1,hkn,by simp,hf⟩,?_⟩
   simp[D.int]
   omega
 ·have:k=s.ys.length:=by omega
  subst this
  rw[vJ] at hf
  rw[←hf]
  rfl
def qju(nm:ByteArray)(ar:Int):Bool:=decide (100<(nm.size:Int))||(decide (ar<0)||decide (8<ar))
def zoj:List D→Option (List D)
 | [s, nm, ar] => if qju nm.str ar.int then some [.i 0, .i 1, eS (dS s)] else if decide (0 ≤ q6e (dS s) nm.str ar.int) then some [.i (q6e (dS s) nm.str ar.int), .i 0, eS (dS s)]
   else if decide (1048576≤(dS s).ys.length) then some [.i 0,.i 13,eS (dS s)] else some [.i (dS s).ys.length,.i 0,eS {dS s with ys:=(dS s).ys++[⟨nm.str,ar.int⟩]}]
 |_=>none
theorem zsy(s:So)(y:Sy):D.a ((eS s).fs.set 1 (.r (s.ys.map eY++[eY y])))=eS {s with ys:=s.ys++[y]}:=by simp[eS,D.fs]
theorem qp6:FOk zi zoj:=qoh qie fun ds outs hw hg=>by
 obtain⟨d,r,rfl,hd,e,r',rfl,he,f,r2,rfl,hf',rfl⟩:=hw
 obtain⟨s,rfl,hs⟩:=wfS hd
 obtain⟨nm,rfl,hn⟩:=he.str
 obtain⟨ar,rfl,ha⟩:=wfI hf'
 simp only[zoj,qy,q1z,yh] at hg
 have ey:D.a [.s nm,.i ar]=eY ⟨nm,ar⟩:=rfl
 simp only[q7c,gnZ,qdo,ey,zsy]
 cases hb:qju nm ar with
 |true=>
  simp only[hb,if_true,uA] at hg
  subst hg
  have hb':(decide (100<(nm.size:Int))||decide (ar<0)||decide (8<ar))=true:=by rw[vS];exact hb
  rw[hb']
  exact⟨fun _=>rfl,fun h=>(by cases h)⟩
 | false =>
  simp only[hb,gnF,if_false] at hg
  have hb':(decide (100<(nm.size:Int))||decide (ar<0)||decide (8<ar))=false:=by rw[vS];exact hb
  rw[hb']
  refine⟨fun h=>(by cases h),fun _=>⟨fun h0=>?_,fun h0=>⟨fun h1=>?_,fun h1=>?_⟩⟩⟩
  ·rw[if_pos (decide_eq_true h0)] at hg
   exact gnI hg
  ·have h1':1048576≤s.ys.length:=by omega
   rw[if_neg (by simpa using h0),if_pos (decide_eq_true h1')] at hg
   exact gnI hg
  ·have h1':¬1048576≤s.ys.length:=by omega
   rw[if_neg (by simpa using h0),if_neg (by simpa using h1')] at hg
   have:=gnI hg
   subst this
   simp[eS,D.fld,D.fs,D.rs]
   omega
def z54:List D→Option (List D)
 |[s]=>if decide ((dS s).mx≤(dS s).cs.length) then some [eC ⟨0,0⟩,.i 13,eS (dS s)] else if decide ((dS s).cs.length<8796093021952) then some [eC ⟨0,(dS s).cs.length⟩,.i 0,eS {dS s with cs:=(dS s).cs++[⟨0,(dS s).cs.length⟩]}] else none
 |_=>none
theorem z9q(s:So)(y:Ce):D.a ((eS s).fs.set 0 (.r (s.cs.map eC++[eC y])))=eS {s with cs:=s.cs++[y]}:=by simp[eS,D.fs]
theorem qgi:FOk z4 z54:=qq0 fun ds outs hw hg=>by
 obtain⟨d,r,rfl,hd,rfl⟩:=hw
 obtain⟨s,rfl,hs⟩:=wfS hd
 simp only[z54,qy] at hg
 simp only[q7w,gnZ,q3t,z9q]
 refine⟨fun h0=>?_,fun h0=>?_⟩
 ·rw[if_pos (decide_eq_true h0)] at hg
  exact gnI hg
 ·rw[if_neg (by simpa using h0)] at hg
  split at hg
  ·rename_i h1
   have h1:=of_decide_eq_true h1
   have:=gnI hg
   exact⟨by omega,this⟩
  ·cases hg
structure VS(s:So):Prop where
 tag:∀i:Int,inS s i=true→0≤(cellAt s i).t∧(cellAt s i).t≤5
variable{c:Ce}
theorem z3d{s:So}(h:vcR s c=true):c.t=0∨c.t=1∨c.t=2∨c.t=3∨c.t=5:=by
 unfold vcR at h
 by_cases h0:c.t=0
 ·exact .inl h0
 ·by_cases h1:c.t=1
  ·exact .inr (.inl h1)
  ·by_cases h2:c.t=2
   ·exact .inr (.inr (.inl h2))
   ·by_cases h3:c.t=3
    ·exact .inr (.inr (.inr (.inl h3)))
    ·by_cases h5:c.t=5
     ·exact .inr (.inr (.inr (.inr h5)))
     ·simp[h0,h1,h2,h3,h5] at h
theorem qal{s:So}(h:qw s=true):VS s:=by
 simp only[qw,gnB] at h
 refine⟨fun i hi=>?_⟩
 have h1:=ql.1 hi
 have hk:=qul h.2.1 (k:=i.toNat) (by omega)
 rw[show((i.toNat:Nat):Int)=i by omega] at hk
 unfold q5t at hk
 by_cases h4:(cellAt s i).t=4
 ·omega
 ·rw[if_neg h4] at hk
  simp only[gnB] at hk
  have:=z3d hk.1
  omega
theorem VS.tag_in{s:So}(h:VS s)(n:Int):decide (0≤q37 s n)=inS s n:=by
 cases hi:inS s n with
 |true=>
  rw[q1l hi]
  exact decide_eq_true (h.tag n hi).1
 |false=>
  rw[q6w hi]
  decide
theorem VS.vc{s:So}(h:VS s)(c:Ce):vcP s c=vcR s c:=by
 unfold vcP vcR
 rw[h.tag_in]
inductive Te where
 |mk(k n:Int)(s:ByteArray)(l:List Te)
instance:Inhabited Te:=⟨.mk 0 0 ⟨#[]⟩ []⟩
def Te.k:Te→Int|.mk k _ _ _=>k
def Te.n:Te→Int|.mk _ n _ _=>n
def Te.s:Te→ByteArray|.mk _ _ s _=>s
def Te.l:Te→List Te|.mk _ _ _ l=>l
mutual
theorem Te.ind0{P:Te→Prop}(h:∀k n s l,(∀t∈l,P t)→P (.mk k n s l)):∀t,P t
 |.mk k n s l=>h k n s l (Te.inds h l)
theorem Te.inds{P:Te→Prop}(h:∀k n s l,(∀t∈l,P t)→P (.mk k n s l)):∀(l:List Te),∀t∈l,P t
 |[],_,ht=>by cases ht
 |u::l,t,ht=>by
  exact(uI.1 ht).elim (fun e=>e▸Te.ind0 h u) fun h'=>Te.inds h l t h'
end
mutual
def eT:Te→D
 |.mk k n s l=>.a [.i k,.i n,.s s,.r (eTs l)]
def eTs:List Te→List D
 |[]=>[]
 |t::l=>eT t::eTs l
end
theorem zd1:∀l,eTs l=l.map eT
 |[]=>rfl
 |t::l=>by rw[eTs,zd1 l,List.map_cons]
theorem qbz(k n:Int)(s:ByteArray)(l:List Te):eT (.mk k n s l)=.a [.i k,.i n,.s s,.r (l.map eT)]:=by rw[eT,zd1]
mutual
def dT:D→Te
 |.a [.i k,.i n,.s s,.r l]=>.mk k n s (dTs l)
 |_=>.mk 0 0 ⟨#[]⟩ []
def dTs:List D→List Te
 |[]=>[]
 |d::l=>dT d::dTs l
end
mutual
theorem ju:∀t,dT (eT t)=t
 |.mk k n s l=>by simp only[eT,dT,zbp l]
theorem zbp:∀l,dTs (eTs l)=l
 |[]=>rfl
 |t::l=>by simp only[eTs,dTs,ju t,zbp l]
end
variable{t:Te}
theorem zs2{u:Te}(h:eT t=eT u):t=u:=by rw[←ju t,h,ju u]
theorem zpd(t u:Te):(eT t=eT u)=(t=u):=propext ⟨zs2,fun h=>h▸rfl⟩
theorem zse(t:Te):(eT t).fld 0=.i t.k:=by cases t;rfl
theorem zs1(t:Te):(eT t).fld 1=.i t.n:=by cases t;rfl
theorem zq7(t:Te):(eT t).fld 2=.s t.s:=by cases t;rfl
theorem zvc(t:Te):(eT t).fld 3=.r (t.l.map eT):=by cases t;rw[qbz];rfl
theorem znc(k n:Int)(s:ByteArray)(l:List Te)(x:Te):D.a ((eT (.mk k n s l)).fs.set 3 (.r (l.map eT++[eT x])))=eT (.mk k n s (l++[x])):=by
 rw[qbz,qbz]
 simp[D.fs]
def zT:Te:=.mk 0 0 ⟨#[]⟩ []
theorem zvn:D.a [.i 0,.i 0,.s ⟨#[]⟩,.r []]=eT zT:=rfl
theorem gnT:type_of% (uO @ju (uO @zse (uO @zs1 (uO @zq7 (uO @zvc (uO @zpd @zvn)))))):=uO @ju (uO @zse (uO @zs1 (uO @zq7 (uO @zvc (uO @zpd @zvn)))))
mutual
def szT:Te→Nat
 |.mk _ _ _ l=>q3i l+1
def q3i:List Te→Nat
 |[]=>0
 |t::l=>szT t+q3i l
end
theorem zmv(t:Te):1≤szT t:=by cases t;rw[szT];omega
theorem qww:∀{l:List Te},t∈l→szT t≤q3i l
 |u::l,h=>by
  rcases uI.1 h with rfl|h
  ·rw[q3i];omega
  ·have:=qww h;rw[q3i];omega
theorem zkv{u:Te}(h:u∈t.l):szT u<szT t:=by
 cases t
 have:=qww h
 rw[szT]
 exact Nat.lt_succ_of_le this
theorem qg3:∀(l m:List Te),q3i (l++m)=q3i l+q3i m
 |[],m=>by simp[q3i]
 |t::l,m=>by rw[kU,q3i,q3i,qg3 l m];omega
theorem qhb{l:List Te}{k:Nat}(h:k<l.length):q3i (l.take (k+1))=q3i (l.take k)+szT (l.getD k default):=by
 rw[qah h,qg3]
 simp[q3i]
theorem z7u:∀(l:List Te),l.length≤q3i l
 |[]=>uH _
 |t::l=>by have:=z7u l;have:=zmv t;rw[q3i,kS];omega
theorem zos(t:Te):szT t=q3i t.l+1:=by cases t;rw[szT];rfl
mutual
def okT:Te→Prop
 |.mk k n s l=>i64 k∧i64 n∧s.size≤LIM∧l.length≤2513169434843∧zoe l
def zoe:List Te→Prop
 |[]=>True
 |t::l=>okT t∧zoe l
end
theorem z5o:∀{l:List Te},zoe l↔∀t∈l,okT t
 |[]=>⟨fun _ t h=>(by cases h),fun _=>trivial⟩
 |t::l=>by rw[zoe,z5o];simp
theorem zjf{k n:Int}{s:ByteArray}{l:List Te}:okT (.mk k n s l)↔i64 k∧i64 n∧s.size≤LIM∧l.length≤2513169434843∧∀t∈l,okT t:=by rw[okT,z5o]
theorem okT.l(h:okT t):t.l.length≤2513169434843:=by cases t;exact(zjf.1 h).2.2.2.1
theorem zcb(d:D):(Wf d qmg→∃t,d=eT t∧okT t)∧(Wf d qla→∃l:List Te,d=.r (l.map eT)∧l.length≤2513169434843∧∀t∈l,okT t):=by
 have noS:∀{d:D},Wf d qmg→∃l,d=.a l:=fun h=>let ⟨l,e,_⟩:=h.st_of (fs:=[.int .i64,.int .i64,.str,qla]) rfl;⟨l,e⟩
 have noR:∀{d:D},Wf d qla→∃l,d=.r l:=fun h=>let ⟨l,e,_⟩:=h.row_of (te:=qmg) rfl;⟨l,e⟩
 induction d using D.ind with
 |hu=>exact⟨fun h=>(by obtain⟨_,e⟩:=noS h;cases e),fun h=>(by obtain⟨_,e⟩:=noR h;cases e)⟩
 |hi n=>exact⟨fun h=>(by obtain⟨_,e⟩:=noS h;cases e),fun h=>(by obtain⟨_,e⟩:=noR h;cases e)⟩
 |hb n=>exact⟨fun h=>(by obtain⟨_,e⟩:=noS h;cases e),fun h=>(by obtain⟨_,e⟩:=noR h;cases e)⟩
 |hs n=>exact⟨fun h=>(by obtain⟨_,e⟩:=noS h;cases e),fun h=>(by obtain⟨_,e⟩:=noR h;cases e)⟩
 |hm n=>exact⟨fun h=>(by obtain⟨_,e⟩:=noS h;cases e),fun h=>(by obtain⟨_,e⟩:=noR h;cases e)⟩
 |ha l ih=>
  refine⟨fun h=>?_,fun h=>(by obtain⟨_,e⟩:=noR h;cases e)⟩
  obtain⟨ds,e,hl⟩:=h.st_of (fs:=[.int .i64,.int .i64,.str,qla]) rfl
  injection e with e
  subst e
  obtain⟨d0,r,rfl,h0,hl⟩:=qbk hl
  obtain⟨d1,r,rfl,h1,hl⟩:=qbk hl
  obtain⟨d2,d3,rfl,h2,h3⟩:=z7s hl
  obtain⟨k,rfl,hk⟩:=wfI h0
  obtain⟨n,rfl,hn⟩:=wfI h1
  obtain⟨s,rfl,hs⟩:=h2.str
  obtain⟨ts,rfl,h4,h5⟩:=(ih d3 (by simp)).2 h3
  exact⟨.mk k n s ts,(qbz _ _ _ _).symm,zjf.2 ⟨hk,hn,hs,h4,h5⟩⟩
 |hr l ih=>
  refine⟨fun h=>(by obtain⟨_,e⟩:=noS h;cases e),fun h=>?_⟩
  obtain⟨l',e,h1,h2⟩:=h.row_of (te:=qmg) rfl
  injection e with e
  subst e
  obtain⟨m,rfl,h3⟩:=qdx (e:=eT) (P:=okT) fun x hx=>(ih x hx).1 (h2 x hx)
  have e:LM qmg=2513169434843:=by kernel_rfl
  rw[e,uC] at h1
  exact⟨m,rfl,h1,h3⟩
variable{d:D}
theorem wfT(h:Wf d qmg):∃t,d=eT t∧okT t:=(zcb d).1 h
theorem zty(h:Wf d qla):∃l:List Te,d=.r (l.map eT)∧l.length≤2513169434843∧∀t∈l,okT t:=(zcb d).2 h
def q6y(t:Te):Bool:=
 if t.k=0 then decide (0≤t.n)&&(decide (t.n≤1099511627776)&&(decide (t.s=⟨#[]⟩)&&decide ((t.l.length:Int)=0)))
 else if t.k=1 then decide (t.s=⟨#[]⟩)&&decide ((t.l.length:Int)=0)
 else if t.k=2 then decide (t.n=0)&&(decide ((t.s.size:Int)≤100)&&decide ((t.l.length:Int)=0))
 else if t.k=3 then decide (t.n=0)&&(decide ((t.s.size:Int)≤100)&&(decide (1≤(t.l.length:Int))&&decide ((t.l.length:Int)≤8)))
 else false
mutual
def z7:Te→Bool
 |.mk k n s l=>q6y (.mk k n s l)&&jw l
def jw:List Te→Bool
 |[]=>true
 |t::l=>z7 t&&jw l
end
theorem q8x:∀{l:List Te},jw l=true↔∀t∈l,z7 t=true
 |[]=>⟨fun _ t h=>(by cases h),fun _=>rfl⟩
 |t::l=>by rw[jw,gnB,q8x];simp
theorem qt9(t:Te):z7 t=(q6y t&&(vY t.l.length).all fun i=>z7 (t.l.getD i default)):=by
 cases t with
 |mk k n s l=>
  rw[z7]
  congr 1
  rw[vL,q8x,uY]
  refine⟨fun h i hi=>h _ (q5p (kD.1 hi)),fun h t ht=>?_⟩
  obtain⟨i,hi,rfl⟩:=vF ht
  have:=h i (kD.2 hi)
  rwa [show(Te.mk k n s l).l.getD i default=l[i] by simp[Te.l,gnG,gnK hi]] at this
def jb(t:Te):Bool:=decide (szT t≤2000)&&z7 t
mutual
def idT:Te→Te→Bool
 |.mk k n s l,.mk k' n' s' l'=>decide (k=k')&&(decide (n=n')&&(decide (s=s')&&z9m l l'))
def z9m:List Te→List Te→Bool
 |[],[]=>true
 |t::l,u::m=>idT t u&&z9m l m
 |_,_=>false
end
mutual
theorem z3h:∀(t u:Te),idT t u=true↔t=u
 |.mk k n s l,.mk k' n' s' l'=>by simp[idT,z66 l l']
theorem z66:∀(l m:List Te),z9m l m=true↔l=m
 |[],[]=>by simp[z9m]
 |t::l,u::m=>by simp[z9m,z3h t u,z66 l m]
 |[],_::_=>by simp[z9m]
 |_::_,[]=>by simp[z9m]
end
instance:DecidableEq Te:=fun t u=>if h:idT t u=true then .isTrue ((z3h t u).1 h) else .isFalse fun e=>h ((z3h t u).2 e)
def mT(ds:List D):Nat:=szT (dT (ds.getD 0 .u))
def zns:List D→Option (List D)
 |[t,m]=>if 1≤m.int then some [.i (min (szT (dT t):Int) m.int)] else none
 |_=>none
def gTi(f:Te→Int):List D→Option (List D)
 |[t]=>some [.i (f (dT t))]
 |_=>none
def gTb(f:Te→Bool):List D→Option (List D)
 |[t]=>some [.b (f (dT t))]
 |_=>none
def gTT(f:Te→Te):List D→Option (List D)
 |[t]=>some [eT (f (dT t))]
 |_=>none
theorem zwo(k n:Int)(s:ByteArray)(l:List Te):(Te.mk k n s l).l=l:=rfl
theorem qej{l:List Te}{k:Nat}(h:k<l.length):(D.r (l.map eT)).get (k:Int)=eT (l.getD k default):=q3k eT h
theorem qfz{k:Nat}(h:k<t.l.length):szT (t.l.getD k default)<szT t:=zkv (q5p h)
theorem qv7:FOk yv zns:=qc2 (m:=mT) q77 fun N ih=>qe9 ih fun ds outs hw hg=>by
 obtain⟨d,r,rfl,hd,e,r',rfl,he,rfl⟩:=hw
 obtain⟨t,rfl,ht⟩:=wfT hd
 obtain⟨m,rfl,hm⟩:=wfI he
 simp only[q69,mT,zns,uE,ju,yh,uB,uA] at hg
 obtain⟨hsz,h1,rfl⟩:=hg
 have hl:=ht.l
 rw[q4z,j3]
 refine⟨fun st=>∃k:Nat,k≤t.l.length∧st=[.i (min ((q3i (t.l.take k):Int)+1) m),.i k],fun st=>t.l.length - (st.getD 1 .u).int.toNat,⟨0,uF _,by simp[X.evs,X.ev,q3i];omega⟩,?_⟩
 rintro st - ⟨k,hk,rfl⟩
 rw[zd]
 refine⟨fun hlt=>?_,fun hlt=>?_⟩
 ·simp only[gnZ,gnT,gnB] at hlt
  obtain⟨hkl,hlm⟩:=hlt
  have hkl':k<t.l.length:=by omega
  have ha:=qfz hkl'
  have hs:=qhb hkl'
  have hmn:1≤m - min ((q3i (t.l.take k):Int)+1) m:=by omega
  simp only[gnZ,gnT,qej hkl',q69,mT,zns,if_pos hmn,if_pos (show szT (t.l.getD k default)<N by omega)]
  refine⟨⟨by omega,by omega,by omega,by omega⟩,⟨by omega,by omega⟩,?_⟩
  rw[q2r,if_pos rfl]
  refine⟨⟨k+1,by omega,?_⟩,?_⟩
  ·rw[hs]
   simp
   omega
  ·simp[D.int]
   omega
 ·simp only[gnZ,gnT,uV] at hlt
  simp only[gnZ,gnT]
  have hz:=zos t
  have:min ((q3i (t.l.take k):Int)+1) m=min (szT t:Int) m:=by
   rcases hlt with h|h
   ·have:k=t.l.length:=by omega
    subst this
    rw[uW]
    omega
   ·have h2:=qg3 (t.l.take k) (t.l.drop k)
    rw[uK] at h2
    omega
  rw[this]
theorem qxp:FOk q0j (gTi fun t=>min (szT t:Int) 2001):=qgo qv7 fun ds outs hw hg=>by
 obtain⟨d,r,rfl,hd,rfl⟩:=hw
 obtain⟨t,rfl,ht⟩:=wfT hd
 simp only[gTi,ju,uA] at hg
 subst hg
 simp[q62,gnZ,gnT,zns]
theorem qyp:FOk q0k (gTb q6y):=qfh fun ds outs hw hg=>by
 obtain⟨d,r,rfl,hd,rfl⟩:=hw
 obtain⟨t,rfl,ht⟩:=wfT hd
 simp only[gTb,ju,uA] at hg
 subst hg
 simp only[q5w,gnZ,gnT,q6y]
 by_cases h0:t.k=0
 ·simp[h0,uJ]
 ·by_cases h1:t.k=1
  ·simp[h1]
  ·by_cases h2:t.k=2
   ·simp[h2,uJ]
   ·by_cases h3:t.k=3
    ·simp[h3,uJ]
    ·simp[h0,h1,h2,h3]
theorem q6n(t:Te):z7 t=true↔q6y t=true∧∀j,j<t.l.length→z7 (t.l.getD j default)=true:=by
 rw[qt9,gnB,uY]
 simp
theorem qud:FOk yu (gTb z7):=qc2 (m:=mT) q7b fun N ih=>qei qyp ih fun ds outs hw hg=>by
 obtain⟨d,r,rfl,hd,rfl⟩:=hw
 obtain⟨t,rfl,ht⟩:=wfT hd
 simp only[q69,mT,gTb,uE,ju,yh,uB,uA] at hg
 obtain⟨hsz,rfl⟩:=hg
 have hl:=ht.l
 simp only[q4u,gnZ,gnT,gTb]
 refine⟨fun hn=>?_,fun hn=>?_⟩
 ·rw[qt9,show q6y t=false by simpa using hn]
  rfl
 have hn:q6y t=true:=by simpa using hn
 rw[j3]
 refine⟨fun st=>∃k:Nat,k≤t.l.length∧st=[.b false,.i k]∧∀j,j<k→z7 (t.l.getD j default)=true,fun st=>t.l.length - (st.getD 1 .u).int.toNat,⟨0,uF _,rfl,fun j hj=>absurd hj (kB _)⟩,?_⟩
 rintro st - ⟨k,hk,rfl,hP⟩
 rw[zd]
 refine⟨fun hlt=>?_,fun hlt=>?_⟩
 ·simp only[gnZ,gnT] at hlt
  have hkl':k<t.l.length:=by omega
  have ha:=qfz hkl'
  simp only[gnZ,gnT,qej hkl',q69,mT,gTb,if_pos (show szT (t.l.getD k default)<N by omega)]
  refine⟨⟨by omega,by omega⟩,fun hx=>?_,fun hx=>⟨⟨by omega,by omega⟩,?_⟩⟩
  ·have:z7 t=false:=by
    cases hh:z7 t with
    |false=>rfl
    |true=>rw[((q6n t).1 hh).2 k hkl'] at hx;cases hx
   rw[this]
  ·rw[q2r,if_pos rfl]
   refine⟨⟨k+1,by omega,by simp,q2u hP (by simpa using hx)⟩,?_⟩
   simp[D.int]
   omega
 ·simp only[gnZ,gnT] at hlt⊢
  have:k=t.l.length:=by omega
  subst this
  rw[(q6n t).2 ⟨hn,hP⟩]
theorem qvv:FOk j5 (gTb jb):=qed qxp qud fun ds outs hw hg=>by
 obtain⟨d,r,rfl,hd,rfl⟩:=hw
 obtain⟨t,rfl,ht⟩:=wfT hd
 simp only[gTb,ju,uA] at hg
 subst hg
 have e:decide (min (szT t:Int) 2001≤2000)=decide (szT t≤2000):=by rw[decide_eq_decide];omega
 simp[q51,gnZ,gnT,gTi,gTb,jb,e]
def zlq:List D→Option (List D)
 |[t,m]=>if 1≤m.int then some [.i (m.int - min (szT (dT t):Int) m.int)] else none
 |_=>none
theorem qvg:FOk jg zlq:=qc2 (m:=mT) qcb fun N ih=>qr3 ih fun ds outs hw hg=>by
 obtain⟨d,r,rfl,hd,e,r',rfl,he,rfl⟩:=hw
 obtain⟨t,rfl,ht⟩:=wfT hd
 obtain⟨m,rfl,hm⟩:=wfI he
 simp only[q69,mT,zlq,uE,ju,yh,uB,uA] at hg
 obtain⟨hsz,h1,rfl⟩:=hg
 have hl:=ht.l
 rw[q8e,qj]
 refine⟨by simp only[gnZ,gnT];omega,?_⟩
 rw[j3]
 refine⟨fun st=>∃k:Nat,k≤t.l.length∧st=[.i k,.i (m - min ((q3i (t.l.take k):Int)+1) m)],fun st=>t.l.length - (st.getD 0 .u).int.toNat,⟨0,uF _,by simp[X.evs,X.ev,q3i,evl,D.int];omega⟩,?_⟩
 rintro st - ⟨k,hk,rfl⟩
 rw[zd]
 refine⟨fun hlt=>?_,fun hlt=>?_⟩
 ·simp only[gnZ,gnT,gnB] at hlt
  obtain⟨hkl,hlm⟩:=hlt
  have hkl':k<t.l.length:=by omega
  have ha:=qfz hkl'
  have hs:=qhb hkl'
  have hmn:1≤m - min ((q3i (t.l.take k):Int)+1) m:=by omega
  simp only[gnZ,gnT,qej hkl',q69,mT,zlq,if_pos hmn,if_pos (show szT (t.l.getD k default)<N by omega)]
  refine⟨⟨by omega,by omega⟩,⟨by omega,by omega⟩,?_⟩
  rw[q2r,if_pos rfl]
  refine⟨⟨k+1,by omega,?_⟩,?_⟩
  ·rw[hs]
   simp
   omega
  ·simp[D.int]
   omega
 ·simp only[gnZ,gnT,uV] at hlt
  simp only[gnZ,gnT]
  have hz:=zos t
  have:m - min ((q3i (t.l.take k):Int)+1) m=m - min (szT t:Int) m:=by
   rcases hlt with h|h
   ·have:k=t.l.length:=by omega
    subst this
    rw[uW]
    omega
   ·have h2:=qg3 (t.l.take k) (t.l.drop k)
    rw[uK] at h2
    omega
  rw[this]
theorem qdn:FOk q09 (gTi fun t=>min (szT t:Int) 2001):=qxm qvg fun ds outs hw hg=>by
 obtain⟨d,r,rfl,hd,rfl⟩:=hw
 obtain⟨t,rfl,ht⟩:=wfT hd
 simp only[gTi,ju,uA] at hg
 subst hg
 simp[qba,gnZ,gnT,zlq]
 omega
theorem qe3:FOk yg (gTb z7):=qc2 (m:=mT) qec fun N ih=>qxf ih fun ds outs hw hg=>by
 obtain⟨d,r,rfl,hd,rfl⟩:=hw
 obtain⟨t,rfl,ht⟩:=wfT hd
 simp only[q69,mT,gTb,uE,ju,yh,uB,uA] at hg
 obtain⟨hsz,rfl⟩:=hg
 have hl:=ht.l
 have key:∀(x:X),x.ev (evl (qe [(yg,q69 mT N (gTb z7))]) [eT t])=.b (q6y t)→Tree.go (qe [(yg,q69 mT N (gTb z7))]) (fun o=>o=[D.b (z7 t)]) (.loop 12 1 [x,(.lit (.i 0))] (.br (.and (.lt (.tok 2) (.len (.fld (.tok 0) 3))) (.tok 1)) (.need [(.le (.lit (.i 0)) (.tok 2)),(.lt (.tok 2) (.len (.fld (.tok 0) 3))),(.ok 0 [(.get (.fld (.tok 0) 3) (.tok 2))])] (.need [(.rng .i64 (.add (.tok 2) (.lit (.i 1))))] (.back 12 [(.call 0 0 [(.get (.fld (.tok 0) 3) (.tok 2))]),(.add (.tok 2) (.lit (.i 1)))]))) (.leaf [(.tok 1)]))) [eT t] fun _ _=>False:=by
  intro x hx
  rw[j3]
  refine⟨fun st=>∃(k:Nat)(v:Bool),k≤t.l.length∧st=[.b v,.i k]∧(v=true↔q6y t=true∧∀j,j<k→z7 (t.l.getD j default)=true),fun st=>t.l.length - (st.getD 1 .u).int.toNat,⟨0,q6y t,uF _,by simp only[X.evs,hx,X.ev];rfl,by simp⟩,?_⟩
  rintro st - ⟨k,v,hk,rfl,hv⟩
  rw[zd]
  refine⟨fun hlt=>?_,fun hlt=>?_⟩
  ·simp only[gnZ,gnT,gnB] at hlt
   obtain⟨hlt,rfl⟩:=hlt
   have hkl':k<t.l.length:=by omega
   have ha:=qfz hkl'
   simp only[gnZ,gnT,qej hkl',q69,mT,gTb,if_pos (show szT (t.l.getD k default)<N by omega)]
   refine⟨⟨by omega,by omega⟩,⟨by omega,by omega⟩,?_⟩
   rw[q2r,if_pos rfl]
   have hv':=hv.1 rfl
   refine⟨⟨k+1,_,by omega,rfl,⟨fun h=>⟨hv'.1,q2u hv'.2 h⟩,fun h=>h.2 k (Nat.lt_succ_self _)⟩⟩,?_⟩
   simp[D.int]
   omega
  ·simp only[gnZ,gnT,uV] at hlt
   simp only[gnZ,gnT]
   rw[show v=z7 t from ?_]
   cases hvv:v with
   | false =>
    cases hh:z7 t with
    |false=>rfl
    |true=>
     have h2:=(q6n t).1 hh
     rw[hv.2 ⟨h2.1,fun j hj=>h2.2 j (by omega)⟩] at hvv
     cases hvv
   | true =>
    have:k=t.l.length:=by
     rcases hlt with h|h
     ·omega
     ·rw[hvv] at h;cases h
    subst this
    exact((q6n t).2 (hv.1 hvv)).symm
 rw[qar]
 simp only[zd]
 have e0:∀z:Int,(X.eq (.fld (.tok 0) 0) (.lit (.i z))).ev (evl (qe [(yg,q69 mT N (gTb z7))]) [eT t])=.b (decide (t.k=z)):=fun z=>by
  simp only[gnZ,gnT]
 simp only[e0,q5i,gnD,decide_eq_false_iff_not]
 refine⟨fun h=>key _ ?_,fun h0=>⟨fun h=>key _ ?_,fun h1=>⟨fun h=>key _ ?_,fun h2=>⟨fun h=>key _ ?_,fun h3=>key _ ?_⟩⟩⟩⟩
 all_goals simp only[gnZ,gnT,q6y]
 ·simp[h,uJ]
 ·simp[h,uJ]
 ·simp[h,uJ]
 ·have e8:decide (0<(t.l.length:Int))=decide (1≤(t.l.length:Int)):=rfl
  rw[e8]
  simp[h,uJ]
 ·simp[h0,h1,h2,h3]
theorem q8q:FOk yz (gTb jb):=qv2 qdn qe3 fun ds outs hw hg=>by
 obtain⟨d,r,rfl,hd,rfl⟩:=hw
 obtain⟨t,rfl,ht⟩:=wfT hd
 simp only[gTb,ju,uA] at hg
 subst hg
 have e:decide (min (szT t:Int) 2001≤2000)=decide (szT t≤2000):=by rw[decide_eq_decide];omega
 simp[q9w,gnZ,gnT,gTi,gTb,jb,e]
theorem qpg:FOk q0n (gTT id):=qnz fun ds outs hw hg=>by
 obtain⟨d,r,rfl,hd,rfl⟩:=hw
 obtain⟨t,rfl,ht⟩:=wfT hd
 simp only[gTT,ju,uA] at hg
 subst hg
 simp only[q6z,gnZ,gnT,id]
theorem qz8:FOk q07 (gTT id):=qc2 (m:=mT) qd6 fun N ih=>qt8 qpg ih fun ds outs hw hg=>by
 obtain⟨d,r,rfl,hd,rfl⟩:=hw
 obtain⟨t,rfl,ht⟩:=wfT hd
 simp only[q69,mT,gTT,uE,ju,yh,uB,uA] at hg
 obtain⟨hsz,rfl⟩:=hg
 have hl:=ht.l
 rw[q9m,zd]
 refine⟨fun h=>?_,fun h=>?_⟩
 ·simp only[gnZ,gnT,gTT,id]
 rw[j3]
 refine⟨fun st=>∃k:Nat,k≤t.l.length∧st=[.i k,eT (.mk t.k t.n t.s (t.l.take k))],fun st=>t.l.length - (st.getD 0 .u).int.toNat,⟨0,uF _,by simp only[X.evs,X.ev,evl,uE,zse,zs1,zq7,qbz];rfl⟩,?_⟩
 rintro st - ⟨k,hk,rfl⟩
 rw[zd]
 refine⟨fun hlt=>?_,fun hlt=>?_⟩
 ·simp only[gnZ,gnT] at hlt
  have hkl':k<t.l.length:=by omega
  have ha:=qfz hkl'
  simp only[gnZ,gnT,qej hkl',q69,mT,gTT,if_pos (show szT (t.l.getD k default)<N by omega),id,zwo,kJ]
  refine⟨⟨by omega,by omega⟩,by omega,⟨by omega,by omega⟩,?_⟩
  rw[q2r,if_pos rfl]
  refine⟨⟨k+1,by omega,?_⟩,?_⟩
  ·rw[qah hkl',znc]
   rfl
  ·simp[D.int]
   omega
 ·simp only[gnZ,gnT] at hlt⊢
  have:k=t.l.length:=by omega
  subst this
  rw[uW]
  cases t
  rfl
theorem qco:FOk yo (gTT fun t=>if jb t then t else zT):=qw9 q8q qz8 fun ds outs hw hg=>by
 obtain⟨d,r,rfl,hd,rfl⟩:=hw
 obtain⟨t,rfl,ht⟩:=wfT hd
 simp only[gTT,ju,uA] at hg
 subst hg
 simp only[q9k,gnZ,gnT,gTb,gTT,id]
 cases jb t<;>simp
def gSt(f:ByteArray→Te):List D→Option (List D)
 |[s]=>some [eT (f s.str)]
 |_=>none
def q54(s:ByteArray):Te:=if s.size≤100 then .mk 2 0 s [] else zT
theorem q4r:FOk yf (gSt q54):=qyv qco fun ds outs hw hg=>by
 obtain⟨d,r,rfl,hd,rfl⟩:=hw
 obtain⟨s,rfl,hs⟩:=hd.str
 simp only[gSt,q1z,uA] at hg
 subst hg
 have e:D.a ((D.a ([D.i 0,.i 0,.s ⟨#[]⟩,.r []].set 0 (.i 2))).fs.set 2 (.s s))=eT (.mk 2 0 s []):=rfl
 simp only[qbn,gnZ,gnT,gTT,zuf]
 have e2:D.a (((eT zT).fs.set 0 (.i 2)).set 2 (.s s))=eT (.mk 2 0 s []):=rfl
 simp only[e2]
 have:jb (.mk 2 0 s [])=decide (s.size≤100):=by
  rw[vL]
  simp[jb,szT,q3i,z7,jw,q6y,Te.k,Te.n,Te.s,Te.l]
  exact Iff.trans decide_eq_true_iff (Int.ofNat_le (n:=100))
 simp only[ju,this,q54,gnD]
theorem qse{s:So}(h:qw s=true):qgf s=true:=by
 simp only[qw,gnB] at h
 exact h.1
theorem z3k{s:So}(h:qw s=true):q91 s.ys=true:=by
 have:=qse h
 simp only[qgf,gnB] at this
 exact this.2.2.2.2
theorem z40{s:So}(h:qw s=true):s.cs.length≤1048576:=by
 have:=qse h
 simp only[qgf,gnB,gnD] at this
 omega
variable{i:Int}
theorem qds{s:So}(h:qw s=true)(hi:inS s i=true):q5t s i=true:=by
 simp only[qw,gnB] at h
 have h1:=ql.1 hi
 have hk:=qul h.2.1 (k:=i.toNat) (by omega)
 rwa [show((i.toNat:Nat):Int)=i by omega] at hk
theorem z84{s:So}(h:qw s=true)(hi:inS s i=true)(ht:(cellAt s i).t≠4):vcR s (cellAt s i)=true:=by
 have:=qds h hi
 unfold q5t at this
 rw[if_neg ht] at this
 simp only[gnB] at this
 exact this.1
theorem zcv{s:So}(h:qw s=true)(hi:inS s i=true):qoz s i=true:=by
 by_cases ht:(cellAt s i).t=4
 ·exact(En.st (fun hn=>by have:=hn.1;rw[q1l hi] at this;omega)).ends
 ·have:=qds h hi
  unfold q5t at this
  rw[if_neg ht] at this
  simp only[gnB] at this
  exact this.2.1
theorem qb5{s:So}(h:vcR s c=true)(ht:c.t=0):inS s c.n=true∧(cellAt s c.n).t≠4:=by
 unfold vcR at h
 rw[if_pos ht] at h
 simp only[gnB,kR,decide_eq_false_iff_not] at h
 rw[q1l h.1] at h
 exact h
theorem zpe{s:So}(h:qw s=true){n:Int}(hn:Ns s n):inS s (nx s n)=true:=by
 have hi:=hn.inS
 have ht:(cellAt s n).t=0:=by have:=hn.1;rwa [q1l hi] at this
 exact(qb5 (z84 h hi (by omega)) ht).1
theorem zsg{s:So}(h:qw s=true)(hi:inS s i=true)(ht:(cellAt s i).t=4):1≤arS s (cellAt s i).n∧arS s (cellAt s i).n≤8∧∀j:Nat,(j:Int)<arS s (cellAt s i).n→inS s (i+1+j)=true∧vcR s (cellAt s (i+1+j))=true:=by
 have:=qds h hi
 unfold q5t at this
 rw[if_pos ht] at this
 simp only[gnB,gnD,uY,kD,kR,decide_eq_false_iff_not] at this
 obtain⟨h1,h2,h3⟩:=this
 refine⟨h1,(z5h (z3k h) _).2,fun j hj=>?_⟩
 have q:=ql.1 h2
 have q1:=ql.1 hi
 have hin:inS s (i+1+j)=true:=ql.2 ⟨by omega,by omega⟩
 refine⟨hin,z84 h hin ?_⟩
 have:=h3 j (by omega)
 rw[show i+((j:Int)+1)=i+1+j by omega,q1l hin] at this
 exact this
theorem z99{s:So}{n:Int}(h:0≤arS s n):0≤n∧n<s.ys.length∧arS s n=(s.ys.getD n.toNat default).ar:=by
 unfold arS at h⊢
 split at h
 ·rename_i hn
  rw[if_pos hn]
  exact⟨hn.1,hn.2,rfl⟩
 ·omega
def q90(s:So)(n:Int):Sy:=s.ys.getD n.toNat default
theorem z8e{s:So}(hv:∀m,Ns s m→inS s (nx s m)=true):∀(k:Nat)(n:Int),inS s n=true→q3h s (k+1) n=true→q3h s k n=false→∃l:List Int,l.length=k+1∧l.Nodup∧(∀x∈l,inS s x=true)∧∀x∈l,∃j,j≤k∧q3h s (j+1) x=true
 |0,n,hi,h1,_=>⟨[n],rfl,by simp,(fun x hx=>by rw[vG.1 hx];exact hi),fun x hx=>⟨0,uH _,by rw[vG.1 hx];exact h1⟩⟩
 | k + 1, n, hi, h1, h2 => by
  have hn:Ns s n:=Classical.byContradiction fun hn=>by rw[q92 hn] at h2;cases h2
  have h1':=h1
  rw[q4k hn] at h1 h2
  obtain⟨l,e1,e2,e3,e4⟩:=z8e hv k _ (hv n hn) h1 h2
  refine⟨n::l,by simp[e1],?_,fun x hx=>?_,fun x hx=>?_⟩
  ·refine List.nodup_cons.2 ⟨fun hm=>?_,e2⟩
   obtain⟨j,hj,he⟩:=e4 n hm
   rw[q4k hn] at he
   rw[qgh hj he] at h2
   cases h2
  ·rcases uI.1 hx with rfl|hx
   ·exact hi
   ·exact e3 x hx
  ·rcases uI.1 hx with rfl|hx
   ·exact⟨k+1,uH _,h1'⟩
   ·obtain⟨j,hj,he⟩:=e4 x hx
    exact⟨j,by omega,he⟩
theorem qg6{s:So}(h:qw s=true){n:Int}(hi:inS s n=true):q3h s s.cs.length n=true:=by
 cases hk':q3h s s.cs.length n with
 |true=>rfl
 | false =>
  obtain⟨l,e1,e2,e3,-⟩:=z8e (fun m hm=>zpe h hm) s.cs.length n hi (zcv h hi) hk'
  have h1:=qvd s.cs.length (l.map Int.toNat) ?_ ?_
  ·rw[uC,e1] at h1
   omega
  ·refine vR.map _ (fun a b h=>h) ?_
   refine vR.imp_of_mem (R:=fun a b=>a≠b) (fun{a b}ha hb hab e=>hab ?_) e2
   have h1:=ql.1 (e3 a ha)
   have h2:=ql.1 (e3 b hb)
   omega
  ·intro x hx
   obtain⟨a,ha,rfl⟩:=List.mem_map.1 hx
   have h1:=ql.1 (e3 a ha)
   omega
def qad(s:So):Nat→Ce→Ce
 |0,c=>c
 |k+1,c=>if c.t=0∧inS s c.n=true∧cellAt s c.n≠c then qad s k (cellAt s c.n) else c
theorem z4s{s:So}(h:c.t≠0):∀k,qad s k c=c
 |0=>rfl
 |k+1=>if_neg fun q=>h q.1
theorem qvt{s:So}(j:Nat):∀(k:Nat)(n:Int),q3h s k n=true→qad s (k+j) ⟨0,n⟩=qad s k ⟨0,n⟩
 |0,n,h=>by cases h
 | k + 1, n, h => by
  rw[show k+1+j=(k+j)+1 by omega]
  unfold qad
  split
  ·rename_i hc
   by_cases ht:(cellAt s n).t=0
   ·have e:cellAt s n=⟨0,nx s n⟩:=Ce.ext' ht rfl
    have hn:Ns s n:=⟨(q1l hc.2.1).trans ht,fun hn=>hc.2.2 (Ce.ext' ht hn)⟩
    rw[q4k hn] at h
    show qad s (k+j) (cellAt s n)=qad s k (cellAt s n)
    rw[e]
    exact qvt j k _ h
   ·rw[z4s ht,z4s ht]
  ·rfl
def jt(s:So)(c:Ce):Ce:=if vcR s c then qad s (s.cs.length+1) c else⟨0,0⟩
theorem zcs{s:So}(h:qw s=true)(hc:vcR s c=true):qad s s.cs.length c=qad s (s.cs.length+1) c:=by
 by_cases ht:c.t=0
 ·have e:c=⟨0,c.n⟩:=Ce.ext' ht rfl
  rw[e]
  exact(qvt 1 _ _ (qg6 h (qb5 hc ht).1)).symm
 ·rw[z4s ht,z4s ht]
theorem zb7{s:So}(h:qw s=true):∀(k:Nat){c:Ce},vcR s c=true→vcR s (qad s k c)=true
 |0,c,hc=>hc
 | k + 1, c, hc => by
  unfold qad
  split
  ·rename_i q
   exact zb7 h k (z84 h q.2.1 (qb5 hc q.1).2)
  ·exact hc
theorem qa5{s:So}(h:qw s=true)(hc:vcR s c=true):vcR s (jt s c)=true:=by
 rw[jt,if_pos hc]
 exact zb7 h _ hc
def za7:List D→Option (List D)
 |[s,c]=>if qw (dS s) then some [eC (jt (dS s) (dC c))] else none
 |_=>none
theorem zj0:D.a [.i 0,.i 0]=eC ⟨0,0⟩:=rfl
theorem zgx:FOk zm za7:=qen yy qab fun ds outs hw hg=>by
 obtain⟨d,r,rfl,hd,e,r',rfl,he,rfl⟩:=hw
 obtain⟨s,rfl,hs⟩:=wfS hd
 obtain⟨c,rfl,hc⟩:=wfC he
 simp only[za7,qy,yt,uB,uA] at hg
 obtain⟨hv,rfl⟩:=hg
 have hvs:=qal hv
 have hl:=z40 hv
 have hvc:∀c,vcP s c=vcR s c:=hvs.vc
 simp only[q52,gnZ,q65,hvc,zj0]
 refine⟨fun h=>?_,fun h=>?_⟩
 ·simp only[jt,show vcR s c=false by simpa using h]
  rfl
 have hvc':vcR s c=true:=by simpa using h
 rw[j3]
 refine⟨fun st=>∃(k:Nat)(x:Ce),k≤s.cs.length∧st=[.i k,eC x]∧qad s (s.cs.length - k) x=jt s c,fun st=>s.cs.length - (st.getD 0 .u).int.toNat,⟨0,c,uF _,rfl,by rw[kZ,zcs hv hvc',jt,if_pos hvc']⟩,?_⟩
 rintro st - ⟨k,x,hk,rfl,hP⟩
 rw[zd]
 refine⟨fun hlt=>?_,fun hlt=>?_⟩
 ·simp only[gnZ] at hlt
  have hkl:k<s.cs.length:=by omega
  obtain⟨n,hn⟩:∃n,s.cs.length - k=n+1:=⟨s.cs.length - k - 1,by omega⟩
  rw[hn] at hP
  unfold qad at hP
  have hn2:s.cs.length - (k+1)=n:=by omega
  have ht:=hvs.tag_in x.n
  by_cases h0:x.t=0
  ·cases hin:inS s x.n with
   | true =>
    have h3:=ql.1 hin
    rw[hin] at ht
    have ht':¬q37 s x.n<0:=by have:=of_decide_eq_true ht;omega
    simp only[gnZ,qaf,zb hin,h0,ht',h3.1,h3.2]
    refine⟨fun hx=>?_,fun hx=>?_⟩
    ·have hx':cellAt s x.n=x:=by simpa using hx
     rw[if_neg (fun q=>q.2.2 hx')] at hP
     rw[hP]
    ·have hx':cellAt s x.n≠x:=by simpa using hx
     rw[if_pos ⟨h0,hin,hx'⟩] at hP
     refine⟨⟨by omega,by omega⟩,?_⟩
     rw[q2r,if_pos rfl]
     refine⟨⟨k+1,cellAt s x.n,by omega,by simp,by rw[hn2];exact hP⟩,?_⟩
     simp[D.int]
     omega
   |false=>
    rw[hin] at ht
    have ht':q37 s x.n<0:=by have:=of_decide_eq_false ht;omega
    rw[if_neg (fun q=>by rw[hin] at q;cases q.2.1)] at hP
    simp only[gnZ,qaf,h0,ht',←hP]
    simp
  ·rw[if_neg (fun q=>h0 q.1)] at hP
   simp only[gnZ,qaf,h0,←hP]
   simp
 ·simp only[gnZ] at hlt⊢
  have:k=s.cs.length:=by omega
  subst this
  rw[vA] at hP
  rw[←hP,qad]
theorem qg8:FOk jj za7:=qqf ji q3s fun ds outs hw hg=>by
 obtain⟨d,r,rfl,hd,e,r',rfl,he,rfl⟩:=hw
 obtain⟨s,rfl,hs⟩:=wfS hd
 obtain⟨c,rfl,hc⟩:=wfC he
 simp only[za7,qy,yt,uB,uA] at hg
 obtain⟨hv,rfl⟩:=hg
 have hl:=z40 hv
 simp only[q8a,gnZ,q65,zj0]
 refine⟨fun h=>?_,fun h=>?_⟩
 ·simp only[jt,show vcR s c=false by simpa using h]
  rfl
 have hvc':vcR s c=true:=by simpa using h
 rw[j3]
 refine⟨fun st=>∃(k:Nat)(x:Ce),k≤s.cs.length+1∧st=[.i k,eC x]∧qad s (s.cs.length+1 - k) x=jt s c,fun st=>s.cs.length+1 - (st.getD 0 .u).int.toNat,⟨0,c,uF _,rfl,by rw[kZ,jt,if_pos hvc']⟩,?_⟩
 rintro st - ⟨k,x,hk,rfl,hP⟩
 simp only[qj,zd,q4n,z3g]
 by_cases hkl:k≤s.cs.length
 ·obtain⟨n,hn⟩:∃n,s.cs.length+1 - k=n+1:=⟨s.cs.length - k,by omega⟩
  rw[hn] at hP
  unfold qad at hP
  have hn2:s.cs.length+1 - (k+1)=n:=by omega
  have hk':(k:Int)≤s.cs.length:=by omega
  by_cases h0:x.t=0
  ·cases hin:inS s x.n with
   | true =>
    have h3:=ql.1 hin
    simp only[gnZ,qcp,zb hin,h0,h3.1,h3.2,hin,hk']
    refine⟨fun hx=>?_,fun hx=>?_⟩
    ·have hx':cellAt s x.n≠x:=by simpa using hx
     rw[if_pos ⟨h0,hin,hx'⟩] at hP
     refine⟨⟨by omega,by omega⟩,?_⟩
     rw[q2r,if_pos rfl]
     refine⟨⟨k+1,cellAt s x.n,by omega,by simp,by rw[hn2];exact hP⟩,?_⟩
     simp[D.int]
     omega
    ·have hx':cellAt s x.n=x:=by simpa using hx
     rw[if_neg (fun q=>q.2.2 hx')] at hP
     rw[hP]
   |false=>
    rw[if_neg (fun q=>by rw[hin] at q;cases q.2.1)] at hP
    simp only[gnZ,qcp,h0,hin,←hP]
    simp
  ·rw[if_neg (fun q=>h0 q.1)] at hP
   simp only[gnZ,qcp,h0,←hP]
   simp
 ·have:k=s.cs.length+1:=by omega
  subst this
  rw[vA] at hP
  have hk':¬((s.cs.length+1:Nat):Int)≤s.cs.length:=by omega
  simp only[gnZ,hk',←hP,qad]
  simp
theorem qox:FOk q19 (qcp inS):=z53 fun ds outs hw hg=>by
 obtain⟨d,r,rfl,hd,e,r',rfl,he,rfl⟩:=hw
 obtain⟨s,rfl,hs⟩:=wfS hd
 obtain⟨i,rfl,hi⟩:=wfI he
 simp only[qcp,qy,yh,uA] at hg
 subst hg
 simp only[qci,gnZ,inS]
def q1f(c:Ce):Ce:=if c.t=5 then⟨0,c.n⟩ else c
def q5m:List D→Option (List D)
 |[c]=>some [eC (q1f (dC c))]
 |_=>none
theorem qym:FOk q25 q5m:=qva fun ds outs hw hg=>by
 obtain⟨d,r,rfl,hd,rfl⟩:=hw
 obtain⟨c,rfl,hc⟩:=wfC hd
 simp only[q5m,yt,uA] at hg
 subst hg
 simp only[q9c,gnZ,q1f,zph]
 exact⟨fun h=>by rw[if_pos h],fun h=>by rw[if_neg h]⟩
theorem qch:FOk j9 q5m:=qwj fun ds outs hw hg=>by
 obtain⟨d,r,rfl,hd,rfl⟩:=hw
 obtain⟨c,rfl,hc⟩:=wfC hd
 simp only[q5m,yt,uA] at hg
 subst hg
 simp only[q9i,gnZ,q1f,q3t]
 exact⟨fun h=>by rw[if_pos h],fun h=>by rw[if_neg h]⟩
def behind(s:So)(a:Int):Bool:=decide (2≤a)&&decide ((cellAt s (a - 2)).t=5)
def q42(s:So)(a:Int):Bool:=if(cellAt s a).t=0 then decide ((cellAt s a).n=a) else if(cellAt s a).t=5 then true else if(cellAt s a).t=1∨(cellAt s a).t=2∨(cellAt s a).t=3 then behind s a else false
def q40(s:So)(a:Int):Bool:=if(cellAt s a).t=0∨(cellAt s a).t=5 then decide ((cellAt s a).n=a) else behind s a&& !decide ((cellAt s a).t=4)
theorem qki:FOk q02 (q6q inS q42):=qjr fun ds outs hw hg=>by
 obtain⟨d,r,rfl,hd,e,r',rfl,he,rfl⟩:=hw
 obtain⟨s,rfl,hs⟩:=wfS hd
 obtain⟨i,rfl,hi⟩:=wfI he
 simp only[q6q,qy,yh,uB,uA] at hg
 obtain⟨hin,rfl⟩:=hg
 have h1:=ql.1 hin
 have hl:=hs.cs.1
 have hr:i64 (i - 2):=⟨by omega,by omega⟩
 have hr':=q6k.2 hr
 simp only[q5b,gnZ,zb hin,h1,hr,q42,behind,q3t]
 have e0:(D.a [.i 0,.i i])=eC ⟨0,i⟩:=rfl
 by_cases h2:2≤i
 ·have hin2:inS s (i - 2)=true:=ql.2 ⟨by omega,by omega⟩
  have q1:0≤i - 2:=by omega
  have q2:i - 2<s.cs.length:=by omega
  simp only[zb hin2,h2,q1,q2,qnj,qim,hr']
  by_cases c0:(cellAt s i).t=0
  ·have:(cellAt s i=⟨0,i⟩)=((cellAt s i).n=i):=propext ⟨fun e=>by rw[e],fun e=>Ce.ext' c0 e⟩
   simp[c0,this]
  ·by_cases c5:(cellAt s i).t=5
   ·simp[c5]
   ·by_cases c1:(cellAt s i).t=1
    ·simp[c1]
    ·by_cases c2:(cellAt s i).t=2
     ·simp[c2]
     ·by_cases c3:(cellAt s i).t=3
      ·simp[c3]
      ·simp[c0,c1,c2,c3,c5]
 ·simp only[h2]
  by_cases c0:(cellAt s i).t=0
  ·have:(cellAt s i=⟨0,i⟩)=((cellAt s i).n=i):=propext ⟨fun e=>by rw[e],fun e=>Ce.ext' c0 e⟩
   simp[c0,this]
  ·by_cases c5:(cellAt s i).t=5
   ·simp[c5]
   ·by_cases c1:(cellAt s i).t=1
    ·simp[c1]
    ·by_cases c2:(cellAt s i).t=2
     ·simp[c2]
     ·by_cases c3:(cellAt s i).t=3
      ·simp[c3]
      ·simp[c0,c1,c2,c3,c5]
theorem q75:FOk zo (q6q inS q40):=qj1 fun ds outs hw hg=>by
 obtain⟨d,r,rfl,hd,e,r',rfl,he,rfl⟩:=hw
 obtain⟨s,rfl,hs⟩:=wfS hd
 obtain⟨i,rfl,hi⟩:=wfI he
 simp only[q6q,qy,yh,uB,uA] at hg
 obtain⟨hin,rfl⟩:=hg
 have h1:=ql.1 hin
 have hl:=hs.cs.1
 have hr:i64 (i - 2):=⟨by omega,by omega⟩
 have hr':=q6k.2 hr
 simp only[q5g,gnZ,zb hin,h1,hr,q40,behind]
 by_cases h2:2≤i
 ·have hin2:inS s (i - 2)=true:=ql.2 ⟨by omega,by omega⟩
  have q1:0≤i - 2:=by omega
  have q2:i - 2<s.cs.length:=by omega
  simp only[zb hin2,h2,q1,q2,qnj,qim,hr']
  by_cases c0:(cellAt s i).t=0
  ·simp[c0]
  ·by_cases c5:(cellAt s i).t=5
   ·simp[c5]
   ·simp[c0,c5]
 ·simp only[h2]
  by_cases c0:(cellAt s i).t=0
  ·simp[c0]
  ·by_cases c5:(cellAt s i).t=5
   ·simp[c5]
   ·simp[c0,c5]
def q9f(s:So)(a:Int):Nat→Ce→Bool
 |0,_=>false
 |k+1,c=>if c.t=0∧inS s c.n=true then(if c.n=a then true else q9f s a k (cellAt s c.n)) else false
def qcq(s:So)(c:Ce)(a:Int):Bool:=q9f s a (s.cs.length+1) c
theorem qoq{s:So}{a:Int}(h:cellAt s c.n=c)(ha:¬c.n=a):∀k,q9f s a k c=false
 |0=>rfl
 | k + 1 => by
  unfold q9f
  by_cases hc:c.t=0∧inS s c.n=true
  ·rw[if_pos hc,if_neg ha,h]
   exact qoq h ha k
  ·rw[if_neg hc]
def z1e(f:So→Ce→Int→Bool):List D→Option (List D)
 |[s,c,i]=>some [.b (f (dS s) (dC c) i.int)]
 |_=>none
theorem qum:FOk q1a (z1e qcq):=qr4 fun ds outs hw hg=>by
 obtain⟨d,r,rfl,hd,e,r',rfl,he,f,r2,rfl,hf,rfl⟩:=hw
 obtain⟨s,rfl,hs⟩:=wfS hd
 obtain⟨c0,rfl,hc⟩:=wfC he
 obtain⟨a,rfl,ha⟩:=wfI hf
 simp only[z1e,qy,yt,yh,uA] at hg
 subst hg
 have hl:=hs.cs.1
 rw[q81,j3]
 refine⟨fun st=>∃(k:Nat)(c:Ce),k≤s.cs.length+1∧st=[.b false,.i k,eC c]∧q9f s a (s.cs.length+1 - k) c=qcq s c0 a,fun st=>s.cs.length+1 - (st.getD 1 .u).int.toNat,⟨0,c0,uF _,rfl,rfl⟩,?_⟩
 rintro st - ⟨k,c,hk,rfl,hP⟩
 simp only[gnZ]
 have hcond:(decide ((k:Int)≤s.cs.length)&&decide (c.t=0)&&decide (0≤c.n)&&decide (c.n<s.cs.length))=(decide (k≤s.cs.length)&&(decide (c.t=0)&&inS s c.n)):=by
  have:decide ((k:Int)≤s.cs.length)=decide (k≤s.cs.length):=by simp
  rw[this,inS,uJ,uJ]
 rw[hcond]
 refine⟨fun hx=>?_,fun hx=>?_⟩
 ·simp only[gnB,gnD] at hx
  obtain⟨hkl,h0,hin⟩:=hx
  have h1:=ql.1 hin
  have hr:i64 ((k:Int)+1):=⟨by omega,by omega⟩
  obtain⟨n,hn⟩:∃n,s.cs.length+1 - k=n+1:=⟨s.cs.length - k,by omega⟩
  rw[hn] at hP
  unfold q9f at hP
  rw[if_pos ⟨h0,hin⟩] at hP
  simp only[zb hin]
  refine⟨fun hy=>?_,fun hy=>⟨h1,hr,?_⟩⟩
  ·rw[if_pos hy] at hP
   rw[hP]
  ·rw[if_neg hy] at hP
   rw[q2r,if_pos rfl]
   refine⟨⟨k+1,cellAt s c.n,by omega,by simp,by rw[show s.cs.length+1 - (k+1)=n by omega];exact hP⟩,?_⟩
   simp[D.int]
   omega
 ·rw[←hP]
  by_cases hkl:k≤s.cs.length
  ·obtain⟨n,hn⟩:∃n,s.cs.length+1 - k=n+1:=⟨s.cs.length - k,by omega⟩
   rw[hn]
   unfold q9f
   rw[if_neg]
   intro h
   simp[hkl,h.1,h.2] at hx
  ·rw[show s.cs.length+1 - k=0 by omega]
   rfl
theorem qu6:FOk q1c (z1e qcq):=qqn qox fun ds outs hw hg=>by
 obtain⟨d,r,rfl,hd,e,r',rfl,he,f,r2,rfl,hf,rfl⟩:=hw
 obtain⟨s,rfl,hs⟩:=wfS hd
 obtain⟨c0,rfl,hc⟩:=wfC he
 obtain⟨a,rfl,ha⟩:=wfI hf
 simp only[z1e,qy,yt,yh,uA] at hg
 subst hg
 have hl:=hs.cs.1
 rw[q8m,qj]
 refine⟨by simp only[gnZ];omega,?_⟩
 rw[j3]
 refine⟨fun st=>∃(k:Nat)(c:Ce),k≤s.cs.length+1∧st=[.b false,.i k,eC c]∧q9f s a (s.cs.length+1 - k) c=qcq s c0 a,fun st=>s.cs.length+1 - (st.getD 1 .u).int.toNat,⟨0,c0,uF _,rfl,rfl⟩,?_⟩
 rintro st - ⟨k,c,hk,rfl,hP⟩
 simp only[gnZ,qcp]
 refine⟨fun hlt=>?_,fun hlt=>?_⟩
 ·have hkl:k≤s.cs.length:=by omega
  have hr:i64 ((k:Int)+1):=⟨by omega,by omega⟩
  obtain⟨n,hn⟩:∃n,s.cs.length+1 - k=n+1:=⟨s.cs.length - k,by omega⟩
  rw[hn] at hP
  unfold q9f at hP
  refine⟨fun hx=>?_,fun hx=>?_⟩
  ·rw[if_neg] at hP
   ·rw[←hP]
   ·intro h
    simp[h.1,h.2] at hx
  ·have hx':c.t=0∧inS s c.n=true:=by simpa using hx
   have h1:=ql.1 hx'.2
   rw[if_pos hx'] at hP
   simp only[zb hx'.2,zc1]
   refine⟨fun hy=>?_,fun hy=>⟨h1,fun hz=>?_,fun hz=>⟨hr,?_⟩⟩⟩
   ·rw[if_pos hy] at hP
    rw[hP]
   ·rw[if_neg hy,hz,qoq hz hy] at hP
    rw[←hP]
   ·rw[if_neg hy] at hP
    rw[q2r,if_pos rfl]
    refine⟨⟨k+1,cellAt s c.n,by omega,by simp,by rw[show s.cs.length+1 - (k+1)=n by omega];exact hP⟩,?_⟩
    simp[D.int]
    omega
 ·rw[←hP,show s.cs.length+1 - k=0 by omega]
  rfl
def q1q(vc:So→Ce→Bool)(st:So→Int→Bool)(s:So)(a:Int)(c:Ce):Bool:=inS s a&&(vc s c&&(st s a&& !qcq s (q1f c) a))
def zem(s:So)(a:Int)(c:Ce):So:={s with cs:=s.cs.set a.toNat (q1f c),tr:=s.tr++[⟨a,cellAt s a⟩]}
def qr0(vc:So→Ce→Bool)(st:So→Int→Bool):List D→Option (List D)
 |[s,a,c]=>if q1q vc st (dS s) a.int (dC c) then(if decide ((dS s).tr.length<5864062014634) then some [.i 0,eS (zem (dS s) a.int (dC c))] else none) else some [.i 1,eS (dS s)]
 |_=>none
theorem zdb{s:So}{a:Int}:D.a ((D.a ((eS s).fs.set 2 (.r (s.tr.map eU++[.a [.i a,eC (cellAt s a)]])))).fs.set 0 (.r ((s.cs.map eC).set a.toNat (eC (q1f c)))))=eS (zem s a c):=by
 simp[zem,eS,D.fs,eU,vW]
theorem zf9{s:So}{x:D}:(D.a ((eS s).fs.set 2 x)).fld 0=.r (s.cs.map eC):=rfl
theorem q3r:FOk zs (qr0 vcP q42):=qyy qox yy qki qym qu6 fun ds outs hw hg=>by
 obtain⟨d,r,rfl,hd,e,r',rfl,he,f,r2,rfl,hf,rfl⟩:=hw
 obtain⟨s,rfl,hs⟩:=wfS hd
 obtain⟨a,rfl,ha⟩:=wfI he
 obtain⟨c,rfl,hc⟩:=wfC hf
 simp only[qr0,qy,yt,yh] at hg
 simp only[qaz,gnZ,qcp,q65,q6q,q5m,z1e,kN,kH]
 cases hin:inS s a with
 |false=>
  have:q1q vcP q42 s a c=false:=by simp[q1q,hin]
  simp only[this,gnF,if_false,uA] at hg
  subst hg
  simp
 | true =>
  have h1:=ql.1 hin
  cases hv:vcP s c with
  |false=>
   have:q1q vcP q42 s a c=false:=by simp[q1q,hv]
   simp only[this,gnF,if_false,uA] at hg
   subst hg
   simp
  | true =>
   cases ht:q42 s a with
   |false=>
    have:q1q vcP q42 s a c=false:=by simp[q1q,ht]
    simp only[this,gnF,if_false,uA] at hg
    subst hg
    simp[q5i,ht]
   | true =>
    cases hco:qcq s (q1f c) a with
    |true=>
     have:q1q vcP q42 s a c=false:=by simp[q1q,hco]
     simp only[this,gnF,if_false,uA] at hg
     subst hg
     simp[q5i,ht]
    |false=>
     have:q1q vcP q42 s a c=true:=by simp[q1q,hin,hv,ht,hco]
     simp only[this,if_true,uB,uA,gnD] at hg
     obtain⟨hlt,rfl⟩:=hg
     simp only[zb hin,zf9,q35,uC,zdb]
     simp[q5i,ht,h1]
     omega
theorem ql4:FOk q0l (qr0 vcR q40):=qz2 ji q75 qch qum fun ds outs hw hg=>by
 obtain⟨d,r,rfl,hd,e,r',rfl,he,f,r2,rfl,hf,rfl⟩:=hw
 obtain⟨s,rfl,hs⟩:=wfS hd
 obtain⟨a,rfl,ha⟩:=wfI he
 obtain⟨c,rfl,hc⟩:=wfC hf
 simp only[qr0,qy,yt,yh] at hg
 have hcond:(decide (a<0)||decide ((s.cs.length:Int)≤a))= !inS s a:=by
  cases hin:inS s a with
  |true=>
   have h1:=ql.1 hin
   have h2:¬a<0:=by omega
   have h3:¬(s.cs.length:Int)≤a:=by omega
   simp[h2,h3]
  |false=>
   have h1:¬(0≤a∧a<s.cs.length):=fun q=>by rw[ql.2 q] at hin;cases hin
   simp
   omega
 simp only[qax,gnZ,qcp,q65,q6q,q5m,z1e,kN,kH,hcond]
 cases hin:inS s a with
 |false=>
  have:q1q vcR q40 s a c=false:=by simp[q1q,hin]
  simp only[this,gnF,if_false,uA] at hg
  subst hg
  simp
 | true =>
  have h1:=ql.1 hin
  cases hv:vcR s c with
  |false=>
   have:q1q vcR q40 s a c=false:=by simp[q1q,hv]
   simp only[this,gnF,if_false,uA] at hg
   subst hg
   simp
  | true =>
   cases ht:q40 s a with
   |false=>
    have:q1q vcR q40 s a c=false:=by simp[q1q,ht]
    simp only[this,gnF,if_false,uA] at hg
    subst hg
    simp[q5i,ht]
   | true =>
    cases hco:qcq s (q1f c) a with
    |true=>
     have:q1q vcR q40 s a c=false:=by simp[q1q,hco]
     simp only[this,gnF,if_false,uA] at hg
     subst hg
     simp[q5i,ht]
    |false=>
     have:q1q vcR q40 s a c=true:=by simp[q1q,hin,hv,ht,hco]
     simp only[this,if_true,uB,uA,gnD] at hg
     obtain⟨hlt,rfl⟩:=hg
     simp only[zb hin,zf9,q35,uC,zdb]
     simp[q5i,ht,h1]
     omega
structure Vc where
 v:Int
 c:Ce
instance:Inhabited Vc:=⟨⟨0,default⟩⟩
def eV(x:Vc):D:=.a [.i x.v,eC x.c]
def dV(d:D):Vc:=⟨(d.fld 0).int,dC (d.fld 1)⟩
theorem quj(x:Vc):dV (eV x)=x:=rfl
theorem zst{a b:Vc}(h:eV a=eV b):a=b:=by rw[←quj a,h,quj b]
instance:DecidableEq Vc:=fun a b=>if h:eV a=eV b then .isTrue (zst h) else .isFalse fun e=>h (e▸rfl)
theorem z5x(x:Vc):(eV x).fld 0=.i x.v:=rfl
theorem ze1(x:Vc):(eV x).fld 1=eC x.c:=rfl
theorem zon(n:Int)(c:Ce):D.a [.i n,eC c]=eV ⟨n,c⟩:=rfl
def dVs(d:D):List Vc:=d.rs.map dV
theorem q0a(l:List Vc):dVs (.r (l.map eV))=l:=by
 show(l.map eV).map dV=l
 rw[kY]
 exact vQ (fun x=>rfl) l
theorem wfV(h:Wf d qnf):∃c,d=eV c∧i64 c.v∧c.c.ok:=by
 obtain⟨ds,rfl,hl⟩:=h.st_of (fs:=[.int .i64,qm]) rfl
 obtain⟨a,b,rfl,ha,hb⟩:=z7s hl
 obtain⟨x,rfl,hx⟩:=wfI ha
 obtain⟨y,rfl,hy⟩:=wfC hb
 exact⟨⟨x,y⟩,rfl,hx,hy⟩
theorem qxh(h:Wf d za6):∃l:List Vc,d=.r (l.map eV)∧l.length≤5864062014634∧∀x∈l,i64 x.v∧x.c.ok:=by
 obtain⟨l,e,h1,h2⟩:=h.row_of (te:=qnf) rfl
 subst e
 obtain⟨m,rfl,h3⟩:=qdx (e:=eV) (P:=fun x=>i64 x.v∧x.c.ok) fun x hx=>wfV (h2 x hx)
 have e:LM qnf=5864062014634:=by kernel_rfl
 rw[e,uC] at h1
 exact⟨m,rfl,h1,h3⟩
def ofV:List Vc→Int→Option Ce
 |[],_=>none
 |x::l,v=>if x.v=v then some x.c else ofV l v
def qa7:List Vc→Int→Ce→List Vc
 |[],v,c=>[⟨v,c⟩]
 |x::l,v,c=>if x.v<v then x::qa7 l v c else⟨v,c⟩::x::l
def loV:List Vc→Int→Nat
 |[],_=>0
 |x::l,v=>if x.v<v then loV l v+1 else 0
def SV(l:List Vc):Prop:=l.Pairwise (fun a b=>a.v<b.v)∧∀x∈l,0≤x.v∧x.v≤1099511627776
instance(l:List Vc):Decidable (SV l):=inferInstanceAs (Decidable (_∧_))
theorem z23(v:Int):∀l,loV l v≤l.length
 |[]=>uH _
 |x::l=>by
  unfold loV
  have:=z23 v l
  split<;>simp<;>omega
variable{v:Int}
theorem zar:∀{l:List Vc}{j:Nat},j<loV l v→(l.getD j default).v<v
 |[],j,h=>by simp[loV] at h
 | x :: l, j, h => by
  unfold loV at h
  split at h
  ·rename_i hx
   cases j with
   |zero=>exact hx
   |succ j=>
    rw[kO]
    exact zar (by omega)
  ·omega
theorem qt6:∀{l:List Vc},loV l v<l.length→v≤(l.getD (loV l v) default).v
 |[],h=>by simp[loV] at h
 | x :: l, h => by
  unfold loV at h⊢
  split at h
  ·rename_i hx
   rw[if_pos hx,kO]
   exact qt6 (by simpa using h)
  ·rename_i hx
   rw[if_neg hx,uE]
   omega
theorem zgv{l:List Vc}{i:Nat}(hi:i≤l.length)(h1:∀j,j<i→(l.getD j default).v<v)(h2:∀j,i≤j→j<l.length→v≤(l.getD j default).v):loV l v=i:=by
 rcases Nat.lt_trichotomy (loV l v) i with h|h|h
 ·have:=h1 _ h
  have:=qt6 (v:=v) (l:=l) (by omega)
  omega
 ·exact h
 ·have:=zar h
  have h3:=z23 v l
  have:=h2 i (uH _) (by omega)
  omega
theorem ql7(v:Int)(c:Ce):∀l,qa7 l v c=l.take (loV l v)++⟨v,c⟩::l.drop (loV l v)
 |[]=>rfl
 | x :: l => by
  unfold qa7 loV
  split
  ·rw[ql7 v c l]
   rfl
  ·rfl
theorem z6e:∀{l:List Vc},(∀y∈l,y.v≠v)→ofV l v=none
 |[],_=>rfl
 |x::l,h=>by
  unfold ofV
  rw[if_neg (h x (by simp)),z6e fun y hy=>h y (by simp[hy])]
theorem z9g:∀{l:List Vc},SV l→ofV l v=if loV l v<l.length∧(l.getD (loV l v) default).v=v then some (l.getD (loV l v) default).c else none
 |[],_=>rfl
 | x :: l, h => by
  have hp:=uR.1 h.1
  have hl:SV l:=⟨hp.2,fun y hy=>h.2 y (by simp[hy])⟩
  unfold ofV loV
  by_cases hx:x.v<v
  ·rw[if_neg (by omega),if_pos hx,z9g hl]
   simp
  ·rw[if_neg hx]
   by_cases he:x.v=v
   ·simp[he]
   ·rw[if_neg he,z6e fun y hy=>by have:=hp.1 y hy;omega]
    simp[he]
theorem z2d:∀{l:List Vc},ofV l v=some c→⟨v,c⟩∈l
 |[],h=>by cases h
 | x :: l, h => by
  unfold ofV at h
  split at h
  ·rename_i hx
   injection h with h
   subst hx h
   exact List.mem_cons_self
  ·exact vD _ (z2d h)
theorem zgu:∀{l:List Vc},ofV l v=none→∀y∈l,y.v≠v
 |[],_,y,hy=>by cases hy
 | x :: l, h, y, hy => by
  unfold ofV at h
  split at h
  ·cases h
  ·rename_i hx
   rcases uI.1 hy with rfl|hy
   ·exact hx
   ·exact zgu h y hy
theorem z7c{l:List Vc}{y:Vc}:y∈qa7 l v c↔y=⟨v,c⟩∨y∈l:=by
 rw[ql7,kA,uI]
 conv=>rhs;rw[←uK (loV l v) l,kA]
 constructor
 ·rintro(h|h|h)
  ·exact .inr (.inl h)
  ·exact .inl h
  ·exact .inr (.inr h)
 ·rintro(h|h|h)
  ·exact .inr (.inl h)
  ·exact .inl h
  ·exact .inr (.inr h)
theorem z2e(h0:0≤v)(h1:v≤1099511627776):∀{l:List Vc},SV l→ofV l v=none→SV (qa7 l v c):=fun{l}h hn=>by
 refine⟨?_,fun y hy=>?_⟩
 ·have hne:=zgu hn
  have key:∀l:List Vc,l.Pairwise (fun a b=>a.v<b.v)→(∀y∈l,y.v≠v)→(qa7 l v c).Pairwise fun a b=>a.v<b.v:=by
   intro l
   induction l with
   |nil=>intro _ _;exact List.pairwise_singleton _ _
   | cons x l ih =>
    intro hp hn
    have hp':=uR.1 hp
    unfold qa7
    split
    ·rename_i hx
     refine uR.2 ⟨fun y hy=>?_,ih hp'.2 fun y hy=>hn y (by simp[hy])⟩
     rcases z7c.1 hy with rfl|hy
     ·exact hx
     ·exact hp'.1 y hy
    ·rename_i hx
     have:=hn x (by simp)
     refine uR.2 ⟨fun y hy=>?_,hp⟩
     rcases uI.1 hy with rfl|hy
     ·show v<y.v;omega
     ·have:=hp'.1 y hy
      show v<y.v
      omega
  exact key l h.1 hne
 ·rcases z7c.1 hy with rfl|hy
  ·exact⟨h0,h1⟩
  ·exact h.2 y hy
theorem zgr{b:Int}:∀(l:List Vc)(a:Int),a≤b+1→l.Pairwise (fun x y=>x.v<y.v)→(∀x∈l,a≤x.v∧x.v≤b)→(l.length:Int)≤b - a+1
 |[],a,h,_,_=>by simp;omega
 |x::l,a,h,hp,hr=>by
  have hp':=uR.1 hp
  have hx:=hr x (by simp)
  have:=zgr l (x.v+1) (by omega) hp'.2 fun y hy=>⟨by have:=hp'.1 y hy;omega,(hr y (by simp[hy])).2⟩
  rw[kS]
  omega
theorem SV.len{l:List Vc}(h:SV l):(l.length:Int)≤1099511627777:=by
 have:=zgr (b:=1099511627776) l 0 (by omega) h.1 h.2
 omega
theorem zci{ar:Int}:∀(k:Nat)(l:List Sy),0≤fnd nm ar k l↔(⟨nm,ar⟩:Sy)∈l
 |k,[]=>by simp[fnd]
 | k, y :: l => by
  unfold fnd
  split
  ·rename_i h
   obtain⟨rfl,rfl⟩:=h
   exact⟨fun _=>by simp,fun _=>Int.natCast_nonneg _⟩
  ·rename_i h
   rw[zci (k+1) l,uI]
   exact⟨.inr,fun h'=>h'.elim (fun e=>by subst e;exact(h ⟨rfl,rfl⟩).elim) id⟩
theorem qgy{s:So}{ar:Int}:0≤q6e s nm ar↔(⟨nm,ar⟩:Sy)∈s.ys:=zci 0 s.ys
def jq(s:So)(nm:ByteArray)(ar:Int):Int×So:=if 0≤q6e s nm ar then(q6e s nm ar,s) else((s.ys.length:Nat),{s with ys:=s.ys++[⟨nm,ar⟩]})
def qcj(ys:List Sy)(y:Sy):List Sy:=if y∈ys then ys else ys++[y]
mutual
def q57(ys:List Sy):Te→List Sy
 |.mk k _ nm l=>q0t (if k=2∨k=3 then qcj ys ⟨nm,(l.length:Nat)⟩ else ys) l
def q0t(ys:List Sy):List Te→List Sy
 |[]=>ys
 |t::l=>q0t (q57 ys t) l
end
theorem qub(ys:List Sy)(y:Sy):ys.length≤(qcj ys y).length:=by
 unfold qcj
 split
 ·exact uH _
 ·simp
mutual
theorem qh4:∀(t:Te)(ys:List Sy),ys.length≤(q57 ys t).length
 |.mk k n nm l,ys=>by
  rw[q57]
  refine kC ?_ (q8k l _)
  split
  ·exact qub _ _
  ·exact uH _
theorem q8k:∀(l:List Te)(ys:List Sy),ys.length≤(q0t ys l).length
 |[],ys=>uH _
 |t::l,ys=>by
  rw[q0t]
  exact kC (qh4 t ys) (q8k l _)
end
theorem qgs(s:So)(nm:ByteArray)(ar:Int):(jq s nm ar).2.cs=s.cs∧(jq s nm ar).2.mx=s.mx∧(jq s nm ar).2.ys=qcj s.ys ⟨nm,ar⟩∧(jq s nm ar).2.tr=s.tr∧(jq s nm ar).2.wk=s.wk∧(jq s nm ar).2.ser=s.ser:=by
 unfold jq qcj
 by_cases h:0≤q6e s nm ar
 ·rw[if_pos h,if_pos (qgy.1 h)]
  exact⟨rfl,rfl,rfl,rfl,rfl,rfl⟩
 ·rw[if_neg h,if_neg (fun q=>h (qgy.2 q))]
  exact⟨rfl,rfl,rfl,rfl,rfl,rfl⟩
def qwc(ys ms:List Sy)(y:Sy):List Sy:=if y∈ms∨y∈ys then ms else ms++[y]
mutual
def qdh(ys ms:List Sy):Te→List Sy
 |.mk k _ nm l=>q7g ys (if k=2∨k=3 then qwc ys ms ⟨nm,(l.length:Nat)⟩ else ms) l
def q7g(ys ms:List Sy):List Te→List Sy
 |[]=>ms
 |t::l=>q7g ys (qdh ys ms t) l
end
theorem zsr(ys ms:List Sy)(y:Sy):ys++qwc ys ms y=qcj (ys++ms) y:=by
 unfold qwc qcj
 by_cases h:y∈ms∨y∈ys
 ·rw[if_pos h,if_pos (kA.2 h.symm)]
 ·rw[if_neg h,if_neg (fun q=>h (kA.1 q).symm),uM]
mutual
theorem qx6:∀(t:Te)(ys ms:List Sy),ys++qdh ys ms t=q57 (ys++ms) t
 |.mk k n nm l,ys,ms=>by
  rw[qdh,q57,zc3]
  split
  ·rw[zsr]
  ·rfl
theorem zc3:∀(l:List Te)(ys ms:List Sy),ys++q7g ys ms l=q0t (ys++ms) l
 |[],ys,ms=>rfl
 |t::l,ys,ms=>by rw[q7g,q0t,zc3,qx6]
end
theorem zgd(ys ms:List Sy)(y:Sy):(qwc ys ms y).length≤ms.length+1:=by
 unfold qwc
 split
 ·omega
 ·simp
mutual
theorem qk8:∀(t:Te)(ys ms:List Sy),(qdh ys ms t).length≤ms.length+szT t
 | .mk k n nm l, ys, ms => by
  rw[qdh,szT]
  refine kC (z0u l _ _) ?_
  split
  ·have:=zgd ys ms ⟨nm,(l.length:Nat)⟩
   omega
  ·omega
theorem z0u:∀(l:List Te)(ys ms:List Sy),(q7g ys ms l).length≤ms.length+q3i l
 |[],ys,ms=>by simp[q7g,q3i]
 |t::l,ys,ms=>by
  rw[q7g,q3i]
  have h1:=qk8 t ys ms
  have h2:=z0u l ys (qdh ys ms t)
  omega
end
mutual
/-- The cells that a term needs, but for a variable that is no argument. -/
def q8j:Te→Nat
 |.mk k _ _ l=>if k=3 then 1+l.length+q2l l else 0
def q2l:List Te→Nat
 |[]=>0
 |t::l=>q8j t+q2l l
end
mutual
theorem qh1:∀t:Te,q8j t+1≤2 * szT t
 |.mk k n nm l=>by
  rw[q8j,szT]
  have h1:=z75 l
  have h2:=z7u l
  split<;>omega
theorem z75:∀l:List Te,q2l l+l.length≤2 * q3i l
 |[]=>uH _
 |t::l=>by
  rw[q2l,q3i,kS]
  have h1:=qh1 t
  have h2:=z75 l
  omega
end
def q5o(t:Te)(all:List Vc):Nat:=q8j t+if t.k=0∧ofV all t.n=none then 1 else 0
abbrev Sv:=So×List Vc
def qck(s:So)(i:Nat)(c:Ce):So:={s with cs:=s.cs.set i c}
mutual
/-- A term added; at: the address of the argument that it becomes. -/
def z6(q:Sv):Te→Int→Ce×Sv
 | .mk k n nm l, at' =>
  if k=1 then(⟨1,n⟩,q)
  else if k=2 then(⟨2,(jq q.1 nm 0).1⟩,(jq q.1 nm 0).2,q.2)
  else if k=0 then(match ofV q.2 n with
   |some c=>(q1f c,q)
   |none=>if at'<0 then(⟨0,(q.1.cs.length:Nat)⟩,{q.1 with cs:=q.1.cs++[⟨0,(q.1.cs.length:Nat)⟩]},qa7 q.2 n ⟨0,(q.1.cs.length:Nat)⟩) else(⟨0,at'⟩,q.1,qa7 q.2 n ⟨0,at'⟩))
  else(⟨3,(q.1.cs.length:Nat)⟩,je ({(jq q.1 nm (l.length:Nat)).2 with cs:=q.1.cs++(⟨4,(jq q.1 nm (l.length:Nat)).1⟩::uP l.length ⟨0,0⟩)},q.2) l (q.1.cs.length+1))
def je(q:Sv):List Te→Nat→Sv
 |[],_=>q
 |a::l,to=>je (qck (z6 q a (to:Nat)).2.1 to (z6 q a (to:Nat)).1,(z6 q a (to:Nat)).2.2) l (to+1)
end
theorem q3u(s:So)(i:Nat)(c:Ce):(qck s i c).cs.length=s.cs.length:=by simp[qck]
def Rst(s s':So):Prop:=s'.mx=s.mx∧s'.tr=s.tr∧s'.wk=s.wk∧s'.ser=s.ser
theorem Rst.trans{a b c:So}(h:Rst a b)(k:Rst b c):Rst a c:=⟨k.1.trans h.1,k.2.1.trans h.2.1,k.2.2.1.trans h.2.2.1,k.2.2.2.trans h.2.2.2⟩
theorem zm7(k n:Int)(s:ByteArray)(l:List Te):q6y (.mk k n s l)=if k=0 then decide (0≤n)&&(decide (n≤1099511627776)&&(decide (s=⟨#[]⟩)&&decide ((l.length:Int)=0)))
 else if k=1 then decide (s=⟨#[]⟩)&&decide ((l.length:Int)=0)
 else if k=2 then decide (n=0)&&(decide ((s.size:Int)≤100)&&decide ((l.length:Int)=0))
 else if k=3 then decide (n=0)&&(decide ((s.size:Int)≤100)&&(decide (1≤(l.length:Int))&&decide ((l.length:Int)≤8)))
 else false:=rfl
theorem q1o{k n:Int}{s:ByteArray}{l:List Te}(h:q6y (.mk k n s l)=true):(k=0∧l=[]∧0≤n∧n≤1099511627776)∨(k=1∧l=[])∨(k=2∧l=[]∧s.size≤100)∨(k=3∧s.size≤100∧1≤l.length∧l.length≤8):=by
 rw[zm7] at h
 by_cases h0:k=0
 ·rw[if_pos h0] at h
  simp only[gnB,gnD] at h
  exact .inl ⟨h0,uT.1 (by omega),h.1,h.2.1⟩
 rw[if_neg h0] at h
 by_cases h1:k=1
 ·rw[if_pos h1] at h
  simp only[gnB,gnD] at h
  exact .inr (.inl ⟨h1,uT.1 (by omega)⟩)
 rw[if_neg h1] at h
 by_cases h2:k=2
 ·rw[if_pos h2] at h
  simp only[gnB,gnD] at h
  exact .inr (.inr (.inl ⟨h2,uT.1 (by omega),by omega⟩))
 rw[if_neg h2] at h
 split at h
 ·rename_i h3
  simp only[gnB,gnD] at h
  exact .inr (.inr (.inr ⟨h3,by omega,by omega,by omega⟩))
 ·cases h
theorem q9d(q:Sv)(n:Int)(nm:ByteArray)(l:List Te)(a:Int):z6 q (.mk 0 n nm l) a=match ofV q.2 n with
   |some c=>(q1f c,q)
   |none=>if a<0 then(⟨0,(q.1.cs.length:Nat)⟩,{q.1 with cs:=q.1.cs++[⟨0,(q.1.cs.length:Nat)⟩]},qa7 q.2 n ⟨0,(q.1.cs.length:Nat)⟩) else(⟨0,a⟩,q.1,qa7 q.2 n ⟨0,a⟩):=by
 rw[z6,if_neg (by decide),if_neg (by decide),if_pos rfl]
theorem qe0(q:Sv)(n:Int)(nm:ByteArray)(l:List Te)(a:Int):z6 q (.mk 1 n nm l) a=(⟨1,n⟩,q):=by rw[z6,if_pos rfl]
theorem qdw(q:Sv)(n:Int)(nm:ByteArray)(l:List Te)(a:Int):z6 q (.mk 2 n nm l) a=(⟨2,(jq q.1 nm 0).1⟩,(jq q.1 nm 0).2,q.2):=by rw[z6,if_neg (by decide),if_pos rfl]
theorem qe4(q:Sv)(n:Int)(nm:ByteArray)(l:List Te)(a:Int):z6 q (.mk 3 n nm l) a=(⟨3,(q.1.cs.length:Nat)⟩,je ({(jq q.1 nm (l.length:Nat)).2 with cs:=q.1.cs++(⟨4,(jq q.1 nm (l.length:Nat)).1⟩::uP l.length ⟨0,0⟩)},q.2) l (q.1.cs.length+1)):=by rw[z6,if_neg (by decide),if_neg (by decide),if_neg (by decide)]
theorem qn1{k n:Int}{l:List Te}(h:k≠3):q8j (.mk k n nm l)=0:=by rw[q8j,if_neg h]
theorem qsw{k n:Int}{l:List Te}(h:k≠0)(all:List Vc):q5o (.mk k n nm l) all=q8j (.mk k n nm l):=by
 unfold q5o
 rw[if_neg (fun q=>h q.1)]
 rfl
variable{ys:List Sy}
theorem zbv{k n:Int}(h:¬(k=2∨k=3)):q57 ys (.mk k n nm [])=ys:=by rw[q57,if_neg h,q0t]
theorem z8r{n:Int}:q57 ys (.mk 2 n nm [])=qcj ys ⟨nm,0⟩:=by rw[q57,if_pos (.inl rfl),q0t];rfl
theorem zaj{n:Int}{l:List Te}:q57 ys (.mk 3 n nm l)=q0t (qcj ys ⟨nm,(l.length:Nat)⟩) l:=by rw[q57,if_pos (.inr rfl)]
theorem zht{n:Int}{l:List Te}:q8j (.mk 3 n nm l)=1+l.length+q2l l:=by rw[q8j,if_pos rfl]
theorem Rst.refl(s:So):Rst s s:=⟨rfl,rfl,rfl,rfl⟩
mutual
theorem q32:∀(t:Te)(q:Sv)(a:Int),z7 t=true→SV q.2→(z6 q t a).2.1.cs.length=q.1.cs.length+(if a<0 then q5o t q.2 else q8j t)∧(z6 q t a).2.1.ys=q57 q.1.ys t∧Rst q.1 (z6 q t a).2.1∧SV (z6 q t a).2.2
 | .mk k n nm l, q, a, hn, hs => by
  rw[z7,gnB] at hn
  rcases q1o hn.1 with⟨rfl,rfl,h1,h2⟩|⟨rfl,rfl⟩|⟨rfl,rfl,h1⟩|⟨rfl,h1,h2,h3⟩
  ·have e1:q5o (.mk 0 n nm []) q.2=if ofV q.2 n=none then 1 else 0:=by
    unfold q5o
    rw[qn1 (by decide)]
    simp[Te.k,Te.n]
   rw[q9d,zbv (by decide),qn1 (by decide),e1]
   cases ho:ofV q.2 n with
   |some c=>exact⟨by simp,rfl,Rst.refl _,hs⟩
   | none =>
    by_cases ha:a<0
    ·simp only[if_pos ha]
     exact⟨by simp,by trivial,⟨rfl,rfl,rfl,rfl⟩,z2e h1 h2 hs ho⟩
    ·simp only[if_neg ha]
     exact⟨by simp,by trivial,⟨rfl,rfl,rfl,rfl⟩,z2e h1 h2 hs ho⟩
  ·rw[qe0,zbv (by decide),qsw (by decide),qn1 (by decide)]
   exact⟨by simp,rfl,Rst.refl _,hs⟩
  ·obtain⟨e1,e2,e3,e4,e5,e6⟩:=qgs q.1 nm 0
   rw[qdw,z8r,qsw (by decide),qn1 (by decide)]
   exact⟨by rw[e1];simp,e3,⟨e2,e4,e5,e6⟩,hs⟩
  ·obtain⟨e1,e2,e3,e4,e5,e6⟩:=qgs q.1 nm (l.length:Nat)
   rw[qe4,zaj,qsw (by decide),zht]
   obtain⟨g1,g2,g3,g4⟩:=qdb l ({(jq q.1 nm (l.length:Nat)).2 with cs:=q.1.cs++(⟨4,(jq q.1 nm (l.length:Nat)).1⟩::uP l.length ⟨0,0⟩)},q.2) (q.1.cs.length+1) hn.2 hs
   refine⟨?_,?_,?_,g4⟩
   ·rw[g1]
    simp
    omega
   ·rw[g2]
    show q0t (jq q.1 nm (l.length:Nat)).2.ys l=_
    rw[e3]
   ·exact Rst.trans ⟨e2,e4,e5,e6⟩ g3
theorem qdb:∀(l:List Te)(q:Sv)(to:Nat),jw l=true→SV q.2→(je q l to).1.cs.length=q.1.cs.length+q2l l∧(je q l to).1.ys=q0t q.1.ys l∧Rst q.1 (je q l to).1∧SV (je q l to).2
 |[],q,to,_,hs=>⟨rfl,rfl,⟨rfl,rfl,rfl,rfl⟩,hs⟩
 | t :: l, q, to, hn, hs => by
  rw[jw,gnB] at hn
  rw[je,q2l,q0t]
  obtain⟨h1,h2,h3,h4⟩:=q32 t q (to:Nat) hn.1 hs
  obtain⟨g1,g2,g3,g4⟩:=qdb l (qck (z6 q t (to:Nat)).2.1 to (z6 q t (to:Nat)).1,(z6 q t (to:Nat)).2.2) (to+1) hn.2 h4
  refine⟨?_,?_,?_,g4⟩
  ·rw[g1,q3u,h1,if_neg (by omega)]
   omega
  ·rw[g2]
   show q0t (z6 q t (to:Nat)).2.1.ys l=_
   rw[h2]
  ·exact Rst.trans h3 g3
end
variable{cs:List Value}{T:TypeId}
section
namespace Ins
open Go.RowKit Go.Shelf Go.Lib
attribute [local go_sem] Oper.semAt_some
abbrev E3:=Int×Int×Int
def fl3(x:E3):List Value:=[.int .i64 x.1,.int .i64 x.2.1,.int .i64 x.2.2]
def fls(l:List E3):List Value:=l.flatMap fl3
theorem qc0(l:List E3):(fls l).length=l.length * 3:=by
 induction l with
 |nil=>rfl
 |cons x l ih=>simp[fls,fl3] at *;omega
theorem qrx(l m:List E3):fls (l++m)=fls l++fls m:=List.flatMap_append
theorem qrw{l:List E3}:∀v∈fls l,v.oneCell'=true:=fun v hv=>by
 obtain⟨x,-,hx⟩:=List.mem_flatMap.1 hv
 simp only[fl3,uI,List.not_mem_nil,or_false] at hx
 rcases hx with rfl|rfl|rfl<;>rfl
theorem qm4(x:E3)(l:List E3):fls (x::l)=fl3 x++fls l:=rfl
theorem z1x:uG.underlying 98=some (.slice 102):=by kernel_rfl
theorem zof:uG.underlying 3=some (.int .i64):=by kernel_rfl
theorem zcc:(uG.info? 102).map (fun i=>(i.size,i.bytes))=some (3,24):=by kernel_rfl
theorem zs0:(uG.info? 102).map (fun i=>i.zero)=some (some (.agg #[.int .i64 0,.int .i64 0,.int .i64 0])):=by kernel_rfl
theorem zme(w:World):(Go.sizeOf 102).run uG w=.ok 3 w:=by kernel_rfl
theorem qhf(w:World)(ty:TypeId)(g o dLen dCap:Nat)(a:Addr)(sLen sCap:Nat)(cur:Array Value)(t:TypeId)(cs:List Value)
  (hg:w.heap[g]? =some (.cells cur t (0,0))){n:Nat}(hn:n=Nat.min sLen dLen)(hl:cs.length=n * 3)
  (hsrc:∀j v,cs[j]? =some v→w.cell? (a.add j)=some v)(hfit:o+cs.length≤cur.size)(h1:∀v∈cs,v.oneCell'=true):
  (uQ #[98,98] ty #[.slice (some ⟨g,o,none⟩) dLen dCap,.slice (some a) sLen sCap]).run uG w=
   .ok (goInt n) (w.setRow g (cur.toList.take o++cs++cur.toList.drop (o+cs.length)).toArray):=by
 have hld:=run_loadCells_list (P:=uG) w a cs hsrc
 have hst:=run_storeCells_at uG g o t cs 0 cur w hg (by simpa using hfit) h1
 obtain⟨i,hi,e⟩:=kI.1 zcc
 simp only[Prod.mk.injEq] at e
 rw[hl] at hld
 simp[uQ,run_underlying z1x,Builtin.lenOf,vB,sizeOf,typeInfo,hi,e.1,←hn,hld,hst]
theorem qdc{w:World}{b k:Nat}(h:w.heap[b]? =some (.cells cs.toArray T (0,0))){v:Value}(hv:cs[k]? =some v):w.cell? ⟨b,k,none⟩=some v:=by
 rw[cell_of_row w b k _ T (0,0) h]
 simpa using hv
theorem ziv(w:World)(b cap vb vc i n:Nat)(L0:List E3)(x:E3)(post vpost:List Value)(E Ev:TypeId)(hL:L0.length=n)(hi:i<n)(hcap:n+1≤cap)(hc63:cap≤9223372036854775807)(hne:vb≠b)(hp3:3≤post.length)
  (hb:w.heap[b]? =some (.cells (fls L0++post).toArray E (0,0)))(hv:w.heap[vb]? =some (.cells (fl3 x++vpost).toArray Ev (0,0))):
  Calls uG 107 #[.slice (some ⟨b,0,none⟩) n cap,.int .i64 i,.slice (some ⟨vb,0,none⟩) 1 vc] w fun e w'=>
   e=.returned (.slice (some ⟨b,0,none⟩) (n+1) cap)∧But (fun k=>k=b) w w'∧w'.heap[b]? =some (.cells (fls (L0.take i++x::L0.drop i)++post.drop 3).toArray E (0,0)):=by
 have hlL:=qc0 L0
 have hlt:=qc0 (L0.take i)
 have hld:=qc0 (L0.drop i)
 have hsplit:fls L0=fls (L0.take i)++fls (L0.drop i):=by rw[←qrx,uK]
 have htl:(L0.take i).length=i:=by rw[kJ];omega
 have hdl:(L0.drop i).length=n - i:=by rw[uX,hL]
 have hov:∀lb cb,(callFunc 120 #[.slice (some ⟨vb,0,none⟩) 1 vc,.slice (some ⟨b,(i+1) * 3,none⟩) lb cb]).run uG w=.ok (.value (.bool false)) w:=fun lb cb=>by
  rw[run_callFunc_extern Tryz.func120 (by kernel_rfl) (by kernel_rfl) (by kernel_rfl) (e:=Extern.SlicesOverlaps.overlaps #[98,98] #[4]) (by kernel_rfl),
   Lib.run_overlaps_apart w 98 4 102 z1x 3 zme ⟨vb,0,none⟩ ⟨b,(i+1) * 3,none⟩ 1 vc lb cb hne Ev E (fl3 x++vpost).toArray.size (fls L0++post).toArray.size (by simp[World.shape?,hv]) (by simp[World.shape?,hb]) (by rw[vI,uN];omega) (by simp[World.frozen?,hv]) (by simp[World.frozen?,hv])]
  rfl
 have hcp1:∀ty dc sc,(uQ #[98,98] ty #[.slice (some ⟨b,(i+1) * 3,none⟩) (n - i) dc,.slice (some ⟨b,i * 3,none⟩) (n+1 - i) sc]).run uG w.drew=.ok (goInt (n - i:Nat)) (w.drew.setRow b ((fls L0++post).toArray.toList.take ((i+1) * 3)++fls (L0.drop i)++(fls L0++post).toArray.toList.drop ((i+1) * 3+(fls (L0.drop i)).length)).toArray):=fun ty dc sc=>
  qhf w.drew ty b ((i+1) * 3) (n - i) dc ⟨b,i * 3,none⟩ (n+1 - i) sc (fls L0++post).toArray E (fls (L0.drop i)) hb (by simp only[kV];split<;>omega) (by rw[hld,hdl])
   (fun j v hj=>by
    rw[Addr.add_lit]
    refine qdc (w:=w.drew) (T:=E) hb ?_
    rw[hsplit,uM,kE (by omega),show i * 3+j - (fls (L0.take i)).length=j by omega]
    exact uD (by have:=(gnH.1 hj).1;omega)▸hj)
   (by simp;omega) qrw
 obtain⟨J,hJ,hcur⟩:∃J:List Value,J.length=3∧((fls L0++post).toArray.toList.take ((i+1) * 3)++fls (L0.drop i)++(fls L0++post).toArray.toList.drop ((i+1) * 3+(fls (L0.drop i)).length))=fls (L0.take i)++(J++(fls (L0.drop i)++post.drop 3)):=by
  refine⟨(fls (L0.drop i)).take 3,by rw[kJ];omega,?_⟩
  have e1:(fls L0++post).take ((i+1) * 3)=fls (L0.take i)++(fls (L0.drop i)).take 3:=by
   rw[hsplit,uM,List.take_append,List.take_of_length_le (by omega),show(i+1) * 3 - (fls (L0.take i)).length=3 by omega,List.take_append_of_le_length (by omega)]
  have e2:(fls L0++post).drop ((i+1) * 3+(fls (L0.drop i)).length)=post.drop 3:=by
   rw[kT,kK (by omega),vK]
   congr 1
   omega
  show(fls L0++post).take _++_++(fls L0++post).drop _=_
  rw[e1,e2]
  simp
 rw[hcur] at hcp1
 have hb1:(w.drew.setRow b (fls (L0.take i)++(J++(fls (L0.drop i)++post.drop 3))).toArray).heap[b]? =some (.cells (fls (L0.take i)++(J++(fls (L0.drop i)++post.drop 3))).toArray E (0,0)):=setRow_heap w.drew b _ _ E _ hb
 have hv1:(w.drew.setRow b (fls (L0.take i)++(J++(fls (L0.drop i)++post.drop 3))).toArray).heap[vb]? =some (.cells (fl3 x++vpost).toArray Ev (0,0)):=by
  rw[setRow_other w.drew b vb _ hne]
  exact hv
 obtain⟨W1,hW1⟩:∃W1,W1=w.drew.setRow b (fls (L0.take i)++(J++(fls (L0.drop i)++post.drop 3))).toArray:=⟨_,rfl⟩
 rw[←hW1] at hcp1 hb1 hv1
 have hcp2:∀(W:World),W.heap=W1.heap→∀ty dc,(uQ #[98,98] ty #[.slice (some ⟨b,i * 3,none⟩) (n+1 - i) dc,.slice (some ⟨vb,0,none⟩) 1 vc]).run uG W=.ok (goInt (1:Nat)) (W.setRow b ((fls (L0.take i)++(J++(fls (L0.drop i)++post.drop 3))).toArray.toList.take (i * 3)++fl3 x++(fls (L0.take i)++(J++(fls (L0.drop i)++post.drop 3))).toArray.toList.drop (i * 3+(fl3 x).length)).toArray):=fun W hW ty dc=>
  qhf W ty b (i * 3) (n+1 - i) dc ⟨vb,0,none⟩ 1 vc _ E (fl3 x) (hW▸hb1) (by simp only[kV];split<;>omega) rfl
   (fun j v hj=>by
    rw[Addr.add_lit,kL]
    refine qdc (w:=W) (T:=Ev) (hW▸hv1) ?_
    exact uD (by have:=(gnH.1 hj).1;omega)▸hj)
   (by simp[fl3];omega) (fun v hv=>qrw (l:=[x]) v (by simpa[fls] using hv))
 have hcur2:((fls (L0.take i)++(J++(fls (L0.drop i)++post.drop 3))).toArray.toList.take (i * 3)++fl3 x++(fls (L0.take i)++(J++(fls (L0.drop i)++post.drop 3))).toArray.toList.drop (i * 3+(fl3 x).length))=fls (L0.take i++x::L0.drop i)++post.drop 3:=by
  show(fls (L0.take i)++(J++(fls (L0.drop i)++post.drop 3))).take _++_++(fls (L0.take i)++(J++(fls (L0.drop i)++post.drop 3))).drop _=_
  rw[show i * 3=(fls (L0.take i)).length by omega,kX,show(fls (L0.take i)).length+(fl3 x).length=(fls (L0.take i)++J).length by rw[uN,hJ];rfl,←uM (fls (L0.take i)) J,List.drop_left,qrx,qm4]
  simp
 rw[hcur2] at hcp2
 have hw1:IntKind.i64.wrap ((i:Int)+1)=(i:Int)+1:=by rw[IntKind.wrap_i64];omega
 have hz2:¬((i:Int)=(n:Int)):=by omega
 have h0i:(0:Int)≤(i:Int)+1:=by omega
 have hin:i≤n:=by omega
 have htn:((i:Int)+1).toNat=i+1:=by omega
 have hb2:¬(cap=i+1):=by omega
 have hb3:(i:Int)≤(n:Int)+1:=by omega
 have hb4:¬(cap=i):=by omega
 go_enter vV,vO
 go_wp2_with (simp only[hov])
 go_region_law (refine step_copy_runI rfl _ _ 98 98 rfl _ _ (by simp[Act.eval,Act.put]) (by simp[Act.eval,Act.put]) (hcp1 _ _ _) ?_)
 go_wp2_with (at_builtin;refine wpList_copy_runI _ rfl _ _ 98 98 rfl _ _ rfl rfl (hcp2 _ rfl _ _) ?_)
 go_ret
 exact⟨rfl,q86 (S:=fun k=>k=b) (q86 (S:=fun k=>k=b) (But.refl _ w).drew (.inl rfl) _) (.inl rfl) _,setRow_heap _ _ _ _ _ _ (by rw[←hW1];exact hb1)⟩
theorem zid(a c:List Value)(k:Nat):(a++c).drop (a.length+k)=c.drop k:=by rw[kT,kK (Nat.le_add_right _ _),Nat.add_sub_cancel_left,vK]
theorem zgb(w:World)(b vb vc i n:Nat)(L0:List E3)(x:E3)(post vpost:List Value)(E Ev:TypeId)(hL:L0.length=n)(hi:i<n)(hbig:(n+1) * 24≤140737488355328)(hne:vb≠b)
  (hb:w.heap[b]? =some (.cells (fls L0++post).toArray E (0,0)))(hv:w.heap[vb]? =some (.cells (fl3 x++vpost).toArray Ev (0,0))):
  Calls uG 107 #[.slice (some ⟨b,0,none⟩) n n,.int .i64 i,.slice (some ⟨vb,0,none⟩) 1 vc] w fun e w'=>
   ∃(G:Nat)(rest:List Value),e=.returned (.slice (some ⟨w.heap.size,0,none⟩) (n+1) G)∧But Nil w w'∧n+1≤G∧G≤maxLen∧rest.length=(G - (n+1)) * 3∧w'.heap[w.heap.size]? =some (.cells (fls (L0.take i++x::L0.drop i)++rest).toArray 102 (0,0)):=by
 have hlL:=qc0 L0
 have hlt:=qc0 (L0.take i)
 have hld:=qc0 (L0.drop i)
 have hsplit:fls L0=fls (L0.take i)++fls (L0.drop i):=by rw[←qrx,uK]
 have htl:(L0.take i).length=i:=by rw[kJ];omega
 have hdl:(L0.drop i).length=n - i:=by rw[uX,hL]
 have hbw:=qr hb
 have hvw:=qr hv
 obtain⟨i0,hi0,e0⟩:=kI.1 zcc
 obtain⟨i1,hi1,ez⟩:=kI.1 zs0
 obtain rfl:=gnI (hi0.symm.trans hi1)
 simp only[Prod.mk.injEq] at e0
 have hold:(vB i0.size i (.slice (some ⟨b,0,none⟩) i n)).run uG w.drew=.ok (fls (L0.take i)).toArray w.drew:=by
  rw[e0.1]
  exact run_firstCells_some w.drew 3 i ⟨b,0,none⟩ i n (fls (L0.take i)) (by omega) (fun j v hj=>by
   rw[Addr.add_lit,kL]
   refine qdc (w:=w.drew) (T:=E) hb ?_
   rw[hsplit,uM]
   exact uD (by have:=(gnH.1 hj).1;omega)▸hj)
 obtain⟨G,hG⟩:∃G,G=grownCap w (n+1) n 102:=⟨_,rfl⟩
 have hGn:n+1≤G:=by rw[hG];exact grownCap_ge w _ _ _
 have hGm:G≤maxLen:=by rw[hG];exact grownCap_le_maxLen w _ _ _ (by unfold maxLen;omega)
 have hik:i+(n+1 - i)=n+1:=by omega
 have hkk:(n:Int)+1 - (i:Int)=((n+1 - i:Nat):Int):=by omega
 obtain⟨Z,hZ,hrz⟩:∃Z:List Value,Z.length=(n+1 - i) * 3+(G - (n+1)) * 3∧∀ty,(Builtin.append_ #[98,3] ty #[.slice (some ⟨b,0,none⟩) i n,.int .i64 ((n:Int)+1 - (i:Int))]).run uG w=
   .ok (.slice (some ⟨w.heap.size,0,none⟩) (n+1) G) (w.drew.alloc (.cells (fls (L0.take i)++Z).toArray 102)):=by
  refine⟨(kP (Value.agg #[.int .i64 0,.int .i64 0,.int .i64 0]).cells (n+1 - i)).toList++(kP (Value.agg #[.int .i64 0,.int .i64 0,.int .i64 0]).cells (G - (n+1))).toList,by simp[kP,Value.cells],fun ty=>?_⟩
  have h:=Lib.run_append_grow_zeros w 98 3 ty 102 i0 _ .i64 .i64 z1x zof hi0 ez (some ⟨b,0,none⟩) i n (fls (L0.take i)) hold (n+1 - i) (by omega) (by omega) (by omega) (by omega) (by rw[e0.2];omega) (by rw[e0.2,hik];exact growslice_fits (by omega) hbig)
  rw[hik,←hG] at h
  rw[hkk,h]
  congr 3
  simp
 have hb1:(w.drew.alloc (.cells (fls (L0.take i)++Z).toArray 102)).heap[b]? =some (.cells (fls L0++post).toArray E (0,0)):=q30 (w:=w.drew) hb
 have hv1:(w.drew.alloc (.cells (fls (L0.take i)++Z).toArray 102)).heap[vb]? =some (.cells (fl3 x++vpost).toArray Ev (0,0)):=q30 (w:=w.drew) hv
 have hn1:(w.drew.alloc (.cells (fls (L0.take i)++Z).toArray 102)).heap[w.heap.size]? =some (.cells (fls (L0.take i)++Z).toArray 102 (0,0)):=q04 (w:=w.drew) rfl
 obtain⟨W1,hW1⟩:∃W1,W1=w.drew.alloc (.cells (fls (L0.take i)++Z).toArray 102):=⟨_,rfl⟩
 have hcpA:∀(W:World),W.heap=W1.heap→∀ty dc,(uQ #[98,98] ty #[.slice (some ⟨w.heap.size,i * 3,none⟩) (n+1 - i) dc,.slice (some ⟨vb,0,none⟩) 1 vc]).run uG W=.ok (goInt (1:Nat)) (W.setRow w.heap.size ((fls (L0.take i)++Z).toArray.toList.take (i * 3)++fl3 x++(fls (L0.take i)++Z).toArray.toList.drop (i * 3+(fl3 x).length)).toArray):=fun W hW ty dc=>
  qhf W ty w.heap.size (i * 3) (n+1 - i) dc ⟨vb,0,none⟩ 1 vc _ 102 (fl3 x) (by rw[hW,hW1];exact hn1) (by simp only[kV];split<;>omega) rfl
   (fun j v hj=>by
    rw[Addr.add_lit,kL]
    refine qdc (w:=W) (T:=Ev) (by rw[hW,hW1];exact hv1) ?_
    exact uD (by have:=(gnH.1 hj).1;omega)▸hj)
   (by simp[fl3];omega) (fun v hv=>qrw (l:=[x]) v (by simpa[fls] using hv))
 have hcurA:((fls (L0.take i)++Z).toArray.toList.take (i * 3)++fl3 x++(fls (L0.take i)++Z).toArray.toList.drop (i * 3+(fl3 x).length))=fls (L0.take i)++(fl3 x++Z.drop 3):=by
  show(fls (L0.take i)++Z).take _++_++(fls (L0.take i)++Z).drop _=_
  rw[show i * 3=(fls (L0.take i)).length by omega,kX,kT,kK (by omega),show(fls (L0.take i)).length+(fl3 x).length - (fls (L0.take i)).length=3 by simp[fl3]]
  simp
 rw[hcurA] at hcpA
 obtain⟨W2,hW2⟩:∃W2,W2=W1.setRow w.heap.size (fls (L0.take i)++(fl3 x++Z.drop 3)).toArray:=⟨_,rfl⟩
 have hn2:W2.heap[w.heap.size]? =some (.cells (fls (L0.take i)++(fl3 x++Z.drop 3)).toArray 102 (0,0)):=by rw[hW2];exact setRow_heap W1 _ _ _ _ _ (by rw[hW1];exact hn1)
 have hb2:W2.heap[b]? =some (.cells (fls L0++post).toArray E (0,0)):=by rw[hW2,setRow_other W1 _ b _ (by omega),hW1];exact hb1
 have hcpB:∀(W:World),W.heap=W2.heap→∀ty dc sc,(uQ #[98,98] ty #[.slice (some ⟨w.heap.size,(i+1) * 3,none⟩) (n - i) dc,.slice (some ⟨b,i * 3,none⟩) (n - i) sc]).run uG W=.ok (goInt (n - i:Nat)) (W.setRow w.heap.size ((fls (L0.take i)++(fl3 x++Z.drop 3)).toArray.toList.take ((i+1) * 3)++fls (L0.drop i)++(fls (L0.take i)++(fl3 x++Z.drop 3)).toArray.toList.drop ((i+1) * 3+(fls (L0.drop i)).length)).toArray):=fun W hW ty dc sc=>
  qhf W ty w.heap.size ((i+1) * 3) (n - i) dc ⟨b,i * 3,none⟩ (n - i) sc _ 102 (fls (L0.drop i)) (by rw[hW];exact hn2) (by simp only[kV];split<;>omega) (by rw[hld,hdl])
   (fun j v hj=>by
    rw[Addr.add_lit]
    refine qdc (w:=W) (T:=E) (by rw[hW];exact hb2) ?_
    rw[hsplit,uM,kE (by omega),show i * 3+j - (fls (L0.take i)).length=j by omega]
    exact uD (by have:=(gnH.1 hj).1;omega)▸hj)
   (by simp[fl3];omega) qrw
 have hcurB:((fls (L0.take i)++(fl3 x++Z.drop 3)).toArray.toList.take ((i+1) * 3)++fls (L0.drop i)++(fls (L0.take i)++(fl3 x++Z.drop 3)).toArray.toList.drop ((i+1) * 3+(fls (L0.drop i)).length))=fls (L0.take i++x::L0.drop i)++(Z.drop 3).drop ((n - i) * 3):=by
  show(fls (L0.take i)++(fl3 x++Z.drop 3)).take _++_++(fls (L0.take i)++(fl3 x++Z.drop 3)).drop _=_
  have e3:(fls (L0.take i)++fl3 x).length=(i+1) * 3:=by rw[uN];simp[fl3];omega
  rw[←uM,←e3,kX,zid,hld,hdl,qrx,qm4]
  simp
 rw[hcurB] at hcpB
 have hrest:((Z.drop 3).drop ((n - i) * 3)).length=(G - (n+1)) * 3:=by simp;omega
 generalize (Z.drop 3).drop ((n - i) * 3)=rest at *
 have hw1:IntKind.i64.wrap ((i:Int)+1)=(i:Int)+1:=by rw[IntKind.wrap_i64];omega
 have hz2:¬((i:Int)=(n:Int)):=by omega
 have h0i:(0:Int)≤(i:Int)+1:=by omega
 have hin:i≤n:=by omega
 have htn:((i:Int)+1).toNat=i+1:=by omega
 have hgi:¬(G=i):=by omega
 have hgi1:¬(G=i+1):=by omega
 have hni:¬(n=i):=by omega
 have hlt1:(n:Int)<(n:Int)+1:=by omega
 have hii:(i:Int)≤(n:Int):=by omega
 clear hcurA hcurB hkk hik hold hG
 go_enter vV,vO
 go_wp2_with (first
  |(at_builtin;refine Lib.wpList_append_run _ rfl _ _ _ _ rfl _ _ rfl rfl _ _ (hrz _) ?_)
  |(at_builtin;refine wpList_copy_runI _ rfl _ _ 98 98 rfl _ _ rfl rfl (hcpA _ (by rw[hW1]) _ _) ?_))
 have hcpC:∀ty dc sc,(uQ #[98,98] ty #[.slice (some ⟨w.heap.size,(i+1) * 3,none⟩) (n - i) dc,.slice (some ⟨b,i * 3,none⟩) (n - i) sc]).run uG ((w.alloc (.cells (fls (L0.take i)++Z).toArray 102)).drew.setRow w.heap.size (fls (L0.take i)++(fl3 x++Z.drop 3)).toArray).drew=_:=fun ty dc sc=>hcpB _ (by subst hW2 hW1;rfl) ty dc sc
 go_region_law (refine step_copy_runI rfl _ _ 98 98 rfl (.slice (some ⟨w.heap.size,(i+1) * 3,none⟩) (n - i) (G - (i+1))) (.slice (some ⟨b,i * 3,none⟩) (n - i) (n - i)) (by simp[Act.eval,Act.put]) (by simp[Act.eval,Act.put]) (hcpC _ _ _) ?_)
 go_wp2_with fail
 go_ret
 exact⟨G,rest,rfl,q86 (S:=Nil) (q86 (S:=Nil) ((But.refl Nil w).alloc _).drew (.inr (uH _)) _).drew (.inr (uH _)) _,hGn,hGm,hrest,setRow_heap _ _ _ _ _ _ (by subst hW2 hW1;exact hn2)⟩
end Ins
end
variable{A F:Nat→Prop}{cur:Array Value}{p:qi}{pin:Nat}
section
namespace Ins
def zvj(T:TypeId):TypeId:=match qk T with
 |some (.st S)=>S
 |_=>0
abbrev uS:TypeId:=zvj 102
abbrev cS:TypeId:=zvj 29
theorem tyU:qk 102=some (.st uS):=by kernel_rfl
theorem flU:flds uS=some [.int .i64,.st cS]:=by kernel_rfl
theorem flC:flds cS=some [.int .i64,.int .i64]:=by kernel_rfl
theorem wU:(Ty.st uS).w=3:=by kernel_rfl
theorem lmU:LM (.st uS)=5864062014634:=by kernel_rfl
def dE(x:E3):D:=.a [.i x.1,.a [.i x.2.1,.i x.2.2]]
def z9s(x:E3):Prop:=yw .i64 x.1=true∧yw .i64 x.2.1=true∧yw .i64 x.2.2=true
theorem zur{x:E3}(h:z9s x)(w:World)(F:Nat→Prop):Rd w F (dE x) (.st uS) (fl3 x):=
 ⟨_,_,rfl,flU,.int .i64,[.st cS],[.int .i64 x.1],[.int .i64 x.2.1,.int .i64 x.2.2],rfl,rfl,⟨.i64,rfl,rfl,h.1⟩,.st cS,[],[.int .i64 x.2.1,.int .i64 x.2.2],[],rfl,rfl,
  ⟨_,_,rfl,flC,.int .i64,[.int .i64],[.int .i64 x.2.1],[.int .i64 x.2.2],rfl,rfl,⟨.i64,rfl,rfl,h.2.1⟩,.int .i64,[],[.int .i64 x.2.2],[],rfl,rfl,⟨.i64,rfl,rfl,h.2.2⟩,rfl,rfl⟩,rfl,rfl⟩
theorem of_rdI{w:World}(h:Rd w F d (.int .i64) cs):∃n,yw .i64 n=true∧d=.i n∧cs=[.int .i64 n]:=by
 cases d<;>simp only[Rd,reduceCtorEq,false_and,exists_false,and_false] at h
 obtain⟨k,e,h1,h2⟩:=h
 injection e with e
 subst e
 exact⟨_,h2,rfl,h1⟩
theorem of_rdS{w:World}{S:TypeId}{fs:List Ty}(hfs:flds S=some fs)(h:Rd w F d (.st S) cs):∃l,d=.a l∧RdF w F l fs cs:=by
 cases d<;>simp only[Rd,reduceCtorEq,false_and,exists_false,and_false] at h
 obtain⟨T,fs',e,h1,h2⟩:=h
 injection e with e
 subst e
 obtain rfl:=gnI (h1.symm.trans hfs)
 exact⟨_,rfl,h2⟩
theorem of_rdF{w:World}{l:List D}{t:Ty}{ts:List Ty}(h:RdF w F l (t::ts) cs):∃d l' c1 c2,l=d::l'∧cs=c1++c2∧Rd w F d t c1∧RdF w F l' ts c2:=by
 cases l with
 |nil=>obtain⟨e,-⟩:=h;cases e
 |cons d l=>
  obtain⟨t',ts',c1,c2,e,e2,h1,h2⟩:=h
  injection e with e e'
  subst e e'
  exact⟨d,l,c1,c2,rfl,e2,h1,h2⟩
theorem of_rdN{w:World}{l:List D}(h:RdF w F l [] cs):l=[]∧cs=[]:=by
 cases l with
 |nil=>exact⟨rfl,h.2⟩
 |cons d l=>obtain⟨t',ts',c1,c2,e,-⟩:=h;cases e
theorem zqm{w:World}(h:Rd w F d (.st uS) cs):∃x,z9s x∧d=dE x∧cs=fl3 x:=by
 obtain⟨l,rfl,hF⟩:=of_rdS flU h
 obtain⟨d1,l1,c1,c2,rfl,rfl,h1,hG⟩:=of_rdF hF
 obtain⟨d2,l2,c3,c4,rfl,rfl,h2,hH⟩:=of_rdF hG
 obtain⟨rfl,rfl⟩:=of_rdN hH
 obtain⟨n1,r1,rfl,rfl⟩:=of_rdI h1
 obtain⟨l,rfl,hI⟩:=of_rdS flC h2
 obtain⟨d3,l3,c5,c6,rfl,rfl,h3,hJ⟩:=of_rdF hI
 obtain⟨d4,l4,c7,c8,rfl,rfl,h4,hK⟩:=of_rdF hJ
 obtain⟨rfl,rfl⟩:=of_rdN hK
 obtain⟨n2,r2,rfl,rfl⟩:=of_rdI h3
 obtain⟨n3,r3,rfl,rfl⟩:=of_rdI h4
 exact⟨(n1,n2,n3),⟨r1,r2,r3⟩,rfl,rfl⟩
theorem range_drop3{w:World}{b q:Nat}(hc:w.heap[b]? =some (.cells cur T (0,0))){x y z:Value}(h:w.rangeAt b q [x,y,z]):cur.toList.drop q=x::y::z::cur.toList.drop (q+3):=by
 have get:∀j v,([x,y,z]:List Value)[j]? =some v→cur.toList[q+j]? =some v:=fun j v hj=>by
  have:=h j v hj
  rw[cell_of_row w b _ cur T (0,0) hc,←Array.getElem?_toList] at this
  exact this
 have g0:=get 0 x rfl
 have g1:=get 1 y rfl
 have g2:=get 2 z rfl
 obtain⟨h0,e0⟩:=gnH.1 g0
 obtain⟨h1,e1⟩:=gnH.1 g1
 obtain⟨h2,e2⟩:=gnH.1 g2
 rw[uL (by omega:q<cur.toList.length),uL h1,uL (by omega:q+1+1<cur.toList.length)]
 simp only[Nat.add_zero] at e0
 rw[e0,e1]
 congr 3
theorem z7g{w:World}{b o:Nat}(hc:w.heap[b]? =some (.cells cur T (0,0))):∀{rs:List D}{i:Nat},RdE w F rs (.st uS) (some ⟨b,o,none⟩) i→∃L:List E3,rs=L.map dE∧(∀x∈L,z9s x)∧cur.toList.drop (o+i * 3)=fls L++cur.toList.drop (o+(i+rs.length) * 3)
 |[],i,_=>⟨[],rfl,fun x hx=>(by cases hx),by simp[fls]⟩
 |d::rs,i,⟨⟨b',o',cs,e,hF,hr,hd⟩,h⟩=>by
  injection e with e
  injection e with e1 e2
  subst e1 e2
  obtain⟨x,hx,rfl,rfl⟩:=zqm hd
  obtain⟨L,rfl,hL,hdr⟩:=z7g hc h
  rw[wU] at hr
  refine⟨x::L,rfl,fun y hy=>(uI.1 hy).elim (fun e=>e▸hx) (hL y),?_⟩
  have:=range_drop3 hc hr
  rw[this,show o+i * 3+3=o+(i+1) * 3 by omega,hdr,show i+1+(L.map dE).length=i+(dE x::L.map dE).length by simp;omega]
  rfl
theorem z5s{w:World}{dep:List Nat}{l:List D}{v:Value}(h:q1g A p w dep pin 102 (.st uS) l v)(h0:0<l.length):
  ∃g cap L post,v=.slice (some ⟨g,0,none⟩) l.length cap∧p pin=some g∧l=L.map dE∧(∀x∈L,z9s x)∧w.heap[g]? =some (.cells (fls L++post).toArray 102 (0,0))∧l.length≤cap∧cap≤maxLen∧post.length=(cap - l.length) * 3:=by
 rcases h with⟨-,rfl⟩|⟨g,cap,cur,rfl,hg,hh,h1,h2,h3,h4,h5⟩
 ·simp at h0
 ·obtain⟨L,hL,hok,hdr⟩:=z7g (F:=FFD A p (pin::dep)) (o:=0) hh (rs:=l) (i:=0) (q1m.2 fun j hj=>by
   obtain⟨cs,hr,hx⟩:=h5 j hj
   exact⟨g,0,cs,rfl,.inr ⟨pin,by simp,hg⟩,by simpa using hr,hx.mono fun b _ hb=>hb.mono fun x hx=>vD _ hx⟩)
  have hl:=qc0 L
  have hll:l.length=L.length:=by rw[hL,uC]
  simp only[vX,kL,List.drop_zero] at hdr
  rw[wU] at h3
  have hcl:=congrArg kM hdr
  rw[uN,uX,Array.length_toList] at hcl
  refine⟨g,cap,L,cur.toList.drop (l.length * 3),rfl,hg,hL,hok,?_,h1,h2,?_⟩
  ·rw[←hdr]
   exact hh
  ·rw[uX,Array.length_toList]
   omega
theorem zcp:∀{l:List E3}{i:Nat}(h:i<l.length){j:Nat}{v:Value},(fl3 l[i])[j]? =some v→(fls l)[i * 3+j]? =some v
 |x::l,0,_,j,v,hj=>by
  rw[vX,kL,qm4]
  exact uD (by have:=(gnH.1 hj).1;exact this)▸hj
 |x::l,i+1,h,j,v,hj=>by
  have:=zcp (l:=l) (i:=i) (by simpa using h) (j:=j) (v:=v) (by simpa using hj)
  rw[qm4,show(i+1) * 3+j=i * 3+j+3 by omega]
  exact this
theorem zq2{w:World}{g cap:Nat}{M:List E3}{post:List Value}(hp:p pin=some g)(hM:∀x∈M,z9s x)(hh:w.heap[g]? =some (.cells (fls M++post).toArray 102 (0,0)))(h1:M.length≤cap)(h2:cap≤maxLen)(h3:post.length=(cap - M.length) * 3)(h4:M.length≤5864062014634):
  q1g A p w [] pin 102 (.st uS) (M.map dE) (.slice (some ⟨g,0,none⟩) M.length cap):=by
 have hl:=qc0 M
 refine .inr ⟨g,cap,_,by rw[uC],hp,hh,by rw[uC];exact h1,h2,by rw[vI,uN,wU];omega,by rw[uC,lmU];exact h4,fun i hi=>?_⟩
 have hi':i<M.length:=by simpa using hi
 refine⟨fl3 M[i],fun j v hj=>?_,by simpa using zur (hM _ (List.getElem_mem hi')) _ _⟩
 rw[wU]
 have:=zcp hi' hj
 exact qdc hh (uD (by have:=(gnH.1 this).1;exact this)▸this)
end Ins
open Ins
def zqr:List D→Option (List D)
 |[r,i,v]=>if v.rs.length=1∧0≤i.int∧i.int≤r.rs.length∧r.rs.length+1≤5864062014634 then some [.r (r.rs.take i.int.toNat++v.rs++r.rs.drop i.int.toNat)] else none
 |_=>none
theorem zig{w:World}(h:Con A p w d (.row 102) [(0,pin)] [] cs):∃l v,d=.r l∧cs=[v]∧q1g A p w [] pin 102 (.st uS) l v:=by
 rcases h with⟨E,te,l,v,e,hte,rfl,rfl,h⟩|⟨K,V,kt,vt,l,g,es,clock,e,-⟩
 ·injection e with e
  subst e
  obtain rfl:=gnI (hte.symm.trans tyU)
  exact⟨l,v,rfl,rfl,h⟩
 ·cases e
set_option maxHeartbeats 1000000 in
theorem qcx:FOk qh zqr:=FOk.of_at jf fun ds outs hw hg=>by
 obtain⟨d,r,rfl,hd,e,r',rfl,he,e2,r2,rfl,he2,hw⟩:=hw
 obtain rfl:r2=[]:=hw
 obtain⟨l,te,rfl,hte,hl,-⟩:=hd.row
 obtain⟨n,rfl,hn⟩:=wfI he
 obtain⟨m,te2,rfl,hte2,hm,-⟩:=he2.row
 have hg':(if m.length=1∧0≤n∧n≤l.length∧l.length+1≤5864062014634 then some [.r (l.take n.toNat++m++l.drop n.toNat)] else none)=some outs:=hg
 split at hg'
 case isFalse=>cases hg'
 rename_i hc
 obtain⟨h1,h2,h3,h4⟩:=hc
 injection hg' with hg'
 subst hg'
 clear hg
 by_cases hnl:n=l.length
 ·refine zmf (fun F=>[(jz qh.f qm,fun _=>some [.i (F.mx qm)]),(jz qh.f ye,fun _=>some [.i (F.mx ye)]),(jz qh.f q2n,fun _=>some [.i (F.mx q2n)]),(jz qh.f yq,fun _=>some [.i (F.mx yq)])]) q56 Tryz.f107 _ (fun F=>.cons (q1x _ jf _ _) (.cons (q1x _ jf _ _) (.cons (q1x _ jf _ _) (.cons (q1x _ jf _ _) .nil)))) rfl rfl (by decide) (fun F=>?_) (fun F=>rfl) (fun F hfl te=>?_)
  rotate_left
  ·rcases hfl te with h|⟨k,j,hm,-⟩
   ·rw[h];exact uF _
   ·rw[show qh.fl=[(999,0,qm),(999,1,ye),(999,2,q2n),(999,3,yq)] from rfl] at hm
    simp only[gnM] at hm
    rcases hm with⟨-,-,rfl⟩|⟨-,-,rfl⟩|⟨-,-,rfl⟩|⟨-,-,rfl⟩<;>exact uH _
  rw[qbt _ _ _ _ _ rfl]
  subst hnl
  simp[q4d,Tree.go,q06,X.says,X.ev,X.evs,evl,D.rs,D.int,D.tt,h1]
  omega
 ·intro A F p w vs us hfl hfo hpre hvl hargs
  have hF0:F.mx (.st uS)=0:=by
   rcases hfl (.st uS) with h|⟨k,j,hm,-⟩
   ·exact h
   ·have h1:(qh.fl.all fun e=> !Ty.beq e.2.2 (.st uS))=true:=by kernel_rfl
    have h2:=uY.1 h1 _ hm
    rw[show Ty.beq (.st uS) (.st uS)=true from(Ty.beq_iff _ _).2 rfl] at h2
    cases h2
  obtain⟨v0,r0,d0,ds0,e0,e00,⟨cs0,hpk0,hc0⟩,v1,r1,d1,ds1,e1,e11,⟨cs1,hpk1,hc1⟩,v2,r2,d2,ds2,e2',e22,⟨cs2,hpk2,hc2⟩,hr⟩:=hargs
  obtain rfl:r2=[]:=hr.1
  subst e1 e2'
  obtain⟨rfl,rfl⟩:=uZ e00
  obtain⟨rfl,rfl⟩:=uZ e11
  obtain⟨rfl,-⟩:=uZ e22
  clear e00 e11 e22 hr
  obtain⟨rfl,rfl⟩:vs=[v0,v1,v2]∧us=[]:=by
   have hl3:vs.length=3:=hvl
   have hus:us.length=0:=by
    have:=congrArg kM e0
    simp at this
    omega
   obtain rfl:=uT.1 hus
   exact⟨by simpa using e0,rfl⟩
  clear e0
  have hc0:Con A p w (D.r l) (.row 102) [(0,1)] [] cs0:=hc0
  have hc2:Con A p w (D.r m) (.row 102) [(0,33)] [] cs2:=hc2
  obtain⟨l',u0,q0,rfl,ho0⟩:=zig hc0
  obtain⟨m',u2,q2,rfl,ho2⟩:=zig hc2
  injection q0 with q0
  injection q2 with q2
  subst q0 q2
  obtain rfl:u0=v0:=(uZ hpk0).1
  obtain rfl:u2=v2:=(uZ hpk2).1
  obtain⟨n',-,e,rfl⟩:=of_rdI hc1
  injection e with e
  subst e
  obtain rfl:Value.int .i64 n=v1:=(uZ hpk1).1
  obtain⟨g,cap,L,post,rfl,hpg,hL,hLo,hg,hcap,hcm,hpost⟩:=z5s ho0 (by omega)
  obtain⟨g2,cap2,M,post2,rfl,hpg2,hM,hMo,hg2,hcap2,-,-⟩:=z5s ho2 (by omega)
  have hne:g2≠g:=fun e=>by
   subst e
   have:=hpre.inj _ _ _ hpg2 hpg
   omega
  have hLl:l.length=L.length:=by rw[hL,uC]
  obtain⟨x,rfl⟩:∃x,M=[x]:=by
   have:M.length=1:=by rw[←h1,hM,uC]
   exact List.length_eq_one_iff.1 this
  have hx:z9s x:=hMo x (by simp)
  obtain⟨i,rfl⟩:∃i:Nat,n=i:=⟨n.toNat,by omega⟩
  have hi:i<L.length:=by omega
  have hg2:w.heap[g2]? =some (.cells (fl3 x++post2).toArray 102 (0,0)):=by simpa[fls] using hg2
  have hout:l.take (i:Int).toNat++m++l.drop (i:Int).toNat=(L.take i++x::L.drop i).map dE:=by
   rw[hL,hM,uU]
   simp
  have hNo:∀y∈L.take i++x::L.drop i,z9s y:=fun y hy=>by
   rcases kA.1 hy with h|h
   ·exact hLo y (List.mem_of_mem_take h)
   ·rcases uI.1 h with rfl|h
    ·exact hx
    ·exact hLo y (List.mem_of_mem_drop h)
  have hNl:(L.take i++x::L.drop i).length=L.length+1:=by simp;omega
  have hlm:cap≤9223372036854775807:=by unfold maxLen at hcm;omega
  have fin:∀(g' cap':Nat)(post':List Value)(w':World),A g'→(pinned p g'∨w.heap.size≤g')→But (pinned p) w w'→Flo F w w'→w'.heap[g']? =some (.cells (fls (L.take i++x::L.drop i)++post').toArray 102 (0,0))→L.length+1≤cap'→cap'≤maxLen→post'.length=(cap' - (L.length+1)) * 3→
    ∃rs p',Ending.returned (.slice (some ⟨g',0,none⟩) (L.length+1) cap')=.returned (qi5 rs)∧Bs A F w (pinned p) p' w'∧qav A p' w' qh.rs qh.ar.length rs (List.take qh.rs.length [D.r (l.take (i:Int).toNat++m++l.drop (i:Int).toNat)])∧q45 A p p' w' qh.all (List.drop qh.rs.length [D.r (l.take (i:Int).toNat++m++l.drop (i:Int).toNat)]):=by
   intro g' cap' post' w' hA hgp hb hflo hh a1 a2 a3
   have hp':∀y b,(fun y=>if y=49 then some g' else none:qi) y=some b→y=49∧b=g':=fun y b h=>by
    by_cases hy:y=49
    ·subst hy
     exact⟨rfl,(gnI h).symm⟩
    ·simp[hy] at h
   refine⟨[.slice (some ⟨g',0,none⟩) (L.length+1) cap'],fun y=>if y=49 then some g' else none,rfl,⟨?_,?_,hb,?_,hpre.new,?_,?_,hflo⟩,?_,rfl⟩
   ·intro y z b h1 h2
    rw[(hp' y b h1).1,(hp' z b h2).1]
   ·intro y b h
    rw[(hp' y b h).2]
    exact qr hh
   ·intro y b h
    rw[(hp' y b h).2]
    exact hgp
   ·intro y b h
    rw[(hp' y b h).2]
    exact hA
   ·intro y b h
    rw[(hp' y b h).2]
    exact .inl ⟨_,_,hh⟩
   ·refine⟨_,_,_,_,rfl,rfl,⟨[.slice (some ⟨g',0,none⟩) (L.length+1) cap'],rfl,?_⟩,rfl⟩
    refine .inl ⟨102,.st uS,_,_,rfl,tyU,rfl,rfl,?_⟩
    rw[hout,←hNl]
    exact zq2 rfl hNo hh (by rw[hNl];exact a1) a2 (by rw[hNl];exact a3) (by rw[hNl];omega)
  rw[h1,hLl]
  by_cases hroom:L.length+1≤cap
  ·refine Calls.mono (ziv w g cap g2 cap2 i L.length L x post post2 102 102 rfl hi hroom hlm hne (by rw[hpost];omega) hg hg2) ?_
   rintro e w'⟨rfl,hb,hh⟩
   exact .inr (fin g cap _ w' (hpre.pa _ _ hpg) (.inl ⟨_,hpg⟩) (hb.mono fun k hk _=>hk▸⟨_,hpg⟩) (hfo.same fun k hk h0=>hb.block k hk fun e=>by
    subst e
    obtain⟨cs,cs',T,te,f1,f2,f3,f4,-⟩:=hfo k h0
    rw[hg] at f2
    injection f2 with f2
    injection f2 with f5 f6
    subst f6
    obtain rfl:=gnI (tyU.symm.trans f3)
    rw[hF0] at f4
    omega) hh hroom hcm (by rw[uX,hpost];omega))
  ·have hcl:cap=L.length:=by omega
   subst hcl
   refine Calls.mono (zgb w g g2 cap2 i L.length L x post post2 102 102 rfl hi (by omega) hne hg hg2) ?_
   rintro e w'⟨G,rest,rfl,hb,a1,a2,a3,hh⟩
   exact .inr (fin _ G _ w' (hpre.new _ (uH _)).1 (.inr (uH _)) hb.of_nil (hfo.same fun k hk _=>hb.block k hk id) hh a1 a2 a3)
end
def zq9:List D→Option (List D)
 |[x]=>some [.b false]
 |_=>none
theorem qiv:FOk jh zq9:=qhk fun ds outs hw hg=>by
 obtain⟨d,r,rfl,hd,rfl⟩:=hw
 simp only[zq9,uA] at hg
 subst hg
 simp[q4h,gnZ,gnT]
def znr:List D→Option (List D)
 |[x,v]=>some [.i (if x.int<v.int then -1 else if v.int<x.int then 1 else 0)]
 |_=>none
theorem q93:FOk zj znr:=qev qiv fun ds outs hw hg=>by
 obtain⟨d,r,rfl,hd,e,r',rfl,he,rfl⟩:=hw
 obtain⟨x,rfl,hx⟩:=wfI hd
 obtain⟨v,rfl,hv⟩:=wfI he
 simp only[znr,yh,uA] at hg
 subst hg
 simp only[q3n,gnZ,gnT,zq9]
 by_cases h1:x<v<;>by_cases h2:v<x<;>simp[h1,h2]
def zl2:List D→Option (List D)
 |[x,v]=>some [.i (if(dV x).v<v.int then -1 else if v.int<(dV x).v then 1 else 0)]
 |_=>none
theorem qvb:FOk q18 zl2:=qqw q93 fun ds outs hw hg=>by
 obtain⟨d,r,rfl,hd,e,r',rfl,he,rfl⟩:=hw
 obtain⟨x,rfl,hx,-⟩:=wfV hd
 obtain⟨v,rfl,hv⟩:=wfI he
 simp only[zl2,quj,yh,uA] at hg
 subst hg
 simp[q8c,gnZ,gnT,znr,z5x]
 rfl
theorem qz3:FOk q23 q5m:=qvl fun ds outs hw hg=>by
 obtain⟨d,r,rfl,hd,rfl⟩:=hw
 obtain⟨c,rfl,hc⟩:=wfC hd
 simp only[q5m,yt,uA] at hg
 subst hg
 simp only[q9n,gnZ,gnT,q1f]
 by_cases h:c.t=5<;>simp[h]
 rfl
def zkl:List D→Option (List D)
 |[l,v]=>if SV (dVs l) then some [.i (loV (dVs l) v.int),.b (ofV (dVs l) v.int).isSome] else none
 |_=>none
theorem ztz{n:Int}(h0:0≤n)(h1:n≤9223372036854775807):yw .u64 n=true:=by
 simp[yw]
 omega
theorem z8o(a v:Int){i1:Decidable (a<v)}{i2:Decidable (v<a)}:((if a<v then(-1:Int) else if v<a then 1 else 0)<0)↔a<v:=by
 split
 ·simp_all
 ·split<;>simp_all
theorem half(i j:Nat):((i:Int)+(j:Int)).fdiv (2^(1:Int).toNat)=((i+j) / 2:Nat):=by
 rw[show(2:Int)^(1:Int).toNat=2 from rfl,Int.fdiv_eq_ediv_of_nonneg _ (by omega)]
 omega
theorem zbe{l:List Vc}(h:SV l){i j:Nat}(hij:i≤j)(hj:j<l.length):(l.getD i default).v≤(l.getD j default).v:=by
 rcases vH hij with h1|rfl
 ·have h2:i<l.length:=by omega
  have:=kG.1 h.1 i j h2 hj h1
  simp only[gnG,gnK h2,gnK hj,kH]
  omega
 ·exact kW _
theorem q2i:FOk qo zkl:=q5n qvb fun ds outs hw hg=>by
 obtain⟨d,r,rfl,hd,e,r',rfl,he,rfl⟩:=hw
 obtain⟨l,rfl,hl,hok⟩:=qxh hd
 obtain⟨v,rfl,hv⟩:=wfI he
 simp only[zkl,q0a,yh,uB,uA] at hg
 obtain⟨hs,rfl⟩:=hg
 rw[q00,j3]
 refine⟨fun st=>∃i j:Nat,i≤j∧j≤l.length∧st=[.i i,.i j]∧(∀k,k<i→(l.getD k default).v<v)∧(∀k,j≤k→k<l.length→v≤(l.getD k default).v),fun st=>(st.getD 1 .u).int.toNat - (st.getD 0 .u).int.toNat,⟨0,l.length,uF _,uH _,by simp[X.evs,X.ev,evl,D.rs],fun k hk=>absurd hk (kB _),fun k h1 h2=>by omega⟩,?_⟩
 rintro st - ⟨i,j,hij,hj,rfl,h1,h2⟩
 rw[zd]
 refine⟨fun hlt=>?_,fun hlt=>?_⟩
 ·simp only[gnZ,gnT] at hlt
  have hm:(i+j) / 2<l.length:=by omega
  simp only[gnZ,gnT,fnD,half,q3k eV hm,zl2,quj,z8o]
  have hk:i+j≤2 * 5864062014634:=by omega
  refine⟨⟨⟨by omega,by omega⟩,ztz (by omega) (by omega),ztz (by omega) (by omega),by omega,by omega⟩,⟨by omega,by omega⟩,fun hb=>⟨⟨by omega,by omega⟩,?_⟩,fun hb=>?_⟩
  ·have hlv:(l.getD ((i+j) / 2) default).v<v:=by first|exact(z8o _ _).1 hb|exact hb
   rw[q2r,if_pos rfl]
   refine⟨⟨(i+j) / 2+1,j,by omega,hj,by simp,fun k hk=>?_,h2⟩,?_⟩
   ·have:=zbe hs (show k≤(i+j) / 2 by omega) hm
    omega
   ·simp[D.int]
    omega
  ·have hlv:v≤(l.getD ((i+j) / 2) default).v:=Int.not_lt.1 fun q=>by first|exact hb ((z8o _ _).2 q)|exact hb q
   rw[q2r,if_pos rfl]
   refine⟨⟨i,(i+j) / 2,by omega,by omega,by simp,h1,fun k hk hkl=>?_⟩,?_⟩
   ·have:=zbe hs (show(i+j) / 2≤k by omega) hkl
    omega
   ·simp[D.int]
    omega
 ·simp only[gnZ,gnT] at hlt
  have hl1:loV l v=i:=zgv (by omega) h1 fun k hk hkl=>h2 k (by omega) hkl
  rw[z9g hs,hl1]
  by_cases hil:i<l.length
  ·simp only[gnZ,gnT,q3k eV hil,zl2,quj]
   have e0:(i:Int)<l.length:=by omega
   have e1:(0:Int)≤i:=by omega
   have hx:v≤(l.getD i default).v:=h2 i (by omega) hil
   generalize l.getD i default=z at hx
   simp only[e0,e1,decide_true,vT,vU,kQ,true_and,hil]
   by_cases hz:z.v=v
   ·have h3:¬z.v<v:=by omega
    have h4:¬v<z.v:=by omega
    simp[hz]
   ·have h3:¬z.v<v:=by omega
    have h4:v<z.v:=by omega
    simp[hz,h3,h4]
  ·have e0:¬(i:Int)<l.length:=by omega
   simp[gnZ,gnT,e0,hil]
def eM(ms:List Sy):List D:=ms.map fun y=>.a [eY y,.b true]
def dM(d:D):List Sy:=d.ms.map fun p=>dY (p.fld 0)
theorem zp6(ms:List Sy):dM (.mp (eM ms))=ms:=by
 show(ms.map fun y=>D.a [eY y,.b true]).map (fun p=>dY (p.fld 0))=ms
 rw[kY]
 exact vQ (fun x=>rfl) ms
theorem z6p(y:Sy):∀ms:List Sy,mfind (eY y) (eM ms)=if y∈ms then some (.b true) else none
 |[]=>by simp[eM,mfind]
 | z :: ms => by
  have ih:=z6p y ms
  show(if eY z=eY y then some (D.b true) else mfind (eY y) (eM ms))=_
  by_cases h:z=y
  ·subst h
   rw[if_pos rfl]
   simp
  ·have h':¬y=z:=fun e=>h e.symm
   rw[if_neg (fun e=>h (qv9 e)),ih]
   simp[h']
theorem zcj{y:Sy}:∀{ms:List Sy},y∉ms→mset (eY y) (.b true) (eM ms)=eM (ms++[y])
 |[],_=>by simp[eM,mset]
 |z::ms,h=>by
  have h1:¬z=y:=fun e=>h (by simp[e])
  have h2:y∉ms:=fun e=>h (by simp[e])
  have ih:=zcj h2
  show(if eY z=eY y then D.a [eY y,.b true]::eM ms else D.a [eY z,.b true]::mset (eY y) (.b true) (eM ms))=_
  rw[if_neg (fun e=>h1 (qv9 e)),ih]
  rfl
theorem z0p(ys:List Sy):∀(l m:List Te)(ms:List Sy),q7g ys ms (l++m)=q7g ys (q7g ys ms l) m
 |[],m,ms=>rfl
 |t::l,m,ms=>by rw[kU,q7g,q7g,z0p ys l m]
theorem qnu:∀(l m:List Te),q2l (l++m)=q2l l+q2l m
 |[],m=>by simp[q2l]
 |t::l,m=>by rw[kU,q2l,q2l,qnu l m];omega
theorem zr6(ys ms:List Sy)(t:Te):qdh ys ms t=q7g ys (if t.k=2∨t.k=3 then qwc ys ms ⟨t.s,(t.l.length:Nat)⟩ else ms) t.l:=by
 cases t
 rw[qdh]
 rfl
theorem ziz(t:Te):q8j t=if t.k=3 then 1+t.l.length+q2l t.l else 0:=by
 cases t
 rw[q8j]
 rfl
theorem zrh(h:q6y t=true)(h3:¬t.k=3):t.l=[]:=by
 obtain⟨k,n,nm,l⟩:=t
 rcases q1o h with h|h|h|h
 ·exact h.2.1
 ·exact h.2
 ·exact h.2.1
 ·exact(h3 h.1).elim
def z2f:List D→Option (List D)
 |[t,m,n,s]=>if m=.mp (eM (dM m))∧z7 (dT t)=true∧0≤n.int∧n.int+q8j (dT t)≤1099511627776 then some [.mp (eM (qdh (dS s).ys (dM m) (dT t))),.i (n.int+q8j (dT t))] else none
 |_=>none
theorem qp9:FOk zr z2f:=qc2 (m:=mT) qbp fun N ih=>qo2 ih qie fun ds outs hw hg=>by
 obtain⟨d,r,rfl,hd,e,r',rfl,he,f,r2,rfl,hf,q,r3,rfl,hq,rfl⟩:=hw
 obtain⟨t,rfl,ht⟩:=wfT hd
 obtain⟨n,rfl,hn⟩:=wfI hf
 obtain⟨s,rfl,hs⟩:=wfS hq
 simp only[q69,mT,z2f,uE,ju,yh,qy,uB,uA] at hg
 obtain⟨hsz,⟨hm,hnd,h0,h1⟩,rfl⟩:=hg
 obtain⟨ms,hms⟩:∃ms,e=.mp (eM ms):=⟨_,hm⟩
 subst hms
 rw[zp6]
 have hl:=ht.l
 have hnl:=(q6n t).1 hnd
 have key:∀(x1 x2:X)(ms0:List Sy)(n0:Int),x1.ev (evl (qe [(zr,q69 mT N z2f),(ym,qdo)]) [eT t,.mp (eM ms),.i n,eS s])=.mp (eM ms0)→x2.ev (evl (qe [(zr,q69 mT N z2f),(ym,qdo)]) [eT t,.mp (eM ms),.i n,eS s])=.i n0→0≤n0→n0+q2l t.l=n+q8j t→q7g s.ys ms0 t.l=qdh s.ys ms t→Tree.go (qe [(zr,q69 mT N z2f),(ym,qdo)]) (fun o=>o=[.mp (eM (qdh s.ys ms t)),.i (n+q8j t)]) (.loop 8 4 [(.lit (.i 0)),x1,x2] (.br (.lt (.tok 4) (.len (.fld (.tok 0) 3))) (.need [(.le (.lit (.i 0)) (.tok 4)),(.lt (.tok 4) (.len (.fld (.tok 0) 3)))] (.need [(.ok 0 [(.get (.fld (.tok 0) 3) (.tok 4)),(.tok 5),(.tok 6),(.tok 3)])] (.need [(.rng .i64 (.add (.tok 4) (.lit (.i 1))))] (.back 8 [(.add (.tok 4) (.lit (.i 1))),(.call 0 0 [(.get (.fld (.tok 0) 3) (.tok 4)),(.tok 5),(.tok 6),(.tok 3)]),(.call 0 1 [(.get (.fld (.tok 0) 3) (.tok 4)),(.tok 5),(.tok 6),(.tok 3)])])))) (.leaf [(.tok 5),(.tok 6)]))) [eT t,.mp (eM ms),.i n,eS s] fun _ _=>False:=by
  intro x1 x2 ms0 n0 hx1 hx2 hn0 hc hv
  rw[j3]
  refine⟨fun st=>∃k:Nat,k≤t.l.length∧st=[.i k,.mp (eM (q7g s.ys ms0 (t.l.take k))),.i (n0+q2l (t.l.take k))],fun st=>t.l.length - (st.getD 0 .u).int.toNat,⟨0,uF _,by simp only[X.evs,hx1,hx2,X.ev];simp[q7g,q2l]⟩,?_⟩
  rintro st - ⟨k,hk,rfl⟩
  rw[zd]
  refine⟨fun hlt=>?_,fun hlt=>?_⟩
  ·simp only[gnZ,gnT] at hlt
   have hkl:k<t.l.length:=by omega
   have ha:=qfz hkl
   have hsn:q2l (t.l.take (k+1))=q2l (t.l.take k)+q8j (t.l.getD k default):=by
    rw[qah hkl,qnu]
    simp[q2l]
   have hle:q2l (t.l.take (k+1))≤q2l t.l:=by
    have:=qnu (t.l.take (k+1)) (t.l.drop (k+1))
    rw[uK] at this
    omega
   have hvs:q7g s.ys ms0 (t.l.take (k+1))=qdh s.ys (q7g s.ys ms0 (t.l.take k)) (t.l.getD k default):=by
    rw[qah hkl,z0p]
    rfl
   have hq:(z7 (t.l.getD k default)=true∧0≤n0+(q2l (t.l.take k):Int)∧n0+(q2l (t.l.take k):Int)+q8j (t.l.getD k default)≤1099511627776):=⟨hnl.2 k hkl,by omega,by omega⟩
   simp only[gnZ,gnT,qej hkl,q69,mT,z2f,if_pos hq,if_pos (show szT (t.l.getD k default)<N by omega),zp6]
   refine⟨⟨by omega,by omega⟩,⟨by omega,by omega⟩,?_⟩
   rw[q2r,if_pos rfl]
   refine⟨⟨k+1,by omega,?_⟩,?_⟩
   ·rw[hvs,hsn]
    simp
    omega
   ·simp[D.int]
    omega
  ·simp only[gnZ,gnT] at hlt⊢
   have:k=t.l.length:=by omega
   subst this
   rw[uW,hv,hc]
 rw[q7d]
 have ey:D.a [.s t.s,.i (t.l.length:Nat)]=eY ⟨t.s,(t.l.length:Nat)⟩:=rfl
 simp only[gnZ,gnT,qdo,fnD,ey,zbt,z6p]
 have hc3:t.k=3→q8j t=1+t.l.length+q2l t.l:=fun h=>by rw[ziz,if_pos h]
 have hc0:¬t.k=3→q8j t=0∧q2l t.l=0:=fun h=>by
  rw[ziz,if_neg h,zrh hnl.1 h]
  exact⟨rfl,rfl⟩
 have hvm:=zr6 s.ys ms t
 have hput:∀ms0,ms0=qwc s.ys ms ⟨t.s,(t.l.length:Nat)⟩→(decide (t.k=2)||decide (t.k=3))=true→q7g s.ys ms0 t.l=qdh s.ys ms t:=fun ms0 e h=>by
  rw[hvm,e,if_pos (by simpa using h)]
 have hM:(X.fn 2 [.tok 1,.mk [.fld (.tok 0) 2,.len (.fld (.tok 0) 3)],.lit (.b true)]).ev (evl (qe [(zr,q69 mT N z2f),(ym,qdo)]) [eT t,.mp (eM ms),.i n,eS s])=.mp (mset (eY ⟨t.s,(t.l.length:Nat)⟩) (.b true) (eM ms)):=by
  simp only[gnZ,gnT,fnD,ey,zbt]
 have hN:(X.add (.tok 2) (.add (.len (.fld (.tok 0) 3)) (.lit (.i 1)))).ev (evl (qe [(zr,q69 mT N z2f),(ym,qdo)]) [eT t,.mp (eM ms),.i n,eS s])=.i (n+((t.l.length:Nat)+1)):=by
  simp only[gnZ,gnT]
 have hno:((!((if(⟨t.s,(t.l.length:Nat)⟩:Sy)∈ms then some (D.b true) else none).getD (D.b false)).tt&&decide (q6e s t.s (t.l.length:Nat)<0))=true)↔¬((⟨t.s,(t.l.length:Nat)⟩:Sy)∈ms∨(⟨t.s,(t.l.length:Nat)⟩:Sy)∈s.ys):=by
  rw[←qgy (s:=s) (nm:=t.s) (ar:=(t.l.length:Nat))]
  by_cases hm:(⟨t.s,(t.l.length:Nat)⟩:Sy)∈ms
  ·simp[hm,D.tt]
  ·simp[hm,D.tt]
 refine⟨fun h23=>⟨fun hc=>?_,fun hc=>?_⟩,fun h23=>?_⟩
 ·have hc':=hno.1 hc
  have e1:qwc s.ys ms ⟨t.s,(t.l.length:Nat)⟩=ms++[⟨t.s,(t.l.length:Nat)⟩]:=by rw[qwc,if_neg hc']
  rw[zcj fun q=>hc' (.inl q),←e1] at hM
  exact⟨fun h3=>⟨⟨⟨by omega,by omega⟩,by omega,by have:=hc3 h3;omega⟩,key _ _ _ _ hM hN (by omega) (by have:=hc3 h3;omega) (hput _ rfl h23)⟩,fun h3=>key _ _ _ _ hM rfl h0 (by have:=hc0 h3;omega) (hput _ rfl h23)⟩
 ·have hc':(⟨t.s,(t.l.length:Nat)⟩:Sy)∈ms∨(⟨t.s,(t.l.length:Nat)⟩:Sy)∈s.ys:=Classical.byContradiction fun q=>by
   rw[hno.2 q] at hc
   cases hc
  have e1:ms=qwc s.ys ms ⟨t.s,(t.l.length:Nat)⟩:=by rw[qwc,if_pos hc']
  exact⟨fun h3=>⟨⟨⟨by omega,by omega⟩,by omega,by have:=hc3 h3;omega⟩,key _ _ _ _ rfl hN (by omega) (by have:=hc3 h3;omega) (hput _ e1 h23)⟩,fun h3=>key _ _ _ _ rfl rfl h0 (by have:=hc0 h3;omega) (hput _ e1 h23)⟩
 ·have h3:¬t.k=3:=fun q=>by simp[q] at h23
  have h4:¬(t.k=2∨t.k=3):=fun q=>by
   rcases q with q|q<;>simp[q] at h23
  rw[if_neg h4] at hvm
  exact⟨fun q=>(h3 q).elim,fun _=>key _ _ _ _ rfl rfl h0 (by have:=hc0 h3;omega) hvm.symm⟩
theorem qd9:FOk yk (gCl 5864062014634):=qcg fun ds outs hw hg=>by
 obtain⟨d,r,rfl,hd,rfl⟩:=hw
 obtain⟨l,te,rfl,-⟩:=hd.row
 simp only[gCl,z9c,uB,uA] at hg
 obtain⟨h1,rfl⟩:=hg
 exact zj2 h1 rfl
def vAt(s:So)(l:List Vc)(k:Nat):Bool:=decide (0≤(l.getD k default).v)&&(decide ((l.getD k default).v≤1099511627776)&&(decide (k=0∨(l.getD (k - 1) default).v<(l.getD k default).v)&&vcP s (l.getD k default).c))
def vvP(s:So)(l:List Vc):Bool:=(vY l.length).all (vAt s l)
theorem qhe{l:List Vc}{i:Nat}(h:i<l.length):l.getD i default=l[i]:=by
 rw[gnG,gnK h]
 rfl
theorem qc3{s:So}{l:List Vc}:vvP s l=true↔SV l∧∀x∈l,vcP s x.c=true:=by
 unfold vvP
 rw[uY]
 constructor
 ·intro h
  have h':∀k,k<l.length→vAt s l k=true:=fun k hk=>h k (kD.2 hk)
  have step:∀j i,i<j→j<l.length→(l.getD i default).v<(l.getD j default).v:=by
   intro j
   induction j with
   |zero=>intro i hi;omega
   | succ j ih =>
    intro i hi hj
    have h1:=h' (j+1) hj
    simp only[vAt,gnB,gnD] at h1
    have h2:(l.getD j default).v<(l.getD (j+1) default).v:=by
     rcases h1.2.2.1 with h|h
     ·omega
     ·exact h
    rcases vH (Nat.le_of_lt_succ hi) with h3|rfl
    ·have:=ih i h3 (by omega)
     omega
    ·exact h2
  refine⟨⟨kG.2 fun i j hi hj hij=>?_,fun x hx=>?_⟩,fun x hx=>?_⟩
  ·have:=step j i hij hj
   rw[qhe hi,qhe hj] at this
   exact this
  ·obtain⟨i,hi,rfl⟩:=vC.1 hx
   have h1:=h' i hi
   simp only[vAt,gnB,gnD,qhe hi] at h1
   exact⟨h1.1,h1.2.1⟩
  ·obtain⟨i,hi,rfl⟩:=vC.1 hx
   have h1:=h' i hi
   simp only[vAt,gnB,gnD,qhe hi] at h1
   exact h1.2.2.2
 ·rintro⟨hs,hc⟩k hk
  have hk:=kD.1 hk
  have hm:=q5p hk
  simp only[vAt,gnB,gnD]
  refine⟨(hs.2 _ hm).1,(hs.2 _ hm).2,?_,hc _ hm⟩
  rcases Nat.eq_zero_or_pos k with h|h
  ·exact .inl h
  ·right
   have h1:k - 1<l.length:=by omega
   rw[qhe h1,qhe hk]
   exact kG.1 hs.1 (k - 1) k h1 hk (by omega)
def gVV(f:So→List Vc→Bool):List D→Option (List D)
 |[s,l]=>some [.b (f (dS s) (dVs l))]
 |_=>none
theorem qjo:FOk jl (gVV vvP):=qho yy fun ds outs hw hg=>by
 obtain⟨d,r,rfl,hd,e,r',rfl,he,rfl⟩:=hw
 obtain⟨s,rfl,hs⟩:=wfS hd
 obtain⟨l,rfl,hl,hok⟩:=qxh he
 simp only[gVV,qy,q0a,uA] at hg
 subst hg
 rw[q4f,j3]
 refine⟨fun st=>∃k:Nat,k≤l.length∧st=[.b false,.i k]∧∀j,j<k→vAt s l j=true,fun st=>l.length - (st.getD 1 .u).int.toNat,⟨0,uF _,rfl,fun j hj=>absurd hj (kB _)⟩,?_⟩
 rintro st - ⟨k,hk,rfl,hP⟩
 rw[zd]
 refine⟨fun hlt=>?_,fun hlt=>?_⟩
 ·simp only[gnZ,gnT] at hlt
  have hkl:k<l.length:=by omega
  have hvb:=(hok _ (q5p hkl)).1
  by_cases h0:k=0
  ·subst h0
   have e1:decide ((0:Int)<((0:Nat):Int))=false:=by decide
   simp only[gnZ,gnT,q3k eV hkl,z5x,ze1,q65,e1,Bool.and_false,Bool.false_and,Bool.not_false,Bool.true_or,Bool.or_false,true_and,and_self]
   refine⟨⟨by omega,by omega⟩,fun hb=>?_,fun hb=>⟨⟨by omega,by omega⟩,?_⟩⟩
   ·have hv:vAt s l 0=false:=by
     simp only[vAt,true_or,decide_true,kQ]
     generalize l.getD 0 default=z at hb⊢
     cases hvc:vcP s z.c
     ·simp
     ·simp[hvc] at hb⊢
      omega
    rw[vvP,qaa hkl hv]
   ·have hv:vAt s l 0=true:=by
     simp only[vAt,true_or,decide_true,kQ]
     generalize l.getD 0 default=z at hb⊢
     cases hvc:vcP s z.c
     ·simp[hvc] at hb
     ·simp[hvc] at hb⊢
      omega
    rw[q2r,if_pos rfl]
    exact⟨⟨1,by omega,by simp,q2u hP hv⟩,by simp[D.int];omega⟩
  ·have hk1:((k:Int) - 1)=((k - 1:Nat):Int):=by omega
   have hkp:k - 1<l.length:=by omega
   have hp:(0:Int)<k:=by omega
   have hr1:yw .i64 ((k - 1:Nat):Int)=true:=by simp[yw];omega
   have hr2:(0:Int)≤((k - 1:Nat):Int):=by omega
   have hr3:((k - 1:Nat):Int)<l.length:=by omega
   simp only[gnZ,gnT,hk1,hp,hr1,hr2,hr3,q3k eV hkl,q3k eV hkp,z5x,ze1,q65,Bool.and_true,kQ]
   refine⟨⟨by omega,by omega⟩,fun hb=>?_,fun hb=>⟨⟨by omega,by omega⟩,?_⟩⟩
   ·have hv:vAt s l k=false:=by
     simp only[vAt,h0,false_or]
     generalize l.getD k default=z at hb⊢
     cases hvc:vcP s z.c
     ·simp
     ·simp[hvc] at hb⊢
      omega
    rw[vvP,qaa hkl hv]
   ·have hv:vAt s l k=true:=by
     simp only[vAt,h0,false_or]
     generalize l.getD k default=z at hb⊢
     cases hvc:vcP s z.c
     ·simp[hvc] at hb
     ·simp[hvc] at hb⊢
      omega
    rw[q2r,if_pos rfl]
    exact⟨⟨k+1,by omega,by simp,q2u hP hv⟩,by simp[D.int];omega⟩
 ·simp only[gnZ,gnT] at hlt⊢
  have:k=l.length:=by omega
  subst this
  simp only[vvP,q8t hP]
def qfd(s:So)(t:Te)(l:List Vc):Bool:=decide ((q5o t l:Int)≤s.mx - s.cs.length)&&decide (((qdh s.ys [] t).length:Int)≤1048576 - s.ys.length)
def qkc(s:So)(t:Te)(l:List Vc):Bool:=decide ((q5o t l:Int)≤IntKind.wrap .i64 (s.mx - s.cs.length))&&decide (((qdh s.ys [] t).length:Int)≤1048576 - s.ys.length)
theorem z63{s:So}{l:List Vc}(h:yw .i64 (s.mx - s.cs.length)=true):qkc s t l=qfd s t l:=by
 unfold qkc qfd
 rw[qcd h]
def zbi:List D→Option (List D)
 |[s,t,l]=>if z7 (dT t)=true∧szT (dT t)≤2000∧SV (dVs l)∧(dS s).cs.length≤1048576∧(dS s).ys.length≤1048576 then some [.b (qkc (dS s) (dT t) (dVs l))] else none
 |_=>none
theorem qyi:FOk q2b zbi:=qvm qp9 q2i fun ds outs hw hg=>by
 obtain⟨d,r,rfl,hd,e,r',rfl,he,f,r2,rfl,hf,rfl⟩:=hw
 obtain⟨s,rfl,hs⟩:=wfS hd
 obtain⟨t,rfl,ht⟩:=wfT he
 obtain⟨l,rfl,hl,hok⟩:=qxh hf
 simp only[zbi,qy,ju,q0a,uB,uA] at hg
 obtain⟨⟨hnd,hsz,hsv,hcl,hyl⟩,rfl⟩:=hg
 have hc:=qh1 t
 have hv:=qk8 t s.ys []
 have hc0:z7 t=true∧(0:Int)≤0∧0+(q8j t:Int)≤1099511627776:=⟨hnd,by omega,by omega⟩
 have hc1:z7 t=true∧(0:Int)≤1∧1+(q8j t:Int)≤1099511627776:=⟨hnd,by omega,by omega⟩
 have hme:(D.mp []=D.mp (eM []))=True:=eq_true rfl
 have hmd:dM (D.mp [])=[]:=rfl
 simp only[q9h,gnZ,gnT,z2f,zkl,q0a,if_pos hsv,fnD,zbt,hmd,hme,if_pos hc0,if_pos hc1,qkc]
 have hlen:(eM (qdh s.ys [] t)).length=(qdh s.ys [] t).length:=uC _
 have hr1:yw .i64 ((qdh s.ys [] t).length:Int)=true:=by simp[yw] at hv⊢;omega
 have hr2:yw .i64 (1048576 - (s.ys.length:Int))=true:=by simp[yw];omega
 have hx:=hs.mx
 simp only[hlen,hr1,hr2,Bool.or_true,true_and]
 refine⟨fun h0=>⟨fun hn=>⟨⟨by omega,by omega⟩,?_⟩,fun hn=>?_⟩,fun h0=>?_⟩
 ·have e:ofV l t.n=none:=by simpa using hn
  rw[q5o,if_pos ⟨h0,e⟩,Nat.add_comm]
  rfl
 ·have e:¬ofV l t.n=none:=fun q=>by rw[q] at hn;cases hn
  rw[q5o,if_neg fun q=>e q.2]
  simp
 ·rw[q5o,if_neg fun q=>h0 q.1]
  simp
def qmt(s:So)(all:List Vc)(t:Te)(a:Int):Bool:=z7 t&&(decide (SV all)&&(decide ((s.cs.length:Int)+((if a<0 then q5o t all else q8j t:Nat):Int)≤1048576)&&(decide (a<0→t.k=0→ofV all t.n=none→(s.cs.length:Int)<s.mx)&&(decide ((q57 s.ys t).length≤1048576)&&decide (a≤1048576)))))
def zkz:List D→Option (List D)
 |[t,a,all,s]=>if qmt (dS s) (dVs all) (dT t) a.int then some [eC (z6 (dS s,dVs all) (dT t) a.int).1,.r ((z6 (dS s,dVs all) (dT t) a.int).2.2.map eV),eS (z6 (dS s,dVs all) (dT t) a.int).2.1] else none
 |_=>none
theorem zp5{s:So}{ar:Int}(h:qju nm ar=false)(hl:(qcj s.ys ⟨nm,ar⟩).length≤1048576):zoj [eS s,.s nm,.i ar]=some [.i (jq s nm ar).1,.i 0,eS (jq s nm ar).2]:=by
 simp only[zoj,qy,q1z,yh,h,jq]
 by_cases h0:0≤q6e s nm ar
 ·simp[h0]
 ·have h1:¬(⟨nm,ar⟩:Sy)∈s.ys:=fun q=>h0 (qgy.2 q)
  rw[qcj,if_neg h1] at hl
  have h2:¬1048576≤s.ys.length:=by simp at hl;omega
  simp[h0,h2]
theorem zag(s:So)(i:Nat)(c:Ce):D.a ((eS s).fs.set 0 (.r ((s.cs.map eC).set i (eC c))))=eS (qck s i c):=by
 rw[←vW]
 rfl
theorem qs0(s:So)(l:List Ce):D.a ((eS s).fs.set 0 (.r (s.cs.map eC++l.map eC)))=eS {s with cs:=s.cs++l}:=by
 rw[←List.map_append]
 rfl
theorem qx8:FOk z8 zkz:=qc2 (m:=mT) q1k fun N ih=>qpv ih qp6 q2i qz3 qgi qcx fun ds outs hw hg=>by
 obtain⟨d,r,rfl,hd,e,r',rfl,he,f,r2,rfl,hf,q,r3,rfl,hq,rfl⟩:=hw
 obtain⟨t,rfl,ht⟩:=wfT hd
 obtain⟨a,rfl,ha⟩:=wfI he
 obtain⟨all,rfl,hal,hok⟩:=qxh hf
 obtain⟨s,rfl,hs⟩:=wfS hq
 simp only[q69,mT,zkz,uE,ju,yh,qy,q0a,uB,uA] at hg
 obtain⟨hsz,hA,rfl⟩:=hg
 simp only[qmt,gnB,gnD] at hA
 obtain⟨hnd,hsv,hcs,hmx,hys,hamx⟩:=hA
 have hnl:=(q6n t).1 hnd
 obtain⟨k,n,nm,l⟩:=t
 have hlo:=z23 n all
 have hlen:=SV.len hsv
 rcases q1o hnl.1 with⟨rfl,rfl,h1,h2⟩|⟨rfl,rfl⟩|⟨rfl,rfl,h1⟩|⟨rfl,h1,h2,h3⟩
 ·have hins:∀c:Ce,zqr [.r (all.map eV),.i (loV all n),.r [eV ⟨n,c⟩]]=some [.r ((qa7 all n c).map eV)]:=fun c=>by
   simp only[zqr,q35,yh,uC,List.length_singleton,uU]
   rw[if_pos ⟨trivial,by omega,by omega,by omega⟩,ql7]
   simp[List.map_take,List.map_drop]
  have hof:=z9g (v:=n) hsv
  rw[q9d]
  simp only[q2g,gnZ,gnT,Te.k,Te.n,Te.s,Te.l,q5m,q3t,zon,zkl,q0a,if_pos hsv,hins]
  refine⟨fun h=>absurd h (by decide),fun _=>⟨fun h=>absurd h (by decide),fun _=>⟨fun _=>⟨fun ho=>?_,fun ho=>⟨fun ha0=>?_,fun ha0=>?_⟩⟩,fun h=>(by cases h)⟩⟩⟩
  ·split at hof
   ·rename_i hq
    simp only[q3k eV hq.1,ze1,hof,yt]
    exact⟨⟨by omega,by omega⟩,trivial⟩
   ·rw[hof] at ho
    cases ho
  ·have e:ofV all n=none:=by simpa using ho
   have hn:q5o (.mk 0 n nm []) all=1:=by
    rw[q5o,qn1 (by decide),if_pos ⟨rfl,e⟩]
   rw[if_pos ha0,hn] at hcs
   have h4:¬s.mx≤s.cs.length:=by have:=hmx ha0 rfl e;omega
   have h5:s.cs.length<8796093021952:=by omega
   simp only[z54,qy,h4,h5,decide_false,decide_true,gnF,if_false,if_true,kH,kN,uE,kO,zon,hins,e,ha0,true_and]
   exact⟨⟨by omega,by omega,by omega,by omega⟩,trivial⟩
  ·have e:ofV all n=none:=by simpa using ho
   simp only[e,if_neg ha0]
   done
 ·rw[qe0]
  simp[q2g,gnZ,gnT,Te.k,Te.n,Te.s,Te.l,q3t]
  done
 ·rw[z8r] at hys
  have hb:qju nm 0=false:=by simp[qju];omega
  rw[qdw]
  simp[q2g,gnZ,gnT,Te.k,Te.n,Te.s,Te.l,q3t,zp5 hb hys]
  done
 ·rw[zaj] at hys
  have hb:qju nm (l.length:Nat)=false:=by simp[qju];omega
  have hys0:(qcj s.ys ⟨nm,(l.length:Nat)⟩).length≤1048576:=kC (q8k l _) hys
  have hl8:(l.length:Int)≤16777216:=by omega
  obtain⟨y1,y2,y3,y4,y5,y6⟩:=qgs s nm (l.length:Nat)
  have hcn:(s.cs.length:Int)+((1+l.length+q2l l:Nat):Int)≤1048576:=by
   rw[qsw (by decide),zht] at hcs
   split at hcs<;>exact hcs
  rw[qe4,←y1]
  rw[←y1] at hcn
  rw[←y3] at hys
  have hS:=zp5 (s:=s) hb hys0
  have yl:s.ys.length≤(jq s nm (l.length:Nat)).2.ys.length:=by
   rw[y3]
   unfold qcj
   split<;>simp
  have yc:s.cs.length=(jq s nm (l.length:Nat)).2.cs.length:=by rw[y1]
  generalize jq s nm (l.length:Nat)=S at hS hys hcn y2 y4 y5 yl yc⊢
  have hz:uP l.length (eC ⟨0,0⟩)=(uP l.length (⟨0,0⟩:Ce)).map eC:=by rw[List.map_replicate]
  simp only[q2g,gnZ,gnT,Te.k,Te.n,Te.s,Te.l,q3t,hS,z9q,uU]
  refine⟨fun h=>absurd h (by decide),fun _=>⟨fun h=>absurd h (by decide),fun _=>⟨fun h=>absurd h (by decide),fun _=>?_⟩⟩⟩
  refine⟨⟨by omega,by omega,by omega,by omega⟩,⟨by omega,by omega⟩,⟨by omega,by omega,by simp;omega,by simp;omega⟩,?_⟩
  rw[j3]
  refine⟨fun st=>∃(k:Nat)(al:List Vc)(s':So),k≤l.length∧st=[.i k,.r (al.map eV),eS s']∧SV al∧s'.mx=s.mx∧(s'.cs.length:Int)+(q2l (l.drop k):Int)≤1048576∧S.2.cs.length+1+l.length≤s'.cs.length∧(q0t s'.ys (l.drop k)).length≤1048576∧(s.ys.length≤s'.ys.length∧s'.tr=s.tr∧s'.wk=s.wk)∧je (s',al) (l.drop k) (S.2.cs.length+1+k)=je ({S.2 with cs:=S.2.cs++(⟨4,S.1⟩::uP l.length ⟨0,0⟩)},all) l (S.2.cs.length+1),fun st=>l.length - (st.getD 0 .u).int.toNat,⟨0,all,{S.2 with cs:=S.2.cs++(⟨4,S.1⟩::uP l.length ⟨0,0⟩)},uF _,?_,hsv,y2,by simp;omega,by simp;omega,hys,⟨yl,y4,y5⟩,rfl⟩,?_⟩
  ·simp only[X.evs,gnZ,gnT,Te.k,Te.n,Te.s,Te.l,q3t,hS,z9q,uU,hz,qs0]
   simp[eS,D.fs]
  rintro st - ⟨k,al,s',hk,rfl,hsv',hmx',hc',hb',hy',⟨hyl,htr',hwk'⟩,hP⟩
  rw[zd]
  refine⟨fun hlt=>?_,fun hlt=>?_⟩
  ·simp only[gnZ,gnT,Te.l] at hlt
   have hkl:k<l.length:=by omega
   have ha:=qfz (t:=.mk 3 n nm l) hkl
   simp only[Te.l] at ha
   have hto:((S.2.cs.length:Int)+1+(k:Int))=((S.2.cs.length+1+k:Nat):Int):=by omega
   have hdr:=qhd hkl
   rw[hdr,q2l] at hc'
   rw[hdr,q0t] at hy'
   rw[hdr,je] at hP
   have hsy:=kC (q8k (l.drop (k+1)) (q57 s'.ys (l.getD k default))) hy'
   have hnk:=hnl.2 k hkl
   simp only[Te.l] at hnk
   have hQ:qmt s' al (l.getD k default) ((S.2.cs.length+1+k:Nat):Int)=true:=by
    have h0:¬(((S.2.cs.length+1+k:Nat):Int)<0):=by omega
    simp only[qmt,if_neg h0,gnB,gnD]
    exact⟨hnk,hsv',by omega,fun h=>absurd h h0,hsy,by omega⟩
   obtain⟨g1,g2,g3,g4⟩:=q32 (l.getD k default) (s',al) ((S.2.cs.length+1+k:Nat):Int) hnk hsv'
   rw[if_neg (by omega)] at g1
   simp only[gnZ,gnT,Te.k,Te.n,Te.s,Te.l,hS,qej hkl,hto,q69,mT,zkz,q0a,if_pos hQ,if_pos (show szT (l.getD k default)<N by omega)]
   generalize z6 (s',al) (l.getD k default) ((S.2.cs.length+1+k:Nat):Int)=R at g1 g2 g3 g4 hP⊢
   simp only at g1
   simp only[gnZ,gnT,uU,zag]
   refine⟨⟨by omega,by omega⟩,⟨⟨by omega,by omega⟩,by omega,by omega⟩,⟨by omega,by omega,by rw[htr'];exact kW _,by rw[hwk'];exact kW _⟩,⟨by omega,by omega,by omega⟩,⟨by omega,by omega⟩,?_⟩
   rw[q2r,if_pos rfl]
   refine⟨⟨k+1,R.2.2,qck R.2.1 (S.2.cs.length+1+k) R.1,by omega,by simp,g4,g3.1.trans hmx',?_,?_,?_,?_,hP⟩,?_⟩
   ·rw[q3u,g1]
    omega
   ·rw[q3u,g1]
    omega
   ·show(q0t R.2.1.ys _).length≤_
    rw[g2]
    exact hy'
   ·refine⟨?_,g3.2.1.trans htr',g3.2.2.1.trans hwk'⟩
    show s.ys.length≤R.2.1.ys.length
    rw[g2]
    exact kC hyl (qh4 _ _)
   ·simp[D.int]
    omega
  ·simp only[gnZ,gnT,Te.l] at hlt
   have:k=l.length:=by omega
   subst this
   rw[vJ,je] at hP
   simp only[gnZ,gnT,Te.k,Te.n,Te.s,Te.l,q3t,hS,←hP]
def qqb(s:So)(t:Te)(l:List Vc):Ce×List Vc×Int×So:=
 if jb t&&vvP s l then(if qfd s t l then((z6 (s,l) t (-1)).1,(z6 (s,l) t (-1)).2.2,0,(z6 (s,l) t (-1)).2.1) else(⟨0,0⟩,[],13,s)) else(⟨0,0⟩,[],1,s)
def qsz:List D→Option (List D)
 |[s,t,l]=>if qw (dS s) then some [eC (qqb (dS s) (dT t) (dVs l)).1,.r ((qqb (dS s) (dT t) (dVs l)).2.1.map eV),.i (qqb (dS s) (dT t) (dVs l)).2.2.1,eS (qqb (dS s) (dT t) (dVs l)).2.2.2] else none
 |_=>none
theorem qvx{s:So}(h:qw s=true):1≤s.mx∧s.mx≤1048576∧(s.cs.length:Int)≤s.mx∧s.ys.length≤1048576:=by
 have h:=qse h
 simp only[qgf,q91,gnB,gnD] at h
 omega
theorem zj6{s:So}(h:qw s=true):yw .i64 (s.mx - s.cs.length)=true:=by
 obtain⟨h1,h2,h3,h4⟩:=qvx h
 simp[yw]
 omega
theorem quz{s:So}{l:List Vc}(hs:qw s=true)(ht:jb t=true)(hl:vvP s l=true)(hr:qfd s t l=true):qmt s l t (-1)=true:=by
 obtain⟨h1,h2,h3,h4⟩:=qvx hs
 simp only[jb,gnB,gnD] at ht
 simp only[qfd,gnB,gnD] at hr
 have hv:=qx6 t s.ys []
 rw[List.append_nil] at hv
 have hv':=congrArg kM hv
 rw[uN] at hv'
 simp only[qmt,gnB,gnD]
 refine⟨ht.2,(qc3.1 hl).1,by rw[if_pos (by decide)];omega,fun _ hk he=>?_,by omega,by decide⟩
 have:1≤q5o t l:=by
  unfold q5o
  rw[if_pos ⟨hk,he⟩]
  omega
 omega
def qpu(s:So)(t:Te)(l:List Vc):Ce×List Vc×Int×So:=
 if jb t&&vvP s l then(if qkc s t l then((z6 (s,l) t (-1)).1,(z6 (s,l) t (-1)).2.2,0,(z6 (s,l) t (-1)).2.1) else(⟨0,0⟩,[],13,s)) else(⟨0,0⟩,[],1,s)
def z1s(s:So)(t:Te)(l:List Vc):Bool:= !(jb t&&vvP s l)||(decide (s.cs.length≤1048576)&&(decide (s.ys.length≤1048576)&&(!qkc s t l||qmt s l t (-1))))
def z6u:List D→Option (List D)
 |[s,t,l]=>if z1s (dS s) (dT t) (dVs l) then some [eC (qpu (dS s) (dT t) (dVs l)).1,.r ((qpu (dS s) (dT t) (dVs l)).2.1.map eV),.i (qpu (dS s) (dT t) (dVs l)).2.2.1,eS (qpu (dS s) (dT t) (dVs l)).2.2.2] else none
 |_=>none
theorem z50{s:So}(h:qw s=true)(t:Te)(l:List Vc):qpu s t l=qqb s t l:=by
 unfold qpu qqb
 rw[z63 (zj6 h)]
theorem zpx{s:So}(h:qw s=true)(t:Te)(l:List Vc):z1s s t l=true:=by
 unfold z1s
 rw[z63 (zj6 h)]
 obtain⟨h1,h2,h3,h4⟩:=qvx h
 cases hv:(jb t&&vvP s l)
 ·rfl
 ·simp only[gnB] at hv
  have e1:s.cs.length≤1048576:=by omega
  cases hr:qfd s t l
  ·simp[e1,h4]
  ·simp[e1,h4,quz h hv.1 hv.2 hr]
theorem qig:FOk zy z6u:=qyu qx8 q8q qjo qyi qd9 fun ds outs hw hg=>by
 obtain⟨d,r,rfl,hd,e,r',rfl,he,f,r2,rfl,hf,rfl⟩:=hw
 obtain⟨s,rfl,hs⟩:=wfS hd
 obtain⟨t,rfl,ht⟩:=wfT he
 obtain⟨l,rfl,hl,hok⟩:=qxh hf
 simp only[z6u,qy,ju,q0a,uB,uA] at hg
 obtain⟨hv,rfl⟩:=hg
 have hz:D.a [.i 0,.i 0]=eC ⟨0,0⟩:=rfl
 have hQ:jb t=true→vvP s l=true→s.cs.length≤1048576∧s.ys.length≤1048576∧(qkc s t l=true→qmt s l t (-1)=true):=fun a b=>by
  unfold z1s at hv
  rw[a,b] at hv
  simp only[Bool.and_self,vT,vU,gnB,gnD,Bool.or_eq_true,kR] at hv
  exact⟨hv.1,hv.2.1,fun c=>hv.2.2.resolve_left (by rw[c];decide)⟩
 have hgr:jb t=true→vvP s l=true→zbi [eS s,eT t,.r (l.map eV)]=some [.b (qkc s t l)]:=fun a b=>by
  obtain⟨h1,h2,-⟩:=hQ a b
  simp only[jb,gnB,gnD] at a
  simp only[zbi,qy,ju,q0a]
  rw[if_pos ⟨a.2,a.1,(qc3.1 b).1,h1,h2⟩]
 simp only[qbf,gnZ,gnT,gTb,gVV,gCl,z9c,hl,hz,q0a,qpu]
 cases hvt:jb t
 ·simp
 cases hvl:vvP s l
 ·simp
 simp only[hgr hvt hvl]
 cases hrm:qkc s t l
 ·simp[D.tt]
 simp[zkz,qy,ju,q0a,D.int,D.tt,(hQ hvt hvl).2.2 hrm]
theorem qlx:FOk zy qsz:=qig.sub fun ds outs h=>by
 unfold qsz at h
 split at h
 ·rename_i s t l
  split at h
  ·rename_i hv
   rw[z6u,if_pos (zpx hv _ _),z50 hv]
   exact h
  ·cases h
 ·cases h
theorem znv{s:So}{n:Int}(h:0≤q37 s n):inS s n=true:=by
 cases hi:inS s n with
 |true=>rfl
 |false=>rw[q6w hi] at h;omega
def za9(s:So):Nat→Ce→Ce
 |0,c=>c
 |k+1,c=>if c.t=0∧0≤q37 s c.n∧cellAt s c.n≠c then za9 s k (cellAt s c.n) else c
def q2s(s:So)(c:Ce):Ce:=if vcP s c then za9 s s.cs.length c else⟨0,0⟩
def qfv:List D→Option (List D)
 |[s,c]=>some [eC (q2s (dS s) (dC c))]
 |_=>none
theorem q63:FOk zm qfv:=qen yy qab fun ds outs hw hg=>by
 obtain⟨d,r,rfl,hd,e,r',rfl,he,rfl⟩:=hw
 obtain⟨s,rfl,hs⟩:=wfS hd
 obtain⟨c,rfl,hc⟩:=wfC he
 simp only[qfv,qy,yt,uA] at hg
 subst hg
 have hl:=hs.cs.1
 simp only[q52,gnZ,q65,zj0]
 refine⟨fun h=>?_,fun h=>?_⟩
 ·simp only[q2s,show vcP s c=false by simpa using h]
  rfl
 have hvc':vcP s c=true:=by simpa using h
 rw[j3]
 refine⟨fun st=>∃(k:Nat)(x:Ce),k≤s.cs.length∧st=[.i k,eC x]∧za9 s (s.cs.length - k) x=q2s s c,fun st=>s.cs.length - (st.getD 0 .u).int.toNat,⟨0,c,uF _,rfl,by rw[kZ,q2s,if_pos hvc']⟩,?_⟩
 rintro st - ⟨k,x,hk,rfl,hP⟩
 rw[zd]
 refine⟨fun hlt=>?_,fun hlt=>?_⟩
 ·simp only[gnZ] at hlt
  have hkl:k<s.cs.length:=by omega
  obtain⟨n,hn⟩:∃n,s.cs.length - k=n+1:=⟨s.cs.length - k - 1,by omega⟩
  rw[hn] at hP
  unfold za9 at hP
  have hn2:s.cs.length - (k+1)=n:=by omega
  by_cases h0:x.t=0
  ·by_cases ht:0≤q37 s x.n
   ·have hin:=znv ht
    have h3:=ql.1 hin
    have ht':¬q37 s x.n<0:=by omega
    simp only[gnZ,qaf,zb hin,h0,ht',h3.1,h3.2]
    refine⟨fun hx=>?_,fun hx=>?_⟩
    ·have hx':cellAt s x.n=x:=by simpa using hx
     rw[if_neg (fun q=>q.2.2 hx')] at hP
     rw[hP]
    ·have hx':cellAt s x.n≠x:=by simpa using hx
     rw[if_pos ⟨h0,ht,hx'⟩] at hP
     refine⟨⟨by omega,by omega⟩,?_⟩
     rw[q2r,if_pos rfl]
     refine⟨⟨k+1,cellAt s x.n,by omega,by simp,by rw[hn2];exact hP⟩,?_⟩
     simp[D.int]
     omega
   ·have ht':q37 s x.n<0:=by omega
    rw[if_neg (fun q=>ht q.2.1)] at hP
    simp only[gnZ,qaf,h0,ht',←hP]
    simp
  ·rw[if_neg (fun q=>h0 q.1)] at hP
   simp only[gnZ,qaf,h0,←hP]
   simp
 ·simp only[gnZ] at hlt⊢
  have:k=s.cs.length:=by omega
  subst this
  rw[vA] at hP
  rw[←hP,za9]
theorem qjk:FOk q0b (qcp inS):=z6d fun ds outs hw hg=>by
 obtain⟨d,r,rfl,hd,e,r',rfl,he,rfl⟩:=hw
 obtain⟨s,rfl,hs⟩:=wfS hd
 obtain⟨i,rfl,hi⟩:=wfI he
 simp only[qcp,qy,yh,uA] at hg
 subst hg
 simp only[qdt,gnZ,inS]
theorem qe7:FOk q14 q5m:=qyl fun ds outs hw hg=>by
 obtain⟨d,r,rfl,hd,rfl⟩:=hw
 obtain⟨c,rfl,hc⟩:=wfC hd
 simp only[q5m,yt,uA] at hg
 subst hg
 simp only[qaw,gnZ,q1f,zph]
 exact⟨fun h=>by rw[if_pos h],fun h=>by rw[if_neg h]⟩
def qii(s:So)(c:Ce)(nm:ByteArray):Bool:=decide (c.t=3)&&(inS s c.n&&(inS s (c.n+2)&&(decide ((cellAt s c.n).t=4)&&(decide (0≤(cellAt s c.n).n)&&(decide ((cellAt s c.n).n<s.ys.length)&&decide (s.ys.getD (cellAt s c.n).n.toNat default=⟨nm,2⟩))))))
def zbo:List D→Option (List D)
 |[s,c,nm]=>if qii (dS s) (dC c) nm.str then some [eC (cellAt (dS s) ((dC c).n+1)),eC (cellAt (dS s) ((dC c).n+2)),.b true] else some [eC ⟨0,0⟩,eC ⟨0,0⟩,.b false]
 |_=>none
theorem q3e{s:So}:qii s c nm=true↔c.t=3∧inS s c.n=true∧inS s (c.n+2)=true∧(cellAt s c.n).t=4∧0≤(cellAt s c.n).n∧(cellAt s c.n).n<s.ys.length∧s.ys.getD (cellAt s c.n).n.toNat default=⟨nm,2⟩:=by
 simp only[qii,gnB,gnD]
theorem ztl{s:So}(h0:inS s i=true)(h2:inS s (i+2)=true):inS s (i+1)=true:=by
 have:=ql.1 h0
 have:=ql.1 h2
 exact ql.2 ⟨by omega,by omega⟩
theorem z36:FOk q4w zbo:=qy6 qjk fun ds outs hw hg=>by
 obtain⟨d,r,rfl,hd,e,r',rfl,he,f,r2,rfl,hf,rfl⟩:=hw
 obtain⟨s,rfl,hs⟩:=wfS hd
 obtain⟨c,rfl,hc⟩:=wfC he
 obtain⟨nm,rfl,hn⟩:=hf.str
 simp only[zbo,qy,yt,q1z] at hg
 have ey:D.a [.s nm,.i 2]=eY ⟨nm,2⟩:=rfl
 have hl:=hs.cs.1
 have no:qii s c nm=false→outs=[eC ⟨0,0⟩,eC ⟨0,0⟩,.b false]:=fun hb=>by
  rw[if_neg (by rw[hb];decide)] at hg
  exact(gnI hg).symm
 have no':¬qii s c nm=true→outs=[eC ⟨0,0⟩,eC ⟨0,0⟩,.b false]:=fun hb=>no (Bool.eq_false_iff.2 hb)
 simp only[qat,gnZ,qcp,ey,q3t]
 by_cases h3:c.t=3
 ·cases h0:inS s c.n with
  |false=>
   rw[no' fun q=>by have:=(q3e.1 q).2.1;rw[h0] at this;cases this]
   simp[h3]
  | true =>
   have i0:=ql.1 h0
   have hr:i64 (c.n+2):=⟨by omega,by omega⟩
   have hrb:=q6k.2 hr
   cases h2:inS s (c.n+2) with
   |false=>
    rw[no' fun q=>by have:=(q3e.1 q).2.2.1;rw[h2] at this;cases this]
    simp[h3,hr.1,hr.2,hrb]
   | true =>
    have i2:=ql.1 h2
    have h1:=ztl h0 h2
    have i1:=ql.1 h1
    have hr1:i64 (c.n+1):=⟨by omega,by omega⟩
    have hrb1:=q6k.2 hr1
    by_cases h4:(cellAt s c.n).t=4
    ·by_cases hy:0≤(cellAt s c.n).n∧(cellAt s c.n).n<s.ys.length
     ·have ha:=z3p hy
      have hy':¬(cellAt s c.n).n<0:=by omega
      have hy2:¬(s.ys.length:Int)≤(cellAt s c.n).n:=by omega
      by_cases hq:s.ys.getD (cellAt s c.n).n.toNat default=⟨nm,2⟩
      ·rw[if_pos (q3e.2 ⟨h3,h0,h2,h4,hy.1,hy.2,hq⟩)] at hg
       have:=gnI hg
       subst this
       simp only[zb h0,zb h1,zb h2,qnj,qxi,ha,z10,h3,h4,hq,yh]
       simp[hr.1,hr.2,hr1.1,hr1.2,i0,i1,i2,hy,hrb,hrb1,hy',hy2]
      ·rw[no' fun q=>hq (q3e.1 q).2.2.2.2.2.2]
       simp only[zb h0,zb h1,zb h2,qnj,qxi,ha,z10,h3,h4,hq,yh]
       simp[hr.1,hr.2,hr1.1,hr1.2,i0,i1,i2,hy,hrb,hrb1,hy',hy2]
     ·rw[no' fun q=>hy ⟨(q3e.1 q).2.2.2.2.1,(q3e.1 q).2.2.2.2.2.1⟩]
      have hy':((cellAt s c.n).n<0∨(s.ys.length:Int)≤(cellAt s c.n).n)=True:=eq_true (by omega)
      simp only[zb h0,qnj,qxi,h3,h4,yh]
      simp[hr.1,hr.2,i0,hrb]
      omega
    ·rw[no' fun q=>h4 (q3e.1 q).2.2.2.1]
     simp only[zb h0,qnj,qxi,h3,h4,yh]
     simp[hr.1,hr.2,i0,h4,hrb]
 ·rw[no' fun q=>h3 (q3e.1 q).1]
  simp[h3]
def qfj(s:So)(c:Ce):Bool:=decide (c.t=2)&&(decide (0≤c.n)&&decide (c.n<s.ys.length))
def z2i:List D→Option (List D)
 |[s,c]=>if qfj (dS s) (dC c) then some [.s ((dS s).ys.getD (dC c).n.toNat default).name,.b true] else some [.s ⟨#[]⟩,.b false]
 |_=>none
theorem z4i:FOk q4q z2i:=qzn fun ds outs hw hg=>by
 obtain⟨d,r,rfl,hd,e,r',rfl,he,rfl⟩:=hw
 obtain⟨s,rfl,hs⟩:=wfS hd
 obtain⟨c,rfl,hc⟩:=wfC he
 simp only[z2i,qy,yt] at hg
 simp only[qb6,gnZ]
 by_cases h2:c.t=2
 ·by_cases hy:0≤c.n∧c.n<s.ys.length
  ·have hb:qfj s c=true:=by simp[qfj,h2,hy]
   rw[if_pos hb] at hg
   have:=gnI hg
   subst this
   have hy':¬c.n<0:=by omega
   have hy2:¬(s.ys.length:Int)≤c.n:=by omega
   simp[h2,z3p hy,zek,hy,hy',hy2]
  ·have hb:qfj s c=false:=by
    simp only[qfj,uV,decide_eq_false_iff_not]
    by_cases h5:0≤c.n
    ·exact .inr (.inr fun q=>hy ⟨h5,q⟩)
    ·exact .inr (.inl h5)
   rw[if_neg (by rw[hb];decide)] at hg
   have:=gnI hg
   subst this
   have hy':c.n<0∨(s.ys.length:Int)≤c.n:=by omega
   simp[h2,hy']
   omega
 ·have hb:qfj s c=false:=by simp[qfj,h2]
  rw[if_neg (by rw[hb];decide)] at hg
  have:=gnI hg
  subst this
  simp[h2]
def zw(s:So)(v:Ce):Ce×Bool:=if vcP s v then(if(q2s s v).t=0 then(q2s s v,inS s (q2s s v).n) else if(q2s s v).t=5 then(q2s s v,inS s (q2s s v).n&&inS s ((q2s s v).n+2)) else(⟨0,0⟩,false)) else(⟨0,0⟩,false)
def zl:List D→Option (List D)
 |[s,v]=>some [eC (zw (dS s) (dC v)).1,.b (zw (dS s) (dC v)).2]
 |_=>none
theorem q0d:FOk qn zl:=qk2 yy q63 qjk fun ds outs hw hg=>by
 obtain⟨d,r,rfl,hd,e,r',rfl,he,rfl⟩:=hw
 obtain⟨s,rfl,hs⟩:=wfS hd
 obtain⟨v,rfl,hv⟩:=wfC he
 simp only[zl,qy,yt,uA] at hg
 subst hg
 have hl:=hs.cs.1
 have ez:D.a [.i 0,.i 0]=eC ⟨0,0⟩:=rfl
 simp only[q6d,gnZ,q65,qfv,qcp,ez,zw]
 cases hb:vcP s v with
 |false=>simp
 | true =>
  by_cases h0:(q2s s v).t=0
  ·simp[h0]
  ·by_cases h5:(q2s s v).t=5
   ·cases hi:inS s (q2s s v).n with
    |false=>simp[h5]
    |true=>
     have:=ql.1 hi
     have hrb:yw .i64 ((q2s s v).n+2)=true:=q6k.2 ⟨by omega,by omega⟩
     simp[h5,hrb]
   ·simp[h0,h5]
def qb0(s:So)(a:Int):Bool:=decide ((cellAt s (a+2)).t=1)||(decide ((cellAt s (a+2)).t=2)||(decide ((cellAt s (a+2)).t=3)||decide (cellAt s (a+2)=⟨0,a+2⟩)))
def qlo:List D→Option (List D)
 |[s,d]=>if inS (dS s) ((dC d).n+2) then some [.b (qb0 (dS s) (dC d).n)] else none
 |_=>none
theorem q2c:FOk qz qlo:=qkw fun ds outs hw hg=>by
 obtain⟨d,r,rfl,hd,e,r',rfl,he,rfl⟩:=hw
 obtain⟨s,rfl,hs⟩:=wfS hd
 obtain⟨c,rfl,hc⟩:=wfC he
 simp only[qlo,qy,yt,uB,uA] at hg
 obtain⟨hin,rfl⟩:=hg
 have h1:=ql.1 hin
 have hl:=hs.cs.1
 have hr:i64 (c.n+2):=⟨by omega,by omega⟩
 have e0:D.a [.i 0,.i (c.n+2)]=eC ⟨0,c.n+2⟩:=rfl
 simp only[q67,gnZ,zb hin,h1,hr,e0,zc1,qb0]
 by_cases c1:(cellAt s (c.n+2)).t=1
 ·simp[c1]
 ·by_cases c2:(cellAt s (c.n+2)).t=2
  ·simp[c2]
  ·by_cases c3:(cellAt s (c.n+2)).t=3
   ·simp[c3]
   ·simp[c1,c2,c3]
structure At where
 name:ByteArray
 val:Ce
instance:Inhabited At:=⟨⟨⟨#[]⟩,default⟩⟩
def eA(a:At):D:=.a [.s a.name,eC a.val]
def dA(d:D):At:=⟨(d.fld 0).str,dC (d.fld 1)⟩
theorem zgj(a:At):dA (eA a)=a:=rfl
theorem zvq(a:At):(eA a).fld 0=.s a.name:=rfl
theorem zvr(a:At):(eA a).fld 1=eC a.val:=rfl
theorem q5u(a:At)(c:Ce):D.a ((eA a).fs.set 1 (eC c))=eA ⟨a.name,c⟩:=rfl
def At.ok(a:At):Prop:=a.name.size≤LIM∧a.val.ok
def stN(T:TypeId):TypeId:=match qk T with
 |some (.st S)=>S
 |_=>0
abbrev aS:TypeId:=stN 66
theorem tyA:qk 66=some (.st aS):=by kernel_rfl
theorem flA:flds aS=some [.str,qm]:=by kernel_rfl
theorem lmA:LM (.st aS)=4398046510976:=by kernel_rfl
theorem wfA(h:Wf d (.st aS)):∃a,d=eA a∧a.ok:=by
 obtain⟨ds,rfl,hl⟩:=h.st_of flA
 obtain⟨a,b,rfl,ha,hb⟩:=z7s hl
 obtain⟨x,rfl,hx⟩:=ha.str
 obtain⟨y,rfl,hy⟩:=wfC hb
 exact⟨⟨x,y⟩,rfl,hx,hy⟩
theorem zqb(h:Wf d (.row 66)):∃l:List At,d=.r (l.map eA)∧l.length≤4398046510976∧∀a∈l,a.ok:=by
 obtain⟨l,rfl,h1,h2⟩:=h.row_of tyA
 obtain⟨m,rfl,h3⟩:=qdx (e:=eA) (P:=At.ok) fun x hx=>wfA (h2 x hx)
 rw[lmA,uC] at h1
 exact⟨m,rfl,h1,h3⟩
def dAs(d:D):List At:=d.rs.map dA
theorem qt(l:List At):dAs (.r (l.map eA))=l:=map_id' zgj l
def q1s(l:List At)(nm:ByteArray):Int:=match l.findIdx? fun a=>decide (a.name=nm) with
 |some i=>i
 |none=> -1
def zqo:List D→Option (List D)
 |[a,nm]=>some [.b (decide ((dA a).name=nm.str))]
 |_=>none
theorem qu4:FOk q1e zqo:=qr2 fun ds outs hw hg=>by
 obtain⟨d,r,rfl,hd,e,r',rfl,he,rfl⟩:=hw
 obtain⟨a,rfl,ha⟩:=wfA hd
 obtain⟨nm,rfl,hn⟩:=he.str
 simp only[zqo,zgj,q1z,uA] at hg
 subst hg
 simp only[q83,gnZ,zvq]
 congr 2
def y9:List D→Option (List D)
 |[l,nm]=>some [.i (q1s (dAs l) nm.str)]
 |_=>none
theorem q97:FOk ze y9:=q8f qu4 fun ds outs hw hg=>by
 obtain⟨d,r,rfl,hd,e,r',rfl,he,rfl⟩:=hw
 obtain⟨l,rfl,hl,hlo⟩:=zqb hd
 obtain⟨nm,rfl,hn⟩:=he.str
 simp only[y9,qt,q1z,uA] at hg
 subst hg
 rw[q0p,j3]
 refine⟨fun st=>∃k:Nat,k≤l.length∧st=[.i 0,.i k]∧∀j,j<k→(l.getD j default).name≠nm,fun st=>l.length - (st.getD 1 .u).int.toNat,⟨0,uF _,rfl,fun j hj=>absurd hj (kB _)⟩,?_⟩
 rintro st - ⟨k,hk,rfl,hP⟩
 rw[zd]
 refine⟨fun hlt=>?_,fun hlt=>?_⟩
 ·simp only[gnZ] at hlt
  have hkl:k<l.length:=by omega
  simp only[gnZ,q3k eA hkl,zqo,zgj]
  refine⟨⟨by omega,by omega⟩,fun hx=>?_,fun hx=>⟨⟨by omega,by omega⟩,?_⟩⟩
  ·have hf:(l.findIdx? fun a=>decide (a.name=nm))=some k:=by
    rw[List.findIdx?_eq_some_iff_getElem]
    refine⟨hkl,?_,fun j hj=>?_⟩
    ·have e:l.getD k default=l[k]:=by rw[gnG,gnK hkl];rfl
     rw[e] at hx
     first|exact hx|simpa using hx
    ·have:=hP j hj
     rw[gnG,gnK (by omega)] at this
     simpa using this
   rw[q1s,hf]
  ·rw[q2r,if_pos rfl]
   refine⟨⟨k+1,by omega,by simp,q2u hP (by simpa using hx)⟩,?_⟩
   simp[D.int]
   omega
 ·simp only[gnZ] at hlt⊢
  have:k=l.length:=by omega
  subst this
  have hf:(l.findIdx? fun a=>decide (a.name=nm))=none:=by
   rw[List.findIdx?_eq_none_iff]
   intro a ha
   obtain⟨j,hj,rfl⟩:=vF ha
   have:=hP j hj
   rw[gnG,gnK hj] at this
   simpa using this
  rw[q1s,hf]
theorem q3q:FOk zh y9:=qzh q97 fun ds outs hw hg=>by
 obtain⟨d,r,rfl,hd,e,r',rfl,he,rfl⟩:=hw
 obtain⟨l,rfl,hl,hlo⟩:=zqb hd
 obtain⟨nm,rfl,hn⟩:=he.str
 simp only[y9,qt,q1z,uA] at hg
 subst hg
 simp only[qbj,gnZ,y9,qt]
def q9r(s:So)(a:Int)(c:Ce):Int×So:=if q1q vcP q42 s a c then(0,zem s a c) else(1,s)
def qa4(s:So):Bool:=decide (s.tr.length<5864062014634)&&decide (s.wk.length<3518437208780)
theorem qgz{s:So}(hr:qa4 s=true)(a:Int)(c:Ce):qr0 vcP q42 [eS s,.i a,eC c]=some [.i (q9r s a c).1,eS (q9r s a c).2]:=by
 simp only[qa4,gnB,gnD] at hr
 simp only[qr0,qy,yt,yh,q9r,decide_eq_true hr.1,if_true]
 split<;>rfl
theorem zo0(s:So)(a:Int)(c:Ce):(q9r s a c).2.wk=s.wk:=by
 unfold q9r
 split<;>rfl
def zcg(s:So)(x c:Ce):Int×So:=if(q9r s x.n c).1=0 then(0,{(q9r s x.n c).2 with wk:=s.wk++[⟨(cellAt s (x.n+1)).n,cellAt s (x.n+2),q1f c⟩]}) else q9r s x.n c
def zpt(s:So)(x:Ce):Bool:=inS s (x.n+1)&&(inS s (x.n+2)&&qa4 s)
def zkb:List D→Option (List D)
 |[s,x,c]=>if zpt (dS s) (dC x) then some [.i (zcg (dS s) (dC x) (dC c)).1,eS (zcg (dS s) (dC x) (dC c)).2] else none
 |_=>none
theorem zsu(s:So)(l:List Wk)(w:Wk):D.a ((eS s).fs.set 3 (.r (l.map eW++[eW w])))=eS {s with wk:=l++[w]}:=by simp[eS,D.fs]
theorem zla:FOk q0w zkb:=qin qe7 q3r fun ds outs hw hg=>by
 obtain⟨d,r,rfl,hd,e,r',rfl,he,f,r2,rfl,hf,rfl⟩:=hw
 obtain⟨s,rfl,hs⟩:=wfS hd
 obtain⟨x,rfl,hx⟩:=wfC he
 obtain⟨c,rfl,hc⟩:=wfC hf
 simp only[zkb,qy,yt,uB,uA] at hg
 obtain⟨hq,rfl⟩:=hg
 simp only[zpt,gnB] at hq
 obtain⟨h1,h2,hr⟩:=hq
 have i1:=ql.1 h1
 have i2:=ql.1 h2
 have hl:=hs.cs.1
 have rb1:yw .i64 (x.n+1)=true:=q6k.2 ⟨by omega,by omega⟩
 have rb2:yw .i64 (x.n+2)=true:=q6k.2 ⟨by omega,by omega⟩
 have hr':=hr
 simp only[qa4,gnB,gnD] at hr'
 have hwk:=zo0 s x.n c
 have hle:s.wk.length+1≤3518437208780:=by omega
 have ew:D.a [.i (cellAt s (x.n+1)).n,eC (cellAt s (x.n+2)),eC (q1f c)]=eW ⟨(cellAt s (x.n+1)).n,cellAt s (x.n+2),q1f c⟩:=rfl
 have b1: -9223372036854775808≤x.n+1∧x.n+1≤9223372036854775807:=⟨by omega,by omega⟩
 have b2: -9223372036854775808≤x.n+2∧x.n+2≤9223372036854775807:=⟨by omega,by omega⟩
 simp only[q70,gnZ,q5m,qgz hr,zb h1,zb h2,ew,b1,b2,i1,i2,hwk,zsu]
 refine⟨fun h=>?_,fun h=>?_⟩
 ·have h0:¬(q9r s x.n c).1=0:=by simpa using h
  rw[zcg,if_neg h0]
 ·have h0:(q9r s x.n c).1=0:=by simpa using h
  rw[zcg,if_pos h0]
  exact⟨by omega,rfl⟩
def orI:List Int→Int
 |[]=>0
 |x::l=>if x=0 then orI l else x
def gOr:List D→Option (List D)
 |[l]=>some [.i (orI (l.rs.map D.int))]
 |_=>none
theorem z8f:∀{l:List Int}{k:Nat},k<l.length→(∀j,j<k→l.getD j 0=0)→orI l=orI (l.drop k)
 |[],k,h,_=>by simp at h
 |x::l,0,h,_=>rfl
 |x::l,k+1,h,hz=>by
  have h0:x=0:=by simpa using hz 0 (by omega)
  rw[orI,if_pos h0,List.drop_succ_cons]
  exact z8f (by simpa using h) fun j hj=>by simpa using hz (j+1) (by omega)
theorem z5i:∀{l:List Int},(∀j,j<l.length→l.getD j 0=0)→orI l=0
 |[],_=>rfl
 |x::l,h=>by
  have h0:x=0:=by simpa using h 0 (by simp)
  rw[orI,if_pos h0]
  exact z5i fun j hj=>by simpa using h (j+1) (by simpa using hj)
theorem zwa{E:TypeId}(hE:qk E=some (.int .i64))(h:Wf d (.row E)):∃l:List Int,d=.r (l.map D.i)∧l.length≤LM (.int .i64)∧∀x∈l,i64 x:=by
 obtain⟨l,rfl,h1,h2⟩:=h.row_of hE
 obtain⟨m,rfl,h3⟩:=qdx (e:=D.i) (P:=i64) fun x hx=>wfI (h2 x hx)
 rw[uC] at h1
 exact⟨m,rfl,h1,h3⟩
theorem lmI:LM (.int .i64)=17592186043904:=by kernel_rfl
theorem zto{l:List Int}{k:Nat}(h:k<l.length):(D.r (l.map D.i)).get (k:Int)=.i (l.getD k 0):=by
 show(l.map D.i).getD (k:Int).toNat .u=_
 simp[gnG,h]
theorem qyq:FOk q17 gOr:=qvr fun ds outs hw hg=>by
 obtain⟨d,r,rfl,hd,rfl⟩:=hw
 obtain⟨l,rfl,hl,hlo⟩:=zwa rfl hd
 rw[lmI] at hl
 have hm:(l.map D.i).map D.int=l:=by
  rw[kY]
  have:D.int ∘ D.i=id:=funext fun _=>rfl
  rw[this,List.map_id]
 simp only[gOr,q35,hm,uA] at hg
 subst hg
 rw[q9v,j3]
 refine⟨fun st=>∃k:Nat,k≤l.length∧st=[.i 0,.i k]∧∀j,j<k→l.getD j 0=0,fun st=>l.length - (st.getD 1 .u).int.toNat,⟨0,uF _,rfl,fun j hj=>absurd hj (kB _)⟩,?_⟩
 rintro st - ⟨k,hk,rfl,hP⟩
 rw[zd]
 refine⟨fun hlt=>?_,fun hlt=>?_⟩
 ·simp only[gnZ] at hlt
  have hkl:k<l.length:=by omega
  have hd:orI l=orI (l.drop k):=z8f hkl hP
  have he:l.drop k=l.getD k 0::l.drop (k+1):=by
   rw[uL hkl]
   simp[gnG,hkl]
  simp only[gnZ,zto hkl]
  refine⟨⟨by omega,by omega⟩,fun hx=>?_,fun hx=>⟨⟨by omega,by omega⟩,?_⟩⟩
  ·have hx':¬l.getD k 0=0:=by simpa using hx
   rw[hd,he,orI,if_neg hx']
  ·have hx':l.getD k 0=0:=by simpa using hx
   rw[q2r,if_pos rfl]
   refine⟨⟨k+1,by omega,by simp,q2u hP hx'⟩,?_⟩
   simp[D.int]
   omega
 ·simp only[gnZ] at hlt⊢
  have:k=l.length:=by omega
  subst this
  rw[z5i hP]
variable{P:Program}{Q:Exit→Act→World→Prop}{ann:Ann}{K:Act→World→Prop}{kill:List Nat}
section
theorem z7d{F:Fence}{n:Nat}{o:Oper}{a:Act}{next next':Act→World→Prop}{Q':Exit→Act→World→Prop}{r:Result Next}(hn:∀a w,next a w→next' a w)(hp:∀ch a w,Q (.panic ch) a w→Q' (.panic ch) a w)(ho:LetsOut Q→LetsOut Q')(h:o.uponIn F n P a next Q r):o.uponIn F n P a next' Q' r:=by
 cases r with
 | ok x w' =>
  cases x with
  |value v=>exact hn _ _ h
  |skip=>exact hn _ _ h
  |defer d=>exact hn _ _ h
  |enter f args=>
   refine⟨h.1,h.2.1,fun cs hr=>?_⟩
   obtain⟨e,w2,fr,hR,rest⟩:=h.2.2 cs hr
   refine⟨e,w2,fr,?_,rest⟩
   cases e with
   |returned v=>exact hn _ _ hR
   |panicked ch=>exact hp _ _ _ hR
   |outgrown=>exact ho hR
  |row row args=>exact⟨h.1,h.2.mono fun v w2 hR=>hn _ _ hR⟩
  |round l f tmps assign body=>
   refine⟨h.1,h.2.mono fun e w2 hR=>?_⟩
   cases e with
   |returned v=>exact hn _ _ hR
   |panicked ch=>exact hp _ _ _ hR
   |outgrown=>exact ho hR
  |_=>exact h.elim
 |halt x w'=>
  cases x with
  |panic v=>exact hp _ _ _ h
  |_=>exact h.elim
theorem qdd{F:Fence}{n:Nat}{ops:Array Oper}:∀(l m:List Oper){a:Act}{w:World},wpListIn F n P ops (Exit.then (wpListIn F n P ops Q m) Q) l a w→wpListIn F n P ops Q (l++m) a w
 |[],m,a,w,h=>h
 | o :: l, m, a, w, h => by
  show wpListIn F n P ops Q (o::(l++m)) a w
  unfold wpListIn at h⊢
  split
  ·rename_i hw
   rw[if_pos hw] at h
   exact⟨h.1,z7d (fun a w h=>qdd l m h) (fun ch a w h=>h) (fun h=>h) h.2⟩
  ·rename_i hw
   rw[if_neg hw] at h
   exact⟨h.1,qdd l m h.2⟩
def qby(F:Fence)(n:Nat)(P:Program)(Q:Exit→Act→World→Prop):List Code→(Act→World→Prop)→Act→World→Prop
 |[],K=>K
 |x::xs,K=>fun a w=>x.wpIn F n P (Exit.then (qby F n P Q xs K) Q) a w
def seqs:List Code→Code→Code
 |[],y=>y
 |x::xs,y=>.seq x (seqs xs y)
theorem q2p{F:Fence}{n:Nat}:∀(xs:List Code){y:Code}{a:Act}{w:World},qby F n P Q xs (fun a w=>y.wpIn F n P Q a w) a w→(seqs xs y).wpIn F n P Q a w
 |[],y,a,w,h=>h
 | x :: xs, y, a, w, h => wpIn_seq (wpIn_mono h fun e a w hq => by
   cases e with
   |normal=>exact q2p xs hq
   |_=>exact hq)
theorem qd5{F:Fence}{n:Nat}:∀(xs ys:List Code){K:Act→World→Prop}{a:Act}{w:World},qby F n P Q (xs++ys) K a w→qby F n P Q xs (qby F n P Q ys K) a w
 |[],ys,K,a,w,h=>h
 | x :: xs, ys, K, a, w, h => wpIn_mono h fun e a w hq => by
   cases e with
   |normal=>exact qd5 xs ys hq
   |_=>exact hq
theorem q7r{F:Fence}{n:Nat}{Q':Exit→Act→World→Prop}(hQ:∀e a w,e≠.normal→Q e a w→Q' e a w):∀(xs:List Code){K K':Act→World→Prop}(hK:∀a w,K a w→K' a w){a:Act}{w:World},qby F n P Q xs K a w→qby F n P Q' xs K' a w
 |[],K,K',hK,a,w,h=>hK _ _ h
 | x :: xs, K, K', hK, a, w, h => wpIn_mono h fun e a w hq => by
   cases e with
   |normal=>exact q7r hQ xs hK hq
   |exit i=>exact hQ _ _ _ (by simp) hq
   |ret=>exact hQ _ _ _ (by simp) hq
   |goto i=>exact hQ _ _ _ (by simp) hq
   |panic ch=>exact hQ _ _ _ (by simp) hq
   |outgrown=>exact hQ _ _ _ (by simp) hq
section
variable{c:Cx}{p:qi}{w w0:World}{S0:Nat→Prop}{a:Act}{σ σ':St}{d:List Deferred}{z:Nat}{tbl:Tbl}
theorem qbd(ro:Option Nat)(nn:Nat)(htb:q0r tbl)(hfm:∀te,c.F.mx te≤flM tbl te)(hnp:qa3 tbl=true):∀(xs:List Code){n:Nat}{σ:St}{k:Nat→ResD→St→Tree}{l:List D}{B:Nat→List D→Prop}{p:qi}{w:World}{a:Act},
  (q6o uG tbl ann c.lo z xs n σ k).go (qe tbl) R l B→l.length=n→Bs c.A c.F w0 S0 p w→SF (c.at (qe tbl) l) σ p w a→a.defers=d→a.tmps.size=z→
  (∀n' r σ' l' B' p' w' a',l'.length=n'→l'.take n=l→(k n' r σ').go (qe tbl) R l' B'→Bs c.A c.F w0 S0 p' w'→SF (c.at (qe tbl) l') σ' p' w' a'→a'.defers=d→a'.tmps.size=z→Exit.then K Q r.exit' a' w')→qby (FR ro) nn uG Q xs K a w
 |[],n,σ,k,l,B,p,w,a,h,hl,hb,hf,hd,hz,hk=>hk n .normal σ l B p w a hl (by rw[←hl];exact uW) h hb hf hd hz
 | x :: xs, n, σ, k, l, B, p, w, a, h, hl, hb, hf, hd, hz, hk => by
  refine qo5 ro nn htb hfm x h hl hb hf hd hz (q60 hnp) (qln hnp) fun n' r σ' l' B' p' w' a' hl' hpre _ hgo hb' hf' hd' hz'=>?_
  have hnn:n≤n':=by
   have:=congrArg kM hpre
   simp at this
   omega
  cases r with
  |normal=>exact qbd ro nn htb hfm hnp xs hgo hl' hb' hf' hd' hz' fun n2 r2 σ2 l2 B2 p2 w2 a2 h1 h2=>hk n2 r2 σ2 l2 B2 p2 w2 a2 h1 (by rw[←hpre,←h2,List.take_take,Nat.min_eq_left hnn])
  |ret=>exact hk n' .ret σ' l' B' p' w' a' hl' hpre hgo hb' hf' hd' hz'
  |exit i=>exact hk n' (.exit i) σ' l' B' p' w' a' hl' hpre hgo hb' hf' hd' hz'
def qqv(ts ms:List Item)(kill:List Nat)(σk:St):Nat→ResD→St→Tree:=fun _ r σ=>match r with
 |.normal=>(match conv ts ms (σ.drop kill) with
  |some (σc,va,vb)=>if covers σc σk then .leaf (va++vb) else .bad 1
  |none=>.need (zdd (σ.drop kill) ts ms) (.bad 2))
 |.ret=>.leaf []
 |.exit i=>.leaf [.lit (.i (vZ i))]
theorem zc6{ts ms:List Item}{σk σc:St}{va vb:List X}{l:List D}(h:conv ts ms (σ.drop kill)=some (σc,va,vb))(hcov:covers σc σk=true)(hb:Bs c.A c.F w0 S0 p w)(hf:SF (c.at (qe tbl) l) σ p w a):
  ∃p',Bs c.A c.F w0 S0 p' w∧SF (c.at (qe tbl) l) σk p' w a∧ItT c.snap c.A p' w a ts (X.evs (evl (qe tbl) l) va)∧ItM c.A p' w ms (X.evs (evl (qe tbl) l) vb):=by
 have hf2:=SF.un (c:=c.at (qe tbl) l) (q:=qf4 kill σ) hb.inj hb.pa hf
 have hb2:=hb.un (qf4 kill σ)
 change SF _ (σ.drop kill) _ _ _ at hf2
 unfold conv at h
 split at h
 ·rename_i hrb
  split at h
  ·rename_i wa wb hwa hwb
   simp only[gnS] at h
   obtain⟨rfl,rfl,rfl⟩:=h
   obtain⟨p3,hb3,hf3⟩:=qma (c:=c.at (qe tbl) l) hrb hb2 hf2
   exact⟨p3,hb3,q3b hcov hf3,z5k hf3 hwa,z7q hf3 hwb⟩
  ·cases h
 ·cases h
theorem z6m{ts ms:List Item}{σ σc:St}{va vb:List X}(h:conv ts ms σ=some (σc,va,vb)):va.length=ts.length∧vb.length=ms.length:=by
 unfold conv at h
 split at h
 ·split at h
  ·rename_i wa wb hwa hwb
   simp only[gnS] at h
   obtain⟨-,rfl,rfl⟩:=h
   exact⟨qlt hwa,qlt hwb⟩
  ·cases h
 ·cases h
theorem qtq(ro:Option Nat)(nn:Nat)(htb:q0r tbl)(hfm:∀te,c.F.mx te≤flM tbl te)(hnp:qa3 tbl=true)(xs:List Code){n:Nat}{ts ms:List Item}{σk:St}{l:List D}
  (h:(q6o uG tbl ann c.lo z xs n σ (qqv ts ms kill σk)).go (qe tbl) R l B)(hl:l.length=n)(hb:Bs c.A c.F w0 S0 p w)(hf:SF (c.at (qe tbl) l) σ p w a)(hd:a.defers=d)(hz:a.tmps.size=z)
  (hk:∀st p' w' a',R st→st.length=ts.length+ms.length→Bs c.A c.F w0 S0 p' w'→SF (c.at (qe tbl) (l++st)) (q3l ts ms n (q2t ts ms kill n σk)) p' w' a'→a'.defers=d→a'.tmps.size=z→K a' w')
  (ho:∀p' w' a',R []→Bs c.A c.F w0 S0 p' w'→a'.defers=d→a'.tmps.size=z→Q .ret a' w')
  (he:∀i p' w' a',R [.i (vZ i)]→Bs c.A c.F w0 S0 p' w'→a'.defers=d→a'.tmps.size=z→Q (.exit i) a' w'):qby (FR ro) nn uG Q xs K a w:=by
 refine qbd ro nn htb hfm hnp xs h hl hb hf hd hz fun n' r σ' l' B' p' w' a' hl' hpre hgo hb' hf' hd' hz'=>?_
 cases r with
 |ret=>exact ho p' w' a' hgo hb' hd' hz'
 |exit i=>exact he i p' w' a' hgo hb' hd' hz'
 | normal =>
  simp only[qqv] at hgo
  split at hgo
  ·rename_i σc va vb hcv
   split at hgo
   ·rename_i hcov
    obtain⟨p2,hb2,hf2,h1,h2⟩:=zc6 (c:=c) hcv hcov hb' hf'
    obtain⟨q1,q2⟩:=z6m hcv
    have hR:R (X.evs (evl (qe tbl) l') (va++vb)):=hgo
    rw[qdr] at hR
    have hnl:n≤l'.length:=by
     have:=congrArg kM hpre
     simp at this
     omega
    refine hk _ p2 w' a' hR (by simp[qgw,q1,q2]) hb2 ?_ hd' hz'
    refine qs8 (c:=c.at (qe tbl) l') (c':=c.at (qe tbl) (l++_)) rfl rfl ⟨rfl,rfl,rfl⟩ (fun k hk=>?_) (fun i hi=>?_) (qkd hf2) h1 h2
    ·show l'.getD k .u=(l++_).getD k .u
     simp only[gnG]
     rw[uD (by omega),←hpre,List.getElem?_take_of_lt hk]
    ·show(l++_).getD (n+i) .u=_
     simp only[gnG]
     rw[kE (by omega)]
     congr 2
     omega
   ·exact hgo.elim
  ·exact hgo.2.elim
end
end
end Go.Proofs.YtdaadonfbnedaaaGreat
