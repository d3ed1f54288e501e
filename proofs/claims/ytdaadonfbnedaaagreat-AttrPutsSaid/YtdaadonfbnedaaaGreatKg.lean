/-
 Lemmas of the walk and plain laws, put together. No condition.
-/
import Derived.RangeFuncSeq
import Derived.StillTailTactics
import Derived.TacticsInMore
import Derived.Test.YtdaadonfbnedaaaGreatKf
namespace Go.Proofs.YtdaadonfbnedaaaGreat
open Go.RowKit
set_option linter.unusedVariables false
set_option linter.unusedSimpArgs false
set_option maxRecDepth 100000
open _root_.Go.Proofs.Tryz renaming prog→uA,f94→kE,ntmps82→vF,func82→vJ
open _root_.Array renaming getElem?_eq_some_iff→uB,getElem?_setIfInBounds_self_of_lt→uD,getElem?_append_left→uF,replicate→uH,getD_eq_getD_getElem?→uL,getElem?_setIfInBounds_ne→kA,size_setIfInBounds→kH,replicate_zero→kO,replicate_succ→kP
open World renaming putObj_heap_other→uC,putObj_heap_same→uU
open _root_.List renaming all_eq_true→uE,getElem?_append_left→uG,getD_cons_zero→uI,getD_cons_succ→uJ,getElem?_append_right→uN,getElem?_cons_zero→uO,getElem?_toArray→uP,length_map→uQ,mem_cons_of_mem→uW,mem_cons_self→uY,take_append_of_le_length→kC,getElem?_take_of_lt→kI,getElem?_cons_succ→kJ,take_of_length_le→kK,take_append_drop→kM,mem_iff_getElem?→kN,mem_append_left→kQ,append_toArray→kR,size_toArray→kS,push_toArray→kT,getElem_take→kU,take_length→kW,length_cons→kX,cons_append→kY,nil_append→kZ,length_nil→vA,drop_left→vC,drop_drop→vD,map_cons→vE,map_nil→vI,length→vM
open _root_.Option renaming isSome_some→uK,getD_some→uM,ite_none_right_eq_some→kB,isNone_iff_eq_none→kD
open _root_.Option.some renaming injEq→uR
open _root_.Nat renaming zero_le→uT,le_trans→uV,blt_eq→kG,beq→kL,not_lt_zero→vB,reduceSub→vG,reduceAdd→vH,zero_add→vK,beq_refl→vL,le_refl→vN,blt→vO
open _root_.Bool renaming not_true→uX,true_eq_false→uZ,not_false→kF,not_eq_true'→kV
def q59(s:So)(c:Ce):Option (ByteArray×Ce×Ce):=
 if qii s (q2s s c) ⟨#[46]⟩ then
  (if qii s (q2s s (cellAt s ((q2s s c).n+1))) ⟨#[45]⟩ then
   (if qfj s (q2s s (cellAt s ((q2s s (cellAt s ((q2s s c).n+1))).n+1))) then
    some ((s.ys.getD (q2s s (cellAt s ((q2s s (cellAt s ((q2s s c).n+1))).n+1))).n.toNat default).name,cellAt s ((q2s s c).n+2),cellAt s ((q2s s (cellAt s ((q2s s c).n+1))).n+2))
    else none) else none) else none
def hasB(met:List ByteArray)(nm:ByteArray):Bool:=met.any fun x=>decide (x=nm)
def q6r(s:So):Nat→Ce→List ByteArray→List At
 |0,_,_=>[]
 |k+1,c,met=>match q59 s c with
  |none=>[]
  |some (nm,tl,vl)=>(if hasB met nm then[] else[⟨nm,q1f (q2s s vl)⟩])++q6r s k tl (nm::met)
def yx(s:So)(c:Ce):List At:=q6r s s.cs.length c []
def sqL:Code→Code
 |.seq x _=>x
 |c=>c
def sqR:Code→Code
 |.seq _ y=>y
 |c=>c
def bkC:Code→Code
 |.block _ c=>c
 |c=>c
def lpC:Code→Code
 |.loop c=>c
 |c=>c
noncomputable def itC:Code:=match kE.body with
 |some c=>c
 |none=>.skip
noncomputable def itR:Code:=lpC (bkC (sqR (sqR itC)))
noncomputable def itB:Code:=bkC (sqL (sqR (sqR itR)))
noncomputable def it1:List Code:=[sqL itC,sqL (sqR itC)]
noncomputable def z7i:List Code:=[sqL itR,sqL (sqR itR)]
noncomputable def z9h:List Code:=[sqL itB,sqL (sqR itB),sqL (sqR (sqR itB)),sqL (sqR (sqR (sqR itB))),sqL (sqR (sqR (sqR (sqR itB)))),sqL (sqR (sqR (sqR (sqR (sqR itB)))))]
noncomputable def itY:Code:=sqL (sqR (sqR (sqR (sqR (sqR (sqR itB))))))
noncomputable def it3:List Code:=[sqL (sqR (sqR (sqR (sqR (sqR (sqR (sqR itB))))))),sqR (sqR (sqR (sqR (sqR (sqR (sqR (sqR itB)))))))]
noncomputable def it4:List Code:=[sqR (sqR (sqR itR))]
noncomputable def itO:List Oper:=match sqL itY with
 |.region _ ops _=>ops.toList
 |_=>[]
abbrev mpT:Ty:=.map 9 4
abbrev q36:Tbl:=[(zm,qfv),(q4w,zbo),(q4q,z2i),(q14,q5m)]
theorem qc1:q0r q36:=.cons q63 (.cons z36 (.cons z4i (.cons qe7 .nil)))
def z48:Ann:=⟨[0,1,2,4,5,6,7,8,9,10,14,15,16,27,38,48,62],[]⟩
def sA:St:=⟨[(0,.sn 0 .any),(1,.sn 1 (.rd (.tok 0) qb [] none)),(2,.sn 2 .any)],[]⟩
def sA':St:=⟨[(0,.sn 0 .any),(1,.sn 1 (.rd (.tok 0) qb [] none)),(2,.sn 2 .any),(14,.v (.len (.fld (.tok 0) 0)) (.int .i64) [] [])],[]⟩
abbrev iA:List Item:=[(4,mpT,[(0,65)],[]),(15,.int .i64,[],[])]
def sH:St:=⟨[(0,.sn 0 .any),(1,.sn 1 (.rd (.tok 0) qb [] none)),(2,.ref 2 [] 0 qm),(4,.sn 4 (.v (.tok 2) mpT [(0,65)] [])),(14,.v (.len (.fld (.tok 0) 0)) (.int .i64) [] []),(15,.v (.tok 3) (.int .i64) [] [])],[(2,⟨.tok 1,qm,[],[]⟩)]⟩
def sB:St:=⟨[(0,.sn 0 .any),(1,.sn 1 (.rd (.tok 0) qb [] none)),(2,.ref 2 [] 0 qm),(4,.sn 4 (.v (.tok 2) mpT [(0,65)] [])),(6,.ref 6 [] 0 qm),(9,.ref 9 [] 0 qm),(14,.v (.len (.fld (.tok 0) 0)) (.int .i64) [] []),(15,.v (.tok 3) (.int .i64) [] [])],[(2,⟨.tok 1,qm,[],[]⟩)]⟩
abbrev iBt:List Item:=[(10,.str,[],[])]
abbrev iBm:List Item:=[(6,qm,[],[]),(9,qm,[],[])]
def sY:St:=⟨[(10,.v (.tok 4) .str [] []),(0,.sn 0 .any),(1,.sn 1 (.rd (.tok 0) qb [] none)),(2,.ref 2 [] 0 qm),(4,.sn 4 (.v (.tok 2) mpT [(0,65)] [])),(6,.ref 6 [] 0 qm),(9,.ref 9 [] 0 qm),(14,.v (.len (.fld (.tok 0) 0)) (.int .i64) [] []),(15,.v (.tok 3) (.int .i64) [] [])],[(6,⟨.tok 5,qm,[],[]⟩),(9,⟨.tok 6,qm,[],[]⟩),(2,⟨.tok 1,qm,[],[]⟩)]⟩
def sP:St:=⟨[(0,.sn 0 .any),(1,.sn 1 (.rd (.tok 0) qb [] none)),(2,.ref 2 [] 0 qm),(4,.sn 4 (.v (.tok 2) mpT [(0,65)] [])),(6,.rd (.tok 5) qm [] none),(10,.v (.tok 4) .str [] []),(14,.v (.len (.fld (.tok 0) 0)) (.int .i64) [] []),(15,.v (.tok 3) (.int .i64) [] [])],[(2,⟨.tok 1,qm,[],[]⟩)]⟩
def sP':St:=⟨[(0,.sn 0 .any),(1,.sn 1 (.rd (.tok 0) qb [] none)),(2,.ref 2 [] 0 qm),(14,.v (.len (.fld (.tok 0) 0)) (.int .i64) [] [])],[]⟩
abbrev iPt:List Item:=[(4,mpT,[(0,65)],[SNK]),(15,.int .i64,[],[])]
abbrev iPm:List Item:=[(2,qm,[],[])]
def sYt:St:=⟨(54,.sn 0 .any)::(53,.v (.lit (.b true)) .bool [] [])::sY.t,sY.m⟩
def sYf:St:=⟨(53,.v (.lit (.b false)) .bool [] [])::sY.t,sY.m⟩
def sYz:St:=⟨(60,.v (.tok 6) .bool [] [])::(53,.v (.lit (.b true)) .bool [] [])::sP.t,sP.m⟩
def zuc:Tree:=(.leaf [(.lit (.mp [])),(.lit (.i 0))])
theorem zn5:q6o uA q36 z48 3 67 it1 1 sA (qqv iA [] [] sA')=zuc:=by kernel_rfl
def zr7:Tree:=
 let b:X:=.tok 0
 let e:X:=.lit (.s ⟨#[46]⟩)
 let f:X:=.lit (.s ⟨#[45]⟩)
 let d:X:=.call 0 0 [b,(.tok 1)]
 let h:X:=.ok 0 [b,(.tok 1)]
 let a:X:=.call 1 0 [b,d,e]
 let g:X:=.call 0 0 [b,a]
 let j:X:=.ok 0 [b,a]
 let c:X:=.call 1 0 [b,g,f]
 let i:X:=.call 0 0 [b,c]
 (.br (.lt (.tok 3) (.len (.fld b 0))) (.need [(.ok 1 [b,d,e]),(.ok 1 [b,d,e]),h,h,h] (.br (.not (.call 1 2 [b,d,e])) (.leaf []) (.need [(.ok 1 [b,g,f]),(.ok 1 [b,g,f]),j,j,j] (.br (.not (.call 1 2 [b,g,f])) (.leaf []) (.need [(.ok 2 [b,i]),(.ok 0 [b,c])] (.br (.not (.call 2 1 [b,i])) (.leaf []) (.leaf [(.call 2 0 [b,i]),(.call 1 1 [b,d,e]),(.call 1 1 [b,g,f])]))))))) (.leaf [(.lit (.i 0))]))
theorem zl3:q6o uA q36 z48 3 67 (z7i++z9h) 4 sH (qqv iBt iBm [] sB)=zr7:=by kernel_rfl
def zqg:Tree:=(.need [(.rng .i64 (.add (.tok 3) (.lit (.i 1))))] (.leaf [(.fn 2 [(.tok 2),(.tok 4),(.lit (.b .true))]),(.add (.tok 3) (.lit (.i 1))),(.tok 5)]))
theorem zlm:q6o uA q36 z48 3 67 (it3++it4) 6 sP (qqv iPt iPm [] sP')=zqg:=by kernel_rfl
def zw7:List X:=[]
def zrf:St:=(.mk [(53,(.v (.not (.fn 0 [(.tok 2),(.tok 4),(.lit (.b .false))])) .bool [] [])),(52,(.v (.not (.fn 0 [(.tok 2),(.tok 4),(.lit (.b .false))])) .bool [] [])),(51,(.v (.fn 0 [(.tok 2),(.tok 4),(.lit (.b .false))]) .bool [] [])),(50,(.v (.tok 4) .str [] [])),(49,(.v (.tok 2) (.map 9 4) [(0,65)] [])),(10,(.v (.tok 4) .str [] [])),(0,(.sn 0 .any)),(1,(.sn 1 (.rd (.tok 0) (.st 26) [] .none))),(2,(.ref 2 [] 0 (.st 28))),(4,(.sn 4 (.v (.tok 2) (.map 9 4) [(0,65)] []))),(6,(.ref 6 [] 0 (.st 28))),(9,(.ref 9 [] 0 (.st 28))),(14,(.v (.len (.fld (.tok 0) 0)) (.int .i64) [] [])),(15,(.v (.tok 3) (.int .i64) [] []))] [(6,(.mk (.tok 5) (.st 28) [] [])),(9,(.mk (.tok 6) (.st 28) [] [])),(2,(.mk (.tok 1) (.st 28) [] []))])
theorem zob:qwi uA q36 (dsts itO) sY (itO.take 5)=some (zw7,zrf):=by kernel_rfl
def zry:List X:=[(.ok 0 [(.tok 0),(.tok 6)]),(.ok 3 [(.call 0 0 [(.tok 0),(.tok 6)])])]
def zdy:St:=(.mk [(59,(.v (.call 3 0 [(.call 0 0 [(.tok 0),(.tok 6)])]) (.st 28) [] [])),(58,(.v (.call 0 0 [(.tok 0),(.tok 6)]) (.st 28) [] [])),(57,(.v (.tok 6) (.st 28) [] [])),(56,(.v (.tok 0) (.st 26) [] [])),(55,(.v (.tok 4) .str [] [])),(54,(.sn 0 .any)),(53,(.v (.lit (.b .true)) .bool [] [])),(10,(.v (.tok 4) .str [] [])),(0,(.sn 0 .any)),(1,(.sn 1 (.rd (.tok 0) (.st 26) [] .none))),(2,(.ref 2 [] 0 (.st 28))),(4,(.sn 4 (.v (.tok 2) (.map 9 4) [(0,65)] []))),(6,(.ref 6 [] 0 (.st 28))),(9,(.ref 9 [] 0 (.st 28))),(14,(.v (.len (.fld (.tok 0) 0)) (.int .i64) [] [])),(15,(.v (.tok 3) (.int .i64) [] []))] [(6,(.mk (.tok 5) (.st 28) [] [])),(9,(.mk (.tok 6) (.st 28) [] [])),(2,(.mk (.tok 1) (.st 28) [] []))])
theorem zmt:qwi uA q36 (dsts itO) sYt ((itO.drop 6).take 5)=some (zry,zdy):=by kernel_rfl
def zvz:List X:=[]
def zq1:St:=(.mk [(62,(.v (.lit (.b .false)) .bool [] [])),(61,.undef),(60,.undef),(59,.undef),(58,.undef),(57,.undef),(56,.undef),(55,.undef),(54,.undef),(53,(.v (.lit (.b .false)) .bool [] [])),(10,(.v (.tok 4) .str [] [])),(0,(.sn 0 .any)),(1,(.sn 1 (.rd (.tok 0) (.st 26) [] .none))),(2,(.ref 2 [] 0 (.st 28))),(4,(.sn 4 (.v (.tok 2) (.map 9 4) [(0,65)] []))),(6,(.ref 6 [] 0 (.st 28))),(9,(.ref 9 [] 0 (.st 28))),(14,(.v (.len (.fld (.tok 0) 0)) (.int .i64) [] [])),(15,(.v (.tok 3) (.int .i64) [] []))] [(6,(.mk (.tok 5) (.st 28) [] [])),(9,(.mk (.tok 6) (.st 28) [] [])),(2,(.mk (.tok 1) (.st 28) [] []))])
theorem zlb:qwi uA q36 (dsts itO) sYf (itO.drop 5)=some (zvz,zq1):=by kernel_rfl
def zwt:List X:=[]
def zr3:St:=(.mk [(62,(.v (.not (.tok 6)) .bool [] [])),(61,(.v (.not (.tok 6)) .bool [] [])),(60,(.v (.tok 6) .bool [] [])),(53,(.v (.lit (.b .true)) .bool [] [])),(0,(.sn 0 .any)),(1,(.sn 1 (.rd (.tok 0) (.st 26) [] .none))),(2,(.ref 2 [] 0 (.st 28))),(4,(.sn 4 (.v (.tok 2) (.map 9 4) [(0,65)] []))),(6,(.rd (.tok 5) (.st 28) [] .none)),(10,(.v (.tok 4) .str [] [])),(14,(.v (.len (.fld (.tok 0) 0)) (.int .i64) [] [])),(15,(.v (.tok 3) (.int .i64) [] []))] [(2,(.mk (.tok 1) (.st 28) [] []))])
theorem zoa:qwi uA q36 (dsts itO) sYz (itO.drop 12)=some (zwt,zr3):=by kernel_rfl
def zv1(s:So)(c:Ce)(i:Int)(o:List D):Prop:=(o=[]∧q59 s c=none)∨(o=[.i 0]∧(s.cs.length:Int)≤i)∨∃nm tl vl,i<s.cs.length∧q59 s c=some (nm,tl,vl)∧o=[.s nm,eC tl,eC vl]
variable{c:Ce}
theorem zw5{s:So}{M:D}{i:Int}(B:Nat→List D→Prop):zr7.go (qe q36) (zv1 s c i) [eS s,eC c,M,.i i] B:=by
 unfold zr7
 rw[zd]
 refine⟨fun h=>?_,fun h=>?_⟩
 ·have hi:i<s.cs.length:=by simpa[X.ev,evl,qf0,D.int,D.rs,D.tt] using h
  simp only[gnZ,qfv,zbo,q1z]
  by_cases h1:qii s (q2s s c) ⟨#[46]⟩=true
  ·simp only[h1,if_true,uK,uM,uI,uJ,q5i,yt]
   by_cases h2:qii s (q2s s (cellAt s ((q2s s c).n+1))) ⟨#[45]⟩=true
   ·simp only[h2,if_true,uK,uM,uI,uJ,q5i,yt,z2i,qy]
    by_cases h3:qfj s (q2s s (cellAt s ((q2s s (cellAt s ((q2s s c).n+1))).n+1)))=true
    ·simp only[h3,if_true,uK,uM,uI,uJ,q5i,uX,gnF,false_implies,true_and,true_implies,and_true]
     exact .inr (.inr ⟨_,_,_,hi,by rw[q59,if_pos h1,if_pos h2,if_pos h3],rfl⟩)
    ·have hn:q59 s c=none:=by rw[q59,if_pos h1,if_pos h2,if_neg h3]
     simp only[if_neg h3,uK,uM,uI,uJ,q5i,uX,kF,gnF,uZ,false_implies,true_and,true_implies,and_true]
     exact .inl ⟨rfl,hn⟩
   ·have hn:q59 s c=none:=by rw[q59,if_pos h1,if_neg h2]
    simp only[if_neg h2,uK,uM,uI,uJ,q5i,uX,kF,gnF,uZ,false_implies,true_and,true_implies,and_true]
    exact .inl ⟨rfl,hn⟩
  ·have hn:q59 s c=none:=by rw[q59,if_neg h1]
   simp only[if_neg h1,uK,uM,uI,uJ,q5i,uX,kF,gnF,uZ,false_implies,true_and,true_implies,and_true]
   exact .inl ⟨rfl,hn⟩
 ·have hi:(s.cs.length:Int)≤i:=by simpa[X.ev,evl,qf0,D.int,D.rs,D.tt] using h
  exact .inr (.inl ⟨rfl,hi⟩)
def zu0(c:Ce)(M nm:D)(i:Int)(o:List D):Prop:=o=[.mp (mset nm (.b true) M.ms),.i (i+1),eC c]
theorem zwk{s:So}{tl:Ce}{M nm:D}{i:Int}(hi:i64 (i+1))(B:Nat→List D→Prop):zqg.go (qe q36) (zu0 tl M nm i) [eS s,eC c,M,.i i,nm,eC tl] B:=by
 unfold zqg
 rw[qj]
 refine⟨⟨?_,trivial⟩,?_⟩
 ·show(D.b (yw .i64 (i+1))).tt=true
  rw[q6k.2 hi]
  rfl
 ·rfl
theorem zwl{s:So}(B:Nat→List D→Prop):zuc.go (qe q36) (fun o=>o=[.mp [],.i 0]) [eS s] B:=rfl
variable{F:Nat→Prop}{cs:List Value}{p:qi}{cx:Cx}{x:X}{v:Value}
section
open Go.RowKit Go.Shelf
abbrev yvV(l:Nat):Value:=.func (.yield l) #[] #[]
abbrev ptV(b:Nat):Value:=.pointer (some ⟨b,0,none⟩)
def ceL(c:Ce):List Value:=[.int .i64 c.t,.int .i64 c.n]
theorem qzo{w:World}(h:Rd w F (eC c) qm cs):cs=ceL c:=by
 obtain⟨l,e,hF⟩:=Ins.of_rdS Ins.flC h
 injection e with e
 subst e
 obtain⟨d,l',c1,c2,e1,rfl,h1,hG⟩:=Ins.of_rdF hF
 obtain⟨d2,l2,c3,c4,e2,rfl,h2,hH⟩:=Ins.of_rdF hG
 obtain⟨rfl,rfl⟩:=Ins.of_rdN hH
 injection e1 with e1 e1'
 subst e1 e1'
 injection e2 with e2 _
 subst e2
 obtain⟨n1,-,q1,rfl⟩:=Ins.of_rdI h1
 obtain⟨n2,-,q2,rfl⟩:=Ins.of_rdI h2
 injection q1 with q1
 injection q2 with q2
 subst q1 q2
 rfl
theorem z03{w:World}(h:c.ok):Rd w F (eC c) qm (ceL c):=
 ⟨_,_,rfl,Ins.flC,.int .i64,[.int .i64],[.int .i64 c.t],[.int .i64 c.n],rfl,rfl,⟨.i64,rfl,rfl,q6k.2 h.1⟩,.int .i64,[],[.int .i64 c.n],[],rfl,rfl,⟨.i64,rfl,rfl,q6k.2 h.2⟩,rfl,rfl⟩
theorem zcm{w:World}(h:Rd w F (eC c) qm cs):c.ok:=by
 obtain⟨c',e,hc⟩:=wfC ⟨w,F,cs,h⟩
 rw[z4n e]
 exact hc
def itP(bc m:Nat):qi:=fun x=>if x=32 then some bc else if x=65 then some m else none
theorem q99{bc m x b:Nat}(h:itP bc m x=some b):(x=32∧b=bc)∨(x=65∧b=m):=by
 unfold itP at h
 split at h
 ·rename_i e
  exact .inl ⟨e,(gnI h).symm⟩
 ·split at h
  ·rename_i e
   exact .inr ⟨e,(gnI h).symm⟩
  ·cases h
theorem zaz{bc m b:Nat}:pinned (itP bc m) b↔b=bc∨b=m:=by
 constructor
 ·rintro⟨x,hx⟩
  exact(q99 hx).imp (·.2) (·.2)
 ·rintro(rfl|rfl)
  ·exact⟨32,rfl⟩
  ·exact⟨65,rfl⟩
def itX(l bs bc m:Nat):Cx:=⟨evl (qe q36) [],fun _=>True,.no,3,fun k g=>(k<3∨VB≤k)→itP bc m (k * 16)=some g,fun k g hk h2 h=>absurd h (by omega),fun t=>if t=0 then yvV l else if t=1 then ptV bs else if t=4 then .map (some m) else ptV bc⟩
theorem qsm(l bs bc m:Nat):∀te,(itX l bs bc m).F.mx te≤flM q36 te:=fun _=>uT _
structure HdOk(NB l bs bc m:Nat)(css:List Value)(s:So)(c:Ce)(M:List D)(i:Int)(a:Act)(W:World):Prop where
 z:a.tmps.size=67
 d:a.defers=[]
 t0:a.tmps[0]? =some (yvV l)
 t1:a.tmps[1]? =some (ptV bs)
 t2:a.tmps[2]? =some (ptV bc)
 t4:a.tmps[4]? =some (.map (some m))
 t14:a.tmps[14]? =some (.int .i64 (s.cs.length:Nat))
 t15:a.tmps[15]? =some (.int .i64 i)
 hs:∃T,W.heap[bs]? =some (.cells css.toArray T (0,0))
 rd:Rd W (fun b=>b<NB∧b≠bc) (eS s) qb css
 hc:∃T,qk T=some qm∧W.heap[bc]? =some (.cells (ceL c).toArray T (0,0))
 hm:∃es clock,W.heap[m]? =some (.map es clock)∧q8b .str .bool M es.toList
 so:s.ok
 co:c.ok
 ir:i64 i
section
variable{NB l bs bc m:Nat}{css:List Value}{s:So}{c:Ce}{M:List D}{i:Int}{a:Act}{W:World}
theorem zfu(h1:bc<NB)(h2:NB≤m)(hc:∃T,qk T=some qm∧W.heap[bc]? =some (.cells (ceL c).toArray T (0,0)))(hm:∃es clock,W.heap[m]? =some (.map es clock)):Bs (itX l bs bc m).A (itX l bs bc m).F W (pinned (itP bc m)) (itP bc m) W:=by
 obtain⟨T,-,hc⟩:=hc
 obtain⟨es,clock,hm⟩:=hm
 refine⟨fun x y b hx hy=>?_,fun x b hx=>?_,But.refl _ _,fun x b hx=>.inl ⟨x,hx⟩,fun _ _=>⟨trivial,trivial⟩,fun _ _ _=>trivial,fun x b hx=>?_,Flo.no⟩
 ·rcases q99 hx with⟨rfl,rfl⟩|⟨rfl,rfl⟩<;>rcases q99 hy with⟨rfl,e⟩|⟨rfl,e⟩<;>first|rfl|omega
 ·rcases q99 hx with⟨rfl,rfl⟩|⟨rfl,rfl⟩
  ·exact qr hc
  ·exact(uB.1 hm).1
 ·rcases q99 hx with⟨rfl,rfl⟩|⟨rfl,rfl⟩
  ·exact .inl ⟨_,_,hc⟩
  ·exact .inr ⟨_,_,hm⟩
theorem zra{w:World}{n:Int}(h:i64 n):Rd w F (.i n) (.int .i64) [.int .i64 n]:=⟨.i64,rfl,rfl,q6k.2 h⟩
theorem qg1(h:s.ok):i64 (s.cs.length:Nat):=by
 have:=h.cs.1
 exact⟨by omega,by omega⟩
theorem zk3(hA:cx.A=fun _=>True)(hsn:cx.snap 1=ptV bs)(hE:cx.v.E 0=eS s)(hp:∀x b,p x=some b→b=bc∨NB≤b)(hbs:bs<NB)(hbc:bs≠bc)(hs:∃T,W.heap[bs]? =some (.cells css.toArray T (0,0)))(rd:Rd W (fun b=>b<NB∧b≠bc) (eS s) qb css):(AV.sn 1 (.rd (.tok 0) qb [] none)).pd cx p W (ptV bs):=by
 obtain⟨T,hs⟩:=hs
 have hfr:∀b,b<NB∧b≠bc→FFD cx.A p [] b:=fun b hb=>.inl ⟨by rw[hA];trivial,fun x hx=>by
  rcases hp x b hx with h|h<;>omega⟩
 have hl:=(Rd.len _ rd).1
 refine⟨hsn.symm,bs,0,css,rfl,hfr bs ⟨hbs,hbc⟩,fun j v hj=>?_,?_,?_,trivial⟩
 ·rw[cell_of_row W bs _ _ T (0,0) hs,vK]
  simpa using hj
 ·rw[hl]
  show 0<(Ty.st _).w
  exact q3a (E:=27) (by kernel_rfl)
 ·show Rd W _ (cx.v.E 0) qb css
  rw[hE]
  exact rd.mono fun b _ hb=>hfr b hb
theorem zit(hsn:cx.snap 4=.map (some m))(hE:x.ev cx.v=.mp M)(hp:p 65=some m)(hm:∃es clock,W.heap[m]? =some (.map es clock)∧q8b .str .bool M es.toList):(AV.sn 4 (.v x mpT [(0,65)] [])).pd cx p W (.map (some m)):=by
 obtain⟨es,clock,hm,hl⟩:=hm
 refine⟨hsn.symm,[.map (some m)],rfl,?_⟩
 rw[hE]
 exact .inr ⟨_,_,.str,.bool,M,m,es,clock,rfl,by kernel_rfl,by kernel_rfl,rfl,rfl,hp,hm,hl⟩
theorem z1v{n:Int}(hE:x.ev cx.v=.i n)(h:i64 n):(AV.v x (.int .i64) [] []).pd cx p W (.int .i64 n):=⟨[.int .i64 n],rfl,by rw[hE];exact Con.of_rd (zra h)⟩
theorem zuq(h:HdOk NB l bs bc m css s c M i a W)(hbs:bs<NB)(hbc:bs≠bc)(hcb:bc<NB)(hmb:NB≤m):SF ((itX l bs bc m).at (qe q36) [eS s,eC c,.mp M,.i i]) sH (itP bc m) W a:=by
 have hp:∀x b,itP bc m x=some b→b=bc∨NB≤b:=fun x b hx=>(q99 hx).imp (·.2) fun e=>by omega
 refine⟨fun t x hx=>?_,fun k e he=>?_⟩
 ·have hx:=qx hx
  simp only[sH,gnM] at hx
  rcases hx with⟨rfl,rfl⟩|⟨rfl,rfl⟩|⟨rfl,rfl⟩|⟨rfl,rfl⟩|⟨rfl,rfl⟩|⟨rfl,rfl⟩
  ·exact⟨_,h.t0,rfl,trivial⟩
  ·exact⟨_,h.t1,zk3 rfl rfl rfl hp hbs hbc h.hs h.rd⟩
  ·exact⟨_,h.t2,bc,rfl,rfl,fun _=>rfl⟩
  ·exact⟨_,h.t4,zit rfl rfl rfl h.hm⟩
  ·refine⟨_,h.t14,z1v ?_ (qg1 h.so)⟩
   show D.i (((eS s).fld 0).rs.length:Nat)=_
   rw[qf0,q35,uQ]
  ·exact⟨_,h.t15,z1v rfl h.ir⟩
 ·have he:=qx he
  simp only[sH,gnM] at he
  obtain⟨rfl,rfl⟩:=he
  obtain⟨T,hT,hc⟩:=h.hc
  exact⟨bc,_,T,rfl,hc,hT,Con.of_rd (show Rd W _ (eC c) qm (ceL c).toArray.toList from z03 h.co)⟩
theorem zak{dep:List Nat}(h:(AV.v x mpT [(0,65)] dep).pd cx p W v):∃b,p 65=some b∧v=.map (some b)∧∃l es clock,x.ev cx.v=.mp l∧W.heap[b]? =some (.map es clock)∧q8b .str .bool l es.toList:=by
 obtain⟨cs,hpk,hc⟩:=h
 rcases hc with⟨E,te,l,v',e1,-⟩|⟨K,V,kt,vt,l,g,es,clock,e1,hK,hV,e2,rfl,hg,hh,hl⟩
 ·cases e1
 ·have hpk:[Value.map (some g)]=[v]:=hpk
  injection hpk with hpk
  subst hpk
  injection e1 with e1 e1'
  subst e1 e1'
  have h1:qk 9=some .str:=by kernel_rfl
  have h2:qk 4=some .bool:=by kernel_rfl
  rw[h1] at hK
  rw[h2] at hV
  injection hK with hK
  injection hV with hV
  subst hK hV
  exact⟨g,hg,rfl,l,es,clock,e2,hh,hl⟩
theorem qh9{n:Int}(hE:x.ev cx.v=.i n)(h:(AV.v x (.int .i64) [] []).pd cx p W v):v=.int .i64 n∧i64 n:=by
 obtain⟨m,e,rfl,hr⟩:=q0i h
 rw[hE] at e
 injection e with e
 subst e
 exact⟨rfl,q6k.1 hr⟩
theorem z9o{k:Nat}(hE:x.ev cx.v=eC c)(h:q1j cx p W k ⟨x,qm,[],[]⟩):∃g,p (k * 16)=some g∧c.ok∧∃T,qk T=some qm∧W.heap[g]? =some (.cells (ceL c).toArray T (0,0)):=by
 obtain⟨g,cs,T,hg,hh,hT,hc⟩:=h
 rw[hE] at hc
 obtain⟨cs⟩:=cs
 have hr:Rd W (FFD cx.A p []) (eC c) qm cs:=Con.rd hc (fun _ h=>h) (fun _ h=>h)
 obtain rfl:=qzo hr
 exact⟨g,hg,zcm hr,T,hT,hh⟩
end
end
variable{σ:St}
section
open Go.RowKit Go.Shelf
structure KOk(l n bs bc m NB:Nat)(css:List Value)(s:So)(c0:Ce)(K:Nat→Nat→World→Prop)(J:World→Prop):Prop where
 rd:∀k N W,K k N W→N≤W.heap.size∧(∃T,W.heap[bs]? =some (.cells css.toArray T (0,0)))∧Rd W (fun b=>b<NB∧b≠bc) (eS s) qb css
 step:∀k N W W',K k N W→But (fun b=>b=bc∨b=m) W W'→K k N W'
 yield:∀k N W a,K k N W→(yx s c0)[k]? =some a→a.ok→YieldAt (FR none) (n - 1) uA l #[.string a.name,.agg (ceL a.val).toArray] W fun e W'=>
  W.heap.size≤W'.heap.size∧(∀b,b<W.heap.size→N≤b∨b=bc∨b=m→W'.heap[b]? =W.heap[b]?)∧(e=.returned (.bool true)∧K (k+1) W'.heap.size W'∨e=.returned (.bool false)∧J W')
 stop:∀W W',J W→But Nil W W'→J W'
structure MidOk(l bs bc m:Nat)(s:So)(c:Ce)(M:List D)(i:Int)(nm:ByteArray)(tl:Ce)(b6:Nat)(a:Act)(W:World):Prop where
 z:a.tmps.size=67
 d:a.defers=[]
 t0:a.tmps[0]? =some (yvV l)
 t1:a.tmps[1]? =some (ptV bs)
 t2:a.tmps[2]? =some (ptV bc)
 t4:a.tmps[4]? =some (.map (some m))
 t6:a.tmps[6]? =some (ptV b6)
 t10:a.tmps[10]? =some (.string nm)
 t14:a.tmps[14]? =some (.int .i64 (s.cs.length:Nat))
 t15:a.tmps[15]? =some (.int .i64 i)
 hc:∃T,qk T=some qm∧W.heap[bc]? =some (.cells (ceL c).toArray T (0,0))
 hm:∃es clock,W.heap[m]? =some (.map es clock)∧q8b .str .bool M es.toList
 h6:∃T,W.heap[b6]? =some (.cells (ceL tl).toArray T (0,0))
 co:c.ok
 tlo:tl.ok
 ir:i64 i
 nml:nm.size≤LIM
def sYm:St:=⟨[(10,.v (.tok 4) .str [] []),(0,.sn 0 .any),(1,.sn 1 (.rd (.tok 0) qb [] none)),(2,.ref 2 [] 0 qm),(4,.sn 4 (.v (.tok 2) mpT [(0,65)] [])),(6,.ref 6 [] 0 qm),(14,.v (.len (.fld (.tok 0) 0)) (.int .i64) [] []),(15,.v (.tok 3) (.int .i64) [] [])],[(6,⟨.tok 5,qm,[],[]⟩),(2,⟨.tok 1,qm,[],[]⟩)]⟩
section
variable{NB n l bs bc m:Nat}{css:List Value}{s:So}{c tl vl:Ce}{M:List D}{i:Int}{nm:ByteArray}{a:Act}{W W0:World}{p:qi}{r:List D}{b6:Nat}
abbrev qkz(s:So)(c:Ce)(M:List D)(i:Int)(nm:ByteArray)(tl:Ce)(r:List D):List D:=eS s::eC c:: .mp M:: .i i:: .s nm::eC tl::r
theorem zg7(hm:bc≠m)(hb:Bs (itX l bs bc m).A (itX l bs bc m).F W0 (pinned (itP bc m)) p W)(hf:SF ((itX l bs bc m).at (qe q36) (qkz s c M i nm tl r)) sYm p W a)(hd:a.defers=[])(hz:a.tmps.size=67):∃b6,W0.heap.size≤b6∧b6<W.heap.size∧b6≠bc∧b6≠m∧MidOk l bs bc m s c M i nm tl b6 a W:=by
 obtain⟨v0,t0,e0,-⟩:=hf.t 0 _ (by kernel_rfl:lkA sYm.t 0=some (.sn 0 .any))
 obtain⟨v1,t1,e1,-⟩:=hf.t 1 _ (by kernel_rfl:lkA sYm.t 1=some (.sn 1 (.rd (.tok 0) qb [] none)))
 obtain⟨v2,t2,g2,q2,e2,hat⟩:=hf.t 2 _ (by kernel_rfl:lkA sYm.t 2=some (.ref 2 [] 0 qm))
 obtain⟨v4,t4,e4,h4⟩:=hf.t 4 _ (by kernel_rfl:lkA sYm.t 4=some (.sn 4 (.v (.tok 2) mpT [(0,65)] [])))
 obtain⟨v6,t6,g6,q6,e6,-⟩:=hf.t 6 _ (by kernel_rfl:lkA sYm.t 6=some (.ref 6 [] 0 qm))
 obtain⟨v10,t10,h10⟩:=hf.t 10 _ (by kernel_rfl:lkA sYm.t 10=some (.v (.tok 4) .str [] []))
 obtain⟨v14,t14,h14⟩:=hf.t 14 _ (by kernel_rfl:lkA sYm.t 14=some (.v (.len (.fld (.tok 0) 0)) (.int .i64) [] []))
 obtain⟨v15,t15,h15⟩:=hf.t 15 _ (by kernel_rfl:lkA sYm.t 15=some (.v (.tok 3) (.int .i64) [] []))
 have hat:itP bc m 32=some g2:=hat (.inl (by omega))
 have hg2:bc=g2:=gnI hat
 subst hg2
 subst e0 e1 e2 e6
 obtain⟨g4,q4,e4',l4,es,clock,h4e,h4h,h4l⟩:=zak h4
 have e4:v4=.map (some m):=e4
 rw[e4] at e4'
 injection e4' with e4'
 injection e4' with e4'
 subst e4' e4
 have h4e:D.mp M=D.mp l4:=h4e
 injection h4e with h4e
 subst h4e
 obtain⟨s10,e10,rfl,hl10⟩:=qjn h10
 have e10:D.s nm=D.s s10:=e10
 injection e10 with e10
 subst e10
 obtain⟨rfl,-⟩:=qh9 (n:=(s.cs.length:Nat)) (by
  show D.i (((eS s).fld 0).rs.length:Nat)=_
  rw[qf0,q35,uQ]) h14
 obtain⟨rfl,hi⟩:=qh9 (n:=i) rfl h15
 obtain⟨g6',q6',tlo,T6,-,h6⟩:=z9o (c:=tl) rfl (hf.m 6 _ (by kernel_rfl:lkA sYm.m 6=some ⟨.tok 5,qm,[],[]⟩))
 obtain⟨gc,qc,co,Tc,hTc,hc⟩:=z9o (c:=c) rfl (hf.m 2 _ (by kernel_rfl:lkA sYm.m 2=some ⟨.tok 1,qm,[],[]⟩))
 have q6:p (6 * 16)=some g6:=q6
 rw[q6] at q6'
 injection q6' with q6'
 subst q6'
 have q2:p (2 * 16)=some bc:=q2
 rw[q2] at qc
 injection qc with qc
 subst qc
 have n1:g6≠bc:=fun e=>by
  have:=hb.inj _ _ _ q6 (e▸q2)
  omega
 have n2:g6≠m:=fun e=>by
  have:=hb.inj _ _ _ q6 (e▸q4)
  omega
 refine⟨g6,?_,hb.bd _ _ q6,n1,n2,⟨hz,hd,t0,t1,t2,t4,t6,t10,t14,t15,⟨Tc,hTc,hc⟩,⟨es,clock,h4h,h4l⟩,⟨T6,h6⟩,co,tlo,hi,hl10⟩⟩
 rcases hb.pin _ _ q6 with h|h
 ·rcases zaz.1 h with h|h
  ·exact absurd h n1
  ·exact absurd h n2
 ·exact h
theorem zjx(h:MidOk l bs bc m s c M i nm tl b6 a W)(hs:∃T,W.heap[bs]? =some (.cells css.toArray T (0,0)))(rd:Rd W (fun b=>b<NB∧b≠bc) (eS s) qb css)(so:s.ok)(hbs:bs<NB)(hbc:bs≠bc)(hcb:bc<NB)(hmb:NB≤m)(h6c:b6≠bc)(h6m:b6≠m):SF ((itX l bs bc m).at (qe q36) (qkz s c M i nm tl r)) sP (itP bc m) W a:=by
 have hp:∀x b,itP bc m x=some b→b=bc∨NB≤b:=fun x b hx=>(q99 hx).imp (·.2) fun e=>by omega
 refine⟨fun t x hx=>?_,fun k e he=>?_⟩
 ·have hx:=qx hx
  simp only[sP,gnM] at hx
  rcases hx with⟨rfl,rfl⟩|⟨rfl,rfl⟩|⟨rfl,rfl⟩|⟨rfl,rfl⟩|⟨rfl,rfl⟩|⟨rfl,rfl⟩|⟨rfl,rfl⟩|⟨rfl,rfl⟩
  ·exact⟨_,h.t0,rfl,trivial⟩
  ·exact⟨_,h.t1,zk3 rfl rfl rfl hp hbs hbc hs rd⟩
  ·exact⟨_,h.t2,bc,rfl,rfl,fun _=>rfl⟩
  ·exact⟨_,h.t4,zit rfl rfl rfl h.hm⟩
  ·obtain⟨T,h6⟩:=h.h6
   refine⟨_,h.t6,b6,0,ceL tl,rfl,.inl ⟨trivial,fun x hx=>?_⟩,fun j v hj=>?_,Nat.zero_lt_succ _,z03 h.tlo,trivial⟩
   ·rcases q99 hx with⟨-,e⟩|⟨-,e⟩
    ·exact h6c e
    ·exact h6m e
   ·rw[cell_of_row W b6 _ _ T (0,0) h6,vK]
    simpa using hj
  ·exact⟨_,h.t10,[.string nm],rfl,Con.of_rd (show Rd W _ (.s nm) .str _ from⟨rfl,rfl,h.nml⟩)⟩
  ·refine⟨_,h.t14,z1v ?_ (qg1 so)⟩
   show D.i (((eS s).fld 0).rs.length:Nat)=_
   rw[qf0,q35,uQ]
  ·exact⟨_,h.t15,z1v rfl h.ir⟩
 ·have he:=qx he
  simp only[sP,gnM] at he
  obtain⟨rfl,rfl⟩:=he
  obtain⟨T,hT,hc⟩:=h.hc
  exact⟨bc,_,T,rfl,hc,hT,Con.of_rd (show Rd W _ (eC c) qm (ceL c).toArray.toList from z03 h.co)⟩
theorem SF.cons{k:Nat}{x:AV}(hf:SF cx σ p W a)(hv:a.tmps[k]? =some v)(hx:x.pd cx p W v):SF cx ⟨(k,x)::σ.t,σ.m⟩ p W a:=by
 refine⟨fun t y hy=>?_,hf.m⟩
 by_cases e:k=t
 ·subst e
  have hy:lkA ((k,x)::σ.t) k=some y:=hy
  rw[qa] at hy
  injection hy with hy
  subst hy
  exact⟨v,hv,hx⟩
 ·exact hf.t t y (by rw[←qd e];exact hy)
theorem SF.forget{l6 r':List D}(hr:l6.length=6)(hf:SF (cx.at (qe q36) (l6++r')) sP p W a):SF (cx.at (qe q36) l6) sP p W a:=by
 have e:q3l [] [] 6 (q2t [] [] [] 6 sP)=sP:=by kernel_rfl
 rw[←e]
 exact qs8 (c:=cx.at (qe q36) (l6++r')) (c':=cx.at (qe q36) l6) (da:=[]) (db:=[]) rfl rfl ⟨rfl,rfl,rfl⟩ (fun k hk=>by
  show(l6++r').getD k .u=l6.getD k .u
  simp only[gnG]
  rw[uG (by omega)]) (fun i hi=>absurd hi (vB _)) (qkd hf) rfl rfl
end
end
variable{P:Program}{Q:Exit→Act→World→Prop}{a:Act}{α:Type}{tmps:Array Value}
section
open Go.RowKit Go.Shelf
theorem qf8{F:Fence}{n:Nat}{ops:Array Oper}{l:List Oper}{w:World}(k:Nat)(h:wpListIn F n P ops (Exit.then (wpListIn F n P ops Q (l.drop k)) Q) (l.take k) a w):wpListIn F n P ops Q l a w:=by
 have:=qdd (l.take k) (l.drop k) h
 rwa [kM] at this
noncomputable def o5:Oper:=(itO.drop 5).headD default
noncomputable def o11:Oper:=(itO.drop 11).headD default
theorem zll:itO.drop 5=o5::itO.drop 6:=by kernel_rfl
theorem zom:o5.op=.move (.tmp 0):=by kernel_rfl
theorem zpw:o5.dst=some 54:=by kernel_rfl
theorem zul:o5.guard=some (4,true):=by kernel_rfl
theorem zis:itO.drop 11=o11::itO.drop 12:=by kernel_rfl
noncomputable def c11:Go.Call:=match o11.op with
 |.call c=>c
 |_=>⟨.value (.tmp 0),#[],#[]⟩
theorem zjn:o11.op=.call c11:=by kernel_rfl
theorem zvm:c11.callee=.value (.tmp 54):=by kernel_rfl
theorem zuu:c11.args= #[.tmp 55,.tmp 59]:=by kernel_rfl
theorem z2m:o11.dst=some 60:=by kernel_rfl
theorem zql:o11.guard=some (4,true):=by kernel_rfl
theorem zqe:itY=.seq (.region 9 itO.toArray false) (.cond (.tmp 62) .ret .skip):=by kernel_rfl
theorem zt8:((dsts itO)[4]?).join=some 53:=by kernel_rfl
theorem qk1:itO.all (q9b 3 67)=true:=by kernel_rfl
theorem z87{f:α→Bool}{l:List α}(h:l.all f=true)(k:Nat):(l.take k).all f=true:=uE.2 fun x hx=>uE.1 h x (List.mem_of_mem_take hx)
theorem ql1{f:α→Bool}{l:List α}(h:l.all f=true)(k:Nat):(l.drop k).all f=true:=uE.2 fun x hx=>uE.1 h x (List.mem_of_mem_drop hx)
theorem drop_drop(l:List Oper):(l.drop 6).drop 5=l.drop 11:=by rw[vD]
def sJ:St:=⟨[(60,.v (.tok 0) .bool [] []),(53,.v (.lit (.b true)) .bool [] [])],[]⟩
noncomputable def zum:St:=match qwi uA q36 (dsts itO) sJ (itO.drop 12) with
 |some (_,σ)=>σ
 |none=>⟨[],[]⟩
theorem znt:qwi uA q36 (dsts itO) sJ (itO.drop 12)=some ([],zum):=by kernel_rfl
theorem znq:lkA zum.t 62=some (.v (.not (.tok 0)) .bool [] []):=by kernel_rfl
theorem qc8:qa3 q36=true:=by kernel_rfl
theorem qca{t:Nat}(h:a.tmps[t]? =some v):a.eval (.tmp t)=v:=by
 obtain⟨h1,e⟩:=uB.1 h
 simp[Act.eval,Array.getD,h1,e]
theorem zf8{ρ:Operand→Value}{w:World}{l:Nat}{v1 v2:Value}{fn:FuncId}{assign body:Code}(h54:ρ (.tmp 54)=yvV l)(h55:ρ (.tmp 55)=v1)(h59:ρ (.tmp 59)=v2)(hy:(Instr.yield l #[v1,v2]).run P w=.ok (.round l fn tmps assign body) w):(execOp ρ o11).run P w=.ok (.round l fn tmps assign body) w:=by
 unfold execOp
 simp only[zjn,resolve,zvm,zuu,List.map_toArray,vE,vI,h54,h55,h59,yvV,Deferred.ofValue]
 simp[go_sem,invoke,hy]
theorem zg2{w:World}:(execOp a.eval o5).run P w=.ok (.value (a.eval (.tmp 0))) w:=by
 unfold execOp
 simp only[zom]
 rfl
end
section
open Go.RowKit Go.Shelf
section
variable{NB n l bs bc m:Nat}{css:List Value}{s:So}{c0 c tl vl:Ce}{M:List D}{i:Int}{nm:ByteArray}{a:Act}{W W0:World}{p:qi}{r:List D}{b6 j N:Nat}{met:List ByteArray}{K:Nat→Nat→World→Prop}{J:World→Prop}
theorem qd7(hb:Bs (itX l bs bc m).A (itX l bs bc m).F W0 (pinned (itP bc m)) p W):But (fun b=>b=bc∨b=m) W0 W:=hb.but.mono fun b h _=>zaz.1 h
theorem zsx(hk:KOk l n bs bc m NB css s c0 K J)(hn:1≤n)(hbs:bs<NB)(hbc:bs≠bc)(hcb:bc<NB)(hmb:NB≤m)(so:s.ok)
  (hKW:K j N W0)(hb:Bs (itX l bs bc m).A (itX l bs bc m).F W0 (pinned (itP bc m)) p W)(hf:SF ((itX l bs bc m).at (qe q36) (qkz s c M i nm tl [eC vl])) sY p W a)(hd:a.defers=[])(hz:a.tmps.size=67)
  (htr:fnD 0 [.mp M,.s nm,.b false]=.b (hasB met nm))(hj:hasB met nm=false→(yx s c0)[j]? =some ⟨nm,q1f (q2s s vl)⟩)
  {KK:Act→World→Prop}
  (hgo:∀p' N' W1 W' a',K (if hasB met nm then j else j+1) N' W1→But (fun b=>b=bc∨b=m) W1 W'→Bs (itX l bs bc m).A (itX l bs bc m).F W1 (pinned (itP bc m)) p' W'→SF ((itX l bs bc m).at (qe q36) (qkz s c M i nm tl [])) sP p' W' a'→a'.defers=[]→a'.tmps.size=67→KK a' W')
  (hst:∀W' a',J W'→a'.defers=[]→a'.tmps.size=67→Q .ret a' W'):itY.wpIn (FR none) n uA (Exit.then KK Q) a W:=by
 rw[zqe]
 have hmc:bc≠m:=by omega
 have hS:HS ((itX l bs bc m).at (qe q36) (qkz s c M i nm tl [eC vl])) q36:=⟨rfl,qsm l bs bc m⟩
 refine wpIn_seq (wpIn_region_lit (qf8 5 (q84 none n qc1 hS rfl (q60 qc8) zob (z87 qk1 5) (fun n h=>by cases h) hb hf hd hz fun a1 W1 hp=>?_)))
 obtain⟨p1,hb1,hf1,hd1,hz1⟩:=hp
 obtain⟨v,hv,hpd⟩:=hf1.t 53 _ (by kernel_rfl:lkA zrf.t 53=some (.v (.not (.fn 0 [(.tok 2),(.tok 4),(.lit (.b false))])) .bool [] []))
 obtain⟨y,ey,rfl⟩:=q38 hpd
 have ey:D.b (!(fnD 0 [.mp M,.s nm,.b false]).tt)=.b y:=ey
 rw[htr] at ey
 injection ey with ey
 have hfY:SF ((itX l bs bc m).at (qe q36) (qkz s c M i nm tl [eC vl])) sY p1 W1 a1:=q3b (by kernel_rfl:covers zrf sY=true) hf1
 show wpListIn (FR none) n uA itO.toArray _ (itO.drop 5) a1 W1
 cases hm:hasB met nm with
 |true=>
  rw[hm] at ey
  have ey:false=y:=ey
  subst ey
  have hff:=SF.cons (k:=53) (x:=.v (.lit (.b false)) .bool [] []) hfY hv ⟨_,rfl,Con.of_rd (show Rd W1 _ (.b false) .bool _ from⟨rfl,rfl⟩)⟩
  refine q84 none n qc1 hS rfl (q60 qc8) (σ:=sYf) zlb (ql1 qk1 5) (fun n h=>by cases h) hb1 hff hd1 hz1 fun a2 W2 hp=>?_
  obtain⟨p2,hb2,hf2,hd2,hz2⟩:=hp
  obtain⟨v2,hv2,hpd2⟩:=hf2.t 62 _ (by kernel_rfl:lkA zq1.t 62=some (.v (.lit (.b false)) .bool [] []))
  obtain⟨y2,ey2,rfl⟩:=q38 hpd2
  have ey2:D.b false=.b y2:=ey2
  injection ey2 with ey2
  subst ey2
  refine wpIn_cond_false (qca hv2) (wpIn_skip ?_)
  obtain⟨b6,h1,h2,h3,h4,hmid⟩:=zg7 hmc hb2 (q3b (by kernel_rfl:covers zq1 sYm=true) hf2) hd2 hz2
  have hK2:=hk.step _ _ _ _ hKW (qd7 (l:=l) (bs:=bs) hb2)
  obtain⟨-,hs2,hrd2⟩:=hk.rd _ _ _ hK2
  have hbf:Bs (itX l bs bc m).A (itX l bs bc m).F W2 (pinned (itP bc m)) (itP bc m) W2:=zfu (c:=c) hcb hmb hmid.hc (by obtain⟨es,clock,h,-⟩:=hmid.hm;exact⟨es,clock,h⟩)
  refine hgo (itP bc m) N W2 W2 a2 (by rw[if_pos hm];exact hK2) (But.refl _ _) hbf ?_ hd2 hz2
  exact zjx hmid hs2 hrd2 so hbs hbc hcb hmb h3 h4
 | false =>
  rw[hm] at ey
  have ey:true=y:=ey
  subst ey
  have hsz:∀{t:Nat},t<67→t<a1.tmps.size:=fun{t}h=>by omega
  have hft:=SF.cons (k:=53) (x:=.v (.lit (.b true)) .bool [] []) hfY hv ⟨_,rfl,Con.of_rd (show Rd W1 _ (.b true) .bool _ from⟨rfl,rfl⟩)⟩
  obtain⟨v0,t0,e0,-⟩:=hfY.t 0 _ (by kernel_rfl:lkA sY.t 0=some (.sn 0 .any))
  rw[zll]
  unfold wpListIn
  have hw:Region.wanted o5 (yielded itO.toArray a1.tmps)=true:=(qe1 zul).2 ((qdm (ds:=dsts itO) rfl zt8 hv).2 rfl)
  rw[if_pos hw]
  refine Oper.wp_round none (by rw[zom];simp) ?_
  unfold Oper.wp
  rw[zg2,qca t0]
  show wpListIn (FR none) n uA itO.toArray _ (itO.drop 6) (a1.put o5.dst v0) W1
  rw[zpw]
  have hfq:SF ((itX l bs bc m).at (qe q36) (qkz s c M i nm tl [eC vl])) sYt p1 W1 (a1.put (some 54) v0):=by
   have:=hft.put (t:=54) (x:=.sn 0 .any) (v:=v0) (by omega) ⟨e0,trivial⟩
   exact this
  have hv2:(a1.put (some 54) v0).tmps[53]? =some (.bool true):=by
   obtain⟨v,hv,hpd⟩:=hfq.t 53 _ (by kernel_rfl:lkA sYt.t 53=some (.v (.lit (.b true)) .bool [] []))
   obtain⟨y2,ey2,rfl⟩:=q38 hpd
   have ey2:D.b true=.b y2:=ey2
   injection ey2 with ey2
   subst ey2
   exact hv
  have hsay:∀x∈zry,x.says ((itX l bs bc m).at (qe q36) (qkz s c M i nm tl [eC vl])).v:=by
   intro x hx
   simp only[zry,List.mem_cons,List.not_mem_nil,or_false] at hx
   rcases hx with rfl|rfl
   ·show(D.b (qfv [eS s,eC vl]).isSome).tt=true
    simp[qfv,q5i]
   ·show(D.b (q5m [_]).isSome).tt=true
    simp[q5m,q5i]
  refine qf8 5 (q84 none n qc1 hS rfl (q60 qc8) zmt (z87 (ql1 qk1 6) 5) hsay hb1 hfq hd1 (by simp[Act.put];exact hz1) fun a2 W2 hp=>?_)
  obtain⟨p2,hb2,hf2,hd2,hz2⟩:=hp
  show wpListIn (FR none) n uA itO.toArray _ ((itO.drop 6).drop 5) a2 W2
  rw[drop_drop,zis]
  obtain⟨b6,h1,h2,h3,h4,hmid⟩:=zg7 hmc hb2 (q3b (by kernel_rfl:covers zdy sYm=true) hf2) hd2 hz2
  have hK2:=hk.step _ _ _ _ hKW (qd7 (l:=l) (bs:=bs) hb2)
  obtain⟨v54,t54,e54,-⟩:=hf2.t 54 _ (by kernel_rfl:lkA zdy.t 54=some (.sn 0 .any))
  obtain⟨v53,t53,h53⟩:=hf2.t 53 _ (by kernel_rfl:lkA zdy.t 53=some (.v (.lit (.b true)) .bool [] []))
  obtain⟨y3,ey3,rfl⟩:=q38 h53
  have ey3:D.b true=.b y3:=ey3
  injection ey3 with ey3
  subst ey3
  obtain⟨v55,t55,h55⟩:=hf2.t 55 _ (by kernel_rfl:lkA zdy.t 55=some (.v (.tok 4) .str [] []))
  obtain⟨s55,es55,rfl,-⟩:=qjn h55
  have es55:D.s nm=.s s55:=es55
  injection es55 with es55
  subst es55
  obtain⟨v59,t59,cs59,hp59,hc59⟩:=hf2.t 59 _ (by kernel_rfl:lkA zdy.t 59=some (.v (.call 3 0 [(.call 0 0 [(.tok 0),(.tok 6)])]) qm [] []))
  have hr59:Rd W2 (FFD (itX l bs bc m).A p2 []) (eC (q1f (q2s s vl))) qm cs59:=by
   have h:=Con.rd hc59 (fun _ h=>h) (fun _ h=>h)
   have e:(X.call 3 0 [(.call 0 0 [(.tok 0),(.tok 6)])]).ev ((itX l bs bc m).at (qe q36) (qkz s c M i nm tl [eC vl])).v=eC (q1f (q2s s vl)):=by
    show((q5m [((qfv [eS s,eC vl]).getD []).getD 0 .u]).getD []).getD 0 .u=_
    simp[qfv,q5m,yt,qy]
   rw[e] at h
   exact h
  have hr59':=hr59
  obtain rfl:=qzo hr59
  have hp59:v59=.agg (ceL (q1f (q2s s vl))).toArray:=hp59
  subst hp59
  obtain⟨fn,tmps,assign,body,hy,hR⟩:=hk.yield _ _ _ _ hK2 (hj hm) ⟨hmid.nml,zcm hr59'⟩
  unfold wpListIn
  have hw:Region.wanted o11 (yielded itO.toArray a2.tmps)=true:=(qe1 zql).2 ((qdm (ds:=dsts itO) rfl zt8 t53).2 rfl)
  rw[if_pos hw]
  refine⟨fun _ _=>trivial,?_⟩
  have e54':a2.eval (.tmp 54)=yvV l:=(qca t54).trans e54
  rw[show Oper.semAt (FR none).round a2.eval o11=execOp a2.eval o11 from Oper.semAt_eq _ _ _ (by rw[zjn];simp),zf8 e54' (qca t55) (qca t59) hy]
  refine⟨fun e=>(by cases e),hR.mono ?_⟩
  rintro e W3⟨hsz3,hbl,hres⟩
  have hN2:=(hk.rd _ _ _ hKW).1
  have hput:(a2.put o11.dst (.bool true)).tmps.size=67:=by rw[z2m];simp[Act.put];exact hz2
  rcases hres with⟨rfl,hK3⟩|⟨rfl,hJ3⟩
  ·-- the rounds go on
   show wpListIn (FR none) n uA itO.toArray _ (itO.drop 12) (a2.put o11.dst (.bool true)) W3
   rw[z2m]
   have hol:∀b,W0.heap.size≤b∨b=bc∨b=m→b<W2.heap.size→W3.heap[b]? =W2.heap[b]? :=fun b hb hlt=>hbl b hlt (by
    rcases hb with h|h|h
    ·exact .inl (by omega)
    ·exact .inr (.inl h)
    ·exact .inr (.inr h))
   have hpt:∀{t:Nat},t≠60→(a2.put (some 60) (.bool true)).tmps[t]? =a2.tmps[t]? :=fun{t}ht=>by
    show(a2.tmps.setIfInBounds 60 _)[t]? =_
    rw[kA (fun e=>ht e.symm)]
   have hmid3:MidOk l bs bc m s c M i nm tl b6 (a2.put (some 60) (.bool true)) W3:=by
    refine⟨by simp[Act.put];exact hz2,hmid.d,?_,?_,?_,?_,?_,?_,?_,?_,?_,?_,?_,hmid.co,hmid.tlo,hmid.ir,hmid.nml⟩
    ·rw[hpt (by omega)];exact hmid.t0
    ·rw[hpt (by omega)];exact hmid.t1
    ·rw[hpt (by omega)];exact hmid.t2
    ·rw[hpt (by omega)];exact hmid.t4
    ·rw[hpt (by omega)];exact hmid.t6
    ·rw[hpt (by omega)];exact hmid.t10
    ·rw[hpt (by omega)];exact hmid.t14
    ·rw[hpt (by omega)];exact hmid.t15
    ·obtain⟨T,hT,h⟩:=hmid.hc
     exact⟨T,hT,(hol bc (.inr (.inl rfl)) (qr h)).trans h⟩
    ·obtain⟨es,clock,h,hl⟩:=hmid.hm
     exact⟨es,clock,(hol m (.inr (.inr rfl)) (uB.1 h).1).trans h,hl⟩
    ·obtain⟨T,h⟩:=hmid.h6
     exact⟨T,(hol b6 (.inl h1) h2).trans h⟩
   obtain⟨-,hs3,hrd3⟩:=hk.rd _ _ _ hK3
   have hf3:=zjx (r:=[.b true]) hmid3 hs3 hrd3 so hbs hbc hcb hmb h3 h4
   have hbf:Bs (itX l bs bc m).A (itX l bs bc m).F W3 (pinned (itP bc m)) (itP bc m) W3:=zfu (c:=c) hcb hmb hmid3.hc (by obtain⟨es,clock,h,-⟩:=hmid3.hm;exact⟨es,clock,h⟩)
   have t53':(a2.put (some 60) (.bool true)).tmps[53]? =some (.bool true):=by rw[hpt (by omega)];exact t53
   have t60':(a2.put (some 60) (.bool true)).tmps[60]? =some (.bool true):=by
    show(a2.tmps.setIfInBounds 60 _)[60]? =_
    rw[uD (by omega)]
   have hfz:=SF.cons (k:=60) (x:=.v (.tok 6) .bool [] []) (SF.cons (k:=53) (x:=.v (.lit (.b true)) .bool [] []) hf3 t53' ⟨_,rfl,Con.of_rd (show Rd W3 _ (.b true) .bool _ from⟨rfl,rfl⟩)⟩) t60' ⟨_,rfl,Con.of_rd (show Rd W3 _ (.b true) .bool _ from⟨rfl,rfl⟩)⟩
   have hS3:HS ((itX l bs bc m).at (qe q36) (qkz s c M i nm tl [.b true])) q36:=⟨rfl,qsm l bs bc m⟩
   refine q84 none n qc1 hS3 rfl (q60 qc8) (σ:=sYz) zoa (ql1 qk1 12) (fun n h=>by cases h) hbf hfz hmid.d (by simp[Act.put];exact hz2) fun a4 W4 hp=>?_
   obtain⟨p4,hb4,hf4,hd4,hz4⟩:=hp
   obtain⟨v4,hv4,hpd4⟩:=hf4.t 62 _ (by kernel_rfl:lkA zr3.t 62=some (.v (.not (.tok 6)) .bool [] []))
   obtain⟨y4,ey4,rfl⟩:=q38 hpd4
   have ey4:D.b false=.b y4:=ey4
   injection ey4 with ey4
   subst ey4
   refine wpIn_cond_false (qca hv4) (wpIn_skip ?_)
   refine hgo p4 _ W3 W4 a4 (by rw[hm];exact hK3) (qd7 (l:=l) (bs:=bs) hb4) hb4 ?_ hd4 hz4
   exact SF.forget (l6:=qkz s c M i nm tl []) rfl (q3b (by kernel_rfl:covers zr3 sP=true) hf4)
  ·-- the rounds stop
   show wpListIn (FR none) n uA itO.toArray _ (itO.drop 12) (a2.put o11.dst (.bool false)) W3
   rw[z2m]
   have t53':(a2.put (some 60) (.bool false)).tmps[53]? =some (.bool true):=by
    show(a2.tmps.setIfInBounds 60 _)[53]? =_
    rw[kA (by omega)]
    exact t53
   have t60':(a2.put (some 60) (.bool false)).tmps[60]? =some (.bool false):=by
    show(a2.tmps.setIfInBounds 60 _)[60]? =_
    rw[uD (by omega)]
   have hbf:Bs (fun _=>True) Flr.no W3 (pinned fun _=>none) (fun _=>none) W3:=⟨fun x y b h=>(nomatch h),fun x b h=>(nomatch h),But.refl _ _,fun x b h=>(nomatch h),fun _ _=>⟨trivial,trivial⟩,fun x b h=>(nomatch h),fun x b h=>(nomatch h),Flo.no⟩
   have hfj:SF ((itX l bs bc m).at (qe q36) [.b false]) sJ (fun _=>none) W3 (a2.put (some 60) (.bool false)):=by
    refine⟨fun t x hx=>?_,fun k e he=>by cases he⟩
    have hx:=qx hx
    simp only[sJ,gnM] at hx
    rcases hx with⟨rfl,rfl⟩|⟨rfl,rfl⟩
    ·exact⟨_,t60',_,rfl,Con.of_rd (show Rd W3 _ (.b false) .bool _ from⟨rfl,rfl⟩)⟩
    ·exact⟨_,t53',_,rfl,Con.of_rd (show Rd W3 _ (.b true) .bool _ from⟨rfl,rfl⟩)⟩
   have hSj:HS ((itX l bs bc m).at (qe q36) [.b false]) q36:=⟨rfl,qsm l bs bc m⟩
   refine q84 none n qc1 hSj rfl (q60 qc8) (σ:=sJ) znt (ql1 qk1 12) (fun n h=>by cases h) hbf hfj hmid.d (by simp[Act.put];exact hz2) fun a4 W4 hp=>?_
   obtain⟨p4,hb4,hf4,hd4,hz4⟩:=hp
   obtain⟨v4,hv4,hpd4⟩:=hf4.t 62 _ znq
   obtain⟨y4,ey4,rfl⟩:=q38 hpd4
   have ey4:D.b true=.b y4:=ey4
   injection ey4 with ey4
   subst ey4
   refine wpIn_cond_true (qca hv4) (wpIn_ret (hst _ _ (hk.stop _ _ hJ3 (hb4.but.mono fun b h _=>?_)) hd4 hz4))
   obtain⟨x,hx⟩:=h
   cases hx
end
end
section
open Go.RowKit Go.Shelf
noncomputable def itL:Code:=sqR (sqR (sqR itR))
noncomputable def r10:Code:=sqL (sqR (sqR (sqR (sqR (sqR (sqR (sqR itB)))))))
noncomputable def r11:Code:=sqR (sqR (sqR (sqR (sqR (sqR (sqR (sqR itB)))))))
theorem zq3:itR=seqs z7i (.seq (.block 1 itB) itL):=by kernel_rfl
theorem zrq:itB=seqs z9h (.seq itY (.seq r10 r11)):=by kernel_rfl
theorem zth:q3l iBt iBm 4 (q2t iBt iBm [] 4 sB)=sY:=by kernel_rfl
def sN:St:=q3l iPt iPm 6 (q2t iPt iPm [] 6 sP')
theorem sN0:lkA sN.t 0=some (.sn 0 .any):=by kernel_rfl
theorem sN1:lkA sN.t 1=some (.sn 1 (.rd (.tok 0) qb [] none)):=by kernel_rfl
theorem sN2:lkA sN.t 2=some (.ref 2 [] 0 qm):=by kernel_rfl
theorem sN4:lkA sN.t 4=some (.sn 4 (.v (.tok 6) mpT [(0,65)] [SNK])):=by kernel_rfl
theorem zwr:lkA sN.t 14=some (.v (.len (.fld (.tok 0) 0)) (.int .i64) [] []):=by kernel_rfl
theorem zw0:lkA sN.t 15=some (.v (.tok 7) (.int .i64) [] []):=by kernel_rfl
theorem sNm:lkA sN.m 2=some ⟨.tok 8,qm,[],[]⟩:=by kernel_rfl
def trk(M:List D)(met:List ByteArray):Prop:=∀nm:ByteArray,fnD 0 [.mp M,.s nm,.b false]=.b (hasB met nm)
theorem zkm:trk [] []:=fun nm=>rfl
theorem zib{M:List D}{met:List ByteArray}{x:ByteArray}(h:trk M met):trk (mset (.s x) (.b true) M) (x::met):=fun nm=>by
 show(mfind (.s nm) (mset (.s x) (.b true) M)).getD (.b false)=_
 rw[qj6]
 by_cases e:x=nm
 ·subst e
  simp[hasB]
 ·rw[if_neg (by simpa using e)]
  have:=h nm
  simp only[hasB,List.any_cons,decide_eq_false e,Bool.false_or] at this⊢
  exact this
theorem qoo{s:So}(h:q59 s c=none):∀k met,q6r s k c met=[]
 |0,_=>rfl
 |k+1,met=>by
  unfold q6r
  rw[h]
section
variable{NB n l bs bc m:Nat}{css:List Value}{s:So}{c0 c tl vl:Ce}{M:List D}{i:Int}{nm:ByteArray}{a:Act}{W W0:World}{p:qi}{r:List D}{b6 j N:Nat}{met:List ByteArray}{K:Nat→Nat→World→Prop}{J:World→Prop}
theorem zt1(hb:Bs (itX l bs bc m).A (itX l bs bc m).F W0 (pinned (itP bc m)) p W){l6:List D}(hl6:l6.length=6)(hs6:l6.getD 0 .u=eS s)(hf:SF ((itX l bs bc m).at (qe q36) (l6++[.mp M,.i i,eC c])) sN p W a)(hd:a.defers=[])(hz:a.tmps.size=67)(hs:∃T,W.heap[bs]? =some (.cells css.toArray T (0,0)))(rd:Rd W (fun b=>b<NB∧b≠bc) (eS s) qb css)(so:s.ok):HdOk NB l bs bc m css s c M i a W:=by
 obtain⟨v0,t0,e0,-⟩:=hf.t 0 _ sN0
 obtain⟨v1,t1,e1,-⟩:=hf.t 1 _ sN1
 obtain⟨v2,t2,g2,q2,e2,hat⟩:=hf.t 2 _ sN2
 obtain⟨v4,t4,e4,h4⟩:=hf.t 4 _ sN4
 obtain⟨v14,t14,h14⟩:=hf.t 14 _ zwr
 obtain⟨v15,t15,h15⟩:=hf.t 15 _ zw0
 have tk:∀k d,(l6++[D.mp M,.i i,eC c]).getD k .u=d→(X.tok k).ev ((itX l bs bc m).at (qe q36) (l6++[.mp M,.i i,eC c])).v=d:=fun k d h=>h
 have tk0:(l6++[D.mp M,.i i,eC c]).getD 0 .u=eS s:=by
  rw[gnG,uG (by omega),←gnG]
  exact hs6
 have tk6:(l6++[D.mp M,.i i,eC c]).getD 6 .u=.mp M:=by
  rw[gnG,uN (by omega),hl6]
  rfl
 have tk7:(l6++[D.mp M,.i i,eC c]).getD 7 .u=.i i:=by
  rw[gnG,uN (by omega),hl6]
  rfl
 have tk8:(l6++[D.mp M,.i i,eC c]).getD 8 .u=eC c:=by
  rw[gnG,uN (by omega),hl6]
  rfl
 have hat:itP bc m 32=some g2:=hat (.inl (by omega))
 have hg2:bc=g2:=gnI hat
 subst hg2
 subst e0 e1 e2
 obtain⟨g4,q4,e4',l4,es,clock,h4e,h4h,h4l⟩:=zak h4
 have e4:v4=.map (some m):=e4
 rw[e4] at e4'
 injection e4' with e4'
 injection e4' with e4'
 subst e4' e4
 have h4e:=(tk _ _ tk6).symm.trans h4e
 injection h4e with h4e
 subst h4e
 obtain⟨rfl,-⟩:=qh9 (n:=(s.cs.length:Nat)) (by
  show D.i ((((l6++[D.mp M,.i i,eC c]).getD 0 .u).fld 0).rs.length:Nat)=_
  rw[tk0,qf0,q35,uQ]) h14
 obtain⟨rfl,hi⟩:=qh9 (n:=i) (tk _ _ tk7) h15
 obtain⟨gc,qc,co,Tc,hTc,hc⟩:=z9o (c:=c) (tk _ _ tk8) (hf.m 2 _ sNm)
 have q2:p (2 * 16)=some bc:=q2
 rw[q2] at qc
 injection qc with qc
 subst qc
 exact⟨hz,hd,t0,t1,t2,t4,t14,t15,hs,rd,⟨Tc,hTc,hc⟩,⟨es,clock,h4h,h4l⟩,so,co,hi⟩
theorem z0s(hk:KOk l n bs bc m NB css s c0 K J)(hn:1≤n)(hbs:bs<NB)(hbc:bs≠bc)(hcb:bc<NB)(hmb:NB≤m)(so:s.ok)
  (hQ:∀e a W,(e=.ret∨e=.exit 0)→a.defers=[]→a.tmps.size=67→((∃N,K (yx s c0).length N W)∨J W)→Q e a W):
  ∀(f:Nat){i:Int}{c:Ce}{M:List D}{met:List ByteArray}{j N:Nat}{a:Act}{W:World},HdOk NB l bs bc m css s c M i a W→K j N W→(yx s c0).drop j=q6r s (s.cs.length - i.toNat) c met→j≤(yx s c0).length→0≤i→trk M met→s.cs.length - i.toNat<f→Code.roundsIn (FR none) n uA itR Q f a W
 |0,i,c,M,met,j,N,a,W,h,hK,hdr,hjl,hi0,htr,hfu=>absurd hfu (vB _)
 | f + 1, i, c, M, met, j, N, a, W, h, hK, hdr, hjl, hi0, htr, hfu => by
  rw[roundsIn_succ]
  have hbf:Bs (itX l bs bc m).A (itX l bs bc m).F W (pinned (itP bc m)) (itP bc m) W:=zfu (c:=c) hcb hmb h.hc (by obtain⟨es,clock,h,-⟩:=h.hm;exact⟨es,clock,h⟩)
  have hff:=zuq h hbs hbc hcb hmb
  have hend:q6r s (s.cs.length - i.toNat) c met=[]→j=(yx s c0).length:=fun e=>by
   rw[e] at hdr
   have:=List.drop_eq_nil_iff.1 hdr
   omega
  have hW:(seqs z7i (.seq (.block 1 itB) itL)).wpIn (FR none) n uA (Exit.then (Code.roundsIn (FR none) n uA itR Q f) Q) a W:=by
   refine q2p z7i ?_
   have pre:qby (FR none) n uA (fun e a W=>(e=.ret∨e=.exit 0)∧Q e a W) (z7i++z9h) ((Code.seq itY (.seq r10 r11)).wpIn (FR none) n uA (Exit.inBlock 1 (Exit.then (itL.wpIn (FR none) n uA (Exit.then (Code.roundsIn (FR none) n uA itR Q f) Q)) (Exit.then (Code.roundsIn (FR none) n uA itR Q f) Q)))) a W:=by
    refine qtq (c:=itX l bs bc m) none n qc1 (qsm l bs bc m) qc8 (z7i++z9h) (n:=4) (ann:=z48) (R:=zv1 s c i) (B:=fun _ _=>False) (ts:=iBt) (ms:=iBm) (kill:=[]) (σk:=sB) (l:=[eS s,eC c,.mp M,.i i]) (σ:=sH) (by
     show(q6o uA q36 z48 3 _ _ _ _ _).go _ _ _ _
     rw[zl3]
     exact zw5 _) rfl hbf hff h.d h.z (fun st p' W' a' hR hst hb' hf' hd' hz'=>?_) (fun p' W' a' hR hb' hd' hz'=>?_) (fun i' p' W' a' hR hb' hd' hz'=>?_)
    ·rcases hR with⟨rfl,-⟩|⟨rfl,-⟩|⟨nm,tl,vl,hil,hnx,rfl⟩
     ·cases hst
     ·cases hst
     have e1:s.cs.length - i.toNat=(s.cs.length - (i.toNat+1))+1:=by omega
     have hdr1:(yx s c0).drop j=(if hasB met nm then[] else[⟨nm,q1f (q2s s vl)⟩])++q6r s (s.cs.length - (i.toNat+1)) tl (nm::met):=by
      rw[hdr,e1]
      conv=>lhs;unfold q6r
      rw[hnx]
     have hfy:SF ((itX l bs bc m).at (qe q36) (qkz s c M i nm tl [eC vl])) sY p' W' a':=by
      have:=hf'
      rw[zth] at this
      exact this
     have hi1:i64 (i+1):=by
      have:=qg1 so
      unfold i64 at this⊢
      omega
     refine wpIn_seq (zsx (c0:=c0) (j:=j) (N:=N) (met:=met) hk hn hbs hbc hcb hmb so hK hb' hfy hd' hz' (htr nm) (fun hm=>?_) (fun p2 N2 W1 W2 a2 hK2 hbut hb2 hf2 hd2 hz2=>?_) fun W2 a2 hJ hd2 hz2=>?_)
     ·rw[hm] at hdr1
      have:=congrArg (fun l=>l[0]?) hdr1
      simpa using this
     ·have pre2:qby (FR none) n uA (fun _ _ _=>False) (it3++it4) (Code.roundsIn (FR none) n uA itR Q f) a2 W2:=by
       refine qtq (c:=itX l bs bc m) none n qc1 (qsm l bs bc m) qc8 (it3++it4) (n:=6) (ann:=z48) (R:=zu0 tl (.mp M) (.s nm) i) (B:=fun _ _=>False) (ts:=iPt) (ms:=iPm) (kill:=[]) (σk:=sP') (l:=qkz s c M i nm tl []) (σ:=sP) (by
        show(q6o uA q36 z48 3 _ _ _ _ _).go _ _ _ _
        rw[zlm]
        exact zwk hi1 _) rfl hb2 hf2 hd2 hz2 (fun st p3 W3 a3 hR3 hst3 hb3 hf3 hd3 hz3=>?_) (fun p3 W3 a3 hR3 hb3 hd3 hz3=>?_) (fun i' p3 W3 a3 hR3 hb3 hd3 hz3=>?_)
       ·have hR3:st=[.mp (mset (.s nm) (.b true) M),.i (i+1),eC tl]:=hR3
        subst hR3
        have hK3:=hk.step _ _ _ _ hK2 (qd7 (l:=l) (bs:=bs) hb3)
        obtain⟨-,hs3,hrd3⟩:=hk.rd _ _ _ hK3
        have hhd:HdOk NB l bs bc m css s tl (mset (.s nm) (.b true) M) (i+1) a3 W3:=zt1 (l6:=qkz s c M i nm tl []) hb3 rfl rfl hf3 hd3 hz3 hs3 hrd3 so
        have e2:(i+1).toNat=i.toNat+1:=by omega
        refine z0s hk hn hbs hbc hcb hmb so hQ f (met:=nm::met) hhd hK3 ?_ ?_ (by omega) (zib htr) (by rw[e2];omega)
        ·rw[e2]
         cases hm:hasB met nm with
         |true=>
          rw[hm] at hdr1
          simpa[hm] using hdr1
         |false=>
          rw[hm] at hdr1
          simp only[gnF,if_false]
          rw[←vD,hdr1]
          rfl
        ·cases hm:hasB met nm with
         |true=>simpa using hjl
         |false=>
          rw[hm] at hdr1
          have:=congrArg vM hdr1
          simp at this⊢
          omega
       ·cases hR3
       ·cases hR3
      have pre3:=qd5 it3 it4 pre2
      refine wpIn_seq (wpIn_mono pre3 fun e a w hq=>?_)
      cases e with
      | normal =>
       refine wpIn_mono hq fun e a w hq=>?_
       cases e with
       |normal=>
        refine wpIn_mono hq fun e a w hq=>?_
        cases e with
        |normal=>exact hq
        |_=>exact hq.elim
       |_=>exact hq.elim
      |_=>exact hq.elim
     ·exact hQ _ _ _ (.inl rfl) hd2 hz2 (.inr hJ)
    ·rcases hR with⟨-,hnx⟩|⟨h,-⟩|⟨nm,tl,vl,-,-,h⟩
     ·exact⟨.inl rfl,hQ _ _ _ (.inl rfl) hd' hz' (.inl ⟨N,by rw[←hend (qoo hnx _ _)];exact hk.step _ _ _ _ hK (qd7 (l:=l) (bs:=bs) hb')⟩)⟩
     ·cases h
     ·cases h
    ·rcases hR with⟨h,-⟩|⟨h,hil⟩|⟨nm,tl,vl,-,-,h⟩
     ·cases h
     ·injection h with h
      injection h with h
      have h:i'=0:=Int.ofNat.inj h
      subst h
      have e0:s.cs.length - i.toNat=0:=by omega
      exact⟨.inr rfl,hQ _ _ _ (.inr rfl) hd' hz' (.inl ⟨N,by rw[←hend (by rw[e0];rfl)];exact hk.step _ _ _ _ hK (qd7 (l:=l) (bs:=bs) hb')⟩)⟩
     ·cases h
   refine q7r (fun e a w hne hq=>?_) z7i (fun a w hp=>?_) (qd5 z7i z9h pre)
   ·rcases hq with⟨rfl|rfl,hq⟩<;>exact hq
   ·refine wpIn_seq (wpIn_block ?_)
    rw[zrq]
    refine q2p z9h (q7r (fun e a w hne hq=>?_) z9h (fun a w h=>h) hp)
    rcases hq with⟨rfl|rfl,hq⟩
    ·exact hq
    ·exact hq
  have e:=zq3
  rw[←e] at hW
  exact hW
end
end
variable{css:List Value}
section
open Go.RowKit Go.Shelf
theorem zrx:itC=seqs it1 (.block 0 (.loop itR)):=by kernel_rfl
theorem zg3:kE.body=some itC:=by kernel_rfl
def zlg(l bs bc:Nat):Cx:=⟨evl (qe q36) [],fun _=>True,.no,3,fun _ _=>True,fun _ _ _ _=>trivial,fun t=>if t=0 then yvV l else if t=1 then ptV bs else ptV bc⟩
def sS:St:=q3l iA [] 1 (q2t iA [] [] 1 sA')
theorem sS0:lkA sS.t 0=some (.sn 0 .any):=by kernel_rfl
theorem sS1:lkA sS.t 1=some (.sn 1 (.rd (.tok 0) qb [] none)):=by kernel_rfl
theorem sS2:lkA sS.t 2=some (.sn 2 .any):=by kernel_rfl
theorem sS4:lkA sS.t 4=some (.v (.tok 1) mpT [(0,65)] []):=by kernel_rfl
theorem zws:lkA sS.t 14=some (.v (.len (.fld (.tok 0) 0)) (.int .i64) [] []):=by kernel_rfl
theorem zw1:lkA sS.t 15=some (.v (.tok 2) (.int .i64) [] []):=by kernel_rfl
theorem zr8{n l bs bc:Nat}(hn:1≤n){W0:World}{s:So}{c0:Ce}(hbs:bs<W0.heap.size)(hcb:bc<W0.heap.size)(hbc:bs≠bc)(hs:∃T,W0.heap[bs]? =some (.cells css.toArray T (0,0)))(rd:Rd W0 (fun b=>b<W0.heap.size∧b≠bc) (eS s) qb css)(so:s.ok)(hc:∃T,qk T=some qm∧W0.heap[bc]? =some (.cells (ceL c0).toArray T (0,0)))(co:c0.ok){R:World→Prop}
  (hK:∀m W1,But Nil W0 W1→W0.heap.size≤m→m<W1.heap.size→∃K J,KOk l n bs bc m W0.heap.size css s c0 K J∧K 0 W1.heap.size W1∧∀W,((∃N,K (yx s c0).length N W)∨J W)→R W):
  CallsIn (FR none) n uA 94 #[yvV l,ptV bs,ptV bc] W0 fun e W=>(∃v,e=.returned v)∧R W:=by
 refine callsIn_of_wp Tryz.func94 zg3 trivial ?_ rfl
 have hW:(seqs it1 (.block 0 (.loop itR))).wpIn (FR none) n uA (bodyPost uA kE fun e W=>(∃v,e=.returned v)∧R W) {tmps:= #[yvV l,ptV bs,ptV bc]++uH (kE.ntmps - (#[yvV l,ptV bs,ptV bc]:Array Value).size) Go.undef,defers:=[]} W0:=by
  rw[Tryz.ntmps94]
  have hz0:(#[yvV l,ptV bs,ptV bc]++uH (67 - (#[yvV l,ptV bs,ptV bc]:Array Value).size) Go.undef).size=67:=by simp
  have z0:(#[yvV l,ptV bs,ptV bc]++uH (67 - (#[yvV l,ptV bs,ptV bc]:Array Value).size) Go.undef)[0]? =some (yvV l):=by rw[uF (by simp)];rfl
  have z1:(#[yvV l,ptV bs,ptV bc]++uH (67 - (#[yvV l,ptV bs,ptV bc]:Array Value).size) Go.undef)[1]? =some (ptV bs):=by rw[uF (by simp)];rfl
  have z2:(#[yvV l,ptV bs,ptV bc]++uH (67 - (#[yvV l,ptV bs,ptV bc]:Array Value).size) Go.undef)[2]? =some (ptV bc):=by rw[uF (by simp)];rfl
  generalize #[yvV l,ptV bs,ptV bc]++uH (67 - (#[yvV l,ptV bs,ptV bc]:Array Value).size) Go.undef=tm at hz0 z0 z1 z2⊢
  refine q2p it1 (q7r (Q:=fun _ _ _=>False) (fun e a w _ h=>h.elim) it1 (fun a w h=>h) ?_)
  have hbf:Bs (zlg l bs bc).A (zlg l bs bc).F W0 (pinned fun _=>none) (fun _=>none) W0:=⟨fun x y b h=>(nomatch h),fun x b h=>(nomatch h),But.refl _ _,fun x b h=>(nomatch h),fun _ _=>⟨trivial,trivial⟩,fun x b h=>(nomatch h),fun x b h=>(nomatch h),Flo.no⟩
  refine qtq (c:=zlg l bs bc) (z:=67) none n qc1 (fun _=>uT _) qc8 it1 (n:=1) (ann:=z48) (R:=fun o=>o=[.mp [],.i 0]) (B:=fun _ _=>False) (ts:=iA) (ms:=[]) (kill:=[]) (σk:=sA') (l:=[eS s]) (σ:=sA) (by
   show(q6o uA q36 z48 3 _ _ _ _ _).go _ _ _ _
   rw[zn5]
   exact zwl _) rfl hbf ?_ rfl hz0 (fun st p' W' a' hR hst hb' hf' hd' hz'=>?_) (fun p' W' a' hR hb' hd' hz'=>by cases hR) (fun i' p' W' a' hR hb' hd' hz'=>by cases hR)
  ·refine⟨fun t x hx=>?_,fun k e he=>by cases he⟩
   have hx:=qx hx
   simp only[sA,gnM] at hx
   rcases hx with⟨rfl,rfl⟩|⟨rfl,rfl⟩|⟨rfl,rfl⟩
   ·exact⟨_,z0,rfl,trivial⟩
   ·exact⟨_,z1,zk3 (bc:=bc) (NB:=W0.heap.size) (s:=s) rfl rfl rfl (fun x b h=>by cases h) hbs hbc hs rd⟩
   ·exact⟨_,z2,rfl,trivial⟩
  ·subst hR
   have hf':SF ((zlg l bs bc).at (qe q36) [eS s,.mp [],.i 0]) sS p' W' a':=hf'
   have hbut:But Nil W0 W':=hb'.but.mono fun b h _=>by
    obtain⟨x,hx⟩:=h
    cases hx
   obtain⟨v0,t0,e0,-⟩:=hf'.t 0 _ sS0
   obtain⟨v1,t1,e1,-⟩:=hf'.t 1 _ sS1
   obtain⟨v2,t2,e2,-⟩:=hf'.t 2 _ sS2
   obtain⟨v4,t4,h4⟩:=hf'.t 4 _ sS4
   obtain⟨v14,t14,h14⟩:=hf'.t 14 _ zws
   obtain⟨v15,t15,h15⟩:=hf'.t 15 _ zw1
   subst e0 e1 e2
   obtain⟨m,q4,rfl,l4,es,clock,h4e,h4h,h4l⟩:=zak h4
   have h4e:D.mp []=D.mp l4:=h4e
   injection h4e with h4e
   subst h4e
   obtain⟨rfl,-⟩:=qh9 (n:=(s.cs.length:Nat)) (by
    show D.i (((eS s).fld 0).rs.length:Nat)=_
    rw[qf0,q35,uQ]) h14
   obtain⟨rfl,hi⟩:=qh9 (n:=0) rfl h15
   have hmb:W0.heap.size≤m:=by
    rcases hb'.pin _ _ q4 with⟨x,hx⟩|h
    ·cases hx
    ·exact h
   have hmW:m<W'.heap.size:=hb'.bd _ _ q4
   obtain⟨K,J,hk,hK0,hfin⟩:=hK m W' hbut hmb hmW
   obtain⟨-,hs',rd'⟩:=hk.rd _ _ _ hK0
   obtain⟨T,hT,hcc⟩:=hc
   have hhd:HdOk W0.heap.size l bs bc m css s c0 [] 0 a' W':=⟨hz',hd',t0,t1,t2,t4,t14,t15,hs',rd',⟨T,hT,(hbut.block _ hcb (fun h=>h)).trans hcc⟩,⟨es,clock,h4h,h4l⟩,so,co,hi⟩
   refine wpIn_block (wpIn_loop_rounds (s.cs.length+1) (z0s (c0:=c0) (j:=0) (met:=[]) hk hn hbs hbc hcb hmb so (fun e a W he hd hz hKJ=>?_) (s.cs.length+1) hhd hK0 (by rfl) (uT _) (by omega) zkm (by simp)))
   have key:bodyPost uA kE (fun e W=>(∃v,e=.returned v)∧R W) .ret a W:=⟨hd,_,results_none rfl _ _ _,⟨_,rfl⟩,hfin W hKJ⟩
   rcases he with rfl|rfl
   ·exact key
   ·exact key
 rw[←zrx] at hW
 exact hW
end
section
open Go.RowKit Go.Shelf
def q4j(w:World)(bc m:Nat)(b:Nat):Prop:=b=bc∨b=m∨b=w.heap.size∨b=w.heap.size+1
def KpN(w:World)(bc m N B:Nat)(W W':World):Prop:=W.heap.size≤W'.heap.size∧∀b,b<B→N≤b∨q4j w bc m b→W'.heap[b]? =W.heap[b]?
structure ItOk(w:World)(a:Act)(n bs bc m:Nat)(ti tx:Tmp)(assign body:Code)(css:List Value)(s:So)(c0:Ce)(I:Nat→Nat→World→Prop)(M:Nat→Nat→Nat→Act→World→Prop)(J:World→Prop):Prop where
 rd:∀k N W,I k N W→w.heap.size+2≤N∧N≤W.heap.size∧(∃T,W.heap[bs]? =some (.cells css.toArray T (0,0)))∧Rd W (fun b=>b<w.heap.size+2∧b≠bc) (eS s) qb css
 step:∀k N W W',I k N W→But (q4j w bc m) W W'→I k N W'
 assign:∀k N W x,(yx s c0)[k]? =some x→x.ok→I k N W→assign.wpIn (FR (some (w.heap.size+1))) n uA (Exit.then (fun a1 W1=>M k N W.heap.size a1 W1∧KpN w bc m N W.heap.size W W1) (fun _ _ _=>False)) {tmps:=(a.tmps.setIfInBounds ti (.string x.name)).setIfInBounds tx (.agg (ceL x.val).toArray),defers:=[]} W
 mstep:∀k N B a1 W W',M k N B a1 W→But (q4j w bc m) W W'→M k N B a1 W'
 body:∀k N B a1 W,k<(yx s c0).length→M k N B a1 W→body.wpIn (FR (some (w.heap.size+1))) n uA (fun e a2 W2=>KpN w bc m N B W W2∧(e=.normal∧I (k+1) W2.heap.size W2∨e=.ret∧J W2)) a1 W
 stop:∀W W',J W→But (q4j w bc m) W W'→J W'
theorem qkq{S:Nat→Prop}{W:World}{b:Nat}{o:Obj}(h:S b):But S W (W.putObj b o):=by
 refine⟨rfl,rfl,rfl,by simp,fun k hk hn=>uC (fun e=>hn (by rw[e];exact h))⟩
theorem zeb(args:Array Value)(w:World):(callFunc 94 args).run uA w=.ok (.enter 94 args) w:=by kernel_rfl
theorem zio{g:Operand}{ti tx:Tmp}{assign body:Code}{w:World}{nn:Nat}(hn:3≤nn){bs bc:Nat}{s:So}{c0:Ce}
  (hg:a.eval g=.func (.func 94) #[] #[ptV bs,ptV bc])(hbc:bs≠bc)(hs:∃T,w.heap[bs]? =some (.cells css.toArray T (0,0)))(rd:Rd w (fun b=>b≠bc) (eS s) qb css)(so:s.ok)(hc:∃T,qk T=some qm∧w.heap[bc]? =some (.cells (ceL c0).toArray T (0,0)))(co:c0.ok)
  (hK:∀m W1,But Nil w W1→w.heap.size+2≤m→m<W1.heap.size→∃I M J,ItOk w a (nn - 1 - 1) bs bc m ti tx assign body css s c0 I M J∧I 0 W1.heap.size W1∧
   (∀N W,I (yx s c0).length N W→W.heap[w.heap.size]? =some (.deferred (some []))→Q .normal {a with defers:={target:=.collected w.heap.size,args:= #[]}::a.defers} W)∧
   (∀W,J W→W.heap[w.heap.size]? =some (.deferred (some []))→Q .ret {a with defers:={target:=.collected w.heap.size,args:= #[]}::a.defers} W)):
  (Code.rangeFunc g #[ti,tx] assign body).wpIn (FR none) nn uA Q a w:=by
 refine wpIn_rangeFunc ?_
 intro fn hfn
 obtain⟨rec,hrec⟩:∃rec:LoopState→Option Code→Loop,rec=fun st pe=>{state:=st,pending:=pe,fn,tmps:=a.tmps,params:= #[ti,tx],assign,body,defers:=w.heap.size}:=⟨_,rfl⟩
 have hD:∀o,(((w.alloc (.deferred (some []))).alloc o).heap[w.heap.size]? =some (.deferred (some []))):=fun o=>by
  rw[hget,if_neg (by simp),hget,if_pos rfl]
 have hL:∀o,(((w.alloc (.deferred (some []))).alloc o).heap[w.heap.size+1]? =some o):=fun o=>by
  rw[hget,if_pos (by simp)]
 refine⟨w.heap.size+1,[{target:=.collected w.heap.size,args:= #[]}],(w.alloc (.deferred (some []))).alloc (.loop (rec .ready none)),{target:=.fn (.func 94) #[ptV bs,ptV bc],args:= #[yvV (w.heap.size+1)]},(w.alloc (.deferred (some []))).alloc (.loop (rec .ready none)),94,
  #[yvV (w.heap.size+1)]++ #[ptV bs,ptV bc],(w.alloc (.deferred (some []))).alloc (.loop (rec .ready none)),?_,?_,?_,?_,fun _=>by omega,?_⟩
 ·rw[hrec];exact run_enterLoop_outer _ _ _ _ _
 ·simp only[resolve,hg]
  simp[go_sem]
 ·intro f' hf';trivial
 ·simp only[invoke]
  exact zeb _ _
 ·show CallsIn (FR none) (nn - 1) uA 94 #[yvV (w.heap.size+1),ptV bs,ptV bc] ((w.alloc (.deferred (some []))).alloc (.loop (rec .ready none))) _
  have hsz:((w.alloc (.deferred (some []))).alloc (.loop (rec .ready none))).heap.size=w.heap.size+2:=by simp
  obtain⟨Ts,hs⟩:=hs
  obtain⟨Tc,hTc,hc⟩:=hc
  have hbs:=qr hs
  have hcb:=qr hc
  have hkeep:∀b o,w.heap[b]? =some o→((w.alloc (.deferred (some []))).alloc (.loop (rec .ready none))).heap[b]? =some o:=fun b o h=>by
   have hb:b<w.heap.size:=(uB.1 h).1
   rw[hget,if_neg (by simp;omega),hget,if_neg (by omega)]
   exact h
  have hb1:But Nil w ((w.alloc (.deferred (some []))).alloc (.loop (rec .ready none))):=((But.refl _ _).alloc _).alloc _
  refine(zr8 (l:=w.heap.size+1) (R:=fun W=>(∃m I M J,ItOk w a (nn - 1 - 1) bs bc m ti tx assign body css s c0 I M J∧(∀N W,I (yx s c0).length N W→W.heap[w.heap.size]? =some (.deferred (some []))→Q .normal {a with defers:={target:=.collected w.heap.size,args:= #[]}::a.defers} W)∧(∀W,J W→W.heap[w.heap.size]? =some (.deferred (some []))→Q .ret {a with defers:={target:=.collected w.heap.size,args:= #[]}::a.defers} W)∧w.heap.size+2≤m∧
    ((∃N,I (yx s c0).length N W∧W.heap[w.heap.size+1]? =some (.loop (rec .ready none))∧W.heap[w.heap.size]? =some (.deferred (some [])))∨(J W∧W.heap[w.heap.size+1]? =some (.loop (rec .done (some .ret)))∧W.heap[w.heap.size]? =some (.deferred (some [])))))) (by omega) (by omega) (by omega) hbc ⟨Ts,hkeep _ _ hs⟩ (Rd.keeps (fun b o hb h=>⟨hkeep b o h,by rw[hsz];have:b<w.heap.size:=(uB.1 h).1;exact⟨by omega,hb⟩⟩) _ rd) so ⟨Tc,hTc,hkeep _ _ hc⟩ co ?_).mono ?_
  ·intro m W1 hbut hm1 hm2
   rw[hsz] at hm1
   obtain⟨I,M,J,hI,hI0,hq1,hq2⟩:=hK m W1 (hb1.trans_nil hbut) hm1 hm2
   refine⟨fun k N W=>I k N W∧W.heap[w.heap.size+1]? =some (.loop (rec .ready none))∧W.heap[w.heap.size]? =some (.deferred (some [])),fun W=>J W∧W.heap[w.heap.size+1]? =some (.loop (rec .done (some .ret)))∧W.heap[w.heap.size]? =some (.deferred (some [])),⟨?_,?_,?_,?_⟩,⟨hI0,?_,?_⟩,?_⟩
   ·rintro k N W⟨h,-,-⟩
    obtain⟨-,h2,h3,h4⟩:=hI.rd k N W h
    rw[hsz]
    exact⟨h2,h3,h4⟩
   ·rintro k N W W'⟨h,hl,hd⟩hb
    refine⟨hI.step k N W W' h (hb.mono fun b h _=>?_),(hb.block _ (uB.1 hl).1 (by omega)).trans hl,(hb.block _ (uB.1 hd).1 (by omega)).trans hd⟩
    rcases h with h|h
    ·exact .inl h
    ·exact .inr (.inl h)
   ·-- one round
    rintro k N W x⟨h,hl,hd⟩hx hxo
    obtain⟨hN0,hN,-,-⟩:=hI.rd k N W h
    have hy:=run_yield (P:=uA) (args:= #[.string x.name,.agg (ceL x.val).toArray]) hl (by rw[hrec];rfl)
    rw[hrec] at hy
    have hz:((#[ti,tx]:Array Tmp).zip #[Value.string x.name,.agg (ceL x.val).toArray]).foldl (fun tmps(x:Tmp×Value)=>tmps.setIfInBounds x.1 x.2) a.tmps=(a.tmps.setIfInBounds ti (.string x.name)).setIfInBounds tx (.agg (ceL x.val).toArray):=by
     simp
    have ha:=hI.assign k N W x hx hxo h
    rw[←hz] at ha
    refine⟨fn,_,assign,body,hy,roundIn_of_wpIn hfn (wpIn_mono ha ?_)⟩
    rintro e a1 W1 h1
    cases e with
    | normal =>
     obtain⟨hm,hk1⟩:=h1
     have hl1:W1.heap[w.heap.size+1]? =some (.loop (rec .ready none)):=(hk1.2 _ (uB.1 hl).1 (.inr (.inr (.inr (.inr rfl))))).trans hl
     have hd1:W1.heap[w.heap.size]? =some (.deferred (some [])):=(hk1.2 _ (uB.1 hd).1 (.inr (.inr (.inr (.inl rfl))))).trans hd
     have hsz1:w.heap.size+1<W1.heap.size:=(uB.1 hl1).1
     have hlb:(W1.putObj (w.heap.size+1) (.loop {rec .ready none with state:=.busy})).heap[w.heap.size+1]? =some (.loop {rec .ready none with state:=.busy}):=uU hsz1
     have hdb:(W1.putObj (w.heap.size+1) (.loop {rec .ready none with state:=.busy})).heap[w.heap.size]? =some (.deferred (some [])):=(uC (by omega)).trans hd1
     refine⟨_,run_beginRound hl1 (by rw[hrec]),?_⟩
     have hkl:k<(yx s c0).length:=(gnH.1 hx).1
     refine wpIn_mono (hI.body k N W.heap.size a1 _ hkl (hI.mstep k N _ a1 _ _ hm (qkq (.inr (.inr (.inr rfl)))))) ?_
     have hold:∀{W3:World}{o:Obj},KpN w bc m N W.heap.size (W1.putObj (w.heap.size+1) (.loop {rec .ready none with state:=.busy})) W3→∀b,b<W.heap.size→N≤b∨b=bc∨b=m→(W3.putObj (w.heap.size+1) o).heap[b]? =W.heap[b]? :=fun{W3 o}hk3 b hb hbN=>by
      have hne:b≠w.heap.size+1:=by omega
      have hh:N≤b∨q4j w bc m b:=by
       rcases hbN with h|h|h
       ·exact .inl h
       ·exact .inr (.inl h)
       ·exact .inr (.inr (.inl h))
      rw[uC hne,hk3.2 b hb hh,uC hne,hk1.2 b hb hh]
     rintro e a3 W3⟨hk3,⟨rfl,hi3⟩|⟨rfl,hj3⟩⟩
     ·have hl3:W3.heap[w.heap.size+1]? =some (.loop {rec .ready none with state:=.busy}):=(hk3.2 _ (uB.1 hl).1 (.inr (.inr (.inr (.inr rfl))))).trans hlb
      have hd3:W3.heap[w.heap.size]? =some (.deferred (some [])):=(hk3.2 _ (uB.1 hd).1 (.inr (.inr (.inr (.inl rfl))))).trans hdb
      have hsz3:w.heap.size+1<W3.heap.size:=(uB.1 hl3).1
      refine⟨_,_,run_endRound (P:=uA) none hl3,?_,hold hk3,.inl ⟨rfl,?_,?_,(uC (by omega)).trans hd3⟩⟩
      ·have h1:=hk3.1
       have h2:=hk1.1
       simp at h1⊢
       omega
      ·have:=hI.step _ _ _ _ hi3 (qkq (S:=q4j w bc m) (b:=w.heap.size+1) (o:=.loop {(rec .ready none) with state:=if(none:Option Code).isNone then .ready else .done,pending:=none}) (.inr (.inr (.inr rfl))))
       simpa using this
      ·have:=uU (w:=W3) (o:=.loop {rec .ready none with state:=.ready,pending:=none}) hsz3
       rw[hrec] at this⊢
       exact this
     ·have hl3:W3.heap[w.heap.size+1]? =some (.loop {rec .ready none with state:=.busy}):=(hk3.2 _ (uB.1 hl).1 (.inr (.inr (.inr (.inr rfl))))).trans hlb
      have hd3:W3.heap[w.heap.size]? =some (.deferred (some [])):=(hk3.2 _ (uB.1 hd).1 (.inr (.inr (.inr (.inl rfl))))).trans hdb
      have hsz3:w.heap.size+1<W3.heap.size:=(uB.1 hl3).1
      refine⟨_,_,run_endRound (P:=uA) (some .ret) hl3,?_,hold hk3,.inr ⟨rfl,hI.stop _ _ hj3 (qkq (.inr (.inr (.inr rfl)))),?_,(uC (by omega)).trans hd3⟩⟩
      ·have h1:=hk3.1
       have h2:=hk1.1
       simp at h1⊢
       omega
      ·have:=uU (w:=W3) (o:=.loop {rec .ready none with state:=.done,pending:=some .ret}) hsz3
       rw[hrec] at this⊢
       exact this
    |_=>exact h1.elim
   ·rintro W W'⟨h,hl,hd⟩hb
    exact⟨hI.stop _ _ h hb.of_nil,(hb.block _ (uB.1 hl).1 (fun h=>h)).trans hl,(hb.block _ (uB.1 hd).1 (fun h=>h)).trans hd⟩
   ·exact(hbut.block _ (by rw[hsz];omega) (fun h=>h)).trans (hL _)
   ·exact(hbut.block _ (by rw[hsz];omega) (fun h=>h)).trans (hD _)
   ·intro W hW
    exact⟨m,I,M,J,hI,hq1,hq2,hm1,hW⟩
  ·rintro e W2⟨⟨v,rfl⟩,m,I,M,J,hI,hq1,hq2,hm1,⟨N,hi,hl,hd⟩|⟨hj,hl,hd⟩⟩
   ·refine⟨none,_,by have:=run_endLoop (P:=uA) hl (by rw[hrec];simp);rw[hrec] at this;exact this,hq1 N _ (hI.step _ _ _ _ hi (qkq (.inr (.inr (.inr rfl))))) ((uC (by omega)).trans hd)⟩
   ·refine⟨some .ret,_,by have:=run_endLoop (P:=uA) hl (by rw[hrec];simp);rw[hrec] at this;exact this,wpIn_ret (hq2 _ (hI.stop _ _ hj (qkq (.inr (.inr (.inr rfl))))) ((uC (by omega)).trans hd))⟩
end
section
open Go.RowKit Go.Shelf
attribute [local go_sem] Oper.semAt_some
section
variable{A0 A1 A2 A3:Option Addr}{n0 n1 n2 n3 k0 k1 k2 k3:Nat}{x4 x5:Int}
theorem z6c(w:World)(s e:Nat)(T:TypeId)(hs:w.heap[s]? =some (.cells #[.slice A0 n0 k0,.slice A1 n1 k1,.slice A2 n2 k2,.slice A3 n3 k3,.int .i64 x4,.int .i64 x5] T (0,0))):Calls uA 43 #[.pointer (some ⟨s,0,none⟩),.pointer (some ⟨e,0,none⟩)] w fun r w'=>r=.returned (.func (.func 82) #[] #[.pointer (some ⟨w.heap.size+1,0,none⟩),.pointer (some ⟨w.heap.size,0,none⟩),.pointer (some ⟨w.heap.size+2,0,none⟩)])∧w'=((w.alloc (.cells #[.pointer (some ⟨s,0,none⟩)] 41)).alloc (.cells #[.pointer (some ⟨e,0,none⟩)] 79)).alloc (.cells #[.slice A0 n0 k0,.slice A1 n1 k1,.slice A2 n2 k2,.slice A3 n3 k3,.int .i64 x4,.int .i64 x5] 27):=by
 have h0:=cell_of_row w s 0 _ T (0,0) hs
 have h1:=cell_of_row w s 1 _ T (0,0) hs
 have h2:=cell_of_row w s 2 _ T (0,0) hs
 have h3:=cell_of_row w s 3 _ T (0,0) hs
 have h4:=cell_of_row w s 4 _ T (0,0) hs
 have h5:=cell_of_row w s 5 _ T (0,0) hs
 have hlt:=qr hs
 go_enter Tryz.func43,Tryz.ntmps43
 go_wp2_with fail
 exact bodyPost_ret (v:=.func (.func 82) #[] #[.pointer (some ⟨w.heap.size+1,0,none⟩),.pointer (some ⟨w.heap.size,0,none⟩),.pointer (some ⟨w.heap.size+2,0,none⟩)]) (by simp[results,Tryz.results43,go_sem]) rfl ⟨rfl,rfl⟩
theorem zah{n:Nat}(w:World)(b3 b2 b5 e:Nat)(u:FrameMode)(h3:w.cell? ⟨b3,0,none⟩=some (.pointer (some ⟨e,0,none⟩)))(he:w.cell? ⟨e,0,none⟩=some (.int .i64 0)):CallsDIn (FR none) n uA 82 #[.pointer (some ⟨b3,0,none⟩),.pointer (some ⟨b2,0,none⟩),.pointer (some ⟨b5,0,none⟩)] u w fun r u' w'=>u'=u∧(r=.returned (.tuple #[])∧w'=w):=by
 refine callsDIn_of_wp (F:=FR none) vJ rfl trivial ((wpIn_wide (n:=n)).2 ?_)
 simp only[vF,kS,kX,vA,vH,vG,kP,kO,kT,kR,kZ,kY]
 go_wp2_with fail
 exact⟨rfl,_,results_none rfl _ _ _,rfl,rfl⟩
variable{m0 m1 m2 m3 l0 l1 l2 l3:Nat}{y4 y5:Int}{B0 B1 B2 B3:Option Addr}
theorem zew{n:Nat}(w:World)(b3 b2 b5 e s:Nat)(u:FrameMode)(E:Int)(h3:w.cell? ⟨b3,0,none⟩=some (.pointer (some ⟨e,0,none⟩)))(he:w.cell? ⟨e,0,none⟩=some (.int .i64 E))(hE:¬E=0)(h2:w.cell? ⟨b2,0,none⟩=some (.pointer (some ⟨s,0,none⟩)))
  (T T':TypeId)(hs:w.heap[s]? =some (.cells #[.slice A0 n0 k0,.slice A1 n1 k1,.slice A2 n2 k2,.slice A3 n3 k3,.int .i64 x4,.int .i64 x5] T (0,0)))(hw:w.heap[b5]? =some (.cells #[.slice B0 l0 m0,.slice B1 l1 m1,.slice B2 l2 m2,.slice B3 l3 m3,.int .i64 y4,.int .i64 y5] T' (0,0)))
  (hn:b3≠s∧b2≠s∧b5≠s)(hl0:l0≤k0)(hl1:l1≤k1)(hl2:l2≤k2):
  CallsDIn (FR none) n uA 82 #[.pointer (some ⟨b3,0,none⟩),.pointer (some ⟨b2,0,none⟩),.pointer (some ⟨b5,0,none⟩)] u w fun r u' w'=>u'=u∧(r=.returned (.tuple #[])∧But (fun b=>b=s) w w'∧w'.heap[s]? =some (.cells #[.slice A0 l0 k0,.slice A1 l1 k1,.slice A2 l2 k2,.slice A3 n3 k3,.int .i64 y4,.int .i64 x5] T (0,0))):=by
 refine callsDIn_of_wp (F:=FR none) vJ rfl trivial ((wpIn_wide (n:=n)).2 ?_)
 simp only[vF,kS,kX,vA,vH,vG,kP,kO,kT,kR,kZ,kY]
 have s0:=cell_of_row w s 0 _ T (0,0) hs
 have f0:=frz hs 0
 have w0:=cell_of_row w b5 0 _ T' (0,0) hw
 go_wp2_with fail
 go_still_tail 9,(by kernel_rfl)
 change wpList _ _ _ _ _ w.drew
 go_wp2_with fail
 have hb1:But (fun b=>b=s) w ((w.setCell ⟨s,0,none⟩ (.slice A0 l0 k0)).drew):=((But.refl (fun b=>b=s) w).setCell (p:=⟨s,0,none⟩) (.inl rfl) _).drew
 have hs1:((w.setCell ⟨s,0,none⟩ (.slice A0 l0 k0)).drew).heap[s]? =some (.cells #[.slice A0 l0 k0,.slice A1 n1 k1,.slice A2 n2 k2,.slice A3 n3 k3,.int .i64 x4,.int .i64 x5] T (0,0)):=by
  show(w.setCell ⟨s,0,none⟩ (.slice A0 l0 k0)).heap[s]? =_
  have:=qk0 (i:=0) hs (.slice A0 l0 k0)
  simpa using this
 have hw1:((w.setCell ⟨s,0,none⟩ (.slice A0 l0 k0)).drew).heap[b5]? =some (.cells #[.slice B0 l0 m0,.slice B1 l1 m1,.slice B2 l2 m2,.slice B3 l3 m3,.int .i64 y4,.int .i64 y5] T' (0,0)):=zj1 hw hn.2.2
 have h21:((w.setCell ⟨s,0,none⟩ (.slice A0 l0 k0)).drew).cell? ⟨b2,0,none⟩=some (.pointer (some ⟨s,0,none⟩)):=hb1.cell hn.2.1 h2
 clear s0 f0 w0
 generalize (w.setCell ⟨s,0,none⟩ (.slice A0 l0 k0)).drew=W1 at *
 have s0:W1.cell? ⟨s,1,none⟩=some (.slice A1 n1 k1):=by have:=cell_of_row W1 s 1 _ T (0,0) hs1;simpa using this
 have f0:=frz hs1 1
 have w0:W1.cell? ⟨b5,1,none⟩=some (.slice B1 l1 m1):=by have:=cell_of_row W1 b5 1 _ T' (0,0) hw1;simpa using this
 go_still_tail 9,(by kernel_rfl)
 change wpList _ _ _ _ _ W1.drew
 go_wp2_with fail
 have hb2:But (fun b=>b=s) w ((W1.setCell ⟨s,1,none⟩ (.slice A1 l1 k1)).drew):=(hb1.setCell (p:=⟨s,1,none⟩) (.inl rfl) _).drew
 have hs2:((W1.setCell ⟨s,1,none⟩ (.slice A1 l1 k1)).drew).heap[s]? =some (.cells #[.slice A0 l0 k0,.slice A1 l1 k1,.slice A2 n2 k2,.slice A3 n3 k3,.int .i64 x4,.int .i64 x5] T (0,0)):=by
  show(W1.setCell ⟨s,1,none⟩ (.slice A1 l1 k1)).heap[s]? =_
  have:=qk0 (i:=1) hs1 (.slice A1 l1 k1)
  simpa using this
 have hw2:((W1.setCell ⟨s,1,none⟩ (.slice A1 l1 k1)).drew).heap[b5]? =some (.cells #[.slice B0 l0 m0,.slice B1 l1 m1,.slice B2 l2 m2,.slice B3 l3 m3,.int .i64 y4,.int .i64 y5] T' (0,0)):=zj1 hw1 hn.2.2
 have h22:((W1.setCell ⟨s,1,none⟩ (.slice A1 l1 k1)).drew).cell? ⟨b2,0,none⟩=some (.pointer (some ⟨s,0,none⟩)):=hb2.cell hn.2.1 h2
 clear s0 f0 w0
 generalize (W1.setCell ⟨s,1,none⟩ (.slice A1 l1 k1)).drew=W2 at *
 have s0:W2.cell? ⟨s,2,none⟩=some (.slice A2 n2 k2):=by have:=cell_of_row W2 s 2 _ T (0,0) hs2;simpa using this
 have f0:=frz hs2 2
 have w0:W2.cell? ⟨b5,2,none⟩=some (.slice B2 l2 m2):=by have:=cell_of_row W2 b5 2 _ T' (0,0) hw2;simpa using this
 go_still_tail 9,(by kernel_rfl)
 have w4:W2.cell? ⟨b5,4,none⟩=some (.int .i64 y4):=by have:=cell_of_row W2 b5 4 _ T' (0,0) hw2;simpa using this
 have s4:W2.cell? ⟨s,4,none⟩=some (.int .i64 x4):=by have:=cell_of_row W2 s 4 _ T (0,0) hs2;simpa using this
 have f4:=frz hs2 4
 have q1:¬b5=s:=hn.2.2
 have q2:¬b2=s:=hn.2.1
 change wpList _ _ _ _ _ W2.drew
 go_wp2_with fail
 refine⟨rfl,_,results_none rfl _ _ _,rfl,((hb2.setCell (p:=⟨s,2,none⟩) (.inl rfl) _).setCell (p:=⟨s,4,none⟩) (.inl rfl) _).drew,?_⟩
 show((W2.setCell ⟨s,2,none⟩ (.slice A2 l2 k2)).setCell ⟨s,4,none⟩ (.int .i64 y4)).heap[s]? =_
 have:=qk0 (i:=4) (qk0 (i:=2) hs2 (.slice A2 l2 k2)) (.int .i64 y4)
 simpa using this
end
end
def zf:Ct:=⟨33,[.val (.st 26),.val (.st 28)],[(.row 66,true)],[],none,[],[]⟩
theorem qwu:EnZ zf:=fun _ _=>by kernel_rfl
variable{o:Option Nat}{d:D}{c1:List Value}{j:Nat}{ds:List D}
section
section
variable{A:Nat→Prop}{p:qi}{w:World}{dep:List Nat}
theorem qry{E:TypeId}(h:Fl A p w dep o d (.row E) c1):∃l B cap,d=.r l∧c1=[.slice B l.length cap]∧l.length≤cap∧∀m,m≤l.length→Fl A p w dep o (.r (l.take m)) (.row E) [.slice B m cap]:=by
 cases o with
 | none =>
  have h:Rd w (FFD A p dep) d (.row E) c1:=h
  cases d with
  |r l=>
   obtain⟨E',te,B,cap,e1,hte,rfl,h1,h2,h3,h4⟩:=h
   injection e1 with e1
   subst e1
   refine⟨l,B,cap,rfl,rfl,h1,fun m hm=>?_⟩
   have hl:(l.take m).length=m:=by simp;omega
   refine⟨E,te,B,cap,rfl,hte,by rw[hl],by rw[hl];omega,by rw[hl];omega,h3,q1m.2 fun j hj=>?_⟩
   rw[kU]
   exact q1m.1 h4 j (by omega)
  |u=>exact h.elim
  |i n=>obtain⟨k,e,-⟩:=h;cases e
  |b x=>obtain⟨e,-⟩:=h;cases e
  |s x=>obtain⟨e,-⟩:=h;cases e
  |a l=>obtain⟨T,fs,e,-⟩:=h;cases e
  |mp l=>obtain⟨K,V,kt,vt,g,es,clock,e,-⟩:=h;cases e
 | some pin =>
  rcases h with⟨E',te,l,v,e1,hte,rfl,rfl,hv⟩|⟨K,V,kt,vt,l,g,es,clock,e,-⟩
  ·injection e1 with e1
   subst e1
   rcases hv with⟨rfl,rfl⟩|⟨g,cap,cur,rfl,hg,hh,h1,h2,h3,h4,h5⟩
   ·exact⟨[],none,0,rfl,rfl,vN _,fun m hm=>.inl ⟨E,te,[],_,rfl,hte,by simp,rfl,.inl ⟨by simp at hm;rw[hm],rfl⟩⟩⟩
   ·refine⟨l,some ⟨g,0,none⟩,cap,rfl,rfl,h1,fun m hm=>?_⟩
    have hl:(l.take m).length=m:=by simp;omega
    refine .inl ⟨E,te,l.take m,_,rfl,hte,rfl,rfl,.inr ⟨g,cap,cur,by rw[hl],hg,hh,by rw[hl];omega,h2,h3,by rw[hl];omega,fun i hi=>?_⟩⟩
    obtain⟨cs,q1,q2⟩:=h5 i (by omega)
    exact⟨cs,q1,by rw[kU];exact q2⟩
  ·cases e
theorem z3z(h:Fl A p w dep o d (.int .i64) c1):∃n,d=.i n∧c1=[.int .i64 n]∧yw .i64 n=true∧∀m,yw .i64 m=true→Fl A p w dep o (.i m) (.int .i64) [.int .i64 m]:=by
 cases o with
 | none =>
  have h:Rd w (FFD A p dep) d (.int .i64) c1:=h
  cases d with
  |i n=>
   obtain⟨k,e,rfl,hr⟩:=h
   injection e with e
   subst e
   exact⟨n,rfl,rfl,hr,fun m hm=>⟨.i64,rfl,rfl,hm⟩⟩
  |u=>exact h.elim
  |r l=>obtain⟨E,te,B,cap,e,-⟩:=h;cases e
  |b x=>obtain⟨e,-⟩:=h;cases e
  |s x=>obtain⟨e,-⟩:=h;cases e
  |a l=>obtain⟨T,fs,e,-⟩:=h;cases e
  |mp l=>obtain⟨K,V,kt,vt,g,es,clock,e,-⟩:=h;cases e
 |some pin=>
  rcases h with⟨E',te,l,v,e1,-⟩|⟨K,V,kt,vt,l,g,es,clock,e,-⟩
  ·cases e1
  ·cases e
abbrev qtp:TypeId:=match qb with
 |.st S=>S
 |_=>0
theorem qs3:flds qtp=some [yb,qni,z3x,q4y,.int .i64,.int .i64]:=by kernel_rfl
theorem q5z{own:List (Nat×Nat)}{t:Ty}{ts:List Ty}(h:Fls A p w dep own j ds (t::ts) cs):∃d ds' c1 c2,ds=d::ds'∧cs=c1++c2∧Fl A p w dep (lkA own j) d t c1∧Fls A p w dep own (j+1) ds' ts c2:=by
 cases ds with
 |nil=>cases h.1
 |cons d ds=>
  obtain⟨t',ts',c1,c2,e,e2,h1,h2⟩:=h
  injection e with e1 e1'
  subst e1 e1'
  exact⟨d,ds,c1,c2,rfl,e2,h1,h2⟩
theorem zgh{own:List (Nat×Nat)}(h:Fls A p w dep own j ds [] cs):ds=[]∧cs=[]:=by
 cases ds with
 |nil=>exact⟨rfl,h.2⟩
 |cons d ds=>
  obtain⟨t',ts',c1,c2,e,-⟩:=h
  cases e
theorem qjt{own:List (Nat×Nat)}(h:Con A p w d qb own dep cs):∃(l0 l1 l2 l3:List D)(B0 B1 B2 B3:Option Addr)(k0 k1 k2 k3:Nat)(x4 x5:Int),d=.a [.r l0,.r l1,.r l2,.r l3,.i x4,.i x5]∧cs=[.slice B0 l0.length k0,.slice B1 l1.length k1,.slice B2 l2.length k2,.slice B3 l3.length k3,.int .i64 x4,.int .i64 x5]∧(l0.length≤k0∧l1.length≤k1∧l2.length≤k2)∧yw .i64 x4=true∧
  ∀m0 m1 m2 y4,m0≤l0.length→m1≤l1.length→m2≤l2.length→yw .i64 y4=true→Con A p w (.a [.r (l0.take m0),.r (l1.take m1),.r (l2.take m2),.r l3,.i y4,.i x5]) qb own dep [.slice B0 m0 k0,.slice B1 m1 k1,.slice B2 m2 k2,.slice B3 l3.length k3,.int .i64 y4,.int .i64 x5]:=by
 have h:Con A p w d (.st qtp) own dep cs:=h
 obtain⟨fs,ds,hf,rfl,hl⟩:=h
 rw[qs3] at hf
 injection hf with hf
 subst hf
 obtain⟨d0,ds,c0,cs,rfl,rfl,h0,hl⟩:=q5z hl
 obtain⟨d1,ds,c1,cs,rfl,rfl,h1,hl⟩:=q5z hl
 obtain⟨d2,ds,c2,cs,rfl,rfl,h2,hl⟩:=q5z hl
 obtain⟨d3,ds,c3,cs,rfl,rfl,h3,hl⟩:=q5z hl
 obtain⟨d4,ds,c4,cs,rfl,rfl,h4,hl⟩:=q5z hl
 obtain⟨d5,ds,c5,cs,rfl,rfl,h5,hl⟩:=q5z hl
 obtain⟨rfl,rfl⟩:=zgh hl
 obtain⟨l0,B0,k0,rfl,rfl,q0,f0⟩:=qry h0
 obtain⟨l1,B1,k1,rfl,rfl,q1,f1⟩:=qry h1
 obtain⟨l2,B2,k2,rfl,rfl,q2,f2⟩:=qry h2
 obtain⟨l3,B3,k3,rfl,rfl,q3,f3⟩:=qry h3
 obtain⟨x4,rfl,rfl,q4,f4⟩:=z3z h4
 obtain⟨x5,rfl,rfl,q5,f5⟩:=z3z h5
 refine⟨l0,l1,l2,l3,B0,B1,B2,B3,k0,k1,k2,k3,x4,x5,rfl,rfl,⟨q0,q1,q2⟩,q4,fun m0 m1 m2 y4 e0 e1 e2 e4=>?_⟩
 show Con A p w _ (.st qtp) own dep _
 exact⟨_,_,qs3,rfl,_,_,_,_,rfl,rfl,f0 m0 e0,_,_,_,_,rfl,rfl,f1 m1 e1,_,_,_,_,rfl,rfl,f2 m2 e2,_,_,_,_,rfl,rfl,h3,_,_,_,_,rfl,rfl,f4 y4 e4,_,_,_,_,rfl,rfl,h5,rfl,rfl⟩
end
def q5k:List D→Option (List D)
 |[e,s,w]=>if e.int=0 then some [s] else if(w.fld 0).rs.length≤(s.fld 0).rs.length∧(w.fld 1).rs.length≤(s.fld 1).rs.length∧(w.fld 2).rs.length≤(s.fld 2).rs.length then some [.a [.r ((s.fld 0).rs.take (w.fld 0).rs.length),.r ((s.fld 1).rs.take (w.fld 1).rs.length),.r ((s.fld 2).rs.take (w.fld 2).rs.length),s.fld 3,w.fld 4,s.fld 5]] else none
 |_=>none
theorem qgr(args:Array Value)(w:World):(callFunc 82 args).run uA w=.ok (.enter 82 args) w:=by kernel_rfl
theorem qwq(args:Array Value)(w:World):(callFunc 43 args).run uA w=.ok (.enter 43 args) w:=by kernel_rfl
def qfe:Ct:={f:=82,ar:=[.val (.st 4242424244)],rs:=[]}
theorem zn8{w:World}{P:Nat→Prop}(h:Rd w P d (.st 4242424244) cs):False:=by
 cases d with
 |a l=>
  obtain⟨T,fs,e,hf,-⟩:=h
  injection e with e
  subst e
  cases hf
 |u=>exact h
 |i n=>obtain⟨k,e,-⟩:=h;cases e
 |b x=>cases h.1
 |s x=>cases h.1
 |r l=>obtain⟨E,te,A,cap,e,-⟩:=h;cases e
 |mp l=>obtain⟨K,V,kt,vt,g,es,clock,e,-⟩:=h;cases e
theorem z3v:FOk qfe q5k:=
 ⟨qgr,(fun A F p w vs us ds outs hg _ _ _ hvl hargs=>by
  obtain⟨v,r,d,ds',e1,e2,⟨cs,h1,h2⟩,-⟩:=hargs
  exact(zn8 h2).elim),fun h=>absurd rfl h⟩
end
variable{u:FrameMode}
section
def zdi(t:Nat)(σ:St):Option (Nat×St):=match lkA σ.t t with
 |some (.ref k [] 0 ty)=>if Ty.beq ty yr&&(σ.t.all fun e=>q9x e.2) then some (k,⟨q05 σ.t t (.sn (VB+t) (.ref k [] 0 ty)),σ.m⟩) else none
 |_=>none
def zhq(t:Nat)(σ:St):Option (Nat×St):=match lkA σ.t t with
 |some (.sn q (.ref k [] 0 ty))=>if kL q (VB+t)&&Ty.beq ty yr then some (k,⟨q05 σ.t t (.ref k [] 0 ty),σ.m⟩) else none
 |_=>none
def z2t(ks j:Nat)(es:Ent)(ee was:X)(σ:St):St:=⟨q9y (q1r (ks * 16)) no σ.t,q05 (qa1 (q1r (ks * 16)) no σ.m) ks ⟨.call j 0 [ee,es.x,was],qb,es.own,es.dep⟩⟩
def z8m(k:Nat)(σ:St):Bool:=σ.t.any fun e=>match lkA σ.t e.1 with
 |some x=>x.has k
 |none=>false
def qik(ct:Ct)(fn:Func)(j ks te:Nat)(was:X):Nat→ResD→St→Tree:=fun n r σ=>match r with
 |.exit i=>.bad (8000000+i)
 | _ => match zhq te σ with
  |some (ke,σ1)=>(match lkA σ1.m ks,lkA σ1.m ke with
   |some es,some ee=>if Ty.beq es.t qb&&(Ty.beq ee.t yr&&(!y7 (es.own.map (·.2)++es.dep) (ks * 16)&&z8m ks σ1)) then .need [.ok j [ee.x,es.x,was]] (qdg ct fn.results.toList n .ret (z2t ks j es ee.x was σ1)) else .bad 9100000
   |_,_=>.bad 9200000)
  |none=>.bad 9300000
def z4b(o:Oper):Option (Nat×Operand×Operand×Nat):=match o.op,o.dst,o.guard with
 |.call {callee:=.value y,args:=⟨[x1,.tmp te]⟩,argTypes:=_},some t,none=>some (t,y,x1,te)
 |_,_,_=>none
def zue(P:Program)(tbl:Tbl)(ann:Ann)(ct:Ct)(fn:Func)(j:Nat)(ops:List Oper)(post:Code)(n:Nat)(σ:St):Tree:=match ops with
 | [o1, ck, df] => (match zlo df, z4b ck with
  | some t, some (t', y, x1, te) => if kL t t' && (o1.guard.isNone && (q9b ct.ar.length fn.ntmps o1 && (q9b ct.ar.length fn.ntmps ck && !Nat.beq t te))) then (match stepG P tbl (dsts [o1, ck, df]) σ o1 with
   | some (N, σ1) => (match opd σ1 [] y, opd σ1 [] x1, zdi te σ1 with
    |some (.fn f []),some (.ref ks [] 0 ty),some (_,σ2)=>(match lkA σ1.m ks with
     |some es=>if kL f 43&&(Ty.beq ty qb&&(Ty.beq es.t qb&&(vO ks ct.ar.length&&X.upto n es.x))) then z6h N (toT P tbl ann ct.ar.length fn.ntmps post [] n ⟨q05 σ2.t t .any,σ2.m⟩ (qik ct fn j ks te es.x)) else .bad 9400000
     |none=>.bad 9500000)
    |_,_,_=>.bad 9600000)
   |none=>.bad 9700000) else .bad 9800000
  |_,_=>.bad 9900000)
 |_=>.bad 9950000
def zdp(P:Program)(tbl:Tbl)(ann:Ann)(ct:Ct)(fn:Func)(j:Nat)(cd:Code):Tree:=match qhp cd with
 |some (xs,_,ops,post)=>q6o P tbl ann ct.ar.length fn.ntmps xs (q7o ct.ars) (qt5 ct) fun n r σ=>match r with
  |.normal=>zue P tbl ann ct fn j ops post n σ
  |r=>qdg ct fn.results.toList n r σ
 |none=>.bad 9990000
theorem z26{n:Nat}{f:FuncId}{args:Array Value}{w:World}{R:Ending→FrameMode→World→Prop}(h:CallsDIn (FR none) n P f args u w R):CallsD P f args u w R:=fun c cs hu=>
 let ⟨e,u',w',fr,r,s,k,_,g⟩:=h.2 c cs hu (room_wide _)
 ⟨e,u',w',fr,r,comesIn_wide.1 s,k,g⟩
section
variable{c:Cx}{p:qi}{w w0 w':World}{S0:Nat→Prop}{a:Act}{σ σ':St}{d:List Deferred}{z:Nat}{tbl:Tbl}
theorem z8b{t k:Nat}(h:zdi t σ=some (k,σ'))(hf:SF c σ p w a):SF {c with snap:=fun q=>if q=VB+t then a.eval (.tmp t) else c.snap q} σ' p w a∧∃g,p (k * 16)=some g∧a.eval (.tmp t)=.pointer (some ⟨g,0,none⟩):=by
 unfold zdi at h
 split at h
 ·rename_i k' ty hx
  split at h
  ·rename_i hok
   simp only[gnB,uE] at hok
   simp only[gnS] at h
   obtain⟨rfl,rfl⟩:=h
   obtain⟨v0,hv0,g0,hg0,e0,-⟩:=hf.t t _ hx
   have hev:a.eval (.tmp t)=v0:=by
    show a.tmps.getD t undef=v0
    simp[uL,hv0]
   refine⟨⟨fun k y hy=>?_,fun k e he=>hf.m k e he⟩,g0,hg0,hev.trans e0⟩
   by_cases hk:t=k
   ·subst hk
    have hy:lkA (q05 σ.t t (.sn (VB+t) (.ref k' [] 0 ty))) t=some y:=hy
    rw[q2e] at hy
    injection hy with hy
    subst hy
    obtain⟨v,hv,hp⟩:=hf.t t _ hx
    refine⟨v,hv,?_,qc5 _ v (hok.2 _ (qx hx)) hp⟩
    show v=if VB+t=VB+t then a.eval (.tmp t) else _
    rw[if_pos rfl]
    show v=a.tmps.getD t undef
    simp[uL,hv]
   ·have hy:lkA (q05 σ.t t (.sn (VB+t) (.ref k' [] 0 ty))) k=some y:=hy
    rw[q50 hk] at hy
    obtain⟨v,hv,hp⟩:=hf.t k y hy
    exact⟨v,hv,qc5 y v (hok.2 _ (qx hy)) hp⟩
  ·cases h
 ·cases h
theorem z7f{t k:Nat}(h:zhq t σ=some (k,σ'))(hf:SF c σ p w a):SF c σ' p w a∧∃g,p (k * 16)=some g∧c.snap (VB+t)=.pointer (some ⟨g,0,none⟩):=by
 unfold zhq at h
 split at h
 ·rename_i q k' ty hx
  split at h
  ·rename_i hq
   simp only[gnB] at hq
   simp only[gnS] at h
   obtain⟨rfl,rfl⟩:=h
   obtain⟨v,hv,he,g,hg,e,hat⟩:=hf.t t _ hx
   have hq:=gnN hq.1
   refine⟨⟨fun k y hy=>?_,hf.m⟩,g,hg,by rw[←hq,←he];exact e⟩
   by_cases hk:t=k
   ·subst hk
    have hy:lkA (q05 σ.t t (.ref k' [] 0 ty)) t=some y:=hy
    rw[q2e] at hy
    injection hy with hy
    subst hy
    exact⟨v,hv,g,hg,e,hat⟩
   ·have hy:lkA (q05 σ.t t (.ref k' [] 0 ty)) k=some y:=hy
    rw[q50 hk] at hy
    exact hf.t k y hy
  ·cases h
 ·cases h
theorem zdj{k x:Nat}{l:List Nat}(h:y7 l k=false)(hx:x∈l):q1r k x=false:=by
 cases hq:q1r k x with
 |false=>rfl
 |true=>
  exfalso
  have e:x=k:=gnN hq
  rw[yp.2 (e▸hx)] at h
  cases h
theorem z8d{nn:Nat}(hkj:∀l,(qe tbl j) l=q5k l){l:List D}{ks ke:Nat}{es ee:Ent}{was:X}{gs ge b5 b2 b3:Nat}(hb:Bs c.A c.F w0 S0 p w)(hf:SF (c.at (qe tbl) l) σ p w a)(hes:lkA σ.m ks=some es)(hee:lkA σ.m ke=some ee)(ht:es.t=qb)(hte:ee.t=yr)(hown:y7 (es.own.map (·.2)++es.dep) (ks * 16)=false)
  (hgs:p (ks * 16)=some gs)(hge:p (ke * 16)=some ge)(hsay:(X.ok j [ee.x,es.x,was]).says (evl (qe tbl) l))
  {m0 m1 m2 m3 l0 l1 l2 l3:Nat}{y4 y5:Int}{B0 B1 B2 B3:Option Addr}{T2 T3 T':TypeId}(h3:w.heap[b3]? =some (.cells #[.pointer (some ⟨ge,0,none⟩)] T3 (0,0)))(h2:w.heap[b2]? =some (.cells #[.pointer (some ⟨gs,0,none⟩)] T2 (0,0)))(hw:w.heap[b5]? =some (.cells #[.slice B0 l0 m0,.slice B1 l1 m1,.slice B2 l2 m2,.slice B3 l3 m3,.int .i64 y4,.int .i64 y5] T' (0,0)))
  (hwas:((was.ev (evl (qe tbl) l)).fld 0).rs.length=l0∧((was.ev (evl (qe tbl) l)).fld 1).rs.length=l1∧((was.ev (evl (qe tbl) l)).fld 2).rs.length=l2∧(was.ev (evl (qe tbl) l)).fld 4=.i y4)(hy4:yw .i64 y4=true)(hn:b3≠gs∧b2≠gs∧b5≠gs):
  CallsDIn (FR none) nn uA 82 #[.pointer (some ⟨b3,0,none⟩),.pointer (some ⟨b2,0,none⟩),.pointer (some ⟨b5,0,none⟩)] u w fun r u' w'=>u'=u∧(r=.returned (.tuple #[])∧Bs c.A c.F w0 S0 p w'∧SF (c.at (qe tbl) l) (z2t ks j es ee.x was σ) p w' a):=by
 obtain⟨g,cs,T,hg,hh,hT,hcon⟩:=hf.m ks _ hes
 rw[hgs] at hg
 injection hg with hg
 subst hg
 obtain⟨g',cs',Te,hg',hh',hTe,hcon'⟩:=hf.m ke _ hee
 rw[hge] at hg'
 injection hg' with hg'
 subst hg'
 rw[hte] at hcon'
 obtain⟨E,hE,hcE,-⟩:=Con.int (c:=c) hcon'
 have hhE:w.cell? ⟨ge,0,none⟩=some (.int .i64 E):=by
  have:=cell_of_row w ge 0 _ Te (0,0) hh'
  rw[this]
  have e:cs'= #[.int .i64 E]:=by
   obtain⟨cs'⟩:=cs'
   have hcE:cs'=[.int .i64 E]:=hcE
   rw[hcE]
  rw[e]
  rfl
 have h3c:w.cell? ⟨b3,0,none⟩=some (.pointer (some ⟨ge,0,none⟩)):=by
  have:=cell_of_row w b3 0 _ T3 (0,0) h3
  simpa using this
 have h2c:w.cell? ⟨b2,0,none⟩=some (.pointer (some ⟨gs,0,none⟩)):=by
  have:=cell_of_row w b2 0 _ T2 (0,0) h2
  simpa using this
 rw[ht] at hcon
 obtain⟨r0,r1,r2,r3,A0,A1,A2,A3,k0,k1,k2,k3,x4,x5,eD,ecs,⟨q0,q1,q2⟩,q4,hcut⟩:=qjt hcon
 have ecs:cs= #[.slice A0 r0.length k0,.slice A1 r1.length k1,.slice A2 r2.length k2,.slice A3 r3.length k3,.int .i64 x4,.int .i64 x5]:=by
  obtain⟨cs⟩:=cs
  have ecs:cs=_:=ecs
  rw[ecs]
 subst ecs
 have hE:ee.x.ev (evl (qe tbl) l)=.i E:=hE
 have eD:es.x.ev (evl (qe tbl) l)=.a [.r r0,.r r1,.r r2,.r r3,.i x4,.i x5]:=eD
 have eN:(X.call j 0 [ee.x,es.x,was]).ev (evl (qe tbl) l)=(((q5k [.i E,.a [.r r0,.r r1,.r r2,.r r3,.i x4,.i x5],was.ev (evl (qe tbl) l)]).getD []).getD 0 .u):=by
  show(((qe tbl j) [ee.x.ev (evl (qe tbl) l),es.x.ev (evl (qe tbl) l),was.ev (evl (qe tbl) l)]).getD []).getD 0 .u=_
  rw[hkj,hE,eD]
 have hsay:(q5k [.i E,.a [.r r0,.r r1,.r r2,.r r3,.i x4,.i x5],was.ev (evl (qe tbl) l)]).isSome=true:=by
  have h:(D.b ((qe tbl j) [ee.x.ev (evl (qe tbl) l),es.x.ev (evl (qe tbl) l),was.ev (evl (qe tbl) l)]).isSome).tt=true:=hsay
  rw[hkj,hE,eD] at h
  exact h
 have ownZ:∀x∈es.own.map (·.2),(q1r (ks * 16) x=false∧no x=false):=fun x hx=>⟨zdj hown (kQ _ hx),rfl⟩
 have depZ:∀x∈es.dep,(q1r (ks * 16) x=false∧no x=false):=fun x hx=>⟨zdj hown (List.mem_append_right _ hx),rfl⟩
 -- what holds where only the store's own block has changed
 have key:∀w' cs',But (fun b=>b=gs) w w'→w'.heap[gs]? =some (.cells cs' T (0,0))→Con c.A p w ((X.call j 0 [ee.x,es.x,was]).ev (evl (qe tbl) l)) qb es.own es.dep cs'.toList→Bs c.A c.F w0 S0 p w'∧SF (c.at (qe tbl) l) (z2t ks j es ee.x was σ) p w' a:=fun w' cs' hbut hnew hcn=>by
  have hst:Stab c.A (q1r (ks * 16)) no p w p w':=by
   refine⟨hbut.size,fun b hlt ha hfr=>⟨hbut.block b hlt fun e=>hfr _ (e▸hgs),hfr⟩,fun x b _ hx=>hx,fun x b hz hx=>hbut.block b (hb.bd x b hx) fun e=>?_⟩
   have hxk:=hb.inj x (ks * 16) b hx (e▸hgs)
   subst hxk
   simp[q1r] at hz
  refine⟨⟨hb.inj,fun x b hx=>Nat.lt_of_lt_of_le (hb.bd x b hx) hbut.size,hb.but.trans hbut fun b hb' _=>?_,hb.pin,hb.new,hb.pa,fun x b hx=>?_,hb.flo.same fun k hk hfl=>?_⟩,?_⟩
  ·have hb':b=gs:=hb'
   subst hb'
   exact hb.pin _ _ hgs
  ·by_cases e:b=gs
   ·subst e
    exact .inl ⟨_,_,hnew⟩
   ·exact(hb.obj x b hx).same (hbut.block b (hb.bd x b hx) e)
  ·refine hbut.block k hk fun e=>?_
   subst e
   obtain⟨c0,c1,T0,te0,-,-,f3,-,f5,f6,f7,-⟩:=hb.flo _ hfl
   rw[hh] at f6
   injection f6 with f6
   injection f6 with f6 f6'
   subst f6'
   rw[hT,ht] at f3
   injection f3 with f3
   subst f3
   rw[←f6] at f7
   have hw6:qb.w=6:=by kernel_rfl
   unfold FlT at f5
   rw[hw6] at f5
   simp at f7
   rcases f5 with f5|⟨f5,-⟩
   ·omega
   ·have hn:nvB qb=false:=by kernel_rfl
    rw[hn] at f5
    cases f5
  ·have hk:=SF.keep hf hst
   refine⟨hk.t,fun k e he=>?_⟩
   by_cases hks:ks=k
   ·subst hks
    have he:lkA (q05 (qa1 (q1r (ks * 16)) no σ.m) ks ⟨.call j 0 [ee.x,es.x,was],qb,es.own,es.dep⟩) ks=some e:=he
    rw[q2e] at he
    injection he with he
    subst he
    exact⟨gs,cs',T,hgs,hnew,by rw[←ht];exact hT,hcn.kept hst depZ ownZ⟩
   ·have he:lkA (q05 (qa1 (q1r (ks * 16)) no σ.m) ks ⟨.call j 0 [ee.x,es.x,was],qb,es.own,es.dep⟩) k=some e:=he
    rw[q50 hks] at he
    exact hk.m k e he
 by_cases hE0:E=0
 ·subst hE0
  refine(zah w b3 b2 b5 ge u h3c hhE).mono ?_
  rintro r u' w'⟨rfl,rfl,rfl⟩
  refine⟨rfl,rfl,?_⟩
  refine key w' _ (But.refl _ _) hh ?_
  rw[eN]
  have:q5k [.i 0,.a [.r r0,.r r1,.r r2,.r r3,.i x4,.i x5],was.ev (evl (qe tbl) l)]=some [.a [.r r0,.r r1,.r r2,.r r3,.i x4,.i x5]]:=rfl
  rw[this]
  rw[←eD]
  exact hcon
 ·obtain⟨e0,e1,e2,e4⟩:=hwas
  have hE0':¬(D.i E).int=0:=hE0
  have hif:l0≤r0.length∧l1≤r1.length∧l2≤r2.length:=by
   simp only[q5k,if_neg hE0',e0,e1,e2] at hsay
   split at hsay
   ·rename_i hh
    exact hh
   ·cases hsay
  refine(zew w b3 b2 b5 ge gs u E h3c hhE hE0 h2c T T' hh hw hn (uV hif.1 q0) (uV hif.2.1 q1) (uV hif.2.2 q2)).mono ?_
  rintro r u' w'⟨rfl,rfl,hbut,hnew⟩
  refine⟨rfl,rfl,?_⟩
  refine key w' _ hbut hnew ?_
  rw[eN]
  have:q5k [.i E,.a [.r r0,.r r1,.r r2,.r r3,.i x4,.i x5],was.ev (evl (qe tbl) l)]=some [.a [.r (r0.take l0),.r (r1.take l1),.r (r2.take l2),.r r3,.i y4,.i x5]]:=by
   simp only[q5k,if_neg hE0',e0,e1,e2,e4]
   exact if_pos hif
  rw[this]
  exact hcut l0 l1 l2 y4 hif.1 hif.2.1 hif.2.2 hy4
end
end
theorem z0c{c:Cx}{w:World}{k:Nat}(h:z8m k σ=true)(hf:SF c σ p w a):∃g,p (k * 16)=some g∧c.At k g:=by
 unfold z8m at h
 obtain⟨e,-,he⟩:=List.any_eq_true.1 h
 split at he
 ·rename_i x hx
  obtain⟨v,-,hp⟩:=hf.t e.1 x hx
  exact AV.has_ok x he hp
 ·cases he
theorem z0q{o:Oper}{t te:Nat}{y x1:Operand}(h:z4b o=some (t,y,x1,te)):o.dst=some t∧o.guard=none∧∃tys,o.op=.call {callee:=.value y,args:= #[x1,.tmp te],argTypes:=tys}:=by
 unfold z4b at h
 split at h
 ·rename_i y' x1' te' tys t' ho hd hg
  simp only[gnS] at h
  obtain⟨rfl,rfl,rfl,rfl⟩:=h
  exact⟨hd,hg,tys,ho⟩
 ·cases h
variable{ct:Ct}{tbl:Tbl}
theorem z65(ann:Ann)(fn:Func)(j:Nat)(cd:Code)(htb:q0r tbl)(hkj:∀l,(qe tbl j) l=q5k l)(hf:uA.funcs[ct.f]? =some fn)(hb:fn.body=some cd)(hsz:ct.ar.length≤fn.ntmps)(hnp:qa3 tbl=true)
  {outs:List D}(h:(zdp uA tbl ann ct fn j cd).go (qe tbl) (fun o=>o=outs) ds fun _ _=>False)(hfm0:FlF ct tbl ds:=by exact FlF.none rfl):FAt ct ds outs:=by
 intro A F p w vs us hfl hfo hpre hvl hargs
 obtain⟨hwf,hdl,-⟩:=hargs.wf
 rw[all_map] at hwf hdl
 have hfm:=hfm0 F hfl
 obtain⟨hb0,hsf⟩:=qzy (tbl:=tbl) (fn:=fn) hsz hfo hpre hvl hargs
 refine calls_of_wp_defers hf hb ?_
 generalize hR:(fun(e:Ending)(w':World)=>(∃T,ct.pn=some T∧outs=[.u]∧e=.panicked (qbs T)∧But (pinned p) w w')∨∃rs p',e=.returned (qi5 rs)∧Bs A F w (pinned p) p' w'∧qav A p' w' ct.rs ct.ar.length rs (outs.take ct.rs.length)∧q45 A p p' w' ct.all (outs.drop ct.rs.length))=R
 have hfin:∀{c:Cx}{σ':St}{l':List D}{p':qi}{w':World}{a':Act}{n':Nat}{B':Nat→List D→Prop},c.A=A→c.F=F→c.At=(fun k g=>(k<ct.ar.length∨VB≤k)→p (k * 16)=some g)→(∀i,i<VB→c.snap i=(vs++us).getD i undef)→Bs c.A c.F w (pinned p) p' w'→SF (c.at (qe tbl) l') σ' p' w' a'→(qdg ct fn.results.toList n' .ret σ').go (qe tbl) (fun o=>o=outs) l' B'→Leaves uA fn a'.tmps R [] .returning w':=by
  intro c σ' l' p' w' a' n' B' h1 hF h2 h3 hb' hf' hgo'
  simp only[qdg] at hgo'
  split at hgo'
  ·rename_i xs hx
   obtain⟨rs,p2,e1,e2,e3,e4⟩:=zde h1 h2 h3 hargs hb' hf' hx
   have ho:X.evs (evl (qe tbl) l') xs=outs:=hgo'
   refine⟨_,e1,?_⟩
   rw[hF] at e2
   rw[←hR]
   exact .inr ⟨rs,p2,rfl,e2,by rw[←ho];exact e3,by rw[←ho];exact e4⟩
  ·exact hgo'.elim
 unfold zdp at h
 split at h
 ·rename_i xs id ops post hcut
  refine z3i hcut (zb5 (c:=cxA tbl ct A F p vs us ds) (S0:=pinned p) (w0:=w) (d:=[]) (z:=fn.ntmps) htb hfm hnp xs h hdl hb0 hsf rfl (by simp;omega) fun n' r σ' l' B' p' w' a' hl' hgo' hb' hf' hd' hz'=>?_)
  cases r with
  |exit i=>exact hgo'.elim
  |ret=>
   show Leaves uA fn a'.tmps R a'.defers .returning w'
   rw[hd']
   exact hfin (c:=cxA tbl ct A F p vs us ds) rfl rfl rfl (fun _ _=>rfl) hb' hf' hgo'
  | normal =>
   show(Code.seq (.region id ops.toArray false) post).wp uA _ a' w'
   rcases ops with _|⟨o1,_|⟨ck,_|⟨df,_|⟨x,l⟩⟩⟩⟩
   ·exact(show False from hgo').elim
   ·exact(show False from hgo').elim
   ·exact(show False from hgo').elim
   ·simp only[zue] at hgo'
    split at hgo'
    ·rename_i t t' y x1 te hdt hck
     split at hgo'
     ·rename_i hok
      simp only[gnB,kD,kV] at hok
      obtain⟨htt,hg1,hd1,hd2,htte⟩:=hok
      obtain rfl:=gnN htt
      have htte:t≠te:=fun e=>by rw[e,vL] at htte;cases htte
      obtain⟨hck1,hck2,tys,hck3⟩:=z0q hck
      have htz:t<fn.ntmps:=by
       unfold q9b at hd2
       rw[hck1] at hd2
       simp only[gnB,kG] at hd2
       exact hd2.1
      split at hgo'
      ·rename_i N σ1 hst
       split at hgo'
       ·rename_i f ks ty ke σ2 hy hx1 hhold
        split at hgo'
        ·rename_i es hes
         split at hgo'
         ·rename_i hok2
          simp only[gnB,kG] at hok2
          obtain⟨hff,hty,het,hks,hup⟩:=hok2
          obtain rfl:=gnN hff
          have het:=(Ty.beq_iff _ _).1 het
          obtain⟨hN,hgo2⟩:=qwx hgo'
          refine wp_seq (wp_region ?_)
          have hw0:Region.wanted o1 (yielded ([o1,ck,df].toArray) a'.tmps)=true:=by simp[Region.wanted,hg1]
          have hstep:=qt1 (c:=(cxA tbl ct A F p vs us ds).at (qe tbl) l') (ops:=[o1,ck,df].toArray) (ds:=dsts [o1,ck,df]) (Q:=Exit.then (post.wp uA (bodyPostD uA fn R)) (bodyPostD uA fn R)) (K:=wpOps uA [o1,ck,df].toArray (Exit.then (post.wp uA (bodyPostD uA fn R)) (bodyPostD uA fn R)) [1,2]) htb ⟨rfl,hfm⟩ rfl hb' hf' hd' hz' hd1 hst hN (q60 hnp) fun a1 w1 hpost=>?_
          ·rw[if_pos hw0] at hstep
           show wpOps uA [o1,ck,df].toArray _ [0,1,2] a' w'
           simp only[wpOps,uP,uO]
           rw[if_pos hw0]
           exact .inl hstep.2
          ·obtain⟨p1,hb1,hf1,hda1,hz1⟩:=hpost
           obtain⟨vy,hvy,hvs⟩:=qp hf1 rfl hy
           have hvs:vy=[]:=hvs
           subst hvs
           obtain⟨gs,hgs,hvx,hat⟩:=qp hf1 rfl hx1
           obtain⟨hf2,ge,hge,hve⟩:=z8b hhold hf1
           obtain⟨gs',cs,T,hgs',hh,hT,hcon⟩:=hf1.m ks _ hes
           rw[hgs] at hgs'
           injection hgs' with hgs'
           subst hgs'
           rw[het] at hcon
           obtain⟨r0,r1,r2,r3,A0,A1,A2,A3,k0,k1,k2,k3,x4,x5,eD,ecs,-,q4,-⟩:=qjt hcon
           have ecs:cs= #[.slice A0 r0.length k0,.slice A1 r1.length k1,.slice A2 r2.length k2,.slice A3 r3.length k3,.int .i64 x4,.int .i64 x5]:=by
            obtain⟨cs⟩:=cs
            have ecs:cs=_:=ecs
            rw[ecs]
           subst ecs
           generalize hcx:({cxA tbl ct A F p vs us ds with snap:=fun q=>if q=VB+te then a1.eval (.tmp te) else(cxA tbl ct A F p vs us ds).snap q}:Cx)=cx
           have hcA:cx.A=A:=by rw[←hcx];rfl
           have hcF:cx.F=F:=by rw[←hcx];rfl
           have hcAt:cx.At=(fun k g=>(k<ct.ar.length∨VB≤k)→p (k * 16)=some g):=by rw[←hcx];rfl
           have hcs:∀i,i<VB→cx.snap i=(vs++us).getD i undef:=fun i hi=>by
            rw[←hcx]
            show(if i=VB+te then _ else _)=_
            rw[if_neg (by omega)]
            rfl
           have hct:cx.snap (VB+te)=.pointer (some ⟨ge,0,none⟩):=by
            rw[←hcx,←hve]
            show(if VB+te=VB+te then _ else _)=_
            rw[if_pos rfl]
           have hlo:cx.lo=ct.ar.length:=by rw[←hcx];rfl
           have hf3:SF (cx.at (qe tbl) l') σ2 p1 w1 a1:=by rw[←hcx];exact hf2
           have hb3:Bs cx.A cx.F w (pinned p) p1 w1:=by rw[hcA,hcF];exact hb1
           have hpg:p (ks * 16)=some gs:=hat (.inl hks)
           clear hcx
           -- the call of keep
           have hgl:=qr hh
           obtain⟨w2,hw2⟩:∃w2,w2=((w1.alloc (.cells #[.pointer (some ⟨gs,0,none⟩)] 41)).alloc (.cells #[.pointer (some ⟨ge,0,none⟩)] 79)).alloc (.cells #[.slice A0 r0.length k0,.slice A1 r1.length k1,.slice A2 r2.length k2,.slice A3 r3.length k3,.int .i64 x4,.int .i64 x5] 27):=⟨_,rfl⟩
           have hs2:w2.heap.size=w1.heap.size+3:=by rw[hw2];simp
           have hst1:=q4o (A:=cx.A) hb3.bd (.cells #[.pointer (some ⟨gs,0,none⟩)] 41)
           have hbs1:=qae hb3 (.cells #[.pointer (some ⟨gs,0,none⟩)] 41)
           have hst2:=q4o (A:=cx.A) hbs1.bd (.cells #[.pointer (some ⟨ge,0,none⟩)] 79)
           have hbs2:=qae hbs1 (.cells #[.pointer (some ⟨ge,0,none⟩)] 79)
           have hst3:=q4o (A:=cx.A) hbs2.bd (.cells #[.slice A0 r0.length k0,.slice A1 r1.length k1,.slice A2 r2.length k2,.slice A3 r3.length k3,.int .i64 x4,.int .i64 x5] 27)
           have hbs3:=qae hbs2 (.cells #[.slice A0 r0.length k0,.slice A1 r1.length k1,.slice A2 r2.length k2,.slice A3 r3.length k3,.int .i64 x4,.int .i64 x5] 27)
           have hfk:=SF.same (c:=cx.at (qe tbl) l') hst3 (SF.same (c:=cx.at (qe tbl) l') hst2 (SF.same (c:=cx.at (qe tbl) l') hst1 hf3))
           have hh2:w2.heap[w1.heap.size]? =some (.cells #[.pointer (some ⟨gs,0,none⟩)] 41 (0,0)):=by
            rw[hw2]
            exact q30 (q30 (q04 rfl))
           have hh3:w2.heap[w1.heap.size+1]? =some (.cells #[.pointer (some ⟨ge,0,none⟩)] 79 (0,0)):=by
            rw[hw2]
            exact q30 (q04 (by simp))
           have hh5:w2.heap[w1.heap.size+2]? =some (.cells #[.slice A0 r0.length k0,.slice A1 r1.length k1,.slice A2 r2.length k2,.slice A3 r3.length k3,.int .i64 x4,.int .i64 x5] 27 (0,0)):=by
            rw[hw2]
            exact q04 (by simp)
           rw[←hw2] at hbs3 hfk
           obtain⟨V,hV⟩:∃V,V=Value.func (.func 82) #[] #[.pointer (some ⟨w1.heap.size+1,0,none⟩),.pointer (some ⟨w1.heap.size,0,none⟩),.pointer (some ⟨w1.heap.size+2,0,none⟩)]:=⟨_,rfl⟩
           have hfp:SF (cx.at (qe tbl) l') ⟨q05 σ2.t t .any,σ2.m⟩ p1 w2 (a1.put (some t) V):=hfk.put (t:=t) (by rw[hz1];exact htz) trivial
           have hmain:post.wp uA (bodyPostD uA fn R) {a1.put (some t) V with defers:={target:=.fn (.func 82) #[.pointer (some ⟨w1.heap.size+1,0,none⟩),.pointer (some ⟨w1.heap.size,0,none⟩),.pointer (some ⟨w1.heap.size+2,0,none⟩)],args:= #[]}::(a1.put (some t) V).defers} w2:=by
            refine(wpIn_wide (n:=0)).1 ?_
            refine qo5 none 0 (c:=cx) (S0:=pinned p1) (w0:=w2) (d:=[{target:=.fn (.func 82) #[.pointer (some ⟨w1.heap.size+1,0,none⟩),.pointer (some ⟨w1.heap.size,0,none⟩),.pointer (some ⟨w1.heap.size+2,0,none⟩)],args:= #[]}]) (z:=fn.ntmps) htb (by rw[hcF];exact hfm) post (by rw[hlo];exact hgo2) hl' hbs3.anew (SF.mk (fun t x hx=>hfp.t t x hx) (fun k e he=>hfp.m k e he)) (by show _::a1.defers=_;rw[hda1]) (by simp only[Act.put,kH];exact hz1) (q60 hnp) (qln hnp) fun n2 r σ3 l2 B2 p2 w3 a3 hl2 hpre2 _ hgo3 hb4 hf4 hd4 hz4=>?_
            have hend:(qik ct fn j ks te es.x n2 .ret σ3).go (qe tbl) (fun o=>o=outs) l2 B2→Leaves uA fn a3.tmps R a3.defers .returning w3:=fun hgo3=>by
             simp only[qik] at hgo3
             split at hgo3
             ·rename_i ke' σ4 hfree
              split at hgo3
              ·rename_i es' ee' hes' hee'
               split at hgo3
               ·rename_i hok3
                simp only[gnB] at hok3
                have h31:=hok3.1
                have h32:=hok3.2.1
                have h33:y7 (es'.own.map (·.2)++es'.dep) (ks * 16)=false:=by simpa using hok3.2.2.1
                have h34:=hok3.2.2.2
                obtain⟨⟨hsay,-⟩,hgo4⟩:=hgo3
                obtain⟨hf5,ge',hge',hsn⟩:=z7f hfree hf4
                have hsn:cx.snap (VB+te)=.pointer (some ⟨ge',0,none⟩):=hsn
                rw[hct] at hsn
                injection hsn with hsn
                injection hsn with hsn
                injection hsn with hsn
                subst hsn
                obtain⟨g3,hg3,hat3⟩:=z0c h34 hf5
                have hat3:cx.At ks g3:=hat3
                rw[hcAt] at hat3
                have hat3:=hat3 (.inl hks)
                rw[hpg] at hat3
                injection hat3 with hat3
                subst hat3
                have fr:∀b,w1.heap.size≤b→q7j p1 b:=fun b hb x hx=>by
                 have:=hb3.bd x b hx
                 omega
                have k2:=(hb4.stays (b:=w1.heap.size) (by omega) (fr _ (by omega))).1.trans hh2
                have k3:=(hb4.stays (b:=w1.heap.size+1) (by omega) (fr _ (by omega))).1.trans hh3
                have k5:=(hb4.stays (b:=w1.heap.size+2) (by omega) (fr _ (by omega))).1.trans hh5
                have ew:es.x.ev (evl (qe tbl) l2)=.a [.r r0,.r r1,.r r2,.r r3,.i x4,.i x5]:=by
                 refine Eq.trans (X.ev_upto (n:=n') (e:=evl (qe tbl) l2) (e':=evl (qe tbl) l') (fun k hk=>?_) rfl es.x hup) eD
                 show l2.getD k .u=l'.getD k .u
                 rw[←hpre2,gnG,gnG,kI hk]
                have hcal:=z8d (nn:=0) (c:=cx) (w0:=w2) (S0:=pinned p1) (u:=.returning) hkj hb4 hf5 hes' hee' ((Ty.beq_iff _ _).1 h31) ((Ty.beq_iff _ _).1 h32) h33 hg3 hge' hsay k3 k2 k5 (by rw[ew];exact⟨rfl,rfl,rfl,rfl⟩) q4 ⟨by omega,by omega,by omega⟩
                rw[hd4]
                refine leaves_cons (by simp) (f:=82) (args:= #[.pointer (some ⟨w1.heap.size+1,0,none⟩),.pointer (some ⟨w1.heap.size,0,none⟩),.pointer (some ⟨w1.heap.size+2,0,none⟩)]) (by simp[invoke,qgr]) (z26 (n:=0) (hcal.mono ?_))
                rintro e' u' w4⟨rfl,rfl,hb5,hf6⟩
                exact hfin (c:=cx) hcA hcF hcAt hcs (hbs3.comp hb5) hf6 hgo4
               ·exact(show False from hgo3).elim
              ·exact(show False from hgo3).elim
             ·exact(show False from hgo3).elim
            cases r with
            |exit i=>exact(show False from hgo3).elim
            |ret=>exact hend hgo3
            |normal=>exact hend hgo3
           have hevt:(a1.put (some t) V).eval (.tmp t)=V:=by
            show(a1.tmps.setIfInBounds t V).getD t undef=V
            rw[uL,uD (by omega)]
            rfl
           obtain⟨hgd,hdw⟩:=zba (a:=a1.put (some t) V) (w:=w2) (K:=wpOps uA [o1,ck,df].toArray (Exit.then (post.wp uA (bodyPostD uA fn R)) (bodyPostD uA fn R)) []) (Q:=Exit.then (post.wp uA (bodyPostD uA fn R)) (bodyPostD uA fn R)) hdt (hevt.trans hV) hmain
           have hw1:Region.wanted ck (yielded ([o1,ck,df].toArray) a1.tmps)=true:=by simp[Region.wanted,hck2]
           have hw2':Region.wanted df (yielded ([o1,ck,df].toArray) (a1.put (some t) V).tmps)=true:=by simp[Region.wanted,hgd]
           show wpOps uA [o1,ck,df].toArray _ [1,2] a1 w1
           simp only[wpOps,uP,kJ,uO]
           rw[if_pos hw1]
           refine .inl ?_
           have hrun:(execOp a1.eval ck).run uA w1=.ok (.enter 43 #[.pointer (some ⟨gs,0,none⟩),.pointer (some ⟨ge,0,none⟩)]) w1:=by
            have hen:=qwq #[.pointer (some ⟨gs,0,none⟩),.pointer (some ⟨ge,0,none⟩)] w1
            have hvx:a1.eval x1=.pointer (some ⟨gs,0,none⟩):=hvx
            generalize a1.eval=r at *
            simp[execOp,hck3,resolve,Deferred.ofValue,hvy,hvx,hve,invoke,hen]
           unfold Oper.wp
           rw[hrun]
           show Calls uA 43 _ w1 _
           refine(z6c w1 gs ge T hh).mono ?_
           rintro e w2'⟨rfl,rfl⟩
           show(if Region.wanted df (yielded ([o1,ck,df].toArray) (a1.put ck.dst _).tmps)=true then _ else _)
           rw[hck1,←hV,←hw2,if_pos hw2']
           exact .inl hdw
         ·exact hgo'.elim
        ·exact hgo'.elim
       ·exact hgo'.elim
      ·exact hgo'.elim
     ·exact hgo'.elim
    ·exact hgo'.elim
   ·exact(show False from hgo').elim
 ·exact h.elim
theorem zex{rs:List ResultVar}{n:Nat}{r:ResD}{S:Nat→List D→Option (List D)}{R R':List D→Prop}{l:List D}{B B':Nat→List D→Prop}(h:(qdg ct rs n r σ).go S R l B)(hR:∀o,R o→R' o):(qdg ct rs n r σ).go S R' l B':=by
 cases r with
 |exit i=>exact h.elim
 |normal=>
  simp only[qdg] at h⊢
  split at h
  ·exact hR _ h
  ·exact h.elim
 |ret=>
  simp only[qdg] at h⊢
  split at h
  ·exact hR _ h
  ·exact h.elim
variable{S0:Nat→Prop}
theorem Bs.fr{A:Nat→Prop}{F F':Flr}{w0 w:World}(h:Bs A F w0 S0 p w)(h1:F'.fl=F.fl)(h2:F'.mx=F.mx)(h3:∀b,w0.heap.size≤b→F'.fr b):Bs A F' w0 S0 p w:=⟨h.inj,h.bd,h.but,h.pin,fun b hb=>⟨(h.new b hb).1,h3 b hb⟩,h.pa,h.obj,by
 intro k hk
 rw[h1] at hk⊢
 rw[h2]
 exact h.flo k hk⟩
variable{kill:List Nat}{σk:St}
theorem qls{c:Cx}{p':qi}{w' w0:World}{a':Act}{σ':St}{ts ms:List Item}{n n':Nat}{R:List D→Prop}{l l':List D}{B':Nat→List D→Prop}(hgo:(qqv ts ms kill σk n' .normal σ').go (qe tbl) R l' B')(hpre:l'.take n=l)(hl:l.length=n)(hb':Bs c.A c.F w0 S0 p' w')(hf':SF (c.at (qe tbl) l') σ' p' w' a'):
  ∃st p2,R st∧st.length=ts.length+ms.length∧Bs c.A c.F w0 S0 p2 w'∧SF (c.at (qe tbl) (l++st)) (q3l ts ms n (q2t ts ms kill n σk)) p2 w' a':=by
 simp only[qqv] at hgo
 split at hgo
 ·rename_i σc va vb hcv
  split at hgo
  ·rename_i hcov
   obtain⟨p2,hb2,hf2,h1,h2⟩:=zc6 (c:=c) hcv hcov hb' hf'
   obtain⟨q1,q2⟩:=z6m hcv
   have hR:R (X.evs (evl (qe tbl) l') (va++vb)):=hgo
   rw[qdr] at hR
   have hnl:n≤l'.length:=by
    have:=congrArg vM hpre
    simp at this
    omega
   refine⟨_,p2,hR,by simp[qgw,q1,q2],hb2,?_⟩
   refine qs8 (c:=c.at (qe tbl) l') (c':=c.at (qe tbl) (l++_)) rfl rfl ⟨rfl,rfl,rfl⟩ (fun k hk=>?_) (fun i hi=>?_) (qkd hf2) h1 h2
   ·show l'.getD k .u=(l++_).getD k .u
    simp only[gnG]
    rw[uG (by omega),←hpre,kI hk]
   ·show(l++_).getD (n+i) .u=_
    simp only[gnG]
    rw[uN (by omega)]
    congr 2
    omega
  ·exact hgo.elim
 ·exact hgo.2.elim
def toN(ts ms:List Item)(kill:List Nat)(σk:St):Nat→ResD→St→Tree:=fun n r σ=>match r with
 |.normal=>qqv ts ms kill σk n .normal σ
 |_=>.bad 1
variable{ann:Ann}
theorem qcf{c:Cx}{w w0:World}{d:List Deferred}{z:Nat}(ro:Option Nat)(nn:Nat)(htb:q0r tbl)(hfm:∀te,c.F.mx te≤flM tbl te)(hnp:qa3 tbl=true){R:List D→Prop}{K:Act→World→Prop}(xs:List Code){n:Nat}{ts ms:List Item}{l:List D}{B:Nat→List D→Prop}
  (h:(q6o uA tbl ann c.lo z xs n σ (toN ts ms kill σk)).go (qe tbl) R l B)(hl:l.length=n)(hb:Bs c.A c.F w0 S0 p w)(hf:SF (c.at (qe tbl) l) σ p w a)(hd:a.defers=d)(hz:a.tmps.size=z)
  (hk:∀st p' w' a',R st→st.length=ts.length+ms.length→Bs c.A c.F w0 S0 p' w'→SF (c.at (qe tbl) (l++st)) (q3l ts ms n (q2t ts ms kill n σk)) p' w' a'→a'.defers=d→a'.tmps.size=z→K a' w'):qby (FR ro) nn uA Q xs K a w:=by
 refine qbd ro nn htb hfm hnp xs h hl hb hf hd hz fun n' r σ' l' B' p' w' a' hl' hpre hgo hb' hf' hd' hz'=>?_
 cases r with
 |ret=>exact hgo.elim
 |exit i=>exact hgo.elim
 |normal=>
  obtain⟨st,p2,hR,hst,hb2,hf2⟩:=qls (c:=c) (n':=n') hgo hpre hl hb' hf'
  exact hk st p2 w' a' hR hst hb2 hf2 hd' hz'
variable{g:List D→Option (List D)}
set_option maxHeartbeats 1000000 in
theorem zdw(S:Nat→List D→Option (List D))(fn:Func)(cd:Code)(hf:uA.funcs[ct.f]? =some fn)(hb:fn.body=some cd)
  (hen:∀args w,(callFunc ct.f args).run uA w=.ok (.enter ct.f args) w)(hsz:ct.ar.length≤fn.ntmps)
  (h:∀ds outs,WfA ct.ars ds→g ds=some outs→∀(c:Cx)(p:qi)(w:World)(a:Act)(Q:Exit→Act→World→Prop),c.lo=ct.ar.length→(∀te,c.F.mx te=0)→(∀b,c.F.fr b→w.heap.size≤b)→ds.length=q7o ct.ars→Bs c.A c.F w (pinned p) p w→SF (c.at S ds) (qt5 ct) p w a→a.defers=[]→a.tmps.size=fn.ntmps→
   (∀n' r σ' l' B' p' w' a'(c2:Cx),l'.length=n'→(qdg ct fn.results.toList n' r σ').go S (fun o=>o=outs) l' B'→c2.lo=c.lo→c2.F=c.F→c2.At=c.At→(∀b,c2.A b→c.A b)→Bs c.A c.F w (pinned p) p' w'→Bs c2.A c2.F w' (pinned p') p' w'→SF (c2.at S l') σ' p' w' a'→Dfs c2.A w.heap.size [] w' a'.defers→a'.tmps.size=fn.ntmps→Q r.exit' a' w')→
   cd.wpIn (FR none) 5 uA Q a w)(hmr:(ct.all.all fun e=>ztb e.2)=true:=by rfl)(hkp:ct.kp=[]:=by rfl)(hfl:ct.fl=[]:=by rfl):FOk ct g:=by
 refine⟨hen,fun A F p w vs us ds outs hg hfl0 hfo hpre hvl hargs=>callsIn_wide.1 (callsIn_of_wp_marks (F:=FR none) (n:=5) hf hb trivial ?_),fun h=>absurd hkp h⟩
 obtain⟨hwf,hdl,-⟩:=hargs.wf
 rw[all_map] at hwf hdl
 have hfz:=hfl0.zero hfl
 let c:Cx:=⟨evl S ds,A,⟨F.fl,F.mx,fun b=>w.heap.size≤b⟩,ct.ar.length,fun k g=>(k<ct.ar.length∨VB≤k)→p (k * 16)=some g,fun k g hk h2 h=>absurd h (by omega),fun q=>(vs++us).getD q undef⟩
 have hb0:Bs c.A c.F w (pinned p) p w:=⟨hpre.inj,hpre.bd,But.refl _ _,fun x b hx=>.inl ⟨x,hx⟩,fun b hb=>⟨(hpre.new b hb).1,hb⟩,hpre.pa,hpre.obj,hfo⟩
 have hsf:SF (c.at S ds) (qt5 ct) p w {tmps:=vs.toArray++uH (fn.ntmps - vs.toArray.size) undef,defers:=[]}:=by
  refine⟨fun t x hx=>?_,qs1 (c:=c.at S ds) (A:=A) rfl (fun k=>rfl) hargs fun e he=>kN.1 he⟩
  obtain⟨h1,h2⟩:=qs7 (c:=c.at S ds) (A:=A) (n0:=ct.ar.length) rfl rfl rfl hargs (fun k=>rfl) _ _ t x hx
  have hlt:t<vs.length:=by omega
  refine⟨(vs++us).getD t undef,?_,h2⟩
  show(vs.toArray++_)[t]? =_
  rw[uF (by simpa using hlt),gnG,uG hlt]
  simp[gnK hlt]
 refine h ds outs hwf hg c p w _ _ rfl hfz (fun b hb=>hb) hdl hb0 hsf rfl (by simp;omega) fun n' r σ' l' B' p' w' a' c2 hl' hgo' hlo2 hF2 hT2 hA2 hb' hbn hf' hd' hz'=>?_
 obtain⟨Ds,hds,hnd,hDs⟩:=hd'
 have hds:a'.defers=Ds.map qx0:=by rw[hds];simp
 have hst:=qiy hbn.pa Ds w' fun D hD=>(hDs D hD).2.2
 have hbF:=qt7 (F:=c.F) (fun te=>hfz te) hbn.pa Ds w' hb' fun D hD=>⟨(hDs D hD).1,(hDs D hD).2.2⟩
 have hfF:SF (c2.at S l') σ' p' (q1v w' Ds) a':=SF.same hst hf'
 have hbnF:Bs c2.A c2.F (q1v w' Ds) (pinned p') p' (q1v w' Ds):=⟨hbF.inj,hbF.bd,But.refl _ _,fun x b hx=>.inl ⟨x,hx⟩,fun b hb=>hbn.new b (uV hst.size hb),hbn.pa,hbF.obj,by rw[hF2];exact hbF.flo.anew⟩
 have fin':∀xs,fin ct fn.results.toList σ'=some xs→X.evs (evl S l') xs=outs→∃v,(results fn a'.tmps).run uA (q1v w' Ds)=.ok v (q1v w' Ds)∧((∃T,ct.pn=some T∧outs=[.u]∧(Ending.returned v)=.panicked (qbs T)∧But (pinned p) w (q1v w' Ds))∨∃rs p2,(Ending.returned v)=.returned (qi5 rs)∧Bs A F w (pinned p) p2 (q1v w' Ds)∧qav A p2 (q1v w' Ds) ct.rs ct.ar.length rs (outs.take ct.rs.length)∧q45 A p p2 (q1v w' Ds) ct.all (outs.drop ct.rs.length)):=by
  intro xs hfin hout
  unfold fin at hfin
  simp only at hfin
  split at hfin
  ·rename_i hok
   simp only[gnB] at hok
   split at hfin
   ·rename_i xa xb hxa hxb
    injection hfin with hfin
    subst hfin
    have hb1:=hbnF.un (fun y=> !y7 ((qgc σ' (fn.results.toList.zip ct.rs) ct.ar.length++qcy σ' ct.all).map (·.1)++(qa6 ct.all++q5s σ' fn.results.toList)) y)
    have hf1:=SF.un (c:=c2.at S l') (q:=fun y=> !y7 ((qgc σ' (fn.results.toList.zip ct.rs) ct.ar.length++qcy σ' ct.all).map (·.1)++(qa6 ct.all++q5s σ' fn.results.toList)) y) hbnF.inj hbnF.pa hfF
    obtain⟨p2,hb2,hf2⟩:=qma (c:=c2.at S l') hok.1 hb1 hf1
    obtain⟨l,h1,h2,h3⟩:=qrr hf2 (gnN hok.2) hxa
    have h4:=qrt (p0:=p) (n0:=ct.ar.length) hf2 hT2 (fun e he=>z4h he) (fun i t hm=>(uE.1 hmr _ hm|>fun h=>by cases h)) hxb
    have hev:X.evs (evl S l') xa++X.evs (evl S l') xb=outs:=by rw[←qdr];exact hout
    have hla:(X.evs (evl S l') xa).length=ct.rs.length:=by rw[qgw,h3]
    refine⟨_,qgm h1,.inr ⟨l,p2,rfl,(hbF.up (show Bs c2.A c.F _ _ _ _ from hF2▸hb2) hA2).fr rfl rfl (fun b hb=>(hpre.new b hb).2),qav.chA (A:=c2.A) (fun b _ h=>hA2 b h) ?_,q45.chA (A:=c2.A) (fun b _ h=>hA2 b h) ?_⟩⟩
    ·rw[←hev,kC (by omega),←hla,kW]
     exact h2
    ·rw[←hev,←hla,vC]
     exact h4
   ·cases hfin
  ·cases hfin
 have last:∀xs,fin ct fn.results.toList σ'=some xs→X.evs (evl S l') xs=outs→LeavesInM (FR none) 5 uA fn a'.tmps (fun e w'=>(∃T,ct.pn=some T∧outs=[.u]∧e=.panicked (qbs T)∧But (pinned p) w w')∨∃rs p',e=.returned (qi5 rs)∧Bs A F w (pinned p) p' w'∧qav A p' w' ct.rs ct.ar.length rs (outs.take ct.rs.length)∧q45 A p p' w' ct.all (outs.drop ct.rs.length)) a'.defers .returning w':=fun xs hx ho=>by
  rw[hds]
  exact z01 Ds w' hnd (fun D hD=>(hDs D hD).2.1) (fin' xs hx ho)
 cases r with
 |exit i=>exact hgo'.elim
 | normal =>
  simp only[qdg] at hgo'
  split at hgo'
  ·rename_i xs hx
   exact last xs hx hgo'
  ·exact hgo'.elim
 | ret =>
  simp only[qdg] at hgo'
  split at hgo'
  ·rename_i xs hx
   exact last xs hx hgo'
  ·exact hgo'.elim
theorem qun{F:Fence}{n:Nat}{fn:Func}{R:Ending→World→Prop}{rest:List Deferred}:∀(Ds:List Nat)(w:World),Ds.Nodup→(∀D∈Ds,w.heap[D]? =some (.deferred (some [])))→LeavesInM F n uA fn tmps R rest .returning (q1v w Ds)→LeavesInM F n uA fn tmps R (Ds.map qx0++rest) .returning w
 |[],w,_,_,h=>h
 |D::Ds,w,hn,hd,h=>by
  obtain⟨h1,h2⟩:=List.nodup_cons.1 hn
  exact⟨by simp,.inl ⟨D,_,rfl,run_takeDeferred (hd D uY),qun Ds _ h2 (fun D' hD'=>(uC (fun e=>h1 (by rw[←e];exact hD'))).trans (hd D' (uW _ hD'))) h⟩⟩
theorem qux{n b:Nat}(hb:b<n):∀(Ds:List Nat)(w:World),(∀D∈Ds,n≤D)→(q1v w Ds).heap[b]? =w.heap[b]?
 |[],w,_=>rfl
 |D::Ds,w,h=>by
  have h1:=h D uY
  exact(qux hb Ds (w.putObj D (.deferred none)) fun D' hD'=>h D' (uW _ hD')).trans (uC (by omega))
theorem zqa{c c':Cx}{w:World}(hA:∀b,b<w.heap.size→c.A b→c'.A b)(hv:c.v=c'.v)(hT:c.At=c'.At)(hF:c.F=c'.F)(hp:zg5 σ.t=true)(h:SF c σ p w a):SF c' σ p w a:=by
 refine⟨fun t x hx=>?_,fun k e he=>(h.m k e he).chA hA hv⟩
 obtain⟨v,h1,h2⟩:=h.t t x hx
 exact⟨v,h1,AV.chA hA hv hT hF x v (uE.1 hp _ (qx hx)) h2⟩
def zsz(P:Program)(tbl:Tbl)(ct:Ct)(fn:Func)(ops:List Oper)(K:Nat→St→Nat→Nat→X→Tree)(n:Nat)(σ:St):Tree:=match ops with
 | [o1, ck, df] => (match zlo df, z4b ck with
  | some t, some (t', y, x1, te) => if kL t t' && (o1.guard.isNone && (q9b ct.ar.length fn.ntmps o1 && (q9b ct.ar.length fn.ntmps ck && !Nat.beq t te))) then (match stepG P tbl (dsts [o1, ck, df]) σ o1 with
   | some (N, σ1) => (match opd σ1 [] y, opd σ1 [] x1, zdi te σ1 with
    |some (.fn f []),some (.ref ks [] 0 ty),some (_,σ2)=>(match lkA σ1.m ks with
     |some es=>if kL f 43&&(Ty.beq ty qb&&(Ty.beq es.t qb&&(vO ks ct.ar.length&&(X.upto n es.x&&zg5 σ1.t)))) then z6h N (K n ⟨q05 σ2.t t .any,σ2.m⟩ ks te es.x) else .bad 9400000
     |none=>.bad 9500000)
    |_,_,_=>.bad 9600000)
   |none=>.bad 9700000) else .bad 9800000
  |_,_=>.bad 9900000)
 |_=>.bad 9950000
def zs7(P:Program)(tbl:Tbl)(ct:Ct)(fn:Func)(ops:List Oper)(K:Nat→St→Nat→Nat→X→Tree):Nat→ResD→St→Tree:=fun n r σ=>match r with
 |.normal=>zsz P tbl ct fn ops K n σ
 |_=>.bad 1
set_option maxHeartbeats 2000000 in
theorem zey(fn:Func)(j:Nat)(cd:Code)(htb:q0r tbl)(hkj:∀l,(qe tbl j) l=q5k l)(hf:uA.funcs[ct.f]? =some fn)(hb:fn.body=some cd)
  (hen:∀args w,(callFunc ct.f args).run uA w=.ok (.enter ct.f args) w)(hsz:ct.ar.length≤fn.ntmps)(hnp:qa3 tbl=true){xs:List Code}{id:Nat}{ops:List Oper}{post:Code}(hcut:cd=seqs xs (.seq (.region id ops.toArray false) post))(K:Nat→St→Nat→Nat→X→Tree)
  (h:∀ds outs,WfA ct.ars ds→g ds=some outs→∃(R:List D→Prop)(B0:Nat→List D→Prop),(q6o uA tbl ann ct.ar.length fn.ntmps xs (q7o ct.ars) (qt5 ct) (zs7 uA tbl ct fn ops K)).go (qe tbl) R ds B0∧
   ∀(c:Cx)(p:qi)(w:World)(a:Act)(S0:Nat→Prop)(Q:Exit→Act→World→Prop)(l:List D)(n:Nat)(σ:St)(ks te:Nat)(was:X)(B:Nat→List D→Prop)(dK:Deferred),(K n σ ks te was).go (qe tbl) R l B→l.length=n→l.take (q7o ct.ars)=ds→X.upto n was=true→c.lo=ct.ar.length→(∀te,c.F.mx te=0)→(∀b,pinned p b→S0 b)→(∀b,c.F.fr b→c.A b→S0 b)→
    Bs c.A c.F w S0 p w→SF (c.at (qe tbl) l) σ p w a→a.defers=[dK]→a.tmps.size=fn.ntmps→
    (∀n' r σ' l' B' p' w' a'(c2:Cx),l'.length=n'→(qik ct fn j ks te was n' r σ').go (qe tbl) (fun o=>o=outs) l' B'→was.ev (evl (qe tbl) l')=was.ev (evl (qe tbl) l)→c2.lo=c.lo→c2.F=c.F→c2.At=c.At→c2.snap (VB+te)=c.snap (VB+te)→(∀b,c2.A b→c.A b)→Bs c.A c.F w S0 p' w'→Bs c2.A c2.F w' (pinned p') p' w'→SF (c2.at (qe tbl) l') σ' p' w' a'→Dfs c2.A w.heap.size [dK] w' a'.defers→a'.tmps.size=fn.ntmps→Q r.exit' a' w')→
    post.wpIn (FR none) 5 uA Q a w)
  (hmr:(ct.all.all fun e=>ztb e.2)=true:=by rfl)(hkp:ct.kp=[]:=by rfl)(hfl:ct.fl=[]:=by rfl):FOk ct g:=by
 refine⟨hen,fun A F p w vs us ds outs hg hfl0 hfo hpre hvl hargs=>callsIn_wide.1 (callsIn_of_wp_marks (F:=FR none) (n:=5) hf hb trivial ?_),fun h=>absurd hkp h⟩
 obtain⟨hwf,hdl,-⟩:=hargs.wf
 rw[all_map] at hwf hdl
 have hfz:=hfl0.zero hfl
 generalize hR0:(fun(e:Ending)(w':World)=>(∃T,ct.pn=some T∧outs=[.u]∧e=.panicked (qbs T)∧But (pinned p) w w')∨∃rs p',e=.returned (qi5 rs)∧Bs A F w (pinned p) p' w'∧qav A p' w' ct.rs ct.ar.length rs (outs.take ct.rs.length)∧q45 A p p' w' ct.all (outs.drop ct.rs.length))=RR
 let c:Cx:=⟨evl (qe tbl) ds,A,⟨F.fl,F.mx,fun b=>w.heap.size≤b⟩,ct.ar.length,fun k g=>(k<ct.ar.length∨VB≤k)→p (k * 16)=some g,fun k g hk h2 h=>absurd h (by omega),fun q=>(vs++us).getD q undef⟩
 have hb0:Bs c.A c.F w (pinned p) p w:=⟨hpre.inj,hpre.bd,But.refl _ _,fun x b hx=>.inl ⟨x,hx⟩,fun b hb=>⟨(hpre.new b hb).1,hb⟩,hpre.pa,hpre.obj,hfo⟩
 have hsf:SF (c.at (qe tbl) ds) (qt5 ct) p w {tmps:=vs.toArray++uH (fn.ntmps - vs.toArray.size) undef,defers:=[]}:=by
  refine⟨fun t x hx=>?_,qs1 (c:=c.at (qe tbl) ds) (A:=A) rfl (fun k=>rfl) hargs fun e he=>kN.1 he⟩
  obtain⟨h1,h2⟩:=qs7 (c:=c.at (qe tbl) ds) (A:=A) (n0:=ct.ar.length) rfl rfl rfl hargs (fun k=>rfl) _ _ t x hx
  have hlt:t<vs.length:=by omega
  refine⟨(vs++us).getD t undef,?_,h2⟩
  show(vs.toArray++_)[t]? =_
  rw[uF (by simpa using hlt),gnG,uG hlt]
  simp[gnK hlt]
 obtain⟨R,B0,hpt,huser⟩:=h ds outs hwf hg
 have hfm:∀te,c.F.mx te≤flM tbl te:=fun te=>by rw[show c.F.mx te=0 from hfz te];exact uT _
 rw[hcut]
 refine q2p xs ?_
 refine qbd (c:=c) (S0:=pinned p) (w0:=w) (d:=[]) (z:=fn.ntmps) none 5 htb hfm hnp xs hpt hdl hb0 hsf rfl (by simp;omega) fun n' r σ' l' B' p' w' a' hl' hpre1 hgo' hb' hf' hd' hz'=>?_
 cases r with
 |exit i=>exact hgo'.elim
 |ret=>exact hgo'.elim
 | normal =>
  show(Code.seq (.region id ops.toArray false) post).wpIn (FR none) 5 uA _ a' w'
  rcases ops with _|⟨o1,_|⟨ck,_|⟨df,_|⟨x,l⟩⟩⟩⟩
  ·exact(show False from hgo').elim
  ·exact(show False from hgo').elim
  ·exact(show False from hgo').elim
  ·simp only[zs7,zsz] at hgo'
   split at hgo'
   ·rename_i t t' y x1 te hdt hck
    split at hgo'
    ·rename_i hok
     simp only[gnB,kD,kV] at hok
     obtain⟨htt,hg1,hd1,hd2,htte⟩:=hok
     obtain rfl:=gnN htt
     have htte:t≠te:=fun e=>by rw[e,vL] at htte;cases htte
     obtain⟨hck1,hck2,tys,hck3⟩:=z0q hck
     have htz:t<fn.ntmps:=by
      unfold q9b at hd2
      rw[hck1] at hd2
      simp only[gnB,kG] at hd2
      exact hd2.1
     split at hgo'
     ·rename_i N σ1 hst
      split at hgo'
      ·rename_i f ks ty ke σ2 hy hx1 hhold
       split at hgo'
       ·rename_i es hes
        split at hgo'
        ·rename_i hok2
         simp only[gnB,kG] at hok2
         obtain⟨hff,hty,het,hks,hup,hpl⟩:=hok2
         obtain rfl:=gnN hff
         have het:=(Ty.beq_iff _ _).1 het
         obtain⟨hN,hgo2⟩:=qwx hgo'
         generalize hQ:bodyPostM (FR none) 5 uA fn RR=Q
         have hQr:∀(r:ResD)(a:Act)(w:World),(∀i,r≠.exit i)→LeavesInM (FR none) 5 uA fn a.tmps RR a.defers .returning w→Q r.exit' a w:=fun r a w hr h=>by
          rw[←hQ]
          cases r with
          |exit i=>exact absurd rfl (hr i)
          |ret=>exact h
          |normal=>exact h
         refine wpIn_seq ((wpIn_wide (n:=5)).2 (wp_region ?_))
         have hw0:Region.wanted o1 (yielded ([o1,ck,df].toArray) a'.tmps)=true:=by simp[Region.wanted,hg1]
         have hstep:=qt1 (c:=c.at (qe tbl) l') (ops:=[o1,ck,df].toArray) (ds:=dsts [o1,ck,df]) (Q:=Exit.then (fun a w=>post.wpIn (FR none) 5 uA Q a w) Q) (K:=wpOps uA [o1,ck,df].toArray (Exit.then (fun a w=>post.wpIn (FR none) 5 uA Q a w) Q) [1,2]) htb ⟨rfl,hfm⟩ rfl hb' hf' hd' hz' hd1 hst hN (q60 hnp) fun a1 w1 hpost=>?_
         ·rw[if_pos hw0] at hstep
          show wpOps uA [o1,ck,df].toArray _ [0,1,2] a' w'
          simp only[wpOps,uP,uO]
          rw[if_pos hw0]
          exact .inl hstep.2
         ·obtain⟨p1,hb1,hf1,hda1,hz1⟩:=hpost
          obtain⟨vy,hvy,hvs⟩:=qp hf1 rfl hy
          have hvs:vy=[]:=hvs
          subst hvs
          obtain⟨gs,hgs,hvx,hat⟩:=qp hf1 rfl hx1
          obtain⟨gs',cs,T,hgs',hh,hT,hcon⟩:=hf1.m ks _ hes
          rw[hgs] at hgs'
          injection hgs' with hgs'
          subst hgs'
          rw[het] at hcon
          obtain⟨r0,r1,r2,r3,A0,A1,A2,A3,k0,k1,k2,k3,x4,x5,eD,ecs,-,q4,-⟩:=qjt hcon
          have ecs:cs= #[.slice A0 r0.length k0,.slice A1 r1.length k1,.slice A2 r2.length k2,.slice A3 r3.length k3,.int .i64 x4,.int .i64 x5]:=by
           obtain⟨cs⟩:=cs
           have ecs:cs=_:=ecs
           rw[ecs]
          subst ecs
          -- what lies in keep's blocks is hidden
          obtain⟨A',hA'⟩:∃A':Nat→Prop,A'=fun b=>A b∧(b<w1.heap.size∨w1.heap.size+3≤b):=⟨_,rfl⟩
          have hAA:∀b,A' b→A b:=fun b h=>by rw[hA'] at h;exact h.1
          have hf1':SF (({c with A:=A'}:Cx).at (qe tbl) l') σ1 p1 w1 a1:=zqa (c:=c.at (qe tbl) l') (fun b hb h=>by show A' b;rw[hA'];exact⟨h,.inl hb⟩) rfl rfl rfl hpl hf1
          obtain⟨hf2,ge,hge,hve⟩:=z8b hhold hf1'
          generalize hcx:({({c with A:=A'}:Cx) with snap:=fun q=>if q=VB+te then a1.eval (.tmp te) else c.snap q}:Cx)=cx
          have hcA:cx.A=A':=by rw[←hcx]
          have hcF:cx.F=c.F:=by rw[←hcx]
          have hcAt:cx.At=c.At:=by rw[←hcx]
          have hct:cx.snap (VB+te)=.pointer (some ⟨ge,0,none⟩):=by
           rw[←hcx,←hve]
           show(if VB+te=VB+te then _ else _)=_
           rw[if_pos rfl]
          have hlo:cx.lo=ct.ar.length:=by rw[←hcx]
          have hf3:SF (cx.at (qe tbl) l') σ2 p1 w1 a1:=by rw[←hcx];exact hf2
          have hpg:p (ks * 16)=some gs:=hat (.inl hks)
          clear hcx
          -- the call of keep
          have hgl:=qr hh
          obtain⟨w2,hw2⟩:∃w2,w2=((w1.alloc (.cells #[.pointer (some ⟨gs,0,none⟩)] 41)).alloc (.cells #[.pointer (some ⟨ge,0,none⟩)] 79)).alloc (.cells #[.slice A0 r0.length k0,.slice A1 r1.length k1,.slice A2 r2.length k2,.slice A3 r3.length k3,.int .i64 x4,.int .i64 x5] 27):=⟨_,rfl⟩
          have hs2:w2.heap.size=w1.heap.size+3:=by rw[hw2];simp
          have hst1:=q4o (A:=cx.A) hb1.bd (.cells #[.pointer (some ⟨gs,0,none⟩)] 41)
          have hbs1:=qae hb1 (.cells #[.pointer (some ⟨gs,0,none⟩)] 41)
          have hst2:=q4o (A:=cx.A) hbs1.bd (.cells #[.pointer (some ⟨ge,0,none⟩)] 79)
          have hbs2:=qae hbs1 (.cells #[.pointer (some ⟨ge,0,none⟩)] 79)
          have hst3:=q4o (A:=cx.A) hbs2.bd (.cells #[.slice A0 r0.length k0,.slice A1 r1.length k1,.slice A2 r2.length k2,.slice A3 r3.length k3,.int .i64 x4,.int .i64 x5] 27)
          have hbs3:=qae hbs2 (.cells #[.slice A0 r0.length k0,.slice A1 r1.length k1,.slice A2 r2.length k2,.slice A3 r3.length k3,.int .i64 x4,.int .i64 x5] 27)
          have hfk:=SF.same (c:=cx.at (qe tbl) l') hst3 (SF.same (c:=cx.at (qe tbl) l') hst2 (SF.same (c:=cx.at (qe tbl) l') hst1 hf3))
          have hh2:w2.heap[w1.heap.size]? =some (.cells #[.pointer (some ⟨gs,0,none⟩)] 41 (0,0)):=by
           rw[hw2]
           exact q30 (q30 (q04 rfl))
          have hh3:w2.heap[w1.heap.size+1]? =some (.cells #[.pointer (some ⟨ge,0,none⟩)] 79 (0,0)):=by
           rw[hw2]
           exact q30 (q04 (by simp))
          have hh5:w2.heap[w1.heap.size+2]? =some (.cells #[.slice A0 r0.length k0,.slice A1 r1.length k1,.slice A2 r2.length k2,.slice A3 r3.length k3,.int .i64 x4,.int .i64 x5] 27 (0,0)):=by
           rw[hw2]
           exact q04 (by simp)
          rw[←hw2] at hbs3 hfk
          obtain⟨V,hV⟩:∃V,V=Value.func (.func 82) #[] #[.pointer (some ⟨w1.heap.size+1,0,none⟩),.pointer (some ⟨w1.heap.size,0,none⟩),.pointer (some ⟨w1.heap.size+2,0,none⟩)]:=⟨_,rfl⟩
          have hfp:SF (cx.at (qe tbl) l') ⟨q05 σ2.t t .any,σ2.m⟩ p1 w2 (a1.put (some t) V):=hfk.put (t:=t) (by rw[hz1];exact htz) trivial
          have hws:=hb1.but.size
          obtain⟨S0,hS0⟩:∃S0:Nat→Prop,S0=fun b=>pinned p1 b∨(w.heap.size≤b∧A' b):=⟨_,rfl⟩
          have hp1:∀x b,p1 x=some b→b<w1.heap.size:=hb1.bd
          have hS0w:∀b,S0 b→pinned p b∨w.heap.size≤b:=fun b h=>by
           rw[hS0] at h
           rcases h with⟨q,hq⟩|h
           ·exact hbs3.pin q b hq
           ·exact .inr h.1
          have hbu:Bs cx.A cx.F w2 S0 p1 w2:=by
           rw[hcA,hcF]
           refine⟨hbs3.inj,hbs3.bd,But.refl _ _,fun x b hx=>.inl (by rw[hS0];exact .inl ⟨x,hx⟩),fun b hb=>⟨by rw[hA'];exact⟨(hbs3.new b (by omega)).1,.inr (by omega)⟩,(hbs3.new b (by omega)).2⟩,fun x b hx=>by rw[hA'];exact⟨hbs3.pa x b hx,.inl (hp1 x b hx)⟩,hbs3.obj,hbs3.flo.anew⟩
          have hnS:∀b,w1.heap.size≤b→b<w1.heap.size+3→¬S0 b:=fun b h1 h2 h=>by
           rw[hS0] at h
           rcases h with⟨q,hq⟩|⟨-,h⟩
           ·have:=hp1 q b hq
            omega
           ·rw[hA'] at h
            omega
          have hmain:post.wpIn (FR none) 5 uA Q {a1.put (some t) V with defers:={target:=.fn (.func 82) #[.pointer (some ⟨w1.heap.size+1,0,none⟩),.pointer (some ⟨w1.heap.size,0,none⟩),.pointer (some ⟨w1.heap.size+2,0,none⟩)],args:= #[]}::(a1.put (some t) V).defers} w2:=by
           refine huser cx p1 w2 _ S0 Q l' n' _ ks te es.x _ _ hgo2 hl' hpre1 hup hlo (by rw[hcF];exact hfz) (fun b h=>by rw[hS0];exact .inl h) (fun b h1 h2=>by rw[hcF] at h1;rw[hcA] at h2;rw[hS0];exact .inr ⟨h1,h2⟩) hbu (SF.mk (fun t x hx=>hfp.t t x hx) (fun k e he=>hfp.m k e he)) (by show _::a1.defers=_;rw[hda1]) (by simp only[Act.put,kH];exact hz1) fun n2 r σ3 l2 B2 p4 w3 a3 c2 hl2 hgo3 hwas hlo2 hF2 hT2 hsn2 hA2 hb4 hbn hf4 hDf hz4=>?_
           have hres:(qik ct fn j ks te es.x n2 .ret σ3).go (qe tbl) (fun o=>o=outs) l2 B2→LeavesInM (FR none) 5 uA fn a3.tmps RR a3.defers .returning w3:=fun hgo3=>by
            simp only[qik] at hgo3
            split at hgo3
            ·rename_i ke' σ4 hfree
             split at hgo3
             ·rename_i es' ee' hes' hee'
              split at hgo3
              ·rename_i hok3
               simp only[gnB] at hok3
               have h31:=hok3.1
               have h32:=hok3.2.1
               have h33:y7 (es'.own.map (·.2)++es'.dep) (ks * 16)=false:=by simpa using hok3.2.2.1
               have h34:=hok3.2.2.2
               obtain⟨⟨hsay,-⟩,hgo4⟩:=hgo3
               obtain⟨hf5,ge',hge',hsn⟩:=z7f hfree hf4
               have hsn:c2.snap (VB+te)=.pointer (some ⟨ge',0,none⟩):=hsn
               rw[hsn2,hct] at hsn
               injection hsn with hsn
               injection hsn with hsn
               injection hsn with hsn
               subst hsn
               obtain⟨g3,hg3,hat3⟩:=z0c h34 hf5
               have hat3:c2.At ks g3:=hat3
               rw[hT2,hcAt] at hat3
               have hat3:=hat3 (.inl hks)
               rw[hpg] at hat3
               injection hat3 with hat3
               subst hat3
               obtain⟨Ds,hds,hnd,hDs⟩:=hDf
               rw[hcA,hcF] at hb4
               have hA2':∀b,c2.A b→A' b:=fun b h=>by rw[←hcA];exact hA2 b h
               have hF2':c2.F=c.F:=hF2.trans hcF
               have hbAll:Bs A c.F w (pinned p) p4 w3:=⟨hb4.inj,hb4.bd,hbs3.but.trans hb4.but fun b hb _=>hS0w b hb,fun q b hq=>by
                rcases hb4.pin q b hq with h|h
                ·exact hS0w b h
                ·exact .inr (by omega),hbs3.new,fun q b hq=>hAA b (hb4.pa q b hq),hb4.obj,Flo.of0 hfz hbs3.flo⟩
               have hst:=qiy hbn.pa Ds w3 fun D hD=>(hDs D hD).2.2
               have hbF:=qt7 (F:=c.F) (fun te=>hfz te) hbn.pa Ds w3 hbAll fun D hD=>⟨by have:=(hDs D hD).1;omega,(hDs D hD).2.2⟩
               have hfF:SF (c2.at (qe tbl) l2) σ4 p4 (q1v w3 Ds) a3:=SF.same hst hf5
               have hbnF:Bs c2.A c2.F (q1v w3 Ds) (pinned p4) p4 (q1v w3 Ds):=⟨hbF.inj,hbF.bd,But.refl _ _,fun x b hx=>.inl ⟨x,hx⟩,fun b hb=>hbn.new b (uV hst.size hb),hbn.pa,hbF.obj,by rw[hF2'];exact hbF.flo.anew⟩
               have hkb:∀b o,w1.heap.size≤b→b<w1.heap.size+3→w2.heap[b]? =some o→(q1v w3 Ds).heap[b]? =some o:=fun b o h1 h2 ho=>((qux (n:=w2.heap.size) (by omega) Ds w3 fun D hD=>(hDs D hD).1).trans (hb4.but.block b (by omega) (hnS b h1 h2))).trans ho
               have ew:es.x.ev (evl (qe tbl) l2)=.a [.r r0,.r r1,.r r2,.r r3,.i x4,.i x5]:=hwas.trans eD
               have hcal:=z8d (nn:=4) (c:=c2) (w0:=q1v w3 Ds) (S0:=pinned p4) (u:=.returning) hkj hbnF hfF hes' hee' ((Ty.beq_iff _ _).1 h31) ((Ty.beq_iff _ _).1 h32) h33 hg3 hge' hsay (hkb _ _ (by omega) (by omega) hh3) (hkb _ _ (by omega) (by omega) hh2) (hkb _ _ (by omega) (by omega) hh5) (by rw[ew];exact⟨rfl,rfl,rfl,rfl⟩) q4 ⟨by omega,by omega,by omega⟩
               rw[hds]
               refine qun Ds w3 hnd (fun D hD=>(hDs D hD).2.1) ?_
               refine⟨by simp,.inr ⟨(fun h=>by cases h),_,_,82,#[.pointer (some ⟨w1.heap.size+1,0,none⟩),.pointer (some ⟨w1.heap.size,0,none⟩),.pointer (some ⟨w1.heap.size+2,0,none⟩)],rfl,by simp[invoke,qgr],fun _ _=>trivial,hcal.mono ?_⟩⟩
               rintro e' u' w4⟨rfl,rfl,hb5,hf6⟩
               show LeavesInM (FR none) 5 uA fn a3.tmps RR [] _ w4
               simp only[qdg] at hgo4
               split at hgo4
               ·rename_i xs hx
                have ho:X.evs (evl (qe tbl) l2) xs=outs:=hgo4
                rw[hF2'] at hb5
                have hb6:Bs A c.F w (pinned p) p4 w4:=hbF.up hb5 fun b h=>hAA b (hA2' b h)
                have hb7:Bs c2.A c2.F w4 (pinned p4) p4 w4:=by rw[hF2'];exact hb5.anew
                unfold fin at hx
                simp only at hx
                split at hx
                ·rename_i hok
                 simp only[gnB] at hok
                 split at hx
                 ·rename_i xa xb hxa hxb
                  injection hx with hx
                  subst hx
                  have hb1:=hb7.un (fun y=> !y7 ((qgc (z2t ks j es' ee'.x es.x σ4) (fn.results.toList.zip ct.rs) ct.ar.length++qcy (z2t ks j es' ee'.x es.x σ4) ct.all).map (·.1)++(qa6 ct.all++q5s (z2t ks j es' ee'.x es.x σ4) fn.results.toList)) y)
                  have hf1:=SF.un (c:=c2.at (qe tbl) l2) (q:=fun y=> !y7 ((qgc (z2t ks j es' ee'.x es.x σ4) (fn.results.toList.zip ct.rs) ct.ar.length++qcy (z2t ks j es' ee'.x es.x σ4) ct.all).map (·.1)++(qa6 ct.all++q5s (z2t ks j es' ee'.x es.x σ4) fn.results.toList)) y) hb7.inj hb7.pa hf6
                  obtain⟨p2,hb2,hf2⟩:=qma (c:=c2.at (qe tbl) l2) hok.1 hb1 hf1
                  obtain⟨l,h1,h2,h3⟩:=qrr hf2 (gnN hok.2) hxa
                  have h4:=qrt (p0:=p) (n0:=ct.ar.length) hf2 (hT2.trans hcAt) (fun e he=>z4h he) (fun i t hm=>(uE.1 hmr _ hm|>fun h=>by cases h)) hxb
                  have hev:X.evs (evl (qe tbl) l2) xa++X.evs (evl (qe tbl) l2) xb=outs:=by rw[←qdr];exact ho
                  have hla:(X.evs (evl (qe tbl) l2) xa).length=ct.rs.length:=by rw[qgw,h3]
                  refine⟨_,qgm h1,?_⟩
                  rw[←hR0]
                  refine .inr ⟨l,p2,rfl,(hb6.up (show Bs c2.A c.F _ _ _ _ from hF2'▸hb2) fun b h=>hAA b (hA2' b h)).fr rfl rfl (fun b hb=>(hpre.new b hb).2),qav.chA (A:=c2.A) (fun b _ h=>hAA b (hA2' b h)) ?_,q45.chA (A:=c2.A) (fun b _ h=>hAA b (hA2' b h)) ?_⟩
                  ·rw[←hev,kC (by omega),←hla,kW]
                   exact h2
                  ·rw[←hev,←hla,vC]
                   exact h4
                 ·cases hx
                ·cases hx
               ·exact hgo4.elim
              ·exact(show False from hgo3).elim
             ·exact(show False from hgo3).elim
            ·exact(show False from hgo3).elim
           cases r with
           |exit i=>exact(show False from hgo3).elim
           |ret=>exact hQr .ret _ _ (fun i h=>by cases h) (hres hgo3)
           |normal=>exact hQr .normal _ _ (fun i h=>by cases h) (hres hgo3)
          have hevt:(a1.put (some t) V).eval (.tmp t)=V:=by
           show(a1.tmps.setIfInBounds t V).getD t undef=V
           rw[uL,uD (by omega)]
           rfl
          obtain⟨hgd,hdw⟩:=zba (a:=a1.put (some t) V) (w:=w2) (K:=wpOps uA [o1,ck,df].toArray (Exit.then (fun a w=>post.wpIn (FR none) 5 uA Q a w) Q) []) (Q:=Exit.then (fun a w=>post.wpIn (FR none) 5 uA Q a w) Q) hdt (hevt.trans hV) hmain
          have hw1:Region.wanted ck (yielded ([o1,ck,df].toArray) a1.tmps)=true:=by simp[Region.wanted,hck2]
          have hw2':Region.wanted df (yielded ([o1,ck,df].toArray) (a1.put (some t) V).tmps)=true:=by simp[Region.wanted,hgd]
          show wpOps uA [o1,ck,df].toArray _ [1,2] a1 w1
          simp only[wpOps,uP,kJ,uO]
          rw[if_pos hw1]
          refine .inl ?_
          have hrun:(execOp a1.eval ck).run uA w1=.ok (.enter 43 #[.pointer (some ⟨gs,0,none⟩),.pointer (some ⟨ge,0,none⟩)]) w1:=by
           have hen:=qwq #[.pointer (some ⟨gs,0,none⟩),.pointer (some ⟨ge,0,none⟩)] w1
           have hvx:a1.eval x1=.pointer (some ⟨gs,0,none⟩):=hvx
           generalize a1.eval=r at *
           simp[execOp,hck3,resolve,Deferred.ofValue,hvy,hvx,hve,invoke,hen]
          unfold Oper.wp
          rw[hrun]
          show Calls uA 43 _ w1 _
          refine(z6c w1 gs ge T hh).mono ?_
          rintro e w2'⟨rfl,rfl⟩
          show(if Region.wanted df (yielded ([o1,ck,df].toArray) (a1.put ck.dst _).tmps)=true then _ else _)
          rw[hck1,←hV,←hw2,if_pos hw2']
          exact .inl hdw
        ·exact hgo'.elim
       ·exact hgo'.elim
      ·exact hgo'.elim
     ·exact hgo'.elim
    ·exact hgo'.elim
   ·exact hgo'.elim
  ·exact(show False from hgo').elim
def zp7:List D→Option (List D)
 |[r,a,b]=>if 0≤a.int∧a.int≤1000∧b.int≤a.int+1 then some [] else none
 |_=>none
theorem zn7:FOk qv zp7:=q5f (FOk.none q6a) fun ds outs hw hg=>by
 obtain⟨d,r,rfl,hd,e,r',rfl,he,f,r2,rfl,hf,rfl⟩:=hw
 obtain⟨a,rfl,ha⟩:=wfI he
 obtain⟨b,rfl,hb⟩:=wfI hf
 have hg':(if 0≤a∧a≤1000∧b≤a+1 then some ([]:List D) else none)=some outs:=hg
 split at hg'
 case isFalse=>cases hg'
 rename_i hc
 obtain⟨h0,h1,h2⟩:=hc
 obtain rfl:=gnI hg'
 simp only[jy,gnZ,gnT]
 refine⟨⟨by omega,by omega⟩,?_⟩
 rw[j3]
 refine⟨fun st=>st=[.i (a+1),d],fun st=>0,by simp only[X.evs,gnZ,gnT],?_⟩
 rintro st - rfl
 rw[zd]
 refine⟨fun hlt=>?_,fun hlt=>?_⟩
 ·simp only[gnZ,gnT] at hlt
  omega
 ·simp only[gnZ,gnT]
def zvd:List D→Option (List D)
 |[r,n]=>if 0≤n.int∧n.int≤1 then some [] else none
 |_=>none
theorem zsb:FOk zk zvd:=q8u (FOk.none q6a) zn7 fun ds outs hw hg=>by
 obtain⟨d,r,rfl,hd,e,r',rfl,he,rfl⟩:=hw
 obtain⟨n,rfl,hn⟩:=wfI he
 have hg':(if 0≤n∧n≤1 then some ([]:List D) else none)=some outs:=hg
 split at hg'
 case isFalse=>cases hg'
 rename_i hc
 obtain⟨h0,h1⟩:=hc
 obtain rfl:=gnI hg'
 rw[q0u,j3]
 refine⟨fun st=>st=[.i 0,.i 20],fun st=>0,by simp only[X.evs,gnZ,gnT],?_⟩
 rintro st - rfl
 rw[zd]
 refine⟨fun hlt=>?_,fun hlt=>?_⟩
 ·simp only[gnZ,gnT] at hlt
  omega
 ·have hI:zp7 [d,.i 0,.i n]=some []:=if_pos (show(0:Int)≤0∧(0:Int)≤1000∧n≤0+1 from⟨by omega,by omega,by omega⟩)
  simp only[gnZ,gnT,hI,true_and]
  rw[j3]
  refine⟨fun st=>st=[.i 0,.i 20,.i 20],fun st=>0,by simp only[X.evs,gnZ,gnT],?_⟩
  rintro st - rfl
  rw[zd]
  refine⟨fun hlt=>?_,fun hlt=>?_⟩
  ·simp only[gnZ,gnT] at hlt
   omega
  ·simp only[gnZ,gnT]
def zly:List D→Option (List D)
 |[r]=>if r.rs.length≤1 then some [] else none
 |_=>none
theorem zq5:FOk yi zly:=q88 (FOk.none q6a) zsb fun ds outs hw hg=>by
 obtain⟨d,r,rfl,hd,rfl⟩:=hw
 have hg':(if d.rs.length≤1 then some ([]:List D) else none)=some outs:=hg
 split at hg'
 case isFalse=>cases hg'
 rename_i h0
 obtain rfl:=gnI hg'
 have hS:zvd [d,.i (d.rs.length:Nat)]=some []:=if_pos (show(0:Int)≤(d.rs.length:Nat)∧((d.rs.length:Nat):Int)≤1 from⟨by omega,by omega⟩)
 simp only[q0o,gnZ,gnT,hS,and_self]
variable{V:List Int}
section
mutual
/-- Variables renumbered. -/
def zds(f:Int→Int):Te→Te
 |.mk k n s l=>.mk k (if k=0 then f n else n) s (qop f l)
def qop(f:Int→Int):List Te→List Te
 |[]=>[]
 |t::l=>zds f t::qop f l
end
mutual
/-- The variables in the order of their first occurrence, behind those given. -/
def q72(vs:List Int):Te→List Int
 |.mk k n s l=>q3y (if k=0∧n∉vs then vs++[n] else vs) l
def q3y(vs:List Int):List Te→List Int
 |[]=>vs
 |t::l=>q3y (q72 vs t) l
end
mutual
def inV(V:List Int):Te→Prop
 |.mk k n s l=>(k=0→n∈V)∧qyt V l
def qyt(V:List Int):List Te→Prop
 |[]=>True
 |t::l=>inV V t∧qyt V l
end
section
variable{f g:Int→Int}
theorem zee:∀l,qop f l=l.map (zds f)
 |[]=>rfl
 |t::l=>by rw[qop,zee l];rfl
theorem z6y:∀(l:List Te)(vs:List Int),q3y vs l=l.foldl q72 vs
 |[],_=>rfl
 |t::l,vs=>by rw[q3y,z6y l];rfl
theorem z8c:∀{l:List Te},qyt V l↔∀t∈l,inV V t
 |[]=>by simp[qyt]
 |t::l=>by rw[qyt,z8c];simp
mutual
theorem z9z(h:∀x∈V,f x=g x):∀t,inV V t→zds f t=zds g t
 |.mk k n s l,hi=>by
  rw[zds,zds,qp1 h l hi.2]
  by_cases hk:k=0
  ·rw[if_pos hk,if_pos hk,h n (hi.1 hk)]
  ·rw[if_neg hk,if_neg hk]
theorem qp1(h:∀x∈V,f x=g x):∀l,qyt V l→qop f l=qop g l
 |[],_=>rfl
 |t::l,hi=>by rw[qop,qop,z9z h t hi.1,qp1 h l hi.2]
end
mutual
theorem z7o{W:List Int}(h:∀x∈V,x∈W):∀t,inV V t→inV W t
 |.mk k n s l,hi=>⟨fun hk=>h n (hi.1 hk),qzq h l hi.2⟩
theorem qzq{W:List Int}(h:∀x∈V,x∈W):∀l,qyt V l→qyt W l
 |[],_=>trivial
 |t::l,hi=>⟨z7o h t hi.1,qzq h l hi.2⟩
end
mutual
theorem zf4:∀(t:Te)(vs:List Int),∃m,q72 vs t=vs++m
 |.mk k n s l,vs=>by
  rw[q72]
  obtain⟨m,hm⟩:=qjj l (if k=0∧n∉vs then vs++[n] else vs)
  rw[hm]
  split
  ·exact⟨[n]++m,by simp⟩
  ·exact⟨m,rfl⟩
theorem qjj:∀(l:List Te)(vs:List Int),∃m,q3y vs l=vs++m
 |[],vs=>⟨[],by simp[q3y]⟩
 |t::l,vs=>by
  rw[q3y]
  obtain⟨m,hm⟩:=zf4 t vs
  obtain⟨m',hm'⟩:=qjj l (q72 vs t)
  exact⟨m++m',by rw[hm',hm];simp⟩
end
theorem qwf{t:List Te}{vs:List Int}{x:Int}(h:x∈vs):x∈q3y vs t:=by
 obtain⟨m,hm⟩:=qjj t vs
 rw[hm]
 exact kQ _ h
mutual
theorem qw7:∀(t:Te)(vs:List Int),inV (q72 vs t) t
 | .mk k n s l, vs => by
  rw[q72]
  refine⟨fun hk=>qwf ?_,z0w l _⟩
  split
  ·simp
  ·rename_i h
   exact Classical.byContradiction fun hn=>h ⟨hk,hn⟩
theorem z0w:∀(l:List Te)(vs:List Int),qyt (q3y vs l) l
 |[],vs=>trivial
 |t::l,vs=>by
  rw[q3y]
  exact⟨z7o (fun x hx=>qwf hx) t (qw7 t vs),z0w l _⟩
end
end
end
theorem qsc(vs:List Int)(t:Te):q72 vs t=q3y (if t.k=0∧t.n∉vs then vs++[t.n] else vs) t.l:=by cases t;rfl
theorem znd{l:List Te}{k:Nat}(hk:k<l.length):q3i (l.take k)+szT (l.getD k default)≤q3i l:=by
 have h2:=qhb hk
 have:=qg3 (l.take (k+1)) (l.drop (k+1))
 rw[kM] at this
 omega
def z4d(t:Te):Te:=if jb t then t else zT
theorem qfm:FOk yo (gTT z4d):=qco
def qgp(s:ByteArray)(l:List Te):Te:=if l.length=0 then q54 s else z4d (.mk 3 0 s l)
def gSL(f:ByteArray→List Te→Te):List D→Option (List D)
 |[s,l]=>some [eT (f s.str (l.rs.map dT))]
 |_=>none
theorem zr2(l:List Te):(l.map eT).map dT=l:=by
 rw[List.map_map]
 have:dT ∘ eT=id:=funext ju
 rw[this,List.map_id]
theorem q7a:FOk jk (gSL qgp):=qqr q4r qfm fun ds outs hw hg=>by
 obtain⟨d,r,rfl,hd,e,r',rfl,he,rfl⟩:=hw
 obtain⟨s,rfl,hs⟩:=hd.str
 obtain⟨l,rfl,hl,-⟩:=zty he
 simp only[gSL,q1z,q35,zr2,uR] at hg
 subst hg
 have e:D.a (((D.a [.i 0,.i 0,.s ⟨#[]⟩,.r []]).fs.set 0 (.i 3)).set 2 (.s s)|>.set 3 (.r (l.map eT)))=eT (.mk 3 0 s l):=by rw[qbz];rfl
 have e2:D.a (((eT zT).fs.set 0 (.i 3)).set 2 (.s s)|>.set 3 (.r (l.map eT)))=eT (.mk 3 0 s l):=e
 simp only[q7z,gnZ,gnT,gSt,gTT,zuf,qgp,e,e2]
 refine⟨fun h=>?_,fun h=>?_⟩
 ·rw[if_pos (by omega)]
 ·rw[if_neg (by omega)]
def liT:List Te→Te→Te
 |[],t=>t
 |x::l,t=>.mk 3 0 ⟨#[46]⟩ [x,liT l t]
def dRT(d:D):List Te:=d.rs.map dT
def zmj:List D→Option (List D)
 |[l,t]=>if jb (dT t)&&(jw (dRT l)&&decide (szT (dT t)+q3i (dRT l)+(dRT l).length≤2000)) then some [eT (liT (dRT l) (dT t))] else none
 |_=>none
theorem zm9{l:List Te}{k:Nat}(h:k<l.length):l.drop k=l.getD k default::l.drop (k+1):=by
 rw[List.drop_eq_getElem_cons h]
 simp[gnG,gnK h]
theorem z2w:FOk q0x zmj:=qib q8q qdn qe3 qco fun ds outs hw hg=>by
 obtain⟨d,r,rfl,hd,e,r',rfl,he,rfl⟩:=hw
 obtain⟨l,rfl,hl,hlo⟩:=zty hd
 obtain⟨t,rfl,ht⟩:=wfT he
 simp only[zmj,dRT,q35,map_id' ju,ju,kB,uR,gnB,gnD] at hg
 obtain⟨⟨hvt,hno,hsz⟩,rfl⟩:=hg
 have hlen:l.length≤2000:=by omega
 have hn:∀x∈l,z7 x=true:=q8x.1 hno
 have hvx:∀k,k<l.length→jb (l.getD k default)=true:=fun k hk=>by
  simp only[jb,gnB,gnD]
  have:=qww (q5p hk)
  exact⟨by omega,hn _ (q5p hk)⟩
 have hszt:min (szT t:Int) 2001=szT t:=by omega
 have q1:gTb jb [eT t]=some [.b true]:=by simp only[gTb,ju,hvt]
 have q2:gTi (fun t=>min (szT t:Int) 2001) [eT t]=some [.i (szT t:Nat)]:=by simp only[gTi,ju,hszt]
 have q3:gTT (fun t=>if jb t then t else zT) [eT t]=some [eT t]:=by simp only[gTT,ju,hvt,if_true]
 have d1:decide (2000<(l.length:Int))=false:=decide_eq_false (by omega)
 rw[q79,qj]
 refine⟨by simp only[gnZ,gnT,q1,d1],?_⟩
 rw[zd]
 refine⟨fun hb=>absurd hb (by simp only[gnZ,gnT,q1,d1];decide),fun _=>?_⟩
 rw[qj]
 refine⟨by simp only[gnZ,gnT,q2],?_⟩
 rw[j3]
 refine⟨fun st=>∃k:Nat,k≤l.length∧st=[.i ((szT t+(q3i (l.take k)+k):Nat):Int),.i k,eT zT],fun st=>l.length - (st.getD 1 .u).int.toNat,⟨0,uT _,by simp[X.evs,X.ev,evl,qe,q2,q3i];rfl⟩,?_⟩
 rintro st - ⟨k,hk,rfl⟩
 rw[zd]
 refine⟨fun hlt=>?_,fun hlt=>?_⟩
 ·have hkl:k<l.length:=by
   simp only[gnZ,gnT] at hlt
   omega
  have h1:=qhb hkl
  have h2:=znd hkl
  have p2:gTi (fun t=>min (szT t:Int) 2001) [eT (l.getD k default)]=some [.i (szT (l.getD k default):Nat)]:=by
   simp only[gTi,ju]
   rw[show min (szT (l.getD k default):Int) 2001=szT (l.getD k default) by omega]
  have p4:gTb z7 [eT (l.getD k default)]=some [.b true]:=by simp only[gTb,ju,hn _ (q5p hkl)]
  have d2:decide (2000<(((szT t+(q3i (l.take k)+k):Nat):Int)+(1+((szT (l.getD k default):Nat):Int))))=false:=decide_eq_false (by omega)
  rw[qj]
  have hi:(0:Int)≤k∧(k:Int)<l.length:=⟨by omega,by omega⟩
  refine⟨by simp only[gnZ,gnT,qej hkl,p2,p4,d2,hi.1,hi.2]<;>(and_intros<;>first|omega|rfl),?_⟩
  repeat' (rw[qj];refine⟨by simp only[gnZ,gnT,qej hkl,p2,p4,d2,hi.1,hi.2]<;>(and_intros<;>first|omega|rfl),?_⟩)
  rw[zd]
  refine⟨fun hb=>absurd hb (by simp only[gnZ,gnT,qej hkl,p2,p4,d2];decide),fun _=>?_⟩
  simp only[gnZ,gnT,qej hkl,p2]
  refine⟨⟨by omega,by omega⟩,?_⟩
  rw[q2r,if_pos rfl]
  refine⟨⟨k+1,by omega,?_⟩,by simp[D.int];omega⟩
  rw[h1]
  congr 2
  push_cast
  omega
 ·have hkl:k=l.length:=by
   simp only[gnZ,gnT] at hlt
   omega
  subst hkl
  rw[qj]
  refine⟨by simp only[gnZ,gnT,q3],?_⟩
  rw[qj]
  refine⟨by simp only[gnZ,gnT];omega,?_⟩
  rw[j3]
  refine⟨fun st=>∃m:Nat,m≤l.length∧st=[.i ((m:Int) - 1),eT (liT (l.drop m) t)],fun st=>((st.getD 0 .u).int+1).toNat,⟨l.length,vN _,by simp[X.evs,X.ev,evl,qe,q3,liT,yh,q35]⟩,?_⟩
  rintro st - ⟨m,hm,rfl⟩
  rw[zd]
  refine⟨fun hlt=>?_,fun hlt=>?_⟩
  ·simp only[gnZ,gnT] at hlt
   obtain⟨k,rfl⟩:∃k,m=k+1:=⟨m - 1,by omega⟩
   have hkl:k<l.length:=by omega
   have p3:gTT (fun t=>if jb t then t else zT) [eT (l.getD k default)]=some [eT (l.getD k default)]:=by simp only[gTT,ju,hvx k hkl,if_true]
   have ek:((k+1:Nat):Int) - 1=(k:Int):=by omega
   rw[ek]
   simp only[gnZ,gnT,qej hkl,p3]
   refine⟨⟨by omega,by omega⟩,⟨by omega,by omega⟩,?_⟩
   rw[q2r,if_pos rfl]
   refine⟨⟨k,by omega,?_⟩,by simp[D.int]⟩
   rw[zm9 hkl,liT,qbz]
   rfl
  ·simp only[gnZ,gnT] at hlt⊢
   obtain rfl:m=0:=by omega
   rfl
def zgg:List D→Option (List D)
 |[n]=>some [.b (decide (0≤n.int)&&decide (n.int≤1099511627776))]
 |_=>none
theorem qsn:FOk q1d zgg:=qqg fun ds outs hw hg=>by
 obtain⟨d,r,rfl,hd,rfl⟩:=hw
 obtain⟨n,rfl,hn⟩:=wfI hd
 simp only[zgg,yh,uR] at hg
 subst hg
 simp only[q82,gnZ]
 congr 2
def vaT(n:Int):Te:=if 0≤n∧n≤1099511627776 then .mk 0 n ⟨#[]⟩ [] else zT
def zjd:List D→Option (List D)
 |[n]=>some [eT (vaT n.int)]
 |_=>none
theorem qfl:FOk q2a zjd:=z4g qsn fun ds outs hw hg=>by
 obtain⟨d,r,rfl,hd,rfl⟩:=hw
 obtain⟨n,rfl,hn⟩:=wfI hd
 simp only[zjd,yh,uR] at hg
 subst hg
 have e1:D.a ((D.a [.i 0,.i 0,.s ⟨#[]⟩,.r []]).fs.set 1 (.i n))=eT (.mk 0 n ⟨#[]⟩ []):=by rw[qbz];rfl
 simp only[qcw,gnZ,gnT,zgg,vaT]
 by_cases h:0≤n∧n≤1099511627776
 ·simp[h]
  rw[qbz]
  rfl
 ·have h':¬(0≤n)∨¬(n≤1099511627776):=by omega
  rw[if_neg h]
  rcases h' with h'|h'<;>simp[h']<;>rfl
def itA(i:Nat)(a:At):Te:=qgp ⟨#[45]⟩ [q54 a.name,vaT i]
def qbm(l:List At):List Te:=l.mapIdx itA
def vsA(l:List At):List Vc:=l.mapIdx fun i a=>⟨i,a.val⟩
def z58:Te:=.mk 2 0 ⟨#[91,93]⟩ []
def zco:List D→Option (List D)
 |[s,l]=>if(dAs l).length≤499 then(z6u [s,eT (liT (qbm (dAs l)) z58),.r ((vsA (dAs l)).map eV)]).map fun r=>[r.getD 0 .u,r.getD 2 .u,r.getD 3 .u] else none
 |_=>none
theorem qts{β:Type}[Inhabited α](f:Nat→α→β){l:List α}{k:Nat}(h:k<l.length):(l.mapIdx f).take (k+1)=(l.mapIdx f).take k++[f k (l.getD k default)]:=by
 rw[List.take_add_one]
 simp[gnK,h,gnG]
theorem zh4(nm:ByteArray):z7 (q54 nm)=true∧szT (q54 nm)=1:=by
 unfold q54
 split
 ·rename_i h
  have h':(nm.size:Int)≤100:=by omega
  exact⟨by simp[z7,jw,q6y,Te.k,Te.n,Te.s,Te.l,h',h],rfl⟩
 ·exact⟨by decide,rfl⟩
theorem zpl(n:Int):z7 (vaT n)=true∧szT (vaT n)=1:=by
 unfold vaT
 split
 ·rename_i h
  exact⟨by simp[z7,jw,q6y,Te.k,Te.n,Te.s,Te.l,h],rfl⟩
 ·exact⟨by decide,rfl⟩
theorem zfe(i:Nat)(a:At):itA i a=.mk 3 0 ⟨#[45]⟩ [q54 a.name,vaT i]:=by
 have h1:=zh4 a.name
 have h2:=zpl i
 have h:jb (.mk 3 0 ⟨#[45]⟩ [q54 a.name,vaT i])=true:=by
  simp only[jb,szT,q3i,h1.2,h2.2,z7,jw,h1.1,h2.1,q6y]
  rfl
 unfold itA qgp z4d
 rw[if_neg (by simp),if_pos h]
theorem zs6(i:Nat)(a:At):z7 (itA i a)=true∧szT (itA i a)=3:=by
 have h1:=zh4 a.name
 have h2:=zpl i
 rw[zfe]
 constructor
 ·simp only[z7,jw,h1.1,h2.1,q6y]
  rfl
 ·simp only[szT,q3i,h1.2,h2.2]
theorem zce:∀(l:List Te),(∀t∈l,szT t=3)→q3i l=3 * l.length
 |[],_=>rfl
 |t::l,h=>by
  rw[q3i,h t uY,zce l fun x hx=>h x (uW _ hx)]
  simp
  omega
theorem qih:FOk j7 zco:=qfi q4r qfl q7a z2w qig fun ds outs hw hg=>by
 obtain⟨d,r,rfl,hd,e,r',rfl,he,rfl⟩:=hw
 obtain⟨s,rfl,hs⟩:=wfS hd
 obtain⟨l,rfl,hl,hlo⟩:=zqb he
 simp only[zco,qt,kB,Option.map_eq_some_iff] at hg
 obtain⟨hlen,r,hr,rfl⟩:=hg
 have ev:∀(k:Nat)(a:At),D.a [.i k,eC a.val]=eV ⟨k,a.val⟩:=fun _ _=>rfl
 rw[q61,j3]
 refine⟨fun st=>∃k:Nat,k≤l.length∧st=[.r (((qbm l).take k).map eT),.r (((vsA l).take k).map eV),.i k],fun st=>l.length - (st.getD 2 .u).int.toNat,⟨0,uT _,rfl⟩,?_⟩
 rintro st - ⟨k,hk,rfl⟩
 rw[zd]
 refine⟨fun hlt=>?_,fun hlt=>?_⟩
 ·simp only[gnZ,gnT] at hlt
  have hkl:k<l.length:=by omega
  have es:∀a:At,gSL qgp [.s ⟨#[45]⟩,.r [eT (q54 a.name),eT (vaT k)]]=some [eT (itA k a)]:=fun a=>by
   simp only[gSL,q1z,q35,vE,vI,ju]
   rfl
  simp only[gnZ,gnT,q3k eA hkl,zvq,zvr,gSt,zjd,es,ev,List.length_take]
  refine⟨⟨by omega,by omega⟩,⟨by omega,⟨by omega,⟨by omega,by omega⟩,?_⟩⟩⟩
  rw[q2r,if_pos rfl]
  refine⟨⟨k+1,by omega,?_⟩,by simp[D.int];omega⟩
  rw[qbm,vsA,qts _ hkl,qts _ hkl]
  simp
 ·simp only[gnZ,gnT] at hlt
  have hkl:k=l.length:=by omega
  subst hkl
  have e1:(qbm l).take l.length=qbm l:=kK (by simp[qbm])
  have e2:(vsA l).take l.length=vsA l:=kK (by simp[vsA])
  have hat:q54 ⟨#[91,93]⟩=z58:=rfl
  have hit:∀t∈qbm l,z7 t=true∧szT t=3:=fun t ht=>by
   obtain⟨i,hi,rfl⟩:=List.getElem_of_mem ht
   simp only[qbm,List.getElem_mapIdx]
   exact zs6 _ _
  have hli:zmj [.r ((qbm l).map eT),eT z58]=some [eT (liT (qbm l) z58)]:=by
   have hsz:=zce (qbm l) fun t ht=>(hit t ht).2
   have hln:(qbm l).length=l.length:=by simp[qbm]
   simp only[zmj,dRT,q35,map_id' ju,ju]
   rw[if_pos]
   simp only[gnB,gnD]
   refine⟨by decide,q8x.2 fun t ht=>(hit t ht).1,?_⟩
   rw[hsz,hln]
   show 1+3 * l.length+l.length≤2000
   omega
  simp only[e1,e2,gnZ,gnT,gSt,hat,hli,hr]
def zg:Ct:=⟨46,[.own (.row 66),.val (.int .i64),.val (.int .i64)],[(.row 66,true)],[],none,[],[]⟩
theorem q8z:EnZ zg:=fun _ _=>by kernel_rfl
def q6h:Ct:=⟨9,[.val (.st 26),.val (.st 28),.val (.str)],[(.st 28,false),(.bool,false)],[],none,[],[]⟩
theorem qwe:EnZ q6h:=fun _ _=>by kernel_rfl
def z47:Ann:=⟨[0,1,2,3,4,6,7,8,9,10,18,27],[]⟩
def qcr:Tree:=(.need [(.ok 0 [(.tok 0),(.tok 1)])] (.br (.not (.call 0 1 [(.tok 0),(.tok 1)])) (.leaf [(.lit (.a [(.i 0),(.i 0)])),(.lit (.b .false))]) (.need [(.ok 1 [(.tok 0),(.call 0 0 [(.tok 0),(.tok 1)])])] (.need [(.ok 2 [(.call 1 0 [(.tok 0),(.call 0 0 [(.tok 0),(.tok 1)])]),(.tok 2)])] (.br (.lt (.call 2 0 [(.call 1 0 [(.tok 0),(.call 0 0 [(.tok 0),(.tok 1)])]),(.tok 2)]) (.lit (.i 0))) (.leaf [(.lit (.a [(.i 0),(.i 0)])),(.lit (.b .false))]) (.need [(.le (.lit (.i 0)) (.call 2 0 [(.call 1 0 [(.tok 0),(.call 0 0 [(.tok 0),(.tok 1)])]),(.tok 2)])),(.lt (.call 2 0 [(.call 1 0 [(.tok 0),(.call 0 0 [(.tok 0),(.tok 1)])]),(.tok 2)]) (.len (.call 1 0 [(.tok 0),(.call 0 0 [(.tok 0),(.tok 1)])])))] (.leaf [(.fld (.get (.call 1 0 [(.tok 0),(.call 0 0 [(.tok 0),(.tok 1)])]) (.call 2 0 [(.call 1 0 [(.tok 0),(.call 0 0 [(.tok 0),(.tok 1)])]),(.tok 2)])) 1),(.lit (.b .true))])))))))
theorem qzl(g0 g1 g2:GfZ):CdZ [(qn,g0),(zf,g1),(zh,g2)] z47 q6h Tryz.f9 qcr:=fun cd h=>by injection h with h;subst h;kernel_rfl
theorem z4v{g0 g1 g2 g:GfZ}(h0:FOk qn g0)(h1:FOk zf g1)(h2:FOk zh g2)(h:HgZ qcr q6h [(qn,g0),(zf,g1),(zh,g2)] g):FOk q6h g:=yd (qzl g0 g1 g2) (.cons h0 (.cons h1 (.cons h2 .nil))) rfl rfl qwe (by decide) h
end Go.Proofs.YtdaadonfbnedaaaGreat
