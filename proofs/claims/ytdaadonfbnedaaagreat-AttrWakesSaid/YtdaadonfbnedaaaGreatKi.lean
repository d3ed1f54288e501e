/-
 Lemmas of the walk and plain laws, put together. No condition.
-/
import Derived.Deep.AppendSrc
import Derived.StillTailTactics
import Derived.TacticsInMore
import Derived.Test.YtdaadonfbnedaaaGreatKh
namespace Go.Proofs.YtdaadonfbnedaaaGreat
open Go.RowKit
set_option linter.unusedVariables false
set_option linter.unusedSimpArgs false
set_option maxRecDepth 100000
set_option linter.unusedSectionVars false
open _root_.Go.Proofs.Tryz renaming prog→uA,f23→kA,f33→vB,f8→jD
open _root_.List renaming length_map→uB,length_cons→uD,all_eq_true→uI,getD_cons_zero→uJ,getD_cons_succ→uK,getElem?_append_left→uL,getElem?_take_of_lt→uN,mem_cons_of_mem→uO,length_append→uR,append_nil→uT,mem_cons_self→uU,nil_append→uW,append_assoc→kF,mem_cons→kI,map_cons→kJ,length_drop→kK,cons_append→kL,getElem?_set_ne→kO,findIdx?_eq_some_iff_getElem→kQ,size_toArray→kR,length_take→kU,getElem_mem→kV,nodup_cons→kY,mem_append→kZ,getElem?_append_right→vC,drop_zero→vD,findIdx?_eq_none_iff→vF,drop_eq_getElem_cons→vG,take_of_length_le→vJ,mem_map→vK,getElem?_set_self→vL,take_append_drop→vO,length→vP,not_mem_nil→vS,drop_length→vT,map_append→vU,length_nil→vV,take_left→vY,replicate→vZ,nodup_nil→jA
open _root_.Nat renaming le_refl→uC,lt_of_lt_of_le→uE,zero_le→uQ,le_trans→uX,eq_zero_or_pos→kE,beq→kH,zero_add→kM,lt_or_ge→kN,mul_le_mul_right→kP,le_add_right→kW,not_lt_zero→vA,lt_irrefl→vI,zero_mul→vN,min_eq_left→vX,mul_le_mul→jB,sub_self→jH
open _root_.Array renaming getElem?_setIfInBounds_ne→uF,getD_eq_getD_getElem?→uG,getElem?_eq_some_iff→uH,getElem?_setIfInBounds_self_of_lt→uM,length_toList→kB,getElem?_eq_getElem→vE
open _root_.Int renaming toNat_natCast→uP,toNat→vM,ofNat_le→jI
open _root_.Bool renaming or_eq_true→uV,not_eq_true'→kS,not_true→vH,not_eq_false'→vR,false_or→jC
open _root_.List.cons renaming inj→uY,injEq→vW
open Builtin renaming append_→uZ,clear_→kX
open _root_.Option renaming isSome_some→kC,getD_some→kG,ite_none_right_eq_some→kT
open _root_.Option.some renaming injEq→kD
section
open Go.RowKit Go.Shelf
noncomputable def wkC:Code:=match kA.body with
 |some c=>c
 |none=>.skip
def rgO:Code→List Oper
 |.region _ ops _=>ops.toList
 |_=>[]
noncomputable def zrq:List Code:=[sqL wkC,sqL (sqR wkC)]
noncomputable def zoh:List Oper:=rgO (sqL (sqR (sqR wkC)))
noncomputable def q88:Code:=sqR (sqR (sqR wkC))
noncomputable def z87:Code:=sqR (sqR q88)
noncomputable def zs1:List Code:=[sqL q88]
noncomputable def zrv:List Code:=[sqL (sqR q88),sqL (sqL z87)]
noncomputable def qhn:Code:=lpC (bkC (sqR (sqL z87)))
noncomputable def wkZ:Code:=sqR z87
noncomputable def zkl:Code:=bkC (sqL (sqR (sqR qhn)))
noncomputable def wkH:List Code:=[sqL qhn,sqL (sqR qhn)]
noncomputable def wkR:List Code:=[sqL zkl]
noncomputable def wkY:Code:=sqL (sqR zkl)
noncomputable def zvw:Nat:=match wkY with
 |.region i _ _=>i
 |_=>0
def zjv:List Oper:=[(.mk (.some 30) (.load 41 (.tmp 1)) 41 "attr.go:278" (.mk []) .none),(.mk (.some 31) (.nilCheck (.tmp 30)) 0 "attr.go:278" (.mk [(.mk 0 .data)]) .none),(.mk (.some 32) (.load 27 (.tmp 31)) 27 "attr.go:278" (.mk [(.mk 1 .data)]) .none),(.mk (.some 33) (.fieldAddr 73 (.tmp 6) 1) 0 "attr.go:278" (.mk []) .none),(.mk (.some 34) (.load 29 (.tmp 33)) 29 "attr.go:278" (.mk [(.mk 3 .data)]) .none),(.mk (.some 35) (.call (.mk (.value (.func 63)) (.mk [(.tmp 32),(.tmp 34)]) (.mk [27,29]))) 96 "attr.go:278" (.mk [(.mk 2 .data),(.mk 4 .data)]) .none)]
noncomputable def wkN:List Code:=[sqR (sqR (sqR qhn))]
noncomputable def wkF:Code:=bkC (sqR (sqR zkl))
noncomputable def zjn:Code:=match wkF with
 |.rangeFunc _ _ a _=>a
 |_=>.skip
noncomputable def zab:Code:=match wkF with
 |.rangeFunc _ _ _ b=>bkC b
 |_=>.skip
def q87:Ann:=⟨[0,1,2,3,4,6,7,8,9,10,12,14,16,24,25,26,27,35,36,37,58],[]⟩
def q5q:Tbl:=[(yv,gCl 3518437208780),(z6,zh5),(qf4,q72)]
def qx5(m0 m1 m2 m3:Int):Tbl:=[(ju y8.f qk,fun _=>some [.i m0]),(ju y8.f yd,fun _=>some [.i m1]),(ju y8.f q2f,fun _=>some [.i m2]),(ju y8.f yo,fun _=>some [.i m3]),(zo,gSt qbd),(q0b,zo9),(yp,gSL qhy),(zx,z12)]
abbrev wkI:List Item:=[(24,q35,[(0,385)],[]),(25,.int .i64,[],[]),(26,.int .i64,[],[])]
abbrev wkM:List Item:=[(0,qd,qn 0 qd,[]),(2,zk,[(0,33)],[]),(3,y7,[],[])]
def wkQ:St:=⟨[(0,.ref 0 [] 0 qd),(1,.bx 1 41 (.ref 0 [] 0 qd)),(2,.ref 2 [] 0 zk),(3,.sn (VB+3) (.ref 3 [] 0 y7)),(24,.any),(25,.any),(26,.any)],[]⟩
def ztx:St:=(.mk [(24,(.v (.tok 5) (.row 73) [(0,385)] [])),(25,(.v (.tok 6) (.int .i64) [] [])),(26,(.v (.tok 7) (.int .i64) [] [])),(0,(.ref 0 [] 0 (.st 26))),(1,(.bx 1 41 (.ref 0 [] 0 (.st 26)))),(2,(.ref 2 [] 0 (.row 29))),(3,(.sn 100003 (.ref 3 [] 0 (.int .i64))))] [(0,(.mk (.tok 8) (.st 26) [(0,1),(1,2),(2,3),(3,4)] [])),(2,(.mk (.tok 9) (.row 29) [(0,33)] [])),(3,(.mk (.tok 10) (.int .i64) [] []))])
theorem zns:q0z wkI wkM 5 (jv wkI wkM [] 5 wkQ)=ztx:=by kernel_rfl
abbrev zdl:List Item:=[(4,q35,[(0,65)],[])]
def zna:St:=⟨[(0,.ref 0 [] 0 qd),(1,.bx 1 41 (.ref 0 [] 0 qd)),(2,.ref 2 [] 0 zk),(3,.sn (VB+3) (.ref 3 [] 0 y7)),(4,.any)],[]⟩
def zpo:St:=(.mk [(4,(.v (.tok 1) (.row 73) [(0,65)] [])),(0,(.ref 0 [] 0 (.st 26))),(1,(.bx 1 41 (.ref 0 [] 0 (.st 26)))),(2,(.ref 2 [] 0 (.row 29))),(3,(.sn 100003 (.ref 3 [] 0 (.int .i64))))] [(0,(.mk (.tok 2) (.st 26) [(0,1),(1,2),(2,3),(3,4)] [])),(2,(.mk (.tok 3) (.row 29) [(0,33)] [])),(3,(.mk (.tok 4) (.int .i64) [] []))])
theorem zjr:q0z zdl wkM 1 (jv zdl wkM [] 1 zna)=zpo:=by kernel_rfl
def zgl:St:=⟨[(0,.ref 0 [] 0 qd),(1,.bx 1 41 (.ref 0 [] 0 qd)),(2,.ref 2 [] 0 zk),(3,.sn (VB+3) (.ref 3 [] 0 y7)),(4,.sn 4 (.v (.tok 1) q35 [(0,65)] []))],[(0,⟨.tok 2,qd,qn 0 qd,[]⟩),(2,⟨.tok 3,zk,[(0,33)],[]⟩),(3,⟨.tok 4,y7,[],[]⟩)]⟩
noncomputable def wkK:Nat→St→Nat→Nat→X→Tree:=fun n σ ks te was=>if kH n 1&&(kH ks 0&&(kH te 3&&X.beq was (.tok 0))) then q5p uA q5q q87 1 69 zs1 n σ (toN zdl wkM [] zna) else .bad 4
theorem zn4:wkY=.region zvw zjv.toArray true:=by kernel_rfl
def zu9:Tree:=(.need [(.ok 0 [(.fld (.tok 0) 3)])] (.leaf [(.call 0 0 [(.fld (.tok 0) 3)]),(.tok 0),(.lit (.r [])),(.lit (.i 0))]))
theorem zlu:q5p uA q5q q87 1 69 zrq 1 (qn1 y8) (zs9 uA q5q y8 kA zoh wkK)=zu9:=by kernel_rfl
def zot:Tree:=(.need [(.ok 1 [(.tok 1)])] (.leaf [(.call 1 0 [(.tok 1)]),(.len (.call 1 0 [(.tok 1)])),(.lit (.i 0)),(.tok 2),(.tok 3),(.tok 4)]))
theorem zka:q5p uA q5q q87 1 69 zrv 5 zgl (toN wkI wkM [] wkQ)=zot:=by kernel_rfl
def q6l:St:=⟨[(0,.ref 0 [] 0 qd),(1,.bx 1 41 (.ref 0 [] 0 qd)),(2,.ref 2 [] 0 zk),(3,.sn (VB+3) (.ref 3 [] 0 y7)),(24,.v (.tok 1) q35 [(0,385)] []),(25,.v (.len (.tok 1)) (.int .i64) [] []),(26,.v (.tok 2) (.int .i64) [] [])],[(0,⟨.tok 3,qd,qn 0 qd,[]⟩),(2,⟨.tok 4,zk,[(0,33)],[]⟩),(3,⟨.tok 5,y7,[],[]⟩)]⟩
theorem zhu:q0z [] [] 6 (jv [] [] [] 6 q6l)=q6l:=by kernel_rfl
def zva:St:=(.mk [(26,(.v (.tok 6) (.int .i64) [] [])),(0,(.ref 0 [] 0 (.st 26))),(1,(.bx 1 41 (.ref 0 [] 0 (.st 26)))),(2,(.ref 2 [] 0 (.row 29))),(3,(.sn 100003 (.ref 3 [] 0 (.int .i64)))),(24,(.v (.tok 1) (.row 73) [(0,385)] [])),(25,(.v (.len (.tok 1)) (.int .i64) [] []))] [(0,(.mk (.tok 3) (.st 26) [(0,1),(1,2),(2,3),(3,4)] [])),(2,(.mk (.tok 4) (.row 29) [(0,33)] [])),(3,(.mk (.tok 5) (.int .i64) [] []))])
theorem zn3:q0z [(26,.int .i64,[],[])] [] 6 (jv [(26,.int .i64,[],[])] [] [] 6 ⟨q6l.t.filter (fun e=> !Nat.beq e.1 26),q6l.m⟩)=zva:=by kernel_rfl
def zuy:Nat→ResD→St→Tree:=fun n r σ=>match r with
 |.normal=>.need [.lt (.tok 2) (.len (.tok 1))] (qpx [] [] [] q6l n .normal σ)
 |.exit 0=>.need [.not (.lt (.tok 2) (.len (.tok 1)))] (qpx [] [] [] q6l n .normal σ)
 |_=>.bad 1
def ztk:Tree:=(.br (.lt (.tok 2) (.len (.tok 1))) (.need [(.lt (.tok 2) (.len (.tok 1)))] (.leaf [])) (.need [(.not (.lt (.tok 2) (.len (.tok 1))))] (.leaf [])))
theorem zkj:q5p uA q5q q87 1 69 wkH 6 q6l zuy=ztk:=by kernel_rfl
def zl0:St:=⟨q6l.t++[(6,.ref 6 [] 0 yo)],[]⟩
abbrev zm9:List Item:=[(0,qd,qn 0 qd,[]),(2,zk,[(0,33)],[]),(3,y7,[],[]),(6,yo,[],[])]
def zmc:St:=⟨zl0.t,[(0,⟨.tok 6,qd,qn 0 qd,[]⟩),(2,⟨.tok 7,zk,[(0,33)],[]⟩),(3,⟨.tok 8,y7,[],[]⟩),(6,⟨.tok 9,yo,[],[]⟩)]⟩
theorem zmd:q0z [] zm9 6 (jv [] zm9 [] 6 zl0)=zmc:=by kernel_rfl
def ztp:Tree:=(.need [(.le (.lit (.i 0)) (.tok 2)),(.lt (.tok 2) (.len (.tok 1)))] (.leaf [(.tok 3),(.tok 4),(.tok 5),(.get (.tok 1) (.tok 2))]))
theorem zlv:q5p uA q5q q87 1 69 wkR 6 q6l (toN [] zm9 [] zl0)=ztp:=by kernel_rfl
def qp6:List (Nat×AV):=[(0,.sn 0 (.ref 0 [] 0 qd)),(1,.sn 1 (.bx 1 41 (.ref 0 [] 0 qd))),(2,.sn 2 (.ref 2 [] 0 zk)),(3,.sn 3 (.ref 3 [] 0 y7)),(6,.sn 6 (.ref 6 [] 0 yo)),(24,.sn 24 (.v (.tok 4) q35 [(0,385)] []))]
def zjm:List (Nat×Ent):=[(0,⟨.tok 1,qd,qn 0 qd,[]⟩),(2,⟨.tok 2,zk,[(0,33)],[]⟩),(3,⟨.tok 3,y7,[],[]⟩),(6,⟨.tok 0,yo,[],[]⟩)]
def z4d:St:=⟨qp6,zjm⟩
noncomputable def ql5:List Code:=[sqL zab,sqL (sqR zab),sqL (sqR (sqR zab))]
noncomputable def zce:Code:=sqR (sqR (sqR zab))
theorem zbj:zab=seqs ql5 zce:=by kernel_rfl
def zsj:List (Nat×AV):=[(0,.sn 0 (.ref 0 [] 0 qd)),(1,.sn 1 (.bx 1 41 (.ref 0 [] 0 qd))),(2,.sn 2 .any),(3,.sn 3 (.ref 3 [] 0 y7)),(6,.sn 6 (.ref 6 [] 0 yo)),(24,.sn 24 (.v (.tok 4) q35 [(0,385)] []))]
def zmv:St:=⟨zsj++[(36,.v (.tok 5) .str [] []),(37,.v (.tok 6) qk [] [])],[(0,⟨.tok 1,qd,qn 0 qd,[]⟩),(3,⟨.tok 3,y7,[],[]⟩),(6,⟨.tok 0,yo,[],[]⟩)]⟩
def z4h:St:=⟨zsj++[(7,.v (.tok 5) .str [] []),(8,.ref 8 [] 0 qk)],[(0,⟨.tok 1,qd,qn 0 qd,[]⟩),(3,⟨.tok 3,y7,[],[]⟩),(6,⟨.tok 0,yo,[],[]⟩),(8,⟨.tok 6,qk,[],[]⟩)]⟩
def zvo:Tree:=(.leaf [])
theorem zs3(m0 m1 m2 m3:Int):q5p uA (qx5 m0 m1 m2 m3) q87 1 69 [zjn] 7 zmv (toN [] [] [] z4h)=zvo:=by kernel_rfl
abbrev z9a:List Item:=[(0,qd,qn 0 qd,[]),(10,qk,[],[])]
def zj7:St:=⟨zsj++[(10,.ref 10 [] 0 qk)],[(3,⟨.tok 3,y7,[],[]⟩),(6,⟨.tok 0,yo,[],[]⟩)]⟩
def zaa:St:=(.mk [(0,(.sn 0 (.ref 0 [] 0 (.st 26)))),(1,(.sn 1 (.bx 1 41 (.ref 0 [] 0 (.st 26))))),(2,(.sn 2 .any)),(3,(.sn 3 (.ref 3 [] 0 (.int .i64)))),(6,(.sn 6 (.ref 6 [] 0 (.st 72)))),(24,(.sn 24 (.v (.tok 4) (.row 73) [(0,385)] []))),(10,(.ref 10 [] 0 (.st 28)))] [(0,(.mk (.tok 7) (.st 26) [(0,1),(1,2),(2,3),(3,4)] [])),(10,(.mk (.tok 8) (.st 28) [] [])),(3,(.mk (.tok 3) (.int .i64) [] [])),(6,(.mk (.tok 0) (.st 72) [] []))])
theorem zmh:q0z [] z9a 7 (jv [] z9a [] 7 zj7)=zaa:=by kernel_rfl
def zsi:Tree:=
 let c:X:=.tok 1
 let d:X:=.lit (.i 0)
 let a:X:=.call 6 0 [(.lit (.s ⟨#[97,116,116,114,95,104,111,111,107]⟩)),(.row [(.call 4 0 [(.tok 5)]),(.call 5 0 [d]),(.call 5 0 [(.lit (.i 1))])])]
 let b:X:=.row [(.mk [d,(.tok 6)]),(.mk [(.lit (.i 1)),(.fld (.tok 0) 2)])]
 (.need [(.ok 4 [(.tok 5)]),(.ok 5 [d]),(.ok 5 [(.lit (.i 1))]),(.ok 6 [(.lit (.s ⟨#[97,116,116,114,95,104,111,111,107]⟩)),(.row [(.call 4 0 [(.tok 5)]),(.call 5 0 [d]),(.call 5 0 [(.lit (.i 1))])])])] (.need [(.ok 7 [c,a,b]),(.le (.call 0 0 []) (.len (.fld c 0))),(.le (.call 1 0 []) (.len (.fld c 1))),(.le (.call 2 0 []) (.len (.fld c 2))),(.le (.call 3 0 []) (.len (.fld c 3)))] (.br (.not (.eq (.call 7 2 [c,a,b]) d)) (.bad 15001) (.leaf [(.call 7 3 [c,a,b]),(.call 7 0 [c,a,b])]))))
theorem zqu(m0 m1 m2 m3:Int):q5p uA (qx5 m0 m1 m2 m3) q87 1 69 ql5 7 z4h (toN [] z9a [] zj7)=zsi:=by kernel_rfl
def z9k:St:=⟨qp6++[(7,.v (.tok 5) .str [] []),(8,.ref 8 [] 0 qk)],[(0,⟨.tok 1,qd,qn 0 qd,[]⟩),(2,⟨.tok 2,zk,[(0,33)],[]⟩),(3,⟨.tok 3,y7,[],[]⟩),(6,⟨.tok 0,yo,[],[]⟩),(8,⟨.tok 6,qk,[],[]⟩)]⟩
abbrev zf6:List Item:=[(0,qd,qn 0 qd,[]),(2,zk,[(0,33)],[]),(3,y7,[],[])]
def zrl:St:=⟨qp6,[]⟩
def zpu:St:=(.mk [(0,(.sn 0 (.ref 0 [] 0 (.st 26)))),(1,(.sn 1 (.bx 1 41 (.ref 0 [] 0 (.st 26))))),(2,(.sn 2 (.ref 2 [] 0 (.row 29)))),(3,(.sn 3 (.ref 3 [] 0 (.int .i64)))),(6,(.sn 6 (.ref 6 [] 0 (.st 72)))),(24,(.sn 24 (.v (.tok 4) (.row 73) [(0,385)] [])))] [(0,(.mk (.tok 7) (.st 26) [(0,1),(1,2),(2,3),(3,4)] [])),(2,(.mk (.tok 8) (.row 29) [(0,33)] [])),(3,(.mk (.tok 9) (.int .i64) [] []))])
theorem zlx:q0z [] zf6 7 (jv [] zf6 [] 7 zrl)=zpu:=by kernel_rfl
def zqx:Nat→ResD→St→Tree:=fun n r σ=>match r with
 |.ret=>qpx [] zf6 [] zrl n .normal σ
 |_=>.bad 1
def zsd:Tree:=
 let c:X:=.tok 1
 let d:X:=.lit (.i 0)
 let a:X:=.call 6 0 [(.lit (.s ⟨#[97,116,116,114,95,104,111,111,107]⟩)),(.row [(.call 4 0 [(.tok 5)]),(.call 5 0 [d]),(.call 5 0 [(.lit (.i 1))])])]
 let b:X:=.row [(.mk [d,(.tok 6)]),(.mk [(.lit (.i 1)),(.fld (.tok 0) 2)])]
 (.need [(.ok 4 [(.tok 5)]),(.ok 5 [d]),(.ok 5 [(.lit (.i 1))]),(.ok 6 [(.lit (.s ⟨#[97,116,116,114,95,104,111,111,107]⟩)),(.row [(.call 4 0 [(.tok 5)]),(.call 5 0 [d]),(.call 5 0 [(.lit (.i 1))])])])] (.need [(.ok 7 [c,a,b]),(.le (.call 0 0 []) (.len (.fld c 0))),(.le (.call 1 0 []) (.len (.fld c 1))),(.le (.call 2 0 []) (.len (.fld c 2))),(.le (.call 3 0 []) (.len (.fld c 3)))] (.br (.not (.eq (.call 7 2 [c,a,b]) d)) (.leaf [(.call 7 3 [c,a,b]),(.lit (.r [])),(.call 7 2 [c,a,b])]) (.bad 1))))
theorem zq5(m0 m1 m2 m3:Int):q5p uA (qx5 m0 m1 m2 m3) q87 1 69 ql5 7 z9k zqx=zsd:=by kernel_rfl
def qw9:List (Nat×AV):=[(0,.sn 0 .any),(1,.sn 1 .any),(2,.sn 2 (.ref 2 [] 0 zk)),(3,.sn 3 .any),(6,.sn 6 .any),(24,.sn 24 .any)]
def z66:St:=⟨qw9++[(10,.ref 10 [] 0 qk)],[(2,⟨.tok 0,zk,[(0,33)],[]⟩),(10,⟨.tok 1,qk,[],[]⟩)]⟩
abbrev z8i:List Item:=[(2,zk,[(0,33)],[])]
def zmk:St:=(.mk [(0,(.sn 0 .any)),(1,(.sn 1 .any)),(2,(.sn 2 (.ref 2 [] 0 (.row 29)))),(3,(.sn 3 .any)),(6,(.sn 6 .any)),(24,(.sn 24 .any))] [(2,(.mk (.tok 2) (.row 29) [(0,33)] []))])
theorem znb:q0z [] z8i 2 (jv [] z8i [] 2 ⟨qw9,[]⟩)=zmk:=by kernel_rfl
def zoy:Tree:=(.need [(.le (.add (.len (.tok 0)) (.lit (.i 1))) (.lit (.i 8796093021952)))] (.leaf [(.app (.tok 0) (.row [(.tok 1)]))]))
theorem zi7:q5p uA [] q87 1 69 [zce] 2 z66 (toN [] z8i [] ⟨qw9,[]⟩)=zoy:=by kernel_rfl
def ztj:Tree:=(.need [(.rng .i64 (.add (.tok 2) (.lit (.i 1))))] (.leaf [(.add (.tok 2) (.lit (.i 1)))]))
theorem zmf:q5p uA q5q q87 1 69 wkN 6 q6l (toN [(26,.int .i64,[],[])] [] [] ⟨q6l.t.filter (fun e=> !Nat.beq e.1 26),q6l.m⟩)=ztj:=by kernel_rfl
def zt0:Tree:=(.need [(.ok 2 [(.lit (.i 0)),(.set (.tok 3) 3 (.lit (.r []))),(.tok 0)])] (.leaf [(.tok 4),(.lit (.i 0)),(.call 2 0 [(.lit (.i 0)),(.set (.tok 3) 3 (.lit (.r []))),(.tok 0)])]))
theorem zm7:toT uA q5q q87 1 69 wkZ [] 6 q6l (qi2 y8 kA 2 0 3 (.tok 0))=zt0:=by kernel_rfl
def wkE:St:=⟨[(0,.ref 0 [] 0 qd),(1,.bx 1 41 (.ref 0 [] 0 qd)),(2,.ref 2 [] 0 zk),(3,.sn (VB+3) (.ref 3 [] 0 y7))],[(0,⟨.tok 1,qd,qn 0 qd,[]⟩),(2,⟨.tok 2,zk,[(0,33)],[]⟩),(3,⟨.tok 3,y7,[],[]⟩)]⟩
def zv5:Tree:=(.need [(.ok 2 [(.tok 3),(.tok 1),(.tok 0)])] (.leaf [(.tok 2),(.tok 3),(.call 2 0 [(.tok 3),(.tok 1),(.tok 0)])]))
theorem zkn:qi2 y8 kA 2 0 3 (.tok 0) 4 .ret wkE=zv5:=by kernel_rfl
end
def qb6:ByteArray:=⟨#[97,116,116,114,95,104,111,111,107]⟩
def q2l(nm:ByteArray):Te:=qhy qb6 [qbd nm,vaT 0,vaT 1]
def q5z(x wv:Ce):List Vc:=[⟨0,x⟩,⟨1,wv⟩]
def qz(wv:Ce)(s:So)(x:At):Ce×List Vc×Int×So:=qpa s (q2l x.name) (q5z x.val wv)
def ye(wv:Ce):So→List Ce→List At→So×List Ce×Int
 |s,o,[]=>(s,o,0)
 |s,o,x::l=>if(qz wv s x).2.2.1=0 then ye wv (qz wv s x).2.2.2 (o++[(qz wv s x).1]) l else((qz wv s x).2.2.2,[],(qz wv s x).2.2.1)
def qcj(wv:Ce):So→List At→Bool
 |s,[]=>true
 |s,x::l=>qo1 s (q2l x.name) (q5z x.val wv)&&(decide (¬(qz wv s x).2.2.1=0)||qcj wv (qz wv s x).2.2.2 l)
def q0v:So→List Ce→List Wk→So×List Ce×Int
 |s,o,[]=>(s,o,0)
 |s,o,w::l=>if(ye w.val s o (yb s w.att)).2.2=0 then q0v (ye w.val s o (yb s w.att)).1 (ye w.val s o (yb s w.att)).2.1 l else ye w.val s o (yb s w.att)
def qan:So→List Ce→List Wk→Bool
 |s,o,[]=>true
 |s,o,w::l=>(decide (s.cs.length≤1048576)&&qcj w.val s (yb s w.att))&&(decide (¬(ye w.val s o (yb s w.att)).2.2=0)||qan (ye w.val s o (yb s w.att)).1 (ye w.val s o (yb s w.att)).2.1 l)
def qvt(s r:So):So:={r with cs:=r.cs.take s.cs.length,ys:=r.ys.take s.ys.length,tr:=r.tr.take s.tr.length,ser:=s.ser}
def q1k(l:List Wk):List Wk:=jb Wk.ser l
theorem z7y{α β:Type}{f:α→β}{ka:α→Int}{kb:β→Int}(h:∀x,kb (f x)=ka x)(x:α):∀l:List α,q2s kb (f x) (l.map f)=(q2s ka x l).map f
 |[]=>rfl
 |y::l=>by
  simp only[kJ,q2s,h];split
  ·rw[kJ,z7y h x l]
  ·rfl
theorem zdw{α β:Type}{f:α→β}{ka:α→Int}{kb:β→Int}(h:∀x,kb (f x)=ka x)(l:List α):jb kb (l.map f)=(jb ka l).map f:=by
 have key:∀(l acc:List α),(l.map f).foldl (fun acc x=>q2s kb x acc) (acc.map f)=(l.foldl (fun acc x=>q2s ka x acc) acc).map f:=by
  intro l
  induction l with
  |nil=>intro acc;rfl
  |cons x l ih=>intro acc;rw[kJ,List.foldl_cons,z7y h,ih];rfl
 exact key l []
theorem zhi(l:List Wk):jb kyD (l.map eW)=(q1k l).map eW:=zdw (fun x=>rfl) l
theorem qcz(l:List Wk):(q1k l).length=l.length:=yy l
def qbm(s:So):List Ce×Int×So:=if(q0v s [] (q1k s.wk)).2.2=0 then((q0v s [] (q1k s.wk)).2.1,0,{(q0v s [] (q1k s.wk)).1 with wk:=[]}) else([],(q0v s [] (q1k s.wk)).2.2,qvt s (q0v s [] (q1k s.wk)).1)
def zk1:List D→Option (List D)
 |[s]=>if(dS s).wk.length≤1000∧(dS s).cs.length≤1000000∧qan (dS s) [] (q1k (dS s).wk)=true then some [.r ((qbm (dS s)).1.map eC),.i (qbm (dS s)).2.1,eS (qbm (dS s)).2.2] else none
 |_=>none
def qe1(s s':So):Prop:=s.cs.length≤s'.cs.length∧s.ys.length≤s'.ys.length∧Rst s s'
theorem qe1.refl(s:So):qe1 s s:=⟨uC _,uC _,Rst.refl s⟩
theorem qe1.trans{a b c:So}(h:qe1 a b)(k:qe1 b c):qe1 a c:=⟨uX h.1 k.1,uX h.2.1 k.2.1,h.2.2.trans k.2.2⟩
def zvf(s s':So):Prop:=qe1 s s'∧s'.cs.length≤s.cs.length+4000
theorem qzx{s:So}{t:Te}{l:List Vc}(hq:qo1 s t l=true):zvf s (qpa s t l).2.2.2:=by
 unfold qpa;split
 ·rename_i h;split
  ·rename_i hr;have h':=h;simp only[gnB] at h;have ht:=h.1;simp only[q01,gnB,gnD] at ht;unfold qo1 at hq;rw[h',hr] at hq;simp only[vH,jC,gnB] at hq;have hA:=hq.2.2;simp only[qoj,gnB,gnD] at hA;obtain⟨h1,h2,h3,h4⟩:=q2x t (s,l) (-1) hA.1 hA.2.1;have h5:=qlc t;have h6:q46 t l≤q5v t+1:=by
    unfold q46;split<;>omega
   rw[if_pos (by decide)] at h1;refine⟨⟨by rw[h1];exact kW _ _,?_,h3⟩,by rw[h1];show s.cs.length+q46 t l≤_;omega⟩;rw[h2];exact qmc _ _
  ·exact⟨qe1.refl s,kW _ _⟩
 ·exact⟨qe1.refl s,kW _ _⟩
theorem qif(wv:Ce):∀(l:List At)(s:So)(o:List Ce),qcj wv s l=true→qe1 s (ye wv s o l).1
 |[],s,o,_=>qe1.refl s
 | x :: l, s, o, h => by
  unfold qcj at h;simp only[gnB,uV,gnD] at h;have h1:qe1 s (qz wv s x).2.2.2:=(qzx h.1).1;unfold ye;split
  ·rename_i h0;rcases h.2 with h2|h2
   ·exact absurd h0 h2
   ·exact h1.trans (qif wv l _ _ h2)
  ·exact h1
variable{b pin:Nat}{d:D}{E T:TypeId}{te:Ty}{cs:List Value}{cur:Array Value}{v:Value}{dep:List Nat}{c:Ce}
section
open Go.RowKit Go.Shelf
section
variable{A:Nat→Prop}{p:qg}{w W:World}{dep:List Nat}
theorem qry(hte:qj E=some te)(h:Fl A p w dep (some pin) d (.row E) cs):∃l v,d=.r l∧cs=[v]∧q1e A p w dep pin E te l v:=by
 rcases h with⟨E',te',l,v,e,hte',rfl,rfl,hv⟩|⟨K,V,kt,vt,l,g,es,clock,e,-⟩
 ·injection e with e;subst e;obtain rfl:=gnI (hte.symm.trans hte');exact⟨l,v,rfl,rfl,hv⟩
 ·cases e
theorem ziz:qj 29=some qk∧qj 87=some yd∧qj 71=some q2f∧qj 73=some yo:=⟨by kernel_rfl,by kernel_rfl,by kernel_rfl,by kernel_rfl⟩
theorem z95{s:So}(h:Con A p w (eS s) qd (qn 0 qd) dep cs):∃v0 v1 v2 v3,cs=[v0,v1,v2,v3,.int .i64 s.ser,.int .i64 s.mx]∧q1e A p w dep 1 29 qk (s.cs.map eC) v0∧q1e A p w dep 2 87 yd (s.ys.map eY) v1∧q1e A p w dep 3 71 q2f (s.tr.map eU) v2∧q1e A p w dep 4 73 yo (s.wk.map eW) v3∧yz .i64 s.ser=true∧yz .i64 s.mx=true:=by
 have h:Con A p w (eS s) (.st qwf) (qn 0 qd) dep cs:=h;obtain⟨fs,ds,hf,he,hl⟩:=h;rw[qrt] at hf;injection hf with hf;subst hf;obtain⟨d0,ds,c0,cs,rfl,rfl,h0,hl⟩:=q5g hl;obtain⟨d1,ds,c1,cs,rfl,rfl,h1,hl⟩:=q5g hl;obtain⟨d2,ds,c2,cs,rfl,rfl,h2,hl⟩:=q5g hl;obtain⟨d3,ds,c3,cs,rfl,rfl,h3,hl⟩:=q5g hl;obtain⟨d4,ds,c4,cs,rfl,rfl,h4,hl⟩:=q5g hl;obtain⟨d5,ds,c5,cs,rfl,rfl,h5,hl⟩:=q5g hl;obtain⟨rfl,rfl⟩:=zhr hl;obtain⟨t1,t2,t3,t4⟩:=ziz;have h0:Fl A p w dep (some 1) d0 (.row 29) c0:=h0;have h1:Fl A p w dep (some 2) d1 (.row 87) c1:=h1;have h2:Fl A p w dep (some 3) d2 (.row 71) c2:=h2;have h3:Fl A p w dep (some 4) d3 (.row 73) c3:=h3;obtain⟨l0,v0,rfl,rfl,q0⟩:=qry t1 h0;obtain⟨l1,v1,rfl,rfl,q1⟩:=qry t2 h1;obtain⟨l2,v2,rfl,rfl,q2⟩:=qry t3 h2;obtain⟨l3,v3,rfl,rfl,q3⟩:=qry t4 h3;obtain⟨x4,rfl,rfl,q4,-⟩:=z36 h4;obtain⟨x5,rfl,rfl,q5,-⟩:=z36 h5;simp only[eS,D.a.injEq,vW,D.r.injEq,D.i.injEq,and_true] at he;obtain⟨rfl,rfl,rfl,rfl,rfl,rfl⟩:=he;exact⟨v0,v1,v2,v3,rfl,q0,q1,q2,q3,q4,q5⟩
theorem qdv{i:Nat}(h:w.heap[b]? =some (.cells cur T (0,0))):w.cell? ⟨b,i,none⟩=cur[i]? :=by
 unfold World.cell?;simp[h]
theorem q1e.stay{P:Nat→Prop}{l:List D}(h:q1e A p w dep pin E te l v)(hte:qj E=some te)(hf:zp 8 te=true)
  (hk:∀g cur,p pin=some g→w.heap[g]? =some (.cells cur E (0,0))→0<l.length→P g∧∃cur',W.heap[g]? =some (.cells cur' E (0,0))∧∀j,j<l.length * te.w→cur'[j]? =cur[j]?):Rd W P (.r l) (.row E) [v]:=by
 rcases h with⟨rfl,rfl⟩|⟨g,cap,cur,rfl,hg,hh,h1,h2,h3,h4,h5⟩
 ·exact⟨E,te,none,0,rfl,hte,rfl,by simp,by simp,by simp[maxLen],by simp[RdE]⟩
 ·refine⟨E,te,some ⟨g,0,none⟩,cap,rfl,hte,rfl,h1,h4,h2,q0s.2 fun j hj=>?_⟩;obtain⟨cs,hr,hx⟩:=h5 j hj;obtain⟨hP,cur',hw',hc⟩:=hk g cur hg hh (by omega);refine⟨g,0,cs,rfl,hP,fun i v hv=>?_,Rd.flat 8 _ hf hx⟩;have hlen:cs.length=te.w:=(Rd.len _ hx).1;have hi:i<cs.length:=(gnH.1 hv).1;have h6:=hr i v hv;rw[qdv hw'];rw[qdv hh] at h6;have h7:j * te.w+te.w≤l.length * te.w:=by
   rw[←Nat.succ_mul];exact kP _ hj
  simp only[kM] at h6⊢;rw[hc _ (by omega)];exact h6
end
def q23(p:qg)(s:So)(fr:Nat→Prop):Flr where
 fl:=fun b=>if p 1=some b then s.cs.length * qk.w else if p 2=some b then s.ys.length * yd.w else if p 3=some b then s.tr.length * q2f.w else if p 4=some b then s.wk.length * yo.w else 0
 mx:=fun te=>if Ty.beq te qk then s.cs.length else if Ty.beq te yd then s.ys.length else if Ty.beq te q2f then s.tr.length else if Ty.beq te yo then s.wk.length else 0
 fr:=fr
theorem zvx(p:qg)(s:So)(fr:Nat→Prop):(q23 p s fr).mx qk=s.cs.length:=by
 have e:Ty.beq qk qk=true:=by kernel_rfl
 simp only[q23,e,if_true]
theorem zvp(p:qg)(s:So)(fr:Nat→Prop):(q23 p s fr).mx yd=s.ys.length:=by
 have e1:Ty.beq yd qk=false:=by kernel_rfl
 have e:Ty.beq yd yd=true:=by kernel_rfl
 simp only[q23,e,e1,if_true,gnF,if_false]
theorem zwl(p:qg)(s:So)(fr:Nat→Prop):(q23 p s fr).mx q2f=s.tr.length:=by
 have e1:Ty.beq q2f qk=false:=by kernel_rfl
 have e2:Ty.beq q2f yd=false:=by kernel_rfl
 have e:Ty.beq q2f q2f=true:=by kernel_rfl
 simp only[q23,e,e1,e2,if_true,gnF,if_false]
theorem zvv(p:qg)(s:So)(fr:Nat→Prop):(q23 p s fr).mx yo=s.wk.length:=by
 have e1:Ty.beq yo qk=false:=by kernel_rfl
 have e2:Ty.beq yo yd=false:=by kernel_rfl
 have e3:Ty.beq yo q2f=false:=by kernel_rfl
 have e:Ty.beq yo yo=true:=by kernel_rfl
 simp only[q23,e,e1,e2,e3,if_true,gnF,if_false]
theorem zuc(m0 m1 m2 m3:Nat):flM (qx5 m0 m1 m2 m3) qk=m0∧flM (qx5 m0 m1 m2 m3) yd=m1∧flM (qx5 m0 m1 m2 m3) q2f=m2∧flM (qx5 m0 m1 m2 m3) yo=m3:=
 ⟨by show vM (m0:Int)=_;exact uP _,by show vM (m1:Int)=_;exact uP _,by show vM (m2:Int)=_;exact uP _,by show vM (m3:Int)=_;exact uP _⟩
theorem zu8(p:qg)(s:So)(fr:Nat→Prop)(te:Ty):(q23 p s fr).mx te≤flM (qx5 s.cs.length s.ys.length s.tr.length s.wk.length) te:=by
 obtain⟨h1,h2,h3,h4⟩:=zuc s.cs.length s.ys.length s.tr.length s.wk.length;unfold q23;simp only;split
 ·rename_i e;rw[(Ty.beq_iff _ _).1 e,h1];exact uC _
 ·split
  ·rename_i e;rw[(Ty.beq_iff _ _).1 e,h2];exact uC _
  ·split
   ·rename_i e;rw[(Ty.beq_iff _ _).1 e,h3];exact uC _
   ·split
    ·rename_i e;rw[(Ty.beq_iff _ _).1 e,h4];exact uC _
    ·exact uQ _
section
variable{A:Nat→Prop}{p:qg}{w W:World}{s:So}{v0 v1 v2 v3:Value}{fr:Nat→Prop}
theorem z6j(hinj:∀x y b,p x=some b→p y=some b→x=y):(p 1=some b→(q23 p s fr).fl b=s.cs.length * qk.w)∧(p 2=some b→(q23 p s fr).fl b=s.ys.length * yd.w)∧(p 3=some b→(q23 p s fr).fl b=s.tr.length * q2f.w)∧(p 4=some b→(q23 p s fr).fl b=s.wk.length * yo.w):=by
 have ne:∀x y,x≠y→p y=some b→¬p x=some b:=fun x y h hy hx=>h (hinj x y b hx hy);refine⟨fun h=>?_,fun h=>?_,fun h=>?_,fun h=>?_⟩
 ·simp only[q23,if_pos h]
 ·simp only[q23,if_neg (ne 1 2 (by decide) h),if_pos h]
 ·simp only[q23,if_neg (ne 1 3 (by decide) h),if_neg (ne 2 3 (by decide) h),if_pos h]
 ·simp only[q23,if_neg (ne 1 4 (by decide) h),if_neg (ne 2 4 (by decide) h),if_neg (ne 3 4 (by decide) h),if_pos h]
theorem z33{F:Flr}{k:Nat}{l:List D}(h:q1e A p w dep pin E te l v)(hte:qj E=some te)(hp:p pin=some k)(h0:0<F.fl k)(hfl:F.fl k=l.length * te.w)(hmx:F.mx te=l.length)(hT:2≤l.length∨nvB te=true):∃cs cs' T te,k<w.heap.size∧w.heap[k]? =some (.cells cs T (0,0))∧qj T=some te∧F.fl k≤F.mx te * te.w∧FlT te cs.size∧w.heap[k]? =some (.cells cs' T (0,0))∧cs'.size=cs.size∧∀j,j<F.fl k→cs'[j]? =cs[j]? :=by
 have hl:0<l.length:=by
  rcases kE l.length with e|e
  ·rw[hfl,e,vN] at h0;omega
  ·exact e
 rcases h with⟨rfl,rfl⟩|⟨g,cap,cur,rfl,hg,hh,h1,h2,h3,h4,h5⟩
 ·simp at hl
 ·rw[hp] at hg;injection hg with hg;subst hg;have hpos:=q39 hte;refine⟨cur,cur,E,te,qq hh,hh,hte,by rw[hfl,hmx];exact uC _,?_,hh,rfl,fun _ _=>rfl⟩;unfold FlT;rw[h3];rcases hT with hT|hT
  ·left;have:2 * te.w≤cap * te.w:=kP _ (by omega);omega
  ·right;refine⟨hT,?_⟩;have:1 * te.w≤cap * te.w:=kP _ (by omega);omega
theorem zps(hinj:∀x y b,p x=some b→p y=some b→x=y)(h0:q1e A p w [] 1 29 qk (s.cs.map eC) v0)(h1:q1e A p w [] 2 87 yd (s.ys.map eY) v1)(h2:q1e A p w [] 3 71 q2f (s.tr.map eU) v2)(h3:q1e A p w [] 4 73 yo (s.wk.map eW) v3)(hc:2≤s.cs.length)(hy:2≤s.ys.length):Flo (q23 p s fr) w w:=fun k hk=>by
 obtain⟨t1,t2,t3,t4⟩:=ziz;obtain⟨f1,f2,f3,f4⟩:=z6j (s:=s) (fr:=fr) hinj (b:=k);have hkk:=hk;unfold q23 at hkk;simp only at hkk;split at hkk
 ·rename_i e;exact z33 h0 t1 e hk (by rw[f1 e,uB]) (by rw[zvx,uB]) (.inl (by rw[uB];exact hc))
 ·split at hkk
  ·rename_i e;exact z33 h1 t2 e hk (by rw[f2 e,uB]) (by rw[zvp,uB]) (.inl (by rw[uB];exact hy))
  ·split at hkk
   ·rename_i e;exact z33 h2 t3 e hk (by rw[f3 e,uB]) (by rw[zwl,uB]) (.inr (by kernel_rfl))
   ·split at hkk
    ·rename_i e;exact z33 h3 t4 e hk (by rw[f4 e,uB]) (by rw[zvv,uB]) (.inr (by kernel_rfl))
    ·omega
theorem zuk(hinj:∀x y b,p x=some b→p y=some b→x=y)(h0:q1e A p w [] 1 29 qk (s.cs.map eC) v0)(h1:q1e A p w [] 2 87 yd (s.ys.map eY) v1)(h2:q1e A p w [] 3 71 q2f (s.tr.map eU) v2)(h3:q1e A p w [] 4 73 yo (s.wk.map eW) v3)
  (r1:yz .i64 s.ser=true)(r2:yz .i64 s.mx=true){w1:World}(hs:∀x b,p x=some b→w1.heap[b]? =w.heap[b]?)(hF:Flo (q23 p s fr) w1 W):Rd W (pinned p) (eS s) qd [v0,v1,v2,v3,.int .i64 s.ser,.int .i64 s.mx]:=by
 obtain⟨t1,t2,t3,t4⟩:=ziz;have key:∀{pin:Nat}{E:TypeId}{te:Ty}{l:List D}{v:Value},q1e A p w [] pin E te l v→qj E=some te→zp 8 te=true→(∀b,p pin=some b→(q23 p s fr).fl b=l.length * te.w)→Rd W (pinned p) (.r l) (.row E) [v]:=fun{pin E te l v}h hte hf hfl=>by
  refine h.stay hte hf fun g cur hg hh hl=>⟨⟨pin,hg⟩,?_⟩;have hpos:=q39 hte;have hfg:=hfl g hg;have h0:0<(q23 p s fr).fl g:=by
   rw[hfg];exact Nat.mul_pos hl hpos
  obtain⟨cs,cs',T,te',-,e1,-,-,-,e2,-,e3⟩:=hF g h0;rw[hs _ _ hg,hh] at e1;injection e1 with e1;injection e1 with e1 e1';subst e1 e1';refine⟨cs',e2,fun j hj=>e3 j ?_⟩;rw[hfg];exact hj
 have q0:=key h0 t1 (by kernel_rfl) fun b hb=>by rw[(z6j (fr:=fr) hinj).1 hb,uB]
 have q1:=key h1 t2 (by kernel_rfl) fun b hb=>by rw[(z6j (fr:=fr) hinj).2.1 hb,uB]
 have q2:=key h2 t3 (by kernel_rfl) fun b hb=>by rw[(z6j (fr:=fr) hinj).2.2.1 hb,uB]
 have q3:=key h3 t4 (by kernel_rfl) fun b hb=>by rw[(z6j (fr:=fr) hinj).2.2.2 hb,uB]
 exact⟨qwf,_,rfl,qrt,_,_,[v0],_,rfl,rfl,q0,_,_,[v1],_,rfl,rfl,q1,_,_,[v2],_,rfl,rfl,q2,_,_,[v3],_,rfl,rfl,q3,_,_,[_],_,rfl,rfl,⟨.i64,rfl,rfl,r1⟩,_,_,[_],_,rfl,rfl,⟨.i64,rfl,rfl,r2⟩,rfl,rfl⟩
end
theorem zn8{s:So}(h:0<(yb s c).length):2≤s.cs.length∧2≤s.ys.length:=by
 have hn:q4c s c≠none:=fun e=>by
  unfold yb at h;rw[qon e] at h;simp at h
 unfold q4c at hn;split at hn
 ·rename_i h1;split at hn
  ·rename_i h2;obtain⟨-,a2,a3,-,a4,a5,a6⟩:=q3b.1 h1;obtain⟨-,-,-,-,b4,b5,b6⟩:=q3b.1 h2;have:=qs.1 a2;have:=qs.1 a3;refine⟨by omega,?_⟩;rcases kN s.ys.length 2 with hlt|hge
   ·exfalso;have e1:(cellAt s (q2t s c).n).n.toNat=0:=by omega
    have e2:(cellAt s (q2t s (cellAt s ((q2t s c).n+1))).n).n.toNat=0:=by omega
    rw[e1] at a6;rw[e2,a6] at b6;simp at b6
   ·exact hge
  ·exact absurd rfl hn
 ·exact absurd rfl hn
end
variable{t:Ty}{p:qg}{A A':Nat→Prop}{σ:St}{a:Act}{q:Nat→Bool}{x:AV}
section
section
variable{A A':Nat→Prop}{p:qg}{w:World}
theorem FFD.chP(hA:∀b,b<w.heap.size→A b→q58 p b→A' b)(hb:b<w.heap.size)(h:FFD A p dep b):FFD A' p dep b:=h.imp (fun h=>⟨hA b hb h.1 h.2,h.2⟩) id
theorem Rd.chP(hA:∀b,b<w.heap.size→A b→q58 p b→A' b)(h:Rd w (FFD A p dep) d t cs):Rd w (FFD A' p dep) d t cs:=Rd.mono (fun b hb hf=>hf.chP hA hb) h
theorem Fl.chP(hA:∀b,b<w.heap.size→A b→q58 p b→A' b){o:Option Nat}(h:Fl A p w dep o d t cs):Fl A' p w dep o d t cs:=by
 cases o with
 |none=>exact Rd.chP hA h
 | some pin =>
  rcases h with⟨E,te,l,v,e1,hte,e2,e3,hv⟩|h
  ·refine .inl ⟨E,te,l,v,e1,hte,e2,e3,?_⟩;rcases hv with hv|⟨g,cap,cur,e4,hg,hh,q1,q2,q3,q4,q5⟩
   ·exact .inl hv
   ·refine .inr ⟨g,cap,cur,e4,hg,hh,q1,q2,q3,q4,fun i hi=>?_⟩;obtain⟨vs,hr1,hd⟩:=q5 i hi;exact⟨vs,hr1,Rd.chP hA hd⟩
  ·exact .inr h
theorem Fls.chP(hA:∀b,b<w.heap.size→A b→q58 p b→A' b){own:List (Nat×Nat)}:∀{ds:List D}{j:Nat}{fs:List Ty}{cs:List Value},Fls A p w dep own j ds fs cs→Fls A' p w dep own j ds fs cs
 |[],_,_,_,h=>h
 |d::ds,j,fs,cs,⟨t,ts,c1,c2,e1,e2,h1,h2⟩=>⟨t,ts,c1,c2,e1,e2,Fl.chP hA h1,Fls.chP hA h2⟩
theorem Con.chP(hA:∀b,b<w.heap.size→A b→q58 p b→A' b){own:List (Nat×Nat)}(h:Con A p w d t own dep cs):Con A' p w d t own dep cs:=by
 unfold Con at h⊢;split
 ·obtain⟨fs,ds,hf,e,h⟩:=h;exact⟨fs,ds,hf,e,Fls.chP hA h⟩
 ·rename_i hne;split at h
  ·rename_i T;exact absurd rfl (hne T)
  ·exact Fl.chP hA h
end
mutual
theorem AV.chP{c:Cx}{w:World}(hA:∀b,b<w.heap.size→c.A b→q58 p b→A' b):∀(x:AV)(v:Value),x.pd c p w v→x.pd {c with A:=A'} p w v
 |.any,v,h=>h
 |.undef,v,h=>h
 |.nilS,v,h=>h
 |.nb x neg,v,h=>h
 |.nilP,v,h=>h
 |.ref k q o t,v,h=>h
 |.v x t own dep,v,⟨cs,hp,hc⟩=>⟨cs,hp,hc.chP hA⟩
 |.rd x t dep wr,v,⟨b,o,cs,e,hf,hr,h0,hd,hw⟩=>by
  refine⟨b,o,cs,e,hf.chP hA (qdu hr h0),hr,h0,Rd.chP hA hd,?_⟩
  match wr,hw with
  |none,_=>trivial
  |some (pin,i,pt,q,te),hw=>exact hw
 |.tup l,v,⟨vs,e,h⟩=>⟨vs,e,z2h hA l vs h⟩
 |.gd cs a,v,h=>⟨fun hc=>AV.chP hA a v (h.1 hc),h.2⟩
 |.fn f l,v,⟨vs,e,h⟩=>⟨vs,e,z2h hA l vs h⟩
 |.bx k T a,v,⟨g,u,hg,e,hh,h⟩=>⟨g,u,hg,e,hh,AV.chP hA a u h⟩
 |.ax k T n a,v,⟨g,u,hg,e,hh,hn,h⟩=>⟨g,u,hg,e,hh,hn,AV.chP hA a (.agg u) h⟩
 |.sn t a,v,⟨e,h⟩=>⟨e,AV.chP hA a v h⟩
 |.lv k t,v,h=>h
 |.ar E xs dep,v,⟨te,cs,e1,e2,h3,h⟩=>⟨te,cs,e1,e2,h3,fun j d hj=>Rd.chP hA (h j d hj)⟩
 |.pt pin i E a,v,⟨h1,h⟩=>⟨h1,AV.chP hA a v h⟩
 |.fr T a,v,⟨g,u,ha,hf,e,hh,h⟩=>⟨g,u,hA g (qq hh) ha hf,hf,e,hh,AV.chP hA a u h⟩
 |.ff f T1 x1 t1 T2 x2 t2 dep,v,⟨g,cs1,cs2,e,ha,hb,hfr,hg,hg2,r1,r2⟩=>⟨g,cs1,cs2,e,⟨hA g (qq hg) ha.1 ha.2,ha.2⟩,⟨hA (g+1) (qq hg2) hb.1 hb.2,hb.2⟩,hfr,hg,hg2,Rd.mono (fun b hb h=>⟨h.1.imp (fun y=>⟨hA b hb y.1 y.2,y.2⟩) id,h.2⟩) r1,Rd.mono (fun b hb h=>⟨h.1.imp (fun y=>⟨hA b hb y.1 y.2,y.2⟩) id,h.2⟩) r2⟩
theorem z2h{c:Cx}{w:World}(hA:∀b,b<w.heap.size→c.A b→q58 p b→A' b):∀(l:List AV)(vs:List Value),pds c p w l vs→pds {c with A:=A'} p w l vs
 |[],vs,h=>h
 |a::l,vs,⟨v,r,e,ha,hl⟩=>⟨v,r,e,AV.chP hA a v ha,z2h hA l r hl⟩
end
theorem SF.chP{c:Cx}{w:World}(hA:∀b,b<w.heap.size→c.A b→q58 p b→A' b)(h:SF c σ p w a):SF {c with A:=A'} σ p w a:=by
 refine⟨fun t x hx=>?_,fun k e he=>?_⟩
 ·obtain⟨v,h1,h2⟩:=h.t t x hx;exact⟨v,h1,AV.chP hA x v h2⟩
 ·obtain⟨g,cs,T,hg,hh,hty,hc⟩:=h.m k e he;exact⟨g,cs,T,hg,hh,hty,hc.chP hA⟩
def za6(q:Nat→Bool)(l:List (Nat×AV)):Bool:=l.all fun e=>e.2.pins.all (fun x=> !q x)&&e.2.keys.all (fun x=> !q x)
def za3(q:Nat→Bool)(l:List (Nat×Ent)):Bool:=l.all fun e=> !q (e.1 * 16)&&e.2.pins.all (fun x=> !q x)
theorem z11{l:List (Nat×AV)}(h:za6 q l=true){t:Nat}(hx:lkA l t=some x):(∀y∈x.pins,q y=false)∧∀y∈x.keys,q y=false:=by
 have:=uI.1 h _ (qv hx);simp only[gnB,uI,kS] at this;exact this
theorem z0g{l:List (Nat×Ent)}(h:za3 q l=true){k:Nat}{e:Ent}(hx:lkA l k=some e):q (k * 16)=false∧∀y∈e.pins,q y=false:=by
 have:=uI.1 h _ (qv hx);simp only[gnB,uI,kS] at this;exact this
def qd6(A:Nat→Prop)(q:Nat→Bool)(p:qg)(b:Nat):Prop:=A b∧∀x,q x=true→p x≠some b
def q99(q:Nat→Bool)(p p':qg):qg:=fun x=>if q x then p x else p' x
section
variable{c:Cx}{F F':Flr}{p p':qg}{w0 w w':World}{S0:Nat→Prop}{q:Nat→Bool}{σ:St}{a a':Act}
theorem q6p{x:Nat}(h:unP q p x=some b):q x=false∧p x=some b:=by
 unfold unP at h;split at h
 ·cases h
 ·rename_i hq;exact⟨by simpa using hq,h⟩
theorem zmb{x:Nat}(hq:q x=false)(h:p x=some b):unP q p x=some b:=by
 unfold unP;rw[hq];exact h
theorem qus(h:Bs A F w0 S0 p w)(hflo:Flo F' w w)(hfr:∀b,F.fr b→F'.fr b):Bs (qd6 A q p) F' w (pinned (unP q p)) (unP q p) w:=
 ⟨fun x y b hx hy=>h.inj x y b (q6p hx).2 (q6p hy).2,fun x b hx=>h.bd x b (q6p hx).2,But.refl _ _,fun x b hx=>.inl ⟨x,hx⟩,fun b hb=>by
  have:=h.but.size;refine⟨⟨(h.new b (by omega)).1,fun x _ hx=>?_⟩,hfr b (h.new b (by omega)).2⟩;have:=h.bd x b hx;omega,fun x b hx=>⟨h.pa x b (q6p hx).2,fun y hy hyb=>by
   obtain⟨h1,h2⟩:=q6p hx;rw[h.inj y x b hyb h2,h1] at hy;cases hy⟩,fun x b hx=>h.obj x b (q6p hx).2,hflo⟩
theorem qst(h:SF c σ p w a)(h1:za6 q σ.t=true)(h2:za3 q σ.m=true):SF {c with A:=qd6 c.A q p} σ (unP q p) w a:=by
 have h':=SF.chP (A':=qd6 c.A q p) (fun b _ hA hf=>⟨hA,fun x _ hx=>hf x hx⟩) h;have hst:Stab (qd6 c.A q p) q q p w (unP q p) w:=⟨uC _,fun b _ _ hf=>⟨rfl,fun x hx=>hf x (q6p hx).2⟩,fun x b hq hx=>zmb hq hx,fun _ _ _ _=>rfl⟩;refine⟨fun t x hx=>?_,fun k e he=>?_⟩
 ·obtain⟨v,e1,e2⟩:=h'.t t x hx;obtain⟨o1,o2⟩:=z11 h1 hx;exact⟨v,e1,AV.kept hst x v (fun y hy=>⟨o1 y hy,o1 y hy⟩) o2 e2⟩
 ·obtain⟨o1,o2⟩:=z0g h2 he;exact q1s.kept hst (fun y hy=>⟨o2 y hy,o2 y hy⟩) ⟨o1,o1⟩ (h'.m k e he)
theorem qdi(h:Bs c.A F w0 S0 p w)(h':Bs (qd6 c.A q p) F' w (pinned (unP q p)) p' w')(hb:b<w.heap.size)(hn:∀x,q x=false→p x≠some b):w'.heap[b]? =w.heap[b]? :=
 h'.but.block b hb fun hp=>by
  obtain⟨x,hx⟩:=hp;exact hn x (q6p hx).1 (q6p hx).2
theorem qag(h:Bs c.A F w0 S0 p w)(h':Bs (qd6 c.A q p) F' w (pinned (unP q p)) p' w'){x:Nat}(hx:p' x=some b):(∃y,q y=false∧p y=some b)∨w.heap.size≤b:=by
 rcases h'.pin x b hx with⟨y,hy⟩|h
 ·exact .inl ⟨y,q6p hy⟩
 ·exact .inr h
theorem z40(h:Bs c.A F w0 S0 p w)(h':Bs (qd6 c.A q p) F' w (pinned (unP q p)) p' w')(hflo:Flo F w0 w'):Bs c.A F w0 S0 (q99 q p p') w':=by
 have hsz:=h'.but.size;refine⟨fun x y b hx hy=>?_,fun x b hx=>?_,?_,fun x b hx=>?_,fun b hb=>h.new b hb,fun x b hx=>?_,fun x b hx=>?_,hflo⟩
 ·have mix:∀u v,q u=true→p u=some b→p' v=some b→False:=fun u v hu h1 h2=>by
   rcases qag h h' h2 with⟨z,hz,hzb⟩|hlt
   ·rw[h.inj u z b h1 hzb,hz] at hu;cases hu
   ·have:=h.bd u b h1;omega
  unfold q99 at hx hy;cases hqx:q x<;>cases hqy:q y<;>rw[hqx] at hx<;>rw[hqy] at hy
  ·exact h'.inj x y b hx hy
  ·exact(mix y x hqy hy hx).elim
  ·exact(mix x y hqx hx hy).elim
  ·exact h.inj x y b hx hy
 ·unfold q99 at hx;split at hx
  ·exact uE (h.bd x b hx) hsz
  ·exact h'.bd x b hx
 ·exact h.but.trans h'.but fun b hS _=>by
   obtain⟨x,hx⟩:=hS;exact h.pin x b (q6p hx).2
 ·unfold q99 at hx;split at hx
  ·exact h.pin x b hx
  ·rcases qag h h' hx with⟨z,hz,hzb⟩|hlt
   ·exact h.pin z b hzb
   ·have:=h.but.size;exact .inr (by omega)
 ·unfold q99 at hx;split at hx
  ·exact h.pa x b hx
  ·exact(h'.pa x b hx).1
 ·unfold q99 at hx;split at hx
  ·rename_i hq;refine(h.obj x b hx).same (qdi h h' (h.bd x b hx) fun y hy hyb=>?_);rw[h.inj x y b hx hyb,hy] at hq;cases hq
  ·exact h'.obj x b hx
theorem z1v(h:Bs c.A F w0 S0 p w)(h':Bs (qd6 c.A q p) F' w (pinned (unP q p)) p' w')(hf:SF {c with A:=qd6 c.A q p} σ p' w' a)(h1:za6 q σ.t=true)(h2:za3 q σ.m=true):SF c σ (q99 q p p') w' a:=by
 have hst:Stab (qd6 c.A q p) q q p' w' (q99 q p p') w':=⟨uC _,fun b _ hA hf=>⟨rfl,fun x hx=>by
  unfold q99 at hx;split at hx
  ·rename_i hq;exact hA.2 x hq hx
  ·exact hf x hx⟩,fun x b hq hx=>by
  unfold q99;rw[hq];exact hx,fun _ _ _ _=>rfl⟩
 have hf':SF {c with A:=qd6 c.A q p} σ (q99 q p p') w' a:=by
  refine⟨fun t x hx=>?_,fun k e he=>?_⟩
  ·obtain⟨v,e1,e2⟩:=hf.t t x hx;obtain⟨o1,o2⟩:=z11 h1 hx;exact⟨v,e1,AV.kept hst x v (fun y hy=>⟨o1 y hy,o1 y hy⟩) o2 e2⟩
  ·obtain⟨o1,o2⟩:=z0g h2 he;exact q1s.kept hst (fun y hy=>⟨o2 y hy,o2 y hy⟩) ⟨o1,o1⟩ (hf.m k e he)
 exact SF.chP (c:={c with A:=qd6 c.A q p}) (A':=c.A) (fun b _ hA _=>hA.1) hf'
theorem qzl(h:Bs c.A F w0 S0 p w)(h':Bs (qd6 c.A q p) F' w (pinned (unP q p)) p' w'):Stab c.A (fun x=> !q x) (fun x=> !q x) p w (q99 q p p') w':=
 ⟨h'.but.size,fun b hb hA hf=>⟨qdi h h' hb fun x _=>hf x,fun x hx=>by
  unfold q99 at hx;split at hx
  ·exact hf x hx
  ·rcases qag h h' hx with⟨z,hz,hzb⟩|hlt
   ·exact hf z hzb
   ·omega⟩,fun x b hq hx=>by
  unfold q99;have:q x=true:=by simpa using hq
  rw[this];exact hx,fun x b hq hx=>qdi h h' (h.bd x b hx) fun y hy hyb=>by
  have:q x=true:=by simpa using hq
  rw[h.inj x y b hx hyb,hy] at this;cases this⟩
theorem qt1(h:Bs c.A F w0 S0 p w)(h':Bs (qd6 c.A q p) F' w (pinned (unP q p)) p' w'){k:Nat}{e:Ent}(he:q1s c p w k e)(h0:q (k * 16)=true)(h1:e.pins.all q=true):q1s c (q99 q p p') w' k e:=
 q1s.kept (qzl h h') (fun y hy=>by have:=uI.1 h1 y hy;simp[this]) (by simp[h0]) he
theorem z49(h:Bs c.A F w0 S0 p w)(h':Bs (qd6 c.A q p) F' w (pinned (unP q p)) p' w')(hx:x.pd c p w v)(h1:x.pins.all q=true)(h2:x.keys.all q=true):x.pd c (q99 q p p') w' v:=
 AV.kept (qzl h h') x v (fun y hy=>by have:=uI.1 h1 y hy;simp[this]) (fun y hy=>by have:=uI.1 h2 y hy;simp[this]) hx
end
def zio(y x:AV):Bool:=AV.beq y x||(match y,x with
  |_,.any=>true
  |.sn s z,.sn s' .any=>kH s s'
  |.sn s z,x=>AV.beq z x
  |_,_=>false)
def zja(σ τ:St):Bool:=(τ.t.all fun e=>match lkA σ.t e.1 with
 |some y=>zio y e.2
 |none=>false)&&τ.m.all fun e=>match lkA σ.m e.1 with
 |some y=>Ent.beq y e.2
 |none=>false
theorem zhl{c:Cx}{w:World}{y:AV}(h:zio y x=true)(hy:y.pd c p w v):x.pd c p w v:=by
 unfold zio at h;simp only[uV] at h;rcases h with h|h
 ·have:=AV.beq_ok _ _ h;subst this;exact hy
 ·split at h
  ·trivial
  ·obtain⟨e,-⟩:=hy;have:=gnN h;subst this;exact⟨e,trivial⟩
  ·have:=AV.beq_ok _ _ h;subst this;exact hy.2
  ·cases h
theorem SF.weak{c:Cx}{τ:St}{w:World}(h:SF c σ p w a)(hw:zja σ τ=true):SF c τ p w a:=by
 unfold zja at hw;simp only[gnB] at hw;refine⟨fun t x hx=>?_,fun k e he=>?_⟩
 ·have h1:=uI.1 hw.1 _ (qv hx);simp only at h1;split at h1
  ·rename_i y hy;obtain⟨v,e1,e2⟩:=h.t t y hy;exact⟨v,e1,zhl h1 e2⟩
  ·cases h1
 ·have h1:=uI.1 hw.2 _ (qv he);simp only at h1;split at h1
  ·rename_i y hy;have:=Ent.beq_ok h1;subst this;exact h.m k y hy
  ·cases h1
def zv7(z:Nat)(l:List (Nat×AV)):Bool:=l.all fun e=>Nat.blt e.1 z&&(match e.2 with
 |.sn t _=>kH t e.1
 |_=>false)
theorem SF.snapA{c:Cx}{w:World}{a':Act}(h:SF c σ p w a)(hs:zv7 a'.tmps.size σ.t=true)(hsn:∀t,t<a'.tmps.size→a'.tmps[t]? =some (c.snap t)):SF c σ p w a':=by
 refine⟨fun t x hx=>?_,h.m⟩;have h1:=uI.1 hs _ (qv hx);simp only[gnB,Nat.blt_eq] at h1;obtain⟨h1,h2⟩:=h1;split at h2
 ·rename_i s y;have:=gnN h2;subst this;obtain⟨v,-,e2,e3⟩:=h.t _ _ hx;subst e2;exact⟨_,hsn _ h1,rfl,e3⟩
 ·cases h2
end
variable{nm:ByteArray}{S1:Nat→Prop}{W:World}
section
open Go.RowKit Go.Shelf
def q19(s:So):Tbl:=qx5 s.cs.length s.ys.length s.tr.length s.wk.length
theorem z2o(s:So):q0i (q19 s):=by
 unfold q19 qx5;refine .cons (q1w _ q37 _ _) (.cons (q1w _ q37 _ _) (.cons (q1w _ q37 _ _) (.cons (q1w _ q37 _ _) (.cons q4u (.cons qfn (.cons q6k (.cons qi7 .nil)))))))
theorem z3u(s:So):q76 (q19 s)=true:=rfl
theorem zp9{s:So}{x wv:Ce}{s1:So}(hv:qo1 s1 (q2l nm) (q5z x wv)=true):qb (q19 s) 7 [eS s1,eT (q2l nm),.r [.a [.i 0,eC x],.a [.i 1,eC wv]]]=some [eC (qz wv s1 ⟨nm,x⟩).1,.r ((qz wv s1 ⟨nm,x⟩).2.1.map eV),.i (qz wv s1 ⟨nm,x⟩).2.2.1,eS (qz wv s1 ⟨nm,x⟩).2.2.2]:=by
 have e:dVs (.r [.a [.i 0,eC x],.a [.i 1,eC wv]])=q5z x wv:=by
  show[dV (eV ⟨0,x⟩),dV (eV ⟨1,wv⟩)]=_
  rw[qub,qub];rfl
 have ht:qb (q19 s) 7=z12:=rfl;rw[ht];unfold z12;simp only[zr,q1p,e];rw[if_pos hv];rfl
theorem zp0{s:So}:qb (q19 s) 6 [.s qb6,.r [eT (qbd nm),eT (vaT 0),eT (vaT 1)]]=some [eT (q2l nm)]:=by
 have ht:qb (q19 s) 6=gSL qhy:=rfl;rw[ht];unfold gSL
 show some [eT (qhy qb6 [dT (eT (qbd nm)),dT (eT (vaT 0)),dT (eT (vaT 1))])]=_
 rw[q1p,q1p,q1p];rfl
section
variable{wk:Wk}{s0 sk:So}{o:List Ce}{dw:D}{y:At}{R:List D→Prop}{B:Nat→List D→Prop}
abbrev q9l(wk:Wk)(sk:So)(o:List Ce)(dw:D)(y:At):List D:=[eW wk,eS sk,.r (o.map eC),.i 0,dw,.s y.name,eC y.val]
theorem zvd(hv:qo1 sk (q2l y.name) (q5z y.val wk.val)=true)(hg:qe1 s0 sk)(he:(qz wk.val sk y).2.2.1=0)(hR:R [eS (qz wk.val sk y).2.2.2,eC (qz wk.val sk y).1]):zsi.go (qb (q19 s0)) R (q9l wk sk o dw y) B:=by
 have hp:=zp9 (s:=s0) (nm:=y.name) (x:=y.val) (wv:=wk.val) hv;have hst:=zp0 (s:=s0) (nm:=y.name);have hN:(⟨#[97,116,116,114,95,104,111,111,107]⟩:ByteArray)=qb6:=rfl;have t0:qb (q19 s0) 0 []=some [.i s0.cs.length]:=rfl;have t1:qb (q19 s0) 1 []=some [.i s0.ys.length]:=rfl;have t2:qb (q19 s0) 2 []=some [.i s0.tr.length]:=rfl;have t3:qb (q19 s0) 3 []=some [.i s0.wk.length]:=rfl;have t4:qb (q19 s0) 4 [.s y.name]=some [eT (qbd y.name)]:=rfl;have t5:qb (q19 s0) 5 [.i 0]=some [eT (vaT 0)]:=rfl;have t6:qb (q19 s0) 5 [.i 1]=some [eT (vaT 1)]:=rfl;obtain⟨g1,g2,-,g3,g4,-⟩:=hg;have g3:s0.tr.length≤sk.tr.length:=by rw[g3];exact uC _
 have g4:s0.wk.length≤sk.wk.length:=by rw[g4];exact uC _
 unfold zsi;simp only[qp,zw,q40,jy,X.says,X.ev,X.evs,evl,uJ,uK,hN,t0,t1,t2,t3,t4,t5,t6,hst,hp,znv,kG,kC,q6x,he,q6r,decide_true,vH,gnF,false_implies,true_and,and_true,qev,za7,z2r,qyh,qa8,uB,yw,gnD,jI,forall_const];exact⟨⟨g1,g2,g3,g4⟩,hR⟩
theorem zum(hv:qo1 sk (q2l y.name) (q5z y.val wk.val)=true)(hg:qe1 s0 sk)(he:¬(qz wk.val sk y).2.2.1=0)(hR:R [eS (qz wk.val sk y).2.2.2,.r [],.i (qz wk.val sk y).2.2.1]):zsd.go (qb (q19 s0)) R (q9l wk sk o dw y) B:=by
 have hp:=zp9 (s:=s0) (nm:=y.name) (x:=y.val) (wv:=wk.val) hv;have hst:=zp0 (s:=s0) (nm:=y.name);have hN:(⟨#[97,116,116,114,95,104,111,111,107]⟩:ByteArray)=qb6:=rfl;have t0:qb (q19 s0) 0 []=some [.i s0.cs.length]:=rfl;have t1:qb (q19 s0) 1 []=some [.i s0.ys.length]:=rfl;have t2:qb (q19 s0) 2 []=some [.i s0.tr.length]:=rfl;have t3:qb (q19 s0) 3 []=some [.i s0.wk.length]:=rfl;have t4:qb (q19 s0) 4 [.s y.name]=some [eT (qbd y.name)]:=rfl;have t5:qb (q19 s0) 5 [.i 0]=some [eT (vaT 0)]:=rfl;have t6:qb (q19 s0) 5 [.i 1]=some [eT (vaT 1)]:=rfl;obtain⟨g1,g2,-,g3,g4,-⟩:=hg;have g3:s0.tr.length≤sk.tr.length:=by rw[g3];exact uC _
 have g4:s0.wk.length≤sk.wk.length:=by rw[g4];exact uC _
 unfold zsd;simp only[qp,zw,q40,jy,X.says,X.ev,X.evs,evl,uJ,uK,hN,t0,t1,t2,t3,t4,t5,t6,hst,hp,znv,kG,kC,q6x,he,q6r,decide_false,Bool.not_false,gnF,Bool.true_eq_false,false_implies,true_and,and_true,qev,za7,z2r,qyh,qa8,uB,yw,gnD,jI,forall_const];exact⟨⟨g1,g2,g3,g4⟩,hR⟩
end
def wkA(A:Nat→Prop)(n8 N1:Nat)(b:Nat):Prop:=A b∧(b<n8∨N1≤b)
def wkS(p2:qg)(w9:World)(n8 m:Nat)(b:Nat):Prop:=pinned p2 b∨q4f w9 (n8+1) m b
def q0f(c2:Cx)(p2:qg)(s0:So)(n8:Nat)(W1:World)(a9:Act):Cx:={c2 with A:=wkA c2.A n8 W1.heap.size,F:=q23 p2 s0 c2.F.fr,snap:=fun t=>a9.tmps.getD t Go.undef}
structure WkH(wk:Wk)(s0:So)(o0:List Ce)(l:List At)(k:Nat)(sk:So)(o:List Ce):Prop where
 run:ye wk.val sk o (l.drop k)=ye wk.val s0 o0 l
 ok:qcj wk.val sk (l.drop k)=true
 grow:qe1 s0 sk
 len:o.length≤o0.length+k
def WkG(p2:qg)(s0:So)(p:qg):Prop:=∀b,p 33=some b→(q23 p2 s0 (fun _=>True)).fl b=0
def WkI(c2:Cx)(p2:qg)(w9 W1:World)(a9:Act)(m n8:Nat)(wk:Wk)(s0:So)(x0:Ce)(o0:List Ce)(dw:D)(k N:Nat)(W:World):Prop:=w9.heap.size+2≤N∧N≤W.heap.size∧∃p3 sk o,WkH wk s0 o0 (yb s0 x0) k sk o∧Bs (q0f c2 p2 s0 n8 W1 a9).A (q0f c2 p2 s0 n8 W1 a9).F W1 (wkS p2 w9 n8 m) p3 W∧SF ((q0f c2 p2 s0 n8 W1 a9).at (qb (q19 s0)) [eW wk,eS sk,.r (o.map eC),.i 0,dw]) z4d p3 W a9∧(∀y b,p3 y=some b→b<N)∧WkG p2 s0 p3
def WkM(c2:Cx)(p2:qg)(w9 W1:World)(a9:Act)(m n8:Nat)(wk:Wk)(s0:So)(x0:Ce)(o0:List Ce)(dw:D)(k N B:Nat)(a1:Act)(W:World):Prop:=∃y p4 sk o,(yb s0 x0)[k]? =some y∧WkH wk s0 o0 (yb s0 x0) k sk o∧Bs (q0f c2 p2 s0 n8 W1 a9).A (q0f c2 p2 s0 n8 W1 a9).F W1 (wkS p2 w9 n8 m) p4 W∧SF ((q0f c2 p2 s0 n8 W1 a9).at (qb (q19 s0)) (q9l wk sk o dw y)) z9k p4 W a1∧a1.defers=[]∧a1.tmps.size=69∧w9.heap.size+2≤N∧N≤B∧B≤W.heap.size∧(∀q b,p4 q=some b→b<N∨B≤b)∧WkG p2 s0 p4
def WkJ(c2:Cx)(p2:qg)(w9 W1:World)(a9:Act)(m n8:Nat)(wk:Wk)(s0:So)(x0:Ce)(o0:List Ce)(W:World):Prop:=¬(ye wk.val s0 o0 (yb s0 x0)).2.2=0∧∃p3 l,Bs (q0f c2 p2 s0 n8 W1 a9).A (q0f c2 p2 s0 n8 W1 a9).F W1 (wkS p2 w9 n8 m) p3 W∧SF ((q0f c2 p2 s0 n8 W1 a9).at (qb (q19 s0)) (l++[eS (ye wk.val s0 o0 (yb s0 x0)).1,.r [],.i (ye wk.val s0 o0 (yb s0 x0)).2.2])) zpu p3 W a9∧l.length=7
theorem qrx{w' W1:World}{bc m:Nat}{F:Flr}{W':World}{p3:qg}(hS:∀b,q4f w' bc m b→S1 b)(hA:∀b,A' b→¬q4f w' bc m b)(hF:∀b,0<F.fl b→¬q4f w' bc m b)(h:Bs A' F W1 S1 p3 W)(hb:But (q4f w' bc m) W W'):Bs A' F W1 S1 p3 W'∧Stab A' no no p3 W p3 W':=
 ⟨⟨h.inj,fun x b hx=>uE (h.bd x b hx) hb.size,h.but.trans hb fun i hi _=>.inl (hS i hi),h.pin,h.new,h.pa,fun x b hx=>(h.obj x b hx).same (hb.block b (h.bd x b hx) (hA b (h.pa x b hx))),h.flo.same fun k hk hfl=>hb.block k hk (hF k hfl)⟩,
  hb.size,fun b hlt ha hf=>⟨hb.block b hlt (hA b ha),hf⟩,fun x b _ hx=>hx,fun x b _ hx=>hb.block b (h.bd x b hx) (hA b (h.pa x b hx))⟩
theorem zro{s:So}{fr:Nat→Prop}(h:0<(q23 p s fr).fl b):∃x,p x=some b:=by
 unfold q23 at h;simp only at h;split at h
 ·exact⟨_,‹_›⟩
 ·split at h
  ·exact⟨_,‹_›⟩
  ·split at h
   ·exact⟨_,‹_›⟩
   ·split at h
    ·exact⟨_,‹_›⟩
    ·omega
end
section
open Go.RowKit Go.Shelf
theorem qos(wv:Ce)(s:So)(o:List Ce)(x:At)(l:List At):ye wv s o (x::l)=if(qz wv s x).2.2.1=0 then ye wv (qz wv s x).2.2.2 (o++[(qz wv s x).1]) l else((qz wv s x).2.2.2,[],(qz wv s x).2.2.1):=rfl
def qC(x:Nat):Bool:=kH x 32||kH x 33
def qO(x:Nat):Bool:= !(kH x 32||(kH x 33||kH x 160))
theorem zu6{x:Nat}(h:qO x=false):x=32∨x=33∨x=160:=by
 unfold qO at h;simp only[vR,uV] at h;exact h.imp gnN fun h=>h.imp gnN gnN
section
variable{c2:Cx}{p2:qg}{w9 W1:World}{a9:Act}{m n8:Nat}{s0:So}{x0:Ce}{wk:Wk}{o0:List Ce}{dw:D}{v0 v1 v2 v3:Value}
theorem zmy:q0z [] [] 7 (jv [] [] [] 7 z4h)=z4h:=by kernel_rfl
theorem zgk{F:Flr}{w0:World}(h:Flo F w0 W){g:Nat}(hg:W.heap[g]? =some (.cells cur T (0,0)))(hT:qj T=some t)(hs:cur.size=t.w)(hnv:nvB t=false):F.fl g=0:=by
 rcases kE (F.fl g) with e|e
 ·exact e
 ·have hp:=q39 hT;have:=(FlW.var h hg hT hs (fun h=>by rw[hnv] at h;cases h) #[] e cur T hg).1;simp at this;omega
theorem zv1(hlo:c2.lo=1)(hz:a9.tmps.size=69)(h9:w9.heap.size=n8+2)(hinj:∀x y b,p2 x=some b→p2 y=some b→x=y)(hp2:∀x b,p2 x=some b→b<n8)
  (h0:q1e c2.A p2 w9 [] 1 29 qk (s0.cs.map eC) v0)(h1:q1e c2.A p2 w9 [] 2 87 yd (s0.ys.map eY) v1)(h2:q1e c2.A p2 w9 [] 3 71 q2f (s0.tr.map eU) v2)(h3:q1e c2.A p2 w9 [] 4 73 yo (s0.wk.map eW) v3)(r1:yz .i64 s0.ser=true)(r2:yz .i64 s0.mx=true)
  (hg:∃T,w9.heap[n8]? =some (.cells [v0,v1,v2,v3,.int .i64 s0.ser,.int .i64 s0.mx].toArray T (0,0)))(hbut:But Nil w9 W1)(hm1:w9.heap.size+2≤m)(hm2:m<W1.heap.size)(hob:o0.length+(yb s0 x0).length+1≤8796093021952):
  ItOk w9 a9 3 n8 (n8+1) m 36 37 zjn zab [v0,v1,v2,v3,.int .i64 s0.ser,.int .i64 s0.mx] s0 x0 (WkI c2 p2 w9 W1 a9 m n8 wk s0 x0 o0 dw) (WkM c2 p2 w9 W1 a9 m n8 wk s0 x0 o0 dw) (WkJ c2 p2 w9 W1 a9 m n8 wk s0 x0 o0):=by
 obtain⟨T,hg⟩:=hg;have hw1:=hbut.size;have hAh:∀b,(q0f c2 p2 s0 n8 W1 a9).A b→¬q4f w9 (n8+1) m b:=fun b h=>by
  have h:wkA c2.A n8 W1.heap.size b:=h;obtain⟨-,h⟩:=h;unfold q4f;omega
 have hSh:∀b,q4f w9 (n8+1) m b→wkS p2 w9 n8 m b:=fun b h=>.inr h;have hFh:∀b,0<(q0f c2 p2 s0 n8 W1 a9).F.fl b→¬q4f w9 (n8+1) m b:=fun b h=>by
  obtain⟨x,hx⟩:=zro h;have:=hp2 x b hx;unfold q4f;omega
 have hfm:∀te,(q0f c2 p2 s0 n8 W1 a9).F.mx te≤flM (q19 s0) te:=fun te=>zu8 p2 s0 c2.F.fr te;have hcl:(q0f c2 p2 s0 n8 W1 a9).lo=1:=hlo;have hfl0:∀{b:Nat}{W:World},Flo (q0f c2 p2 s0 n8 W1 a9).F W1 W→W1.heap.size≤b→(q23 p2 s0 (fun _=>True)).fl b=0:=fun{b W}hF hb=>by
  rcases kE ((q23 p2 s0 (fun _=>True)).fl b) with e|e
  ·exact e
  ·obtain⟨cs,cs',T,te,hlt,-⟩:=hF b e;omega
 refine⟨?_,?_,?_,?_,?_,?_⟩
 ·-- the copy is readable
  rintro k N W⟨h4,h5,p3,sk,o,hh,hb3,hf3,hp3,hG⟩;refine⟨h4,h5,⟨T,?_⟩,?_⟩
  ·refine(hb3.but.block n8 (by omega) ?_).trans ((hbut.block n8 (by omega) (fun h=>h)).trans hg);rintro(⟨x,hx⟩|h)
   ·have:=hp2 x n8 hx;omega
   ·unfold q4f at h;omega
  ·refine Rd.mono (fun b _ hb=>?_) (zuk hinj h0 h1 h2 h3 r1 r2 (w1:=W1) (W:=W) (fr:=c2.F.fr) (fun x b hx=>hbut.block b (by have:=hp2 x b hx;omega) (fun h=>h)) hb3.flo);obtain⟨x,hx⟩:=hb;have:=hp2 x b hx;exact⟨by omega,by omega⟩
 ·rintro k N W W'⟨h4,h5,p3,sk,o,hh,hb3,hf3,hp3,hG⟩hb;obtain⟨q1,q2⟩:=qrx hSh hAh hFh hb3 hb;exact⟨h4,uX h5 hb.size,p3,sk,o,hh,q1,SF.same q2 hf3,hp3,hG⟩
 ·-- the loop's variables
  rintro k N W y hy hyo⟨h4,h5,p3,sk,o,hh,hb3,hf3,hp3,hG⟩;have hsf:SF ((q0f c2 p2 s0 n8 W1 a9).at (qb (q19 s0)) (q9l wk sk o dw y)) ⟨qp6++[(36,.v (.tok 5) .str [] []),(37,.v (.tok 6) qk [] [])],zjm⟩ p3 W {tmps:=(a9.tmps.setIfInBounds 36 (.string y.name)).setIfInBounds 37 (.agg (ceL y.val).toArray),defers:=[]}:=by
   refine⟨fun t x hx=>?_,fun j e he=>?_⟩
   ·have hx:=qv hx;have old:∀t x,lkA z4d.t t=some x→t≠36→t≠37→(∀v,x.pd ((q0f c2 p2 s0 n8 W1 a9).at (qb (q19 s0)) [eW wk,eS sk,.r (o.map eC),.i 0,dw]) p3 W v→x.pd ((q0f c2 p2 s0 n8 W1 a9).at (qb (q19 s0)) (q9l wk sk o dw y)) p3 W v)→∃v,((a9.tmps.setIfInBounds 36 (.string y.name)).setIfInBounds 37 (.agg (ceL y.val).toArray))[t]? =some v∧x.pd ((q0f c2 p2 s0 n8 W1 a9).at (qb (q19 s0)) (q9l wk sk o dw y)) p3 W v:=fun t x hl n1 n2 hpd=>by
     obtain⟨v,e1,e2⟩:=hf3.t t x hl;exact⟨v,by rw[uF (Ne.symm n2),uF (Ne.symm n1)];exact e1,hpd v e2⟩
    simp only[qp6,kL,uW,gnM] at hx;rcases hx with⟨rfl,rfl⟩|⟨rfl,rfl⟩|⟨rfl,rfl⟩|⟨rfl,rfl⟩|⟨rfl,rfl⟩|⟨rfl,rfl⟩|⟨rfl,rfl⟩|⟨rfl,rfl⟩
    ·exact old _ _ (by kernel_rfl) (by decide) (by decide) fun v h=>h
    ·exact old _ _ (by kernel_rfl) (by decide) (by decide) fun v h=>h
    ·exact old _ _ (by kernel_rfl) (by decide) (by decide) fun v h=>h
    ·exact old _ _ (by kernel_rfl) (by decide) (by decide) fun v h=>h
    ·exact old _ _ (by kernel_rfl) (by decide) (by decide) fun v h=>h
    ·exact old _ _ (by kernel_rfl) (by decide) (by decide) fun v h=>h
    ·exact⟨.string y.name,by rw[uF (by decide),uM (by omega)],_,rfl,Con.of_rd (show Rd W _ (.s y.name) .str _ from⟨rfl,rfl,hyo.1⟩)⟩
    ·exact⟨.agg (ceL y.val).toArray,by rw[uM (by simp;omega)],ceL y.val,rfl,Con.of_rd (show Rd W _ (eC y.val) qk _ from qzm hyo.2)⟩
   ·have he:=qv he;simp only[zjm,gnM] at he;rcases he with⟨rfl,rfl⟩|⟨rfl,rfl⟩|⟨rfl,rfl⟩|⟨rfl,rfl⟩
    ·exact hf3.m 0 _ (by kernel_rfl)
    ·exact hf3.m 2 _ (by kernel_rfl)
    ·exact hf3.m 3 _ (by kernel_rfl)
    ·exact hf3.m 6 _ (by kernel_rfl)
  have hcs:=hf3.m 2 ⟨.tok 2,zk,[(0,33)],[]⟩ (by kernel_rfl);obtain⟨vc,tc1,tc2⟩:=hf3.t 2 (.sn 2 (.ref 2 [] 0 zk)) (by kernel_rfl);have hbA:=qus (q:=qC) (F':=(q0f c2 p2 s0 n8 W1 a9).F) hb3 hb3.flo.anew fun _ h=>h;have hfA:=qst (q:=qC) (hsf.weak (τ:=zmv) (by kernel_rfl)) (by kernel_rfl) (by kernel_rfl)
  have pre:=qa0 (c:={(q0f c2 p2 s0 n8 W1 a9) with A:=qd6 (q0f c2 p2 s0 n8 W1 a9).A qC p3}) (z:=69) (some (w9.heap.size+1)) 3 (z2o s0) hfm (z3u s0) [zjn] (n:=7) (ann:=q87) (R:=fun o=>o=[]) (B:=fun _ _=>False) (ts:=[]) (ms:=[]) (kill:=[]) (σk:=z4h) (l:=q9l wk sk o dw y) (σ:=zmv) (d:=[]) (w0:=W) (S0:=pinned (unP qC p3)) (p:=unP qC p3) (Q:=fun _ _ _=>False)
   (K:=fun a1 W2=>WkM c2 p2 w9 W1 a9 m n8 wk s0 x0 o0 dw k N W.heap.size a1 W2∧KpN w9 (n8+1) m N W.heap.size W W2)
   (by
    show(q5p uA (q19 s0) q87 c2.lo 69 [zjn] 7 zmv (toN [] [] [] z4h)).go _ _ _ _
    rw[hlo];unfold q19;rw[zs3];rfl) rfl hbA hfA rfl (by simp;exact hz) (fun st p4 W2 a2 hR hst hb4 hf4 hd4 hz4=>?_)
  ·exact pre
  ·have hR:st=[]:=hR;subst hR;rw[zmy,uT] at hf4;have hb5:=z40 hb3 hb4 (hb3.flo.trans hb4.flo);have hf5:=z1v (c:=(q0f c2 p2 s0 n8 W1 a9).at (qb (q19 s0)) (q9l wk sk o dw y)) (q:=qC) hb3 hb4 hf4 (by kernel_rfl) (by kernel_rfl);have hc5:=qt1 (c:=(q0f c2 p2 s0 n8 W1 a9).at (qb (q19 s0)) (q9l wk sk o dw y)) (q:=qC) (k:=2) (e:=⟨.tok 2,zk,[(0,33)],[]⟩) hb3 hb4 hcs (by kernel_rfl) (by kernel_rfl);have ht5:=z49 (c:=(q0f c2 p2 s0 n8 W1 a9).at (qb (q19 s0)) (q9l wk sk o dw y)) (q:=qC) (x:=.sn 2 (.ref 2 [] 0 zk)) hb3 hb4 tc2 (by kernel_rfl) (by kernel_rfl);have hf6:SF ((q0f c2 p2 s0 n8 W1 a9).at (qb (q19 s0)) (q9l wk sk o dw y)) z9k (q99 qC p3 p4) W2 a2:=by
    refine⟨fun t x hx=>?_,fun j e he=>?_⟩
    ·have hx:=qv hx;simp only[z9k,qp6,kL,uW,gnM] at hx;rcases hx with⟨rfl,rfl⟩|⟨rfl,rfl⟩|⟨rfl,rfl⟩|⟨rfl,rfl⟩|⟨rfl,rfl⟩|⟨rfl,rfl⟩|⟨rfl,rfl⟩|⟨rfl,rfl⟩
     ·exact hf5.t 0 _ (by kernel_rfl)
     ·exact hf5.t 1 _ (by kernel_rfl)
     ·obtain⟨v,e1,e2,-⟩:=hf5.t 2 (.sn 2 .any) (by kernel_rfl);obtain⟨e3,-⟩:=id tc2;have e4:v=vc:=e2.trans e3.symm;exact⟨v,e1,by rw[e4];exact ht5⟩
     ·exact hf5.t 3 _ (by kernel_rfl)
     ·exact hf5.t 6 _ (by kernel_rfl)
     ·exact hf5.t 24 _ (by kernel_rfl)
     ·exact hf5.t 7 _ (by kernel_rfl)
     ·exact hf5.t 8 _ (by kernel_rfl)
    ·have he:=qv he;simp only[z9k,gnM] at he;rcases he with⟨rfl,rfl⟩|⟨rfl,rfl⟩|⟨rfl,rfl⟩|⟨rfl,rfl⟩|⟨rfl,rfl⟩
     ·exact hf5.m 0 _ (by kernel_rfl)
     ·exact hc5
     ·exact hf5.m 3 _ (by kernel_rfl)
     ·exact hf5.m 6 _ (by kernel_rfl)
     ·exact hf5.m 8 _ (by kernel_rfl)
   refine⟨⟨y,_,sk,o,hy,hh,hb5,hf6,hd4,hz4,h4,h5,hb4.but.size,fun q b hq=>?_,fun b hb=>?_⟩,hb4.but.size,fun b hlt hb=>hb4.but.block b hlt ?_⟩
   ·unfold q99 at hq;split at hq
    ·exact .inl (hp3 q b hq)
    ·rcases qag (q:=qC) (c:=q0f c2 p2 s0 n8 W1 a9) hb3 hb4 hq with⟨q',-,hq'⟩|h
     ·exact .inl (hp3 q' b hq')
     ·exact .inr h
   ·exact hG b hb
   ·rintro⟨q,hq⟩;have hq:=(q6p hq).2;rcases hb with hb|hb
    ·have:=hp3 q b hq;omega
    ·exact hAh b (hb3.pa q b hq) hb
 ·rintro k N B a1 W W'⟨y,p4,sk,o,hy,hh,hb4,hf4,hd4,hz4,h4,h5,h6,hp4,hG⟩hb;obtain⟨q1,q2⟩:=qrx hSh hAh hFh hb4 hb;exact⟨y,p4,sk,o,hy,hh,q1,SF.same q2 hf4,hd4,hz4,h4,h5,uX h6 hb.size,hp4,hG⟩
 ·-- a round
  rintro k N B a1 W hkl⟨y,p4,sk,o,hy,hh,hb4,hf4,hd4,hz4,h4,h5,h6,hp4,hG⟩;obtain⟨hrun,hok,hgr,hlen⟩:=hh;have hdr:(yb s0 x0).drop k=y::(yb s0 x0).drop (k+1):=by
   obtain⟨hlt,e⟩:=gnH.1 hy;rw[vG hlt,e]
  rw[hdr] at hrun hok;unfold qcj at hok;simp only[gnB,uV,gnD] at hok;obtain⟨hv,hok⟩:=hok;have hKp:∀{W2:World}{S:Nat→Prop},But S W W2→(∀b,S b→∃q,p4 q=some b)→KpN w9 (n8+1) m N B W W2:=fun{W2 S}hbu hS=>⟨hbu.size,fun b hlt hb=>hbu.block b (by omega) fun h=>by
   obtain⟨q,hq⟩:=hS b h;rcases hb with hb|hb
   ·have:=hp4 q b hq;omega
   ·exact hAh b (hb4.pa q b hq) hb⟩
  by_cases he:(qz wk.val sk y).2.2.1=0
  ·-- the put succeeds
   rcases hok with hok|hok
   ·exact absurd he hok
   rw[qos] at hrun;rw[if_pos he] at hrun;have hcs:=hf4.m 2 ⟨.tok 2,zk,[(0,33)],[]⟩ (by kernel_rfl);obtain⟨vc,tc1,tc2⟩:=hf4.t 2 (.sn 2 (.ref 2 [] 0 zk)) (by kernel_rfl);have hbA:=qus (q:=qC) (F':=(q0f c2 p2 s0 n8 W1 a9).F) hb4 hb4.flo.anew fun _ h=>h;have hfA:=qst (q:=qC) (hf4.weak (τ:=z4h) (by kernel_rfl)) (by kernel_rfl) (by kernel_rfl);rw[zbj];refine q2g ql5 ?_
   refine qa0 (c:={(q0f c2 p2 s0 n8 W1 a9) with A:=qd6 (q0f c2 p2 s0 n8 W1 a9).A qC p4}) (z:=69) (some (w9.heap.size+1)) 3 (z2o s0) hfm (z3u s0) ql5 (n:=7) (ann:=q87) (R:=fun q=>q=[eS (qz wk.val sk y).2.2.2,eC (qz wk.val sk y).1]) (B:=fun _ _=>False) (ts:=[]) (ms:=z9a) (kill:=[]) (σk:=zj7) (l:=q9l wk sk o dw y) (σ:=z4h) (d:=[]) (w0:=W) (S0:=pinned (unP qC p4)) (p:=unP qC p4)
    (by
     show(q5p uA (q19 s0) q87 c2.lo 69 ql5 7 z4h (toN [] z9a [] zj7)).go _ _ _ _
     rw[hlo];have e:=zqu s0.cs.length s0.ys.length s0.tr.length s0.wk.length;unfold q19;rw[e];exact zvd hv hgr he rfl) rfl hbA hfA hd4 hz4 (fun st p5 W2 a2 hR hst hb5 hf5 hd5 hz5=>?_)
   have hR:st=[eS (qz wk.val sk y).2.2.2,eC (qz wk.val sk y).1]:=hR;subst hR;rw[show q0z [] z9a 7 (jv [] z9a [] 7 zj7)=zaa from zmh] at hf5;obtain⟨l9,hl9⟩:∃l9,l9=q9l wk sk o dw y++[eS (qz wk.val sk y).2.2.2,eC (qz wk.val sk y).1]:=⟨_,rfl⟩;have hb6:=z40 hb4 hb5 (hb4.flo.trans hb5.flo);have hf6:=z1v (c:=(q0f c2 p2 s0 n8 W1 a9).at (qb (q19 s0)) (q9l wk sk o dw y++[eS (qz wk.val sk y).2.2.2,eC (qz wk.val sk y).1])) (q:=qC) hb4 hb5 hf5 (by kernel_rfl) (by kernel_rfl);have hc6:=qt1 (c:=(q0f c2 p2 s0 n8 W1 a9).at (qb (q19 s0)) (q9l wk sk o dw y)) (q:=qC) (k:=2) (e:=⟨.tok 2,zk,[(0,33)],[]⟩) hb4 hb5 hcs (by kernel_rfl) (by kernel_rfl);have ht6:=z49 (c:=(q0f c2 p2 s0 n8 W1 a9).at (qb (q19 s0)) (q9l wk sk o dw y)) (q:=qC) (x:=.sn 2 (.ref 2 [] 0 zk)) hb4 hb5 tc2 (by kernel_rfl) (by kernel_rfl);have hp6:∀q b,q99 qC p4 p5 q=some b→b<N∨B≤b:=fun q b hq=>by
    unfold q99 at hq;split at hq
    ·exact hp4 q b hq
    ·rcases qag (q:=qC) (c:=q0f c2 p2 s0 n8 W1 a9) hb4 hb5 hq with⟨q',-,hq'⟩|h
     ·exact hp4 q' b hq'
     ·exact .inr (by omega)
   have hG6:WkG p2 s0 (q99 qC p4 p5):=fun b hb=>hG b hb;have hbu6:KpN w9 (n8+1) m N B W W2:=hKp hb5.but fun b⟨q,hq⟩=>⟨q,(q6p hq).2⟩;generalize hp66:q99 qC p4 p5=p6 at *
   -- the cell is appended
   obtain⟨c0,hc0⟩:∃c0:Cx,c0={(q0f c2 p2 s0 n8 W1 a9) with F:=⟨fun _=>0,fun _=>0,(q0f c2 p2 s0 n8 W1 a9).F.fr⟩}:=⟨_,rfl⟩;have hc0A:c0.A=(q0f c2 p2 s0 n8 W1 a9).A:=by rw[hc0]
   have hF0:Flo ⟨fun _=>0,fun _=>0,(q0f c2 p2 s0 n8 W1 a9).F.fr⟩ W2 W2:=fun k h=>absurd h (vI 0);have hsf:SF (c0.at (qb []) [.r (o.map eC),eC (qz wk.val sk y).1]) z66 p6 W2 a2:=by
    refine⟨fun t x hx=>?_,fun j e he=>?_⟩
    ·have hx:=qv hx;simp only[z66,qw9,kL,uW,gnM] at hx;have sn:∀t z,lkA zaa.t t=some (.sn t z)→∃v,a2.tmps[t]? =some v∧(AV.sn t .any).pd (c0.at (qb []) [.r (o.map eC),eC (qz wk.val sk y).1]) p6 W2 v:=fun t z hl=>by
      obtain⟨v,e1,e2,-⟩:=hf6.t t _ hl;exact⟨v,e1,by rw[hc0];exact e2,trivial⟩
     rcases hx with⟨rfl,rfl⟩|⟨rfl,rfl⟩|⟨rfl,rfl⟩|⟨rfl,rfl⟩|⟨rfl,rfl⟩|⟨rfl,rfl⟩|⟨rfl,rfl⟩
     ·exact sn 0 (.ref 0 [] 0 qd) (by kernel_rfl)
     ·exact sn 1 (.bx 1 41 (.ref 0 [] 0 qd)) (by kernel_rfl)
     ·obtain⟨v,e1,e2,-⟩:=hf6.t 2 (.sn 2 .any) (by kernel_rfl);obtain⟨e3,-⟩:=id tc2;have e4:v=vc:=e2.trans e3.symm;refine⟨v,e1,?_⟩;rw[e4,hc0];exact ht6
     ·exact sn 3 (.ref 3 [] 0 y7) (by kernel_rfl)
     ·exact sn 6 (.ref 6 [] 0 yo) (by kernel_rfl)
     ·exact sn 24 (.v (.tok 4) q35 [(0,385)] []) (by kernel_rfl)
     ·rw[hc0];exact hf6.t 10 (.ref 10 [] 0 qk) (by kernel_rfl)
    ·have he:=qv he;simp only[z66,gnM] at he;rcases he with⟨rfl,rfl⟩|⟨rfl,rfl⟩
     ·rw[hc0];exact hc6
     ·rw[hc0];exact hf6.m 10 ⟨.tok 8,qk,[],[]⟩ (by kernel_rfl)
   have hbB:=qus (q:=qO) (F':=⟨fun _=>0,fun _=>0,(q0f c2 p2 s0 n8 W1 a9).F.fr⟩) hb6 hF0 fun _ h=>h;have hfB:=qst (q:=qO) hsf (by kernel_rfl) (by kernel_rfl);have hlen2:(o.length:Int)+1≤8796093021952:=by
    have:k<(yb s0 x0).length:=hkl;omega
   have pre:=qa0 (c:={c0 with A:=qd6 c0.A qO p6}) (z:=69) (some (w9.heap.size+1)) 3 .nil (fun te=>by rw[hc0];exact uQ _) rfl [zce] (n:=2) (ann:=q87) (R:=fun q=>q=[.r ((o++[(qz wk.val sk y).1]).map eC)]) (B:=fun _ _=>False) (ts:=[]) (ms:=z8i) (kill:=[]) (σk:=⟨qw9,[]⟩) (l:=[.r (o.map eC),eC (qz wk.val sk y).1]) (σ:=z66) (d:=[]) (w0:=W2) (S0:=pinned (unP qO p6)) (p:=unP qO p6) (Q:=fun _ _ _=>False)
    (K:=fun a2 W3=>KpN w9 (n8+1) m N B W W3∧WkI c2 p2 w9 W1 a9 m n8 wk s0 x0 o0 dw (k+1) W3.heap.size W3)
    (by
     show(q5p uA [] q87 c0.lo 69 [zce] 2 z66 (toN [] z8i [] ⟨qw9,[]⟩)).go _ _ _ _
     rw[show c0.lo=1 by rw[hc0];exact hlo,zi7];unfold zoy;rw[qp];refine⟨⟨?_,trivial⟩,?_⟩
     ·show(D.b (decide ((((o.map eC).length:Nat):Int)+1≤8796093021952))).tt=true
      rw[uB,q6x,gnD];exact hlen2
     ·show[D.r (o.map eC++[eC (qz wk.val sk y).1])]=_
      rw[vU];rfl) rfl (by rw[hc0];exact hbB) hfB hd5 hz5 (fun st p7 W3 a3 hR hst hb7 hf7 hd7 hz7=>?_)
   ·refine wpIn_mono pre fun e a3 W3 hq=>?_;cases e with
    |normal=>exact⟨hq.1,.inl ⟨rfl,hq.2⟩⟩
    |_=>exact hq.elim
   ·have hR:st=[.r ((o++[(qz wk.val sk y).1]).map eC)]:=hR;subst hR;rw[show q0z [] z8i 2 (jv [] z8i [] 2 ⟨qw9,[]⟩)=zmk from znb] at hf7;rw[hc0] at hb7;have hb7:Bs (qd6 (q0f c2 p2 s0 n8 W1 a9).A qO p6) ⟨fun _=>0,fun _=>0,(q0f c2 p2 s0 n8 W1 a9).F.fr⟩ W2 (pinned (unP qO p6)) p7 W3:=hb7;have hfl:∀x b,qO x=false→p6 x=some b→(q0f c2 p2 s0 n8 W1 a9).F.fl b=0:=fun x b hx hxb=>by
     rcases zu6 hx with rfl|rfl|rfl
     ·obtain⟨g,cs,T,hg,hh,hT,hcon⟩:=hsf.m 2 _ (by kernel_rfl:lkA z66.m 2=some ⟨.tok 0,zk,[(0,33)],[]⟩);rw[show p6 32=some g from hg] at hxb;injection hxb with hxb;subst hxb;exact zgk hb6.flo hh hT (by rw[←kB];exact hcon.len.1) (by kernel_rfl)
     ·exact hG6 b hxb
     ·obtain⟨g,cs,T,hg,hh,hT,hcon⟩:=hsf.m 10 _ (by kernel_rfl:lkA z66.m 10=some ⟨.tok 1,qk,[],[]⟩);rw[show p6 160=some g from hg] at hxb;injection hxb with hxb;subst hxb;exact zgk hb6.flo hh hT (by rw[←kB];exact hcon.len.1) (by kernel_rfl)
    have hflo:Flo (q0f c2 p2 s0 n8 W1 a9).F W1 W3:=hb6.flo.same fun b hb hfb=>qdi (q:=qO) (c:=q0f c2 p2 s0 n8 W1 a9) hb6 hb7 hb fun x hx hxb=>by
     have:=hfl x b hx hxb;omega
    have hb8:=z40 (q:=qO) (c:=q0f c2 p2 s0 n8 W1 a9) hb6 hb7 hflo;have hf7:SF {(c0.at (qb []) ([.r (o.map eC),eC (qz wk.val sk y).1]++[.r ((o++[(qz wk.val sk y).1]).map eC)])) with A:=qd6 c0.A qO p6} zmk p7 W3 a3:=hf7;have hf8:=z1v (c:=c0.at (qb []) ([.r (o.map eC),eC (qz wk.val sk y).1]++[.r ((o++[(qz wk.val sk y).1]).map eC)])) (q:=qO) (F:=(q0f c2 p2 s0 n8 W1 a9).F) (w0:=W1) (S0:=wkS p2 w9 n8 m) (w:=W2) (p:=p6) (by rw[hc0];exact hb6) (by rw[hc0];exact hb7) hf7 (by kernel_rfl) (by kernel_rfl)
    -- what was set aside
    have back:∀(x:AV)(v:Value),x.pd ((q0f c2 p2 s0 n8 W1 a9).at (qb (q19 s0)) (q9l wk sk o dw y++[eS (qz wk.val sk y).2.2.2,eC (qz wk.val sk y).1])) p6 W2 v→x.pins.all qO=true→x.keys.all qO=true→x.pd ((q0f c2 p2 s0 n8 W1 a9).at (qb (q19 s0)) (q9l wk sk o dw y++[eS (qz wk.val sk y).2.2.2,eC (qz wk.val sk y).1])) (q99 qO p6 p7) W3 v:=fun x v hx h1 h2=>z49 (c:=((q0f c2 p2 s0 n8 W1 a9).at (qb (q19 s0)) (q9l wk sk o dw y++[eS (qz wk.val sk y).2.2.2,eC (qz wk.val sk y).1]))) (q:=qO) hb6 hb7 hx h1 h2;have backE:∀(j:Nat)(e:Ent),q1s ((q0f c2 p2 s0 n8 W1 a9).at (qb (q19 s0)) (q9l wk sk o dw y++[eS (qz wk.val sk y).2.2.2,eC (qz wk.val sk y).1])) p6 W2 j e→qO (j * 16)=true→e.pins.all qO=true→q1s ((q0f c2 p2 s0 n8 W1 a9).at (qb (q19 s0)) (q9l wk sk o dw y++[eS (qz wk.val sk y).2.2.2,eC (qz wk.val sk y).1])) (q99 qO p6 p7) W3 j e:=fun j e hx h1 h2=>qt1 (c:=((q0f c2 p2 s0 n8 W1 a9).at (qb (q19 s0)) (q9l wk sk o dw y++[eS (qz wk.val sk y).2.2.2,eC (qz wk.val sk y).1]))) (q:=qO) hb6 hb7 hx h1 h2;have ha9:∀t,t<69→a9.tmps[t]? =some ((q0f c2 p2 s0 n8 W1 a9).snap t):=fun t ht=>by
     show _=some (a9.tmps.getD t Go.undef)
     rw[uG,vE (by omega)];rfl
    have hfin:SF ((q0f c2 p2 s0 n8 W1 a9).at (qb (q19 s0)) [eW wk,eS (qz wk.val sk y).2.2.2,.r ((o++[(qz wk.val sk y).1]).map eC),.i 0,dw]) z4d (q99 qO p6 p7) W3 a9:=by
     refine⟨fun t x hx=>?_,fun j e he=>?_⟩
     ·have hx:=qv hx;have old:∀t z,lkA zaa.t t=some (.sn t z)→t<69→z.pins.all qO=true→z.keys.all qO=true→∃v,a9.tmps[t]? =some v∧(AV.sn t z).pd ((q0f c2 p2 s0 n8 W1 a9).at (qb (q19 s0)) (q9l wk sk o dw y++[eS (qz wk.val sk y).2.2.2,eC (qz wk.val sk y).1])) (q99 qO p6 p7) W3 v:=fun t z hl ht h1 h2=>by
       obtain⟨v,e1,e2⟩:=hf6.t t _ hl;obtain⟨e3,-⟩:=id e2;have e3:v=(q0f c2 p2 s0 n8 W1 a9).snap t:=e3;exact⟨v,by rw[e3];exact ha9 t ht,back _ _ e2 h1 h2⟩
      simp only[z4d,qp6,gnM] at hx;rcases hx with⟨rfl,rfl⟩|⟨rfl,rfl⟩|⟨rfl,rfl⟩|⟨rfl,rfl⟩|⟨rfl,rfl⟩|⟨rfl,rfl⟩
      ·exact old 0 (.ref 0 [] 0 qd) (by kernel_rfl) (by decide) (by kernel_rfl) (by kernel_rfl)
      ·exact old 1 (.bx 1 41 (.ref 0 [] 0 qd)) (by kernel_rfl) (by decide) (by kernel_rfl) (by kernel_rfl)
      ·obtain⟨v,e1,e2⟩:=hf8.t 2 (.sn 2 (.ref 2 [] 0 zk)) (by kernel_rfl);rw[hc0] at e2;obtain⟨e3,-⟩:=id e2;have e3:v=(q0f c2 p2 s0 n8 W1 a9).snap 2:=e3;exact⟨v,by rw[e3];exact ha9 2 (by decide),e2⟩
      ·exact old 3 (.ref 3 [] 0 y7) (by kernel_rfl) (by decide) (by kernel_rfl) (by kernel_rfl)
      ·exact old 6 (.ref 6 [] 0 yo) (by kernel_rfl) (by decide) (by kernel_rfl) (by kernel_rfl)
      ·exact old 24 (.v (.tok 4) q35 [(0,385)] []) (by kernel_rfl) (by decide) (by kernel_rfl) (by kernel_rfl)
     ·have he:=qv he;simp only[z4d,zjm,gnM] at he;rcases he with⟨rfl,rfl⟩|⟨rfl,rfl⟩|⟨rfl,rfl⟩|⟨rfl,rfl⟩
      ·exact backE 0 _ (hf6.m 0 _ (by kernel_rfl:lkA zaa.m 0=some ⟨.tok 7,qd,qn 0 qd,[]⟩)) (by kernel_rfl) (by kernel_rfl)
      ·have:=hf8.m 2 _ (by kernel_rfl:lkA zmk.m 2=some ⟨.tok 2,zk,[(0,33)],[]⟩);rw[hc0] at this;exact this
      ·exact backE 3 _ (hf6.m 3 _ (by kernel_rfl:lkA zaa.m 3=some ⟨.tok 3,y7,[],[]⟩)) (by kernel_rfl) (by kernel_rfl)
      ·exact backE 6 _ (hf6.m 6 _ (by kernel_rfl:lkA zaa.m 6=some ⟨.tok 0,yo,[],[]⟩)) (by kernel_rfl) (by kernel_rfl)
    refine⟨⟨by have h1:=hbu6.1;have h2:=hb7.but.size;omega,fun b hlt hb=>?_⟩,by have h1:=hbu6.1;have h2:=hb7.but.size;omega,uC _,_,_,_,⟨hrun,hok,hgr.trans (qzx hv).1,by simp;omega⟩,hb8,hfin,fun x b hx=>hb8.bd x b hx,fun b hb=>?_⟩
    ·have h1:=hbu6.1;refine(hb7.but.block b (by omega) ?_).trans (hbu6.2 b hlt hb);rintro⟨q,hq⟩;have hq:=(q6p hq).2;rcases hb with hb|hb
     ·have:=hp6 q b hq;omega
     ·exact hAh b (hb6.pa q b hq) hb
    ·have hb:p7 33=some b:=hb;rcases qag (q:=qO) (c:=q0f c2 p2 s0 n8 W1 a9) hb6 hb7 hb with⟨x,hx,hxb⟩|hlt
     ·exact hfl x b hx hxb
     ·refine hfl0 hflo ?_;have:=hb6.but.size;omega
  ·-- the put fails
   rw[qos] at hrun;rw[if_neg he] at hrun;rw[zbj];refine q2g ql5 ?_;refine qba (c:=q0f c2 p2 s0 n8 W1 a9) (z:=69) (some (w9.heap.size+1)) 3 (z2o s0) hfm (z3u s0) ql5 (n:=7) (ann:=q87) (R:=fun q=>q=[eS (qz wk.val sk y).2.2.2,.r [],.i (qz wk.val sk y).2.2.1]) (B:=fun _ _=>False) (d:=[]) (l:=q9l wk sk o dw y) (σ:=z9k) (k:=zqx) (by
     show(q5p uA (q19 s0) q87 c2.lo 69 ql5 7 z9k zqx).go _ _ _ _
     rw[hlo];have e:=zq5 s0.cs.length s0.ys.length s0.tr.length s0.wk.length;unfold q19;rw[e];exact zum hv hgr he rfl) rfl hb4.anew hf4 hd4 hz4 fun n' r σ' l' B' p' w' a' hl' hpre hgo hb' hf' hd' hz'=>?_
   cases r with
   |normal=>exact hgo.elim
   |exit i=>exact hgo.elim
   | ret =>
    obtain⟨st,p5,hR,-,hb5,hf5⟩:=qlh (n':=n') (c:=q0f c2 p2 s0 n8 W1 a9) hgo hpre rfl hb' hf';have hR:st=[eS (qz wk.val sk y).2.2.2,.r [],.i (qz wk.val sk y).2.2.1]:=hR;subst hR;rw[show q0z [] zf6 7 (jv [] zf6 [] 7 zrl)=zpu from zlx] at hf5;refine⟨hKp hb5.but fun b h=>h,.inr ⟨rfl,?_⟩⟩;unfold WkJ;rw[←hrun];exact⟨he,p5,q9l wk sk o dw y,hb4.comp hb5,hf5.snapA (by rw[hz];kernel_rfl) fun t ht=>by
     show _=some (a9.tmps.getD t Go.undef)
     rw[uG,vE ht];rfl,rfl⟩
 ·rintro W W'⟨he,p3,l,hb3,hf3,hl⟩hb;obtain⟨q1,q2⟩:=qrx hSh hAh hFh hb3 hb;exact⟨he,p3,l,q1,SF.same q2 hf3,hl⟩
end
end
variable{ops:Array Oper}{rest:List Oper}{y:Operand}{Q:Exit→Act→World→Prop}
section
open Go.RowKit Go.Shelf
section
variable{w:World}{a:Act}{o:Oper}{v u:Value}
theorem zfm{Q:Act→Prop}(hg:o.guard=none)(h:(execOp a.eval o).run uA w=.ok (.value v) w)(hk:wpStill uA ops w Q rest (a.put o.dst v)):wpStill uA ops w Q (o::rest) a:=by
 unfold wpStill;rw[if_pos (by simp[Region.wanted,hg])];unfold Oper.still;rw[h];exact⟨rfl,hk⟩
theorem qp2{t:Nat}(h:a.tmps[t]? =some v):a.eval (.tmp t)=v:=by
 show a.tmps.getD t undef=v
 rw[uG,h];rfl
theorem qfq{k t:Nat}(h:k≠t):(a.put (some k) v).tmps[t]? =a.tmps[t]? :=by
 simp only[Act.put];rw[uF h]
theorem z00{k:Nat}(h:k<a.tmps.size):(a.put (some k) v).tmps[k]? =some v:=by
 simp only[Act.put];rw[Array.getElem?_setIfInBounds_self,if_pos h]
theorem q9u{k:Option Nat}:(a.put k v).tmps.size=a.tmps.size:=by
 cases k<;>simp[Act.put]
theorem z0c{k:Option Nat}:(a.put k v).defers=a.defers:=by
 cases k<;>simp[Act.put]
theorem z9x(heq:o.op=.load T y)(hy:a.eval y=u)(hr:(Instr.loadAt T u).run uA w=.ok v w):(execOp a.eval o).run uA w=.ok (.value v) w:=by
 subst hy;generalize a.eval=r at *;simp[execOp,heq,hr]
theorem zl8{j:Nat}(heq:o.op=.fieldAddr T y j)(hy:a.eval y=u)(hr:(Instr.fieldAt T u j).run uA w=.ok v w):(execOp a.eval o).run uA w=.ok (.value v) w:=by
 subst hy;generalize a.eval=r at *;simp[execOp,heq,hr]
theorem zv0{ad:Addr}(heq:o.op=.nilCheck y)(hy:a.eval y=.pointer (some ad)):(execOp a.eval o).run uA w=.ok (.value (.pointer (some ad))) w:=by
 generalize a.eval=r at *;simp[execOp,heq,hy]
end
section
variable{w:World}{a:Act}{g1 gs g6:Nat}{v0 v1 v2 v3 v4 v5 u0 u1 u2 u3 u4:Value}{T1 T T6:TypeId}{d d6:D}{F0 F6:Nat→Prop}
set_option maxHeartbeats 1000000 in
theorem zuh(hz:a.tmps.size=69)(e1:a.tmps[1]? =some (.pointer (some ⟨g1,0,none⟩)))(hg1:w.heap[g1]? =some (.cells #[.pointer (some ⟨gs,0,none⟩)] T1 (0,0)))(hgs:w.heap[gs]? =some (.cells #[v0,v1,v2,v3,v4,v5] T (0,0)))(rd:Rd w F0 d qd [v0,v1,v2,v3,v4,v5])
  (e6:a.tmps[6]? =some (.pointer (some ⟨g6,0,none⟩)))(hg6:w.heap[g6]? =some (.cells #[u0,u1,u2,u3,u4] T6 (0,0)))(rd6:Rd w F6 d6 qk [u1,u2])
  (hk:∀a',a'.defers=a.defers→a'.tmps.size=69→(∀t,t<30→a'.tmps[t]? =a.tmps[t]?)→a'.tmps[35]? =some (.func (.func 94) #[] #[ptV w.heap.size,ptV (w.heap.size+1)])→
   Q .normal a' ((w.drew.alloc (.cells #[v0,v1,v2,v3,v4,v5] 27)).alloc (.cells #[u1,u2] 29))):wkY.wp uA Q a w:=by
 rw[zn4];refine wp_region_still_tail 5 (by kernel_rfl) (by kernel_rfl) ?_;generalize zjv.toArray=ops
 show wpStill uA ops w.drew (fun a'=>wpList uA ops Q (zjv.drop 5) a' w.drew) (zjv.take 5) a
 simp only[zjv,List.take_succ_cons,List.take_zero,List.drop_succ_cons,vD];refine zfm rfl (z9x (v:=.pointer (some ⟨gs,0,none⟩)) rfl (qp2 e1) (qe0 (by kernel_rfl) (show w.drew.heap[g1]? =_ from hg1))) ?_;refine zfm rfl (zv0 (ad:=⟨gs,0,none⟩) rfl (qp2 (z00 (by omega)))) ?_;obtain⟨va,hva,hpa⟩:=q8n (w:=w.drew) (F:=F0) (T:=27) (t:=qd) (by kernel_rfl) (b:=gs) (o:=0) (cs:=[v0,v1,v2,v3,v4,v5]) (fun i v hv=>by
  rw[qdv (show w.drew.heap[gs]? =_ from hgs),kM];simpa using hv) (d:=d) (Rd.keeps (w:=w) (w':=w.drew) (F:=F0) (F':=F0) (fun b o h ho=>⟨ho,h⟩) _ rd)
 have hpa:va=.agg #[v0,v1,v2,v3,v4,v5]:=hpa;subst hpa;refine zfm rfl (z9x rfl (qp2 (z00 (by rw[q9u];omega))) hva) ?_;refine zfm rfl (zl8 (v:=.pointer (some ⟨g6,1,none⟩)) (u:=.pointer (some ⟨g6,0,none⟩)) rfl (qp2 (by
  rw[qfq (by decide),qfq (by decide),qfq (by decide)];exact e6)) (by
  have h:=qas (w:=w.drew) (T:=73) (S:=match yo with|.st S=>S|_=>0) (by kernel_rfl) (fs:=[.int .i64,qk,qk]) (by kernel_rfl) (j:=1) (t:=qk) rfl g6 0;exact h)) ?_
 obtain⟨vb,hvb,hpb⟩:=q8n (w:=w.drew) (F:=F6) (T:=29) (t:=qk) (by kernel_rfl) (b:=g6) (o:=1) (cs:=[u1,u2]) (fun i v hv=>by
  rw[qdv (show w.drew.heap[g6]? =_ from hg6)];rcases i with _|_|i
  ·exact hv
  ·exact hv
  ·cases hv) (d:=d6) (Rd.keeps (w:=w) (w':=w.drew) (F:=F6) (F':=F6) (fun b o h ho=>⟨ho,h⟩) _ rd6)
 have hpb:vb=.agg #[u1,u2]:=hpb;subst hpb;refine zfm rfl (z9x rfl (qp2 (z00 (by rw[q9u,q9u,q9u];omega))) hvb) ?_;refine wpStill_nil ?_
 -- the call
 obtain⟨a5,ha5⟩:∃a5:Act,a5=((((a.put (some 30) (.pointer (some ⟨gs,0,none⟩))).put (some 31) (.pointer (some ⟨gs,0,none⟩))).put (some 32) (.agg #[v0,v1,v2,v3,v4,v5])).put (some 33) (.pointer (some ⟨g6,1,none⟩))).put (some 34) (.agg #[u1,u2]):=⟨_,rfl⟩;have h32:a5.eval (.tmp 32)=.agg #[v0,v1,v2,v3,v4,v5]:=qp2 (by
  rw[ha5,qfq (by decide),qfq (by decide),z00 (by rw[q9u,q9u];omega)])
 have h34:a5.eval (.tmp 34)=.agg #[u1,u2]:=qp2 (by
  rw[ha5,z00 (by rw[q9u,q9u,q9u,q9u];omega)])
 have h5z:a5.tmps.size=69:=by rw[ha5,q9u,q9u,q9u,q9u,q9u];exact hz
 have h5d:a5.defers=a.defers:=by rw[ha5,z0c,z0c,z0c,z0c,z0c]
 have h5t:∀t,t<30→a5.tmps[t]? =a.tmps[t]? :=fun t ht=>by
  rw[ha5,qfq (by omega),qfq (by omega),qfq (by omega),qfq (by omega),qfq (by omega)]
 show wpList uA ops Q _ _ w.drew
 rw[show((((a.put (some 30) (.pointer (some ⟨gs,0,none⟩))).put (some 31) (.pointer (some ⟨gs,0,none⟩))).put (some 32) (.agg #[v0,v1,v2,v3,v4,v5])).put (some 33) (.pointer (some ⟨g6,1,none⟩))).put (some 34) (.agg #[u1,u2])=a5 from ha5.symm];unfold wpList;rw[if_pos (by simp[Region.wanted])];refine .inl ?_;unfold Oper.wp;rw[show(execOp a5.eval _).run uA w.drew=.ok (.enter 63 #[.agg #[v0,v1,v2,v3,v4,v5],.agg #[u1,u2]]) w.drew by
  have hen:=z6q (63,94,27,29) (by simp[qzs]) #[.agg #[v0,v1,v2,v3,v4,v5],.agg #[u1,u2]] w.drew;have hfv:a5.eval (.func 63)=.func (.func 63) #[] #[]:=rfl;generalize a5.eval=r at *;simp[execOp,resolve,Deferred.ofValue,hfv,invoke,h32,h34,hen]]
 show Calls uA 63 _ w.drew _
 refine(zcr w.drew v0 v1 v2 v3 v4 v5 u1 u2).mono ?_;rintro e w'⟨rfl,rfl⟩
 show wpList uA ops Q [] (a5.put (some 35) _) _
 refine hk _ (by rw[z0c];exact h5d) (by rw[q9u];exact h5z) (fun t ht=>by rw[qfq (by omega)];exact h5t t ht) (z00 (by omega))
end
end
variable{F:Nat→Prop}
section
open Go.RowKit Go.Shelf
theorem zv3{w:World}{k:Wk}(h:Rd w F (eW k) yo cs):cs=[.int .i64 k.ser,.int .i64 k.att.t,.int .i64 k.att.n,.int .i64 k.val.t,.int .i64 k.val.n]∧Rd w F (eC k.att) qk [.int .i64 k.att.t,.int .i64 k.att.n]∧k.att.ok:=by
 have hfl:flds (match yo with|.st S=>S|_=>0)=some [.int .i64,qk,qk]:=by kernel_rfl
 obtain⟨l,e,hF⟩:=Ins.of_rdS hfl h;injection e with e;subst e;obtain⟨d,l',c1,c2,e1,rfl,h1,hG⟩:=Ins.of_rdF hF;obtain⟨d2,l2,c3,c4,e2,rfl,h2,hH⟩:=Ins.of_rdF hG;obtain⟨d3,l3,c5,c6,e3,rfl,h3,hI⟩:=Ins.of_rdF hH;obtain⟨rfl,rfl⟩:=Ins.of_rdN hI;injection e1 with e1 e1';subst e1 e1';injection e2 with e2 e2';subst e2 e2';injection e3 with e3 _;subst e3;obtain⟨n1,-,q1,rfl⟩:=Ins.of_rdI h1;injection q1 with q1;subst q1;have hok:=zd0 h2;obtain rfl:=z09 h2;obtain rfl:=z09 h3;exact⟨rfl,h2,hok⟩
noncomputable def zu4:Nat:=match wkF with
 |.rangeFunc _ _ _ (.block i _)=>i
 |_=>0
theorem zr3:wkF=.rangeFunc (.tmp 35) #[36,37] zjn (.block zu4 zab):=by kernel_rfl
theorem ItOk.blk{w:World}{n bs bc m:Nat}{ti tx:Tmp}{assign body:Code}{css:List Value}{s:So}{c0:Ce}{I:Nat→Nat→World→Prop}{M:Nat→Nat→Nat→Act→World→Prop}{J:World→Prop}(h:ItOk w a n bs bc m ti tx assign body css s c0 I M J)(i:Nat):ItOk w a n bs bc m ti tx assign (.block i body) css s c0 I M J:=
 ⟨h.rd,h.step,h.assign,h.mstep,fun k N B a1 W hk hM=>wpIn_block (wpIn_mono (h.body k N B a1 W hk hM) fun e a w hq=>by
  rcases hq with⟨h1,⟨rfl,h2⟩|⟨rfl,h2⟩⟩
  ·exact⟨h1,.inl ⟨rfl,h2⟩⟩
  ·exact⟨h1,.inr ⟨rfl,h2⟩⟩),h.stop⟩
section
variable{c2:Cx}{p8:qg}{w8:World}{a8:Act}{s sk:So}{ws kk:D}{o:List Ce}{wk:Wk}{i2:Nat}
set_option maxHeartbeats 2000000 in
theorem zif(hlo:c2.lo=1)(hfz:∀te,c2.F.mx te=0)(hb:Bs c2.A c2.F w8 (pinned p8) p8 w8)(hf:SF (c2.at (qb q5q) [eS s,ws,kk,eS sk,.r (o.map eC),.i 0,eS sk,.r (o.map eC),.i 0,eW wk]) zmc p8 w8 a8)(hz:a8.tmps.size=69)(hok:qcj wk.val sk (yb sk wk.att)=true)(hob:o.length+(yb sk wk.att).length+1≤8796093021952)(so:sk.ok)
  (hN:∀A3 p' W' a' D,(∀b,A3 b→c2.A b)→¬A3 D→w8.heap.size≤D→W'.heap[D]? =some (.deferred (some []))→a'.defers=qom D::a8.defers→a'.tmps.size=69→(∀b,b<w8.heap.size→¬pinned p8 b→W'.heap[b]? =w8.heap[b]?)→Bs c2.A c2.F w8 (pinned p8) p' W'→Bs A3 c2.F W' (pinned p') p' W'→
   (ye wk.val sk o (yb sk wk.att)).2.2=0→SF (({c2 with A:=A3}:Cx).at (qb q5q) [eS s,ws,kk,eS (ye wk.val sk o (yb sk wk.att)).1,.r ((ye wk.val sk o (yb sk wk.att)).2.1.map eC),.i 0]) q6l p' W' a'→(ye wk.val sk o (yb sk wk.att)).2.1.length≤o.length+(yb sk wk.att).length→Q .normal a' W')
  (hR:∀A3 p' W' a' D,(∀b,A3 b→c2.A b)→¬A3 D→w8.heap.size≤D→W'.heap[D]? =some (.deferred (some []))→a'.defers=qom D::a8.defers→a'.tmps.size=69→(∀b,b<w8.heap.size→¬pinned p8 b→W'.heap[b]? =w8.heap[b]?)→Bs c2.A c2.F w8 (pinned p8) p' W'→Bs A3 c2.F W' (pinned p') p' W'→
   ¬(ye wk.val sk o (yb sk wk.att)).2.2=0→SF (({c2 with A:=A3}:Cx).at (qb q5q) [eS s,eS (ye wk.val sk o (yb sk wk.att)).1,.r [],.i (ye wk.val sk o (yb sk wk.att)).2.2]) wkE p' W' a'→Q .ret a' W'):
  (Code.seq wkY (.block i2 wkF)).wpIn (FR none) 5 uA Q a8 w8:=by
 -- what is known before the copies
 obtain⟨g1',t1,g1,u1,⟨hp1,-⟩,rfl,hg1,gs',hgs',rfl,-⟩:=hf.t 1 (.bx 1 41 (.ref 0 [] 0 qd)) (by kernel_rfl);obtain⟨gs,cs,T,hgs,hh,hT,hcon⟩:=hf.m 0 ⟨.tok 6,qd,qn 0 qd,[]⟩ (by kernel_rfl);have hcon:Con c2.A p8 w8 (eS sk) qd (qn 0 qd) [] cs.toList:=hcon;have hgs':p8 (0 * 16)=some gs':=hgs';rw[hgs] at hgs';injection hgs' with hgs';subst hgs';obtain⟨v0,v1,v2,v3,ecs,q0,q1,q2,q3,r1,r2⟩:=z95 hcon;obtain⟨cs⟩:=cs;have ecs:cs=_:=ecs;subst ecs;have rd0:Rd w8 (FFD c2.A p8 ([]++(qn 0 qd).map (·.2))) (eS sk) qd [v0,v1,v2,v3,.int .i64 sk.ser,.int .i64 sk.mx]:=Con.rd hcon (fun x hx=>List.mem_append_left _ hx) (fun x hx=>List.mem_append_right _ hx);obtain⟨g6',t6,g6,hp6,rfl,-⟩:=hf.t 6 (.ref 6 [] 0 yo) (by kernel_rfl);obtain⟨gw,csw,Tw,hgw,hhw,hTw,hcw⟩:=hf.m 6 ⟨.tok 9,yo,[],[]⟩ (by kernel_rfl);have hp6:p8 (6 * 16)=some g6:=hp6;rw[hp6] at hgw;injection hgw with hgw;subst hgw;have rdw:Rd w8 (FFD c2.A p8 []) (eW wk) yo csw.toList:=Con.rd (show Con c2.A p8 w8 (eW wk) yo [] [] csw.toList from hcw) (fun _ h=>h) (fun _ h=>nomatch h);obtain⟨ecw,rda,wo⟩:=zv3 rdw;obtain⟨csw⟩:=csw;have ecw:csw=_:=ecw;subst ecw;refine wpIn_seq ((wpIn_wide (n:=5)).2 (zuh hz t1 hg1 hh rd0 t6 hhw rda fun a9 hd9 hz9 ht9 h35=>?_));obtain⟨w9,hw9⟩:∃w9,w9=((w8.drew.alloc (.cells #[v0,v1,v2,v3,.int .i64 sk.ser,.int .i64 sk.mx] 27)).alloc (.cells #[.int .i64 wk.att.t,.int .i64 wk.att.n] 29)):=⟨_,rfl⟩;rw[←hw9];have h9s:w9.heap.size=w8.heap.size+2:=by rw[hw9];simp
 have hb9:But Nil w8 w9:=by rw[hw9];exact(((But.refl _ _).drew).alloc _).alloc _
 have h9a:w9.heap[w8.heap.size]? =some (.cells #[v0,v1,v2,v3,.int .i64 sk.ser,.int .i64 sk.mx] 27 (0,0)):=by rw[hw9];exact q0a (q03 rfl)
 have h9b:w9.heap[w8.heap.size+1]? =some (.cells #[.int .i64 wk.att.t,.int .i64 wk.att.n] 29 (0,0)):=by rw[hw9];exact q03 (by simp)
 clear hw9
 show(Code.block i2 wkF).wpIn (FR none) 5 uA Q a9 w9
 refine wpIn_block ?_;rw[zr3];obtain⟨r,hr⟩:∃r,r=ye wk.val sk o (yb sk wk.att):=⟨_,rfl⟩;rw[←hr] at hN hR;have rd9:Rd w9 (fun b=>b≠w8.heap.size+1) (eS sk) qd [v0,v1,v2,v3,.int .i64 sk.ser,.int .i64 sk.mx]:=Rd.keeps (fun b o _ ho=>⟨(hb9.block b (uH.1 ho).1 (fun h=>h)).trans ho,by have:b<w8.heap.size:=(uH.1 ho).1;omega⟩) _ rd0;refine zhw (nn:=5) (bs:=w8.heap.size) (bc:=w8.heap.size+1) (css:=[v0,v1,v2,v3,.int .i64 sk.ser,.int .i64 sk.mx]) (s:=sk) (c0:=wk.att) (by omega) (qp2 h35) (by omega) ⟨_,h9a⟩ rd9 so ⟨_,by kernel_rfl,h9b⟩ wo fun m W1 hbut hm1 hm2=>?_;have hw1:=hbut.size;have hbut8:But Nil w8 W1:=hb9.trans_nil hbut;have hp8:∀x b,p8 x=some b→b<w8.heap.size:=hb.bd
 -- the facts at the first round
 have hst:Stab (wkA c2.A w8.heap.size W1.heap.size) no no p8 w8 p8 W1:=⟨hbut8.size,fun b hlt _ hfr=>⟨hbut8.block b hlt fun h=>h,hfr⟩,fun _ _ _ h=>h,fun x b _ hx=>hbut8.block b (hp8 x b hx) fun h=>h⟩;have hf1:SF (({(c2.at (qb q5q) [eS s,ws,kk,eS sk,.r (o.map eC),.i 0,eS sk,.r (o.map eC),.i 0,eW wk]) with A:=wkA c2.A w8.heap.size W1.heap.size}:Cx)) zmc p8 W1 a8:=SF.same hst (SF.chP (A':=wkA c2.A w8.heap.size W1.heap.size) (fun b hb hA _=>⟨hA,.inl hb⟩) hf);have sn9:∀t v,t<30→a8.tmps[t]? =some v→a9.tmps[t]? =some v∧v=a9.tmps.getD t Go.undef:=fun t v ht h=>by
  have h':=(ht9 t ht).trans h;refine⟨h',?_⟩;rw[uG,h'];rfl
 have hf0:SF ((q0f c2 p8 sk w8.heap.size W1 a9).at (qb (q19 sk)) [eW wk,eS sk,.r (o.map eC),.i 0,ws]) z4d p8 W1 a9:=by
  refine⟨fun t x hx=>?_,fun j e he=>?_⟩
  ·have hx:=qv hx;simp only[z4d,qp6,gnM] at hx;rcases hx with⟨rfl,rfl⟩|⟨rfl,rfl⟩|⟨rfl,rfl⟩|⟨rfl,rfl⟩|⟨rfl,rfl⟩|⟨rfl,rfl⟩
   ·obtain⟨v,e1,e2⟩:=hf1.t 0 (.ref 0 [] 0 qd) (by kernel_rfl);obtain⟨e3,e4⟩:=sn9 0 v (by decide) e1;exact⟨v,e3,e4,e2⟩
   ·obtain⟨v,e1,e2⟩:=hf1.t 1 (.bx 1 41 (.ref 0 [] 0 qd)) (by kernel_rfl);obtain⟨e3,e4⟩:=sn9 1 v (by decide) e1;exact⟨v,e3,e4,e2⟩
   ·obtain⟨v,e1,e2⟩:=hf1.t 2 (.ref 2 [] 0 zk) (by kernel_rfl);obtain⟨e3,e4⟩:=sn9 2 v (by decide) e1;exact⟨v,e3,e4,e2⟩
   ·obtain⟨v,e1,-,e2⟩:=hf1.t 3 (.sn (VB+3) (.ref 3 [] 0 y7)) (by kernel_rfl);obtain⟨e3,e4⟩:=sn9 3 v (by decide) e1;exact⟨v,e3,e4,e2⟩
   ·obtain⟨v,e1,e2⟩:=hf1.t 6 (.ref 6 [] 0 yo) (by kernel_rfl);obtain⟨e3,e4⟩:=sn9 6 v (by decide) e1;exact⟨v,e3,e4,e2⟩
   ·obtain⟨v,e1,e2⟩:=hf1.t 24 (.v (.tok 1) q35 [(0,385)] []) (by kernel_rfl);obtain⟨e3,e4⟩:=sn9 24 v (by decide) e1;exact⟨v,e3,e4,e2⟩
  ·have he:=qv he;simp only[z4d,zjm,gnM] at he;rcases he with⟨rfl,rfl⟩|⟨rfl,rfl⟩|⟨rfl,rfl⟩|⟨rfl,rfl⟩
   ·exact hf1.m 0 ⟨.tok 6,qd,qn 0 qd,[]⟩ (by kernel_rfl)
   ·exact hf1.m 2 ⟨.tok 7,zk,[(0,33)],[]⟩ (by kernel_rfl)
   ·exact hf1.m 3 ⟨.tok 8,y7,[],[]⟩ (by kernel_rfl)
   ·exact hf1.m 6 ⟨.tok 9,yo,[],[]⟩ (by kernel_rfl)
 have hbs:∀F:Flr,F.fr=c2.F.fr→Flo F W1 W1→Bs (wkA c2.A w8.heap.size W1.heap.size) F W1 (wkS p8 w9 w8.heap.size m) p8 W1:=fun F hfr hF=>
  ⟨hb.inj,fun x b hx=>uE (hp8 x b hx) hbut8.size,But.refl _ _,fun x b hx=>.inl (.inl ⟨x,hx⟩),fun b hb'=>⟨⟨(hb.new b (by omega)).1,.inr hb'⟩,by rw[hfr];exact(hb.new b (by omega)).2⟩,fun x b hx=>⟨hb.pa x b hx,.inl (hp8 x b hx)⟩,fun x b hx=>(hb.obj x b hx).same (hbut8.block b (hp8 x b hx) fun h=>h),hF⟩
 have hAD:¬wkA c2.A w8.heap.size W1.heap.size w9.heap.size:=fun h=>by
  have:=h.2;omega
 have hSp:∀b,wkS p8 w9 w8.heap.size m b→pinned p8 b∨w8.heap.size≤b:=by
  rintro b(h|h)
  ·exact .inl h
  ·unfold q4f at h;exact .inr (by omega)
 -- the end of the range
 have hval:∀{W:World}{p3:qg}{t:Nat}{x:X}{l:List D},t<30→lkA zmc.t t=some (.v x (.int .i64) [] [])→(x.ev (evl (qb q5q) [eS s,ws,kk,eS sk,.r (o.map eC),.i 0,eS sk,.r (o.map eC),.i 0,eW wk])=x.ev (evl (qb q5q) l))→∃v,a9.tmps[t]? =some v∧(AV.v x (.int .i64) [] []).pd (({c2 with A:=wkA c2.A w8.heap.size W1.heap.size}:Cx).at (qb q5q) l) p3 W v:=fun{W p3 t x l}ht hx he=>by
  obtain⟨v,e1,cs,e2,e3⟩:=hf.t t _ hx;refine⟨v,(sn9 t v ht e1).1,cs,e2,?_⟩;rw[show x.ev (c2.at (qb q5q) _).v=x.ev (evl (qb q5q) l) from he] at e3;exact Con.of_rd (Rd.flat 8 _ (by kernel_rfl) (Con.rd e3 (dep':=[]) (fun _ h=>h) (fun _ h=>nomatch h)))
 have hbsW:∀(F:Flr)p3 W,F.fr=c2.F.fr→Bs (wkA c2.A w8.heap.size W1.heap.size) F W1 (wkS p8 w9 w8.heap.size m) p3 W→Bs c2.A c2.F w8 (pinned p8) p3 W∧Bs (wkA c2.A w8.heap.size W1.heap.size) c2.F W (pinned p3) p3 W∧∀b,b<w8.heap.size→¬pinned p8 b→W.heap[b]? =w8.heap[b]? :=fun F p3 W hfr h3=>by
  have h1:=h3.but.size;have hbW:But (pinned p8) w8 W:=(But.mono hbut8 fun _ h _=>h.elim).trans h3.but fun b hS hlt=>by
   rcases hSp b hS with h|h
   ·exact .inl h
   ·exact .inr h
  refine⟨⟨h3.inj,h3.bd,hbW,fun x b hx=>?_,hb.new,fun x b hx=>(h3.pa x b hx).1,h3.obj,Flo.of0 hfz hb.flo⟩,⟨h3.inj,h3.bd,But.refl _ _,fun x b hx=>.inl ⟨x,hx⟩,fun b hb'=>⟨(h3.new b (by omega)).1,(hb.new b (by omega)).2⟩,h3.pa,h3.obj,Flo.of0 hfz hb.flo⟩,fun b hlt hn=>hbW.block b hlt hn⟩;rcases h3.pin x b hx with h|h
  ·exact hSp b h
  ·exact .inr (by omega)
 have fin:∀(F:Flr)p3 W sk' o',F.fr=c2.F.fr→Bs (wkA c2.A w8.heap.size W1.heap.size) F W1 (wkS p8 w9 w8.heap.size m) p3 W→SF ((q0f c2 p8 sk w8.heap.size W1 a9).at (qb (q19 sk)) [eW wk,eS sk',.r (o'.map eC),.i 0,ws]) z4d p3 W a9→W.heap[w9.heap.size]? =some (.deferred (some []))→r=(sk',o',0)→o'.length≤o.length+(yb sk wk.att).length→Q .normal {a9 with defers:={target:=.collected w9.heap.size,args:= #[]}::a9.defers} W:=fun F p3 W sk' o' hfr h3 hs hD hre hol=>by
  obtain⟨b1,b2,b3⟩:=hbsW F p3 W hfr h3;have e1:r.1=sk':=by rw[hre]
  have e2:r.2.1=o':=by rw[hre]
  have e3:r.2.2=0:=by rw[hre]
  refine hN _ p3 W _ w9.heap.size (fun b h=>h.1) hAD (by omega) hD (by show _::a9.defers=_;rw[hd9];rfl) hz9 b3 b1 b2 e3 ?_ (by rw[e2];exact hol);rw[e1,e2];refine⟨fun t x hx=>?_,fun j e he=>?_⟩
  ·have hx:=qv hx;simp only[q6l,gnM] at hx;rcases hx with⟨rfl,rfl⟩|⟨rfl,rfl⟩|⟨rfl,rfl⟩|⟨rfl,rfl⟩|⟨rfl,rfl⟩|⟨rfl,rfl⟩|⟨rfl,rfl⟩
   ·obtain⟨v,e1,-,e2⟩:=hs.t 0 (.sn 0 (.ref 0 [] 0 qd)) (by kernel_rfl);exact⟨v,e1,e2⟩
   ·obtain⟨v,e1,-,e2⟩:=hs.t 1 (.sn 1 (.bx 1 41 (.ref 0 [] 0 qd))) (by kernel_rfl);exact⟨v,e1,e2⟩
   ·obtain⟨v,e1,-,e2⟩:=hs.t 2 (.sn 2 (.ref 2 [] 0 zk)) (by kernel_rfl);exact⟨v,e1,e2⟩
   ·obtain⟨v,e1,-,e2⟩:=hs.t 3 (.sn 3 (.ref 3 [] 0 y7)) (by kernel_rfl);obtain⟨v',f1,f2,-⟩:=hf.t 3 (.sn (VB+3) (.ref 3 [] 0 y7)) (by kernel_rfl);have f3:=(sn9 3 v' (by decide) f1).1;have e1':a9.tmps[3]? =some v:=e1;rw[f3] at e1';injection e1' with e1';subst e1';exact⟨v',f3,f2,e2⟩
   ·obtain⟨v,e1,-,e2⟩:=hs.t 24 (.sn 24 (.v (.tok 4) q35 [(0,385)] [])) (by kernel_rfl);exact⟨v,e1,e2⟩
   ·exact hval (by decide) (by kernel_rfl) rfl
   ·exact hval (by decide) (by kernel_rfl) rfl
  ·have he:=qv he;simp only[q6l,gnM] at he;rcases he with⟨rfl,rfl⟩|⟨rfl,rfl⟩|⟨rfl,rfl⟩
   ·exact hs.m 0 ⟨.tok 1,qd,qn 0 qd,[]⟩ (by kernel_rfl)
   ·exact hs.m 2 ⟨.tok 2,zk,[(0,33)],[]⟩ (by kernel_rfl)
   ·exact hs.m 3 ⟨.tok 3,y7,[],[]⟩ (by kernel_rfl)
 rcases kE (yb sk wk.att).length with hnil|hpos
 ·-- no attributes
  have hnil:=List.eq_nil_of_length_eq_zero hnil;have hre:r=(sk,o,0):=by rw[hr,hnil];rfl
  have hF0:Flo (⟨fun _=>0,fun _=>0,c2.F.fr⟩:Flr) W1 W1:=fun k h=>absurd h (vI 0);refine⟨fun k N W=>w9.heap.size+2≤N∧N≤W.heap.size∧But (q4f w9 (w8.heap.size+1) m) W1 W,fun _ _ _ _ _=>False,fun _=>False,⟨?_,?_,?_,?_,?_,fun _ _ h=>h.elim⟩,⟨by omega,uC _,But.refl _ _⟩,?_,fun W h=>h.elim⟩
  ·rintro k N W⟨h1,h2,h3⟩;have hk:∀b o,w9.heap[b]? =some o→¬q4f w9 (w8.heap.size+1) m b→W.heap[b]? =some o:=fun b o ho hh=>(h3.block b (by have:b<w9.heap.size:=(uH.1 ho).1;omega) hh).trans ((hbut.block b (uH.1 ho).1 fun h=>h).trans ho);refine⟨h1,h2,⟨_,hk _ _ h9a (by unfold q4f;omega)⟩,Rd.keeps (fun b o _ ho=>?_) _ rd0⟩;have hlt:b<w8.heap.size:=(uH.1 ho).1;exact⟨hk b o ((hb9.block b hlt fun h=>h).trans ho) (by unfold q4f;omega),by omega,by omega⟩
  ·rintro k N W W'⟨h1,h2,h3⟩hb';exact⟨h1,uX h2 hb'.size,h3.trans hb' fun b h _=>.inl h⟩
  ·rintro k N W x hx;rw[hnil] at hx;cases hx
  ·intro k N B a1 W W' h;exact h.elim
  ·intro k N B a1 W _ h;exact h.elim
  ·rintro N W⟨h1,h2,h3⟩hD;obtain⟨q1,q2⟩:=qrx (W1:=W1) (F:=⟨fun _=>0,fun _=>0,c2.F.fr⟩) (S1:=wkS p8 w9 w8.heap.size m) (A':=wkA c2.A w8.heap.size W1.heap.size) (fun b h=>.inr h) (fun b h=>by
    have:=h.2;unfold q4f;omega) (fun b h=>absurd h (vI 0)) (hbs ⟨fun _=>0,fun _=>0,c2.F.fr⟩ rfl hF0) h3
   exact fin ⟨fun _=>0,fun _=>0,c2.F.fr⟩ p8 W sk o rfl q1 (SF.same q2 hf0) hD hre (by omega)
 ·-- attributes
  obtain⟨hc2,hy2⟩:=zn8 hpos;have k9:∀{pin:Nat}{E:TypeId}{te:Ty}{l:List D}{v:Value},q1e c2.A p8 w8 [] pin E te l v→q1e c2.A p8 w9 [] pin E te l v:=fun h=>q1e.kept (Z:=no) (L:=no) h ⟨hb9.size,fun b hlt _ hfr=>⟨hb9.block b hlt fun h=>h,hfr⟩,fun _ _ _ h=>h,fun x b _ hx=>hb9.block b (hp8 x b hx) fun h=>h⟩ (fun _ h=>nomatch h) ⟨rfl,rfl⟩;have k1:∀{pin:Nat}{E:TypeId}{te:Ty}{l:List D}{v:Value},q1e c2.A p8 w8 [] pin E te l v→q1e c2.A p8 W1 [] pin E te l v:=fun h=>q1e.kept (Z:=no) (L:=no) h ⟨hbut8.size,fun b hlt _ hfr=>⟨hbut8.block b hlt fun h=>h,hfr⟩,fun _ _ _ h=>h,fun x b _ hx=>hbut8.block b (hp8 x b hx) fun h=>h⟩ (fun _ h=>nomatch h) ⟨rfl,rfl⟩;have hflo:=zps (fr:=c2.F.fr) hb.inj (k1 q0) (k1 q1) (k1 q2) (k1 q3) hc2 hy2;refine⟨_,_,_,ItOk.blk (zv1 (c2:=c2) (p2:=p8) (wk:=wk) (o0:=o) (dw:=ws) hlo hz9 h9s hb.inj hp8 (k9 q0) (k9 q1) (k9 q2) (k9 q3) r1 r2 ⟨_,h9a⟩ hbut hm1 hm2 hob) zu4,?_,?_,?_⟩
  ·refine⟨by omega,uC _,p8,sk,o,⟨rfl,by rw[vD];exact hok,qe1.refl _,by omega⟩,hbs _ rfl hflo,hf0,fun x b hx=>by have:=hp8 x b hx;omega,fun b hb33=>?_⟩;have ne:∀x,x≠33→¬p8 x=some b:=fun x h hx=>h (hb.inj x 33 b hx hb33);simp only[q23,if_neg (ne 1 (by decide)),if_neg (ne 2 (by decide)),if_neg (ne 3 (by decide)),if_neg (ne 4 (by decide))]
  ·rintro N W⟨-,-,p3,sk',o',⟨hrun,-,-,hlen⟩,h3,hs,-,-⟩hD;rw[vT] at hrun;exact fin (q23 p8 sk c2.F.fr) p3 W sk' o' rfl h3 hs hD (hr.trans hrun.symm) hlen
  ·rintro W⟨he,p3,l,h3,hs,hl⟩hD;obtain⟨b1,b2,b3⟩:=hbsW (q23 p8 sk c2.F.fr) p3 W rfl h3;rw[←hr] at he hs;refine hR _ p3 W _ w9.heap.size (fun b h=>h.1) hAD (by omega) hD (by show _::a9.defers=_;rw[hd9];rfl) hz9 b3 b1 b2 he ?_
   match l,hl with
   |[l0,l1,l2,l3,l4,l5,l6],_=>
   refine⟨fun t x hx=>?_,fun j e he=>?_⟩
   ·have hx:=qv hx;simp only[wkE,gnM] at hx;rcases hx with⟨rfl,rfl⟩|⟨rfl,rfl⟩|⟨rfl,rfl⟩|⟨rfl,rfl⟩
    ·obtain⟨v,e1,-,e2⟩:=hs.t 0 (.sn 0 (.ref 0 [] 0 qd)) (by kernel_rfl);exact⟨v,e1,e2⟩
    ·obtain⟨v,e1,-,e2⟩:=hs.t 1 (.sn 1 (.bx 1 41 (.ref 0 [] 0 qd))) (by kernel_rfl);exact⟨v,e1,e2⟩
    ·obtain⟨v,e1,-,e2⟩:=hs.t 2 (.sn 2 (.ref 2 [] 0 zk)) (by kernel_rfl);exact⟨v,e1,e2⟩
    ·obtain⟨v,e1,-,e2⟩:=hs.t 3 (.sn 3 (.ref 3 [] 0 y7)) (by kernel_rfl);obtain⟨v',f1,f2,-⟩:=hf.t 3 (.sn (VB+3) (.ref 3 [] 0 y7)) (by kernel_rfl);have f3:=(sn9 3 v' (by decide) f1).1;have e1':a9.tmps[3]? =some v:=e1;rw[f3] at e1';injection e1' with e1';subst e1';exact⟨v',f3,f2,e2⟩
   ·have he:=qv he;simp only[wkE,gnM] at he;rcases he with⟨rfl,rfl⟩|⟨rfl,rfl⟩|⟨rfl,rfl⟩
    ·exact hs.m 0 ⟨.tok 7,qd,qn 0 qd,[]⟩ (by kernel_rfl)
    ·exact hs.m 2 ⟨.tok 8,zk,[(0,33)],[]⟩ (by kernel_rfl)
    ·exact hs.m 3 ⟨.tok 9,y7,[],[]⟩ (by kernel_rfl)
end
end
section
open Go.RowKit Go.Shelf
abbrev qbu:Ty:=.row 66
noncomputable def owC:Code:=match vB.body with
 |some c=>c
 |none=>.skip
noncomputable def ow1:List Code:=[sqL owC,sqL (sqR owC),sqL (sqL (sqR (sqR owC)))]
noncomputable def owL:Code:=bkC (sqR (sqL (sqR (sqR owC))))
noncomputable def owZ:Code:=sqR (sqR (sqR owC))
noncomputable def zng:Code:=match owL with
 |.rangeFunc _ _ a _=>a
 |_=>.skip
noncomputable def zkb:Code:=match owL with
 |.rangeFunc _ _ _ b=>b
 |_=>.skip
def z5p:Ann:=⟨[2,3,4,5,6,9,18,19,20,27],[]⟩
noncomputable def zn2:List ResultVar:=vB.results.toList
def sR:St:=⟨[(4,.ref 4 [] 0 qbu),(18,.ff 94 27 (.tok 0) qd 29 (.get (.fld (.tok 0) 0) (.add (.fld (.tok 1) 1) (.lit (.i 2)))) qk [])],[]⟩
abbrev iR:List Item:=[(4,qbu,[(0,65)],[])]
def sO1:St:=⟨[(4,.sn 4 (.ref 4 [] 0 qbu)),(19,.v (.tok 1) .str [] []),(20,.v (.tok 2) qk [] [])],[(4,⟨.tok 0,qbu,[(0,65)],[]⟩)]⟩
def sO2:St:=⟨[(4,.sn 4 (.ref 4 [] 0 qbu)),(5,.v (.tok 1) .str [] []),(6,.ref 6 [] 0 qk)],[(4,⟨.tok 0,qbu,[(0,65)],[]⟩),(6,⟨.tok 2,qk,[],[]⟩)]⟩
def sO3:St:=⟨[(4,.sn 4 (.ref 4 [] 0 qbu))],[]⟩
def sO4:St:=⟨[(4,.sn 4 (.ref 4 [] 0 qbu))],[(4,⟨.tok 0,qbu,[(0,65)],[]⟩)]⟩
def sO5:St:=⟨[(4,.ref 4 [] 0 qbu)],[(4,⟨.tok 0,qbu,[(0,65)],[]⟩)]⟩
def zto:Tree:=(.br (.not (.eq (.fld (.tok 1) 0) (.lit (.i 5)))) (.need [(.not (.eq (.fld (.tok 1) 0) (.lit (.i 5))))] (.leaf [(.lit (.r []))])) (.need [(.le (.lit (.i 0)) (.add (.fld (.tok 1) 1) (.lit (.i 2)))),(.lt (.add (.fld (.tok 1) 1) (.lit (.i 2))) (.len (.fld (.tok 0) 0))),(.rng .i64 (.add (.fld (.tok 1) 1) (.lit (.i 2))))] (.need [(.eq (.fld (.tok 1) 0) (.lit (.i 5)))] (.leaf [(.lit (.r []))]))))
theorem zko:q5p uA [] z5p 2 28 ow1 2 (qn1 yg) (fun n r σ=>match r with|.normal=>.need [.eq (.fld (.tok 1) 0) (.lit (.i 5))] (qpx [] iR [] sR n .normal σ)|r=>.need [.not (.eq (.fld (.tok 1) 0) (.lit (.i 5)))] (qbs yg zn2 n r σ))=zto:=by kernel_rfl
def zwm:Tree:=(.leaf [])
theorem zob:q5p uA [] z5p 2 28 [zng] 3 sO1 (toN [] [] [] sO2)=zwm:=by kernel_rfl
def zv4:Tree:=(.need [(.le (.add (.len (.tok 0)) (.lit (.i 1))) (.lit (.i 4398046510976)))] (.leaf [(.app (.tok 0) (.row [(.mk [(.tok 1),(.tok 2)])]))]))
theorem znm:q5p uA [] z5p 2 28 [zkb] 3 sO2 (toN [] iR [] sO3)=zv4:=by kernel_rfl
def zwr:Tree:=(.leaf [(.tok 0)])
theorem zni:toT uA [] z5p 2 28 owZ [] 1 sO5 (qbs yg zn2)=zwr:=by kernel_rfl
end
section
open Go.RowKit Go.Shelf
theorem zhs:vB.body=some owC:=by kernel_rfl
theorem zqt:owC=seqs [sqL owC,sqL (sqR owC)] (.seq (.seq (sqL (sqL (sqR (sqR owC)))) (.block 0 owL)) owZ):=by kernel_rfl
theorem zr1:owL=.rangeFunc (.tmp 18) #[19,20] zng zkb:=by kernel_rfl
theorem znq:vB.ntmps=28:=by kernel_rfl
def sOR:St:=q0z [] iR 2 (jv [] iR [] 2 sR)
theorem zwf:lkA sOR.t 4=some (.ref 4 [] 0 qbu):=by kernel_rfl
theorem zty:lkA sOR.t 18=some (.ff 94 27 (.tok 0) qd 29 (.get (.fld (.tok 0) 0) (.add (.fld (.tok 1) 1) (.lit (.i 2)))) qk []):=by kernel_rfl
theorem zwa:lkA sOR.m 4=some ⟨.tok 2,qbu,[(0,65)],[]⟩:=by kernel_rfl
def sOB:St:=q0z [] iR 3 (jv [] iR [] 3 sO3)
theorem zw4:lkA sOB.t 4=some (.sn 4 (.ref 4 [] 0 qbu)):=by kernel_rfl
theorem zwh:lkA sOB.m 4=some ⟨.tok 3,qbu,[(0,65)],[]⟩:=by kernel_rfl
theorem zus:q0z [] [] 3 (jv [] [] [] 3 sO2)=sO2:=by kernel_rfl
theorem zf4{c:Cx}{S:Nat→List D→Option (List D)}(h4:a.tmps[4]? =some v)(hsn:c.snap 4=v)(hv:∃g,p 64=some g∧v=.pointer (some ⟨g,0,none⟩)∧c.At 4 g)(hm:q1s (c.at S [d]) p W 4 ⟨.tok 0,qbu,[(0,65)],[]⟩):SF (c.at S [d]) sO4 p W a:=by
 refine⟨fun t x hx=>?_,fun k e he=>?_⟩
 ·have hx:=qv hx;simp only[sO4,gnM] at hx;obtain⟨rfl,rfl⟩:=hx;exact⟨v,h4,hsn.symm,hv⟩
 ·have he:=qv he;simp only[sO4,gnM] at he;obtain⟨rfl,rfl⟩:=he;exact hm
def zj9:List D→Option (List D)
 |[s,c]=>if(dC c).t=5 then(if inS (dS s) ((dC c).n+2)∧(dS s).cs.length≤4000000000000 then some [.r ((yb (dS s) (cellAt (dS s) ((dC c).n+2))).map eA)] else none) else some [.r []]
 |_=>none
theorem qin(s:So):∀(k:Nat)(c:Ce)(met:List ByteArray),(q5n s k c met).length≤k
 |0,_,_=>uC _
 | k + 1, c, met => by
  unfold q5n;split
  ·simp
  ·rename_i nm tl vl _;have:=qin s k tl (nm::met);split<;>simp<;>omega
theorem zle{w w':World}(h:Con A p w (.r []) qbu [(0,pin)] dep cs)(hk:∀g,p pin=some g→w'.heap[g]? =w.heap[g]?):Con A' p w' (.r []) qbu [(0,pin)] dep cs:=by
 rcases h with⟨E,te,l,v,e1,hte,e2,e3,hv⟩|⟨K,V,kt,vt,l,g,es,clock,e1,hK,hV,e2,-⟩
 ·injection e2 with e2;subst e2;refine .inl ⟨E,te,[],v,e1,hte,rfl,e3,?_⟩;rcases hv with⟨rfl,-⟩|⟨g,cap,cur,rfl,hg,hh,h1,h2,h3,h4,h5⟩
  ·exact .inl ⟨rfl,rfl⟩
  ·exact .inr ⟨g,cap,cur,rfl,hg,(hk g hg).trans hh,h1,h2,h3,h4,fun i hi=>absurd hi (vA _)⟩
 ·cases e2
section
variable{c c':Cx}{p p2:qg}{w w' W1:World}{a a':Act}{m g:Nat}{s:So}{x0:Ce}{cs1:List Value}{v4:Value}
def qop(c:Cx)(w':World)(g m:Nat)(b:Nat):Prop:=c.A b∧b≠g∧¬q4f w' (g+1) m b
def zo4(p2:qg)(w':World)(g m:Nat)(b:Nat):Prop:=pinned p2 b∨q4f w' (g+1) m b
def OwI(c:Cx)(p2:qg)(w' W1:World)(g m:Nat)(s:So)(x0:Ce)(a':Act)(c':Cx)(k N:Nat)(W:World):Prop:=w'.heap.size+2≤N∧N≤W.heap.size∧∃p3,Bs (qop c w' g m) c.F W1 (zo4 p2 w' g m) p3 W∧SF (c'.at (qb []) [.r (((yb s x0).take k).map eA)]) sO4 p3 W a'∧∀y b,p3 y=some b→b<N
def OwM(c:Cx)(p2:qg)(w' W1:World)(g m:Nat)(s:So)(x0:Ce)(c':Cx)(k N B:Nat)(a1:Act)(W:World):Prop:=∃y p4,(yb s x0)[k]? =some y∧Bs (qop c w' g m) c.F W1 (zo4 p2 w' g m) p4 W∧SF (c'.at (qb []) [.r (((yb s x0).take k).map eA),.s y.name,eC y.val]) sO2 p4 W a1∧a1.defers=[]∧a1.tmps.size=28∧w'.heap.size+2≤N∧N≤B∧B≤W.heap.size∧∀q b,p4 q=some b→b<N∨B≤b
theorem zfu{F:Flr}(hfz:∀te,F.mx te=0){W':World}{p3:qg}(hS:∀b,q4f w' (g+1) m b→S1 b)(hA:∀b,A' b→¬q4f w' (g+1) m b)(h:Bs A' F W1 S1 p3 W)(hb:But (q4f w' (g+1) m) W W'):Bs A' F W1 S1 p3 W'∧Stab A' no no p3 W p3 W':=
 ⟨⟨h.inj,fun x b hx=>uE (h.bd x b hx) hb.size,h.but.trans hb fun i hi _=>.inl (hS i hi),h.pin,h.new,h.pa,fun x b hx=>(h.obj x b hx).same (hb.block b (h.bd x b hx) (hA b (h.pa x b hx))),Flo.of0 hfz h.flo⟩,
  hb.size,fun b hlt ha hf=>⟨hb.block b hlt (hA b ha),hf⟩,fun x b _ hx=>hx,fun x b _ hx=>hb.block b (h.bd x b hx) (hA b (h.pa x b hx))⟩
theorem zrf(hln:s.cs.length≤4000000000000)(hlo:c.lo=2)(hfz:∀te,c.F.mx te=0)(hz:a'.tmps.size=28)(so:s.ok)(hc':c'={c with A:=qop c w' g m,snap:=fun t=>a'.tmps.getD t Go.undef})(h4:a'.tmps[4]? =some v4)
  (hg:∃T,w'.heap[g]? =some (.cells cs1.toArray T (0,0)))(hfg:q58 p2 g)(hbut:But Nil w' W1)(hm1:w'.heap.size+2≤m)(hm2:m<W1.heap.size)(r1:Rd w' (fun b=>FFD c.A p2 [] b∧b<g) (eS s) qd cs1):
  ItOk w' a' 3 g (g+1) m 19 20 zng zkb cs1 s x0 (OwI c p2 w' W1 g m s x0 a' c') (OwM c p2 w' W1 g m s x0 c') fun _=>False:=by
 obtain⟨T,hg⟩:=hg;have hgl:=qq hg;have hAh:∀b,qop c w' g m b→¬q4f w' (g+1) m b:=fun b h=>h.2.2;have hSh:∀b,q4f w' (g+1) m b→zo4 p2 w' g m b:=fun b h=>.inr h;have hfm:∀te,c'.F.mx te≤flM [] te:=fun te=>by rw[hc'];show c.F.mx te≤_;rw[hfz];exact uQ _
 have hcA:c'.A=qop c w' g m:=by rw[hc']
 have hcF:c'.F=c.F:=by rw[hc']
 have hcl:c'.lo=2:=by rw[hc'];exact hlo
 have hsn:c'.snap 4=v4:=by
  rw[hc']
  show a'.tmps.getD 4 Go.undef=v4
  simp[uG,h4]
 have hcT:c'.At=c.At:=by rw[hc']
 refine⟨?_,?_,?_,?_,?_,fun _ _ h=>h.elim⟩
 ·rintro k N W⟨h1,h2,p3,hb3,hf3,hp3⟩;have hk:∀b o,w'.heap[b]? =some o→q58 p2 b→¬q4f w' (g+1) m b→W.heap[b]? =some o:=fun b o ho hf hh=>by
   have hlt:b<w'.heap.size:=(uH.1 ho).1;refine(hb3.but.block b (uE hlt hbut.size) ?_).trans ((hbut.block b hlt (fun h=>h)).trans ho);rintro(⟨x,hx⟩|h)
   ·exact hf x hx
   ·exact hh h
  have hng:¬q4f w' (g+1) m g:=by unfold q4f;omega
  refine⟨h1,h2,⟨T,hk g _ hg hfg hng⟩,Rd.keeps (fun b o hb ho=>?_) _ r1⟩;obtain⟨hb1,hb2⟩:=hb;rcases hb1 with⟨-,hf⟩|⟨y,hy,-⟩
  ·refine⟨hk b o ho hf (by unfold q4f;omega),by omega,by omega⟩
  ·cases hy
 ·rintro k N W W'⟨h1,h2,p3,hb3,hf3,hp3⟩hb;obtain⟨q1,q2⟩:=zfu hfz hSh hAh hb3 hb;exact⟨h1,uX h2 hb.size,p3,q1,SF.same (by show Stab c'.A no no p3 W p3 W';rw[hcA];exact q2) hf3,hp3⟩
 ·rintro k N W y hy hyo⟨h1,h2,p3,hb3,hf3,hp3⟩;obtain⟨v,t4,hv⟩:=hf3.t 4 _ (by kernel_rfl:lkA sO4.t 4=some (.sn 4 (.ref 4 [] 0 qbu)));have hm:=hf3.m 4 _ (by kernel_rfl:lkA sO4.m 4=some ⟨.tok 0,qbu,[(0,65)],[]⟩);rw[h4] at t4;injection t4 with t4;subst t4;have hsf:SF (c'.at (qb []) [.r (((yb s x0).take k).map eA),.s y.name,eC y.val]) sO1 p3 W {tmps:=(a'.tmps.setIfInBounds 19 (.string y.name)).setIfInBounds 20 (.agg (ceL y.val).toArray),defers:=[]}:=by
   refine⟨fun t x hx=>?_,fun j e he=>?_⟩
   ·have hx:=qv hx;simp only[sO1,gnM] at hx;rcases hx with⟨rfl,rfl⟩|⟨rfl,rfl⟩|⟨rfl,rfl⟩
    ·exact⟨v4,by rw[uF (by decide),uF (by decide)];exact h4,hv⟩
    ·refine⟨.string y.name,by rw[uF (by decide),uM (by omega)],_,rfl,Con.of_rd (show Rd W _ (.s y.name) .str _ from⟨rfl,rfl,hyo.1⟩)⟩
    ·refine⟨.agg (ceL y.val).toArray,by rw[uM (by simp;omega)],ceL y.val,rfl,Con.of_rd (show Rd W _ (eC y.val) qk _ from qzm hyo.2)⟩
   ·have he:=qv he;simp only[sO1,gnM] at he;obtain⟨rfl,rfl⟩:=he;exact hm
  have pre:=qa0 (c:=c') (z:=28) (some (w'.heap.size+1)) 3 .nil hfm rfl [zng] (n:=3) (ann:=z5p) (R:=fun o=>o=[]) (B:=fun _ _=>False) (ts:=[]) (ms:=[]) (kill:=[]) (σk:=sO2) (l:=[.r (((yb s x0).take k).map eA),.s y.name,eC y.val]) (σ:=sO1) (d:=[]) (w0:=W) (S0:=pinned p3) (p:=p3) (Q:=fun _ _ _=>False)
   (K:=fun a1 W2=>OwM c p2 w' W1 g m s x0 c' k N W.heap.size a1 W2∧KpN w' (g+1) m N W.heap.size W W2)
   (by rw[hcl,zob];rfl) rfl (by rw[hcA,hcF];exact hb3.anew) hsf rfl (by simp;exact hz) (fun st p4 W2 a2 hR hst hb4 hf4 hd4 hz4=>?_)
  ·exact pre
  ·have hR:st=[]:=hR;subst hR;rw[zus] at hf4;rw[hcA,hcF] at hb4;refine⟨⟨y,p4,hy,hb3.comp hb4,hf4,hd4,hz4,h1,h2,hb4.but.size,fun q b hq=>?_⟩,hb4.but.size,fun b hlt hb=>hb4.but.block b hlt ?_⟩
   ·rcases hb4.pin q b hq with⟨q',hq'⟩|h
    ·exact .inl (hp3 q' b hq')
    ·exact .inr h
   ·rintro⟨q,hq⟩;rcases hb with hb|hb
    ·have:=hp3 q b hq;omega
    ·exact hAh b (hb3.pa q b hq) hb
 ·rintro k N B a1 W W'⟨y,p4,hy,hb4,hf4,hd4,hz4,h1,h2,h3,hp4⟩hb;obtain⟨q1,q2⟩:=zfu hfz hSh hAh hb4 hb;exact⟨y,p4,hy,q1,SF.same (by show Stab c'.A no no p4 W p4 W';rw[hcA];exact q2) hf4,hd4,hz4,h1,h2,uX h3 hb.size,hp4⟩
 ·rintro k N B a1 W hkl⟨y,p4,hy,hb4,hf4,hd4,hz4,h1,h2,h3,hp4⟩;have hlen:((yb s x0).take k).length≤4000000000000:=by
   have h1:=qin s s.cs.length x0 [];simp only[kU];unfold yb at *;omega
  have pre:=qa0 (c:=c') (z:=28) (some (w'.heap.size+1)) 3 .nil hfm rfl [zkb] (n:=3) (ann:=z5p) (R:=fun o=>o=[.r (((yb s x0).take k).map eA++[eA y])]) (B:=fun _ _=>False) (ts:=[]) (ms:=iR) (kill:=[]) (σk:=sO3) (l:=[.r (((yb s x0).take k).map eA),.s y.name,eC y.val]) (σ:=sO2) (d:=[]) (w0:=W) (S0:=pinned p4) (p:=p4) (Q:=fun _ _ _=>False)
   (K:=fun a2 W2=>KpN w' (g+1) m N B W W2∧OwI c p2 w' W1 g m s x0 a' c' (k+1) W2.heap.size W2)
   (by
    rw[hcl,znm];unfold zv4;rw[qp];refine⟨⟨?_,trivial⟩,?_⟩
    ·show(D.b (decide (((((yb s x0).take k).map eA).length:Int)+1≤4398046510976))).tt=true
     rw[uB,q6x,gnD];omega
    ·rfl) rfl (by rw[hcA,hcF];exact hb4.anew) hf4 hd4 hz4 (fun st p5 W2 a2 hR hst hb5 hf5 hd5 hz5=>?_)
  ·refine wpIn_mono pre fun e a2 W2 hq=>?_;cases e with
   |normal=>exact⟨hq.1,.inl ⟨rfl,hq.2⟩⟩
   |_=>exact hq.elim
  ·have hR:st=[.r (((yb s x0).take k).map eA++[eA y])]:=hR;subst hR;rw[hcA,hcF] at hb5;have hf5:SF (c'.at (qb []) [.r (((yb s x0).take k).map eA),.s y.name,eC y.val,.r (((yb s x0).take k).map eA++[eA y])]) sOB p5 W2 a2:=hf5;obtain⟨v,t4,ev,g4,hg4,eg,hat⟩:=hf5.t 4 _ zw4;have hm:=hf5.m 4 _ zwh;refine⟨⟨hb5.but.size,fun b hlt hb=>hb5.but.block b (by omega) ?_⟩,by have:=hb5.but.size;omega,uC _,p5,hb4.comp hb5,?_,fun q b hq=>hb5.bd q b hq⟩
   ·rintro⟨q,hq⟩;rcases hb with hb|hb
    ·have:=hp4 q b hq;omega
    ·exact hAh b (hb4.pa q b hq) hb
   ·have e:((yb s x0).take (k+1)).map eA=((yb s x0).take k).map eA++[eA y]:=by
     rw[List.take_add_one,hy];simp
    rw[e];have ev:v=v4:=ev.trans hsn;exact zf4 h4 hsn ⟨g4,hg4,ev.symm.trans eg,hat⟩ hm
end
set_option maxHeartbeats 1000000 in
theorem qfb:FOk yg zj9:=by
 refine zde (qb []) vB owC Tryz.func33 zhs qvc (by rw[znq];decide) fun ds outs hwf hg c p w a Q hlo hfz hfr hdl hb hf hd hz hfin=>?_;obtain⟨d,r,rfl,hs,e,r',rfl,hc,rfl⟩:=hwf;obtain⟨s,rfl,so⟩:=wfS hs;obtain⟨x,rfl,co⟩:=wfC hc;simp only[zj9,zr,q0t] at hg;have hlo:c.lo=2:=hlo;have hz:a.tmps.size=28:=hz.trans znq;have hfm:∀te,c.F.mx te≤flM [] te:=fun te=>by rw[hfz];exact uQ _
 have hcl:Code.wpIn (FR none) 5 uA (seqs [sqL owC,sqL (sqR owC)] (.seq (.seq (sqL (sqL (sqR (sqR owC)))) (.block 0 owL)) owZ)) Q a w:=by
  refine q2g _ ?_;have pre:qbb (FR none) 5 uA Q ow1 ((Code.block 0 owL).wpIn (FR none) 5 uA (Exit.then (owZ.wpIn (FR none) 5 uA Q) Q)) a w:=by
   refine qba (c:=c) (z:=28) none 5 .nil hfm rfl ow1 (n:=2) (ann:=z5p) (R:=fun o=>o=[.r []]) (B:=fun _ _=>False) (d:=[]) (l:=[eS s,eC x]) (σ:=qn1 yg) (by
    rw[hlo,zko];unfold zto;simp only[zw,qp,q40,jy,X.says,X.ev,X.evs,evl,uJ,uK,qps,qxf,qev,qa8,yw,q6x,uB,q6r,gnD,decide_eq_false_iff_not,kS,vR,q6w];refine⟨fun h=>⟨⟨h,trivial⟩,trivial⟩,fun h=>?_⟩;rw[if_pos h] at hg;split at hg
    ·rename_i hin;obtain⟨h1,h2⟩:=qs.1 hin.1;have h3:=z4a so;unfold i64 at *;refine⟨⟨by omega,by omega,by omega,trivial⟩,⟨h,trivial⟩,trivial⟩
    ·cases hg) rfl hb hf hd hz fun n' r σ' l' B' p' w' a' hl' hpre hgo hb' hf' hd' hz'=>?_
   have tk1:l'.getD 1 .u=eC x:=by
    have:(l'.take 2).getD 1 .u=eC x:=by rw[hpre];rfl
    rw[gnG,uN (by omega),←gnG] at this;exact this
   have ret:∀r':ResD,(Tree.need [.not (.eq (.fld (.tok 1) 0) (.lit (.i 5)))] (qbs yg zn2 n' r' σ')).go (qb []) (fun o=>o=[.r []]) l' B'→Q r'.exit' a' w':=fun r' hgo=>by
    obtain⟨⟨hN,-⟩,hgo⟩:=hgo;have hN:(D.b (!(D.b (decide ((l'.getD 1 .u).fld 0=.i 5))).tt)).tt=true:=hN;rw[tk1,qps] at hN;have hx:x.t≠5:=by simpa[q6x] using hN
    rw[if_neg hx] at hg;exact hfin n' r' σ' l' B' p' w' a' c hl' (zdb hgo fun o ho=>ho.trans (gnI hg)) rfl rfl rfl (fun b h=>h) hb' hb'.anew hf' ⟨[],by rw[hd'];rfl,by simp,fun D hD=>by cases hD⟩ (hz'.trans znq.symm)
   cases r with
   |ret=>exact ret .ret hgo
   |exit i=>exact ret (.exit i) hgo
   | normal =>
    obtain⟨⟨hN,-⟩,hgo⟩:=hgo;have hN:(D.b (decide ((l'.getD 1 .u).fld 0=.i 5))).tt=true:=hN;rw[tk1,qps] at hN;have hx:x.t=5:=by simpa[q6x] using hN
    rw[if_pos hx] at hg;split at hg
    ·rename_i hin;have hg:=(gnI hg).symm;obtain⟨st,p2,hR,-,hb2,hf2⟩:=qlh (c:=c) hgo hpre rfl hb' hf';have hR:st=[.r []]:=hR;subst hR;have hf2:SF (c.at (qb []) [eS s,eC x,.r []]) sOR p2 w' a':=hf2;obtain⟨v4,t4,g4,hg4,e4,hat4⟩:=hf2.t 4 _ zwf;obtain⟨v18,t18,gg,cs1,cs2,e18,⟨ha1,hf1⟩,⟨ha2,hf2'⟩,⟨hfr1,hfr2⟩,hh1,hh2,r1,r2⟩:=hf2.t 18 _ zty;obtain⟨gm,csm,Tm,hgm,hhm,htm,hcm⟩:=hf2.m 4 _ zwa;have ex0:(X.get (.fld (.tok 0) 0) (.add (.fld (.tok 1) 1) (.lit (.i 2)))).ev (c.at (qb []) [eS s,eC x,.r []]).v=eC (cellAt s (x.n+2)):=by
      show((eS s).fld 0).get (((eC x).fld 1).int+2)=_
      rw[qev,qxf,yw];exact zs hin.1
     rw[ex0] at r2;have hs2:=r2;obtain rfl:=z09 r2;have hfr1:=hfr gg hfr1;have hfr2:=hfr (gg+1) hfr2
     show(Code.block 0 owL).wpIn (FR none) 5 uA (Exit.then (owZ.wpIn (FR none) 5 uA Q) Q) a' w'
     refine wpIn_block ?_;rw[zr1];refine zhw (nn:=5) (bs:=gg) (bc:=gg+1) (css:=cs1) (s:=s) (c0:=cellAt s (x.n+2)) (by omega) ((qca t18).trans e18) (by omega) ⟨_,hh1⟩ (Rd.mono (fun b _ h=>by have:=h.2;omega) r1) so ⟨_,by kernel_rfl,hh2⟩ (zd0 hs2) fun m W1 hbut hm1 hm2=>?_;have hw1:=hb'.but.size;have hw2:=hbut.size;obtain⟨c',hc'⟩:∃c':Cx,c'={c with A:=qop c w' gg m,snap:=fun t=>a'.tmps.getD t Go.undef}:=⟨_,rfl⟩;have hcA:c'.A=qop c w' gg m:=by rw[hc']
     have hcF:c'.F=c.F:=by rw[hc']
     have hc2:c'.lo=c.lo:=by rw[hc']
     have hcT:c'.At=c.At:=by rw[hc']
     have hgl:=qq hh1;have hgl2:=qq hh2;have hSp:∀b,zo4 p2 w' gg m b→pinned p b∨w.heap.size≤b:=by
      rintro b(⟨q,hq⟩|h|h|h|h)
      ·exact hb2.pin q b hq
      ·exact .inr (by omega)
      ·exact .inr (by omega)
      ·exact .inr (by omega)
      ·exact .inr (by omega)
     refine⟨_,_,_,zrf (c:=c) (c':=c') (p2:=p2) (W1:=W1) hin.2 hlo hfz hz' so hc' t4 ⟨_,hh1⟩ hf1 hbut hm1 hm2 r1,?_,?_,fun W h=>h.elim⟩
     ·refine⟨by omega,uC _,p2,⟨hb2.inj,fun q b hq=>uE (hb2.bd q b hq) hw2,But.refl _ _,fun q b hq=>.inl (.inl ⟨q,hq⟩),fun b hb=>⟨⟨(hb2.new b (by omega)).1,by omega,by unfold q4f;omega⟩,(hb2.new b (by omega)).2⟩,fun q b hq=>⟨hb2.pa q b hq,fun e=>hf1 q (e▸hq),?_⟩,fun q b hq=>(hb2.obj q b hq).same (hbut.block b (hb2.bd q b hq) fun h=>h),Flo.of0 hfz hb2.flo⟩,?_,fun q b hq=>uE (hb2.bd q b hq) hw2⟩
      ·have:=hb2.bd q b hq;rintro(h|h|h|h)
       ·exact hf2' q (h▸hq)
       ·omega
       ·omega
       ·omega
      ·have hsn:c'.snap 4=v4:=by
        rw[hc']
        show a'.tmps.getD 4 Go.undef=v4
        simp[uG,t4]
       have hc0:Con c'.A p2 W1 (.r []) qbu [(0,65)] [] csm.toList:=zle hcm fun g hg=>hbut.block g (hb2.bd _ _ hg) fun h=>h;exact zf4 t4 hsn ⟨g4,hg4,e4,by rw[hcT];exact hat4⟩ ⟨gm,csm,Tm,hgm,(hbut.block gm (qq hhm) fun h=>h).trans hhm,htm,hc0⟩
     ·rintro N W⟨h1,h2,p3,hb3,hf3,hp3⟩hD
      show owZ.wpIn (FR none) 5 uA Q _ W
      have hnD:¬qop c w' gg m w'.heap.size:=fun h=>h.2.2 (.inr (.inr (.inl rfl)));rw[vJ (uC _)] at hf3;have hf3':SF (c'.at (qb []) [.r ((yb s (cellAt s (x.n+2))).map eA)]) sO5 p3 W {a' with defers:={target:=.collected w'.heap.size,args:= #[]}::a'.defers}:=by
       refine⟨fun t y hy=>?_,fun k e he=>hf3.m k e he⟩;have hy:=qv hy;simp only[sO5,gnM] at hy;obtain⟨rfl,rfl⟩:=hy;obtain⟨v,q1,-,q2⟩:=hf3.t 4 _ (by kernel_rfl:lkA sO4.t 4=some (.sn 4 (.ref 4 [] 0 qbu)));exact⟨v,q1,q2⟩
      refine qdg none 5 (c:=c') (z:=28) (w0:=W) (S0:=pinned p3) (d:={target:=.collected w'.heap.size,args:= #[]}::a'.defers) .nil (fun te=>by rw[hcF,hfz];exact uQ _) owZ (ids:=[]) (n:=1) (ann:=z5p) (k:=qbs yg zn2) (R:=fun o=>o=outs) (B:=fun _ _=>False) (l:=[.r ((yb s (cellAt s (x.n+2))).map eA)]) (σ:=sO5) (p:=p3) (by
       rw[hc2,hlo,zni,hg];rfl) rfl (by rw[hcA,hcF];exact hb3.anew) hf3' rfl hz' (q3l rfl) (qbz rfl) fun n5 r5 σ5 l5 B5 p5 W5 a5 hl5 hpre5 _ hgo5 hb5 hf5 hd5 hz5=>?_
      rw[hcA,hcF] at hb5;have hb6:=hb3.comp hb5;refine hfin n5 r5 σ5 l5 B5 p5 W5 a5 c' hl5 hgo5 hc2 hcF hcT (fun b h=>by rw[hcA] at h;exact h.1) ⟨hb6.inj,hb6.bd,(hb'.but.trans_nil hbut).trans hb6.but fun b hb _=>hSp b hb,fun q b hq=>?_,hb.new,fun q b hq=>(hb6.pa q b hq).1,hb6.obj,Flo.of0 hfz hb.flo⟩ (by rw[hcA,hcF];exact hb5.anew) hf5 ⟨[w'.heap.size],by rw[hd5,hd'];rfl,by simp,fun D hD'=>?_⟩ (hz5.trans znq.symm)
      ·rcases hb6.pin q b hq with h|h
       ·exact hSp b h
       ·exact .inr (by omega)
      ·obtain rfl:D=w'.heap.size:=by simpa using hD'
       exact⟨by omega,(hb5.stays (uH.1 hD).1 fun q hq=>hnD (hb3.pa q _ hq)).1.trans hD,by rw[hcA];exact hnD⟩
    ·cases hg
  refine q8b (Q:=Q) (Q':=Q) (fun e a w _ h=>h) [sqL owC,sqL (sqR owC)] (fun a w h=>?_) (qcq [sqL owC,sqL (sqR owC)] [sqL (sqL (sqR (sqR owC)))] pre);refine wpIn_seq (wpIn_seq (wpIn_mono h fun e a w hq=>?_));cases e with
  |normal=>exact hq
  |_=>exact hq
 have e:=zqt;rw[←e] at hcl;exact hcl
end
section
open Go.RowKit Go.Shelf
theorem qda:q0i q5q:=.cons q90 (.cons zgm (.cons z4l .nil))
noncomputable def zvq:Nat:=match sqL (sqR (sqR wkC)) with
 |.region i _ _=>i
 |_=>0
theorem zq6:wkC=seqs zrq (.seq (.region zvq zoh.toArray false) q88):=by kernel_rfl
noncomputable def z57:Nat:=match sqR (sqL z87) with
 |.block i _=>i
 |_=>0
theorem ze7:q88=seqs [sqL q88,sqL (sqR q88)] (.seq (.seq (sqL (sqL z87)) (.block z57 (.loop qhn))) wkZ):=by kernel_rfl
noncomputable def zs6:Nat:=match sqL (sqR (sqR qhn)) with
 |.block i _=>i
 |_=>0
noncomputable def zqh:Nat:=match sqR (sqR zkl) with
 |.block i _=>i
 |_=>0
theorem zrn:z57=0:=by kernel_rfl
theorem qlj:qhn=seqs wkH (.seq (.block zs6 (seqs wkR (.seq wkY (.block zqh wkF)))) (sqR (sqR (sqR qhn)))):=by kernel_rfl
theorem zj8:kA.body=some wkC:=by kernel_rfl
theorem zmp:kA.ntmps=69:=by kernel_rfl
theorem qmx{sk:So}(h:sk.cs.length≤1048576):(yb sk c).length≤1048576:=by
 have:=qin sk sk.cs.length c [];unfold yb at *;omega
theorem Dfs.keep{lb:Nat}{d:List Deferred}{w w':World}{ds:List Deferred}{S0:Nat→Prop}{p:qg}(h:Dfs A lb d w ds)(hk:∀b,b<w.heap.size→¬A b→w'.heap[b]? =w.heap[b]?):Dfs A lb d w' ds:=by
 obtain⟨Ds,e,hn,hD⟩:=h;exact⟨Ds,e,hn,fun D hd=>⟨(hD D hd).1,(hk D (qq (hD D hd).2.1) (hD D hd).2.2).trans (hD D hd).2.1,(hD D hd).2.2⟩⟩
theorem qox(s:So)(o:List Ce)(w:Wk)(l:List Wk):q0v s o (w::l)=if(ye w.val s o (yb s w.att)).2.2=0 then q0v (ye w.val s o (yb s w.att)).1 (ye w.val s o (yb s w.att)).2.1 l else ye w.val s o (yb s w.att):=rfl
theorem zo8{s r:So}(hc:s.cs.length≤r.cs.length)(hy:s.ys.length≤r.ys.length)(ht:s.tr.length≤r.tr.length){e:Int}(he:¬e=0):q72 [.i e,eS r,eS s]=some [eS (qvt s r)]:=by
 have he':¬(D.i e).int=0:=he;simp only[q72,if_neg he',qev,za7,z2r,qyh,zs4,zr4,qa8,uB];rw[if_pos ⟨hc,hy,ht⟩];unfold qvt eS;simp only[List.map_take]
def zur(c:Cx)(w:World)(S0:Nat→Prop)(dK:Deferred)(s:So)(ws:List Wk)(k:Nat)(a:Act)(W:World):Prop:=∃(c2:Cx)(p3:qg)(sk:So)(o:List Ce),c2.lo=c.lo∧c2.F=c.F∧c2.At=c.At∧c2.snap (VB+3)=c.snap (VB+3)∧(∀b,c2.A b→c.A b)∧Bs c.A c.F w S0 p3 W∧Bs c2.A c2.F W (pinned p3) p3 W∧SF (c2.at (qb q5q) [eS s,.r (ws.map eW),.i k,eS sk,.r (o.map eC),.i 0]) q6l p3 W a∧Dfs c2.A w.heap.size [dK] W a.defers∧a.tmps.size=69∧
 q0v sk o (ws.drop k)=q0v s [] ws∧qan sk o (ws.drop k)=true∧qe1 s sk∧o.length≤k * 1048576∧k≤ws.length
theorem zub{c:Cx}{x:X}{sk:So}{own:List (Nat×Nat)}(h:q1s c p W 0 ⟨x,qd,own,[]⟩)(hx:x.ev c.v=eS sk):sk.ok:=by
 obtain⟨g,cs,T,hg,hh,hT,hcon⟩:=h;have hcon:Con c.A p W (x.ev c.v) qd own [] cs.toList:=hcon;rw[hx] at hcon;obtain⟨s',e,hs'⟩:=wfS ⟨W,_,_,Con.rd hcon (dep':=own.map (·.2)) (fun _ h=>nomatch h) (fun _ h=>h)⟩;rw[z9b e];exact hs'
section
variable{c:Cx}{w:World}{S0:Nat→Prop}{dK:Deferred}{s:So}{ws:List Wk}{outs:List D}{Q:Exit→Act→World→Prop}
set_option maxHeartbeats 1000000 in
theorem z10(hlo:c.lo=1)(hfz:∀te,c.F.mx te=0)(hwl:ws.length≤1000000)
  (ho:outs=(if(q0v s [] ws).2.2=0 then[.r ((q0v s [] ws).2.1.map eC),.i 0,eS {(q0v s [] ws).1 with wk:=[]}] else[.r [],.i (q0v s [] ws).2.2,eS (qvt s (q0v s [] ws).1)]))
  (hfin:∀n'(r:ResD)σ' l' B' p' w' a'(c2:Cx),l'.length=n'→(qi2 y8 kA 2 0 3 (.tok 0) n' r σ').go (qb q5q) (fun o=>o=outs) l' B'→l'.getD 0 .u=eS s→c2.lo=c.lo→c2.F=c.F→c2.At=c.At→c2.snap (VB+3)=c.snap (VB+3)→(∀b,c2.A b→c.A b)→Bs c.A c.F w S0 p' w'→Bs c2.A c2.F w' (pinned p') p' w'→SF (c2.at (qb q5q) l') σ' p' w' a'→Dfs c2.A w.heap.size [dK] w' a'.defers→a'.tmps.size=69→Q r.exit' a' w'):
  ∀(f k:Nat)(a:Act)(W:World),zur c w S0 dK s ws k a W→ws.length - k<f→Code.roundsIn (FR none) 5 uA qhn (Exit.inBlock z57 (Exit.then (wkZ.wpIn (FR none) 5 uA Q) Q)) f a W
 |0,k,a,W,_,hf=>absurd hf (vA _)
 | f + 1, k, a, W, ⟨c2, p3, sk, o, e1, e2, e3, e4, hA2, hbs, hbn, hsf, hdf, hz, hrun, hok, hgr, hol, hkl⟩, hfu => by
  have hfm:∀te,c2.F.mx te≤flM q5q te:=fun te=>by rw[e2,hfz];exact uQ _
  have hfz2:∀te,c2.F.mx te=0:=fun te=>by rw[e2];exact hfz te
  have hl2:c2.lo=1:=e1.trans hlo;rw[roundsIn_succ,qlj,←qlj];refine(show Code.wpIn (FR none) 5 uA qhn _ a W from ?_);rw[qlj,←qlj];have hW:(seqs wkH (.seq (.block zs6 (seqs wkR (.seq wkY (.block zqh wkF)))) (sqR (sqR (sqR qhn))))).wpIn (FR none) 5 uA (Exit.then (Code.roundsIn (FR none) 5 uA qhn (Exit.inBlock z57 (Exit.then (wkZ.wpIn (FR none) 5 uA Q) Q)) f) (Exit.inBlock z57 (Exit.then (wkZ.wpIn (FR none) 5 uA Q) Q))) a W:=by
   refine q2g wkH ?_;refine qba (c:=c2) (z:=69) none 5 qda hfm rfl wkH (n:=6) (ann:=q87) (R:=fun q=>q=[]) (B:=fun _ _=>False) (d:=a.defers) (l:=[eS s,.r (ws.map eW),.i k,eS sk,.r (o.map eC),.i 0]) (σ:=q6l) (k:=zuy) (by
    rw[hl2,zkj];unfold ztk;rw[zw];refine⟨fun h=>?_,fun h=>?_⟩
    ·rw[qp];exact⟨⟨h,trivial⟩,rfl⟩
    ·rw[qp];refine⟨⟨?_,trivial⟩,rfl⟩
     show(D.b (!(X.ev _ _).tt)).tt=true
     rw[h];rfl) rfl hbn hsf rfl hz fun n' r σ' l' B' p' w' a' hl' hpre hgo hb' hf' hd' hz'=>?_
   cases r with
   |ret=>exact hgo.elim
   | exit i =>
    match i,hgo with
    | 0, hgo =>
     -- the end of the loop
     obtain⟨⟨hlt,-⟩,hgo⟩:=hgo;obtain⟨st,p5,hR,-,hb5,hf5⟩:=qlh (n':=n') (c:=c2) hgo hpre rfl hb' hf';have hR:st=[]:=hR;subst hR;rw[zhu,uT] at hf5;have q2:l'.getD 2 .u=.i k:=by
      have:(l'.take 6).getD 2 .u=.i k:=by rw[hpre];rfl
      rw[gnG,uN (by omega),←gnG] at this;exact this
     have q1:l'.getD 1 .u=.r (ws.map eW):=by
      have:(l'.take 6).getD 1 .u=.r (ws.map eW):=by rw[hpre];rfl
      rw[gnG,uN (by omega),←gnG] at this;exact this
     have hlt:(D.b (!(D.b (decide ((l'.getD 2 .u).int<((l'.getD 1 .u).rs.length:Nat)))).tt)).tt=true:=hlt;rw[q1,q2] at hlt;have hk:k=ws.length:=by
      have:¬((k:Int)<(ws.length:Nat)):=by simpa[q6x,qa8,yw] using hlt
      omega
     subst hk;rw[vT] at hrun;have hrun:(sk,o,(0:Int))=q0v s [] ws:=hrun;rw[←hrun] at ho
     show Exit.inBlock z57 (Exit.then (wkZ.wpIn (FR none) 5 uA Q) Q) (.exit 0) a' w'
     rw[zrn]
     show wkZ.wpIn (FR none) 5 uA Q a' w'
     have hst5:∀b,b<W.heap.size→¬c2.A b→w'.heap[b]? =W.heap[b]? :=fun b hb hn=>(hb5.stays hb fun q hq=>hn (hbn.pa q _ hq)).1;have hbs5:Bs c.A c.F w S0 p5 w':=hbs.up (show Bs c2.A c.F W (pinned p3) p5 w' from e2▸hb5) hA2;refine qdg none 5 (c:=c2) (z:=69) (w0:=w') (S0:=pinned p5) (d:=a'.defers) qda hfm wkZ (ids:=[]) (n:=6) (ann:=q87) (k:=qi2 y8 kA 2 0 3 (.tok 0)) (R:=fun q=>q=outs) (B:=fun _ _=>False) (l:=[eS s,.r (ws.map eW),.i ws.length,eS sk,.r (o.map eC),.i 0]) (σ:=q6l) (p:=p5) (by
      rw[hl2,zm7,ho];have hset:(X.set (.tok 3) 3 (.lit (.r []))).ev (evl (qb q5q) [eS s,.r (ws.map eW),.i ws.length,eS sk,.r (o.map eC),.i 0])=eS {sk with wk:=[]}:=rfl;have hg:qb q5q 2 [.i 0,eS {sk with wk:=[]},eS s]=some [eS {sk with wk:=[]}]:=rfl;unfold zt0;simp only[qp,q40,jy,X.says,X.evs,X.ev,evl,uJ,uK,if_true];exact⟨⟨rfl,trivial⟩,rfl⟩) rfl hb5.anew hf5 rfl hz' (q3l rfl) (qbz rfl) fun n7 r7 σ7 l7 B7 p7 W7 a7 hl7 hpre7 _ hgo7 hb7 hf7 hd7 hz7=>?_
     have q0:l7.getD 0 .u=eS s:=by
      have:(l7.take 6).getD 0 .u=eS s:=by rw[hpre7];rfl
      rw[gnG,uN (by omega),←gnG] at this;exact this
     have hdf7:Dfs c2.A w.heap.size [dK] W7 a7.defers:=by
      rw[hd7,hd'];exact(hdf.keep (S0:=S0) (p:=p3) hst5).keep (S0:=S0) (p:=p3) fun b hb hn=>(hb7.stays hb fun q hq=>hn (hb5.pa q _ hq)).1
     exact hfin n7 r7 σ7 l7 B7 p7 W7 a7 c2 hl7 hgo7 q0 e1 e2 e3 e4 hA2 (hbs5.up (show Bs c2.A c.F w' (pinned p5) p7 W7 from e2▸hb7) hA2) hb7.anew hf7 hdf7 hz7
    |i+1,hgo=>exact hgo.elim
   | normal =>
    -- a wake
    obtain⟨⟨hlt,-⟩,hgo⟩:=hgo;obtain⟨st,p5,hR,-,hb5,hf5⟩:=qlh (n':=n') (c:=c2) hgo hpre rfl hb' hf';have hR:st=[]:=hR;subst hR;rw[zhu,uT] at hf5;have q2:l'.getD 2 .u=.i k:=by
     have:(l'.take 6).getD 2 .u=.i k:=by rw[hpre];rfl
     rw[gnG,uN (by omega),←gnG] at this;exact this
    have q1:l'.getD 1 .u=.r (ws.map eW):=by
     have:(l'.take 6).getD 1 .u=.r (ws.map eW):=by rw[hpre];rfl
     rw[gnG,uN (by omega),←gnG] at this;exact this
    have hlt:(D.b (decide ((l'.getD 2 .u).int<((l'.getD 1 .u).rs.length:Nat)))).tt=true:=hlt;rw[q1,q2] at hlt;have hk:k<ws.length:=by
     have:((k:Int)<(ws.length:Nat)):=by simpa[q6x,qa8,yw] using hlt
     omega
    have hst5:∀b,b<W.heap.size→¬c2.A b→w'.heap[b]? =W.heap[b]? :=fun b hb hn=>(hb5.stays hb fun q hq=>hn (hbn.pa q _ hq)).1;have hbs5:Bs c.A c.F w S0 p5 w':=hbs.up (show Bs c2.A c.F W (pinned p3) p5 w' from e2▸hb5) hA2;have hdf5:Dfs c2.A w.heap.size [dK] w' a'.defers:=by
     rw[hd'];exact hdf.keep (S0:=S0) (p:=p3) hst5
    obtain⟨wk,hwk⟩:∃wk,ws[k]=wk:=⟨_,rfl⟩;have hdr:ws.drop k=wk::ws.drop (k+1):=by rw[vG hk,hwk]
    rw[hdr] at hrun hok;unfold qan at hok;rw[qox] at hrun;simp only[gnB,uV,gnD] at hok;have hab:=qmx (c:=wk.att) hok.1.1;have hok:qcj wk.val sk (yb sk wk.att)=true∧_:=⟨hok.1.2,hok.2⟩
    show(Code.seq (.block zs6 (seqs wkR (.seq wkY (.block zqh wkF)))) (sqR (sqR (sqR qhn)))).wpIn (FR none) 5 uA _ a' w'
    refine wpIn_seq (wpIn_block (q2g wkR ?_));refine qa0 (c:=c2) (z:=69) none 5 qda hfm rfl wkR (n:=6) (ann:=q87) (R:=fun q=>q=[eS sk,.r (o.map eC),.i 0,eW wk]) (B:=fun _ _=>False) (ts:=[]) (ms:=zm9) (kill:=[]) (σk:=zl0) (d:=a'.defers) (l:=[eS s,.r (ws.map eW),.i k,eS sk,.r (o.map eC),.i 0]) (σ:=q6l) (w0:=w') (S0:=pinned p5) (p:=p5) (by
     rw[hl2,zlv];unfold ztp;rw[qp];refine⟨⟨?_,?_,trivial⟩,?_⟩
     ·show(D.b (decide ((0:Int)≤(k:Int)))).tt=true
      rw[q6x,gnD];omega
     ·show(D.b (decide ((k:Int)<(((ws.map eW).length:Nat):Int)))).tt=true
      rw[q6x,gnD,uB];omega
     ·show[eS sk,D.r (o.map eC),D.i 0,(D.r (ws.map eW)).get (k:Int)]=_
      have:(D.r (ws.map eW)).get (k:Int)=eW wk:=by
       show((ws.map eW)[((k:Int)).toNat]?).getD .u=_
       simp[hk,hwk]
      rw[this]) rfl hb5.anew hf5 rfl hz' fun st p6 W6 a6 hR hst hb6 hf6 hd6 hz6=>?_
    have hR:st=[eS sk,.r (o.map eC),.i 0,eW wk]:=hR;subst hR;rw[zmd] at hf6;have hst6:∀b,b<w'.heap.size→¬c2.A b→W6.heap[b]? =w'.heap[b]? :=fun b hb hn=>(hb6.stays hb fun q hq=>hn (hb5.pa q _ hq)).1;have hbs6:Bs c.A c.F w S0 p6 W6:=hbs5.up (show Bs c2.A c.F w' (pinned p5) p6 W6 from e2▸hb6) hA2;have hdf6:Dfs c2.A w.heap.size [dK] W6 a6.defers:=by
     rw[hd6];exact hdf5.keep (S0:=S0) (p:=p3) hst6
    have so:sk.ok:=zub (hf6.m 0 ⟨.tok 6,qd,qn 0 qd,[]⟩ (by kernel_rfl)) rfl;have hnew:∀{A3:Nat→Prop}{W':World}{a2:Act}{D:Nat},(∀b,A3 b→c2.A b)→¬A3 D→W6.heap.size≤D→W'.heap[D]? =some (.deferred (some []))→a2.defers=qom D::a6.defers→(∀b,b<W6.heap.size→¬pinned p6 b→W'.heap[b]? =W6.heap[b]?)→Dfs A3 w.heap.size [dK] W' a2.defers:=fun{A3 W' a2 D}hA3 hD hDl hDh hde hold=>by
     obtain⟨Ds,f1,f2,f3⟩:=hdf6;have hs6:=hbs6.but.size;refine⟨D::Ds,by rw[hde,f1];rfl,kY.2 ⟨fun hm=>?_,f2⟩,fun D' hm=>?_⟩
     ·have:=qq (f3 D hm).2.1;omega
     ·rcases kI.1 hm with rfl|hm
      ·exact⟨by omega,hDh,hD⟩
      ·obtain⟨g1,g2,g3⟩:=f3 D' hm;exact⟨g1,(hold D' (qq g2) fun⟨q,hq⟩=>g3 (hb6.pa q _ hq)).trans g2,fun h=>g3 (hA3 _ h)⟩
    refine zif (c2:=c2) (p8:=p6) hl2 hfz2 hb6.anew hf6 hz6 hok.1 (by omega) so (fun A3 p' W' a2 D hA3 hD hDl hDh hde hz2 hold hb8 hbn8 he hs8 hlen=>?_) (fun A3 p' W' a2 D hA3 hD hDl hDh hde hz2 hold hb8 hbn8 he hs8=>?_)
    ·-- the next wake
     show(sqR (sqR (sqR qhn))).wpIn (FR none) 5 uA _ a2 W'
     have hdf8:=hnew hA3 hD hDl hDh hde hold;have hbs8:Bs c.A c.F w S0 p' W':=hbs6.up (show Bs c2.A c.F W6 (pinned p6) p' W' from e2▸hb8) hA2;obtain⟨r,hr⟩:∃r,r=ye wk.val sk o (yb sk wk.att):=⟨_,rfl⟩;rw[←hr] at hs8 he hlen hrun hok;obtain⟨c3,hc3⟩:∃c3:Cx,c3={c2 with A:=A3}:=⟨_,rfl⟩;have hc3A:c3.A=A3:=by rw[hc3]
     have hc3F:c3.F=c2.F:=by rw[hc3]
     have hc3l:c3.lo=1:=by rw[hc3];exact hl2
     have pre:=qa0 (c:=c3) (z:=69) none 5 qda (fun te=>by rw[hc3F];exact hfm te) rfl wkN (n:=6) (ann:=q87) (R:=fun q=>q=[.i ((k+1:Nat):Int)]) (B:=fun _ _=>False) (ts:=[(26,.int .i64,[],[])]) (ms:=[]) (kill:=[]) (σk:=⟨q6l.t.filter (fun e=> !Nat.beq e.1 26),q6l.m⟩) (d:=a2.defers) (l:=[eS s,.r (ws.map eW),.i k,eS r.1,.r (r.2.1.map eC),.i 0]) (σ:=q6l) (w0:=W') (S0:=pinned p') (p:=p') (a:=a2) (w:=W') (Q:=fun _ _ _=>False) (K:=fun a3 W3=>zur c w S0 dK s ws (k+1) a3 W3) (by
      rw[hc3l,zmf];unfold ztj;rw[qp];have hr:i64 ((k:Int)+1):=by
       unfold i64;omega
      simp only[jy,X.says,X.ev,evl,uJ,uK,yw,q6x,q6w,hr,and_self,true_and];rfl) rfl (by rw[hc3A,hc3F];exact hbn8) (by rw[hc3];exact hs8) rfl hz2 fun st p9 W9 a9 hR9 hst9 hb9 hf9 hd9 hz9=>?_
     ·refine wpIn_mono pre fun e a3 W3 hq=>?_;cases e with
      |normal=>exact z10 hlo hfz hwl ho hfin f (k+1) a3 W3 hq (by omega)
      |_=>exact hq.elim
     ·have hR9:st=[.i ((k+1:Nat):Int)]:=hR9;subst hR9;rw[show q0z [(26,.int .i64,[],[])] [] 6 (jv [(26,.int .i64,[],[])] [] [] 6 ⟨q6l.t.filter (fun e=> !Nat.beq e.1 26),q6l.m⟩)=zva from zn3] at hf9;have hst9:∀b,b<W'.heap.size→¬A3 b→W9.heap[b]? =W'.heap[b]? :=fun b hb hn=>(hb9.stays hb fun q hq=>hn (hbn8.pa q _ hq)).1;rw[hc3A,hc3F] at hb9;refine⟨c3,p9,r.1,r.2.1,by rw[hc3];exact e1,by rw[hc3];exact e2,by rw[hc3];exact e3,by rw[hc3];exact e4,fun b h=>hA2 b (hA3 b (by rw[←hc3A];exact h)),hbs8.up (show Bs A3 c.F W' (pinned p') p9 W9 from e2▸hb9) fun b h=>hA2 b (hA3 b h),by rw[hc3A,hc3F];exact hb9.anew,?_,?_,hz9,?_,?_,?_,?_,hk⟩
      ·refine⟨fun t x hx=>?_,fun j e he=>?_⟩
       ·have hx:=qv hx;simp only[q6l,gnM] at hx;rcases hx with⟨rfl,rfl⟩|⟨rfl,rfl⟩|⟨rfl,rfl⟩|⟨rfl,rfl⟩|⟨rfl,rfl⟩|⟨rfl,rfl⟩|⟨rfl,rfl⟩
        ·exact hf9.t 0 (.ref 0 [] 0 qd) (by kernel_rfl)
        ·exact hf9.t 1 (.bx 1 41 (.ref 0 [] 0 qd)) (by kernel_rfl)
        ·exact hf9.t 2 (.ref 2 [] 0 zk) (by kernel_rfl)
        ·exact hf9.t 3 (.sn (VB+3) (.ref 3 [] 0 y7)) (by kernel_rfl)
        ·exact hf9.t 24 (.v (.tok 1) q35 [(0,385)] []) (by kernel_rfl)
        ·exact hf9.t 25 (.v (.len (.tok 1)) (.int .i64) [] []) (by kernel_rfl)
        ·exact hf9.t 26 (.v (.tok 6) (.int .i64) [] []) (by kernel_rfl)
       ·have he:=qv he;simp only[q6l,gnM] at he;rcases he with⟨rfl,rfl⟩|⟨rfl,rfl⟩|⟨rfl,rfl⟩
        ·exact hf9.m 0 ⟨.tok 3,qd,qn 0 qd,[]⟩ (by kernel_rfl)
        ·exact hf9.m 2 ⟨.tok 4,zk,[(0,33)],[]⟩ (by kernel_rfl)
        ·exact hf9.m 3 ⟨.tok 5,y7,[],[]⟩ (by kernel_rfl)
      ·rw[hd9,hc3A];exact hdf8.keep (S0:=S0) (p:=p3) hst9
      ·rw[if_pos he] at hrun;exact hrun
      ·rcases hok.2 with h|h
       ·exact absurd he h
       ·exact h
      ·rw[hr];exact hgr.trans (qif _ _ _ _ hok.1)
      ·have:r.2.1.length≤o.length+(yb sk wk.att).length:=hlen;omega
    ·-- the return from within
     have hdf8:=hnew hA3 hD hDl hDh hde hold;have hbs8:Bs c.A c.F w S0 p' W':=hbs6.up (show Bs c2.A c.F W6 (pinned p6) p' W' from e2▸hb8) hA2;rw[if_neg he] at hrun;have hgt:qe1 s (ye wk.val sk o (yb sk wk.att)).1:=hgr.trans (qif _ _ _ _ hok.1);obtain⟨r,hr⟩:∃r,r=ye wk.val sk o (yb sk wk.att):=⟨_,rfl⟩;rw[←hr] at hs8 he hrun hgt;rw[←hrun,if_neg he] at ho
     show Q .ret a2 W'
     refine hfin 4 .ret wkE [eS s,eS r.1,.r [],.i r.2.2] (fun _ _=>False) p' W' a2 {c2 with A:=A3} rfl ?_ rfl e1 e2 e3 e4 (fun b h=>hA2 b (hA3 b h)) hbs8 hbn8 hs8 hdf8 hz2;rw[zkn,ho];have hg:qb q5q 2 [.i r.2.2,eS r.1,eS s]=some [eS (qvt s r.1)]:=zo8 hgt.1 hgt.2.1 (by rw[hgt.2.2.2.1];exact uC _) he;unfold zv5;simp only[qp,q40,jy,X.says,X.evs,X.ev,evl,uJ,uK,hg];exact⟨⟨rfl,trivial⟩,rfl⟩
  have e:=qlj;rw[←e] at hW;exact hW
end
set_option maxHeartbeats 1000000 in
theorem qhz:FOk y8 zk1:=by
 refine zdf kA 2 wkC qda (fun l=>rfl) Tryz.func23 zj8 q37 (by rw[zmp];decide) rfl zq6 (ann:=q87) wkK fun ds outs hwf hg=>?_;obtain⟨d,r',rfl,hs,rfl⟩:=hwf;obtain⟨s,rfl,so⟩:=wfS hs;simp only[zk1,zr] at hg;split at hg
 case isFalse=>cases hg
 rename_i hcond;obtain⟨hw1,hc1,hwb⟩:=hcond;have hg:=(gnI hg).symm;refine⟨fun q=>q=[.r (s.wk.map eW),eS s,.r [],.i 0],fun _ _=>False,?_,?_⟩
 ·show(q5p uA q5q q87 1 kA.ntmps zrq 1 (qn1 y8) _).go _ _ _ _
  rw[zmp,zlu];have hq:zik 3518437208780 (.r (s.wk.map eW))=true:=by
   simp only[zik,qa8,uB,gnD];omega
  have h0:qb q5q 0 [.r (s.wk.map eW)]=some [.r (s.wk.map eW)]:=by
   have ht:qb q5q 0=gCl 3518437208780:=rfl;rw[ht];simp only[gCl,hq,if_true]
  unfold zu9;simp only[qp,q40,jy,X.says,X.evs,X.ev,evl,uJ,uK,qyh,h0,kG,kC,qa8,q6x,and_self,and_true,true_and]
 ·intro c p w a S0 Q l n σ ks te was B dK hgo hl hpre hup hlo hfz hp0 hfr0 hb hf hd hz hfin;unfold wkK at hgo;split at hgo
  case isFalse=>exact hgo.elim
  rename_i hok;simp only[gnB] at hok;obtain⟨h1,h2,h3,h4⟩:=hok;obtain rfl:=gnN h1;obtain rfl:=gnN h2;obtain rfl:=gnN h3;obtain rfl:=X.beq_ok _ _ h4;have hlo:c.lo=1:=hlo;have hz:a.tmps.size=69:=hz.trans zmp;have hl1:l=[eS s]:=by
   have e:l.take 1=[eS s]:=hpre;rw[←e,vJ (by omega)]
  subst hl1;have hcl:Code.wpIn (FR none) 5 uA (seqs [sqL q88,sqL (sqR q88)] (.seq (.seq (sqL (sqL z87)) (.block z57 (.loop qhn))) wkZ)) Q a w:=by
   refine q2g _ ?_;have pre:qbb (FR none) 5 uA Q zs1 (fun a0 W0=>qbb (FR none) 5 uA Q zrv (fun a1 W1=>(Code.block z57 (.loop qhn)).wpIn (FR none) 5 uA (Exit.then (wkZ.wpIn (FR none) 5 uA Q) Q) a1 W1) a0 W0) a w:=by
    refine qa0 (c:=c) (z:=69) none 5 qda (fun te=>by rw[hfz];exact uQ _) rfl zs1 (n:=1) (ann:=q87) (R:=fun q=>q=[.r (s.wk.map eW),eS s,.r [],.i 0]) (B:=B) (ts:=zdl) (ms:=wkM) (kill:=[]) (σk:=zna) (d:=[dK]) (l:=[eS s]) (σ:=σ) (w0:=w) (S0:=S0) (p:=p) (by rw[hlo];exact hgo) rfl hb hf hd hz fun st p0 W0 a0 hR hst hb0 hf0 hd0 hz0=>?_;have hR:st=[.r (s.wk.map eW),eS s,.r [],.i 0]:=hR;subst hR;rw[show q0z zdl wkM 1 (jv zdl wkM [] 1 zna)=zpo from zjr] at hf0
    -- the copy's word:a snapshot
    obtain⟨c',hc'⟩:∃c':Cx,c'={c with snap:=fun t=>if t<VB then a0.tmps.getD t Go.undef else c.snap t}:=⟨_,rfl⟩;have hcA:c'.A=c.A:=by rw[hc']
    have hcF:c'.F=c.F:=by rw[hc']
    have hcl:c'.lo=1:=by rw[hc'];exact hlo
    have hcs:c'.snap (VB+3)=c.snap (VB+3):=by rw[hc'];show(if VB+3<VB then a0.tmps.getD (VB+3) Go.undef else c.snap (VB+3))=_;exact if_neg (by decide)
    have hs4:∀v,a0.tmps[4]? =some v→v=c'.snap 4:=fun v hv=>by
     rw[hc']
     show v=if 4<VB then a0.tmps.getD 4 Go.undef else c.snap 4
     rw[if_pos (by decide),uG,hv];rfl
    have hf0b:SF (c'.at (qb q5q) [eS s,.r (s.wk.map eW),eS s,.r [],.i 0]) zgl p0 W0 a0:=by
     refine⟨fun t x hx=>?_,fun j e he=>?_⟩
     ·have hx:=qv hx;simp only[zgl,gnM] at hx;rcases hx with⟨rfl,rfl⟩|⟨rfl,rfl⟩|⟨rfl,rfl⟩|⟨rfl,rfl⟩|⟨rfl,rfl⟩
      ·subst hc';exact hf0.t 0 (.ref 0 [] 0 qd) (by kernel_rfl)
      ·subst hc';exact hf0.t 1 (.bx 1 41 (.ref 0 [] 0 qd)) (by kernel_rfl)
      ·subst hc';exact hf0.t 2 (.ref 2 [] 0 zk) (by kernel_rfl)
      ·obtain⟨v,h1,h2,h3⟩:=hf0.t 3 (.sn (VB+3) (.ref 3 [] 0 y7)) (by kernel_rfl);refine⟨v,h1,h2.trans hcs.symm,?_⟩;subst hc';exact h3
      ·obtain⟨v,h1,h2⟩:=hf0.t 4 (.v (.tok 1) q35 [(0,65)] []) (by kernel_rfl);refine⟨v,h1,hs4 v h1,?_⟩;subst hc';exact h2
     ·have he:=qv he;simp only[zgl,gnM] at he;subst hc';rcases he with⟨rfl,rfl⟩|⟨rfl,rfl⟩|⟨rfl,rfl⟩
      ·exact hf0.m 0 ⟨.tok 2,qd,qn 0 qd,[]⟩ (by kernel_rfl)
      ·exact hf0.m 2 ⟨.tok 3,zk,[(0,33)],[]⟩ (by kernel_rfl)
      ·exact hf0.m 3 ⟨.tok 4,y7,[],[]⟩ (by kernel_rfl)
    have h1:qb q5q 1 [.r (s.wk.map eW)]=some [.r ((q1k s.wk).map eW)]:=by
     have ht:qb q5q 1=zh5:=rfl;rw[ht];simp only[zh5];rw[if_pos (by rw[uB];exact hw1),zhi]
    refine qa0 (c:=c') (z:=69) none 5 qda (fun te=>by rw[hcF,hfz];exact uQ _) rfl zrv (n:=5) (ann:=q87) (R:=fun q=>q=[.r ((q1k s.wk).map eW),.i ((q1k s.wk).map eW).length,.i 0,eS s,.r [],.i 0]) (B:=fun _ _=>False) (ts:=wkI) (ms:=wkM) (kill:=[]) (σk:=wkQ) (d:=[dK]) (l:=[eS s,.r (s.wk.map eW),eS s,.r [],.i 0]) (σ:=zgl) (w0:=w) (S0:=S0) (p:=p0) (by
     rw[hcl,zka];unfold zot;simp only[qp,q40,jy,X.says,X.evs,X.ev,evl,uJ,uK,h1,kG,kC,qa8,q6x,and_self,and_true,true_and]) rfl (by rw[hcA,hcF];exact hb0) hf0b hd0 hz0 fun st p1 W1 a1 hR hst hb1 hf1 hd1 hz1=>?_
    have hR:st=[.r ((q1k s.wk).map eW),.i ((q1k s.wk).map eW).length,.i 0,eS s,.r [],.i 0]:=hR;subst hR;rw[show q0z wkI wkM 5 (jv wkI wkM [] 5 wkQ)=ztx from zns] at hf1;rw[hcA,hcF] at hb1;have hwl:=qcz s.wk;refine wpIn_block (wpIn_loop_rounds ((q1k s.wk).length+1) ?_);refine z10 (c:=c) (w:=w) (S0:=S0) (dK:=dK) (s:=s) (ws:=q1k s.wk) (outs:=outs) hlo hfz (by omega) ?_ ?_ ((q1k s.wk).length+1) 0 a1 W1 ?_ (by omega)
    ·rw[hg];unfold qbm;split<;>rfl
    ·intro n' r σ' l' B' p' w' a' c2 q1 q2 q3 q4 q5 q6 q7 q8 q9 q10 q11 q12 q13;exact hfin n' r σ' l' B' p' w' a' c2 q1 q2 q3 q4 q5 q6 q7 q8 q9 q10 q11 q12 (q13.trans zmp.symm)
    ·refine⟨c',p1,s,[],by rw[hc'],hcF,by rw[hc'],hcs,fun b h=>by rw[hcA] at h;exact h,hb1,by rw[hcA,hcF];exact hb1.anew,?_,⟨[],by rw[hd1];rfl,by simp,fun D hD=>nomatch hD⟩,hz1,rfl,hwb,qe1.refl s,by simp,uQ _⟩;refine⟨fun t x hx=>?_,fun j e he=>?_⟩
     ·have hx:=qv hx;simp only[q6l,gnM] at hx;rcases hx with⟨rfl,rfl⟩|⟨rfl,rfl⟩|⟨rfl,rfl⟩|⟨rfl,rfl⟩|⟨rfl,rfl⟩|⟨rfl,rfl⟩|⟨rfl,rfl⟩
      ·exact hf1.t 0 (.ref 0 [] 0 qd) (by kernel_rfl)
      ·exact hf1.t 1 (.bx 1 41 (.ref 0 [] 0 qd)) (by kernel_rfl)
      ·exact hf1.t 2 (.ref 2 [] 0 zk) (by kernel_rfl)
      ·exact hf1.t 3 (.sn (VB+3) (.ref 3 [] 0 y7)) (by kernel_rfl)
      ·exact hf1.t 24 (.v (.tok 5) q35 [(0,385)] []) (by kernel_rfl)
      ·exact hf1.t 25 (.v (.tok 6) (.int .i64) [] []) (by kernel_rfl)
      ·exact hf1.t 26 (.v (.tok 7) (.int .i64) [] []) (by kernel_rfl)
     ·have he:=qv he;simp only[q6l,gnM] at he;rcases he with⟨rfl,rfl⟩|⟨rfl,rfl⟩|⟨rfl,rfl⟩
      ·exact hf1.m 0 ⟨.tok 8,qd,qn 0 qd,[]⟩ (by kernel_rfl)
      ·exact hf1.m 2 ⟨.tok 9,zk,[(0,33)],[]⟩ (by kernel_rfl)
      ·exact hf1.m 3 ⟨.tok 10,y7,[],[]⟩ (by kernel_rfl)
   refine q8b (Q:=Q) (Q':=Q) (fun e a w _ h=>h) [sqL q88,sqL (sqR q88)] (fun a w h=>?_) (qcq [sqL q88,sqL (sqR q88)] [sqL (sqL z87)] pre);refine wpIn_seq (wpIn_seq (wpIn_mono h fun e a w hq=>?_));cases e with
   |normal=>exact hq
   |_=>exact hq
  have e:=ze7;rw[←e] at hcl;exact hcl
end
section
section
variable{s:So}(hv:zi s=true)
include hv
theorem zvm(c:Ce):vcP s c=vcR s c:=(qad hv).vc c
theorem tagz(n:Int):0≤q3f s n↔inS s n=true:=by
 have:=(qad hv).tag_in n;rw[←this];simp
theorem zp8:∀(k:Nat)(c:Ce),z8p s k c=qct s k c
 |0,c=>rfl
 |k+1,c=>by
  unfold z8p qct;by_cases h:c.t=0∧inS s c.n=true∧cellAt s c.n≠c
  ·rw[if_pos h,if_pos ⟨h.1,(tagz hv _).2 h.2.1,h.2.2⟩,zp8 k]
  ·rw[if_neg h,if_neg (fun q=>h ⟨q.1,(tagz hv _).1 q.2.1,q.2.2⟩)]
theorem derz(c:Ce):q2t s c=qdx s c:=by
 unfold q2t qdx;rw[zvm hv];cases h:vcR s c with
 |false=>rfl
 |true=>rw[if_pos rfl,if_pos rfl,zp8 hv,zbe hv h]
theorem z4b(hc:vcR s c=true)(h3:c.t=3):inS s c.n=true∧(cellAt s c.n).t=4∧0≤(cellAt s c.n).n∧(cellAt s c.n).n<s.ys.length∧arS s (cellAt s c.n).n=(q8v s (cellAt s c.n).n).ar∧∀j:Nat,(j:Int)<(q8v s (cellAt s c.n).n).ar→inS s (c.n+1+j)=true∧vcR s (cellAt s (c.n+1+j))=true:=by
 unfold vcR at hc;rw[if_neg (by omega),if_neg (by omega),if_neg (by omega),if_pos h3] at hc;have h4:q3f s c.n=4:=of_decide_eq_true hc;have hi:inS s c.n=true:=by
  unfold q3f at h4;split at h4
  ·assumption
  ·omega
 rw[q34 hi] at h4;obtain⟨a1,a2,a3⟩:=zrr hv hi h4;obtain⟨b1,b2,b3⟩:=z9l (show 0≤arS s (cellAt s c.n).n by omega);exact⟨hi,h4,b1,b2,b3,fun j hj=>a3 j (by rw[b3];exact hj)⟩
theorem z5k(hc:vcR s c=true)(h2:c.t=2):0≤c.n∧c.n<s.ys.length:=by
 unfold vcR at hc;rw[if_neg (by omega),if_neg (by omega),if_pos h2] at hc;have h0:arS s c.n=0:=of_decide_eq_true hc;obtain⟨b1,b2,-⟩:=z9l (show 0≤arS s c.n by omega);exact⟨b1,b2⟩
end
def qy5(s:So)(c:Ce)(nm:ByteArray)(k:Int):Bool:=decide (c.t=3)&&decide (q8v s (cellAt s c.n).n=⟨nm,k⟩)
def zc4:List D→Option (List D)
 |[s,c,nm,k]=>if zi (dS s)&&vcR (dS s) (dC c) then some [.b (qy5 (dS s) (dC c) nm.str k.int)] else none
 |_=>none
theorem qm5:FOk q08 zc4:=qkx fun ds outs hw hg=>by
 obtain⟨d,r,rfl,hd,e,r',rfl,he,f,r2,rfl,hf,g,r3,rfl,hk,rfl⟩:=hw;obtain⟨s,rfl,hs⟩:=wfS hd;obtain⟨c,rfl,hc⟩:=wfC he;obtain⟨nm,rfl,hn⟩:=hf.str;obtain⟨k,rfl,hk⟩:=wfI hk;simp only[zc4,zr,q0t,q5f,yw,kT,kD,gnB] at hg;obtain⟨⟨hv,hcv⟩,rfl⟩:=hg;have ek:D.a [.s nm,.i k]=eY ⟨nm,k⟩:=rfl;by_cases h3:c.t=3
 ·obtain⟨a1,a2,a3,a4,a5,-⟩:=z4b hv hcv h3;have i1:=qs.1 a1;have eg:(D.r (s.ys.map eY)).get (cellAt s c.n).n=eY (q8v s (cellAt s c.n).n):=zbv eY a3 a4;simp only[q3i,gnZ,zs a1,eg,ek,h3,qy5];simp[a3,a4,i1.1,i1.2,h3]
 ·simp only[q3i,gnZ,h3,qy5];simp[h3]
def z5c(l:List ByteArray)(nm:ByteArray):Int:=match l.findIdx? fun a=>decide (a=nm) with
 |some i=>i
 |none=> -1
def zb2:List D→Option (List D)
 |[l,nm]=>some [.i (z5c (l.rs.map D.str) nm.str)]
 |_=>none
theorem zvn(h:Wf d (.row 9)):∃l:List ByteArray,d=.r (l.map .s)∧l.length≤8796093021952:=by
 obtain⟨l,rfl,h1,h2⟩:=h.row_of (te:=.str) rfl;obtain⟨m,rfl,h3⟩:=qe5 (e:=D.s) (P:=fun _=>True) fun x hx=>by
  obtain⟨s,e,-⟩:=(h2 x hx).str;exact⟨s,e,trivial⟩
 have e:LM .str=8796093021952:=by kernel_rfl
 rw[uB,e] at h1;exact⟨m,rfl,h1⟩
theorem z53(l:List ByteArray):(l.map D.s).map D.str=l:=by
 rw[List.map_map];exact List.map_id _
theorem zdh{l:List ByteArray}:z5c l nm<0↔nm∉l:=by
 unfold z5c;split
 ·rename_i i hi;obtain⟨h1,h2,-⟩:=kQ.1 hi;have h2:l[i]=nm:=by simpa using h2
  constructor
  ·intro h;omega
  ·intro h;exact absurd (h2▸kV h1) h
 ·rename_i hi;rw[vF] at hi;constructor
  ·intro _ hm;have:=hi nm hm;simp at this
  ·intro _;decide
set_option maxHeartbeats 1000000 in
theorem qlf:FOk q00 zb2:=qie fun ds outs hw hg=>by
 obtain⟨d,r,rfl,hd,e,r',rfl,he,rfl⟩:=hw;obtain⟨l,rfl,hl⟩:=zvn hd;obtain⟨nm,rfl,hn⟩:=he.str;simp only[zb2,qa8,z53,q5f,kD] at hg;subst hg;rw[q55,zz];refine⟨fun st=>∃k:Nat,k≤l.length∧st=[.i 0,.i k]∧∀j,j<k→l.getD j default≠nm,fun st=>l.length - (st.getD 1 .u).int.toNat,⟨0,uQ _,rfl,fun j hj=>absurd hj (vA _)⟩,?_⟩;rintro st - ⟨k,hk,rfl,hP⟩;rw[zw];refine⟨fun hlt=>?_,fun hlt=>?_⟩
 ·simp only[gnZ] at hlt;have hkl:k<l.length:=by omega
  simp only[gnZ,q31 D.s hkl];refine⟨⟨by omega,by omega⟩,fun hx=>?_,fun hx=>⟨⟨by omega,by omega⟩,?_⟩⟩
  ·have hf:(l.findIdx? fun a=>decide (a=nm))=some k:=by
    rw[kQ];refine⟨hkl,?_,fun j hj=>?_⟩
    ·have e:l.getD k default=l[k]:=by rw[gnG,gnK hkl];rfl
     rw[e] at hx;simpa using hx
    ·have:=hP j hj;rw[gnG,gnK (by omega)] at this;simpa using this
   rw[z5c,hf]
  ·rw[jg,if_pos rfl];refine⟨⟨k+1,by omega,by simp,q2v hP (by simpa using hx)⟩,?_⟩;simp[D.int];omega
 ·simp only[gnZ] at hlt⊢;have:k=l.length:=by omega
  subst this;have hf:(l.findIdx? fun a=>decide (a=nm))=none:=by
   rw[vF];intro a ha;obtain⟨j,hj,rfl⟩:=List.getElem_of_mem ha;have:=hP j hj;rw[gnG,gnK hj] at this;simpa using this
  rw[z5c,hf]
theorem qb9{s:So}(hv:zi s=true)(hc:vcR s c=true)(nm:ByteArray):qi1 s c nm=qy5 s c nm 2:=by
 rw[Bool.eq_iff_iff,q3b];unfold qy5;simp only[gnB,gnD];constructor
 ·rintro⟨h1,-,-,-,-,-,h7⟩;exact⟨h1,h7⟩
 ·rintro⟨h1,h7⟩;obtain⟨a1,a2,a3,a4,a5,a6⟩:=z4b hv hc h1;have:=(a6 1 (by rw[h7];show(1:Int)<2;decide)).1;exact⟨h1,a1,by rw[show c.n+2=c.n+1+(1:Nat) by omega];exact this,a2,a3,a4,h7⟩
theorem z4u{s:So}(hv:zi s=true)(hc:vcR s c=true)(h:qy5 s c nm 2=true):inS s (c.n+1)=true∧vcR s (cellAt s (c.n+1))=true∧inS s (c.n+2)=true∧vcR s (cellAt s (c.n+2))=true:=by
 unfold qy5 at h;simp only[gnB,gnD] at h;obtain⟨h1,h7⟩:=h;obtain⟨a1,a2,a3,a4,a5,a6⟩:=z4b hv hc h1;have b0:=a6 0 (by rw[h7];show(0:Int)<2;decide);have b1:=a6 1 (by rw[h7];show(1:Int)<2;decide);rw[show c.n+1+((0:Nat):Int)=c.n+1 by omega] at b0;rw[show c.n+1+((1:Nat):Int)=c.n+2 by omega] at b1;exact⟨b0.1,b0.2,b1.1,b1.2⟩
theorem zgx{s:So}(hv:zi s=true)(hc:vcR s c=true):qed s c=decide (c.t=2):=by
 unfold qed;by_cases h:c.t=2
 ·obtain⟨h1,h2⟩:=z5k hv hc h;simp[h,h1,h2]
 ·simp[h]
def qjb(l:List At):D:=.r ((l.map At.name).map .s)
def qxa(l:List At):D:=.r (l.map fun x=>eC x.val)
def zcx:List D→Option (List D)
 |[s,c]=>if zi (dS s)&&vcR (dS s) (dC c) then some [qjb (yb (dS s) (dC c)),qxa (yb (dS s) (dC c))] else none
 |_=>none
set_option maxHeartbeats 2000000 in
theorem qhp:FOk jf zcx:=qfg qwc qm5 qlf qi4 fun ds outs hw hg=>by
 obtain⟨d,r,rfl,hd,e,r',rfl,he,rfl⟩:=hw;obtain⟨s,rfl,hs⟩:=wfS hd;obtain⟨c0,rfl,hc0⟩:=wfC he;simp only[zcx,zr,q0t,kT,kD,gnB] at hg;obtain⟨⟨hv,hcv⟩,rfl⟩:=hg;have hl:=z3o hv;have hD:∀c,zd9 [eS s,eC c]=some [eC (qdx s c)]:=fun c=>by
  simp only[zd9,zr,q0t];rw[if_pos hv]
 have hF:∀c nm,vcR s c=true→zc4 [eS s,eC c,.s nm,.i 2]=some [.b (qy5 s c nm 2)]:=fun c nm hc=>by
  simp only[zc4,zr,q0t,hv,hc,q5f,yw,Bool.and_self,if_true]
 have hP:∀(l:List At)nm,zb2 [qjb l,.s nm]=some [.i (z5c (l.map At.name) nm)]:=fun l nm=>by
  simp only[zb2,qjb,qa8,z53,q5f]
 have hK:∀c,q63 [eC c]=some [eC (q2q c)]:=fun c=>by
  simp only[q63,q0t]
 rw[q3u,qp];refine⟨by simp[gnZ,hD],?_⟩;rw[zz];refine⟨fun st=>∃(L:List At)(i:Nat)(c:Ce)(met:List ByteArray),i≤s.cs.length∧vcR s c=true∧st=[qjb L,qxa L,.i i,eC (qdx s c)]∧L++q5n s (s.cs.length - i) c met=yb s c0∧(∀nm,hasB met nm=true↔nm∈L.map At.name)∧L.length≤i,fun st=>s.cs.length - (st.getD 2 .u).int.toNat,⟨[],0,c0,[],uQ _,hcv,by simp[gnZ,hD,qjb,qxa],rfl,by simp[hasB],uC _⟩,?_⟩;rintro st - ⟨L,i,c,met,hi,hc,rfl,hrest,hmet,hLi⟩;have hcd:=z1g hv hc;have hnl:(qjb L).rs.length=L.length:=by simp[qjb,D.rs]
 have hvl:(qxa L).rs.length=L.length:=by simp[qxa,D.rs]
 rw[zw];refine⟨fun hlt=>?_,fun hlt=>?_⟩
 ·simp only[gnZ] at hlt;have hil:i<s.cs.length:=by omega
  obtain⟨k,hk⟩:∃k,s.cs.length - i=k+1:=⟨s.cs.length - i - 1,by omega⟩;rw[hk] at hrest;unfold q5n at hrest;rw[qp];refine⟨by simp[gnZ,hF _ _ hcd],?_⟩;rw[zw];have e1:=hF (qdx s c) ⟨#[46]⟩ hcd;cases hf1:qy5 s (qdx s c) ⟨#[46]⟩ 2 with
  | false =>
   have hnx:q4c s c=none:=by
    unfold q4c;rw[derz hv,qb9 hv hcd,hf1];rfl
   rw[hnx] at hrest;have hrest:L++[]=yb s c0:=hrest;rw[uT] at hrest;rw[hf1] at e1;simp only[gnZ,e1];simp[hrest]
  | true =>
   rw[hf1] at e1;obtain⟨a1,a2,a3,a4⟩:=z4u hv hcd hf1;have p1:=qs.1 a1;have p3:=qs.1 a3;generalize hC:qdx s c=C at *;have hpd:=z1g hv a2;have e2:=hF (qdx s (cellAt s (C.n+1))) ⟨#[45]⟩ hpd;generalize hPp:qdx s (cellAt s (C.n+1))=P at *;cases hf2:qy5 s P ⟨#[45]⟩ 2 with
   | false =>
    have hnx:q4c s c=none:=by
     unfold q4c;simp only[derz hv,hC,hPp,qb9 hv hcd,qb9 hv hpd,hf1,hf2,if_true,gnF,if_false]
    rw[hnx] at hrest;have hrest:L++[]=yb s c0:=hrest;rw[uT] at hrest;rw[hf2] at e2;simp only[gnZ,e1,hD,zs a1,hPp,e2];simp[hrest,p1];omega
   | true =>
    rw[hf2] at e2;obtain⟨b1,b2,b3,b4⟩:=z4u hv hpd hf2;have r1:=qs.1 b1;have r3:=qs.1 b3;have hkd:=z1g hv b2;generalize hKk:qdx s (cellAt s (P.n+1))=K at *;by_cases h2:K.t=2
    ·obtain⟨n1,n2⟩:=z5k hv hkd h2;have eg:(D.r (s.ys.map eY)).get K.n=eY (q8v s K.n):=zbv eY n1 n2;have hnx:q4c s c=some ((q8v s K.n).name,cellAt s (C.n+2),cellAt s (P.n+2)):=by
      unfold q4c;simp only[derz hv,hC,hPp,hKk,qb9 hv hcd,qb9 hv hpd,zgx hv hkd,hf1,hf2,h2,if_true,decide_true];rfl
     rw[hnx] at hrest;simp only at hrest;have hpn:=zdh (l:=L.map At.name) (nm:=(q8v s K.n).name);have hkk:s.cs.length - (i+1)=k:=by omega
     by_cases hin:hasB met (q8v s K.n).name=true
     ·have hpos:¬z5c (L.map At.name) (q8v s K.n).name<0:=fun h=>hpn.1 h ((hmet _).1 hin);rw[hin] at hrest;simp only[gnZ,e1,hD,zs a1,hPp,e2,zs b1,hKk,h2,eg,hP,hpos,zs a3];refine⟨fun h=>(by cases h),fun _=>⟨⟨by omega,by omega,by omega,by omega⟩,fun h=>(by cases h),fun _=>⟨⟨by omega,by omega,by omega,by omega⟩,fun h=>(by cases h),fun _=>⟨⟨n1,n2⟩,fun h=>(by cases h),fun _=>⟨⟨by omega,by omega,by omega,by omega⟩,⟨by omega,by omega⟩,?_⟩⟩⟩⟩⟩;rw[jg,if_pos rfl];refine⟨⟨L,i+1,cellAt s (C.n+2),(q8v s K.n).name::met,by omega,a4,by simp,by rw[hkk];simpa using hrest,fun nm=>?_,by omega⟩,?_⟩
      ·have h1:=hmet nm;have h2:=(hmet (q8v s K.n).name).1 hin;have e:hasB ((q8v s K.n).name::met) nm=(decide ((q8v s K.n).name=nm)||hasB met nm):=rfl;rw[e,uV,gnD,h1];constructor
       ·rintro(rfl|h)
        ·exact h2
        ·exact h
       ·exact .inr
      ·simp[D.int];omega
     ·have hpos:z5c (L.map At.name) (q8v s K.n).name<0:=hpn.2 fun h=>hin ((hmet _).2 h);have hin':hasB met (q8v s K.n).name=false:=by simpa using hin
      rw[hin'] at hrest;simp only[gnZ,e1,hD,zs a1,hPp,e2,zs b1,hKk,h2,eg,hP,hpos,zs a3,zs b3,hK,hnl,hvl];have hml:L.length+1≤1048577:=by omega
      refine⟨fun h=>(by cases h),fun _=>⟨⟨by omega,by omega,by omega,by omega⟩,fun h=>(by cases h),fun _=>⟨⟨by omega,by omega,by omega,by omega⟩,fun h=>(by cases h),fun _=>⟨⟨n1,n2⟩,fun _=>⟨by omega,⟨by omega,by omega,by omega,by omega,by omega⟩,⟨by omega,by omega,by omega,by omega⟩,⟨by omega,by omega⟩,?_⟩,fun h=>(by cases h)⟩⟩⟩⟩;rw[jg,if_pos rfl];refine⟨⟨L++[⟨(q8v s K.n).name,q2q (q2t s (cellAt s (P.n+2)))⟩],i+1,cellAt s (C.n+2),(q8v s K.n).name::met,by omega,a4,?_,?_,fun nm=>?_,by simp;omega⟩,?_⟩
      ·rw[derz hv];simp[qjb,qxa,D.rs]
      ·rw[hkk];simpa using hrest
      ·have h1:=hmet nm;have e:hasB ((q8v s K.n).name::met) nm=(decide ((q8v s K.n).name=nm)||hasB met nm):=rfl;rw[e,uV,gnD,h1,vU,kZ];constructor
       ·rintro(rfl|h)
        ·exact .inr (by simp)
        ·exact .inl h
       ·rintro(h|h)
        ·exact .inr h
        ·exact .inl (by simp at h;exact h.symm)
      ·simp[D.int];omega
    ·have hnx:q4c s c=none:=by
      unfold q4c;simp only[derz hv,hC,hPp,hKk,qb9 hv hcd,qb9 hv hpd,zgx hv hkd,hf1,hf2,h2,if_true,decide_false,gnF,if_false]
     rw[hnx] at hrest;have hrest:L++[]=yb s c0:=hrest;rw[uT] at hrest;simp only[gnZ,e1,hD,zs a1,hPp,e2,zs b1,hKk,h2];simp[hrest,p1,r1];omega
 ·simp only[gnZ] at hlt⊢;have:i=s.cs.length:=by omega
  subst this;rw[jH] at hrest;have hrest:L++[]=yb s c0:=hrest;rw[uT] at hrest;simp[hrest]
end
section
namespace Dl
open Go.RowKit Go.Shelf
attribute [local go_sem] Oper.semAt_some
theorem zen(w:World){o:Oper}(hgd:o.guard=none)(s x:Operand)(t t':TypeId)
  (ho:o.op=.call {callee:=.builtin .append,args:= #[s,x],argTypes:= #[t,t']})(v u:Value)(hs:a.eval s=v)(hx:a.eval x=u){v':Value}{w':World}
  (hr:(uZ #[t,t'] o.type #[v,u]).run uA w=.ok v' w')(h:wpList uA ops Q rest (a.put o.dst v') w'):wpList uA ops Q (o::rest) a w:=
 wpList_plain hgd fun _ hK=>by
  unfold Oper.wp execOp;simp only[ho,resolve,invoke,builtin,Sem.run_bind,Sem.run_pure,Result.andThen_ok,List.map_toArray,kJ,List.map_nil,hs,hx,hr];exact hK _ _ h
theorem zlk(w:World)(b cap n i:Nat)(hi:i<n)(hcap:n≤cap)(hc63:cap≤9223372036854775807)(w1 w2:World)
  (happ:∀o:Addr,o.block=b→(i+1<n→o=⟨b,(i+1) * 3,none⟩)→(uZ #[62,62] 62 #[.slice (some ⟨b,0,none⟩) i cap,.slice (some o) (n - (i+1)) (cap - (i+1))]).run uA w.drew=.ok (.slice (some ⟨b,0,none⟩) (n - 1) cap) w1)
  (hclr:(kX #[62] 0 #[.slice (some ⟨b,(n - 1) * 3,none⟩) 1 (cap - (n - 1))]).run uA w1=.ok (.tuple #[]) w2):Calls uA 46 #[.slice (some ⟨b,0,none⟩) n cap,.int .i64 (i:Nat),.int .i64 ((i:Nat)+1)] w fun e w'=>e=.returned (.slice (some ⟨b,0,none⟩) (n - 1) cap)∧w'=w2:=by
 have hne:¬((i:Int)=(i:Int)+1):=by omega
 have h1:i≤cap:=by omega
 have h2:i+1≤n:=by omega
 have h3:i+1≤cap:=by omega
 have h4:(0:Int)≤(i:Int)+1∧(i:Int)+1≤(n:Int):=by omega
 go_enter Tryz.func46,Tryz.ntmps46
 go_wp2_with fail
 go_still_tail 6,(by kernel_rfl)
 change wpList _ _ _ _ _ w.drew;obtain⟨o,ho⟩:∃o:Addr,(if cap=i+1 then some (⟨b,0,none⟩:Addr) else some ⟨b,(i+1) * 3,none⟩)=some o:=by
  by_cases e:cap=i+1
  ·exact⟨_,if_pos e⟩
  ·exact⟨_,if_neg e⟩
 have ho1:o.block=b:=by
  split at ho<;>(injection ho with ho;subst ho;rfl)
 have ho2:i+1<n→o=⟨b,(i+1) * 3,none⟩:=fun h=>by
  rw[if_neg (by omega)] at ho;injection ho with ho;exact ho.symm
 rw[ho];have ha:=happ o ho1 ho2;refine zen _ rfl _ _ _ _ rfl _ _ rfl rfl ha ?_;have k1:n - 1≤n:=by omega
 have k2:n≤cap:=hcap;have k3:((n - 1:Nat):Int)≤(n:Int):=by omega
 have k4:n - (n - 1)=1:=by omega
 have k5:¬cap=n - 1:=by omega
 go_wp2_with fail
 exact bodyPost_ret (v:=.slice (some ⟨b,0,none⟩) (n - 1) cap) (by simp[results,Tryz.results46,go_sem]) rfl ⟨rfl,rfl⟩
end Dl
end
section
namespace Dl
open Go.RowKit Go.Shelf
abbrev tAt:TypeId:=66
abbrev z4r:TypeId:=62
theorem wA:(Ty.st aS).w=3:=by kernel_rfl
def flT(a:At):List Value:=[.string a.name,.int .i64 a.val.t,.int .i64 a.val.n]
def rwA(l:List At):List Value:=l.flatMap flT
theorem qdh(l:List At):(rwA l).length=l.length * 3:=by
 induction l with
 |nil=>rfl
 |cons x l ih=>simp[rwA,flT] at ih⊢;omega
theorem z3x(l m:List At):rwA (l++m)=rwA l++rwA m:=List.flatMap_append
theorem z6c(x:At)(l:List At):rwA (x::l)=flT x++rwA l:=rfl
theorem zm4{l:List At}:∀v∈rwA l,v.oneCell'=true:=fun v hv=>by
 obtain⟨x,-,hx⟩:=List.mem_flatMap.1 hv;simp only[flT,kI,vS,or_false] at hx;rcases hx with rfl|rfl|rfl<;>rfl
theorem ztc{x:At}(h:x.ok)(w:World)(F:Nat→Prop):Rd w F (eA x) (.st aS) (flT x):=
 ⟨_,_,rfl,flA,.str,[qk],[.string x.name],ceL x.val,rfl,rfl,⟨rfl,rfl,h.1⟩,qk,[],ceL x.val,[],rfl,by simp,qzm h.2,rfl,rfl⟩
theorem zq4{w:World}(h:Rd w F d (.st aS) cs):∃x:At,x.ok∧d=eA x∧cs=flT x:=by
 obtain⟨l,rfl,hF⟩:=Ins.of_rdS flA h;obtain⟨d1,l1,c1,c2,rfl,rfl,h1,hG⟩:=Ins.of_rdF hF;obtain⟨d2,l2,c3,c4,rfl,rfl,h2,hH⟩:=Ins.of_rdF hG;obtain⟨rfl,rfl⟩:=Ins.of_rdN hH;obtain⟨x,ha,hx⟩:=wfA ⟨w,F,_,h⟩;obtain⟨n,v⟩:=x;have e:=congrArg D.fs ha;simp only[eA,D.fs,vW,and_true] at e;obtain⟨rfl,rfl⟩:=e;obtain rfl:=z09 h2;obtain⟨-,rfl,-⟩:=h1;exact⟨⟨n,v⟩,hx,rfl,rfl⟩
theorem qzh{w:World}{o:Nat}(hc:w.heap[b]? =some (.cells cur T (0,0))):∀{rs:List D}{i:Nat},RdE w F rs (.st aS) (some ⟨b,o,none⟩) i→∃L:List At,rs=L.map eA∧(∀x∈L,x.ok)∧cur.toList.drop (o+i * 3)=rwA L++cur.toList.drop (o+(i+rs.length) * 3)
 |[],i,_=>⟨[],rfl,fun x hx=>(by cases hx),by simp[rwA]⟩
 |d::rs,i,⟨⟨b',o',cs,e,hF,hr,hd⟩,h⟩=>by
  injection e with e;injection e with e1 e2;subst e1 e2;obtain⟨x,hx,rfl,rfl⟩:=zq4 hd;obtain⟨L,rfl,hL,hdr⟩:=qzh hc h;rw[wA] at hr;refine⟨x::L,rfl,fun y hy=>(kI.1 hy).elim (fun e=>e▸hx) (hL y),?_⟩;have:=Ins.range_drop3 hc hr;rw[this,show o+i * 3+3=o+(i+1) * 3 by omega,hdr,show i+1+(L.map eA).length=i+(eA x::L.map eA).length by simp;omega];rfl
theorem zdj{w:World}{l:List D}(h:q1e A p w dep pin tAt (.st aS) l v)(h0:0<l.length):
  ∃g cap L post,v=.slice (some ⟨g,0,none⟩) l.length cap∧p pin=some g∧l=L.map eA∧(∀x∈L,x.ok)∧w.heap[g]? =some (.cells (rwA L++post).toArray tAt (0,0))∧l.length≤cap∧cap≤maxLen∧post.length=(cap - l.length) * 3:=by
 rcases h with⟨-,rfl⟩|⟨g,cap,cur,rfl,hg,hh,h1,h2,h3,h4,h5⟩
 ·simp at h0
 ·obtain⟨L,hL,hok,hdr⟩:=qzh (F:=FFD A p (pin::dep)) (o:=0) hh (rs:=l) (i:=0) (q0s.2 fun j hj=>by
   obtain⟨cs,hr,hx⟩:=h5 j hj;exact⟨g,0,cs,rfl,.inr ⟨pin,by simp,hg⟩,by simpa using hr,hx.mono fun b _ hb=>hb.mono fun x hx=>uO _ hx⟩)
  have hl:=qdh L;have hll:l.length=L.length:=by rw[hL,uB]
  simp only[vN,kM,vD] at hdr;rw[wA] at h3;have hcl:=congrArg vP hdr;rw[uR,kK,kB] at hcl;refine⟨g,cap,L,cur.toList.drop (l.length * 3),rfl,hg,hL,hok,?_,h1,h2,?_⟩
  ·rw[←hdr];exact hh
  ·rw[kK,kB];omega
theorem zbt:∀{l:List At}{i:Nat}(h:i<l.length){j:Nat}{v:Value},(flT l[i])[j]? =some v→(rwA l)[i * 3+j]? =some v
 |x::l,0,_,j,v,hj=>by
  rw[vN,kM,z6c];exact uL (by have:=(gnH.1 hj).1;exact this)▸hj
 |x::l,i+1,h,j,v,hj=>by
  have:=zbt (l:=l) (i:=i) (by simpa using h) (j:=j) (v:=v) (by simpa using hj);rw[z6c,show(i+1) * 3+j=i * 3+j+3 by omega];exact this
theorem z0x{w:World}{k:Nat}(h:w.heap[b]? =some (.cells cs.toArray T (0,0)))(hv:cs[k]? =some v):w.cell? ⟨b,k,none⟩=some v:=by
 have:=cell_of_row w b k _ T (0,0) h;rw[this];simpa using hv
theorem zmo{w:World}{g cap:Nat}{M:List At}{post:List Value}(hp:p pin=some g)(hM:∀x∈M,x.ok)(hh:w.heap[g]? =some (.cells (rwA M++post).toArray tAt (0,0)))(h1:M.length≤cap)(h2:cap≤maxLen)(h3:post.length=(cap - M.length) * 3)(h4:M.length≤4398046510976):
  q1e A p w [] pin tAt (.st aS) (M.map eA) (.slice (some ⟨g,0,none⟩) M.length cap):=by
 have hl:=qdh M;refine .inr ⟨g,cap,_,by rw[uB],hp,hh,by rw[uB];exact h1,h2,by rw[kR,uR,wA];omega,by rw[uB,lmA];exact h4,fun i hi=>?_⟩;have hi':i<M.length:=by simpa using hi
 refine⟨flT M[i],fun j v hj=>?_,by simpa using ztc (hM _ (kV hi')) _ _⟩;rw[wA];have:=zbt hi' hj;exact z0x hh (uL (by have:=(gnH.1 this).1;exact this)▸this)
theorem zix:uA.underlying z4r=some (.slice tAt):=by kernel_rfl
theorem zkw:(uA.info? tAt).map (fun i=>i.size)=some 3:=by kernel_rfl
theorem zkf(w:World):(zeroValue tAt).run uA w=.ok (.agg #[.string ⟨#[]⟩,.int .i64 0,.int .i64 0]) w:=by kernel_rfl
theorem za9(w:World)(g i m cap mc:Nat)(a:Addr)(cur:Array Value)(t:TypeId)(cs:List Value)
  (hg:w.heap[g]? =some (.cells cur t (0,0)))(hl:cs.length=m * 3)(hsrc:∀j v,cs[j]? =some v→w.cell? (a.add j)=some v)(hroom:i+m≤cap)(hfit:i * 3+cs.length≤cur.size)(h1:∀v∈cs,v.oneCell'=true):
  (uZ #[z4r,z4r] z4r #[.slice (some ⟨g,0,none⟩) i cap,.slice (some a) m mc]).run uA w=
   .ok (.slice (some ⟨g,0,none⟩) (i+m) cap) (w.setRow g (cur.toList.take (i * 3)++cs++cur.toList.drop (i * 3+cs.length)).toArray):=by
 have hld:=run_loadCells_list (P:=uA) w a cs hsrc;have hst:=run_storeCells_at uA g (i * 3) t cs 0 cur w hg (by simpa using hfit) h1;obtain⟨ti,hi,e⟩:=Option.map_eq_some_iff.1 zkw;have e:ti.size=3:=e;rw[hl] at hld;simp[uZ,run_underlying zix,Builtin.lenOf,Builtin.firstCells,sizeOf,typeInfo,hi,e,hroom,hld,hst,Addr.add_lit]
def zAt:List Value:=[.string ⟨#[]⟩,.int .i64 0,.int .i64 0]
theorem z96(w:World)(g q c:Nat)(cur:Array Value)(t:TypeId)(hg:w.heap[g]? =some (.cells cur t (0,0)))(hfit:q+3≤cur.size):
  (kX #[z4r] 0 #[.slice (some ⟨g,q,none⟩) 1 c]).run uA w=.ok (.tuple #[]) (w.setRow g (cur.toList.take q++zAt++cur.toList.drop (q+3)).toArray):=by
 have hst:=run_storeCells_at uA g q t zAt 0 cur w hg (by simpa[zAt] using hfit) (fun v hv=>by
  simp only[zAt,kI,vS,or_false] at hv;rcases hv with rfl|rfl|rfl<;>rfl)
 have hz:(Builtin.zeroCells #[.string ⟨#[]⟩,.int .i64 0,.int .i64 0] 1).toList=zAt:=by kernel_rfl
 have hl:zAt.length=3:=rfl;rw[hl] at hst;simp only[Nat.add_zero] at hst;simp only[kX,List.getElem?_toArray,List.getElem?_cons_zero,Sem.run_bind,run_underlying zix,Result.andThen_ok,zkf,Value.cells,hz,hst,Sem.run_pure]
end Dl
end
section
open Go.RowKit Go.Shelf
open Dl
def zp3:List D→Option (List D)
 |[l,i,j]=>if 0≤i.int∧i.int<l.rs.length∧j.int=i.int+1 then some [.r (l.rs.take i.int.toNat++l.rs.drop (i.int.toNat+1))] else none
 |_=>none
theorem zn0{w:World}(h:Con A p w d (.row tAt) [(0,pin)] [] cs):∃l v,d=.r l∧cs=[v]∧q1e A p w [] pin tAt (.st aS) l v:=by
 rcases h with⟨E,te,l,v,e,hte,rfl,rfl,h⟩|⟨K,V,kt,vt,l,g,es,clock,e,-⟩
 ·injection e with e;subst e;obtain rfl:=gnI (hte.symm.trans tyA);exact⟨l,v,rfl,rfl,h⟩
 ·cases e
set_option maxHeartbeats 1000000 in
theorem qam:FOk j8 zp3:=FOk.of_at q8x fun ds outs hw hg=>by
 obtain⟨d,r,rfl,hd,e,r',rfl,he,e2,r2,rfl,he2,hw⟩:=hw;obtain rfl:r2=[]:=hw;obtain⟨l,te,rfl,hte,hl,-⟩:=hd.row;obtain⟨n,rfl,hn⟩:=wfI he;obtain⟨m,rfl,hm⟩:=wfI he2;have hg':(if 0≤n∧n<l.length∧m=n+1 then some [D.r (l.take n.toNat++l.drop (n.toNat+1))] else none)=some outs:=hg;split at hg'
 case isFalse=>cases hg'
 rename_i hc;obtain⟨h1,h2,rfl⟩:=hc;injection hg' with hg';subst hg';clear hg;intro A F p w vs us hfl hfo hpre hvl hargs;have hF0:∀te,F.mx te=0:=fun te=>hfl.zero rfl te;obtain⟨v0,r0,d0,ds0,e0,e00,⟨cs0,hpk0,hc0⟩,v1,r1,d1,ds1,e1,e11,⟨cs1,hpk1,hc1⟩,v2,r2,d2,ds2,e2',e22,⟨cs2,hpk2,hc2⟩,hr⟩:=hargs;obtain rfl:r2=[]:=hr.1;subst e1 e2';obtain⟨rfl,rfl⟩:=uY e00;obtain⟨rfl,rfl⟩:=uY e11;obtain⟨rfl,-⟩:=uY e22;clear e00 e11 e22 hr;obtain⟨rfl,rfl⟩:vs=[v0,v1,v2]∧us=[]:=by
  have hl3:vs.length=3:=hvl;have hus:us.length=0:=by
   have:=congrArg vP e0;simp at this;omega
  obtain rfl:=List.length_eq_zero_iff.1 hus;exact⟨by simpa using e0,rfl⟩
 clear e0;have hc0:Con A p w (D.r l) (.row tAt) [(0,1)] [] cs0:=hc0;obtain⟨l',u0,q0,rfl,ho0⟩:=zn0 hc0;injection q0 with q0;subst q0;obtain rfl:u0=v0:=(uY hpk0).1;obtain⟨n',-,e,rfl⟩:=Ins.of_rdI hc1;injection e with e;subst e;obtain rfl:Value.int .i64 n=v1:=(uY hpk1).1;obtain⟨n',-,e,rfl⟩:=Ins.of_rdI hc2;injection e with e;subst e;obtain rfl:Value.int .i64 (n+1)=v2:=(uY hpk2).1;obtain⟨g,cap,L,post,rfl,hpg,hL,hLo,hg,hcap,hcm,hpost⟩:=zdj ho0 (by omega);have hLl:l.length=L.length:=by rw[hL,uB]
 obtain⟨i,rfl⟩:∃i:Nat,n=i:=⟨n.toNat,by omega⟩;have hi:i<L.length:=by omega
 have hlm:cap≤9223372036854775807:=by unfold maxLen at hcm;omega
 have hout:l.take (i:Int).toNat++l.drop ((i:Int).toNat+1)=(L.take i++L.drop (i+1)).map eA:=by
  rw[hL,uP];simp
 have hNo:∀y∈L.take i++L.drop (i+1),y.ok:=fun y hy=>by
  rcases kZ.1 hy with h|h
  ·exact hLo y (List.mem_of_mem_take h)
  ·exact hLo y (List.mem_of_mem_drop h)
 have hNl:(L.take i++L.drop (i+1)).length=L.length - 1:=by simp;omega
 have hlL:=qdh L;have hlD:=qdh (L.drop (i+1));have hlN:=qdh (L.take i++L.drop (i+1));have hlT:=qdh (L.take i);rw[kK] at hlD;rw[kU,vX (by omega)] at hlT;rw[hNl] at hlN;have hsp:rwA L=rwA (L.take i)++rwA (L.drop i):=by rw[←z3x,vO]
 have hsp2:rwA L=rwA (L.take (i+1))++rwA (L.drop (i+1)):=by rw[←z3x,vO]
 have hlT2:=qdh (L.take (i+1));rw[kU,vX (by omega)] at hlT2;have hgd:w.drew.heap[g]? =some (.cells (rwA L++post).toArray tAt (0,0)):=hg
 -- the cells behind the append
 have hc1':((rwA L++post).take (i * 3)++rwA (L.drop (i+1))++(rwA L++post).drop (i * 3+(rwA (L.drop (i+1))).length))=rwA (L.take i++L.drop (i+1))++(rwA L++post).drop ((L.length - 1) * 3):=by
  rw[z3x,hlD]
  congr 1
  ·congr 1
   rw[hsp,kF,←hlT,vY]
  ·congr 1
   omega
 have hsz:(rwA L++post).length=cap * 3:=by rw[uR,hlL,hpost,hLl];omega
 have happ:∀o:Addr,o.block=g→(i+1<L.length→o=⟨g,(i+1) * 3,none⟩)→(uZ #[z4r,z4r] z4r #[.slice (some ⟨g,0,none⟩) i cap,.slice (some o) (L.length - (i+1)) (cap - (i+1))]).run uA w.drew=.ok (.slice (some ⟨g,0,none⟩) (L.length - 1) cap) (w.drew.setRow g (rwA (L.take i++L.drop (i+1))++(rwA L++post).drop ((L.length - 1) * 3)).toArray):=fun o ho1 ho2=>by
  have:=za9 w.drew g i (L.length - (i+1)) cap (cap - (i+1)) o (rwA L++post).toArray tAt (rwA (L.drop (i+1))) hgd hlD (fun j v hj=>?_) (by omega) (by rw[hlD];simp only[kR,hsz];omega) zm4
  ·rw[this,show i+(L.length - (i+1))=L.length - 1 by omega];rw[←hc1']
  ·have hj':=(gnH.1 hj).1;rw[hlD] at hj';rw[ho2 (by omega)];rw[Addr.add_lit];refine z0x hgd ?_;rw[uL (by rw[hlL];omega),hsp2,vC (by omega),hlT2,show(i+1) * 3+j - (i+1) * 3=j by omega];exact hj
 have hg1:=setRow_heap w.drew g _ (rwA (L.take i++L.drop (i+1))++(rwA L++post).drop ((L.length - 1) * 3)).toArray tAt (0,0) hgd;have hclr:=z96 (w.drew.setRow g (rwA (L.take i++L.drop (i+1))++(rwA L++post).drop ((L.length - 1) * 3)).toArray) g ((L.length - 1) * 3) (cap - (L.length - 1)) _ tAt hg1 (by simp only[kR,uR,hlN,kK];simp only[uR] at hsz;omega);have hc2':((rwA (L.take i++L.drop (i+1))++(rwA L++post).drop ((L.length - 1) * 3)).toArray.toList.take ((L.length - 1) * 3)++zAt++(rwA (L.take i++L.drop (i+1))++(rwA L++post).drop ((L.length - 1) * 3)).toArray.toList.drop ((L.length - 1) * 3+3))=rwA (L.take i++L.drop (i+1))++(zAt++post):=by
  show((rwA (L.take i++L.drop (i+1))++(rwA L++post).drop ((L.length - 1) * 3)).take ((L.length - 1) * 3)++zAt++(rwA (L.take i++L.drop (i+1))++(rwA L++post).drop ((L.length - 1) * 3)).drop ((L.length - 1) * 3+3))=_
  rw[←hlN,vY,kF]
  congr 2
  rw[List.drop_append,List.drop_eq_nil_of_le (by omega),uW,List.drop_drop,hlN,show(L.length - 1) * 3+((L.length - 1) * 3+3 - (L.length - 1) * 3)=(rwA L).length by rw[hlL];omega,List.drop_left]
 rw[hc2',setRow_setRow] at hclr;rw[show(vP l)=L.length from hLl];refine Calls.mono (zlk w g cap L.length i hi (by omega) hlm _ _ happ hclr) ?_;rintro e w'⟨rfl,rfl⟩;have hbut:But (pinned p) w (w.drew.setRow g (rwA (L.take i++L.drop (i+1))++(zAt++post)).toArray):=q84 (But.refl (pinned p) w).drew (.inl ⟨_,hpg⟩) _;have hh:=setRow_heap w.drew g _ (rwA (L.take i++L.drop (i+1))++(zAt++post)).toArray tAt (0,0) hgd;have hp':∀y b,(fun y=>if y=49 then some g else none:qg) y=some b→y=49∧b=g:=fun y b h=>by
  by_cases hy:y=49
  ·subst hy;exact⟨rfl,(gnI h).symm⟩
  ·simp[hy] at h
 refine .inr ⟨[.slice (some ⟨g,0,none⟩) (L.length - 1) cap],fun y=>if y=49 then some g else none,rfl,⟨?_,?_,hbut,?_,hpre.new,?_,?_,Flo.of0 hF0 hfo⟩,?_,rfl⟩
 ·intro y z b h1 h2;rw[(hp' y b h1).1,(hp' z b h2).1]
 ·intro y b h;rw[(hp' y b h).2];exact qq hh
 ·intro y b h;rw[(hp' y b h).2];exact .inl ⟨_,hpg⟩
 ·intro y b h;rw[(hp' y b h).2];exact hpre.pa _ _ hpg
 ·intro y b h;rw[(hp' y b h).2];exact .inl ⟨_,_,hh⟩
 ·refine⟨_,_,_,_,rfl,rfl,⟨[.slice (some ⟨g,0,none⟩) (L.length - 1) cap],rfl,?_⟩,rfl⟩;refine .inl ⟨tAt,.st aS,_,_,rfl,tyA,rfl,rfl,?_⟩;rw[hout,←hNl];refine zmo rfl hNo hh (by rw[hNl];omega) hcm (by rw[hNl,uR,hpost];show 3+_=_;omega) ?_;rw[hNl];have:=hl;obtain rfl:=gnI (hte.symm.trans tyA);rw[lmA] at hl;omega
end
def qwl:List D→Option (List D):=qar [] 60 qcp
theorem qk2:FOk q21 qwl:=z27 fun ds outs hw hg=>q18 (fuel:=60) hg
def qm8:List D→Option (List D):=qar [] 60 qbh
theorem qia:FOk q15 qm8:=qyx fun ds outs hw hg=>q18 (fuel:=60) hg
def qzf:List D→Option (List D):=qar [(yx,gTb q01),(q05,gTi fun t=>min (szT t:Int) 2001),(yf,gTb zq),(yi,gTT qwr)] 60 qb2
theorem qy2:FOk q1z qzf:=qxm qck qjp qkz qf7 fun ds outs hw hg=>q18 (fuel:=60) hg
def qj4:List D→Option (List D):=qar [(zo,gSt qbd),(q0b,zo9),(yp,gSL qhy),(q1z,qzf),(zx,z9v)] 60 q9e
theorem qff:FOk jd qj4:=qu2 q4u qfn q6k qy2 z44 fun ds outs hw hg=>q18 (fuel:=60) hg
def quc:List D→Option (List D):=qar [(qu,qzt),(y9,zcd),(qh,qcu vcP),(yg,zj9),(yq,qoy),(jd,qj4),(zn,z7i vcP qay),(qf4,q72)] 60 qcb
theorem qkj:FOk q26 quc:=z1s q4l qcx jm qfb qdq qff q7c fun ds outs hw hg=>q18 (fuel:=60) hg
def z5n:List D→Option (List D):=qar [(qu,qzt),(yg,zj9),(yq,qoy),(y9,zcd),(j8,zp3),(jd,qj4),(zn,z7i vcP qay),(qf4,q72)] 60 qci
theorem z2l:FOk q65 z5n:=z2w q4l qfb qdq qcx qam qff q7c fun ds outs hw hg=>q18 (fuel:=60) hg
def z6k:List D→Option (List D):=qar [(qu,qzt),(yg,zj9),(yq,qoy)] 60 qch
theorem z4g:FOk q61 z6k:=z3t q4l qfb qdq fun ds outs hw hg=>q18 (fuel:=60) hg
def z0e:List D→Option (List D):=qar [(q14,q63),(zn,z7i vcP qay)] 60 q6e
theorem qx3:FOk q17 z0e:=qhw qe6 q7c fun ds outs hw hg=>q18 (fuel:=60) hg
def z0m:List D→Option (List D):=qar [(qu,qzt),(qh,qcu vcP),(zj,qf5),(zn,z7i vcP qay),(q17,z0e),(q07,qcv inS),(qx,zk0),(q16,gOr)] 60 qbi
theorem qyn:FOk q4n z0m:=qxh q4l jm q5k q7c qx3 qjc q4g qx4 fun ds outs hw hg=>q18 (fuel:=60) hg
def z6i(r:List D→Option (List D)):List D→Option (List D):=qar [(j6,r),(zj,qf5),(q21,qwl),(jc,qa3 arS),(zo,gSt qbd),(ja,qa3 q3f)] 60 q7v
def qsi:List D→Option (List D):=upN z6i 6
theorem qq7:FOk j6 qsi:=qsz qc2 (fun r hr=>qph hr q5k qk2 qfs q4u qac fun ds outs hw hg=>q18 (fuel:=60) hg) 6
def z0h:List D→Option (List D):=qar [(j6,qsi),(qh,qcu vcP)] 60 qaw
theorem qz1:FOk q4k z0h:=qy7 qq7 jm fun ds outs hw hg=>q18 (fuel:=60) hg
def z3p(r:List D→Option (List D)):List D→Option (List D):=qar [(yr,r)] 60 q4q
def qp1:List D→Option (List D):=upN z3p 6
theorem qqw:FOk yr qp1:=qsz q6h (fun r hr=>qea hr fun ds outs hw hg=>q18 (fuel:=60) hg) 6
def quw:List D→Option (List D):=qar [(yr,qp1)] 60 q5h
theorem qwv:FOk q0k quw:=qgc qqw fun ds outs hw hg=>q18 (fuel:=60) hg
def qu0:List D→Option (List D):=qar [] 60 q5i
theorem qtk:FOk q0j qu0:=qg4 fun ds outs hw hg=>q18 (fuel:=60) hg
def z1m(r:List D→Option (List D)):List D→Option (List D):=qar [(q0j,qu0),(yu,r)] 60 q4t
def qoo:List D→Option (List D):=upN z1m 6
theorem qrf:FOk yu qoo:=qsz q79 (fun r hr=>qej qtk hr fun ds outs hw hg=>q18 (fuel:=60) hg) 6
def qp4:List D→Option (List D):=qar [(q0k,quw),(yu,qoo)] 60 q4x
theorem qpe:FOk j5 qp4:=qei qwv qrf fun ds outs hw hg=>q18 (fuel:=60) hg
def qmp(r:List D→Option (List D)):List D→Option (List D):=qar [(zl,r)] 60 q4e
def qec:List D→Option (List D):=upN qmp 6
theorem qha:FOk zl qec:=qsz q7l (fun r hr=>qh8 hr fun ds outs hw hg=>q18 (fuel:=60) hg) 6
def quh:List D→Option (List D):=qar [(j5,qp4),(zl,qec)] 60 q9n
theorem que:FOk q3t quh:=qvj qpe qha fun ds outs hw hg=>q18 (fuel:=60) hg
def z0d:List D→Option (List D):=qar [] 60 qb7
theorem qyf:FOk q20 z0d:=qys fun ds outs hw hg=>q18 (fuel:=60) hg
def qi0:List D→Option (List D):=qar [(q20,z0d),(z7,z2m),(q15,qm8),(q26,quc)] 60 q5o
theorem qld:FOk q2b qi0:=qle qyf qfl qia qkj fun ds outs hw hg=>q18 (fuel:=60) hg
theorem z8e{ct:Ct}{tbl:Tbl}{outs:List D}{fuel:Nat}(ann:Ann)(fn:Func)(cd:Code)(htb:q0i tbl)(hf:uA.funcs[ct.f]? =some fn)(hb:fn.body=some cd)
  (hen:∀args w,(callFunc ct.f args).run uA w=.ok (.enter ct.f args) w)(hsz:ct.ar.length≤fn.ntmps)(har:ct.ars=[])(hden:qar tbl fuel (qgg uA tbl ann ct fn cd) []=some outs)(hnp:q76 tbl=true)(hkp:ct.kp=[])(hfl:ct.fl=[]):FOk ct fun _=>some outs:=
 zgq ann fn cd htb hf hb hen hsz (fun ds o hw hg=>by
  rw[har] at hw;obtain rfl:ds=[]:=hw;injection hg with hg;subst hg;exact q18 hden) hnp hkp hfl
def zbx:Ct:=⟨26,[],[(.st 4242424242,true)],[],none,[],[]⟩
theorem zn9:FOk zbx fun _=>none:=⟨qe8,(fun A F p w vs us ds outs h=>by cases h),fun h=>absurd rfl h⟩
noncomputable def awC:Code:=match jD.body with
 |some c=>c
 |none=>.skip
def zpt:Tbl:=[(zbx,fun _=>none),(q2b,qi0),(q61,z6k),(q15,qm8),(q26,quc),(q65,z5n),(q4n,z0m),(y8,zk1),(q4k,z0h),(zo,gSt qbd),(q21,qwl),(yp,gSL qhy),(q3t,quh)]
theorem znl:q0i zpt:=.cons zn9 (.cons qld (.cons z4g (.cons qia (.cons qkj (.cons z2l (.cons qyn (.cons qhz (.cons qz1 (.cons q4u (.cons qk2 (.cons q6k (.cons que .nil))))))))))))
theorem zq1:qar zpt 12 (qgg uA zpt qeg q3d jD awC) []=some [.b true]:=by kernel_rfl
theorem qvo:FOk q3d fun _=>some [.b true]:=z8e qeg jD awC znl (by kernel_rfl) (by kernel_rfl) qkb (by decide) (by kernel_rfl) zq1 (by kernel_rfl) (by kernel_rfl) (by kernel_rfl)
def z2e(s:So):Bool:=decide (s.cs.length≤300)&&decide (s.ys.length≤100)&&decide (s.tr.length≤300)&&decide (s.wk.length≤50)
theorem qsk:FOk q1i (gSb z2e):=qpr fun ds outs hw hg=>by
 obtain⟨d,r,rfl,hd,rfl⟩:=hw;obtain⟨s,rfl,hs⟩:=wfS hd;simp only[gSb,zr,kD] at hg;subst hg;have h1:decide ((s.cs.length:Int)≤300)=decide (s.cs.length≤300):=decide_eq_decide.2 (by omega);have h2:decide ((s.ys.length:Int)≤100)=decide (s.ys.length≤100):=decide_eq_decide.2 (by omega);have h3:decide ((s.tr.length:Int)≤300)=decide (s.tr.length≤300):=decide_eq_decide.2 (by omega);have h4:decide ((s.wk.length:Int)≤50)=decide (s.wk.length≤50):=decide_eq_decide.2 (by omega);simp only[q8a,gnZ,z2e,h1,h2,h3,h4]
theorem z7a{α:Type}[DecidableEq α]:∀{l m:List α},l.Nodup→(∀x∈l,x∈m)→l.length≤m.length
 |[],m,_,_=>uQ _
 |a::l,m,h,hs=>by
  obtain⟨h1,h2⟩:=kY.1 h;have ha:=hs a uU;have:=z7a (m:=m.erase a) h2 fun x hx=>(List.mem_erase_of_ne (fun e=>by rw[e] at hx;exact h1 hx)).2 (hs x (uO _ hx));rw[List.length_erase_of_mem ha] at this;have hp:=List.length_pos_of_mem ha;simp only[uD];omega
def NmS(N:List ByteArray)(s:So):Prop:=∀y∈s.ys,y.name∈N
variable{N:List ByteArray}
theorem zfn{s:So}(h:NmS N s){tl vl:Ce}(hn:q4c s c=some (nm,tl,vl)):nm∈N:=by
 unfold q4c at hn;split at hn
 ·split at hn
  ·split at hn
   ·rename_i ha;simp only[gnS] at hn;obtain⟨rfl,-,-⟩:=hn;unfold qed at ha;simp only[gnB,gnD] at ha;refine h _ ?_;rw[gnG,gnK (by omega)];exact kV _
   ·cases hn
  ·cases hn
 ·cases hn
theorem zfy{met:List ByteArray}:hasB met nm=true↔nm∈met:=by
 unfold hasB;simp
theorem z6d{s:So}(h:NmS N s):∀(k:Nat)(c:Ce)(met:List ByteArray),(∀x∈q5n s k c met,x.name∉met∧x.name∈N)∧((q5n s k c met).map At.name).Nodup
 |0,c,met=>⟨fun x hx=>(nomatch hx),jA⟩
 | k + 1, c, met => by
  unfold q5n;split
  ·exact⟨fun x hx=>(by cases hx),jA⟩
  ·rename_i nm tl vl hn;obtain⟨h1,h2⟩:=z6d h k tl (nm::met);have hnm:=zfn h hn;cases hb:hasB met nm with
   |true=>
    simp only[if_true,uW];exact⟨fun x hx=>⟨fun hm=>(h1 x hx).1 (uO _ hm),(h1 x hx).2⟩,h2⟩
   | false =>
    simp only[gnF,if_false,kL,uW,kJ];refine⟨fun x hx=>?_,kY.2 ⟨fun hm=>?_,h2⟩⟩
    ·rcases kI.1 hx with rfl|hx
     ·refine⟨fun hm=>?_,hnm⟩;rw[zfy.2 hm] at hb;cases hb
     ·exact⟨fun hm=>(h1 x hx).1 (uO _ hm),(h1 x hx).2⟩
    ·obtain⟨x,hx,e⟩:=vK.1 hm;exact(h1 x hx).1 (by rw[e];exact uU)
theorem zch{s:So}(h:NmS N s)(c:Ce):(yb s c).length≤N.length∧∀x∈yb s c,x.name∈N:=by
 obtain⟨h1,h2⟩:=z6d h s.cs.length c [];have:=z7a (m:=N) h2 fun nm hm=>by
  obtain⟨x,hx,rfl⟩:=vK.1 hm;exact(h1 x hx).2
 rw[uB] at this;exact⟨this,fun x hx=>(h1 x hx).2⟩
theorem qdz(nm:ByteArray):(∃a,q2l nm=.mk 3 0 qb6 [a,.mk 0 0 ⟨#[]⟩ [],.mk 0 1 ⟨#[]⟩ []]∧(a=.mk 2 0 nm []∨a=zT))∨q2l nm=zT:=by
 have e0:vaT 0=.mk 0 0 ⟨#[]⟩ []:=rfl;have e1:vaT 1=.mk 0 1 ⟨#[]⟩ []:=rfl;unfold q2l qhy;rw[if_neg (by simp),e0,e1];unfold qwr;split
 ·refine .inl ⟨qbd nm,rfl,?_⟩;unfold qbd;split
  ·exact .inl rfl
  ·exact .inr rfl
 ·exact .inr rfl
theorem qzv(nm:ByteArray):q5v (q2l nm)≤4:=by
 rcases qdz nm with⟨a,h,h2⟩|h
 ·rw[h];rcases h2 with rfl|rfl<;>simp[q5v,q29,zT]
 ·rw[h];simp[q5v,zT]
theorem qzo(nm:ByteArray)(ys:List Sy):(q33 ys (q2l nm)).length≤ys.length+4:=by
 have h1:=qve (q2l nm) ys [];rw[uT] at h1;have h2:=qly (q2l nm) ys [];have h3:szT (q2l nm)≤4:=by
  rcases qdz nm with⟨a,h,h2⟩|h
  ·rw[h];rcases h2 with rfl|rfl<;>simp[szT,q4y,zT]
  ·rw[h];simp[szT,q4y,zT]
 rw[←h1,uR];simp only[vV] at h2;omega
variable{ys:List Sy}
theorem zc8{y:Sy}(h:∀y∈ys,y.name∈N)(hy:y.name∈N):∀z∈qb5 ys y,z.name∈N:=fun z hz=>by
 unfold qb5 at hz;split at hz
 ·exact h z hz
 ·rcases kZ.1 hz with hz|hz
  ·exact h z hz
  ·obtain rfl:z=y:=by simpa using hz
   exact hy
theorem zht(h:∀y∈ys,y.name∈N)(h1:qb6∈N)(h2:nm∈N):∀z∈q33 ys (q2l nm),z.name∈N:=by
 have hX:=zc8 (y:=⟨qb6,3⟩) h h1;rcases qdz nm with⟨a,e,ha⟩|e
 ·rw[e];rcases ha with rfl|rfl
  ·have hX2:=zc8 (y:=⟨nm,0⟩) hX h2;simpa[q33,q0e] using hX2
  ·simpa[q33,q0e,zT] using hX
 ·rw[e];simpa[q33,q0e,zT] using h
theorem z1b{s:So}{x wv:Ce}(hc:s.cs.length≤500000)(hy:s.ys.length≤500000):qo1 s (q2l nm) (q5z x wv)=true:=by
 unfold qo1;cases hv:(q01 (q2l nm)&&vvP s (q5z x wv))
 ·rfl
 ·simp only[gnB] at hv;have ht:=hv.1;simp only[q01,gnB,gnD] at ht;have h1:=qzv nm;have h2:=qzo nm s.ys;have h4:q46 (q2l nm) (q5z x wv)≤q5v (q2l nm)+1:=by
   unfold q46;split<;>omega
  have hA:qoj s (q5z x wv) (q2l nm) (-1)=true:=by
   simp only[qoj,gnB,gnD];refine⟨ht.2,(qc4.1 hv.2).1,by rw[if_pos (by decide)];omega,fun _ hk he=>?_,by omega,by decide⟩;rcases qdz nm with⟨a,e,ha⟩|e
   ·rw[e] at hk;cases hk
   ·rw[e] at he;have:ofV (q5z x wv) 0=none:=he;simp[q5z,ofV] at this
  have e1:s.cs.length≤1048576:=by omega
  have e2:s.ys.length≤1048576:=by omega
  simp[e1,e2,hA]
structure SmG(N:List ByteArray)(n:Nat)(s s':So):Prop where
 cs:s'.cs.length≤s.cs.length+5 * n
 ys:s'.ys.length≤s.ys.length+4 * n
 nm:NmS N s'
theorem z75{s:So}{wv:Ce}{x:At}(hc:s.cs.length≤500000)(hy:s.ys.length≤500000)(hn:NmS N s)(h1:qb6∈N)(h2:x.name∈N):SmG N 1 s (qz wv s x).2.2.2:=by
 have hq:=z1b (s:=s) (nm:=x.name) (x:=x.val) (wv:=wv) hc hy;have h0:SmG N 1 s s:=⟨by omega,by omega,hn⟩;unfold qz qpa;split
 ·rename_i h;split
  ·rename_i hr;have h':=h;simp only[gnB] at h;unfold qo1 at hq;rw[h',hr] at hq;simp only[vH,jC,gnB] at hq;have hA:=hq.2.2;simp only[qoj,gnB,gnD] at hA;obtain⟨q1,q2,q3,q4⟩:=q2x (q2l x.name) (s,q5z x.val wv) (-1) hA.1 hA.2.1;have h5:=qzv x.name;have h6:q46 (q2l x.name) (q5z x.val wv)≤q5v (q2l x.name)+1:=by
    unfold q46;split<;>omega
   rw[if_pos (by decide)] at q1;have h7:=qzo x.name s.ys;have q1':(z9 (s,q5z x.val wv) (q2l x.name) (-1)).2.1.cs.length=s.cs.length+q46 (q2l x.name) (q5z x.val wv):=q1;refine⟨by show(z9 (s,q5z x.val wv) (q2l x.name) (-1)).2.1.cs.length≤_;omega,by rw[q2];show(q33 s.ys _).length≤_;omega,?_⟩;intro y hy';rw[q2] at hy';exact zht hn h1 h2 y hy'
  ·exact h0
 ·exact h0
theorem qp5(h1:qb6∈N)(wv:Ce):∀(l:List At)(s:So)(o:List Ce),(∀x∈l,x.name∈N)→NmS N s→s.cs.length+5 * l.length≤500000→s.ys.length+4 * l.length≤500000→qcj wv s l=true∧SmG N l.length s (ye wv s o l).1
 |[],s,o,_,hn,_,_=>⟨rfl,⟨by simp[ye],by simp[ye],hn⟩⟩
 | x :: l, s, o, hl, hn, hc, hy => by
  simp only[uD] at hc hy;have hs:=z75 (wv:=wv) (x:=x) (by omega) (by omega) hn h1 (hl x uU);obtain⟨s1,s2,s3⟩:=hs;obtain⟨i1,i2⟩:=qp5 h1 wv l (qz wv s x).2.2.2 (o++[(qz wv s x).1]) (fun y hy=>hl y (uO _ hy)) s3 (by omega) (by omega);have hq:=z1b (s:=s) (nm:=x.name) (x:=x.val) (wv:=wv) (by omega) (by omega);refine⟨by rw[qcj,hq,i1];simp,?_⟩;unfold ye;split
  ·obtain⟨j1,j2,j3⟩:=i2;exact⟨by simp only[uD];omega,by simp only[uD];omega,j3⟩
  ·exact⟨by simp only[uD];show(qz wv s x).2.2.2.cs.length≤_;omega,by simp only[uD];show(qz wv s x).2.2.2.ys.length≤_;omega,s3⟩
theorem qoz(h1:qb6∈N):∀(l:List Wk)(s:So)(o:List Ce),NmS N s→s.cs.length+l.length * (5 * N.length)≤500000→s.ys.length+l.length * (4 * N.length)≤500000→qan s o l=true
 |[],s,o,_,_,_=>rfl
 |w::l,s,o,hn,hc,hy=>by
  simp only[uD,Nat.add_mul,Nat.one_mul] at hc hy;obtain⟨a1,a2⟩:=zch hn w.att;obtain⟨b1,⟨b2,b3,b4⟩⟩:=qp5 h1 w.val (yb s w.att) s o a2 hn (by omega) (by omega);have ih:=qoz h1 l (ye w.val s o (yb s w.att)).1 (ye w.val s o (yb s w.att)).2.1 b4 (by omega) (by omega);have hd:s.cs.length≤1048576:=by omega
  unfold qan;rw[b1,ih];simp[hd]
theorem z34{s:So}(hc:s.cs.length≤1000)(hy:s.ys.length≤150)(hw:s.wk.length≤200):qan s [] (q1k s.wk)=true:=by
 refine qoz (N:=qb6::s.ys.map Sy.name) uU _ s [] (fun y h=>uO _ (vK.2 ⟨y,h,rfl⟩)) ?_ ?_
 ·rw[qcz,uD,uB];have:s.wk.length * (5 * (s.ys.length+1))≤200 * (5 * 151):=jB hw (by omega);omega
 ·rw[qcz,uD,uB];have:s.wk.length * (4 * (s.ys.length+1))≤200 * (4 * 151):=jB hw (by omega);omega
theorem qai{t:Te}{q:Sv}{a:Int}(hn:zq t=true)(hs:SV q.2):q.1.cs.length≤(z9 q t a).2.1.cs.length:=by
 have:=(q2x t q a hn hs).1;omega
theorem qdf{l:List Te}{q:Sv}{to:Nat}(hn:q0m l=true)(hs:SV q.2):q.1.cs.length≤(je q l to).1.cs.length:=by
 have:=(qd5 l q to hn hs).1;omega
def grow(s:So)(y:Int)(n:Nat):List Ce:=s.cs++(⟨4,y⟩::vZ n ⟨0,0⟩)
theorem qkq(s:So)(y:Int)(n:Nat):(grow s y n).length=s.cs.length+1+n:=by simp[grow];omega
mutual
theorem qzb:∀(t:Te)(q:Sv)(a:Int)(i:Nat),zq t=true→SV q.2→i<q.1.cs.length→(z9 q t a).2.1.cs[i]? =q.1.cs[i]?
 | .mk k n nm l, q, a, i, hn, hs, hi => by
  rw[zq,gnB] at hn;rcases q1t hn.1 with⟨rfl,rfl,h1,h2⟩|⟨rfl,rfl⟩|⟨rfl,rfl,h1⟩|⟨rfl,h1,h2,h3⟩
  ·rw[q9m];split
   ·rfl
   ·split
    ·exact uL hi
    ·rfl
  ·rw[qdd]
  ·rw[qdj];exact congrArg (·[i]?) (qgx q.1 nm 0).1
  ·rw[qe4];have hg:=qkq q.1 (jp q.1 nm (l.length:Nat)).1 l.length;refine(qbl l ({(jp q.1 nm (l.length:Nat)).2 with cs:=grow q.1 (jp q.1 nm (l.length:Nat)).1 l.length},q.2) (q.1.cs.length+1) i hn.2 hs (by show _≤(grow _ _ _).length;omega) (by show i<(grow _ _ _).length;omega) (.inl (by omega))).trans ?_;exact uL hi
theorem qbl:∀(l:List Te)(q:Sv)(to i:Nat),q0m l=true→SV q.2→to+l.length≤q.1.cs.length→i<q.1.cs.length→i<to∨to+l.length≤i→(je q l to).1.cs[i]? =q.1.cs[i]?
 |[],q,to,i,_,_,_,_,_=>by rw[je]
 |t::l,q,to,i,hn,hs,hto,hi,hh=>by
  rw[q0m,gnB] at hn;rw[uD] at hto hh;rw[je];have hm:=qai (a:=(to:Nat)) hn.1 hs;have h4:=(q2x t q (to:Nat) hn.1 hs).2.2.2;rw[qbl l (qcn (z9 q t (to:Nat)).2.1 to (z9 q t (to:Nat)).1,(z9 q t (to:Nat)).2.2) (to+1) i hn.2 h4 (by rw[q3r];omega) (by rw[q3r];omega) (by omega)]
  show((z9 q t (to:Nat)).2.1.cs.set to _)[i]? =_
  rw[kO (by omega)];exact qzb t q _ i hn.1 hs hi
end
theorem zho(ys:List Sy)(y:Sy):∃m,qb5 ys y=ys++m:=by
 unfold qb5;split
 ·exact⟨[],by simp⟩
 ·exact⟨[y],rfl⟩
mutual
theorem z13:∀(t:Te)(ys:List Sy),∃m,q33 ys t=ys++m
 | .mk k n nm l, ys => by
  rw[q33];obtain⟨m,hm⟩:=qdl l (if k=2∨k=3 then qb5 ys ⟨nm,(l.length:Nat)⟩ else ys);rw[hm];split
  ·obtain⟨m2,h2⟩:=zho ys ⟨nm,(l.length:Nat)⟩;exact⟨m2++m,by rw[h2,kF]⟩
  ·exact⟨m,rfl⟩
theorem qdl:∀(l:List Te)(ys:List Sy),∃m,q0e ys l=ys++m
 |[],ys=>⟨[],by simp[q0e]⟩
 |t::l,ys=>by
  rw[q0e];obtain⟨m,hm⟩:=z13 t ys;obtain⟨m2,h2⟩:=qdl l (q33 ys t);exact⟨m++m2,by rw[h2,hm,kF]⟩
end
theorem q6c{v n:Int}:∀{l:List Vc},ofV l n=none→ofV (qa9 l n c) v=if v=n then some c else ofV l v
 | [], _ => by
  by_cases h:v=n
  ·simp[qa9,ofV,h]
  ·have h':¬n=v:=fun e=>h e.symm;simp[qa9,ofV,h,h']
 | x :: l, hn => by
  rw[ofV] at hn;split at hn
  ·cases hn
  rename_i hx;rw[qa9];split
  ·rw[ofV,ofV,q6c hn];by_cases h:v=n
   ·subst h;simp[hx]
   ·simp[h]
  ·by_cases h:v=n
   ·simp[ofV,h]
   ·have h':¬n=v:=fun e=>h e.symm;rw[ofV,if_neg h',if_neg h]
theorem z6v(n:Int)(c:Ce):∀l,(qa9 l n c).length=l.length+1
 |[]=>rfl
 |x::l=>by
  rw[qa9];split
  ·rw[uD,z6v n c l,uD]
  ·simp
mutual
/-- The cells of variables stay. -/
theorem zbk:∀(t:Te)(q:Sv)(a:Int),zq t=true→∀v c,ofV q.2 v=some c→ofV (z9 q t a).2.2 v=some c
 | .mk k n nm l, q, a, hn, v, c, hv => by
  rw[zq,gnB] at hn;rcases q1t hn.1 with⟨rfl,rfl,h1,h2⟩|⟨rfl,rfl⟩|⟨rfl,rfl,h1⟩|⟨rfl,h1,h2,h3⟩
  ·rw[q9m];cases ho:ofV q.2 n with
   |some c'=>exact hv
   | none =>
    have hne:¬v=n:=fun e=>by rw[e,ho] at hv;cases hv
    by_cases ha:a<0
    ·simp only[if_pos ha];rw[q6c ho,if_neg hne,hv]
    ·simp only[if_neg ha];rw[q6c ho,if_neg hne,hv]
  ·rw[qdd];exact hv
  ·rw[qdj];exact hv
  ·rw[qe4];exact qtl l _ _ hn.2 v c hv
theorem qtl:∀(l:List Te)(q:Sv)(to:Nat),q0m l=true→∀v c,ofV q.2 v=some c→ofV (je q l to).2 v=some c
 |[],q,to,_,v,c,hv=>by rw[je];exact hv
 |t::l,q,to,hn,v,c,hv=>by
  rw[q0m,gnB] at hn;rw[je];exact qtl l _ _ hn.2 v c (zbk t q _ hn.1 v c hv)
end
theorem zig(V:List Int)(k n:Int)(s:ByteArray)(l:List Te):inV V (.mk k n s l)↔(k=0→n∈V)∧qxr V l:=by rw[inV]
mutual
/-- Which variables have cells then, and how many. -/
theorem qnx:∀(t:Te)(q:Sv)(a:Int)(vs:List Int),zq t=true→(∀v,v∈vs↔(ofV q.2 v).isSome=true)→(∀v,v∈q6y vs t↔(ofV (z9 q t a).2.2 v).isSome=true)∧(z9 q t a).2.2.length+vs.length=q.2.length+(q6y vs t).length
 | .mk k n nm l, q, a, vs, hn, hv => by
  rw[zq,gnB] at hn;rcases q1t hn.1 with⟨rfl,rfl,h1,h2⟩|⟨rfl,rfl⟩|⟨rfl,rfl,h1⟩|⟨rfl,h1,h2,h3⟩
  ·rw[q9m,qs3];simp only[Te.k,Te.n,Te.l,q3v,true_and];cases ho:ofV q.2 n with
   |some c'=>
    have:n∈vs:=(hv n).2 (by rw[ho];rfl);rw[if_neg (fun h=>h this)];exact⟨hv,rfl⟩
   | none =>
    have hnv:n∉vs:=fun h=>by
     have:=(hv n).1 h;rw[ho] at this;cases this
    rw[if_pos hnv];have key:∀c,(∀v,v∈vs++[n]↔(ofV (qa9 q.2 n c) v).isSome=true)∧(qa9 q.2 n c).length+vs.length=q.2.length+(vs++[n]).length:=fun c=>by
     refine⟨fun v=>?_,by rw[z6v];simp;omega⟩;rw[q6c ho];by_cases h:v=n
     ·simp[h]
     ·simp[h,hv v]
    by_cases ha:a<0
    ·simp only[if_pos ha];exact key _
    ·simp only[if_neg ha];exact key _
  ·rw[qdd,qs3];simp only[Te.k,Te.l,q3v];exact⟨hv,rfl⟩
  ·rw[qdj,qs3];simp only[Te.k,Te.l,q3v];exact⟨hv,rfl⟩
  ·rw[qe4,qs3];simp only[Te.k,Te.l];exact qvl l ({(jp q.1 nm (l.length:Nat)).2 with cs:=q.1.cs++(⟨4,(jp q.1 nm (l.length:Nat)).1⟩::vZ l.length ⟨0,0⟩)},q.2) _ vs hn.2 hv
theorem qvl:∀(l:List Te)(q:Sv)(to:Nat)(vs:List Int),q0m l=true→(∀v,v∈vs↔(ofV q.2 v).isSome=true)→(∀v,v∈q3v vs l↔(ofV (je q l to).2 v).isSome=true)∧(je q l to).2.length+vs.length=q.2.length+(q3v vs l).length
 |[],q,to,vs,_,hv=>by rw[je,q3v];exact⟨hv,rfl⟩
 |t::l,q,to,vs,hn,hv=>by
  rw[q0m,gnB] at hn;rw[je,q3v];obtain⟨h1,h2⟩:=qnx t q (to:Nat) vs hn.1 hv;obtain⟨h3,h4⟩:=qvl l (qcn (z9 q t (to:Nat)).2.1 to (z9 q t (to:Nat)).1,(z9 q t (to:Nat)).2.2) (to+1) (q6y vs t) hn.2 h1;simp only at h4;exact⟨h3,by omega⟩
end
mutual
/-- A cell represents a term; f: what represents a variable. -/
def Rh(S:So)(f:Int→Ce):Te→Ce→Prop
 |.mk k n nm l,c=>(k=0∧c=f n)∨(k=1∧c=⟨1,n⟩)∨(k=2∧c.t=2∧∃y:Nat,c.n=(y:Int)∧S.ys[y]? =some ⟨nm,0⟩)∨
  (k=3∧c.t=3∧∃p y:Nat,c.n=(p:Int)∧S.cs[p]? =some ⟨4,y⟩∧S.ys[y]? =some ⟨nm,(l.length:Nat)⟩∧Rhs S f l (p+1))
def Rhs(S:So)(f:Int→Ce):List Te→Nat→Prop
 |[],_=>True
 |t::l,p=>(∃c,S.cs[p]? =some c∧Rh S f t c)∧Rhs S f l (p+1)
end
variable{S:So}{f:Int→Ce}
theorem zw0{n:Int}{l:List Te}:Rh S f (.mk 1 n nm l) ⟨1,n⟩:=by rw[Rh];exact .inr (.inl ⟨rfl,rfl⟩)
theorem ziv{ar:Int}:∀(k:Nat)(l:List Sy),0≤fnd nm ar k l→∃j:Nat,fnd nm ar k l=((k+j:Nat):Int)∧l[j]? =some ⟨nm,ar⟩
 |k,[],h=>by simp[fnd] at h
 | k, y :: l, h => by
  unfold fnd at h⊢;split
  ·rename_i hy;obtain⟨rfl,rfl⟩:=hy;exact⟨0,rfl,rfl⟩
  ·rename_i hy;rw[if_neg hy] at h;obtain⟨j,e,hj⟩:=ziv (k+1) l h;exact⟨j+1,by rw[e];congr 1;omega,by simpa using hj⟩
theorem zal(s:So)(nm:ByteArray)(ar:Int):∃y:Nat,(jp s nm ar).1=(y:Int)∧(jp s nm ar).2.ys[y]? =some ⟨nm,ar⟩:=by
 unfold jp;by_cases h:0≤q60 s nm ar
 ·rw[if_pos h];obtain⟨j,e,hj⟩:=ziv 0 s.ys h;exact⟨j,by rw[←kM j];exact e,hj⟩
 ·rw[if_neg h];exact⟨s.ys.length,rfl,by simp⟩
theorem zhx{m:List Sy}{i:Nat}{y:Sy}(h:ys[i]? =some y):(ys++m)[i]? =some y:=by
 rw[uL (gnH.1 h).1];exact h
def z4w(S:So)(f:Int→Ce)(P:Te→Prop)(i:Nat):Prop:=
 (∃y k:Nat,∃nm,S.cs[i]? =some ⟨4,y⟩∧S.ys[y]? =some ⟨nm,k⟩∧1≤k∧k≤8∧∀j,1≤j→j≤k→∃t c,P t∧S.cs[i+j]? =some c∧Rh S f t c)∨∃t c,P t∧S.cs[i]? =some c∧Rh S f t c
theorem zgd:∀{l:List Te}{p j:Nat},Rhs S f l p→j<l.length→∃c,S.cs[p+j]? =some c∧Rh S f (l.getD j default) c
 |t::l,p,0,h,_=>by rw[Rhs] at h;exact h.1
 |t::l,p,j+1,h,hj=>by
  rw[Rhs] at h;obtain⟨c,h1,h2⟩:=zgd h.2 (j:=j) (by simpa using hj);exact⟨c,by rw[←h1];congr 1;omega,by simpa using h2⟩
variable{P:Te→Prop}
mutual
theorem z82(hP:∀k n nm l,P (.mk k n nm l)→∀t∈l,P t):∀(t:Te)(q:Sv)(a:Int),P t→zq t=true→SV q.2→(∀i,q.1.cs.length≤i→i<(z9 q t a).2.1.cs.length→S.cs[i]? =(z9 q t a).2.1.cs[i]?)→(∀(i:Nat)y,(z9 q t a).2.1.ys[i]? =some y→S.ys[i]? =some y)→(∀v c,ofV (z9 q t a).2.2 v=some c→f v=q2q c)→
  Rh S f t (z9 q t a).1∧∀i,q.1.cs.length≤i→i<(z9 q t a).2.1.cs.length→z4w S f P i
 | .mk k n nm l, q, a, hp, hn, hs, hc, hy, hf => by
  rw[zq,gnB] at hn;rcases q1t hn.1 with⟨rfl,rfl,h1,h2⟩|⟨rfl,rfl⟩|⟨rfl,rfl,h1⟩|⟨rfl,h1,h2,h3⟩
  ·rw[q9m] at hc hy hf⊢;cases ho:ofV q.2 n with
   |some c=>
    simp only[ho] at hc hf⊢;refine⟨?_,fun i h1 h2=>by omega⟩;rw[Rh];exact .inl ⟨rfl,(hf n c ho).symm⟩
   | none =>
    by_cases ha:a<0
    ·simp only[ho,if_pos ha] at hc hf⊢;have e:=hf n _ (by rw[q6c ho,if_pos rfl]);have hr:Rh S f (.mk 0 n nm []) ⟨0,(q.1.cs.length:Nat)⟩:=by
      rw[Rh];exact .inl ⟨rfl,by rw[e];rfl⟩
     refine⟨hr,fun i h1 h2=>?_⟩;have:i=q.1.cs.length:=by simp at h2;omega
     subst this;exact .inr ⟨_,_,hp,by rw[hc _ h1 h2];simp,hr⟩
    ·simp only[ho,if_neg ha] at hc hf⊢;have e:=hf n _ (by rw[q6c ho,if_pos rfl]);refine⟨?_,fun i h1 h2=>by omega⟩;rw[Rh];exact .inl ⟨rfl,by rw[e];rfl⟩
  ·rw[qdd];exact⟨zw0,fun i h1 h2=>by simp only at h2;omega⟩
  ·rw[qdj] at hy⊢;obtain⟨y,e,hy'⟩:=zal q.1 nm 0;refine⟨?_,fun i h1 h2=>?_⟩
   ·rw[Rh];exact .inr (.inr (.inl ⟨rfl,rfl,y,e,hy _ _ hy'⟩))
   ·have e1:=(qgx q.1 nm 0).1;simp only[e1] at h2;omega
  ·rw[qe4] at hc hy hf⊢;obtain⟨y,e,hy'⟩:=zal q.1 nm (l.length:Nat);have hg:=qkq q.1 (jp q.1 nm (l.length:Nat)).1 l.length;have hm:q.1.cs.length+1+l.length≤(je ({(jp q.1 nm (l.length:Nat)).2 with cs:=grow q.1 (jp q.1 nm (l.length:Nat)).1 l.length},q.2) l (q.1.cs.length+1)).1.cs.length:=by
    rw[←hg];exact qdf (q:=({(jp q.1 nm (l.length:Nat)).2 with cs:=grow q.1 (jp q.1 nm (l.length:Nat)).1 l.length},q.2)) hn.2 hs
   have hk:=qbl l ({(jp q.1 nm (l.length:Nat)).2 with cs:=grow q.1 (jp q.1 nm (l.length:Nat)).1 l.length},q.2) (q.1.cs.length+1) q.1.cs.length hn.2 hs (by show _≤(grow _ _ _).length;omega) (by show _<(grow _ _ _).length;omega) (.inl (by omega));have hys:=(qd5 l ({(jp q.1 nm (l.length:Nat)).2 with cs:=grow q.1 (jp q.1 nm (l.length:Nat)).1 l.length},q.2) (q.1.cs.length+1) hn.2 hs).2.1;have hpl:=hP _ _ _ _ hp;have ih:=qzc hP l ({(jp q.1 nm (l.length:Nat)).2 with cs:=grow q.1 (jp q.1 nm (l.length:Nat)).1 l.length},q.2) (q.1.cs.length+1) hpl hn.2 hs (by show _≤(grow _ _ _).length;omega) (fun i h1 h2=>hc i (by have h1:(grow _ _ _).length≤i:=h1;omega) h2) (fun i h1 h2=>hc i (by omega) (by
    have:q.1.cs.length+1+l.length≤(je ({(jp q.1 nm (l.length:Nat)).2 with cs:=grow q.1 (jp q.1 nm (l.length:Nat)).1 l.length},q.2) l (q.1.cs.length+1)).1.cs.length:=hm;exact uE h2 this)) hy hf
   obtain⟨i1,i2,i3⟩:=ih;obtain⟨m,hpre⟩:=qdl l (jp q.1 nm (l.length:Nat)).2.ys;have hhead:S.cs[q.1.cs.length]? =some ⟨4,y⟩:=by
    rw[hc _ (uC _) (by
     have:q.1.cs.length+1+l.length≤(je ({(jp q.1 nm (l.length:Nat)).2 with cs:=grow q.1 (jp q.1 nm (l.length:Nat)).1 l.length},q.2) l (q.1.cs.length+1)).1.cs.length:=hm;exact uE (by omega) this)]
    refine Eq.trans hk ?_
    show(grow _ _ _)[q.1.cs.length]? =_
    rw[grow,vC (uC _),jH,e];rfl
   have hsy:S.ys[y]? =some ⟨nm,(l.length:Nat)⟩:=by
    refine hy _ _ ?_;refine Eq.trans (congrArg (·[y]?) hys) ?_
    show(q0e (jp q.1 nm (l.length:Nat)).2.ys l)[y]? =_
    rw[hpre];exact zhx hy'
   refine⟨?_,fun i h4 h5=>?_⟩
   ·rw[Rh];exact .inr (.inr (.inr ⟨rfl,rfl,q.1.cs.length,y,rfl,hhead,hsy,i1⟩))
   ·rcases kN i (q.1.cs.length+1) with h6|h6
    ·have:i=q.1.cs.length:=by omega
     subst this;refine .inl ⟨y,l.length,nm,hhead,hsy,h2,h3,fun j g1 g2=>?_⟩;obtain⟨c,g3,g4⟩:=zgd i1 (j:=j - 1) (by omega);exact⟨_,c,hpl _ (q8t (by omega)),by rw[←g3];congr 1;omega,g4⟩
    rcases kN i (q.1.cs.length+1+l.length) with h7|h7
    ·exact i3 i h6 h7
    ·exact i2 i (by show(grow _ _ _).length≤i;omega) h5
theorem qzc(hP:∀k n nm l,P (.mk k n nm l)→∀t∈l,P t):∀(l:List Te)(q:Sv)(to:Nat),(∀t∈l,P t)→q0m l=true→SV q.2→to+l.length≤q.1.cs.length→(∀i,q.1.cs.length≤i→i<(je q l to).1.cs.length→S.cs[i]? =(je q l to).1.cs[i]?)→(∀i,to≤i→i<to+l.length→S.cs[i]? =(je q l to).1.cs[i]?)→(∀(i:Nat)y,(je q l to).1.ys[i]? =some y→S.ys[i]? =some y)→(∀v c,ofV (je q l to).2 v=some c→f v=q2q c)→
  Rhs S f l to∧(∀i,q.1.cs.length≤i→i<(je q l to).1.cs.length→z4w S f P i)∧∀i,to≤i→i<to+l.length→z4w S f P i
 |[],q,to,_,_,_,_,hc,hc2,hy,hf=>by
  rw[je];refine⟨?_,fun i h1 h2=>by omega,fun i h1 h2=>?_⟩
  ·rw[Rhs];trivial
  ·simp only[vV] at h2;omega
 | t :: l, q, to, hp, hn, hs, hto, hc, hc2, hy, hf => by
  rw[q0m,gnB] at hn;rw[uD] at hto hc2;rw[je] at hc hc2 hy hf⊢;obtain⟨g1,g2,g3,g4⟩:=q2x t q (to:Nat) hn.1 hs;have hm:=qai (a:=(to:Nat)) hn.1 hs;have hL:=q3r (z9 q t (to:Nat)).2.1 to (z9 q t (to:Nat)).1;have hkeep:=fun i h1 h2 h3=>qbl l (qcn (z9 q t (to:Nat)).2.1 to (z9 q t (to:Nat)).1,(z9 q t (to:Nat)).2.2) (to+1) i hn.2 g4 h1 h2 h3;have hys:=(qd5 l (qcn (z9 q t (to:Nat)).2.1 to (z9 q t (to:Nat)).1,(z9 q t (to:Nat)).2.2) (to+1) hn.2 g4).2.1;have hm2:=qdf (to:=to+1) (q:=(qcn (z9 q t (to:Nat)).2.1 to (z9 q t (to:Nat)).1,(z9 q t (to:Nat)).2.2)) hn.2 g4;have hof:=qtl l (qcn (z9 q t (to:Nat)).2.1 to (z9 q t (to:Nat)).1,(z9 q t (to:Nat)).2.2) (to+1) hn.2;simp only at hm2;rw[hL] at hm2;have hset:∀i,i≠to→(qcn (z9 q t (to:Nat)).2.1 to (z9 q t (to:Nat)).1).cs[i]? =(z9 q t (to:Nat)).2.1.cs[i]? :=fun i h=>kO (fun e=>h e.symm);obtain⟨m,hpre⟩:=qdl l (z9 q t (to:Nat)).2.1.ys;obtain⟨r1,r2⟩:=z82 hP t q (to:Nat) (hp t uU) hn.1 hs (fun i h1 h2=>by
   rw[hc i h1 (uE h2 hm2),hkeep i (by rw[hL];omega) (by rw[hL];omega) (.inr (by omega)),hset i (by omega)]) (fun i y h=>by
   refine hy i y ?_;refine Eq.trans (congrArg (·[i]?) hys) ?_
   show(q0e (z9 q t (to:Nat)).2.1.ys l)[i]? =_
   rw[hpre];exact zhx h) (fun v c h=>hf v c (hof v c h))
  have hat:S.cs[to]? =some (z9 q t (to:Nat)).1:=by
   rw[hc2 to (uC _) (by omega),hkeep to (by rw[hL];omega) (by rw[hL];omega) (.inl (by omega))]
   show((z9 q t (to:Nat)).2.1.cs.set to _)[to]? =_
   rw[vL (by omega)]
  obtain⟨s1,s2,s3⟩:=qzc hP l (qcn (z9 q t (to:Nat)).2.1 to (z9 q t (to:Nat)).1,(z9 q t (to:Nat)).2.2) (to+1) (fun u hu=>hp u (uO _ hu)) hn.2 g4 (by rw[hL];omega) (fun i h1 h2=>hc i (by rw[hL] at h1;omega) h2) (fun i h1 h2=>hc2 i (by omega) (by omega)) hy hf;refine⟨?_,fun i h1 h2=>?_,fun i h1 h2=>?_⟩
  ·rw[Rhs];exact⟨⟨_,hat,r1⟩,s1⟩
  ·rcases kN i (z9 q t (to:Nat)).2.1.cs.length with h3|h3
   ·exact r2 i h1 h3
   ·exact s2 i (by rw[hL];exact h3) h2
  ·rw[uD] at h2;rcases kN to i with h3|h3
   ·exact s3 i h3 (by omega)
   ·have:i=to:=by omega
    subst this;exact .inr ⟨_,_,hp t uU,hat,r1⟩
end
mutual
/-- New variables: their cells hold themselves. -/
theorem z6t:∀(t:Te)(q:Sv)(a:Int),zq t=true→SV q.2→(∀i,q.1.cs.length≤i→i<(z9 q t a).2.1.cs.length→S.cs[i]? =(z9 q t a).2.1.cs[i]?)→(0≤a→S.cs[a.toNat]? =some (z9 q t a).1)→∀v c,ofV (z9 q t a).2.2 v=some c→ofV q.2 v=some c∨∃p:Nat,c=⟨0,p⟩∧S.cs[p]? =some c∧(q.1.cs.length≤p∨a=p)
 | .mk k n nm l, q, a, hn, hs, hc, ha, v, c, hv => by
  rw[zq,gnB] at hn;rcases q1t hn.1 with⟨rfl,rfl,h1,h2⟩|⟨rfl,rfl⟩|⟨rfl,rfl,h1⟩|⟨rfl,h1,h2,h3⟩
  ·rw[q9m] at hc ha hv;cases ho:ofV q.2 n with
   |some c'=>simp only[ho] at hv;exact .inl hv
   | none =>
    by_cases h0:a<0
    ·simp only[ho,if_pos h0] at hc hv;rw[q6c ho] at hv;split at hv
     ·cases hv;refine .inr ⟨_,rfl,?_,.inl (uC _)⟩;rw[hc _ (uC _) (by simp)];simp
     ·exact .inl hv
    ·simp only[ho,if_neg h0] at ha hv;rw[q6c ho] at hv;split at hv
     ·cases hv;have e:(a.toNat:Int)=a:=Int.toNat_of_nonneg (by omega);refine .inr ⟨a.toNat,by rw[e],ha (by omega),.inr e.symm⟩
     ·exact .inl hv
  ·rw[qdd] at hv;exact .inl hv
  ·rw[qdj] at hv;exact .inl hv
  ·rw[qe4] at hc hv;have hg:=qkq q.1 (jp q.1 nm (l.length:Nat)).1 l.length;have hm:q.1.cs.length+1+l.length≤(je ({(jp q.1 nm (l.length:Nat)).2 with cs:=grow q.1 (jp q.1 nm (l.length:Nat)).1 l.length},q.2) l (q.1.cs.length+1)).1.cs.length:=by
    rw[←hg];exact qdf (q:=({(jp q.1 nm (l.length:Nat)).2 with cs:=grow q.1 (jp q.1 nm (l.length:Nat)).1 l.length},q.2)) hn.2 hs
   rcases z0b l ({(jp q.1 nm (l.length:Nat)).2 with cs:=grow q.1 (jp q.1 nm (l.length:Nat)).1 l.length},q.2) (q.1.cs.length+1) hn.2 hs (by show _≤(grow _ _ _).length;omega) (fun i h1 h2=>hc i (by have h1:(grow _ _ _).length≤i:=h1;omega) h2) (fun i h1 h2=>hc i (by omega) (uE h2 hm)) v c hv with h|⟨p,e1,e2,e3⟩
   ·exact .inl h
   ·refine .inr ⟨p,e1,e2,.inl ?_⟩;rcases e3 with e3|e3
    ·have e3:(grow _ _ _).length≤p:=e3;omega
    ·omega
theorem z0b:∀(l:List Te)(q:Sv)(to:Nat),q0m l=true→SV q.2→to+l.length≤q.1.cs.length→(∀i,q.1.cs.length≤i→i<(je q l to).1.cs.length→S.cs[i]? =(je q l to).1.cs[i]?)→(∀i,to≤i→i<to+l.length→S.cs[i]? =(je q l to).1.cs[i]?)→∀v c,ofV (je q l to).2 v=some c→ofV q.2 v=some c∨∃p:Nat,c=⟨0,p⟩∧S.cs[p]? =some c∧(q.1.cs.length≤p∨to≤p)
 |[],q,to,_,_,_,_,_,v,c,hv=>by rw[je] at hv;exact .inl hv
 | t :: l, q, to, hn, hs, hto, hc, hc2, v, c, hv => by
  rw[q0m,gnB] at hn;rw[uD] at hto hc2;rw[je] at hc hc2 hv;obtain⟨g1,g2,g3,g4⟩:=q2x t q (to:Nat) hn.1 hs;have hm:=qai (a:=(to:Nat)) hn.1 hs;have hL:=q3r (z9 q t (to:Nat)).2.1 to (z9 q t (to:Nat)).1;have hkeep:=fun i h1 h2 h3=>qbl l (qcn (z9 q t (to:Nat)).2.1 to (z9 q t (to:Nat)).1,(z9 q t (to:Nat)).2.2) (to+1) i hn.2 g4 h1 h2 h3;have hm2:=qdf (to:=to+1) (q:=(qcn (z9 q t (to:Nat)).2.1 to (z9 q t (to:Nat)).1,(z9 q t (to:Nat)).2.2)) hn.2 g4;simp only at hm2;rw[hL] at hm2;have hset:∀i,i≠to→(qcn (z9 q t (to:Nat)).2.1 to (z9 q t (to:Nat)).1).cs[i]? =(z9 q t (to:Nat)).2.1.cs[i]? :=fun i h=>kO (fun e=>h e.symm);have hat:S.cs[to]? =some (z9 q t (to:Nat)).1:=by
   rw[hc2 to (uC _) (by omega),hkeep to (by rw[hL];omega) (by rw[hL];omega) (.inl (by omega))]
   show((z9 q t (to:Nat)).2.1.cs.set to _)[to]? =_
   rw[vL (by omega)]
  rcases z0b l (qcn (z9 q t (to:Nat)).2.1 to (z9 q t (to:Nat)).1,(z9 q t (to:Nat)).2.2) (to+1) hn.2 g4 (by rw[hL];omega) (fun i h1 h2=>hc i (by rw[hL] at h1;omega) h2) (fun i h1 h2=>hc2 i (by omega) (by omega)) v c hv with h|⟨p,e1,e2,e3⟩
  ·rcases z6t t q (to:Nat) hn.1 hs (fun i h1 h2=>by
    rw[hc i h1 (uE h2 hm2),hkeep i (by rw[hL];omega) (by rw[hL];omega) (.inr (by omega)),hset i (by omega)]) (fun _=>by simpa using hat) v c h with h|⟨p,e1,e2,e3⟩
   ·exact .inl h
   ·exact .inr ⟨p,e1,e2,by omega⟩
  ·exact .inr ⟨p,e1,e2,by rw[hL] at e3;omega⟩
end
section
theorem cell_of{p:Nat}(h:S.cs[p]? =some c):inS S p=true∧cellAt S p=c:=by
 have hl:=(gnH.1 h).1;refine⟨qs.2 ⟨by omega,by omega⟩,?_⟩
 show S.cs.getD ((p:Nat):Int).toNat default=c
 rw[uP,gnG,h];rfl
theorem zc0{y:Nat}{k:Int}(h:S.ys[y]? =some ⟨nm,k⟩):arS S y=k∧q8v S y=⟨nm,k⟩:=by
 have hl:=(gnH.1 h).1;have e:S.ys.getD y default=⟨nm,k⟩:=by
  rw[gnG,h];rfl
 have e2:q8v S y=⟨nm,k⟩:=by
  show S.ys.getD ((y:Nat):Int).toNat default=_
  rw[uP,e]
 refine⟨?_,e2⟩;unfold arS;rw[if_pos ⟨by omega,by omega⟩,uP,e]
section
variable{S:So}{f:Int→Ce}{g:Int→Te}{V:List Int}
end
structure Ext(s S:So):Prop where
 cs:∀i:Nat,i<s.cs.length→S.cs[i]? =s.cs[i]?
 len:s.cs.length≤S.cs.length
 ys:∀(i:Nat)y,s.ys[i]? =some y→S.ys[i]? =some y
section
variable{s S:So}
theorem Ext.inS(E:Ext s S){i:Int}(h:inS s i=true):inS S i=true∧cellAt S i=cellAt s i:=by
 have q:=qs.1 h;have hl:=E.len;refine⟨qs.2 ⟨q.1,by omega⟩,?_⟩;unfold cellAt;rw[gnG,gnG,E.cs _ (by omega)]
theorem Ext.tag(E:Ext s S){i:Int}(h:i<s.cs.length):q3f S i=q3f s i:=by
 cases hi:Go.Proofs.YtdaadonfbnedaaaGreat.inS s i with
 |true=>rw[q34 hi,q34 (E.inS hi).1,(E.inS hi).2]
 | false =>
  rw[q70 hi,q70];cases h2:Go.Proofs.YtdaadonfbnedaaaGreat.inS S i with
  |false=>rfl
  |true=>
   have q:=qs.1 h2;rw[qs.2 ⟨q.1,h⟩] at hi;cases hi
theorem Ext.ar(E:Ext s S){n:Int}(h:0≤arS s n):arS S n=arS s n∧q8v S n=q8v s n:=by
 obtain⟨h0,h1,h2⟩:=z9l h;have hy:s.ys[n.toNat]? =some (q8v s n):=by
  unfold q8v;rw[gnG,gnK (by omega)];rfl
 have hY:=E.ys _ _ hy;have hn:n=((n.toNat:Nat):Int):=by omega
 generalize hz:q8v s n=z at hY hy;obtain⟨nm,k⟩:=z;have a1:=zc0 hy;have a2:=zc0 hY;rw[←hn] at a1 a2;exact⟨a2.1.trans a1.1.symm,a2.2⟩
theorem Ext.vc(E:Ext s S)(h:vcR s c=true):vcR S c=true:=by
 rcases z2x h with ht|ht|ht|ht|ht
 ·obtain⟨h1,h2⟩:=qm6 h ht;obtain⟨h3,h4⟩:=E.inS h1;unfold vcR;rw[if_pos ht,q34 h3,h3,h4];simp[h2]
 ·unfold vcR;rw[if_neg (by omega),if_pos ht]
 ·unfold vcR at h⊢;rw[if_neg (by omega),if_neg (by omega),if_pos ht] at h⊢;have h:=of_decide_eq_true h;rw[(E.ar (by omega)).1,h];rfl
 ·unfold vcR at h⊢;rw[if_neg (by omega),if_neg (by omega),if_neg (by omega),if_pos ht] at h⊢;have h:=of_decide_eq_true h;rw[E.tag (qs.1 (qdb (by decide) h)).2,h];rfl
 ·unfold vcR at h⊢;rw[if_neg (by omega),if_neg (by omega),if_neg (by omega),if_neg (by omega),if_pos ht] at h⊢;have h:=of_decide_eq_true h;rw[E.tag (qs.1 (qdb (by decide) h)).2,h];rfl
theorem Ext.ends(E:Ext s S)(h:zi s=true):∀(k:Nat)(n:Int),Go.Proofs.YtdaadonfbnedaaaGreat.inS s n=true→q3g s k n=true→q3g S k n=true
 |0,n,_,h1=>by cases h1
 | k + 1, n, hi, h1 => by
  have hT:=E.tag (qs.1 hi).2;have hC:=(E.inS hi).2;by_cases hn:Ns s n
  ·have hn':Ns S n:=⟨hT.trans hn.1,by rw[hC];exact hn.2⟩;rw[q5d hn] at h1;rw[q5d hn',nx,hC];exact Ext.ends E h k _ (zpi h hn) h1
  ·exact q8o fun q=>hn ⟨hT.symm.trans q.1,by have:=q.2;rwa [hC] at this⟩
end
end
end Go.Proofs.YtdaadonfbnedaaaGreat
