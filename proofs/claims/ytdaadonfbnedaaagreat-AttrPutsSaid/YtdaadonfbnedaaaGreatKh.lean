/-
 Lemmas of the walk and plain laws, put together. No condition.
-/
import Derived.Deep.AppendSrc
import Derived.StillTailTactics
import Derived.TacticsInMore
import Derived.Test.YtdaadonfbnedaaaGreatKg
namespace Go.Proofs.YtdaadonfbnedaaaGreat
open Go.RowKit
set_option linter.unusedVariables false
set_option linter.unusedSimpArgs false
set_option maxRecDepth 100000
set_option linter.unusedSectionVars false
open _root_.Go.Proofs.Tryz renaming prog→uA,f23→uV,f33→kF,f17→kR,f16→kS
open _root_.List renaming length_map→uB,all_eq_true→uF,getElem?_take_of_lt→uI,getD_cons_zero→uJ,getD_cons_succ→uK,append_nil→uP,findIdx?_eq_some_iff_getElem→uT,cons_append→kC,nil_append→kD,findIdx?_eq_none_iff→kH,drop_eq_getElem_cons→kI,take_of_length_le→kK,drop_length→kP,map_append→kQ,drop_zero→kT
open _root_.Nat renaming le_refl→uC,lt_of_lt_of_le→uL,zero_le→uO,le_trans→uQ,eq_zero_or_pos→uW,beq→uX,mul_le_mul_right→uZ,not_lt_zero→kE,lt_irrefl→kJ,zero_add→kV
open _root_.Array renaming getElem?_setIfInBounds_ne→uD,getElem?_eq_some_iff→uE,getD_eq_getD_getElem?→uG,getElem?_setIfInBounds_self_of_lt→uH,getElem?_eq_getElem→kG,length_toList→kM
open _root_.Bool renaming or_eq_true→uM,not_eq_true'→uU,not_eq_false'→kO,and_self→kU
open _root_.Option renaming ite_none_right_eq_some→uN,isSome_some→kA,getD_some→kB
open _root_.Option.some renaming injEq→uR
open _root_.Int renaming toNat_natCast→uY,toNat→kL,ofNat_le→kW
def q01:Ct:=⟨16,[.ref (.st 26) true,.val (.st 28),.val (.str),.val (.st 28)],[(.int .i64,false)],[],none,[],[]⟩
theorem qsk:EnZ q01:=fun _ _=>by kernel_rfl
def qlu:Ann:=⟨[0,1,2,3,5,7,8,9,10,11,12,13,14,16,52,62,76,78,86,90,114],[]⟩
def q8o:Tree:=
 let i:X:=.tok 0
 let t:X:=.lit (.i 13)
 let w:X:=.lit (.i 1)
 let b1:X:=.lit (.i 0)
 let c1:X:=.lit (.i 3)
 let f:X:=.call 0 0 [i,(.tok 1)]
 let a:X:=.call 3 0 [i,f]
 let q:X:=.fld f 1
 let u:X:=.eq (.fld f 0) (.lit (.i 5))
 let e:X:=.app a (.row [(.mk [(.tok 2),(.tok 3)])])
 let h:X:=.call 4 0 [a,(.tok 2)]
 let k:X:=.add q (.lit (.i 2))
 let o:X:=.or (.or (.not (.call 0 1 [i,(.tok 1)])) (.and u (.not (.call 1 0 [i,f])))) (.lt (.lit (.i 100)) (.slen (.tok 2)))
 let l:X:=.set (.get a h) 1 (.tok 3)
 let m:X:=.call 5 2 [i,e]
 let r:X:=.call 5 0 [i,e]
 let v:X:=.call 5 1 [i,e]
 let b:X:=.call 5 2 [i,(.put a h l)]
 let c:X:=.set m 4 (.add (.fld m 4) w)
 let p:X:=.call 5 0 [i,(.put a h l)]
 let s:X:=.call 5 1 [i,(.put a h l)]
 let z:X:=.call 6 0 [m,k,r]
 let j:X:=.mk [(.lit (.i 5)),(.len (.fld (.set b 4 (.add (.fld b 4) w)) 0))]
 let n:X:=.mk [(.lit (.i 5)),(.len (.fld c 0))]
 let x:X:=.call 6 0 [b,k,p]
 let d:X:=.set (.set b 4 (.add (.fld b 4) w)) 0 (.app (.fld (.set b 4 (.add (.fld b 4) w)) 0) (.row [j,(.mk [w,(.fld (.set b 4 (.add (.fld b 4) w)) 4)]),p]))
 let g:X:=.set c 0 (.app (.fld c 0) (.row [n,(.mk [w,(.fld c 4)]),r]))
 let y:X:=.call 6 0 [d,q,j]
 let a1:X:=.call 6 0 [g,q,n]
 (.need [(.ok 0 [i,(.tok 1)]),(.ok 0 [i,(.tok 1)])] (.need [(.imp (.not o) (.ok 2 [i,(.tok 3)])),(.imp (.and (.not (.not (.call 0 1 [i,(.tok 1)]))) u) (.ok 1 [i,f]))] (.br (.or o (.not (.call 2 0 [i,(.tok 3)]))) (.leaf [w,i]) (.need [(.ok 3 [i,f])] (.need [(.ok 4 [a,(.tok 2)])] (.br (.le b1 h) (.need [(.le b1 h),(.lt h (.len a))] (.br (.lt (.lit (.i 499)) (.len (.put a h l))) (.leaf [(.lit (.i 2)),i]) (.need [(.ok 5 [i,(.put a h l)])] (.br (.not (.eq s b1)) (.need [(.ok 7 [s,b,i])] (.leaf [s,(.call 7 0 [s,b,i])])) (.br u (.need [(.rng .i64 k),(.ok 6 [b,k,p])] (.need [(.ok 7 [x,(.call 6 1 [b,k,p]),i])] (.leaf [x,(.call 7 0 [x,(.call 6 1 [b,k,p]),i])]))) (.br (.or (.lt (.fn 18 [(.fld b 5),c1]) (.len (.fld b 0))) (.le (.lit (.i 1099511627776)) (.fld b 4))) (.need [(.ok 7 [t,b,i])] (.leaf [t,(.call 7 0 [t,b,i])])) (.need [(.rng .i64 (.add (.fld b 4) w))] (.need [(.le (.add (.len (.fld (.set b 4 (.add (.fld b 4) w)) 0)) c1) (.lit (.i 8796093021952)))] (.need [(.ok 6 [d,q,j])] (.need [(.ok 7 [y,(.call 6 1 [d,q,j]),i])] (.leaf [y,(.call 7 0 [y,(.call 6 1 [d,q,j]),i])]))))))))))) (.need [(.le (.add (.len a) w) (.lit (.i 4398046510976)))] (.br (.lt (.lit (.i 499)) (.len e)) (.leaf [(.lit (.i 2)),i]) (.need [(.ok 5 [i,e])] (.br (.not (.eq v b1)) (.need [(.ok 7 [v,m,i])] (.leaf [v,(.call 7 0 [v,m,i])])) (.br u (.need [(.rng .i64 k),(.ok 6 [m,k,r])] (.need [(.ok 7 [z,(.call 6 1 [m,k,r]),i])] (.leaf [z,(.call 7 0 [z,(.call 6 1 [m,k,r]),i])]))) (.br (.or (.lt (.fn 18 [(.fld m 5),c1]) (.len (.fld m 0))) (.le (.lit (.i 1099511627776)) (.fld m 4))) (.need [(.ok 7 [t,m,i])] (.leaf [t,(.call 7 0 [t,m,i])])) (.need [(.rng .i64 (.add (.fld m 4) w))] (.need [(.le (.add (.len (.fld c 0)) c1) (.lit (.i 8796093021952)))] (.need [(.ok 6 [g,q,n])] (.need [(.ok 7 [a1,(.call 6 1 [g,q,n]),i])] (.leaf [a1,(.call 7 0 [a1,(.call 6 1 [g,q,n]),i])])))))))))))))))))
theorem qz6(g0 g1 g2 g3 g4 g5 g6:List D→Option (List D)):∀cd,kS.body=some cd→zdp uA [(qn,g0),(qz,g1),(qf,g2),(zf,g3),(zh,g4),(j7,g5),(zs,g6),(qfe,q5k)] qlu q01 kS 7 cd=q8o:=by
 intro cd h
 injection h with h
 subst h
 kernel_rfl
variable{g:List D→Option (List D)}
theorem qkh{g0 g1 g2 g3 g4 g5 g6:List D→Option (List D)}(h0:FOk qn g0)(h1:FOk qz g1)(h2:FOk qf g2)(h3:FOk zf g3)(h4:FOk zh g4)(h5:FOk j7 g5)(h6:FOk zs g6)(h:∀ds outs,WfA q01.ars ds→g ds=some outs→q8o.go (qe [(qn,g0),(qz,g1),(qf,g2),(zf,g3),(zh,g4),(j7,g5),(zs,g6),(qfe,q5k)]) (fun o=>o=outs) ds fun _ _=>False):FOk q01 g:=
 FOk.of_at qsk fun ds outs hw hg=>z65 qlu kS 7 _ (.cons h0 (.cons h1 (.cons h2 (.cons h3 (.cons h4 (.cons h5 (.cons h6 (.cons z3v .nil)))))))) (fun _=>rfl) rfl rfl (by decide) rfl (by rw[qz6 g0 g1 g2 g3 g4 g5 g6 _ rfl];exact h ds outs hw hg)
def q1y:Ct:=⟨17,[.ref (.st 26) true,.val (.st 28),.val (.str)],[(.int .i64,false)],[],none,[],[]⟩
theorem qv4:EnZ q1y:=fun _ _=>by kernel_rfl
def qm3:Ann:=⟨[0,1,2,4,6,7,8,9,10,11,13,28,38,44,46,58],[]⟩
def q8p:Tree:=
 let c:X:=.tok 0
 let j:X:=.lit (.i 1)
 let k:X:=.lit (.i 0)
 let b:X:=.call 0 0 [c,(.tok 1)]
 let d:X:=.add (.fld b 1) (.lit (.i 2))
 let e:X:=.call 2 0 [(.call 1 0 [c,b]),(.tok 2)]
 let a:X:=.call 4 0 [(.call 1 0 [c,b]),e,(.add e j)]
 let f:X:=.call 5 2 [c,a]
 let g:X:=.call 5 0 [c,a]
 let h:X:=.call 5 1 [c,a]
 let i:X:=.call 6 0 [f,d,g]
 (.need [(.ok 0 [c,(.tok 1)]),(.ok 0 [c,(.tok 1)])] (.br (.or (.not (.call 0 1 [c,(.tok 1)])) (.lt (.lit (.i 100)) (.slen (.tok 2)))) (.leaf [j,c]) (.need [(.ok 1 [c,b])] (.need [(.ok 2 [(.call 1 0 [c,b]),(.tok 2)])] (.br (.lt e k) (.leaf [k,c]) (.need [(.ok 3 [c,b])] (.br (.not (.call 3 0 [c,b])) (.leaf [j,c]) (.need [(.rng .i64 (.add e j)),(.ok 4 [(.call 1 0 [c,b]),e,(.add e j)]),(.ok 5 [c,a])] (.br (.not (.eq h k)) (.need [(.ok 7 [h,f,c])] (.leaf [h,(.call 7 0 [h,f,c])])) (.need [(.rng .i64 d),(.ok 6 [f,d,g])] (.need [(.ok 7 [i,(.call 6 1 [f,d,g]),c])] (.leaf [i,(.call 7 0 [i,(.call 6 1 [f,d,g]),c])]))))))))))))
theorem qxr(g0 g1 g2 g3 g4 g5 g6:List D→Option (List D)):∀cd,kR.body=some cd→zdp uA [(qn,g0),(zf,g1),(zh,g2),(qz,g3),(zg,g4),(j7,g5),(zs,g6),(qfe,q5k)] qm3 q1y kR 7 cd=q8p:=by
 intro cd h
 injection h with h
 subst h
 kernel_rfl
theorem qkf{g0 g1 g2 g3 g4 g5 g6:List D→Option (List D)}(h0:FOk qn g0)(h1:FOk zf g1)(h2:FOk zh g2)(h3:FOk qz g3)(h4:FOk zg g4)(h5:FOk j7 g5)(h6:FOk zs g6)(h:∀ds outs,WfA q1y.ars ds→g ds=some outs→q8p.go (qe [(qn,g0),(zf,g1),(zh,g2),(qz,g3),(zg,g4),(j7,g5),(zs,g6),(qfe,q5k)]) (fun o=>o=outs) ds fun _ _=>False):FOk q1y g:=
 FOk.of_at qv4 fun ds outs hw hg=>z65 qm3 kR 7 _ (.cons h0 (.cons h1 (.cons h2 (.cons h3 (.cons h4 (.cons h5 (.cons h6 (.cons z3v .nil)))))))) (fun _=>rfl) rfl rfl (by decide) rfl (by rw[qxr g0 g1 g2 g3 g4 g5 g6 _ rfl];exact h ds outs hw hg)
def j8:Ct:=⟨23,[.ref (.st 26) true],[(.row 29,true),(.int .i64,false)],[],none,[],[]⟩
theorem q3c:EnZ j8:=fun _ _=>by kernel_rfl
section
open Go.RowKit Go.Shelf
noncomputable def wkC:Code:=match uV.body with
 |some c=>c
 |none=>.skip
def rgO:Code→List Oper
 |.region _ ops _=>ops.toList
 |_=>[]
noncomputable def zso:List Code:=[sqL wkC,sqL (sqR wkC)]
noncomputable def zou:List Oper:=rgO (sqL (sqR (sqR wkC)))
noncomputable def q8d:Code:=sqR (sqR (sqR wkC))
noncomputable def zaa:Code:=sqR (sqR q8d)
noncomputable def zsp:List Code:=[sqL q8d,sqL (sqR q8d),sqL (sqL zaa)]
noncomputable def qhv:Code:=lpC (bkC (sqR (sqL zaa)))
noncomputable def wkZ:Code:=sqR zaa
noncomputable def zkf:Code:=bkC (sqL (sqR (sqR qhv)))
noncomputable def wkH:List Code:=[sqL qhv,sqL (sqR qhv)]
noncomputable def wkR:List Code:=[sqL zkf]
noncomputable def wkY:Code:=sqL (sqR zkf)
noncomputable def zw9:Nat:=match wkY with
 |.region i _ _=>i
 |_=>0
def zj9:List Oper:=[(.mk (.some 30) (.load 41 (.tmp 1)) 41 "attr.go:278" (.mk []) .none),(.mk (.some 31) (.nilCheck (.tmp 30)) 0 "attr.go:278" (.mk [(.mk 0 .data)]) .none),(.mk (.some 32) (.load 27 (.tmp 31)) 27 "attr.go:278" (.mk [(.mk 1 .data)]) .none),(.mk (.some 33) (.fieldAddr 73 (.tmp 6) 1) 0 "attr.go:278" (.mk []) .none),(.mk (.some 34) (.load 29 (.tmp 33)) 29 "attr.go:278" (.mk [(.mk 3 .data)]) .none),(.mk (.some 35) (.call (.mk (.value (.func 63)) (.mk [(.tmp 32),(.tmp 34)]) (.mk [27,29]))) 96 "attr.go:278" (.mk [(.mk 2 .data),(.mk 4 .data)]) .none)]
noncomputable def wkN:List Code:=[sqR (sqR (sqR qhv))]
noncomputable def wkF:Code:=bkC (sqR (sqR zkf))
noncomputable def zi5:Code:=match wkF with
 |.rangeFunc _ _ a _=>a
 |_=>.skip
noncomputable def z8p:Code:=match wkF with
 |.rangeFunc _ _ _ b=>bkC b
 |_=>.skip
def q9t:Ann:=⟨[0,1,2,3,4,6,7,8,9,10,12,14,16,24,25,26,27,35,36,37,58],[]⟩
def q78:Tbl:=[(q0g,gCl 3518437208780),(yi,zly),(qfe,q5k)]
def qyf(m0 m1 m2 m3:Int):Tbl:=[(jz j8.f qm,fun _=>some [.i m0]),(jz j8.f ye,fun _=>some [.i m1]),(jz j8.f q2n,fun _=>some [.i m2]),(jz j8.f yq,fun _=>some [.i m3]),(yf,gSt q54),(q2a,zjd),(jk,gSL qgp),(zy,qsz)]
abbrev wkI:List Item:=[(24,q4y,[(0,385)],[]),(25,.int .i64,[],[]),(26,.int .i64,[],[])]
abbrev wkM:List Item:=[(0,qb,qq 0 qb,[]),(2,yb,[(0,33)],[]),(3,yr,[],[])]
def wkQ:St:=⟨[(0,.ref 0 [] 0 qb),(1,.bx 1 41 (.ref 0 [] 0 qb)),(2,.ref 2 [] 0 yb),(3,.sn (VB+3) (.ref 3 [] 0 yr)),(24,.any),(25,.any),(26,.any)],[]⟩
def zti:St:=(.mk [(24,(.v (.tok 1) (.row 73) [(0,385)] [])),(25,(.v (.tok 2) (.int .i64) [] [])),(26,(.v (.tok 3) (.int .i64) [] [])),(0,(.ref 0 [] 0 (.st 26))),(1,(.bx 1 41 (.ref 0 [] 0 (.st 26)))),(2,(.ref 2 [] 0 (.row 29))),(3,(.sn 100003 (.ref 3 [] 0 (.int .i64))))] [(0,(.mk (.tok 4) (.st 26) [(0,1),(1,2),(2,3),(3,4)] [])),(2,(.mk (.tok 5) (.row 29) [(0,33)] [])),(3,(.mk (.tok 6) (.int .i64) [] []))])
theorem zl0:q3l wkI wkM 1 (q2t wkI wkM [] 1 wkQ)=zti:=by kernel_rfl
noncomputable def wkK:Nat→St→Nat→Nat→X→Tree:=fun n σ ks te was=>if uX n 1&&(uX ks 0&&(uX te 3&&X.beq was (.tok 0))) then q6o uA q78 q9t 1 69 zsp n σ (toN wkI wkM [] wkQ) else .bad 4
theorem zke:wkY=.region zw9 zj9.toArray true:=by kernel_rfl
def ztr:Tree:=(.need [(.ok 0 [(.fld (.tok 0) 3)])] (.need [(.ok 1 [(.call 0 0 [(.fld (.tok 0) 3)])])] (.leaf [(.call 0 0 [(.fld (.tok 0) 3)]),(.len (.call 0 0 [(.fld (.tok 0) 3)])),(.lit (.i 0)),(.tok 0),(.lit (.r [])),(.lit (.i 0))])))
theorem zmc:q6o uA q78 q9t 1 69 zso 1 (qt5 j8) (zs7 uA q78 j8 uV zou wkK)=ztr:=by kernel_rfl
def q73:St:=⟨[(0,.ref 0 [] 0 qb),(1,.bx 1 41 (.ref 0 [] 0 qb)),(2,.ref 2 [] 0 yb),(3,.sn (VB+3) (.ref 3 [] 0 yr)),(24,.v (.tok 1) q4y [(0,385)] []),(25,.v (.len (.tok 1)) (.int .i64) [] []),(26,.v (.tok 2) (.int .i64) [] [])],[(0,⟨.tok 3,qb,qq 0 qb,[]⟩),(2,⟨.tok 4,yb,[(0,33)],[]⟩),(3,⟨.tok 5,yr,[],[]⟩)]⟩
theorem zga:q3l [] [] 6 (q2t [] [] [] 6 q73)=q73:=by kernel_rfl
def ztm:St:=(.mk [(26,(.v (.tok 6) (.int .i64) [] [])),(0,(.ref 0 [] 0 (.st 26))),(1,(.bx 1 41 (.ref 0 [] 0 (.st 26)))),(2,(.ref 2 [] 0 (.row 29))),(3,(.sn 100003 (.ref 3 [] 0 (.int .i64)))),(24,(.v (.tok 1) (.row 73) [(0,385)] [])),(25,(.v (.len (.tok 1)) (.int .i64) [] []))] [(0,(.mk (.tok 3) (.st 26) [(0,1),(1,2),(2,3),(3,4)] [])),(2,(.mk (.tok 4) (.row 29) [(0,33)] [])),(3,(.mk (.tok 5) (.int .i64) [] []))])
theorem zn9:q3l [(26,.int .i64,[],[])] [] 6 (q2t [(26,.int .i64,[],[])] [] [] 6 ⟨q73.t.filter (fun e=> !Nat.beq e.1 26),q73.m⟩)=ztm:=by kernel_rfl
def zus:Nat→ResD→St→Tree:=fun n r σ=>match r with
 |.normal=>.need [.lt (.tok 2) (.len (.tok 1))] (qqv [] [] [] q73 n .normal σ)
 |.exit 0=>.need [.not (.lt (.tok 2) (.len (.tok 1)))] (qqv [] [] [] q73 n .normal σ)
 |_=>.bad 1
def zu3:Tree:=(.br (.lt (.tok 2) (.len (.tok 1))) (.need [(.lt (.tok 2) (.len (.tok 1)))] (.leaf [])) (.need [(.not (.lt (.tok 2) (.len (.tok 1))))] (.leaf [])))
theorem zki:q6o uA q78 q9t 1 69 wkH 6 q73 zus=zu3:=by kernel_rfl
def zo4:St:=⟨q73.t++[(6,.ref 6 [] 0 yq)],[]⟩
abbrev zni:List Item:=[(0,qb,qq 0 qb,[]),(2,yb,[(0,33)],[]),(3,yr,[],[]),(6,yq,[],[])]
def zo6:St:=⟨zo4.t,[(0,⟨.tok 6,qb,qq 0 qb,[]⟩),(2,⟨.tok 7,yb,[(0,33)],[]⟩),(3,⟨.tok 8,yr,[],[]⟩),(6,⟨.tok 9,yq,[],[]⟩)]⟩
theorem zlf:q3l [] zni 6 (q2t [] zni [] 6 zo4)=zo6:=by kernel_rfl
def zud:Tree:=(.need [(.le (.lit (.i 0)) (.tok 2)),(.lt (.tok 2) (.len (.tok 1)))] (.leaf [(.tok 3),(.tok 4),(.tok 5),(.get (.tok 1) (.tok 2))]))
theorem zm1:q6o uA q78 q9t 1 69 wkR 6 q73 (toN [] zni [] zo4)=zud:=by kernel_rfl
def qov:List (Nat×AV):=[(0,.sn 0 (.ref 0 [] 0 qb)),(1,.sn 1 (.bx 1 41 (.ref 0 [] 0 qb))),(2,.sn 2 (.ref 2 [] 0 yb)),(3,.sn 3 (.ref 3 [] 0 yr)),(6,.sn 6 (.ref 6 [] 0 yq)),(24,.sn 24 (.v (.tok 4) q4y [(0,385)] []))]
def zji:List (Nat×Ent):=[(0,⟨.tok 1,qb,qq 0 qb,[]⟩),(2,⟨.tok 2,yb,[(0,33)],[]⟩),(3,⟨.tok 3,yr,[],[]⟩),(6,⟨.tok 0,yq,[],[]⟩)]
def z3c:St:=⟨qov,zji⟩
noncomputable def qm0:List Code:=[sqL z8p,sqL (sqR z8p),sqL (sqR (sqR z8p))]
noncomputable def zay:Code:=sqR (sqR (sqR z8p))
theorem zd4:z8p=seqs qm0 zay:=by kernel_rfl
def zs3:List (Nat×AV):=[(0,.sn 0 (.ref 0 [] 0 qb)),(1,.sn 1 (.bx 1 41 (.ref 0 [] 0 qb))),(2,.sn 2 .any),(3,.sn 3 (.ref 3 [] 0 yr)),(6,.sn 6 (.ref 6 [] 0 yq)),(24,.sn 24 (.v (.tok 4) q4y [(0,385)] []))]
def zmx:St:=⟨zs3++[(36,.v (.tok 5) .str [] []),(37,.v (.tok 6) qm [] [])],[(0,⟨.tok 1,qb,qq 0 qb,[]⟩),(3,⟨.tok 3,yr,[],[]⟩),(6,⟨.tok 0,yq,[],[]⟩)]⟩
def z4e:St:=⟨zs3++[(7,.v (.tok 5) .str [] []),(8,.ref 8 [] 0 qm)],[(0,⟨.tok 1,qb,qq 0 qb,[]⟩),(3,⟨.tok 3,yr,[],[]⟩),(6,⟨.tok 0,yq,[],[]⟩),(8,⟨.tok 6,qm,[],[]⟩)]⟩
def zvv:Tree:=(.leaf [])
theorem zsk(m0 m1 m2 m3:Int):q6o uA (qyf m0 m1 m2 m3) q9t 1 69 [zi5] 7 zmx (toN [] [] [] z4e)=zvv:=by kernel_rfl
abbrev z9i:List Item:=[(0,qb,qq 0 qb,[]),(10,qm,[],[])]
def zix:St:=⟨zs3++[(10,.ref 10 [] 0 qm)],[(3,⟨.tok 3,yr,[],[]⟩),(6,⟨.tok 0,yq,[],[]⟩)]⟩
def z9y:St:=(.mk [(0,(.sn 0 (.ref 0 [] 0 (.st 26)))),(1,(.sn 1 (.bx 1 41 (.ref 0 [] 0 (.st 26))))),(2,(.sn 2 .any)),(3,(.sn 3 (.ref 3 [] 0 (.int .i64)))),(6,(.sn 6 (.ref 6 [] 0 (.st 72)))),(24,(.sn 24 (.v (.tok 4) (.row 73) [(0,385)] []))),(10,(.ref 10 [] 0 (.st 28)))] [(0,(.mk (.tok 7) (.st 26) [(0,1),(1,2),(2,3),(3,4)] [])),(10,(.mk (.tok 8) (.st 28) [] [])),(3,(.mk (.tok 3) (.int .i64) [] [])),(6,(.mk (.tok 0) (.st 72) [] []))])
theorem znz:q3l [] z9i 7 (q2t [] z9i [] 7 zix)=z9y:=by kernel_rfl
def zrd:Tree:=
 let c:X:=.tok 1
 let d:X:=.lit (.i 0)
 let a:X:=.call 6 0 [(.lit (.s ⟨#[97,116,116,114,95,104,111,111,107]⟩)),(.row [(.call 4 0 [(.tok 5)]),(.call 5 0 [d]),(.call 5 0 [(.lit (.i 1))])])]
 let b:X:=.row [(.mk [d,(.tok 6)]),(.mk [(.lit (.i 1)),(.fld (.tok 0) 2)])]
 (.need [(.ok 4 [(.tok 5)]),(.ok 5 [d]),(.ok 5 [(.lit (.i 1))]),(.ok 6 [(.lit (.s ⟨#[97,116,116,114,95,104,111,111,107]⟩)),(.row [(.call 4 0 [(.tok 5)]),(.call 5 0 [d]),(.call 5 0 [(.lit (.i 1))])])])] (.need [(.ok 7 [c,a,b]),(.le (.call 0 0 []) (.len (.fld c 0))),(.le (.call 1 0 []) (.len (.fld c 1))),(.le (.call 2 0 []) (.len (.fld c 2))),(.le (.call 3 0 []) (.len (.fld c 3)))] (.br (.not (.eq (.call 7 2 [c,a,b]) d)) (.bad 15001) (.leaf [(.call 7 3 [c,a,b]),(.call 7 0 [c,a,b])]))))
theorem zq8(m0 m1 m2 m3:Int):q6o uA (qyf m0 m1 m2 m3) q9t 1 69 qm0 7 z4e (toN [] z9i [] zix)=zrd:=by kernel_rfl
def z95:St:=⟨qov++[(7,.v (.tok 5) .str [] []),(8,.ref 8 [] 0 qm)],[(0,⟨.tok 1,qb,qq 0 qb,[]⟩),(2,⟨.tok 2,yb,[(0,33)],[]⟩),(3,⟨.tok 3,yr,[],[]⟩),(6,⟨.tok 0,yq,[],[]⟩),(8,⟨.tok 6,qm,[],[]⟩)]⟩
abbrev zj7:List Item:=[(0,qb,qq 0 qb,[]),(2,yb,[(0,33)],[]),(3,yr,[],[])]
def zr5:St:=⟨qov,[]⟩
def zq0:St:=(.mk [(0,(.sn 0 (.ref 0 [] 0 (.st 26)))),(1,(.sn 1 (.bx 1 41 (.ref 0 [] 0 (.st 26))))),(2,(.sn 2 (.ref 2 [] 0 (.row 29)))),(3,(.sn 3 (.ref 3 [] 0 (.int .i64)))),(6,(.sn 6 (.ref 6 [] 0 (.st 72)))),(24,(.sn 24 (.v (.tok 4) (.row 73) [(0,385)] [])))] [(0,(.mk (.tok 7) (.st 26) [(0,1),(1,2),(2,3),(3,4)] [])),(2,(.mk (.tok 8) (.row 29) [(0,33)] [])),(3,(.mk (.tok 9) (.int .i64) [] []))])
theorem zkd:q3l [] zj7 7 (q2t [] zj7 [] 7 zr5)=zq0:=by kernel_rfl
def zsi:Nat→ResD→St→Tree:=fun n r σ=>match r with
 |.ret=>qqv [] zj7 [] zr5 n .normal σ
 |_=>.bad 1
def zsl:Tree:=
 let c:X:=.tok 1
 let d:X:=.lit (.i 0)
 let a:X:=.call 6 0 [(.lit (.s ⟨#[97,116,116,114,95,104,111,111,107]⟩)),(.row [(.call 4 0 [(.tok 5)]),(.call 5 0 [d]),(.call 5 0 [(.lit (.i 1))])])]
 let b:X:=.row [(.mk [d,(.tok 6)]),(.mk [(.lit (.i 1)),(.fld (.tok 0) 2)])]
 (.need [(.ok 4 [(.tok 5)]),(.ok 5 [d]),(.ok 5 [(.lit (.i 1))]),(.ok 6 [(.lit (.s ⟨#[97,116,116,114,95,104,111,111,107]⟩)),(.row [(.call 4 0 [(.tok 5)]),(.call 5 0 [d]),(.call 5 0 [(.lit (.i 1))])])])] (.need [(.ok 7 [c,a,b]),(.le (.call 0 0 []) (.len (.fld c 0))),(.le (.call 1 0 []) (.len (.fld c 1))),(.le (.call 2 0 []) (.len (.fld c 2))),(.le (.call 3 0 []) (.len (.fld c 3)))] (.br (.not (.eq (.call 7 2 [c,a,b]) d)) (.leaf [(.call 7 3 [c,a,b]),(.lit (.r [])),(.call 7 2 [c,a,b])]) (.bad 1))))
theorem zss(m0 m1 m2 m3:Int):q6o uA (qyf m0 m1 m2 m3) q9t 1 69 qm0 7 z95 zsi=zsl:=by kernel_rfl
def qwg:List (Nat×AV):=[(0,.sn 0 .any),(1,.sn 1 .any),(2,.sn 2 (.ref 2 [] 0 yb)),(3,.sn 3 .any),(6,.sn 6 .any),(24,.sn 24 .any)]
def z5f:St:=⟨qwg++[(10,.ref 10 [] 0 qm)],[(2,⟨.tok 0,yb,[(0,33)],[]⟩),(10,⟨.tok 1,qm,[],[]⟩)]⟩
abbrev z92:List Item:=[(2,yb,[(0,33)],[])]
def zmr:St:=(.mk [(0,(.sn 0 .any)),(1,(.sn 1 .any)),(2,(.sn 2 (.ref 2 [] 0 (.row 29)))),(3,(.sn 3 .any)),(6,(.sn 6 .any)),(24,(.sn 24 .any))] [(2,(.mk (.tok 2) (.row 29) [(0,33)] []))])
theorem znu:q3l [] z92 2 (q2t [] z92 [] 2 ⟨qwg,[]⟩)=zmr:=by kernel_rfl
def zow:Tree:=(.need [(.le (.add (.len (.tok 0)) (.lit (.i 1))) (.lit (.i 8796093021952)))] (.leaf [(.app (.tok 0) (.row [(.tok 1)]))]))
theorem zfi:q6o uA [] q9t 1 69 [zay] 2 z5f (toN [] z92 [] ⟨qwg,[]⟩)=zow:=by kernel_rfl
def zu1:Tree:=(.need [(.rng .i64 (.add (.tok 2) (.lit (.i 1))))] (.leaf [(.add (.tok 2) (.lit (.i 1)))]))
theorem znk:q6o uA q78 q9t 1 69 wkN 6 q73 (toN [(26,.int .i64,[],[])] [] [] ⟨q73.t.filter (fun e=> !Nat.beq e.1 26),q73.m⟩)=zu1:=by kernel_rfl
def zts:Tree:=(.need [(.ok 2 [(.lit (.i 0)),(.set (.tok 3) 3 (.lit (.r []))),(.tok 0)])] (.leaf [(.tok 4),(.lit (.i 0)),(.call 2 0 [(.lit (.i 0)),(.set (.tok 3) 3 (.lit (.r []))),(.tok 0)])]))
theorem zm6:toT uA q78 q9t 1 69 wkZ [] 6 q73 (qik j8 uV 2 0 3 (.tok 0))=zts:=by kernel_rfl
def wkE:St:=⟨[(0,.ref 0 [] 0 qb),(1,.bx 1 41 (.ref 0 [] 0 qb)),(2,.ref 2 [] 0 yb),(3,.sn (VB+3) (.ref 3 [] 0 yr))],[(0,⟨.tok 1,qb,qq 0 qb,[]⟩),(2,⟨.tok 2,yb,[(0,33)],[]⟩),(3,⟨.tok 3,yr,[],[]⟩)]⟩
def zu7:Tree:=(.need [(.ok 2 [(.tok 3),(.tok 1),(.tok 0)])] (.leaf [(.tok 2),(.tok 3),(.call 2 0 [(.tok 3),(.tok 1),(.tok 0)])]))
theorem zn6:qik j8 uV 2 0 3 (.tok 0) 4 .ret wkE=zu7:=by kernel_rfl
end
def z7y:ByteArray:=⟨#[97,116,116,114,95,104,111,111,107]⟩
def zh6(nm:ByteArray):Te:=qgp z7y [q54 nm,vaT 0,vaT 1]
def zp0(x wv:Ce):List Vc:=[⟨0,x⟩,⟨1,wv⟩]
def yj(wv:Ce)(s:So)(x:At):Ce×List Vc×Int×So:=qqb s (zh6 x.name) (zp0 x.val wv)
def q03(wv:Ce):So→List Ce→List At→So×List Ce×Int
 |s,o,[]=>(s,o,0)
 |s,o,x::l=>if(yj wv s x).2.2.1=0 then q03 wv (yj wv s x).2.2.2 (o++[(yj wv s x).1]) l else((yj wv s x).2.2.2,[],(yj wv s x).2.2.1)
def qdy(wv:Ce):So→List At→Bool
 |s,[]=>true
 |s,x::l=>qw s&&(decide (¬(yj wv s x).2.2.1=0)||qdy wv (yj wv s x).2.2.2 l)
def q5c:So→List Ce→List Wk→So×List Ce×Int
 |s,o,[]=>(s,o,0)
 |s,o,w::l=>if(q03 w.val s o (yx s w.att)).2.2=0 then q5c (q03 w.val s o (yx s w.att)).1 (q03 w.val s o (yx s w.att)).2.1 l else q03 w.val s o (yx s w.att)
def z3u:So→List Ce→List Wk→Bool
 |s,o,[]=>true
 |s,o,w::l=>qdy w.val s (yx s w.att)&&(decide (¬(q03 w.val s o (yx s w.att)).2.2=0)||z3u (q03 w.val s o (yx s w.att)).1 (q03 w.val s o (yx s w.att)).2.1 l)
def z79(s r:So):So:={r with cs:=r.cs.take s.cs.length,ys:=r.ys.take s.ys.length,tr:=r.tr.take s.tr.length,ser:=s.ser}
def zdo(s:So):List Ce×Int×So:=if(q5c s [] s.wk).2.2=0 then((q5c s [] s.wk).2.1,0,{(q5c s [] s.wk).1 with wk:=[]}) else([],(q5c s [] s.wk).2.2,z79 s (q5c s [] s.wk).1)
def zpy:List D→Option (List D)
 |[s]=>if(dS s).wk.length≤1∧(dS s).cs.length≤1000000∧z3u (dS s) [] (dS s).wk=true then some [.r ((zdo (dS s)).1.map eC),.i (zdo (dS s)).2.1,eS (zdo (dS s)).2.2] else none
 |_=>none
def qbw(s s':So):Prop:=s.cs.length≤s'.cs.length∧s.ys.length≤s'.ys.length∧Rst s s'
theorem qbw.refl(s:So):qbw s s:=⟨uC _,uC _,Rst.refl s⟩
theorem qbw.trans{a b c:So}(h:qbw a b)(k:qbw b c):qbw a c:=⟨uQ h.1 k.1,uQ h.2.1 k.2.1,h.2.2.trans k.2.2⟩
theorem z5z{s:So}{t:Te}{l:List Vc}(hv:qw s=true):qbw s (qqb s t l).2.2.2:=by
 unfold qqb
 split
 ·rename_i h
  split
  ·rename_i hr
   simp only[gnB] at h
   have hq:=quz hv h.1 h.2 hr
   simp only[qmt,gnB,gnD] at hq
   obtain⟨h1,h2,h3,h4⟩:=q32 t (s,l) (-1) hq.1 hq.2.1
   refine⟨by rw[h1];exact Nat.le_add_right _ _,?_,h3⟩
   rw[h2]
   exact qh4 _ _
  ·exact qbw.refl s
 ·exact qbw.refl s
theorem qir(wv:Ce):∀(l:List At)(s:So)(o:List Ce),qdy wv s l=true→qbw s (q03 wv s o l).1
 |[],s,o,_=>qbw.refl s
 | x :: l, s, o, h => by
  unfold qdy at h
  simp only[gnB,uM,gnD] at h
  have h1:qbw s (yj wv s x).2.2.2:=z5z h.1
  unfold q03
  split
  ·rename_i h0
   rcases h.2 with h2|h2
   ·exact absurd h0 h2
   ·exact h1.trans (qir wv l _ _ h2)
  ·exact h1
variable{b pin:Nat}{d:D}{E T:TypeId}{te:Ty}{cs:List Value}{cur:Array Value}{v:Value}{F:Flr}{dep:List Nat}
section
open Go.RowKit Go.Shelf
section
variable{A:Nat→Prop}{p:qi}{w W:World}{dep:List Nat}
theorem qsg(hte:qk E=some te)(h:Fl A p w dep (some pin) d (.row E) cs):∃l v,d=.r l∧cs=[v]∧q1g A p w dep pin E te l v:=by
 rcases h with⟨E',te',l,v,e,hte',rfl,rfl,hv⟩|⟨K,V,kt,vt,l,g,es,clock,e,-⟩
 ·injection e with e
  subst e
  obtain rfl:=gnI (hte.symm.trans hte')
  exact⟨l,v,rfl,rfl,hv⟩
 ·cases e
theorem zfd:qk 29=some qm∧qk 87=some ye∧qk 71=some q2n∧qk 73=some yq:=⟨by kernel_rfl,by kernel_rfl,by kernel_rfl,by kernel_rfl⟩
theorem z97{s:So}(h:Con A p w (eS s) qb (qq 0 qb) dep cs):∃v0 v1 v2 v3,cs=[v0,v1,v2,v3,.int .i64 s.ser,.int .i64 s.mx]∧q1g A p w dep 1 29 qm (s.cs.map eC) v0∧q1g A p w dep 2 87 ye (s.ys.map eY) v1∧q1g A p w dep 3 71 q2n (s.tr.map eU) v2∧q1g A p w dep 4 73 yq (s.wk.map eW) v3∧yw .i64 s.ser=true∧yw .i64 s.mx=true:=by
 have h:Con A p w (eS s) (.st qtp) (qq 0 qb) dep cs:=h
 obtain⟨fs,ds,hf,he,hl⟩:=h
 rw[qs3] at hf
 injection hf with hf
 subst hf
 obtain⟨d0,ds,c0,cs,rfl,rfl,h0,hl⟩:=q5z hl
 obtain⟨d1,ds,c1,cs,rfl,rfl,h1,hl⟩:=q5z hl
 obtain⟨d2,ds,c2,cs,rfl,rfl,h2,hl⟩:=q5z hl
 obtain⟨d3,ds,c3,cs,rfl,rfl,h3,hl⟩:=q5z hl
 obtain⟨d4,ds,c4,cs,rfl,rfl,h4,hl⟩:=q5z hl
 obtain⟨d5,ds,c5,cs,rfl,rfl,h5,hl⟩:=q5z hl
 obtain⟨rfl,rfl⟩:=zgh hl
 obtain⟨t1,t2,t3,t4⟩:=zfd
 have h0:Fl A p w dep (some 1) d0 (.row 29) c0:=h0
 have h1:Fl A p w dep (some 2) d1 (.row 87) c1:=h1
 have h2:Fl A p w dep (some 3) d2 (.row 71) c2:=h2
 have h3:Fl A p w dep (some 4) d3 (.row 73) c3:=h3
 obtain⟨l0,v0,rfl,rfl,q0⟩:=qsg t1 h0
 obtain⟨l1,v1,rfl,rfl,q1⟩:=qsg t2 h1
 obtain⟨l2,v2,rfl,rfl,q2⟩:=qsg t3 h2
 obtain⟨l3,v3,rfl,rfl,q3⟩:=qsg t4 h3
 obtain⟨x4,rfl,rfl,q4,-⟩:=z3z h4
 obtain⟨x5,rfl,rfl,q5,-⟩:=z3z h5
 simp only[eS,D.a.injEq,List.cons.injEq,D.r.injEq,D.i.injEq,and_true] at he
 obtain⟨rfl,rfl,rfl,rfl,rfl,rfl⟩:=he
 exact⟨v0,v1,v2,v3,rfl,q0,q1,q2,q3,q4,q5⟩
theorem qdz{i:Nat}(h:w.heap[b]? =some (.cells cur T (0,0))):w.cell? ⟨b,i,none⟩=cur[i]? :=by
 unfold World.cell?
 simp[h]
theorem q1g.stay{P:Nat→Prop}{l:List D}(h:q1g A p w dep pin E te l v)(hte:qk E=some te)(hf:zz 8 te=true)
  (hk:∀g cur,p pin=some g→w.heap[g]? =some (.cells cur E (0,0))→0<l.length→P g∧∃cur',W.heap[g]? =some (.cells cur' E (0,0))∧∀j,j<l.length * te.w→cur'[j]? =cur[j]?):Rd W P (.r l) (.row E) [v]:=by
 rcases h with⟨rfl,rfl⟩|⟨g,cap,cur,rfl,hg,hh,h1,h2,h3,h4,h5⟩
 ·exact⟨E,te,none,0,rfl,hte,rfl,by simp,by simp,by simp[maxLen],by simp[RdE]⟩
 ·refine⟨E,te,some ⟨g,0,none⟩,cap,rfl,hte,rfl,h1,h4,h2,q1m.2 fun j hj=>?_⟩
  obtain⟨cs,hr,hx⟩:=h5 j hj
  obtain⟨hP,cur',hw',hc⟩:=hk g cur hg hh (by omega)
  refine⟨g,0,cs,rfl,hP,fun i v hv=>?_,Rd.flat 8 _ hf hx⟩
  have hlen:cs.length=te.w:=(Rd.len _ hx).1
  have hi:i<cs.length:=(gnH.1 hv).1
  have h6:=hr i v hv
  rw[qdz hw']
  rw[qdz hh] at h6
  have h7:j * te.w+te.w≤l.length * te.w:=by
   rw[←Nat.succ_mul]
   exact uZ _ hj
  simp only[kV] at h6⊢
  rw[hc _ (by omega)]
  exact h6
end
def q22(p:qi)(s:So)(fr:Nat→Prop):Flr where
 fl:=fun b=>if p 1=some b then s.cs.length * qm.w else if p 2=some b then s.ys.length * ye.w else if p 3=some b then s.tr.length * q2n.w else if p 4=some b then s.wk.length * yq.w else 0
 mx:=fun te=>if Ty.beq te qm then s.cs.length else if Ty.beq te ye then s.ys.length else if Ty.beq te q2n then s.tr.length else if Ty.beq te yq then s.wk.length else 0
 fr:=fr
theorem zvy(p:qi)(s:So)(fr:Nat→Prop):(q22 p s fr).mx qm=s.cs.length:=by
 have e:Ty.beq qm qm=true:=by kernel_rfl
 simp only[q22,e,if_true]
theorem zwc(p:qi)(s:So)(fr:Nat→Prop):(q22 p s fr).mx ye=s.ys.length:=by
 have e1:Ty.beq ye qm=false:=by kernel_rfl
 have e:Ty.beq ye ye=true:=by kernel_rfl
 simp only[q22,e,e1,if_true,gnF,if_false]
theorem zw4(p:qi)(s:So)(fr:Nat→Prop):(q22 p s fr).mx q2n=s.tr.length:=by
 have e1:Ty.beq q2n qm=false:=by kernel_rfl
 have e2:Ty.beq q2n ye=false:=by kernel_rfl
 have e:Ty.beq q2n q2n=true:=by kernel_rfl
 simp only[q22,e,e1,e2,if_true,gnF,if_false]
theorem zwj(p:qi)(s:So)(fr:Nat→Prop):(q22 p s fr).mx yq=s.wk.length:=by
 have e1:Ty.beq yq qm=false:=by kernel_rfl
 have e2:Ty.beq yq ye=false:=by kernel_rfl
 have e3:Ty.beq yq q2n=false:=by kernel_rfl
 have e:Ty.beq yq yq=true:=by kernel_rfl
 simp only[q22,e,e1,e2,e3,if_true,gnF,if_false]
theorem zv9(m0 m1 m2 m3:Nat):flM (qyf m0 m1 m2 m3) qm=m0∧flM (qyf m0 m1 m2 m3) ye=m1∧flM (qyf m0 m1 m2 m3) q2n=m2∧flM (qyf m0 m1 m2 m3) yq=m3:=
 ⟨by show kL (m0:Int)=_;exact uY _,by show kL (m1:Int)=_;exact uY _,by show kL (m2:Int)=_;exact uY _,by show kL (m3:Int)=_;exact uY _⟩
theorem zt6(p:qi)(s:So)(fr:Nat→Prop)(te:Ty):(q22 p s fr).mx te≤flM (qyf s.cs.length s.ys.length s.tr.length s.wk.length) te:=by
 obtain⟨h1,h2,h3,h4⟩:=zv9 s.cs.length s.ys.length s.tr.length s.wk.length
 unfold q22
 simp only
 split
 ·rename_i e
  rw[(Ty.beq_iff _ _).1 e,h1]
  exact uC _
 ·split
  ·rename_i e
   rw[(Ty.beq_iff _ _).1 e,h2]
   exact uC _
  ·split
   ·rename_i e
    rw[(Ty.beq_iff _ _).1 e,h3]
    exact uC _
   ·split
    ·rename_i e
     rw[(Ty.beq_iff _ _).1 e,h4]
     exact uC _
    ·exact uO _
section
variable{A:Nat→Prop}{p:qi}{w W:World}{s:So}{v0 v1 v2 v3:Value}{fr:Nat→Prop}
theorem z6b(hinj:∀x y b,p x=some b→p y=some b→x=y):(p 1=some b→(q22 p s fr).fl b=s.cs.length * qm.w)∧(p 2=some b→(q22 p s fr).fl b=s.ys.length * ye.w)∧(p 3=some b→(q22 p s fr).fl b=s.tr.length * q2n.w)∧(p 4=some b→(q22 p s fr).fl b=s.wk.length * yq.w):=by
 have ne:∀x y,x≠y→p y=some b→¬p x=some b:=fun x y h hy hx=>h (hinj x y b hx hy)
 refine⟨fun h=>?_,fun h=>?_,fun h=>?_,fun h=>?_⟩
 ·simp only[q22,if_pos h]
 ·simp only[q22,if_neg (ne 1 2 (by decide) h),if_pos h]
 ·simp only[q22,if_neg (ne 1 3 (by decide) h),if_neg (ne 2 3 (by decide) h),if_pos h]
 ·simp only[q22,if_neg (ne 1 4 (by decide) h),if_neg (ne 2 4 (by decide) h),if_neg (ne 3 4 (by decide) h),if_pos h]
theorem z52{k:Nat}{l:List D}(h:q1g A p w dep pin E te l v)(hte:qk E=some te)(hp:p pin=some k)(h0:0<F.fl k)(hfl:F.fl k=l.length * te.w)(hmx:F.mx te=l.length)(hT:2≤l.length∨nvB te=true):∃cs cs' T te,k<w.heap.size∧w.heap[k]? =some (.cells cs T (0,0))∧qk T=some te∧F.fl k≤F.mx te * te.w∧FlT te cs.size∧w.heap[k]? =some (.cells cs' T (0,0))∧cs'.size=cs.size∧∀j,j<F.fl k→cs'[j]? =cs[j]? :=by
 have hl:0<l.length:=by
  rcases uW l.length with e|e
  ·rw[hfl,e,Nat.zero_mul] at h0
   omega
  ·exact e
 rcases h with⟨rfl,rfl⟩|⟨g,cap,cur,rfl,hg,hh,h1,h2,h3,h4,h5⟩
 ·simp at hl
 ·rw[hp] at hg
  injection hg with hg
  subst hg
  have hpos:=q3a hte
  refine⟨cur,cur,E,te,qr hh,hh,hte,by rw[hfl,hmx];exact uC _,?_,hh,rfl,fun _ _=>rfl⟩
  unfold FlT
  rw[h3]
  rcases hT with hT|hT
  ·left
   have:2 * te.w≤cap * te.w:=uZ _ (by omega)
   omega
  ·right
   refine⟨hT,?_⟩
   have:1 * te.w≤cap * te.w:=uZ _ (by omega)
   omega
theorem zs9(hinj:∀x y b,p x=some b→p y=some b→x=y)(h0:q1g A p w [] 1 29 qm (s.cs.map eC) v0)(h1:q1g A p w [] 2 87 ye (s.ys.map eY) v1)(h2:q1g A p w [] 3 71 q2n (s.tr.map eU) v2)(h3:q1g A p w [] 4 73 yq (s.wk.map eW) v3)(hc:2≤s.cs.length)(hy:2≤s.ys.length):Flo (q22 p s fr) w w:=fun k hk=>by
 obtain⟨t1,t2,t3,t4⟩:=zfd
 obtain⟨f1,f2,f3,f4⟩:=z6b (s:=s) (fr:=fr) hinj (b:=k)
 have hkk:=hk
 unfold q22 at hkk
 simp only at hkk
 split at hkk
 ·rename_i e
  exact z52 h0 t1 e hk (by rw[f1 e,uB]) (by rw[zvy,uB]) (.inl (by rw[uB];exact hc))
 ·split at hkk
  ·rename_i e
   exact z52 h1 t2 e hk (by rw[f2 e,uB]) (by rw[zwc,uB]) (.inl (by rw[uB];exact hy))
  ·split at hkk
   ·rename_i e
    exact z52 h2 t3 e hk (by rw[f3 e,uB]) (by rw[zw4,uB]) (.inr (by kernel_rfl))
   ·split at hkk
    ·rename_i e
     exact z52 h3 t4 e hk (by rw[f4 e,uB]) (by rw[zwj,uB]) (.inr (by kernel_rfl))
    ·omega
theorem zug(hinj:∀x y b,p x=some b→p y=some b→x=y)(h0:q1g A p w [] 1 29 qm (s.cs.map eC) v0)(h1:q1g A p w [] 2 87 ye (s.ys.map eY) v1)(h2:q1g A p w [] 3 71 q2n (s.tr.map eU) v2)(h3:q1g A p w [] 4 73 yq (s.wk.map eW) v3)
  (r1:yw .i64 s.ser=true)(r2:yw .i64 s.mx=true){w1:World}(hs:∀x b,p x=some b→w1.heap[b]? =w.heap[b]?)(hF:Flo (q22 p s fr) w1 W):Rd W (pinned p) (eS s) qb [v0,v1,v2,v3,.int .i64 s.ser,.int .i64 s.mx]:=by
 obtain⟨t1,t2,t3,t4⟩:=zfd
 have key:∀{pin:Nat}{E:TypeId}{te:Ty}{l:List D}{v:Value},q1g A p w [] pin E te l v→qk E=some te→zz 8 te=true→(∀b,p pin=some b→(q22 p s fr).fl b=l.length * te.w)→Rd W (pinned p) (.r l) (.row E) [v]:=fun{pin E te l v}h hte hf hfl=>by
  refine h.stay hte hf fun g cur hg hh hl=>⟨⟨pin,hg⟩,?_⟩
  have hpos:=q3a hte
  have hfg:=hfl g hg
  have h0:0<(q22 p s fr).fl g:=by
   rw[hfg]
   exact Nat.mul_pos hl hpos
  obtain⟨cs,cs',T,te',-,e1,-,-,-,e2,-,e3⟩:=hF g h0
  rw[hs _ _ hg,hh] at e1
  injection e1 with e1
  injection e1 with e1 e1'
  subst e1 e1'
  refine⟨cs',e2,fun j hj=>e3 j ?_⟩
  rw[hfg]
  exact hj
 have q0:=key h0 t1 (by kernel_rfl) fun b hb=>by rw[(z6b (fr:=fr) hinj).1 hb,uB]
 have q1:=key h1 t2 (by kernel_rfl) fun b hb=>by rw[(z6b (fr:=fr) hinj).2.1 hb,uB]
 have q2:=key h2 t3 (by kernel_rfl) fun b hb=>by rw[(z6b (fr:=fr) hinj).2.2.1 hb,uB]
 have q3:=key h3 t4 (by kernel_rfl) fun b hb=>by rw[(z6b (fr:=fr) hinj).2.2.2 hb,uB]
 exact⟨qtp,_,rfl,qs3,_,_,[v0],_,rfl,rfl,q0,_,_,[v1],_,rfl,rfl,q1,_,_,[v2],_,rfl,rfl,q2,_,_,[v3],_,rfl,rfl,q3,_,_,[_],_,rfl,rfl,⟨.i64,rfl,rfl,r1⟩,_,_,[_],_,rfl,rfl,⟨.i64,rfl,rfl,r2⟩,rfl,rfl⟩
end
theorem zmw{s:So}{c:Ce}(h:0<(yx s c).length):2≤s.cs.length∧2≤s.ys.length:=by
 have hn:q59 s c≠none:=fun e=>by
  unfold yx at h
  rw[qoo e] at h
  simp at h
 unfold q59 at hn
 split at hn
 ·rename_i h1
  split at hn
  ·rename_i h2
   obtain⟨-,a2,a3,-,a4,a5,a6⟩:=q3e.1 h1
   obtain⟨-,-,-,-,b4,b5,b6⟩:=q3e.1 h2
   have:=ql.1 a2
   have:=ql.1 a3
   refine⟨by omega,?_⟩
   rcases Nat.lt_or_ge s.ys.length 2 with hlt|hge
   ·exfalso
    have e1:(cellAt s (q2s s c).n).n.toNat=0:=by omega
    have e2:(cellAt s (q2s s (cellAt s ((q2s s c).n+1))).n).n.toNat=0:=by omega
    rw[e1] at a6
    rw[e2,a6] at b6
    simp at b6
   ·exact hge
  ·exact absurd rfl hn
 ·exact absurd rfl hn
end
variable{t:Ty}{c:Cx}{p:qi}{A A':Nat→Prop}{σ:St}{a:Act}{q:Nat→Bool}{x:AV}
section
section
variable{A A':Nat→Prop}{p:qi}{w:World}
theorem FFD.chP(hA:∀b,b<w.heap.size→A b→q7j p b→A' b)(hb:b<w.heap.size)(h:FFD A p dep b):FFD A' p dep b:=h.imp (fun h=>⟨hA b hb h.1 h.2,h.2⟩) id
theorem Rd.chP(hA:∀b,b<w.heap.size→A b→q7j p b→A' b)(h:Rd w (FFD A p dep) d t cs):Rd w (FFD A' p dep) d t cs:=Rd.mono (fun b hb hf=>hf.chP hA hb) h
theorem Fl.chP(hA:∀b,b<w.heap.size→A b→q7j p b→A' b){o:Option Nat}(h:Fl A p w dep o d t cs):Fl A' p w dep o d t cs:=by
 cases o with
 |none=>exact Rd.chP hA h
 | some pin =>
  rcases h with⟨E,te,l,v,e1,hte,e2,e3,hv⟩|h
  ·refine .inl ⟨E,te,l,v,e1,hte,e2,e3,?_⟩
   rcases hv with hv|⟨g,cap,cur,e4,hg,hh,q1,q2,q3,q4,q5⟩
   ·exact .inl hv
   ·refine .inr ⟨g,cap,cur,e4,hg,hh,q1,q2,q3,q4,fun i hi=>?_⟩
    obtain⟨vs,hr1,hd⟩:=q5 i hi
    exact⟨vs,hr1,Rd.chP hA hd⟩
  ·exact .inr h
theorem Fls.chP(hA:∀b,b<w.heap.size→A b→q7j p b→A' b){own:List (Nat×Nat)}:∀{ds:List D}{j:Nat}{fs:List Ty}{cs:List Value},Fls A p w dep own j ds fs cs→Fls A' p w dep own j ds fs cs
 |[],_,_,_,h=>h
 |d::ds,j,fs,cs,⟨t,ts,c1,c2,e1,e2,h1,h2⟩=>⟨t,ts,c1,c2,e1,e2,Fl.chP hA h1,Fls.chP hA h2⟩
theorem Con.chP(hA:∀b,b<w.heap.size→A b→q7j p b→A' b){own:List (Nat×Nat)}(h:Con A p w d t own dep cs):Con A' p w d t own dep cs:=by
 unfold Con at h⊢
 split
 ·obtain⟨fs,ds,hf,e,h⟩:=h
  exact⟨fs,ds,hf,e,Fls.chP hA h⟩
 ·rename_i hne
  split at h
  ·rename_i T;exact absurd rfl (hne T)
  ·exact Fl.chP hA h
end
mutual
theorem AV.chP{w:World}(hA:∀b,b<w.heap.size→c.A b→q7j p b→A' b):∀(x:AV)(v:Value),x.pd c p w v→x.pd {c with A:=A'} p w v
 |.any,v,h=>h
 |.undef,v,h=>h
 |.nilS,v,h=>h
 |.nb x neg,v,h=>h
 |.nilP,v,h=>h
 |.ref k q o t,v,h=>h
 |.v x t own dep,v,⟨cs,hp,hc⟩=>⟨cs,hp,hc.chP hA⟩
 |.rd x t dep wr,v,⟨b,o,cs,e,hf,hr,h0,hd,hw⟩=>by
  refine⟨b,o,cs,e,hf.chP hA (qdp hr h0),hr,h0,Rd.chP hA hd,?_⟩
  match wr,hw with
  |none,_=>trivial
  |some (pin,i,pt,q,te),hw=>exact hw
 |.tup l,v,⟨vs,e,h⟩=>⟨vs,e,z49 hA l vs h⟩
 |.gd cs a,v,h=>⟨fun hc=>AV.chP hA a v (h.1 hc),h.2⟩
 |.fn f l,v,⟨vs,e,h⟩=>⟨vs,e,z49 hA l vs h⟩
 |.bx k T a,v,⟨g,u,hg,e,hh,h⟩=>⟨g,u,hg,e,hh,AV.chP hA a u h⟩
 |.ax k T n a,v,⟨g,u,hg,e,hh,hn,h⟩=>⟨g,u,hg,e,hh,hn,AV.chP hA a (.agg u) h⟩
 |.sn t a,v,⟨e,h⟩=>⟨e,AV.chP hA a v h⟩
 |.lv k t,v,h=>h
 |.ar E xs dep,v,⟨te,cs,e1,e2,h3,h⟩=>⟨te,cs,e1,e2,h3,fun j d hj=>Rd.chP hA (h j d hj)⟩
 |.pt pin i E a,v,⟨h1,h⟩=>⟨h1,AV.chP hA a v h⟩
 |.fr T a,v,⟨g,u,ha,hf,e,hh,h⟩=>⟨g,u,hA g (qr hh) ha hf,hf,e,hh,AV.chP hA a u h⟩
 |.ff f T1 x1 t1 T2 x2 t2 dep,v,⟨g,cs1,cs2,e,ha,hb,hfr,hg,hg2,r1,r2⟩=>⟨g,cs1,cs2,e,⟨hA g (qr hg) ha.1 ha.2,ha.2⟩,⟨hA (g+1) (qr hg2) hb.1 hb.2,hb.2⟩,hfr,hg,hg2,Rd.mono (fun b hb h=>⟨h.1.imp (fun y=>⟨hA b hb y.1 y.2,y.2⟩) id,h.2⟩) r1,Rd.mono (fun b hb h=>⟨h.1.imp (fun y=>⟨hA b hb y.1 y.2,y.2⟩) id,h.2⟩) r2⟩
theorem z49{w:World}(hA:∀b,b<w.heap.size→c.A b→q7j p b→A' b):∀(l:List AV)(vs:List Value),pds c p w l vs→pds {c with A:=A'} p w l vs
 |[],vs,h=>h
 |a::l,vs,⟨v,r,e,ha,hl⟩=>⟨v,r,e,AV.chP hA a v ha,z49 hA l r hl⟩
end
theorem SF.chP{w:World}(hA:∀b,b<w.heap.size→c.A b→q7j p b→A' b)(h:SF c σ p w a):SF {c with A:=A'} σ p w a:=by
 refine⟨fun t x hx=>?_,fun k e he=>?_⟩
 ·obtain⟨v,h1,h2⟩:=h.t t x hx
  exact⟨v,h1,AV.chP hA x v h2⟩
 ·obtain⟨g,cs,T,hg,hh,hty,hc⟩:=h.m k e he
  exact⟨g,cs,T,hg,hh,hty,hc.chP hA⟩
def z9f(q:Nat→Bool)(l:List (Nat×AV)):Bool:=l.all fun e=>e.2.pins.all (fun x=> !q x)&&e.2.keys.all (fun x=> !q x)
def za4(q:Nat→Bool)(l:List (Nat×Ent)):Bool:=l.all fun e=> !q (e.1 * 16)&&e.2.pins.all (fun x=> !q x)
theorem qzw{l:List (Nat×AV)}(h:z9f q l=true){t:Nat}(hx:lkA l t=some x):(∀y∈x.pins,q y=false)∧∀y∈x.keys,q y=false:=by
 have:=uF.1 h _ (qx hx)
 simp only[gnB,uF,uU] at this
 exact this
theorem z0d{l:List (Nat×Ent)}(h:za4 q l=true){k:Nat}{e:Ent}(hx:lkA l k=some e):q (k * 16)=false∧∀y∈e.pins,q y=false:=by
 have:=uF.1 h _ (qx hx)
 simp only[gnB,uF,uU] at this
 exact this
def qd4(A:Nat→Prop)(q:Nat→Bool)(p:qi)(b:Nat):Prop:=A b∧∀x,q x=true→p x≠some b
def q8w(q:Nat→Bool)(p p':qi):qi:=fun x=>if q x then p x else p' x
section
variable{c:Cx}{F F':Flr}{p p':qi}{w0 w w':World}{S0:Nat→Prop}{q:Nat→Bool}{σ:St}{a a':Act}
theorem q6x{x:Nat}(h:unP q p x=some b):q x=false∧p x=some b:=by
 unfold unP at h
 split at h
 ·cases h
 ·rename_i hq
  exact⟨by simpa using hq,h⟩
theorem zkn{x:Nat}(hq:q x=false)(h:p x=some b):unP q p x=some b:=by
 unfold unP
 rw[hq]
 exact h
theorem qu7(h:Bs A F w0 S0 p w)(hflo:Flo F' w w)(hfr:∀b,F.fr b→F'.fr b):Bs (qd4 A q p) F' w (pinned (unP q p)) (unP q p) w:=
 ⟨fun x y b hx hy=>h.inj x y b (q6x hx).2 (q6x hy).2,fun x b hx=>h.bd x b (q6x hx).2,But.refl _ _,fun x b hx=>.inl ⟨x,hx⟩,fun b hb=>by
  have:=h.but.size
  refine⟨⟨(h.new b (by omega)).1,fun x _ hx=>?_⟩,hfr b (h.new b (by omega)).2⟩
  have:=h.bd x b hx
  omega,fun x b hx=>⟨h.pa x b (q6x hx).2,fun y hy hyb=>by
   obtain⟨h1,h2⟩:=q6x hx
   rw[h.inj y x b hyb h2,h1] at hy
   cases hy⟩,fun x b hx=>h.obj x b (q6x hx).2,hflo⟩
theorem qsh(h:SF c σ p w a)(h1:z9f q σ.t=true)(h2:za4 q σ.m=true):SF {c with A:=qd4 c.A q p} σ (unP q p) w a:=by
 have h':=SF.chP (A':=qd4 c.A q p) (fun b _ hA hf=>⟨hA,fun x _ hx=>hf x hx⟩) h
 have hst:Stab (qd4 c.A q p) q q p w (unP q p) w:=⟨uC _,fun b _ _ hf=>⟨rfl,fun x hx=>hf x (q6x hx).2⟩,fun x b hq hx=>zkn hq hx,fun _ _ _ _=>rfl⟩
 refine⟨fun t x hx=>?_,fun k e he=>?_⟩
 ·obtain⟨v,e1,e2⟩:=h'.t t x hx
  obtain⟨o1,o2⟩:=qzw h1 hx
  exact⟨v,e1,AV.kept hst x v (fun y hy=>⟨o1 y hy,o1 y hy⟩) o2 e2⟩
 ·obtain⟨o1,o2⟩:=z0d h2 he
  exact q1j.kept hst (fun y hy=>⟨o2 y hy,o2 y hy⟩) ⟨o1,o1⟩ (h'.m k e he)
theorem qdq(h:Bs c.A F w0 S0 p w)(h':Bs (qd4 c.A q p) F' w (pinned (unP q p)) p' w')(hb:b<w.heap.size)(hn:∀x,q x=false→p x≠some b):w'.heap[b]? =w.heap[b]? :=
 h'.but.block b hb fun hp=>by
  obtain⟨x,hx⟩:=hp
  exact hn x (q6x hx).1 (q6x hx).2
theorem qan(h:Bs c.A F w0 S0 p w)(h':Bs (qd4 c.A q p) F' w (pinned (unP q p)) p' w'){x:Nat}(hx:p' x=some b):(∃y,q y=false∧p y=some b)∨w.heap.size≤b:=by
 rcases h'.pin x b hx with⟨y,hy⟩|h
 ·exact .inl ⟨y,q6x hy⟩
 ·exact .inr h
theorem z4m(h:Bs c.A F w0 S0 p w)(h':Bs (qd4 c.A q p) F' w (pinned (unP q p)) p' w')(hflo:Flo F w0 w'):Bs c.A F w0 S0 (q8w q p p') w':=by
 have hsz:=h'.but.size
 refine⟨fun x y b hx hy=>?_,fun x b hx=>?_,?_,fun x b hx=>?_,fun b hb=>h.new b hb,fun x b hx=>?_,fun x b hx=>?_,hflo⟩
 ·have mix:∀u v,q u=true→p u=some b→p' v=some b→False:=fun u v hu h1 h2=>by
   rcases qan h h' h2 with⟨z,hz,hzb⟩|hlt
   ·rw[h.inj u z b h1 hzb,hz] at hu
    cases hu
   ·have:=h.bd u b h1
    omega
  unfold q8w at hx hy
  cases hqx:q x<;>cases hqy:q y<;>rw[hqx] at hx<;>rw[hqy] at hy
  ·exact h'.inj x y b hx hy
  ·exact(mix y x hqy hy hx).elim
  ·exact(mix x y hqx hx hy).elim
  ·exact h.inj x y b hx hy
 ·unfold q8w at hx
  split at hx
  ·exact uL (h.bd x b hx) hsz
  ·exact h'.bd x b hx
 ·exact h.but.trans h'.but fun b hS _=>by
   obtain⟨x,hx⟩:=hS
   exact h.pin x b (q6x hx).2
 ·unfold q8w at hx
  split at hx
  ·exact h.pin x b hx
  ·rcases qan h h' hx with⟨z,hz,hzb⟩|hlt
   ·exact h.pin z b hzb
   ·have:=h.but.size
    exact .inr (by omega)
 ·unfold q8w at hx
  split at hx
  ·exact h.pa x b hx
  ·exact(h'.pa x b hx).1
 ·unfold q8w at hx
  split at hx
  ·rename_i hq
   refine(h.obj x b hx).same (qdq h h' (h.bd x b hx) fun y hy hyb=>?_)
   rw[h.inj x y b hx hyb,hy] at hq
   cases hq
  ·exact h'.obj x b hx
theorem z3f(h:Bs c.A F w0 S0 p w)(h':Bs (qd4 c.A q p) F' w (pinned (unP q p)) p' w')(hf:SF {c with A:=qd4 c.A q p} σ p' w' a)(h1:z9f q σ.t=true)(h2:za4 q σ.m=true):SF c σ (q8w q p p') w' a:=by
 have hst:Stab (qd4 c.A q p) q q p' w' (q8w q p p') w':=⟨uC _,fun b _ hA hf=>⟨rfl,fun x hx=>by
  unfold q8w at hx
  split at hx
  ·rename_i hq
   exact hA.2 x hq hx
  ·exact hf x hx⟩,fun x b hq hx=>by
  unfold q8w
  rw[hq]
  exact hx,fun _ _ _ _=>rfl⟩
 have hf':SF {c with A:=qd4 c.A q p} σ (q8w q p p') w' a:=by
  refine⟨fun t x hx=>?_,fun k e he=>?_⟩
  ·obtain⟨v,e1,e2⟩:=hf.t t x hx
   obtain⟨o1,o2⟩:=qzw h1 hx
   exact⟨v,e1,AV.kept hst x v (fun y hy=>⟨o1 y hy,o1 y hy⟩) o2 e2⟩
  ·obtain⟨o1,o2⟩:=z0d h2 he
   exact q1j.kept hst (fun y hy=>⟨o2 y hy,o2 y hy⟩) ⟨o1,o1⟩ (hf.m k e he)
 exact SF.chP (c:={c with A:=qd4 c.A q p}) (A':=c.A) (fun b _ hA _=>hA.1) hf'
theorem z0e(h:Bs c.A F w0 S0 p w)(h':Bs (qd4 c.A q p) F' w (pinned (unP q p)) p' w'):Stab c.A (fun x=> !q x) (fun x=> !q x) p w (q8w q p p') w':=
 ⟨h'.but.size,fun b hb hA hf=>⟨qdq h h' hb fun x _=>hf x,fun x hx=>by
  unfold q8w at hx
  split at hx
  ·exact hf x hx
  ·rcases qan h h' hx with⟨z,hz,hzb⟩|hlt
   ·exact hf z hzb
   ·omega⟩,fun x b hq hx=>by
  unfold q8w
  have:q x=true:=by simpa using hq
  rw[this]
  exact hx,fun x b hq hx=>qdq h h' (h.bd x b hx) fun y hy hyb=>by
  have:q x=true:=by simpa using hq
  rw[h.inj x y b hx hyb,hy] at this
  cases this⟩
theorem qvq(h:Bs c.A F w0 S0 p w)(h':Bs (qd4 c.A q p) F' w (pinned (unP q p)) p' w'){k:Nat}{e:Ent}(he:q1j c p w k e)(h0:q (k * 16)=true)(h1:e.pins.all q=true):q1j c (q8w q p p') w' k e:=
 q1j.kept (z0e h h') (fun y hy=>by have:=uF.1 h1 y hy;simp[this]) (by simp[h0]) he
theorem z30(h:Bs c.A F w0 S0 p w)(h':Bs (qd4 c.A q p) F' w (pinned (unP q p)) p' w')(hx:x.pd c p w v)(h1:x.pins.all q=true)(h2:x.keys.all q=true):x.pd c (q8w q p p') w' v:=
 AV.kept (z0e h h') x v (fun y hy=>by have:=uF.1 h1 y hy;simp[this]) (fun y hy=>by have:=uF.1 h2 y hy;simp[this]) hx
end
def zj5(y x:AV):Bool:=AV.beq y x||(match y,x with
  |_,.any=>true
  |.sn s z,.sn s' .any=>uX s s'
  |.sn s z,x=>AV.beq z x
  |_,_=>false)
def zgo(σ τ:St):Bool:=(τ.t.all fun e=>match lkA σ.t e.1 with
 |some y=>zj5 y e.2
 |none=>false)&&τ.m.all fun e=>match lkA σ.m e.1 with
 |some y=>Ent.beq y e.2
 |none=>false
theorem zgc{w:World}{y:AV}(h:zj5 y x=true)(hy:y.pd c p w v):x.pd c p w v:=by
 unfold zj5 at h
 simp only[uM] at h
 rcases h with h|h
 ·have:=AV.beq_ok _ _ h
  subst this
  exact hy
 ·split at h
  ·trivial
  ·obtain⟨e,-⟩:=hy
   have:=gnN h
   subst this
   exact⟨e,trivial⟩
  ·have:=AV.beq_ok _ _ h
   subst this
   exact hy.2
  ·cases h
theorem SF.weak{τ:St}{w:World}(h:SF c σ p w a)(hw:zgo σ τ=true):SF c τ p w a:=by
 unfold zgo at hw
 simp only[gnB] at hw
 refine⟨fun t x hx=>?_,fun k e he=>?_⟩
 ·have h1:=uF.1 hw.1 _ (qx hx)
  simp only at h1
  split at h1
  ·rename_i y hy
   obtain⟨v,e1,e2⟩:=h.t t y hy
   exact⟨v,e1,zgc h1 e2⟩
  ·cases h1
 ·have h1:=uF.1 hw.2 _ (qx he)
  simp only at h1
  split at h1
  ·rename_i y hy
   have:=Ent.beq_ok h1
   subst this
   exact h.m k y hy
  ·cases h1
def zu4(z:Nat)(l:List (Nat×AV)):Bool:=l.all fun e=>Nat.blt e.1 z&&(match e.2 with
 |.sn t _=>uX t e.1
 |_=>false)
theorem SF.snapA{w:World}{a':Act}(h:SF c σ p w a)(hs:zu4 a'.tmps.size σ.t=true)(hsn:∀t,t<a'.tmps.size→a'.tmps[t]? =some (c.snap t)):SF c σ p w a':=by
 refine⟨fun t x hx=>?_,h.m⟩
 have h1:=uF.1 hs _ (qx hx)
 simp only[gnB,Nat.blt_eq] at h1
 obtain⟨h1,h2⟩:=h1
 split at h2
 ·rename_i s y
  have:=gnN h2
  subst this
  obtain⟨v,-,e2,e3⟩:=h.t _ _ hx
  subst e2
  exact⟨_,hsn _ h1,rfl,e3⟩
 ·cases h2
end
variable{nm:ByteArray}{S1:Nat→Prop}{W:World}
section
open Go.RowKit Go.Shelf
def q0z(s:So):Tbl:=qyf s.cs.length s.ys.length s.tr.length s.wk.length
theorem z4x(s:So):q0r (q0z s):=by
 unfold q0z qyf
 refine .cons (q1x _ q3c _ _) (.cons (q1x _ q3c _ _) (.cons (q1x _ q3c _ _) (.cons (q1x _ q3c _ _) (.cons q4r (.cons qfl (.cons q7a (.cons qlx .nil)))))))
theorem z4q(s:So):qa3 (q0z s)=true:=rfl
theorem zpr{s:So}{x wv:Ce}{s1:So}(hv:qw s1=true):qe (q0z s) 7 [eS s1,eT (zh6 nm),.r [.a [.i 0,eC x],.a [.i 1,eC wv]]]=some [eC (yj wv s1 ⟨nm,x⟩).1,.r ((yj wv s1 ⟨nm,x⟩).2.1.map eV),.i (yj wv s1 ⟨nm,x⟩).2.2.1,eS (yj wv s1 ⟨nm,x⟩).2.2.2]:=by
 have e:dVs (.r [.a [.i 0,eC x],.a [.i 1,eC wv]])=zp0 x wv:=by
  show[dV (eV ⟨0,x⟩),dV (eV ⟨1,wv⟩)]=_
  rw[quj,quj]
  rfl
 have ht:qe (q0z s) 7=qsz:=rfl
 rw[ht]
 unfold qsz
 simp only[qy,ju,e]
 rw[if_pos hv]
 rfl
theorem zpc{s:So}:qe (q0z s) 6 [.s z7y,.r [eT (q54 nm),eT (vaT 0),eT (vaT 1)]]=some [eT (zh6 nm)]:=by
 have ht:qe (q0z s) 6=gSL qgp:=rfl
 rw[ht]
 unfold gSL
 show some [eT (qgp z7y [dT (eT (q54 nm)),dT (eT (vaT 0)),dT (eT (vaT 1))])]=_
 rw[ju,ju,ju]
 rfl
section
variable{wk:Wk}{s0 sk:So}{o:List Ce}{dw:D}{y:At}{R:List D→Prop}{B:Nat→List D→Prop}
abbrev q9l(wk:Wk)(sk:So)(o:List Ce)(dw:D)(y:At):List D:=[eW wk,eS sk,.r (o.map eC),.i 0,dw,.s y.name,eC y.val]
theorem ztq(hv:qw sk=true)(hg:qbw s0 sk)(he:(yj wk.val sk y).2.2.1=0)(hR:R [eS (yj wk.val sk y).2.2.2,eC (yj wk.val sk y).1]):zrd.go (qe (q0z s0)) R (q9l wk sk o dw y) B:=by
 have hp:=zpr (s:=s0) (nm:=y.name) (x:=y.val) (wv:=wk.val) hv
 have hst:=zpc (s:=s0) (nm:=y.name)
 have hN:(⟨#[97,116,116,114,95,104,111,111,107]⟩:ByteArray)=z7y:=rfl
 have t0:qe (q0z s0) 0 []=some [.i s0.cs.length]:=rfl
 have t1:qe (q0z s0) 1 []=some [.i s0.ys.length]:=rfl
 have t2:qe (q0z s0) 2 []=some [.i s0.tr.length]:=rfl
 have t3:qe (q0z s0) 3 []=some [.i s0.wk.length]:=rfl
 have t4:qe (q0z s0) 4 [.s y.name]=some [eT (q54 y.name)]:=rfl
 have t5:qe (q0z s0) 5 [.i 0]=some [eT (vaT 0)]:=rfl
 have t6:qe (q0z s0) 5 [.i 1]=some [eT (vaT 1)]:=rfl
 obtain⟨g1,g2,-,g3,g4,-⟩:=hg
 have g3:s0.tr.length≤sk.tr.length:=by rw[g3];exact uC _
 have g4:s0.wk.length≤sk.wk.length:=by rw[g4];exact uC _
 unfold zrd
 simp only[qj,zd,q4n,q06,X.says,X.ev,X.evs,evl,uJ,uK,hN,t0,t1,t2,t3,t4,t5,t6,hst,hp,zna,kB,kA,q5i,he,qim,decide_true,Bool.not_true,gnF,false_implies,true_and,and_true,qf0,z9d,z3w,qxs,q35,uB,yh,gnD,kW,forall_const]
 exact⟨⟨g1,g2,g3,g4⟩,hR⟩
theorem zvb(hv:qw sk=true)(hg:qbw s0 sk)(he:¬(yj wk.val sk y).2.2.1=0)(hR:R [eS (yj wk.val sk y).2.2.2,.r [],.i (yj wk.val sk y).2.2.1]):zsl.go (qe (q0z s0)) R (q9l wk sk o dw y) B:=by
 have hp:=zpr (s:=s0) (nm:=y.name) (x:=y.val) (wv:=wk.val) hv
 have hst:=zpc (s:=s0) (nm:=y.name)
 have hN:(⟨#[97,116,116,114,95,104,111,111,107]⟩:ByteArray)=z7y:=rfl
 have t0:qe (q0z s0) 0 []=some [.i s0.cs.length]:=rfl
 have t1:qe (q0z s0) 1 []=some [.i s0.ys.length]:=rfl
 have t2:qe (q0z s0) 2 []=some [.i s0.tr.length]:=rfl
 have t3:qe (q0z s0) 3 []=some [.i s0.wk.length]:=rfl
 have t4:qe (q0z s0) 4 [.s y.name]=some [eT (q54 y.name)]:=rfl
 have t5:qe (q0z s0) 5 [.i 0]=some [eT (vaT 0)]:=rfl
 have t6:qe (q0z s0) 5 [.i 1]=some [eT (vaT 1)]:=rfl
 obtain⟨g1,g2,-,g3,g4,-⟩:=hg
 have g3:s0.tr.length≤sk.tr.length:=by rw[g3];exact uC _
 have g4:s0.wk.length≤sk.wk.length:=by rw[g4];exact uC _
 unfold zsl
 simp only[qj,zd,q4n,q06,X.says,X.ev,X.evs,evl,uJ,uK,hN,t0,t1,t2,t3,t4,t5,t6,hst,hp,zna,kB,kA,q5i,he,qim,decide_false,Bool.not_false,gnF,Bool.true_eq_false,false_implies,true_and,and_true,qf0,z9d,z3w,qxs,q35,uB,yh,gnD,kW,forall_const]
 exact⟨⟨g1,g2,g3,g4⟩,hR⟩
end
def wkA(A:Nat→Prop)(n8 N1:Nat)(b:Nat):Prop:=A b∧(b<n8∨N1≤b)
def wkS(p2:qi)(w9:World)(n8 m:Nat)(b:Nat):Prop:=pinned p2 b∨q4j w9 (n8+1) m b
def q0h(c2:Cx)(p2:qi)(s0:So)(n8:Nat)(W1:World)(a9:Act):Cx:={c2 with A:=wkA c2.A n8 W1.heap.size,F:=q22 p2 s0 c2.F.fr,snap:=fun t=>a9.tmps.getD t Go.undef}
structure WkH(wk:Wk)(s0:So)(o0:List Ce)(l:List At)(k:Nat)(sk:So)(o:List Ce):Prop where
 run:q03 wk.val sk o (l.drop k)=q03 wk.val s0 o0 l
 ok:qdy wk.val sk (l.drop k)=true
 grow:qbw s0 sk
 len:o.length≤o0.length+k
def WkG(p2:qi)(s0:So)(p:qi):Prop:=∀b,p 33=some b→(q22 p2 s0 (fun _=>True)).fl b=0
def WkI(c2:Cx)(p2:qi)(w9 W1:World)(a9:Act)(m n8:Nat)(wk:Wk)(s0:So)(x0:Ce)(o0:List Ce)(dw:D)(k N:Nat)(W:World):Prop:=w9.heap.size+2≤N∧N≤W.heap.size∧∃p3 sk o,WkH wk s0 o0 (yx s0 x0) k sk o∧Bs (q0h c2 p2 s0 n8 W1 a9).A (q0h c2 p2 s0 n8 W1 a9).F W1 (wkS p2 w9 n8 m) p3 W∧SF ((q0h c2 p2 s0 n8 W1 a9).at (qe (q0z s0)) [eW wk,eS sk,.r (o.map eC),.i 0,dw]) z3c p3 W a9∧(∀y b,p3 y=some b→b<N)∧WkG p2 s0 p3
def WkM(c2:Cx)(p2:qi)(w9 W1:World)(a9:Act)(m n8:Nat)(wk:Wk)(s0:So)(x0:Ce)(o0:List Ce)(dw:D)(k N B:Nat)(a1:Act)(W:World):Prop:=∃y p4 sk o,(yx s0 x0)[k]? =some y∧WkH wk s0 o0 (yx s0 x0) k sk o∧Bs (q0h c2 p2 s0 n8 W1 a9).A (q0h c2 p2 s0 n8 W1 a9).F W1 (wkS p2 w9 n8 m) p4 W∧SF ((q0h c2 p2 s0 n8 W1 a9).at (qe (q0z s0)) (q9l wk sk o dw y)) z95 p4 W a1∧a1.defers=[]∧a1.tmps.size=69∧w9.heap.size+2≤N∧N≤B∧B≤W.heap.size∧(∀q b,p4 q=some b→b<N∨B≤b)∧WkG p2 s0 p4
def WkJ(c2:Cx)(p2:qi)(w9 W1:World)(a9:Act)(m n8:Nat)(wk:Wk)(s0:So)(x0:Ce)(o0:List Ce)(W:World):Prop:=¬(q03 wk.val s0 o0 (yx s0 x0)).2.2=0∧∃p3 l,Bs (q0h c2 p2 s0 n8 W1 a9).A (q0h c2 p2 s0 n8 W1 a9).F W1 (wkS p2 w9 n8 m) p3 W∧SF ((q0h c2 p2 s0 n8 W1 a9).at (qe (q0z s0)) (l++[eS (q03 wk.val s0 o0 (yx s0 x0)).1,.r [],.i (q03 wk.val s0 o0 (yx s0 x0)).2.2])) zq0 p3 W a9∧l.length=7
theorem qrv{w' W1:World}{bc m:Nat}{W':World}{p3:qi}(hS:∀b,q4j w' bc m b→S1 b)(hA:∀b,A' b→¬q4j w' bc m b)(hF:∀b,0<F.fl b→¬q4j w' bc m b)(h:Bs A' F W1 S1 p3 W)(hb:But (q4j w' bc m) W W'):Bs A' F W1 S1 p3 W'∧Stab A' no no p3 W p3 W':=
 ⟨⟨h.inj,fun x b hx=>uL (h.bd x b hx) hb.size,h.but.trans hb fun i hi _=>.inl (hS i hi),h.pin,h.new,h.pa,fun x b hx=>(h.obj x b hx).same (hb.block b (h.bd x b hx) (hA b (h.pa x b hx))),h.flo.same fun k hk hfl=>hb.block k hk (hF k hfl)⟩,
  hb.size,fun b hlt ha hf=>⟨hb.block b hlt (hA b ha),hf⟩,fun x b _ hx=>hx,fun x b _ hx=>hb.block b (h.bd x b hx) (hA b (h.pa x b hx))⟩
theorem zqi{s:So}{fr:Nat→Prop}(h:0<(q22 p s fr).fl b):∃x,p x=some b:=by
 unfold q22 at h
 simp only at h
 split at h
 ·exact⟨_,‹_›⟩
 ·split at h
  ·exact⟨_,‹_›⟩
  ·split at h
   ·exact⟨_,‹_›⟩
   ·split at h
    ·exact⟨_,‹_›⟩
    ·omega
end
section
open Go.RowKit Go.Shelf
theorem qp5(wv:Ce)(s:So)(o:List Ce)(x:At)(l:List At):q03 wv s o (x::l)=if(yj wv s x).2.2.1=0 then q03 wv (yj wv s x).2.2.2 (o++[(yj wv s x).1]) l else((yj wv s x).2.2.2,[],(yj wv s x).2.2.1):=rfl
def qC(x:Nat):Bool:=uX x 32||uX x 33
def qO(x:Nat):Bool:= !(uX x 32||(uX x 33||uX x 160))
theorem ztp{x:Nat}(h:qO x=false):x=32∨x=33∨x=160:=by
 unfold qO at h
 simp only[kO,uM] at h
 exact h.imp gnN fun h=>h.imp gnN gnN
section
variable{c2:Cx}{p2:qi}{w9 W1:World}{a9:Act}{m n8:Nat}{s0:So}{x0:Ce}{wk:Wk}{o0:List Ce}{dw:D}{v0 v1 v2 v3:Value}
theorem zn0:q3l [] [] 7 (q2t [] [] [] 7 z4e)=z4e:=by kernel_rfl
theorem zi9{w0:World}(h:Flo F w0 W){g:Nat}(hg:W.heap[g]? =some (.cells cur T (0,0)))(hT:qk T=some t)(hs:cur.size=t.w)(hnv:nvB t=false):F.fl g=0:=by
 rcases uW (F.fl g) with e|e
 ·exact e
 ·have hp:=q3a hT
  have:=(FlW.var h hg hT hs (fun h=>by rw[hnv] at h;cases h) #[] e cur T hg).1
  simp at this
  omega
theorem zv4(hlo:c2.lo=1)(hz:a9.tmps.size=69)(h9:w9.heap.size=n8+2)(hinj:∀x y b,p2 x=some b→p2 y=some b→x=y)(hp2:∀x b,p2 x=some b→b<n8)
  (h0:q1g c2.A p2 w9 [] 1 29 qm (s0.cs.map eC) v0)(h1:q1g c2.A p2 w9 [] 2 87 ye (s0.ys.map eY) v1)(h2:q1g c2.A p2 w9 [] 3 71 q2n (s0.tr.map eU) v2)(h3:q1g c2.A p2 w9 [] 4 73 yq (s0.wk.map eW) v3)(r1:yw .i64 s0.ser=true)(r2:yw .i64 s0.mx=true)
  (hg:∃T,w9.heap[n8]? =some (.cells [v0,v1,v2,v3,.int .i64 s0.ser,.int .i64 s0.mx].toArray T (0,0)))(hbut:But Nil w9 W1)(hm1:w9.heap.size+2≤m)(hm2:m<W1.heap.size)(hob:o0.length+(yx s0 x0).length+1≤8796093021952):
  ItOk w9 a9 3 n8 (n8+1) m 36 37 zi5 z8p [v0,v1,v2,v3,.int .i64 s0.ser,.int .i64 s0.mx] s0 x0 (WkI c2 p2 w9 W1 a9 m n8 wk s0 x0 o0 dw) (WkM c2 p2 w9 W1 a9 m n8 wk s0 x0 o0 dw) (WkJ c2 p2 w9 W1 a9 m n8 wk s0 x0 o0):=by
 obtain⟨T,hg⟩:=hg
 have hw1:=hbut.size
 have hAh:∀b,(q0h c2 p2 s0 n8 W1 a9).A b→¬q4j w9 (n8+1) m b:=fun b h=>by
  have h:wkA c2.A n8 W1.heap.size b:=h
  obtain⟨-,h⟩:=h
  unfold q4j
  omega
 have hSh:∀b,q4j w9 (n8+1) m b→wkS p2 w9 n8 m b:=fun b h=>.inr h
 have hFh:∀b,0<(q0h c2 p2 s0 n8 W1 a9).F.fl b→¬q4j w9 (n8+1) m b:=fun b h=>by
  obtain⟨x,hx⟩:=zqi h
  have:=hp2 x b hx
  unfold q4j
  omega
 have hfm:∀te,(q0h c2 p2 s0 n8 W1 a9).F.mx te≤flM (q0z s0) te:=fun te=>zt6 p2 s0 c2.F.fr te
 have hcl:(q0h c2 p2 s0 n8 W1 a9).lo=1:=hlo
 have hfl0:∀{b:Nat}{W:World},Flo (q0h c2 p2 s0 n8 W1 a9).F W1 W→W1.heap.size≤b→(q22 p2 s0 (fun _=>True)).fl b=0:=fun{b W}hF hb=>by
  rcases uW ((q22 p2 s0 (fun _=>True)).fl b) with e|e
  ·exact e
  ·obtain⟨cs,cs',T,te,hlt,-⟩:=hF b e
   omega
 refine⟨?_,?_,?_,?_,?_,?_⟩
 ·-- the copy is readable
  rintro k N W⟨h4,h5,p3,sk,o,hh,hb3,hf3,hp3,hG⟩
  refine⟨h4,h5,⟨T,?_⟩,?_⟩
  ·refine(hb3.but.block n8 (by omega) ?_).trans ((hbut.block n8 (by omega) (fun h=>h)).trans hg)
   rintro(⟨x,hx⟩|h)
   ·have:=hp2 x n8 hx
    omega
   ·unfold q4j at h
    omega
  ·refine Rd.mono (fun b _ hb=>?_) (zug hinj h0 h1 h2 h3 r1 r2 (w1:=W1) (W:=W) (fr:=c2.F.fr) (fun x b hx=>hbut.block b (by have:=hp2 x b hx;omega) (fun h=>h)) hb3.flo)
   obtain⟨x,hx⟩:=hb
   have:=hp2 x b hx
   exact⟨by omega,by omega⟩
 ·rintro k N W W'⟨h4,h5,p3,sk,o,hh,hb3,hf3,hp3,hG⟩hb
  obtain⟨q1,q2⟩:=qrv hSh hAh hFh hb3 hb
  exact⟨h4,uQ h5 hb.size,p3,sk,o,hh,q1,SF.same q2 hf3,hp3,hG⟩
 ·-- the loop's variables
  rintro k N W y hy hyo⟨h4,h5,p3,sk,o,hh,hb3,hf3,hp3,hG⟩
  have hsf:SF ((q0h c2 p2 s0 n8 W1 a9).at (qe (q0z s0)) (q9l wk sk o dw y)) ⟨qov++[(36,.v (.tok 5) .str [] []),(37,.v (.tok 6) qm [] [])],zji⟩ p3 W {tmps:=(a9.tmps.setIfInBounds 36 (.string y.name)).setIfInBounds 37 (.agg (ceL y.val).toArray),defers:=[]}:=by
   refine⟨fun t x hx=>?_,fun j e he=>?_⟩
   ·have hx:=qx hx
    have old:∀t x,lkA z3c.t t=some x→t≠36→t≠37→(∀v,x.pd ((q0h c2 p2 s0 n8 W1 a9).at (qe (q0z s0)) [eW wk,eS sk,.r (o.map eC),.i 0,dw]) p3 W v→x.pd ((q0h c2 p2 s0 n8 W1 a9).at (qe (q0z s0)) (q9l wk sk o dw y)) p3 W v)→∃v,((a9.tmps.setIfInBounds 36 (.string y.name)).setIfInBounds 37 (.agg (ceL y.val).toArray))[t]? =some v∧x.pd ((q0h c2 p2 s0 n8 W1 a9).at (qe (q0z s0)) (q9l wk sk o dw y)) p3 W v:=fun t x hl n1 n2 hpd=>by
     obtain⟨v,e1,e2⟩:=hf3.t t x hl
     exact⟨v,by rw[uD (Ne.symm n2),uD (Ne.symm n1)];exact e1,hpd v e2⟩
    simp only[qov,kC,kD,gnM] at hx
    rcases hx with⟨rfl,rfl⟩|⟨rfl,rfl⟩|⟨rfl,rfl⟩|⟨rfl,rfl⟩|⟨rfl,rfl⟩|⟨rfl,rfl⟩|⟨rfl,rfl⟩|⟨rfl,rfl⟩
    ·exact old _ _ (by kernel_rfl) (by decide) (by decide) fun v h=>h
    ·exact old _ _ (by kernel_rfl) (by decide) (by decide) fun v h=>h
    ·exact old _ _ (by kernel_rfl) (by decide) (by decide) fun v h=>h
    ·exact old _ _ (by kernel_rfl) (by decide) (by decide) fun v h=>h
    ·exact old _ _ (by kernel_rfl) (by decide) (by decide) fun v h=>h
    ·exact old _ _ (by kernel_rfl) (by decide) (by decide) fun v h=>h
    ·exact⟨.string y.name,by rw[uD (by decide),uH (by omega)],_,rfl,Con.of_rd (show Rd W _ (.s y.name) .str _ from⟨rfl,rfl,hyo.1⟩)⟩
    ·exact⟨.agg (ceL y.val).toArray,by rw[uH (by simp;omega)],ceL y.val,rfl,Con.of_rd (show Rd W _ (eC y.val) qm _ from z03 hyo.2)⟩
   ·have he:=qx he
    simp only[zji,gnM] at he
    rcases he with⟨rfl,rfl⟩|⟨rfl,rfl⟩|⟨rfl,rfl⟩|⟨rfl,rfl⟩
    ·exact hf3.m 0 _ (by kernel_rfl)
    ·exact hf3.m 2 _ (by kernel_rfl)
    ·exact hf3.m 3 _ (by kernel_rfl)
    ·exact hf3.m 6 _ (by kernel_rfl)
  have hcs:=hf3.m 2 ⟨.tok 2,yb,[(0,33)],[]⟩ (by kernel_rfl)
  obtain⟨vc,tc1,tc2⟩:=hf3.t 2 (.sn 2 (.ref 2 [] 0 yb)) (by kernel_rfl)
  have hbA:=qu7 (q:=qC) (F':=(q0h c2 p2 s0 n8 W1 a9).F) hb3 hb3.flo.anew fun _ h=>h
  have hfA:=qsh (q:=qC) (hsf.weak (τ:=zmx) (by kernel_rfl)) (by kernel_rfl) (by kernel_rfl)
  have pre:=qcf (c:={(q0h c2 p2 s0 n8 W1 a9) with A:=qd4 (q0h c2 p2 s0 n8 W1 a9).A qC p3}) (z:=69) (some (w9.heap.size+1)) 3 (z4x s0) hfm (z4q s0) [zi5] (n:=7) (ann:=q9t) (R:=fun o=>o=[]) (B:=fun _ _=>False) (ts:=[]) (ms:=[]) (kill:=[]) (σk:=z4e) (l:=q9l wk sk o dw y) (σ:=zmx) (d:=[]) (w0:=W) (S0:=pinned (unP qC p3)) (p:=unP qC p3) (Q:=fun _ _ _=>False)
   (K:=fun a1 W2=>WkM c2 p2 w9 W1 a9 m n8 wk s0 x0 o0 dw k N W.heap.size a1 W2∧KpN w9 (n8+1) m N W.heap.size W W2)
   (by
    show(q6o uA (q0z s0) q9t c2.lo 69 [zi5] 7 zmx (toN [] [] [] z4e)).go _ _ _ _
    rw[hlo]
    unfold q0z
    rw[zsk]
    rfl) rfl hbA hfA rfl (by simp;exact hz) (fun st p4 W2 a2 hR hst hb4 hf4 hd4 hz4=>?_)
  ·exact pre
  ·have hR:st=[]:=hR
   subst hR
   rw[zn0,uP] at hf4
   have hb5:=z4m hb3 hb4 (hb3.flo.trans hb4.flo)
   have hf5:=z3f (c:=(q0h c2 p2 s0 n8 W1 a9).at (qe (q0z s0)) (q9l wk sk o dw y)) (q:=qC) hb3 hb4 hf4 (by kernel_rfl) (by kernel_rfl)
   have hc5:=qvq (c:=(q0h c2 p2 s0 n8 W1 a9).at (qe (q0z s0)) (q9l wk sk o dw y)) (q:=qC) (k:=2) (e:=⟨.tok 2,yb,[(0,33)],[]⟩) hb3 hb4 hcs (by kernel_rfl) (by kernel_rfl)
   have ht5:=z30 (c:=(q0h c2 p2 s0 n8 W1 a9).at (qe (q0z s0)) (q9l wk sk o dw y)) (q:=qC) (x:=.sn 2 (.ref 2 [] 0 yb)) hb3 hb4 tc2 (by kernel_rfl) (by kernel_rfl)
   have hf6:SF ((q0h c2 p2 s0 n8 W1 a9).at (qe (q0z s0)) (q9l wk sk o dw y)) z95 (q8w qC p3 p4) W2 a2:=by
    refine⟨fun t x hx=>?_,fun j e he=>?_⟩
    ·have hx:=qx hx
     simp only[z95,qov,kC,kD,gnM] at hx
     rcases hx with⟨rfl,rfl⟩|⟨rfl,rfl⟩|⟨rfl,rfl⟩|⟨rfl,rfl⟩|⟨rfl,rfl⟩|⟨rfl,rfl⟩|⟨rfl,rfl⟩|⟨rfl,rfl⟩
     ·exact hf5.t 0 _ (by kernel_rfl)
     ·exact hf5.t 1 _ (by kernel_rfl)
     ·obtain⟨v,e1,e2,-⟩:=hf5.t 2 (.sn 2 .any) (by kernel_rfl)
      obtain⟨e3,-⟩:=id tc2
      have e4:v=vc:=e2.trans e3.symm
      exact⟨v,e1,by rw[e4];exact ht5⟩
     ·exact hf5.t 3 _ (by kernel_rfl)
     ·exact hf5.t 6 _ (by kernel_rfl)
     ·exact hf5.t 24 _ (by kernel_rfl)
     ·exact hf5.t 7 _ (by kernel_rfl)
     ·exact hf5.t 8 _ (by kernel_rfl)
    ·have he:=qx he
     simp only[z95,gnM] at he
     rcases he with⟨rfl,rfl⟩|⟨rfl,rfl⟩|⟨rfl,rfl⟩|⟨rfl,rfl⟩|⟨rfl,rfl⟩
     ·exact hf5.m 0 _ (by kernel_rfl)
     ·exact hc5
     ·exact hf5.m 3 _ (by kernel_rfl)
     ·exact hf5.m 6 _ (by kernel_rfl)
     ·exact hf5.m 8 _ (by kernel_rfl)
   refine⟨⟨y,_,sk,o,hy,hh,hb5,hf6,hd4,hz4,h4,h5,hb4.but.size,fun q b hq=>?_,fun b hb=>?_⟩,hb4.but.size,fun b hlt hb=>hb4.but.block b hlt ?_⟩
   ·unfold q8w at hq
    split at hq
    ·exact .inl (hp3 q b hq)
    ·rcases qan (q:=qC) (c:=q0h c2 p2 s0 n8 W1 a9) hb3 hb4 hq with⟨q',-,hq'⟩|h
     ·exact .inl (hp3 q' b hq')
     ·exact .inr h
   ·exact hG b hb
   ·rintro⟨q,hq⟩
    have hq:=(q6x hq).2
    rcases hb with hb|hb
    ·have:=hp3 q b hq
     omega
    ·exact hAh b (hb3.pa q b hq) hb
 ·rintro k N B a1 W W'⟨y,p4,sk,o,hy,hh,hb4,hf4,hd4,hz4,h4,h5,h6,hp4,hG⟩hb
  obtain⟨q1,q2⟩:=qrv hSh hAh hFh hb4 hb
  exact⟨y,p4,sk,o,hy,hh,q1,SF.same q2 hf4,hd4,hz4,h4,h5,uQ h6 hb.size,hp4,hG⟩
 ·-- a round
  rintro k N B a1 W hkl⟨y,p4,sk,o,hy,hh,hb4,hf4,hd4,hz4,h4,h5,h6,hp4,hG⟩
  obtain⟨hrun,hok,hgr,hlen⟩:=hh
  have hdr:(yx s0 x0).drop k=y::(yx s0 x0).drop (k+1):=by
   obtain⟨hlt,e⟩:=gnH.1 hy
   rw[kI hlt,e]
  rw[hdr] at hrun hok
  unfold qdy at hok
  simp only[gnB,uM,gnD] at hok
  obtain⟨hv,hok⟩:=hok
  have hKp:∀{W2:World}{S:Nat→Prop},But S W W2→(∀b,S b→∃q,p4 q=some b)→KpN w9 (n8+1) m N B W W2:=fun{W2 S}hbu hS=>⟨hbu.size,fun b hlt hb=>hbu.block b (by omega) fun h=>by
   obtain⟨q,hq⟩:=hS b h
   rcases hb with hb|hb
   ·have:=hp4 q b hq
    omega
   ·exact hAh b (hb4.pa q b hq) hb⟩
  by_cases he:(yj wk.val sk y).2.2.1=0
  ·-- the put succeeds
   rcases hok with hok|hok
   ·exact absurd he hok
   rw[qp5] at hrun
   rw[if_pos he] at hrun
   have hcs:=hf4.m 2 ⟨.tok 2,yb,[(0,33)],[]⟩ (by kernel_rfl)
   obtain⟨vc,tc1,tc2⟩:=hf4.t 2 (.sn 2 (.ref 2 [] 0 yb)) (by kernel_rfl)
   have hbA:=qu7 (q:=qC) (F':=(q0h c2 p2 s0 n8 W1 a9).F) hb4 hb4.flo.anew fun _ h=>h
   have hfA:=qsh (q:=qC) (hf4.weak (τ:=z4e) (by kernel_rfl)) (by kernel_rfl) (by kernel_rfl)
   rw[zd4]
   refine q2p qm0 ?_
   refine qcf (c:={(q0h c2 p2 s0 n8 W1 a9) with A:=qd4 (q0h c2 p2 s0 n8 W1 a9).A qC p4}) (z:=69) (some (w9.heap.size+1)) 3 (z4x s0) hfm (z4q s0) qm0 (n:=7) (ann:=q9t) (R:=fun q=>q=[eS (yj wk.val sk y).2.2.2,eC (yj wk.val sk y).1]) (B:=fun _ _=>False) (ts:=[]) (ms:=z9i) (kill:=[]) (σk:=zix) (l:=q9l wk sk o dw y) (σ:=z4e) (d:=[]) (w0:=W) (S0:=pinned (unP qC p4)) (p:=unP qC p4)
    (by
     show(q6o uA (q0z s0) q9t c2.lo 69 qm0 7 z4e (toN [] z9i [] zix)).go _ _ _ _
     rw[hlo]
     have e:=zq8 s0.cs.length s0.ys.length s0.tr.length s0.wk.length
     unfold q0z
     rw[e]
     exact ztq hv hgr he rfl) rfl hbA hfA hd4 hz4 (fun st p5 W2 a2 hR hst hb5 hf5 hd5 hz5=>?_)
   have hR:st=[eS (yj wk.val sk y).2.2.2,eC (yj wk.val sk y).1]:=hR
   subst hR
   rw[show q3l [] z9i 7 (q2t [] z9i [] 7 zix)=z9y from znz] at hf5
   obtain⟨l9,hl9⟩:∃l9,l9=q9l wk sk o dw y++[eS (yj wk.val sk y).2.2.2,eC (yj wk.val sk y).1]:=⟨_,rfl⟩
   have hb6:=z4m hb4 hb5 (hb4.flo.trans hb5.flo)
   have hf6:=z3f (c:=(q0h c2 p2 s0 n8 W1 a9).at (qe (q0z s0)) (q9l wk sk o dw y++[eS (yj wk.val sk y).2.2.2,eC (yj wk.val sk y).1])) (q:=qC) hb4 hb5 hf5 (by kernel_rfl) (by kernel_rfl)
   have hc6:=qvq (c:=(q0h c2 p2 s0 n8 W1 a9).at (qe (q0z s0)) (q9l wk sk o dw y)) (q:=qC) (k:=2) (e:=⟨.tok 2,yb,[(0,33)],[]⟩) hb4 hb5 hcs (by kernel_rfl) (by kernel_rfl)
   have ht6:=z30 (c:=(q0h c2 p2 s0 n8 W1 a9).at (qe (q0z s0)) (q9l wk sk o dw y)) (q:=qC) (x:=.sn 2 (.ref 2 [] 0 yb)) hb4 hb5 tc2 (by kernel_rfl) (by kernel_rfl)
   have hp6:∀q b,q8w qC p4 p5 q=some b→b<N∨B≤b:=fun q b hq=>by
    unfold q8w at hq
    split at hq
    ·exact hp4 q b hq
    ·rcases qan (q:=qC) (c:=q0h c2 p2 s0 n8 W1 a9) hb4 hb5 hq with⟨q',-,hq'⟩|h
     ·exact hp4 q' b hq'
     ·exact .inr (by omega)
   have hG6:WkG p2 s0 (q8w qC p4 p5):=fun b hb=>hG b hb
   have hbu6:KpN w9 (n8+1) m N B W W2:=hKp hb5.but fun b⟨q,hq⟩=>⟨q,(q6x hq).2⟩
   generalize hp66:q8w qC p4 p5=p6 at *
   -- the cell is appended
   obtain⟨c0,hc0⟩:∃c0:Cx,c0={(q0h c2 p2 s0 n8 W1 a9) with F:=⟨fun _=>0,fun _=>0,(q0h c2 p2 s0 n8 W1 a9).F.fr⟩}:=⟨_,rfl⟩
   have hc0A:c0.A=(q0h c2 p2 s0 n8 W1 a9).A:=by rw[hc0]
   have hF0:Flo ⟨fun _=>0,fun _=>0,(q0h c2 p2 s0 n8 W1 a9).F.fr⟩ W2 W2:=fun k h=>absurd h (kJ 0)
   have hsf:SF (c0.at (qe []) [.r (o.map eC),eC (yj wk.val sk y).1]) z5f p6 W2 a2:=by
    refine⟨fun t x hx=>?_,fun j e he=>?_⟩
    ·have hx:=qx hx
     simp only[z5f,qwg,kC,kD,gnM] at hx
     have sn:∀t z,lkA z9y.t t=some (.sn t z)→∃v,a2.tmps[t]? =some v∧(AV.sn t .any).pd (c0.at (qe []) [.r (o.map eC),eC (yj wk.val sk y).1]) p6 W2 v:=fun t z hl=>by
      obtain⟨v,e1,e2,-⟩:=hf6.t t _ hl
      exact⟨v,e1,by rw[hc0];exact e2,trivial⟩
     rcases hx with⟨rfl,rfl⟩|⟨rfl,rfl⟩|⟨rfl,rfl⟩|⟨rfl,rfl⟩|⟨rfl,rfl⟩|⟨rfl,rfl⟩|⟨rfl,rfl⟩
     ·exact sn 0 (.ref 0 [] 0 qb) (by kernel_rfl)
     ·exact sn 1 (.bx 1 41 (.ref 0 [] 0 qb)) (by kernel_rfl)
     ·obtain⟨v,e1,e2,-⟩:=hf6.t 2 (.sn 2 .any) (by kernel_rfl)
      obtain⟨e3,-⟩:=id tc2
      have e4:v=vc:=e2.trans e3.symm
      refine⟨v,e1,?_⟩
      rw[e4,hc0]
      exact ht6
     ·exact sn 3 (.ref 3 [] 0 yr) (by kernel_rfl)
     ·exact sn 6 (.ref 6 [] 0 yq) (by kernel_rfl)
     ·exact sn 24 (.v (.tok 4) q4y [(0,385)] []) (by kernel_rfl)
     ·rw[hc0]
      exact hf6.t 10 (.ref 10 [] 0 qm) (by kernel_rfl)
    ·have he:=qx he
     simp only[z5f,gnM] at he
     rcases he with⟨rfl,rfl⟩|⟨rfl,rfl⟩
     ·rw[hc0]
      exact hc6
     ·rw[hc0]
      exact hf6.m 10 ⟨.tok 8,qm,[],[]⟩ (by kernel_rfl)
   have hbB:=qu7 (q:=qO) (F':=⟨fun _=>0,fun _=>0,(q0h c2 p2 s0 n8 W1 a9).F.fr⟩) hb6 hF0 fun _ h=>h
   have hfB:=qsh (q:=qO) hsf (by kernel_rfl) (by kernel_rfl)
   have hlen2:(o.length:Int)+1≤8796093021952:=by
    have:k<(yx s0 x0).length:=hkl
    omega
   have pre:=qcf (c:={c0 with A:=qd4 c0.A qO p6}) (z:=69) (some (w9.heap.size+1)) 3 .nil (fun te=>by rw[hc0];exact uO _) rfl [zay] (n:=2) (ann:=q9t) (R:=fun q=>q=[.r ((o++[(yj wk.val sk y).1]).map eC)]) (B:=fun _ _=>False) (ts:=[]) (ms:=z92) (kill:=[]) (σk:=⟨qwg,[]⟩) (l:=[.r (o.map eC),eC (yj wk.val sk y).1]) (σ:=z5f) (d:=[]) (w0:=W2) (S0:=pinned (unP qO p6)) (p:=unP qO p6) (Q:=fun _ _ _=>False)
    (K:=fun a2 W3=>KpN w9 (n8+1) m N B W W3∧WkI c2 p2 w9 W1 a9 m n8 wk s0 x0 o0 dw (k+1) W3.heap.size W3)
    (by
     show(q6o uA [] q9t c0.lo 69 [zay] 2 z5f (toN [] z92 [] ⟨qwg,[]⟩)).go _ _ _ _
     rw[show c0.lo=1 by rw[hc0];exact hlo,zfi]
     unfold zow
     rw[qj]
     refine⟨⟨?_,trivial⟩,?_⟩
     ·show(D.b (decide ((((o.map eC).length:Nat):Int)+1≤8796093021952))).tt=true
      rw[uB,q5i,gnD]
      exact hlen2
     ·show[D.r (o.map eC++[eC (yj wk.val sk y).1])]=_
      rw[kQ]
      rfl) rfl (by rw[hc0];exact hbB) hfB hd5 hz5 (fun st p7 W3 a3 hR hst hb7 hf7 hd7 hz7=>?_)
   ·refine wpIn_mono pre fun e a3 W3 hq=>?_
    cases e with
    |normal=>exact⟨hq.1,.inl ⟨rfl,hq.2⟩⟩
    |_=>exact hq.elim
   ·have hR:st=[.r ((o++[(yj wk.val sk y).1]).map eC)]:=hR
    subst hR
    rw[show q3l [] z92 2 (q2t [] z92 [] 2 ⟨qwg,[]⟩)=zmr from znu] at hf7
    rw[hc0] at hb7
    have hb7:Bs (qd4 (q0h c2 p2 s0 n8 W1 a9).A qO p6) ⟨fun _=>0,fun _=>0,(q0h c2 p2 s0 n8 W1 a9).F.fr⟩ W2 (pinned (unP qO p6)) p7 W3:=hb7
    have hfl:∀x b,qO x=false→p6 x=some b→(q0h c2 p2 s0 n8 W1 a9).F.fl b=0:=fun x b hx hxb=>by
     rcases ztp hx with rfl|rfl|rfl
     ·obtain⟨g,cs,T,hg,hh,hT,hcon⟩:=hsf.m 2 _ (by kernel_rfl:lkA z5f.m 2=some ⟨.tok 0,yb,[(0,33)],[]⟩)
      rw[show p6 32=some g from hg] at hxb
      injection hxb with hxb
      subst hxb
      exact zi9 hb6.flo hh hT (by rw[←kM];exact hcon.len.1) (by kernel_rfl)
     ·exact hG6 b hxb
     ·obtain⟨g,cs,T,hg,hh,hT,hcon⟩:=hsf.m 10 _ (by kernel_rfl:lkA z5f.m 10=some ⟨.tok 1,qm,[],[]⟩)
      rw[show p6 160=some g from hg] at hxb
      injection hxb with hxb
      subst hxb
      exact zi9 hb6.flo hh hT (by rw[←kM];exact hcon.len.1) (by kernel_rfl)
    have hflo:Flo (q0h c2 p2 s0 n8 W1 a9).F W1 W3:=hb6.flo.same fun b hb hfb=>qdq (q:=qO) (c:=q0h c2 p2 s0 n8 W1 a9) hb6 hb7 hb fun x hx hxb=>by
     have:=hfl x b hx hxb
     omega
    have hb8:=z4m (q:=qO) (c:=q0h c2 p2 s0 n8 W1 a9) hb6 hb7 hflo
    have hf7:SF {(c0.at (qe []) ([.r (o.map eC),eC (yj wk.val sk y).1]++[.r ((o++[(yj wk.val sk y).1]).map eC)])) with A:=qd4 c0.A qO p6} zmr p7 W3 a3:=hf7
    have hf8:=z3f (c:=c0.at (qe []) ([.r (o.map eC),eC (yj wk.val sk y).1]++[.r ((o++[(yj wk.val sk y).1]).map eC)])) (q:=qO) (F:=(q0h c2 p2 s0 n8 W1 a9).F) (w0:=W1) (S0:=wkS p2 w9 n8 m) (w:=W2) (p:=p6) (by rw[hc0];exact hb6) (by rw[hc0];exact hb7) hf7 (by kernel_rfl) (by kernel_rfl)
    -- what was set aside
    have back:∀(x:AV)(v:Value),x.pd ((q0h c2 p2 s0 n8 W1 a9).at (qe (q0z s0)) (q9l wk sk o dw y++[eS (yj wk.val sk y).2.2.2,eC (yj wk.val sk y).1])) p6 W2 v→x.pins.all qO=true→x.keys.all qO=true→x.pd ((q0h c2 p2 s0 n8 W1 a9).at (qe (q0z s0)) (q9l wk sk o dw y++[eS (yj wk.val sk y).2.2.2,eC (yj wk.val sk y).1])) (q8w qO p6 p7) W3 v:=fun x v hx h1 h2=>z30 (c:=((q0h c2 p2 s0 n8 W1 a9).at (qe (q0z s0)) (q9l wk sk o dw y++[eS (yj wk.val sk y).2.2.2,eC (yj wk.val sk y).1]))) (q:=qO) hb6 hb7 hx h1 h2
    have backE:∀(j:Nat)(e:Ent),q1j ((q0h c2 p2 s0 n8 W1 a9).at (qe (q0z s0)) (q9l wk sk o dw y++[eS (yj wk.val sk y).2.2.2,eC (yj wk.val sk y).1])) p6 W2 j e→qO (j * 16)=true→e.pins.all qO=true→q1j ((q0h c2 p2 s0 n8 W1 a9).at (qe (q0z s0)) (q9l wk sk o dw y++[eS (yj wk.val sk y).2.2.2,eC (yj wk.val sk y).1])) (q8w qO p6 p7) W3 j e:=fun j e hx h1 h2=>qvq (c:=((q0h c2 p2 s0 n8 W1 a9).at (qe (q0z s0)) (q9l wk sk o dw y++[eS (yj wk.val sk y).2.2.2,eC (yj wk.val sk y).1]))) (q:=qO) hb6 hb7 hx h1 h2
    have ha9:∀t,t<69→a9.tmps[t]? =some ((q0h c2 p2 s0 n8 W1 a9).snap t):=fun t ht=>by
     show _=some (a9.tmps.getD t Go.undef)
     rw[uG,kG (by omega)]
     rfl
    have hfin:SF ((q0h c2 p2 s0 n8 W1 a9).at (qe (q0z s0)) [eW wk,eS (yj wk.val sk y).2.2.2,.r ((o++[(yj wk.val sk y).1]).map eC),.i 0,dw]) z3c (q8w qO p6 p7) W3 a9:=by
     refine⟨fun t x hx=>?_,fun j e he=>?_⟩
     ·have hx:=qx hx
      have old:∀t z,lkA z9y.t t=some (.sn t z)→t<69→z.pins.all qO=true→z.keys.all qO=true→∃v,a9.tmps[t]? =some v∧(AV.sn t z).pd ((q0h c2 p2 s0 n8 W1 a9).at (qe (q0z s0)) (q9l wk sk o dw y++[eS (yj wk.val sk y).2.2.2,eC (yj wk.val sk y).1])) (q8w qO p6 p7) W3 v:=fun t z hl ht h1 h2=>by
       obtain⟨v,e1,e2⟩:=hf6.t t _ hl
       obtain⟨e3,-⟩:=id e2
       have e3:v=(q0h c2 p2 s0 n8 W1 a9).snap t:=e3
       exact⟨v,by rw[e3];exact ha9 t ht,back _ _ e2 h1 h2⟩
      simp only[z3c,qov,gnM] at hx
      rcases hx with⟨rfl,rfl⟩|⟨rfl,rfl⟩|⟨rfl,rfl⟩|⟨rfl,rfl⟩|⟨rfl,rfl⟩|⟨rfl,rfl⟩
      ·exact old 0 (.ref 0 [] 0 qb) (by kernel_rfl) (by decide) (by kernel_rfl) (by kernel_rfl)
      ·exact old 1 (.bx 1 41 (.ref 0 [] 0 qb)) (by kernel_rfl) (by decide) (by kernel_rfl) (by kernel_rfl)
      ·obtain⟨v,e1,e2⟩:=hf8.t 2 (.sn 2 (.ref 2 [] 0 yb)) (by kernel_rfl)
       rw[hc0] at e2
       obtain⟨e3,-⟩:=id e2
       have e3:v=(q0h c2 p2 s0 n8 W1 a9).snap 2:=e3
       exact⟨v,by rw[e3];exact ha9 2 (by decide),e2⟩
      ·exact old 3 (.ref 3 [] 0 yr) (by kernel_rfl) (by decide) (by kernel_rfl) (by kernel_rfl)
      ·exact old 6 (.ref 6 [] 0 yq) (by kernel_rfl) (by decide) (by kernel_rfl) (by kernel_rfl)
      ·exact old 24 (.v (.tok 4) q4y [(0,385)] []) (by kernel_rfl) (by decide) (by kernel_rfl) (by kernel_rfl)
     ·have he:=qx he
      simp only[z3c,zji,gnM] at he
      rcases he with⟨rfl,rfl⟩|⟨rfl,rfl⟩|⟨rfl,rfl⟩|⟨rfl,rfl⟩
      ·exact backE 0 _ (hf6.m 0 _ (by kernel_rfl:lkA z9y.m 0=some ⟨.tok 7,qb,qq 0 qb,[]⟩)) (by kernel_rfl) (by kernel_rfl)
      ·have:=hf8.m 2 _ (by kernel_rfl:lkA zmr.m 2=some ⟨.tok 2,yb,[(0,33)],[]⟩)
       rw[hc0] at this
       exact this
      ·exact backE 3 _ (hf6.m 3 _ (by kernel_rfl:lkA z9y.m 3=some ⟨.tok 3,yr,[],[]⟩)) (by kernel_rfl) (by kernel_rfl)
      ·exact backE 6 _ (hf6.m 6 _ (by kernel_rfl:lkA z9y.m 6=some ⟨.tok 0,yq,[],[]⟩)) (by kernel_rfl) (by kernel_rfl)
    refine⟨⟨by have h1:=hbu6.1;have h2:=hb7.but.size;omega,fun b hlt hb=>?_⟩,by have h1:=hbu6.1;have h2:=hb7.but.size;omega,uC _,_,_,_,⟨hrun,hok,hgr.trans (z5z hv),by simp;omega⟩,hb8,hfin,fun x b hx=>hb8.bd x b hx,fun b hb=>?_⟩
    ·have h1:=hbu6.1
     refine(hb7.but.block b (by omega) ?_).trans (hbu6.2 b hlt hb)
     rintro⟨q,hq⟩
     have hq:=(q6x hq).2
     rcases hb with hb|hb
     ·have:=hp6 q b hq
      omega
     ·exact hAh b (hb6.pa q b hq) hb
    ·have hb:p7 33=some b:=hb
     rcases qan (q:=qO) (c:=q0h c2 p2 s0 n8 W1 a9) hb6 hb7 hb with⟨x,hx,hxb⟩|hlt
     ·exact hfl x b hx hxb
     ·refine hfl0 hflo ?_
      have:=hb6.but.size
      omega
  ·-- the put fails
   rw[qp5] at hrun
   rw[if_neg he] at hrun
   rw[zd4]
   refine q2p qm0 ?_
   refine qbd (c:=q0h c2 p2 s0 n8 W1 a9) (z:=69) (some (w9.heap.size+1)) 3 (z4x s0) hfm (z4q s0) qm0 (n:=7) (ann:=q9t) (R:=fun q=>q=[eS (yj wk.val sk y).2.2.2,.r [],.i (yj wk.val sk y).2.2.1]) (B:=fun _ _=>False) (d:=[]) (l:=q9l wk sk o dw y) (σ:=z95) (k:=zsi) (by
     show(q6o uA (q0z s0) q9t c2.lo 69 qm0 7 z95 zsi).go _ _ _ _
     rw[hlo]
     have e:=zss s0.cs.length s0.ys.length s0.tr.length s0.wk.length
     unfold q0z
     rw[e]
     exact zvb hv hgr he rfl) rfl hb4.anew hf4 hd4 hz4 fun n' r σ' l' B' p' w' a' hl' hpre hgo hb' hf' hd' hz'=>?_
   cases r with
   |normal=>exact hgo.elim
   |exit i=>exact hgo.elim
   | ret =>
    obtain⟨st,p5,hR,-,hb5,hf5⟩:=qls (n':=n') (c:=q0h c2 p2 s0 n8 W1 a9) hgo hpre rfl hb' hf'
    have hR:st=[eS (yj wk.val sk y).2.2.2,.r [],.i (yj wk.val sk y).2.2.1]:=hR
    subst hR
    rw[show q3l [] zj7 7 (q2t [] zj7 [] 7 zr5)=zq0 from zkd] at hf5
    refine⟨hKp hb5.but fun b h=>h,.inr ⟨rfl,?_⟩⟩
    unfold WkJ
    rw[←hrun]
    exact⟨he,p5,q9l wk sk o dw y,hb4.comp hb5,hf5.snapA (by rw[hz];kernel_rfl) fun t ht=>by
     show _=some (a9.tmps.getD t Go.undef)
     rw[uG,kG ht]
     rfl,rfl⟩
 ·rintro W W'⟨he,p3,l,hb3,hf3,hl⟩hb
  obtain⟨q1,q2⟩:=qrv hSh hAh hFh hb3 hb
  exact⟨he,p3,l,q1,SF.same q2 hf3,hl⟩
end
end
variable{ops:Array Oper}{rest:List Oper}{y:Operand}{Q:Exit→Act→World→Prop}
section
open Go.RowKit Go.Shelf
section
variable{w:World}{a:Act}{o:Oper}{v u:Value}
theorem zk7{Q:Act→Prop}(hg:o.guard=none)(h:(execOp a.eval o).run uA w=.ok (.value v) w)(hk:wpStill uA ops w Q rest (a.put o.dst v)):wpStill uA ops w Q (o::rest) a:=by
 unfold wpStill
 rw[if_pos (by simp[Region.wanted,hg])]
 unfold Oper.still
 rw[h]
 exact⟨rfl,hk⟩
theorem qon{t:Nat}(h:a.tmps[t]? =some v):a.eval (.tmp t)=v:=by
 show a.tmps.getD t undef=v
 rw[uG,h]
 rfl
theorem qgk{k t:Nat}(h:k≠t):(a.put (some k) v).tmps[t]? =a.tmps[t]? :=by
 simp only[Act.put]
 rw[uD h]
theorem z0n{k:Nat}(h:k<a.tmps.size):(a.put (some k) v).tmps[k]? =some v:=by
 simp only[Act.put]
 rw[Array.getElem?_setIfInBounds_self,if_pos h]
theorem qa0{k:Option Nat}:(a.put k v).tmps.size=a.tmps.size:=by
 cases k<;>simp[Act.put]
theorem z19{k:Option Nat}:(a.put k v).defers=a.defers:=by
 cases k<;>simp[Act.put]
theorem z8s(heq:o.op=.load T y)(hy:a.eval y=u)(hr:(Instr.loadAt T u).run uA w=.ok v w):(execOp a.eval o).run uA w=.ok (.value v) w:=by
 subst hy
 generalize a.eval=r at *
 simp[execOp,heq,hr]
theorem znp{j:Nat}(heq:o.op=.fieldAddr T y j)(hy:a.eval y=u)(hr:(Instr.fieldAt T u j).run uA w=.ok v w):(execOp a.eval o).run uA w=.ok (.value v) w:=by
 subst hy
 generalize a.eval=r at *
 simp[execOp,heq,hr]
theorem ztv{ad:Addr}(heq:o.op=.nilCheck y)(hy:a.eval y=.pointer (some ad)):(execOp a.eval o).run uA w=.ok (.value (.pointer (some ad))) w:=by
 generalize a.eval=r at *
 simp[execOp,heq,hy]
end
section
variable{w:World}{a:Act}{g1 gs g6:Nat}{v0 v1 v2 v3 v4 v5 u0 u1 u2 u3 u4:Value}{T1 T T6:TypeId}{d d6:D}{F0 F6:Nat→Prop}
set_option maxHeartbeats 1000000 in
theorem zuh(hz:a.tmps.size=69)(e1:a.tmps[1]? =some (.pointer (some ⟨g1,0,none⟩)))(hg1:w.heap[g1]? =some (.cells #[.pointer (some ⟨gs,0,none⟩)] T1 (0,0)))(hgs:w.heap[gs]? =some (.cells #[v0,v1,v2,v3,v4,v5] T (0,0)))(rd:Rd w F0 d qb [v0,v1,v2,v3,v4,v5])
  (e6:a.tmps[6]? =some (.pointer (some ⟨g6,0,none⟩)))(hg6:w.heap[g6]? =some (.cells #[u0,u1,u2,u3,u4] T6 (0,0)))(rd6:Rd w F6 d6 qm [u1,u2])
  (hk:∀a',a'.defers=a.defers→a'.tmps.size=69→(∀t,t<30→a'.tmps[t]? =a.tmps[t]?)→a'.tmps[35]? =some (.func (.func 94) #[] #[ptV w.heap.size,ptV (w.heap.size+1)])→
   Q .normal a' ((w.drew.alloc (.cells #[v0,v1,v2,v3,v4,v5] 27)).alloc (.cells #[u1,u2] 29))):wkY.wp uA Q a w:=by
 rw[zke]
 refine wp_region_still_tail 5 (by kernel_rfl) (by kernel_rfl) ?_
 generalize zj9.toArray=ops
 show wpStill uA ops w.drew (fun a'=>wpList uA ops Q (zj9.drop 5) a' w.drew) (zj9.take 5) a
 simp only[zj9,List.take_succ_cons,List.take_zero,List.drop_succ_cons,kT]
 refine zk7 rfl (z8s (v:=.pointer (some ⟨gs,0,none⟩)) rfl (qon e1) (qdk (by kernel_rfl) (show w.drew.heap[g1]? =_ from hg1))) ?_
 refine zk7 rfl (ztv (ad:=⟨gs,0,none⟩) rfl (qon (z0n (by omega)))) ?_
 obtain⟨va,hva,hpa⟩:=q98 (w:=w.drew) (F:=F0) (T:=27) (t:=qb) (by kernel_rfl) (b:=gs) (o:=0) (cs:=[v0,v1,v2,v3,v4,v5]) (fun i v hv=>by
  rw[qdz (show w.drew.heap[gs]? =_ from hgs),kV]
  simpa using hv) (d:=d) (Rd.keeps (w:=w) (w':=w.drew) (F:=F0) (F':=F0) (fun b o h ho=>⟨ho,h⟩) _ rd)
 have hpa:va=.agg #[v0,v1,v2,v3,v4,v5]:=hpa
 subst hpa
 refine zk7 rfl (z8s rfl (qon (z0n (by rw[qa0];omega))) hva) ?_
 refine zk7 rfl (znp (v:=.pointer (some ⟨g6,1,none⟩)) (u:=.pointer (some ⟨g6,0,none⟩)) rfl (qon (by
  rw[qgk (by decide),qgk (by decide),qgk (by decide)]
  exact e6)) (by
  have h:=qap (w:=w.drew) (T:=73) (S:=match yq with|.st S=>S|_=>0) (by kernel_rfl) (fs:=[.int .i64,qm,qm]) (by kernel_rfl) (j:=1) (t:=qm) rfl g6 0
  exact h)) ?_
 obtain⟨vb,hvb,hpb⟩:=q98 (w:=w.drew) (F:=F6) (T:=29) (t:=qm) (by kernel_rfl) (b:=g6) (o:=1) (cs:=[u1,u2]) (fun i v hv=>by
  rw[qdz (show w.drew.heap[g6]? =_ from hg6)]
  rcases i with _|_|i
  ·exact hv
  ·exact hv
  ·cases hv) (d:=d6) (Rd.keeps (w:=w) (w':=w.drew) (F:=F6) (F':=F6) (fun b o h ho=>⟨ho,h⟩) _ rd6)
 have hpb:vb=.agg #[u1,u2]:=hpb
 subst hpb
 refine zk7 rfl (z8s rfl (qon (z0n (by rw[qa0,qa0,qa0];omega))) hvb) ?_
 refine wpStill_nil ?_
 -- the call
 obtain⟨a5,ha5⟩:∃a5:Act,a5=((((a.put (some 30) (.pointer (some ⟨gs,0,none⟩))).put (some 31) (.pointer (some ⟨gs,0,none⟩))).put (some 32) (.agg #[v0,v1,v2,v3,v4,v5])).put (some 33) (.pointer (some ⟨g6,1,none⟩))).put (some 34) (.agg #[u1,u2]):=⟨_,rfl⟩
 have h32:a5.eval (.tmp 32)=.agg #[v0,v1,v2,v3,v4,v5]:=qon (by
  rw[ha5,qgk (by decide),qgk (by decide),z0n (by rw[qa0,qa0];omega)])
 have h34:a5.eval (.tmp 34)=.agg #[u1,u2]:=qon (by
  rw[ha5,z0n (by rw[qa0,qa0,qa0,qa0];omega)])
 have h5z:a5.tmps.size=69:=by rw[ha5,qa0,qa0,qa0,qa0,qa0];exact hz
 have h5d:a5.defers=a.defers:=by rw[ha5,z19,z19,z19,z19,z19]
 have h5t:∀t,t<30→a5.tmps[t]? =a.tmps[t]? :=fun t ht=>by
  rw[ha5,qgk (by omega),qgk (by omega),qgk (by omega),qgk (by omega),qgk (by omega)]
 show wpList uA ops Q _ _ w.drew
 rw[show((((a.put (some 30) (.pointer (some ⟨gs,0,none⟩))).put (some 31) (.pointer (some ⟨gs,0,none⟩))).put (some 32) (.agg #[v0,v1,v2,v3,v4,v5])).put (some 33) (.pointer (some ⟨g6,1,none⟩))).put (some 34) (.agg #[u1,u2])=a5 from ha5.symm]
 unfold wpList
 rw[if_pos (by simp[Region.wanted])]
 refine .inl ?_
 unfold Oper.wp
 rw[show(execOp a5.eval _).run uA w.drew=.ok (.enter 63 #[.agg #[v0,v1,v2,v3,v4,v5],.agg #[u1,u2]]) w.drew by
  have hen:=z7h (63,94,27,29) (by simp[z0k]) #[.agg #[v0,v1,v2,v3,v4,v5],.agg #[u1,u2]] w.drew
  have hfv:a5.eval (.func 63)=.func (.func 63) #[] #[]:=rfl
  generalize a5.eval=r at *
  simp[execOp,resolve,Deferred.ofValue,hfv,invoke,h32,h34,hen]]
 show Calls uA 63 _ w.drew _
 refine(zcy w.drew v0 v1 v2 v3 v4 v5 u1 u2).mono ?_
 rintro e w'⟨rfl,rfl⟩
 show wpList uA ops Q [] (a5.put (some 35) _) _
 refine hk _ (by rw[z19];exact h5d) (by rw[qa0];exact h5z) (fun t ht=>by rw[qgk (by omega)];exact h5t t ht) (z0n (by omega))
end
end
section
open Go.RowKit Go.Shelf
theorem zuj{w:World}{F:Nat→Prop}{k:Wk}(h:Rd w F (eW k) yq cs):cs=[.int .i64 k.ser,.int .i64 k.att.t,.int .i64 k.att.n,.int .i64 k.val.t,.int .i64 k.val.n]∧Rd w F (eC k.att) qm [.int .i64 k.att.t,.int .i64 k.att.n]∧k.att.ok:=by
 have hfl:flds (match yq with|.st S=>S|_=>0)=some [.int .i64,qm,qm]:=by kernel_rfl
 obtain⟨l,e,hF⟩:=Ins.of_rdS hfl h
 injection e with e
 subst e
 obtain⟨d,l',c1,c2,e1,rfl,h1,hG⟩:=Ins.of_rdF hF
 obtain⟨d2,l2,c3,c4,e2,rfl,h2,hH⟩:=Ins.of_rdF hG
 obtain⟨d3,l3,c5,c6,e3,rfl,h3,hI⟩:=Ins.of_rdF hH
 obtain⟨rfl,rfl⟩:=Ins.of_rdN hI
 injection e1 with e1 e1'
 subst e1 e1'
 injection e2 with e2 e2'
 subst e2 e2'
 injection e3 with e3 _
 subst e3
 obtain⟨n1,-,q1,rfl⟩:=Ins.of_rdI h1
 injection q1 with q1
 subst q1
 have hok:=zcm h2
 obtain rfl:=qzo h2
 obtain rfl:=qzo h3
 exact⟨rfl,h2,hok⟩
noncomputable def zvp:Nat:=match wkF with
 |.rangeFunc _ _ _ (.block i _)=>i
 |_=>0
theorem zsh:wkF=.rangeFunc (.tmp 35) #[36,37] zi5 (.block zvp z8p):=by kernel_rfl
theorem ItOk.blk{w:World}{n bs bc m:Nat}{ti tx:Tmp}{assign body:Code}{css:List Value}{s:So}{c0:Ce}{I:Nat→Nat→World→Prop}{M:Nat→Nat→Nat→Act→World→Prop}{J:World→Prop}(h:ItOk w a n bs bc m ti tx assign body css s c0 I M J)(i:Nat):ItOk w a n bs bc m ti tx assign (.block i body) css s c0 I M J:=
 ⟨h.rd,h.step,h.assign,h.mstep,fun k N B a1 W hk hM=>wpIn_block (wpIn_mono (h.body k N B a1 W hk hM) fun e a w hq=>by
  rcases hq with⟨h1,⟨rfl,h2⟩|⟨rfl,h2⟩⟩
  ·exact⟨h1,.inl ⟨rfl,h2⟩⟩
  ·exact⟨h1,.inr ⟨rfl,h2⟩⟩),h.stop⟩
section
variable{c2:Cx}{p8:qi}{w8:World}{a8:Act}{s sk:So}{ws kk:D}{o:List Ce}{wk:Wk}{i2:Nat}
set_option maxHeartbeats 2000000 in
theorem zi0(hlo:c2.lo=1)(hfz:∀te,c2.F.mx te=0)(hb:Bs c2.A c2.F w8 (pinned p8) p8 w8)(hf:SF (c2.at (qe q78) [eS s,ws,kk,eS sk,.r (o.map eC),.i 0,eS sk,.r (o.map eC),.i 0,eW wk]) zo6 p8 w8 a8)(hz:a8.tmps.size=69)(hok:qdy wk.val sk (yx sk wk.att)=true)(hob:o.length+(yx sk wk.att).length+1≤8796093021952)(so:sk.ok)
  (hN:∀A3 p' W' a' D,(∀b,A3 b→c2.A b)→¬A3 D→w8.heap.size≤D→W'.heap[D]? =some (.deferred (some []))→a'.defers=qx0 D::a8.defers→a'.tmps.size=69→(∀b,b<w8.heap.size→¬pinned p8 b→W'.heap[b]? =w8.heap[b]?)→Bs c2.A c2.F w8 (pinned p8) p' W'→Bs A3 c2.F W' (pinned p') p' W'→
   (q03 wk.val sk o (yx sk wk.att)).2.2=0→SF (({c2 with A:=A3}:Cx).at (qe q78) [eS s,ws,kk,eS (q03 wk.val sk o (yx sk wk.att)).1,.r ((q03 wk.val sk o (yx sk wk.att)).2.1.map eC),.i 0]) q73 p' W' a'→(q03 wk.val sk o (yx sk wk.att)).2.1.length≤o.length+(yx sk wk.att).length→Q .normal a' W')
  (hR:∀A3 p' W' a' D,(∀b,A3 b→c2.A b)→¬A3 D→w8.heap.size≤D→W'.heap[D]? =some (.deferred (some []))→a'.defers=qx0 D::a8.defers→a'.tmps.size=69→(∀b,b<w8.heap.size→¬pinned p8 b→W'.heap[b]? =w8.heap[b]?)→Bs c2.A c2.F w8 (pinned p8) p' W'→Bs A3 c2.F W' (pinned p') p' W'→
   ¬(q03 wk.val sk o (yx sk wk.att)).2.2=0→SF (({c2 with A:=A3}:Cx).at (qe q78) [eS s,eS (q03 wk.val sk o (yx sk wk.att)).1,.r [],.i (q03 wk.val sk o (yx sk wk.att)).2.2]) wkE p' W' a'→Q .ret a' W'):
  (Code.seq wkY (.block i2 wkF)).wpIn (FR none) 5 uA Q a8 w8:=by
 -- what is known before the copies
 obtain⟨g1',t1,g1,u1,⟨hp1,-⟩,rfl,hg1,gs',hgs',rfl,-⟩:=hf.t 1 (.bx 1 41 (.ref 0 [] 0 qb)) (by kernel_rfl)
 obtain⟨gs,cs,T,hgs,hh,hT,hcon⟩:=hf.m 0 ⟨.tok 6,qb,qq 0 qb,[]⟩ (by kernel_rfl)
 have hcon:Con c2.A p8 w8 (eS sk) qb (qq 0 qb) [] cs.toList:=hcon
 have hgs':p8 (0 * 16)=some gs':=hgs'
 rw[hgs] at hgs'
 injection hgs' with hgs'
 subst hgs'
 obtain⟨v0,v1,v2,v3,ecs,q0,q1,q2,q3,r1,r2⟩:=z97 hcon
 obtain⟨cs⟩:=cs
 have ecs:cs=_:=ecs
 subst ecs
 have rd0:Rd w8 (FFD c2.A p8 ([]++(qq 0 qb).map (·.2))) (eS sk) qb [v0,v1,v2,v3,.int .i64 sk.ser,.int .i64 sk.mx]:=Con.rd hcon (fun x hx=>List.mem_append_left _ hx) (fun x hx=>List.mem_append_right _ hx)
 obtain⟨g6',t6,g6,hp6,rfl,-⟩:=hf.t 6 (.ref 6 [] 0 yq) (by kernel_rfl)
 obtain⟨gw,csw,Tw,hgw,hhw,hTw,hcw⟩:=hf.m 6 ⟨.tok 9,yq,[],[]⟩ (by kernel_rfl)
 have hp6:p8 (6 * 16)=some g6:=hp6
 rw[hp6] at hgw
 injection hgw with hgw
 subst hgw
 have rdw:Rd w8 (FFD c2.A p8 []) (eW wk) yq csw.toList:=Con.rd (show Con c2.A p8 w8 (eW wk) yq [] [] csw.toList from hcw) (fun _ h=>h) (fun _ h=>nomatch h)
 obtain⟨ecw,rda,wo⟩:=zuj rdw
 obtain⟨csw⟩:=csw
 have ecw:csw=_:=ecw
 subst ecw
 refine wpIn_seq ((wpIn_wide (n:=5)).2 (zuh hz t1 hg1 hh rd0 t6 hhw rda fun a9 hd9 hz9 ht9 h35=>?_))
 obtain⟨w9,hw9⟩:∃w9,w9=((w8.drew.alloc (.cells #[v0,v1,v2,v3,.int .i64 sk.ser,.int .i64 sk.mx] 27)).alloc (.cells #[.int .i64 wk.att.t,.int .i64 wk.att.n] 29)):=⟨_,rfl⟩
 rw[←hw9]
 have h9s:w9.heap.size=w8.heap.size+2:=by rw[hw9];simp
 have hb9:But Nil w8 w9:=by rw[hw9];exact(((But.refl _ _).drew).alloc _).alloc _
 have h9a:w9.heap[w8.heap.size]? =some (.cells #[v0,v1,v2,v3,.int .i64 sk.ser,.int .i64 sk.mx] 27 (0,0)):=by rw[hw9];exact q30 (q04 rfl)
 have h9b:w9.heap[w8.heap.size+1]? =some (.cells #[.int .i64 wk.att.t,.int .i64 wk.att.n] 29 (0,0)):=by rw[hw9];exact q04 (by simp)
 clear hw9
 show(Code.block i2 wkF).wpIn (FR none) 5 uA Q a9 w9
 refine wpIn_block ?_
 rw[zsh]
 obtain⟨r,hr⟩:∃r,r=q03 wk.val sk o (yx sk wk.att):=⟨_,rfl⟩
 rw[←hr] at hN hR
 have rd9:Rd w9 (fun b=>b≠w8.heap.size+1) (eS sk) qb [v0,v1,v2,v3,.int .i64 sk.ser,.int .i64 sk.mx]:=Rd.keeps (fun b o _ ho=>⟨(hb9.block b (uE.1 ho).1 (fun h=>h)).trans ho,by have:b<w8.heap.size:=(uE.1 ho).1;omega⟩) _ rd0
 refine zio (nn:=5) (bs:=w8.heap.size) (bc:=w8.heap.size+1) (css:=[v0,v1,v2,v3,.int .i64 sk.ser,.int .i64 sk.mx]) (s:=sk) (c0:=wk.att) (by omega) (qon h35) (by omega) ⟨_,h9a⟩ rd9 so ⟨_,by kernel_rfl,h9b⟩ wo fun m W1 hbut hm1 hm2=>?_
 have hw1:=hbut.size
 have hbut8:But Nil w8 W1:=hb9.trans_nil hbut
 have hp8:∀x b,p8 x=some b→b<w8.heap.size:=hb.bd
 -- the facts at the first round
 have hst:Stab (wkA c2.A w8.heap.size W1.heap.size) no no p8 w8 p8 W1:=⟨hbut8.size,fun b hlt _ hfr=>⟨hbut8.block b hlt fun h=>h,hfr⟩,fun _ _ _ h=>h,fun x b _ hx=>hbut8.block b (hp8 x b hx) fun h=>h⟩
 have hf1:SF (({(c2.at (qe q78) [eS s,ws,kk,eS sk,.r (o.map eC),.i 0,eS sk,.r (o.map eC),.i 0,eW wk]) with A:=wkA c2.A w8.heap.size W1.heap.size}:Cx)) zo6 p8 W1 a8:=SF.same hst (SF.chP (A':=wkA c2.A w8.heap.size W1.heap.size) (fun b hb hA _=>⟨hA,.inl hb⟩) hf)
 have sn9:∀t v,t<30→a8.tmps[t]? =some v→a9.tmps[t]? =some v∧v=a9.tmps.getD t Go.undef:=fun t v ht h=>by
  have h':=(ht9 t ht).trans h
  refine⟨h',?_⟩
  rw[uG,h']
  rfl
 have hf0:SF ((q0h c2 p8 sk w8.heap.size W1 a9).at (qe (q0z sk)) [eW wk,eS sk,.r (o.map eC),.i 0,ws]) z3c p8 W1 a9:=by
  refine⟨fun t x hx=>?_,fun j e he=>?_⟩
  ·have hx:=qx hx
   simp only[z3c,qov,gnM] at hx
   rcases hx with⟨rfl,rfl⟩|⟨rfl,rfl⟩|⟨rfl,rfl⟩|⟨rfl,rfl⟩|⟨rfl,rfl⟩|⟨rfl,rfl⟩
   ·obtain⟨v,e1,e2⟩:=hf1.t 0 (.ref 0 [] 0 qb) (by kernel_rfl)
    obtain⟨e3,e4⟩:=sn9 0 v (by decide) e1
    exact⟨v,e3,e4,e2⟩
   ·obtain⟨v,e1,e2⟩:=hf1.t 1 (.bx 1 41 (.ref 0 [] 0 qb)) (by kernel_rfl)
    obtain⟨e3,e4⟩:=sn9 1 v (by decide) e1
    exact⟨v,e3,e4,e2⟩
   ·obtain⟨v,e1,e2⟩:=hf1.t 2 (.ref 2 [] 0 yb) (by kernel_rfl)
    obtain⟨e3,e4⟩:=sn9 2 v (by decide) e1
    exact⟨v,e3,e4,e2⟩
   ·obtain⟨v,e1,-,e2⟩:=hf1.t 3 (.sn (VB+3) (.ref 3 [] 0 yr)) (by kernel_rfl)
    obtain⟨e3,e4⟩:=sn9 3 v (by decide) e1
    exact⟨v,e3,e4,e2⟩
   ·obtain⟨v,e1,e2⟩:=hf1.t 6 (.ref 6 [] 0 yq) (by kernel_rfl)
    obtain⟨e3,e4⟩:=sn9 6 v (by decide) e1
    exact⟨v,e3,e4,e2⟩
   ·obtain⟨v,e1,e2⟩:=hf1.t 24 (.v (.tok 1) q4y [(0,385)] []) (by kernel_rfl)
    obtain⟨e3,e4⟩:=sn9 24 v (by decide) e1
    exact⟨v,e3,e4,e2⟩
  ·have he:=qx he
   simp only[z3c,zji,gnM] at he
   rcases he with⟨rfl,rfl⟩|⟨rfl,rfl⟩|⟨rfl,rfl⟩|⟨rfl,rfl⟩
   ·exact hf1.m 0 ⟨.tok 6,qb,qq 0 qb,[]⟩ (by kernel_rfl)
   ·exact hf1.m 2 ⟨.tok 7,yb,[(0,33)],[]⟩ (by kernel_rfl)
   ·exact hf1.m 3 ⟨.tok 8,yr,[],[]⟩ (by kernel_rfl)
   ·exact hf1.m 6 ⟨.tok 9,yq,[],[]⟩ (by kernel_rfl)
 have hbs:∀F:Flr,F.fr=c2.F.fr→Flo F W1 W1→Bs (wkA c2.A w8.heap.size W1.heap.size) F W1 (wkS p8 w9 w8.heap.size m) p8 W1:=fun F hfr hF=>
  ⟨hb.inj,fun x b hx=>uL (hp8 x b hx) hbut8.size,But.refl _ _,fun x b hx=>.inl (.inl ⟨x,hx⟩),fun b hb'=>⟨⟨(hb.new b (by omega)).1,.inr hb'⟩,by rw[hfr];exact(hb.new b (by omega)).2⟩,fun x b hx=>⟨hb.pa x b hx,.inl (hp8 x b hx)⟩,fun x b hx=>(hb.obj x b hx).same (hbut8.block b (hp8 x b hx) fun h=>h),hF⟩
 have hAD:¬wkA c2.A w8.heap.size W1.heap.size w9.heap.size:=fun h=>by
  have:=h.2
  omega
 have hSp:∀b,wkS p8 w9 w8.heap.size m b→pinned p8 b∨w8.heap.size≤b:=by
  rintro b(h|h)
  ·exact .inl h
  ·unfold q4j at h
   exact .inr (by omega)
 -- the end of the range
 have hval:∀{W:World}{p3:qi}{t:Nat}{x:X}{l:List D},t<30→lkA zo6.t t=some (.v x (.int .i64) [] [])→(x.ev (evl (qe q78) [eS s,ws,kk,eS sk,.r (o.map eC),.i 0,eS sk,.r (o.map eC),.i 0,eW wk])=x.ev (evl (qe q78) l))→∃v,a9.tmps[t]? =some v∧(AV.v x (.int .i64) [] []).pd (({c2 with A:=wkA c2.A w8.heap.size W1.heap.size}:Cx).at (qe q78) l) p3 W v:=fun{W p3 t x l}ht hx he=>by
  obtain⟨v,e1,cs,e2,e3⟩:=hf.t t _ hx
  refine⟨v,(sn9 t v ht e1).1,cs,e2,?_⟩
  rw[show x.ev (c2.at (qe q78) _).v=x.ev (evl (qe q78) l) from he] at e3
  exact Con.of_rd (Rd.flat 8 _ (by kernel_rfl) (Con.rd e3 (dep':=[]) (fun _ h=>h) (fun _ h=>nomatch h)))
 have hbsW:∀(F:Flr)p3 W,F.fr=c2.F.fr→Bs (wkA c2.A w8.heap.size W1.heap.size) F W1 (wkS p8 w9 w8.heap.size m) p3 W→Bs c2.A c2.F w8 (pinned p8) p3 W∧Bs (wkA c2.A w8.heap.size W1.heap.size) c2.F W (pinned p3) p3 W∧∀b,b<w8.heap.size→¬pinned p8 b→W.heap[b]? =w8.heap[b]? :=fun F p3 W hfr h3=>by
  have h1:=h3.but.size
  have hbW:But (pinned p8) w8 W:=(But.mono hbut8 fun _ h _=>h.elim).trans h3.but fun b hS hlt=>by
   rcases hSp b hS with h|h
   ·exact .inl h
   ·exact .inr h
  refine⟨⟨h3.inj,h3.bd,hbW,fun x b hx=>?_,hb.new,fun x b hx=>(h3.pa x b hx).1,h3.obj,Flo.of0 hfz hb.flo⟩,⟨h3.inj,h3.bd,But.refl _ _,fun x b hx=>.inl ⟨x,hx⟩,fun b hb'=>⟨(h3.new b (by omega)).1,(hb.new b (by omega)).2⟩,h3.pa,h3.obj,Flo.of0 hfz hb.flo⟩,fun b hlt hn=>hbW.block b hlt hn⟩
  rcases h3.pin x b hx with h|h
  ·exact hSp b h
  ·exact .inr (by omega)
 have fin:∀(F:Flr)p3 W sk' o',F.fr=c2.F.fr→Bs (wkA c2.A w8.heap.size W1.heap.size) F W1 (wkS p8 w9 w8.heap.size m) p3 W→SF ((q0h c2 p8 sk w8.heap.size W1 a9).at (qe (q0z sk)) [eW wk,eS sk',.r (o'.map eC),.i 0,ws]) z3c p3 W a9→W.heap[w9.heap.size]? =some (.deferred (some []))→r=(sk',o',0)→o'.length≤o.length+(yx sk wk.att).length→Q .normal {a9 with defers:={target:=.collected w9.heap.size,args:= #[]}::a9.defers} W:=fun F p3 W sk' o' hfr h3 hs hD hre hol=>by
  obtain⟨b1,b2,b3⟩:=hbsW F p3 W hfr h3
  have e1:r.1=sk':=by rw[hre]
  have e2:r.2.1=o':=by rw[hre]
  have e3:r.2.2=0:=by rw[hre]
  refine hN _ p3 W _ w9.heap.size (fun b h=>h.1) hAD (by omega) hD (by show _::a9.defers=_;rw[hd9];rfl) hz9 b3 b1 b2 e3 ?_ (by rw[e2];exact hol)
  rw[e1,e2]
  refine⟨fun t x hx=>?_,fun j e he=>?_⟩
  ·have hx:=qx hx
   simp only[q73,gnM] at hx
   rcases hx with⟨rfl,rfl⟩|⟨rfl,rfl⟩|⟨rfl,rfl⟩|⟨rfl,rfl⟩|⟨rfl,rfl⟩|⟨rfl,rfl⟩|⟨rfl,rfl⟩
   ·obtain⟨v,e1,-,e2⟩:=hs.t 0 (.sn 0 (.ref 0 [] 0 qb)) (by kernel_rfl)
    exact⟨v,e1,e2⟩
   ·obtain⟨v,e1,-,e2⟩:=hs.t 1 (.sn 1 (.bx 1 41 (.ref 0 [] 0 qb))) (by kernel_rfl)
    exact⟨v,e1,e2⟩
   ·obtain⟨v,e1,-,e2⟩:=hs.t 2 (.sn 2 (.ref 2 [] 0 yb)) (by kernel_rfl)
    exact⟨v,e1,e2⟩
   ·obtain⟨v,e1,-,e2⟩:=hs.t 3 (.sn 3 (.ref 3 [] 0 yr)) (by kernel_rfl)
    obtain⟨v',f1,f2,-⟩:=hf.t 3 (.sn (VB+3) (.ref 3 [] 0 yr)) (by kernel_rfl)
    have f3:=(sn9 3 v' (by decide) f1).1
    have e1':a9.tmps[3]? =some v:=e1
    rw[f3] at e1'
    injection e1' with e1'
    subst e1'
    exact⟨v',f3,f2,e2⟩
   ·obtain⟨v,e1,-,e2⟩:=hs.t 24 (.sn 24 (.v (.tok 4) q4y [(0,385)] [])) (by kernel_rfl)
    exact⟨v,e1,e2⟩
   ·exact hval (by decide) (by kernel_rfl) rfl
   ·exact hval (by decide) (by kernel_rfl) rfl
  ·have he:=qx he
   simp only[q73,gnM] at he
   rcases he with⟨rfl,rfl⟩|⟨rfl,rfl⟩|⟨rfl,rfl⟩
   ·exact hs.m 0 ⟨.tok 1,qb,qq 0 qb,[]⟩ (by kernel_rfl)
   ·exact hs.m 2 ⟨.tok 2,yb,[(0,33)],[]⟩ (by kernel_rfl)
   ·exact hs.m 3 ⟨.tok 3,yr,[],[]⟩ (by kernel_rfl)
 rcases uW (yx sk wk.att).length with hnil|hpos
 ·-- no attributes
  have hnil:=List.eq_nil_of_length_eq_zero hnil
  have hre:r=(sk,o,0):=by rw[hr,hnil];rfl
  have hF0:Flo (⟨fun _=>0,fun _=>0,c2.F.fr⟩:Flr) W1 W1:=fun k h=>absurd h (kJ 0)
  refine⟨fun k N W=>w9.heap.size+2≤N∧N≤W.heap.size∧But (q4j w9 (w8.heap.size+1) m) W1 W,fun _ _ _ _ _=>False,fun _=>False,⟨?_,?_,?_,?_,?_,fun _ _ h=>h.elim⟩,⟨by omega,uC _,But.refl _ _⟩,?_,fun W h=>h.elim⟩
  ·rintro k N W⟨h1,h2,h3⟩
   have hk:∀b o,w9.heap[b]? =some o→¬q4j w9 (w8.heap.size+1) m b→W.heap[b]? =some o:=fun b o ho hh=>(h3.block b (by have:b<w9.heap.size:=(uE.1 ho).1;omega) hh).trans ((hbut.block b (uE.1 ho).1 fun h=>h).trans ho)
   refine⟨h1,h2,⟨_,hk _ _ h9a (by unfold q4j;omega)⟩,Rd.keeps (fun b o _ ho=>?_) _ rd0⟩
   have hlt:b<w8.heap.size:=(uE.1 ho).1
   exact⟨hk b o ((hb9.block b hlt fun h=>h).trans ho) (by unfold q4j;omega),by omega,by omega⟩
  ·rintro k N W W'⟨h1,h2,h3⟩hb'
   exact⟨h1,uQ h2 hb'.size,h3.trans hb' fun b h _=>.inl h⟩
  ·rintro k N W x hx
   rw[hnil] at hx
   cases hx
  ·intro k N B a1 W W' h
   exact h.elim
  ·intro k N B a1 W _ h
   exact h.elim
  ·rintro N W⟨h1,h2,h3⟩hD
   obtain⟨q1,q2⟩:=qrv (W1:=W1) (F:=⟨fun _=>0,fun _=>0,c2.F.fr⟩) (S1:=wkS p8 w9 w8.heap.size m) (A':=wkA c2.A w8.heap.size W1.heap.size) (fun b h=>.inr h) (fun b h=>by
    have:=h.2
    unfold q4j
    omega) (fun b h=>absurd h (kJ 0)) (hbs ⟨fun _=>0,fun _=>0,c2.F.fr⟩ rfl hF0) h3
   exact fin ⟨fun _=>0,fun _=>0,c2.F.fr⟩ p8 W sk o rfl q1 (SF.same q2 hf0) hD hre (by omega)
 ·-- attributes
  obtain⟨hc2,hy2⟩:=zmw hpos
  have k9:∀{pin:Nat}{E:TypeId}{te:Ty}{l:List D}{v:Value},q1g c2.A p8 w8 [] pin E te l v→q1g c2.A p8 w9 [] pin E te l v:=fun h=>q1g.kept (Z:=no) (L:=no) h ⟨hb9.size,fun b hlt _ hfr=>⟨hb9.block b hlt fun h=>h,hfr⟩,fun _ _ _ h=>h,fun x b _ hx=>hb9.block b (hp8 x b hx) fun h=>h⟩ (fun _ h=>nomatch h) ⟨rfl,rfl⟩
  have k1:∀{pin:Nat}{E:TypeId}{te:Ty}{l:List D}{v:Value},q1g c2.A p8 w8 [] pin E te l v→q1g c2.A p8 W1 [] pin E te l v:=fun h=>q1g.kept (Z:=no) (L:=no) h ⟨hbut8.size,fun b hlt _ hfr=>⟨hbut8.block b hlt fun h=>h,hfr⟩,fun _ _ _ h=>h,fun x b _ hx=>hbut8.block b (hp8 x b hx) fun h=>h⟩ (fun _ h=>nomatch h) ⟨rfl,rfl⟩
  have hflo:=zs9 (fr:=c2.F.fr) hb.inj (k1 q0) (k1 q1) (k1 q2) (k1 q3) hc2 hy2
  refine⟨_,_,_,ItOk.blk (zv4 (c2:=c2) (p2:=p8) (wk:=wk) (o0:=o) (dw:=ws) hlo hz9 h9s hb.inj hp8 (k9 q0) (k9 q1) (k9 q2) (k9 q3) r1 r2 ⟨_,h9a⟩ hbut hm1 hm2 hob) zvp,?_,?_,?_⟩
  ·refine⟨by omega,uC _,p8,sk,o,⟨rfl,by rw[kT];exact hok,qbw.refl _,by omega⟩,hbs _ rfl hflo,hf0,fun x b hx=>by have:=hp8 x b hx;omega,fun b hb33=>?_⟩
   have ne:∀x,x≠33→¬p8 x=some b:=fun x h hx=>h (hb.inj x 33 b hx hb33)
   simp only[q22,if_neg (ne 1 (by decide)),if_neg (ne 2 (by decide)),if_neg (ne 3 (by decide)),if_neg (ne 4 (by decide))]
  ·rintro N W⟨-,-,p3,sk',o',⟨hrun,-,-,hlen⟩,h3,hs,-,-⟩hD
   rw[kP] at hrun
   exact fin (q22 p8 sk c2.F.fr) p3 W sk' o' rfl h3 hs hD (hr.trans hrun.symm) hlen
  ·rintro W⟨he,p3,l,h3,hs,hl⟩hD
   obtain⟨b1,b2,b3⟩:=hbsW (q22 p8 sk c2.F.fr) p3 W rfl h3
   rw[←hr] at he hs
   refine hR _ p3 W _ w9.heap.size (fun b h=>h.1) hAD (by omega) hD (by show _::a9.defers=_;rw[hd9];rfl) hz9 b3 b1 b2 he ?_
   match l,hl with
   |[l0,l1,l2,l3,l4,l5,l6],_=>
   refine⟨fun t x hx=>?_,fun j e he=>?_⟩
   ·have hx:=qx hx
    simp only[wkE,gnM] at hx
    rcases hx with⟨rfl,rfl⟩|⟨rfl,rfl⟩|⟨rfl,rfl⟩|⟨rfl,rfl⟩
    ·obtain⟨v,e1,-,e2⟩:=hs.t 0 (.sn 0 (.ref 0 [] 0 qb)) (by kernel_rfl)
     exact⟨v,e1,e2⟩
    ·obtain⟨v,e1,-,e2⟩:=hs.t 1 (.sn 1 (.bx 1 41 (.ref 0 [] 0 qb))) (by kernel_rfl)
     exact⟨v,e1,e2⟩
    ·obtain⟨v,e1,-,e2⟩:=hs.t 2 (.sn 2 (.ref 2 [] 0 yb)) (by kernel_rfl)
     exact⟨v,e1,e2⟩
    ·obtain⟨v,e1,-,e2⟩:=hs.t 3 (.sn 3 (.ref 3 [] 0 yr)) (by kernel_rfl)
     obtain⟨v',f1,f2,-⟩:=hf.t 3 (.sn (VB+3) (.ref 3 [] 0 yr)) (by kernel_rfl)
     have f3:=(sn9 3 v' (by decide) f1).1
     have e1':a9.tmps[3]? =some v:=e1
     rw[f3] at e1'
     injection e1' with e1'
     subst e1'
     exact⟨v',f3,f2,e2⟩
   ·have he:=qx he
    simp only[wkE,gnM] at he
    rcases he with⟨rfl,rfl⟩|⟨rfl,rfl⟩|⟨rfl,rfl⟩
    ·exact hs.m 0 ⟨.tok 7,qb,qq 0 qb,[]⟩ (by kernel_rfl)
    ·exact hs.m 2 ⟨.tok 8,yb,[(0,33)],[]⟩ (by kernel_rfl)
    ·exact hs.m 3 ⟨.tok 9,yr,[],[]⟩ (by kernel_rfl)
end
end
section
open Go.RowKit Go.Shelf
abbrev qbv:Ty:=.row 66
noncomputable def owC:Code:=match kF.body with
 |some c=>c
 |none=>.skip
noncomputable def ow1:List Code:=[sqL owC,sqL (sqR owC),sqL (sqL (sqR (sqR owC)))]
noncomputable def owL:Code:=bkC (sqR (sqL (sqR (sqR owC))))
noncomputable def owZ:Code:=sqR (sqR (sqR owC))
noncomputable def zo2:Code:=match owL with
 |.rangeFunc _ _ a _=>a
 |_=>.skip
noncomputable def zno:Code:=match owL with
 |.rangeFunc _ _ _ b=>b
 |_=>.skip
def z5t:Ann:=⟨[2,3,4,5,6,9,18,19,20,27],[]⟩
noncomputable def zn1:List ResultVar:=kF.results.toList
def sR:St:=⟨[(4,.ref 4 [] 0 qbv),(18,.ff 94 27 (.tok 0) qb 29 (.get (.fld (.tok 0) 0) (.add (.fld (.tok 1) 1) (.lit (.i 2)))) qm [])],[]⟩
abbrev iR:List Item:=[(4,qbv,[(0,65)],[])]
def sO1:St:=⟨[(4,.sn 4 (.ref 4 [] 0 qbv)),(19,.v (.tok 1) .str [] []),(20,.v (.tok 2) qm [] [])],[(4,⟨.tok 0,qbv,[(0,65)],[]⟩)]⟩
def sO2:St:=⟨[(4,.sn 4 (.ref 4 [] 0 qbv)),(5,.v (.tok 1) .str [] []),(6,.ref 6 [] 0 qm)],[(4,⟨.tok 0,qbv,[(0,65)],[]⟩),(6,⟨.tok 2,qm,[],[]⟩)]⟩
def sO3:St:=⟨[(4,.sn 4 (.ref 4 [] 0 qbv))],[]⟩
def sO4:St:=⟨[(4,.sn 4 (.ref 4 [] 0 qbv))],[(4,⟨.tok 0,qbv,[(0,65)],[]⟩)]⟩
def sO5:St:=⟨[(4,.ref 4 [] 0 qbv)],[(4,⟨.tok 0,qbv,[(0,65)],[]⟩)]⟩
def zuv:Tree:=(.br (.not (.eq (.fld (.tok 1) 0) (.lit (.i 5)))) (.need [(.not (.eq (.fld (.tok 1) 0) (.lit (.i 5))))] (.leaf [(.lit (.r []))])) (.need [(.le (.lit (.i 0)) (.add (.fld (.tok 1) 1) (.lit (.i 2)))),(.lt (.add (.fld (.tok 1) 1) (.lit (.i 2))) (.len (.fld (.tok 0) 0))),(.rng .i64 (.add (.fld (.tok 1) 1) (.lit (.i 2))))] (.need [(.eq (.fld (.tok 1) 0) (.lit (.i 5)))] (.leaf [(.lit (.r []))]))))
theorem zkx:q6o uA [] z5t 2 28 ow1 2 (qt5 zf) (fun n r σ=>match r with|.normal=>.need [.eq (.fld (.tok 1) 0) (.lit (.i 5))] (qqv [] iR [] sR n .normal σ)|r=>.need [.not (.eq (.fld (.tok 1) 0) (.lit (.i 5)))] (qdg zf zn1 n r σ))=zuv:=by kernel_rfl
def zwi:Tree:=(.leaf [])
theorem zmm:q6o uA [] z5t 2 28 [zo2] 3 sO1 (toN [] [] [] sO2)=zwi:=by kernel_rfl
def zuy:Tree:=(.need [(.le (.add (.len (.tok 0)) (.lit (.i 1))) (.lit (.i 4398046510976)))] (.leaf [(.app (.tok 0) (.row [(.mk [(.tok 1),(.tok 2)])]))]))
theorem zlz:q6o uA [] z5t 2 28 [zno] 3 sO2 (toN [] iR [] sO3)=zuy:=by kernel_rfl
def zwd:Tree:=(.leaf [(.tok 0)])
theorem znm:toT uA [] z5t 2 28 owZ [] 1 sO5 (qdg zf zn1)=zwd:=by kernel_rfl
end
section
open Go.RowKit Go.Shelf
theorem zj8:kF.body=some owC:=by kernel_rfl
theorem zrn:owC=seqs [sqL owC,sqL (sqR owC)] (.seq (.seq (sqL (sqL (sqR (sqR owC)))) (.block 0 owL)) owZ):=by kernel_rfl
theorem zr9:owL=.rangeFunc (.tmp 18) #[19,20] zo2 zno:=by kernel_rfl
theorem zlp:kF.ntmps=28:=by kernel_rfl
def sOR:St:=q3l [] iR 2 (q2t [] iR [] 2 sR)
theorem zwf:lkA sOR.t 4=some (.ref 4 [] 0 qbv):=by kernel_rfl
theorem zui:lkA sOR.t 18=some (.ff 94 27 (.tok 0) qb 29 (.get (.fld (.tok 0) 0) (.add (.fld (.tok 1) 1) (.lit (.i 2)))) qm []):=by kernel_rfl
theorem zvt:lkA sOR.m 4=some ⟨.tok 2,qbv,[(0,65)],[]⟩:=by kernel_rfl
def sOB:St:=q3l [] iR 3 (q2t [] iR [] 3 sO3)
theorem zvw:lkA sOB.t 4=some (.sn 4 (.ref 4 [] 0 qbv)):=by kernel_rfl
theorem zvu:lkA sOB.m 4=some ⟨.tok 3,qbv,[(0,65)],[]⟩:=by kernel_rfl
theorem zvo:q3l [] [] 3 (q2t [] [] [] 3 sO2)=sO2:=by kernel_rfl
theorem zg1{S:Nat→List D→Option (List D)}(h4:a.tmps[4]? =some v)(hsn:c.snap 4=v)(hv:∃g,p 64=some g∧v=.pointer (some ⟨g,0,none⟩)∧c.At 4 g)(hm:q1j (c.at S [d]) p W 4 ⟨.tok 0,qbv,[(0,65)],[]⟩):SF (c.at S [d]) sO4 p W a:=by
 refine⟨fun t x hx=>?_,fun k e he=>?_⟩
 ·have hx:=qx hx
  simp only[sO4,gnM] at hx
  obtain⟨rfl,rfl⟩:=hx
  exact⟨v,h4,hsn.symm,hv⟩
 ·have he:=qx he
  simp only[sO4,gnM] at he
  obtain⟨rfl,rfl⟩:=he
  exact hm
def zaq:List D→Option (List D)
 |[s,c]=>if(dC c).t=5 then(if inS (dS s) ((dC c).n+2)∧(dS s).cs.length≤4000000000000 then some [.r ((yx (dS s) (cellAt (dS s) ((dC c).n+2))).map eA)] else none) else some [.r []]
 |_=>none
theorem qbi(s:So):∀(k:Nat)(c:Ce)(met:List ByteArray),(q6r s k c met).length≤k
 |0,_,_=>uC _
 | k + 1, c, met => by
  unfold q6r
  split
  ·simp
  ·rename_i nm tl vl _
   have:=qbi s k tl (nm::met)
   split<;>simp<;>omega
theorem zlr{w w':World}(h:Con A p w (.r []) qbv [(0,pin)] dep cs)(hk:∀g,p pin=some g→w'.heap[g]? =w.heap[g]?):Con A' p w' (.r []) qbv [(0,pin)] dep cs:=by
 rcases h with⟨E,te,l,v,e1,hte,e2,e3,hv⟩|⟨K,V,kt,vt,l,g,es,clock,e1,hK,hV,e2,-⟩
 ·injection e2 with e2
  subst e2
  refine .inl ⟨E,te,[],v,e1,hte,rfl,e3,?_⟩
  rcases hv with⟨rfl,-⟩|⟨g,cap,cur,rfl,hg,hh,h1,h2,h3,h4,h5⟩
  ·exact .inl ⟨rfl,rfl⟩
  ·exact .inr ⟨g,cap,cur,rfl,hg,(hk g hg).trans hh,h1,h2,h3,h4,fun i hi=>absurd hi (kE _)⟩
 ·cases e2
section
variable{c c':Cx}{p p2:qi}{w w' W1:World}{a a':Act}{m g:Nat}{s:So}{x0:Ce}{cs1:List Value}{v4:Value}
def qow(c:Cx)(w':World)(g m:Nat)(b:Nat):Prop:=c.A b∧b≠g∧¬q4j w' (g+1) m b
def zo5(p2:qi)(w':World)(g m:Nat)(b:Nat):Prop:=pinned p2 b∨q4j w' (g+1) m b
def OwI(c:Cx)(p2:qi)(w' W1:World)(g m:Nat)(s:So)(x0:Ce)(a':Act)(c':Cx)(k N:Nat)(W:World):Prop:=w'.heap.size+2≤N∧N≤W.heap.size∧∃p3,Bs (qow c w' g m) c.F W1 (zo5 p2 w' g m) p3 W∧SF (c'.at (qe []) [.r (((yx s x0).take k).map eA)]) sO4 p3 W a'∧∀y b,p3 y=some b→b<N
def OwM(c:Cx)(p2:qi)(w' W1:World)(g m:Nat)(s:So)(x0:Ce)(c':Cx)(k N B:Nat)(a1:Act)(W:World):Prop:=∃y p4,(yx s x0)[k]? =some y∧Bs (qow c w' g m) c.F W1 (zo5 p2 w' g m) p4 W∧SF (c'.at (qe []) [.r (((yx s x0).take k).map eA),.s y.name,eC y.val]) sO2 p4 W a1∧a1.defers=[]∧a1.tmps.size=28∧w'.heap.size+2≤N∧N≤B∧B≤W.heap.size∧∀q b,p4 q=some b→b<N∨B≤b
theorem zii(hfz:∀te,F.mx te=0){W':World}{p3:qi}(hS:∀b,q4j w' (g+1) m b→S1 b)(hA:∀b,A' b→¬q4j w' (g+1) m b)(h:Bs A' F W1 S1 p3 W)(hb:But (q4j w' (g+1) m) W W'):Bs A' F W1 S1 p3 W'∧Stab A' no no p3 W p3 W':=
 ⟨⟨h.inj,fun x b hx=>uL (h.bd x b hx) hb.size,h.but.trans hb fun i hi _=>.inl (hS i hi),h.pin,h.new,h.pa,fun x b hx=>(h.obj x b hx).same (hb.block b (h.bd x b hx) (hA b (h.pa x b hx))),Flo.of0 hfz h.flo⟩,
  hb.size,fun b hlt ha hf=>⟨hb.block b hlt (hA b ha),hf⟩,fun x b _ hx=>hx,fun x b _ hx=>hb.block b (h.bd x b hx) (hA b (h.pa x b hx))⟩
theorem zs8(hln:s.cs.length≤4000000000000)(hlo:c.lo=2)(hfz:∀te,c.F.mx te=0)(hz:a'.tmps.size=28)(so:s.ok)(hc':c'={c with A:=qow c w' g m,snap:=fun t=>a'.tmps.getD t Go.undef})(h4:a'.tmps[4]? =some v4)
  (hg:∃T,w'.heap[g]? =some (.cells cs1.toArray T (0,0)))(hfg:q7j p2 g)(hbut:But Nil w' W1)(hm1:w'.heap.size+2≤m)(hm2:m<W1.heap.size)(r1:Rd w' (fun b=>FFD c.A p2 [] b∧b<g) (eS s) qb cs1):
  ItOk w' a' 3 g (g+1) m 19 20 zo2 zno cs1 s x0 (OwI c p2 w' W1 g m s x0 a' c') (OwM c p2 w' W1 g m s x0 c') fun _=>False:=by
 obtain⟨T,hg⟩:=hg
 have hgl:=qr hg
 have hAh:∀b,qow c w' g m b→¬q4j w' (g+1) m b:=fun b h=>h.2.2
 have hSh:∀b,q4j w' (g+1) m b→zo5 p2 w' g m b:=fun b h=>.inr h
 have hfm:∀te,c'.F.mx te≤flM [] te:=fun te=>by rw[hc'];show c.F.mx te≤_;rw[hfz];exact uO _
 have hcA:c'.A=qow c w' g m:=by rw[hc']
 have hcF:c'.F=c.F:=by rw[hc']
 have hcl:c'.lo=2:=by rw[hc'];exact hlo
 have hsn:c'.snap 4=v4:=by
  rw[hc']
  show a'.tmps.getD 4 Go.undef=v4
  simp[uG,h4]
 have hcT:c'.At=c.At:=by rw[hc']
 refine⟨?_,?_,?_,?_,?_,fun _ _ h=>h.elim⟩
 ·rintro k N W⟨h1,h2,p3,hb3,hf3,hp3⟩
  have hk:∀b o,w'.heap[b]? =some o→q7j p2 b→¬q4j w' (g+1) m b→W.heap[b]? =some o:=fun b o ho hf hh=>by
   have hlt:b<w'.heap.size:=(uE.1 ho).1
   refine(hb3.but.block b (uL hlt hbut.size) ?_).trans ((hbut.block b hlt (fun h=>h)).trans ho)
   rintro(⟨x,hx⟩|h)
   ·exact hf x hx
   ·exact hh h
  have hng:¬q4j w' (g+1) m g:=by unfold q4j;omega
  refine⟨h1,h2,⟨T,hk g _ hg hfg hng⟩,Rd.keeps (fun b o hb ho=>?_) _ r1⟩
  obtain⟨hb1,hb2⟩:=hb
  rcases hb1 with⟨-,hf⟩|⟨y,hy,-⟩
  ·refine⟨hk b o ho hf (by unfold q4j;omega),by omega,by omega⟩
  ·cases hy
 ·rintro k N W W'⟨h1,h2,p3,hb3,hf3,hp3⟩hb
  obtain⟨q1,q2⟩:=zii hfz hSh hAh hb3 hb
  exact⟨h1,uQ h2 hb.size,p3,q1,SF.same (by show Stab c'.A no no p3 W p3 W';rw[hcA];exact q2) hf3,hp3⟩
 ·rintro k N W y hy hyo⟨h1,h2,p3,hb3,hf3,hp3⟩
  obtain⟨v,t4,hv⟩:=hf3.t 4 _ (by kernel_rfl:lkA sO4.t 4=some (.sn 4 (.ref 4 [] 0 qbv)))
  have hm:=hf3.m 4 _ (by kernel_rfl:lkA sO4.m 4=some ⟨.tok 0,qbv,[(0,65)],[]⟩)
  rw[h4] at t4
  injection t4 with t4
  subst t4
  have hsf:SF (c'.at (qe []) [.r (((yx s x0).take k).map eA),.s y.name,eC y.val]) sO1 p3 W {tmps:=(a'.tmps.setIfInBounds 19 (.string y.name)).setIfInBounds 20 (.agg (ceL y.val).toArray),defers:=[]}:=by
   refine⟨fun t x hx=>?_,fun j e he=>?_⟩
   ·have hx:=qx hx
    simp only[sO1,gnM] at hx
    rcases hx with⟨rfl,rfl⟩|⟨rfl,rfl⟩|⟨rfl,rfl⟩
    ·exact⟨v4,by rw[uD (by decide),uD (by decide)];exact h4,hv⟩
    ·refine⟨.string y.name,by rw[uD (by decide),uH (by omega)],_,rfl,Con.of_rd (show Rd W _ (.s y.name) .str _ from⟨rfl,rfl,hyo.1⟩)⟩
    ·refine⟨.agg (ceL y.val).toArray,by rw[uH (by simp;omega)],ceL y.val,rfl,Con.of_rd (show Rd W _ (eC y.val) qm _ from z03 hyo.2)⟩
   ·have he:=qx he
    simp only[sO1,gnM] at he
    obtain⟨rfl,rfl⟩:=he
    exact hm
  have pre:=qcf (c:=c') (z:=28) (some (w'.heap.size+1)) 3 .nil hfm rfl [zo2] (n:=3) (ann:=z5t) (R:=fun o=>o=[]) (B:=fun _ _=>False) (ts:=[]) (ms:=[]) (kill:=[]) (σk:=sO2) (l:=[.r (((yx s x0).take k).map eA),.s y.name,eC y.val]) (σ:=sO1) (d:=[]) (w0:=W) (S0:=pinned p3) (p:=p3) (Q:=fun _ _ _=>False)
   (K:=fun a1 W2=>OwM c p2 w' W1 g m s x0 c' k N W.heap.size a1 W2∧KpN w' (g+1) m N W.heap.size W W2)
   (by rw[hcl,zmm];rfl) rfl (by rw[hcA,hcF];exact hb3.anew) hsf rfl (by simp;exact hz) (fun st p4 W2 a2 hR hst hb4 hf4 hd4 hz4=>?_)
  ·exact pre
  ·have hR:st=[]:=hR
   subst hR
   rw[zvo] at hf4
   rw[hcA,hcF] at hb4
   refine⟨⟨y,p4,hy,hb3.comp hb4,hf4,hd4,hz4,h1,h2,hb4.but.size,fun q b hq=>?_⟩,hb4.but.size,fun b hlt hb=>hb4.but.block b hlt ?_⟩
   ·rcases hb4.pin q b hq with⟨q',hq'⟩|h
    ·exact .inl (hp3 q' b hq')
    ·exact .inr h
   ·rintro⟨q,hq⟩
    rcases hb with hb|hb
    ·have:=hp3 q b hq
     omega
    ·exact hAh b (hb3.pa q b hq) hb
 ·rintro k N B a1 W W'⟨y,p4,hy,hb4,hf4,hd4,hz4,h1,h2,h3,hp4⟩hb
  obtain⟨q1,q2⟩:=zii hfz hSh hAh hb4 hb
  exact⟨y,p4,hy,q1,SF.same (by show Stab c'.A no no p4 W p4 W';rw[hcA];exact q2) hf4,hd4,hz4,h1,h2,uQ h3 hb.size,hp4⟩
 ·rintro k N B a1 W hkl⟨y,p4,hy,hb4,hf4,hd4,hz4,h1,h2,h3,hp4⟩
  have hlen:((yx s x0).take k).length≤4000000000000:=by
   have h1:=qbi s s.cs.length x0 []
   simp only[List.length_take]
   unfold yx at *
   omega
  have pre:=qcf (c:=c') (z:=28) (some (w'.heap.size+1)) 3 .nil hfm rfl [zno] (n:=3) (ann:=z5t) (R:=fun o=>o=[.r (((yx s x0).take k).map eA++[eA y])]) (B:=fun _ _=>False) (ts:=[]) (ms:=iR) (kill:=[]) (σk:=sO3) (l:=[.r (((yx s x0).take k).map eA),.s y.name,eC y.val]) (σ:=sO2) (d:=[]) (w0:=W) (S0:=pinned p4) (p:=p4) (Q:=fun _ _ _=>False)
   (K:=fun a2 W2=>KpN w' (g+1) m N B W W2∧OwI c p2 w' W1 g m s x0 a' c' (k+1) W2.heap.size W2)
   (by
    rw[hcl,zlz]
    unfold zuy
    rw[qj]
    refine⟨⟨?_,trivial⟩,?_⟩
    ·show(D.b (decide (((((yx s x0).take k).map eA).length:Int)+1≤4398046510976))).tt=true
     rw[uB,q5i,gnD]
     omega
    ·rfl) rfl (by rw[hcA,hcF];exact hb4.anew) hf4 hd4 hz4 (fun st p5 W2 a2 hR hst hb5 hf5 hd5 hz5=>?_)
  ·refine wpIn_mono pre fun e a2 W2 hq=>?_
   cases e with
   |normal=>exact⟨hq.1,.inl ⟨rfl,hq.2⟩⟩
   |_=>exact hq.elim
  ·have hR:st=[.r (((yx s x0).take k).map eA++[eA y])]:=hR
   subst hR
   rw[hcA,hcF] at hb5
   have hf5:SF (c'.at (qe []) [.r (((yx s x0).take k).map eA),.s y.name,eC y.val,.r (((yx s x0).take k).map eA++[eA y])]) sOB p5 W2 a2:=hf5
   obtain⟨v,t4,ev,g4,hg4,eg,hat⟩:=hf5.t 4 _ zvw
   have hm:=hf5.m 4 _ zvu
   refine⟨⟨hb5.but.size,fun b hlt hb=>hb5.but.block b (by omega) ?_⟩,by have:=hb5.but.size;omega,uC _,p5,hb4.comp hb5,?_,fun q b hq=>hb5.bd q b hq⟩
   ·rintro⟨q,hq⟩
    rcases hb with hb|hb
    ·have:=hp4 q b hq
     omega
    ·exact hAh b (hb4.pa q b hq) hb
   ·have e:((yx s x0).take (k+1)).map eA=((yx s x0).take k).map eA++[eA y]:=by
     rw[List.take_add_one,hy]
     simp
    rw[e]
    have ev:v=v4:=ev.trans hsn
    exact zg1 h4 hsn ⟨g4,hg4,ev.symm.trans eg,hat⟩ hm
end
set_option maxHeartbeats 1000000 in
theorem q4b:FOk zf zaq:=by
 refine zdw (qe []) kF owC Tryz.func33 zj8 qwu (by rw[zlp];decide) fun ds outs hwf hg c p w a Q hlo hfz hfr hdl hb hf hd hz hfin=>?_
 obtain⟨d,r,rfl,hs,e,r',rfl,hc,rfl⟩:=hwf
 obtain⟨s,rfl,so⟩:=wfS hs
 obtain⟨x,rfl,co⟩:=wfC hc
 simp only[zaq,qy,yt] at hg
 have hlo:c.lo=2:=hlo
 have hz:a.tmps.size=28:=hz.trans zlp
 have hfm:∀te,c.F.mx te≤flM [] te:=fun te=>by rw[hfz];exact uO _
 have hcl:Code.wpIn (FR none) 5 uA (seqs [sqL owC,sqL (sqR owC)] (.seq (.seq (sqL (sqL (sqR (sqR owC)))) (.block 0 owL)) owZ)) Q a w:=by
  refine q2p _ ?_
  have pre:qby (FR none) 5 uA Q ow1 ((Code.block 0 owL).wpIn (FR none) 5 uA (Exit.then (owZ.wpIn (FR none) 5 uA Q) Q)) a w:=by
   refine qbd (c:=c) (z:=28) none 5 .nil hfm rfl ow1 (n:=2) (ann:=z5t) (R:=fun o=>o=[.r []]) (B:=fun _ _=>False) (d:=[]) (l:=[eS s,eC x]) (σ:=qt5 zf) (by
    rw[hlo,zkx]
    unfold zuv
    simp only[zd,qj,q4n,q06,X.says,X.ev,X.evs,evl,uJ,uK,qnj,qxi,qf0,q35,yh,q5i,uB,qim,gnD,decide_eq_false_iff_not,uU,kO,q6k]
    refine⟨fun h=>⟨⟨h,trivial⟩,trivial⟩,fun h=>?_⟩
    rw[if_pos h] at hg
    split at hg
    ·rename_i hin
     obtain⟨h1,h2⟩:=ql.1 hin.1
     have h3:=qg1 so
     unfold i64 at *
     refine⟨⟨by omega,by omega,by omega,trivial⟩,⟨h,trivial⟩,trivial⟩
    ·cases hg) rfl hb hf hd hz fun n' r σ' l' B' p' w' a' hl' hpre hgo hb' hf' hd' hz'=>?_
   have tk1:l'.getD 1 .u=eC x:=by
    have:(l'.take 2).getD 1 .u=eC x:=by rw[hpre];rfl
    rw[gnG,uI (by omega),←gnG] at this
    exact this
   have ret:∀r':ResD,(Tree.need [.not (.eq (.fld (.tok 1) 0) (.lit (.i 5)))] (qdg zf zn1 n' r' σ')).go (qe []) (fun o=>o=[.r []]) l' B'→Q r'.exit' a' w':=fun r' hgo=>by
    obtain⟨⟨hN,-⟩,hgo⟩:=hgo
    have hN:(D.b (!(D.b (decide ((l'.getD 1 .u).fld 0=.i 5))).tt)).tt=true:=hN
    rw[tk1,qnj] at hN
    have hx:x.t≠5:=by simpa[q5i] using hN
    rw[if_neg hx] at hg
    exact hfin n' r' σ' l' B' p' w' a' c hl' (zex hgo fun o ho=>ho.trans (gnI hg)) rfl rfl rfl (fun b h=>h) hb' hb'.anew hf' ⟨[],by rw[hd'];rfl,by simp,fun D hD=>by cases hD⟩ (hz'.trans zlp.symm)
   cases r with
   |ret=>exact ret .ret hgo
   |exit i=>exact ret (.exit i) hgo
   | normal =>
    obtain⟨⟨hN,-⟩,hgo⟩:=hgo
    have hN:(D.b (decide ((l'.getD 1 .u).fld 0=.i 5))).tt=true:=hN
    rw[tk1,qnj] at hN
    have hx:x.t=5:=by simpa[q5i] using hN
    rw[if_pos hx] at hg
    split at hg
    ·rename_i hin
     have hg:=(gnI hg).symm
     obtain⟨st,p2,hR,-,hb2,hf2⟩:=qls (c:=c) hgo hpre rfl hb' hf'
     have hR:st=[.r []]:=hR
     subst hR
     have hf2:SF (c.at (qe []) [eS s,eC x,.r []]) sOR p2 w' a':=hf2
     obtain⟨v4,t4,g4,hg4,e4,hat4⟩:=hf2.t 4 _ zwf
     obtain⟨v18,t18,gg,cs1,cs2,e18,⟨ha1,hf1⟩,⟨ha2,hf2'⟩,⟨hfr1,hfr2⟩,hh1,hh2,r1,r2⟩:=hf2.t 18 _ zui
     obtain⟨gm,csm,Tm,hgm,hhm,htm,hcm⟩:=hf2.m 4 _ zvt
     have ex0:(X.get (.fld (.tok 0) 0) (.add (.fld (.tok 1) 1) (.lit (.i 2)))).ev (c.at (qe []) [eS s,eC x,.r []]).v=eC (cellAt s (x.n+2)):=by
      show((eS s).fld 0).get (((eC x).fld 1).int+2)=_
      rw[qf0,qxi,yh]
      exact zb hin.1
     rw[ex0] at r2
     have hs2:=r2
     obtain rfl:=qzo r2
     have hfr1:=hfr gg hfr1
     have hfr2:=hfr (gg+1) hfr2
     show(Code.block 0 owL).wpIn (FR none) 5 uA (Exit.then (owZ.wpIn (FR none) 5 uA Q) Q) a' w'
     refine wpIn_block ?_
     rw[zr9]
     refine zio (nn:=5) (bs:=gg) (bc:=gg+1) (css:=cs1) (s:=s) (c0:=cellAt s (x.n+2)) (by omega) ((qca t18).trans e18) (by omega) ⟨_,hh1⟩ (Rd.mono (fun b _ h=>by have:=h.2;omega) r1) so ⟨_,by kernel_rfl,hh2⟩ (zcm hs2) fun m W1 hbut hm1 hm2=>?_
     have hw1:=hb'.but.size
     have hw2:=hbut.size
     obtain⟨c',hc'⟩:∃c':Cx,c'={c with A:=qow c w' gg m,snap:=fun t=>a'.tmps.getD t Go.undef}:=⟨_,rfl⟩
     have hcA:c'.A=qow c w' gg m:=by rw[hc']
     have hcF:c'.F=c.F:=by rw[hc']
     have hc2:c'.lo=c.lo:=by rw[hc']
     have hcT:c'.At=c.At:=by rw[hc']
     have hgl:=qr hh1
     have hgl2:=qr hh2
     have hSp:∀b,zo5 p2 w' gg m b→pinned p b∨w.heap.size≤b:=by
      rintro b(⟨q,hq⟩|h|h|h|h)
      ·exact hb2.pin q b hq
      ·exact .inr (by omega)
      ·exact .inr (by omega)
      ·exact .inr (by omega)
      ·exact .inr (by omega)
     refine⟨_,_,_,zs8 (c:=c) (c':=c') (p2:=p2) (W1:=W1) hin.2 hlo hfz hz' so hc' t4 ⟨_,hh1⟩ hf1 hbut hm1 hm2 r1,?_,?_,fun W h=>h.elim⟩
     ·refine⟨by omega,uC _,p2,⟨hb2.inj,fun q b hq=>uL (hb2.bd q b hq) hw2,But.refl _ _,fun q b hq=>.inl (.inl ⟨q,hq⟩),fun b hb=>⟨⟨(hb2.new b (by omega)).1,by omega,by unfold q4j;omega⟩,(hb2.new b (by omega)).2⟩,fun q b hq=>⟨hb2.pa q b hq,fun e=>hf1 q (e▸hq),?_⟩,fun q b hq=>(hb2.obj q b hq).same (hbut.block b (hb2.bd q b hq) fun h=>h),Flo.of0 hfz hb2.flo⟩,?_,fun q b hq=>uL (hb2.bd q b hq) hw2⟩
      ·have:=hb2.bd q b hq
       rintro(h|h|h|h)
       ·exact hf2' q (h▸hq)
       ·omega
       ·omega
       ·omega
      ·have hsn:c'.snap 4=v4:=by
        rw[hc']
        show a'.tmps.getD 4 Go.undef=v4
        simp[uG,t4]
       have hc0:Con c'.A p2 W1 (.r []) qbv [(0,65)] [] csm.toList:=zlr hcm fun g hg=>hbut.block g (hb2.bd _ _ hg) fun h=>h
       exact zg1 t4 hsn ⟨g4,hg4,e4,by rw[hcT];exact hat4⟩ ⟨gm,csm,Tm,hgm,(hbut.block gm (qr hhm) fun h=>h).trans hhm,htm,hc0⟩
     ·rintro N W⟨h1,h2,p3,hb3,hf3,hp3⟩hD
      show owZ.wpIn (FR none) 5 uA Q _ W
      have hnD:¬qow c w' gg m w'.heap.size:=fun h=>h.2.2 (.inr (.inr (.inl rfl)))
      rw[kK (uC _)] at hf3
      have hf3':SF (c'.at (qe []) [.r ((yx s (cellAt s (x.n+2))).map eA)]) sO5 p3 W {a' with defers:={target:=.collected w'.heap.size,args:= #[]}::a'.defers}:=by
       refine⟨fun t y hy=>?_,fun k e he=>hf3.m k e he⟩
       have hy:=qx hy
       simp only[sO5,gnM] at hy
       obtain⟨rfl,rfl⟩:=hy
       obtain⟨v,q1,-,q2⟩:=hf3.t 4 _ (by kernel_rfl:lkA sO4.t 4=some (.sn 4 (.ref 4 [] 0 qbv)))
       exact⟨v,q1,q2⟩
      refine qo5 none 5 (c:=c') (z:=28) (w0:=W) (S0:=pinned p3) (d:={target:=.collected w'.heap.size,args:= #[]}::a'.defers) .nil (fun te=>by rw[hcF,hfz];exact uO _) owZ (ids:=[]) (n:=1) (ann:=z5t) (k:=qdg zf zn1) (R:=fun o=>o=outs) (B:=fun _ _=>False) (l:=[.r ((yx s (cellAt s (x.n+2))).map eA)]) (σ:=sO5) (p:=p3) (by
       rw[hc2,hlo,znm,hg]
       rfl) rfl (by rw[hcA,hcF];exact hb3.anew) hf3' rfl hz' (q60 rfl) (qln rfl) fun n5 r5 σ5 l5 B5 p5 W5 a5 hl5 hpre5 _ hgo5 hb5 hf5 hd5 hz5=>?_
      rw[hcA,hcF] at hb5
      have hb6:=hb3.comp hb5
      refine hfin n5 r5 σ5 l5 B5 p5 W5 a5 c' hl5 hgo5 hc2 hcF hcT (fun b h=>by rw[hcA] at h;exact h.1) ⟨hb6.inj,hb6.bd,(hb'.but.trans_nil hbut).trans hb6.but fun b hb _=>hSp b hb,fun q b hq=>?_,hb.new,fun q b hq=>(hb6.pa q b hq).1,hb6.obj,Flo.of0 hfz hb.flo⟩ (by rw[hcA,hcF];exact hb5.anew) hf5 ⟨[w'.heap.size],by rw[hd5,hd'];rfl,by simp,fun D hD'=>?_⟩ (hz5.trans zlp.symm)
      ·rcases hb6.pin q b hq with h|h
       ·exact hSp b h
       ·exact .inr (by omega)
      ·obtain rfl:D=w'.heap.size:=by simpa using hD'
       exact⟨by omega,(hb5.stays (uE.1 hD).1 fun q hq=>hnD (hb3.pa q _ hq)).1.trans hD,by rw[hcA];exact hnD⟩
    ·cases hg
  refine q7r (Q:=Q) (Q':=Q) (fun e a w _ h=>h) [sqL owC,sqL (sqR owC)] (fun a w h=>?_) (qd5 [sqL owC,sqL (sqR owC)] [sqL (sqL (sqR (sqR owC)))] pre)
  refine wpIn_seq (wpIn_seq (wpIn_mono h fun e a w hq=>?_))
  cases e with
  |normal=>exact hq
  |_=>exact hq
 have e:=zrn
 rw[←e] at hcl
 exact hcl
end
section
open Go.RowKit Go.Shelf
theorem qh7:q0r q78:=.cons qg9 (.cons zq5 (.cons z3v .nil))
noncomputable def zwp:Nat:=match sqL (sqR (sqR wkC)) with
 |.region i _ _=>i
 |_=>0
theorem zsj:wkC=seqs zso (.seq (.region zwp zou.toArray false) q8d):=by kernel_rfl
noncomputable def z74:Nat:=match sqR (sqL zaa) with
 |.block i _=>i
 |_=>0
theorem ze4:q8d=seqs [sqL q8d,sqL (sqR q8d)] (.seq (.seq (sqL (sqL zaa)) (.block z74 (.loop qhv))) wkZ):=by kernel_rfl
noncomputable def zro:Nat:=match sqL (sqR (sqR qhv)) with
 |.block i _=>i
 |_=>0
noncomputable def zqs:Nat:=match sqR (sqR zkf) with
 |.block i _=>i
 |_=>0
theorem zrm:z74=0:=by kernel_rfl
theorem qm2:qhv=seqs wkH (.seq (.block zro (seqs wkR (.seq wkY (.block zqs wkF)))) (sqR (sqR (sqR qhv)))):=by kernel_rfl
theorem zjc:uV.body=some wkC:=by kernel_rfl
theorem zo1:uV.ntmps=69:=by kernel_rfl
theorem zdu{wv:Ce}{sk:So}{c:Ce}(h:qdy wv sk (yx sk c)=true):(yx sk c).length≤1048576:=by
 cases hl:yx sk c with
 |nil=>simp
 |cons x l=>
  rw[hl] at h
  unfold qdy at h
  simp only[gnB] at h
  obtain⟨h1,h2,h3,h4⟩:=qvx h.1
  have:=qbi sk sk.cs.length c []
  rw[←hl]
  unfold yx at *
  omega
theorem Dfs.keep{lb:Nat}{d:List Deferred}{w w':World}{ds:List Deferred}{S0:Nat→Prop}{p:qi}(h:Dfs A lb d w ds)(hk:∀b,b<w.heap.size→¬A b→w'.heap[b]? =w.heap[b]?):Dfs A lb d w' ds:=by
 obtain⟨Ds,e,hn,hD⟩:=h
 exact⟨Ds,e,hn,fun D hd=>⟨(hD D hd).1,(hk D (qr (hD D hd).2.1) (hD D hd).2.2).trans (hD D hd).2.1,(hD D hd).2.2⟩⟩
theorem z6x(s:So)(o:List Ce)(w:Wk)(l:List Wk):q5c s o (w::l)=if(q03 w.val s o (yx s w.att)).2.2=0 then q5c (q03 w.val s o (yx s w.att)).1 (q03 w.val s o (yx s w.att)).2.1 l else q03 w.val s o (yx s w.att):=rfl
theorem zm0{s r:So}(hc:s.cs.length≤r.cs.length)(hy:s.ys.length≤r.ys.length)(ht:s.tr.length≤r.tr.length){e:Int}(he:¬e=0):q5k [.i e,eS r,eS s]=some [eS (z79 s r)]:=by
 have he':¬(D.i e).int=0:=he
 simp only[q5k,if_neg he',qf0,z9d,z3w,qxs,zr1,zqy,q35,uB]
 rw[if_pos ⟨hc,hy,ht⟩]
 unfold z79 eS
 simp only[List.map_take]
def zu5(c:Cx)(w:World)(S0:Nat→Prop)(dK:Deferred)(s:So)(ws:List Wk)(k:Nat)(a:Act)(W:World):Prop:=∃(c2:Cx)(p3:qi)(sk:So)(o:List Ce),c2.lo=c.lo∧c2.F=c.F∧c2.At=c.At∧c2.snap (VB+3)=c.snap (VB+3)∧(∀b,c2.A b→c.A b)∧Bs c.A c.F w S0 p3 W∧Bs c2.A c2.F W (pinned p3) p3 W∧SF (c2.at (qe q78) [eS s,.r (ws.map eW),.i k,eS sk,.r (o.map eC),.i 0]) q73 p3 W a∧Dfs c2.A w.heap.size [dK] W a.defers∧a.tmps.size=69∧
 q5c sk o (ws.drop k)=q5c s [] ws∧z3u sk o (ws.drop k)=true∧qbw s sk∧o.length≤k * 1048576∧k≤ws.length
theorem ztc{x:X}{sk:So}{own:List (Nat×Nat)}(h:q1j c p W 0 ⟨x,qb,own,[]⟩)(hx:x.ev c.v=eS sk):sk.ok:=by
 obtain⟨g,cs,T,hg,hh,hT,hcon⟩:=h
 have hcon:Con c.A p W (x.ev c.v) qb own [] cs.toList:=hcon
 rw[hx] at hcon
 obtain⟨s',e,hs'⟩:=wfS ⟨W,_,_,Con.rd hcon (dep':=own.map (·.2)) (fun _ h=>nomatch h) (fun _ h=>h)⟩
 rw[zad e]
 exact hs'
section
variable{c:Cx}{w:World}{S0:Nat→Prop}{dK:Deferred}{s:So}{ws:List Wk}{outs:List D}{Q:Exit→Act→World→Prop}
set_option maxHeartbeats 1000000 in
theorem z1m(hlo:c.lo=1)(hfz:∀te,c.F.mx te=0)(hwl:ws.length≤1000000)
  (ho:outs=(if(q5c s [] ws).2.2=0 then[.r ((q5c s [] ws).2.1.map eC),.i 0,eS {(q5c s [] ws).1 with wk:=[]}] else[.r [],.i (q5c s [] ws).2.2,eS (z79 s (q5c s [] ws).1)]))
  (hfin:∀n'(r:ResD)σ' l' B' p' w' a'(c2:Cx),l'.length=n'→(qik j8 uV 2 0 3 (.tok 0) n' r σ').go (qe q78) (fun o=>o=outs) l' B'→l'.getD 0 .u=eS s→c2.lo=c.lo→c2.F=c.F→c2.At=c.At→c2.snap (VB+3)=c.snap (VB+3)→(∀b,c2.A b→c.A b)→Bs c.A c.F w S0 p' w'→Bs c2.A c2.F w' (pinned p') p' w'→SF (c2.at (qe q78) l') σ' p' w' a'→Dfs c2.A w.heap.size [dK] w' a'.defers→a'.tmps.size=69→Q r.exit' a' w'):
  ∀(f k:Nat)(a:Act)(W:World),zu5 c w S0 dK s ws k a W→ws.length - k<f→Code.roundsIn (FR none) 5 uA qhv (Exit.inBlock z74 (Exit.then (wkZ.wpIn (FR none) 5 uA Q) Q)) f a W
 |0,k,a,W,_,hf=>absurd hf (kE _)
 | f + 1, k, a, W, ⟨c2, p3, sk, o, e1, e2, e3, e4, hA2, hbs, hbn, hsf, hdf, hz, hrun, hok, hgr, hol, hkl⟩, hfu => by
  have hfm:∀te,c2.F.mx te≤flM q78 te:=fun te=>by rw[e2,hfz];exact uO _
  have hfz2:∀te,c2.F.mx te=0:=fun te=>by rw[e2];exact hfz te
  have hl2:c2.lo=1:=e1.trans hlo
  rw[roundsIn_succ,qm2,←qm2]
  refine(show Code.wpIn (FR none) 5 uA qhv _ a W from ?_)
  rw[qm2,←qm2]
  have hW:(seqs wkH (.seq (.block zro (seqs wkR (.seq wkY (.block zqs wkF)))) (sqR (sqR (sqR qhv))))).wpIn (FR none) 5 uA (Exit.then (Code.roundsIn (FR none) 5 uA qhv (Exit.inBlock z74 (Exit.then (wkZ.wpIn (FR none) 5 uA Q) Q)) f) (Exit.inBlock z74 (Exit.then (wkZ.wpIn (FR none) 5 uA Q) Q))) a W:=by
   refine q2p wkH ?_
   refine qbd (c:=c2) (z:=69) none 5 qh7 hfm rfl wkH (n:=6) (ann:=q9t) (R:=fun q=>q=[]) (B:=fun _ _=>False) (d:=a.defers) (l:=[eS s,.r (ws.map eW),.i k,eS sk,.r (o.map eC),.i 0]) (σ:=q73) (k:=zus) (by
    rw[hl2,zki]
    unfold zu3
    rw[zd]
    refine⟨fun h=>?_,fun h=>?_⟩
    ·rw[qj]
     exact⟨⟨h,trivial⟩,rfl⟩
    ·rw[qj]
     refine⟨⟨?_,trivial⟩,rfl⟩
     show(D.b (!(X.ev _ _).tt)).tt=true
     rw[h]
     rfl) rfl hbn hsf rfl hz fun n' r σ' l' B' p' w' a' hl' hpre hgo hb' hf' hd' hz'=>?_
   cases r with
   |ret=>exact hgo.elim
   | exit i =>
    match i,hgo with
    | 0, hgo =>
     -- the end of the loop
     obtain⟨⟨hlt,-⟩,hgo⟩:=hgo
     obtain⟨st,p5,hR,-,hb5,hf5⟩:=qls (n':=n') (c:=c2) hgo hpre rfl hb' hf'
     have hR:st=[]:=hR
     subst hR
     rw[zga,uP] at hf5
     have q2:l'.getD 2 .u=.i k:=by
      have:(l'.take 6).getD 2 .u=.i k:=by rw[hpre];rfl
      rw[gnG,uI (by omega),←gnG] at this
      exact this
     have q1:l'.getD 1 .u=.r (ws.map eW):=by
      have:(l'.take 6).getD 1 .u=.r (ws.map eW):=by rw[hpre];rfl
      rw[gnG,uI (by omega),←gnG] at this
      exact this
     have hlt:(D.b (!(D.b (decide ((l'.getD 2 .u).int<((l'.getD 1 .u).rs.length:Nat)))).tt)).tt=true:=hlt
     rw[q1,q2] at hlt
     have hk:k=ws.length:=by
      have:¬((k:Int)<(ws.length:Nat)):=by simpa[q5i,q35,yh] using hlt
      omega
     subst hk
     rw[kP] at hrun
     have hrun:(sk,o,(0:Int))=q5c s [] ws:=hrun
     rw[←hrun] at ho
     show Exit.inBlock z74 (Exit.then (wkZ.wpIn (FR none) 5 uA Q) Q) (.exit 0) a' w'
     rw[zrm]
     show wkZ.wpIn (FR none) 5 uA Q a' w'
     have hst5:∀b,b<W.heap.size→¬c2.A b→w'.heap[b]? =W.heap[b]? :=fun b hb hn=>(hb5.stays hb fun q hq=>hn (hbn.pa q _ hq)).1
     have hbs5:Bs c.A c.F w S0 p5 w':=hbs.up (show Bs c2.A c.F W (pinned p3) p5 w' from e2▸hb5) hA2
     refine qo5 none 5 (c:=c2) (z:=69) (w0:=w') (S0:=pinned p5) (d:=a'.defers) qh7 hfm wkZ (ids:=[]) (n:=6) (ann:=q9t) (k:=qik j8 uV 2 0 3 (.tok 0)) (R:=fun q=>q=outs) (B:=fun _ _=>False) (l:=[eS s,.r (ws.map eW),.i ws.length,eS sk,.r (o.map eC),.i 0]) (σ:=q73) (p:=p5) (by
      rw[hl2,zm6,ho]
      have hset:(X.set (.tok 3) 3 (.lit (.r []))).ev (evl (qe q78) [eS s,.r (ws.map eW),.i ws.length,eS sk,.r (o.map eC),.i 0])=eS {sk with wk:=[]}:=rfl
      have hg:qe q78 2 [.i 0,eS {sk with wk:=[]},eS s]=some [eS {sk with wk:=[]}]:=rfl
      unfold zts
      simp only[qj,q4n,q06,X.says,X.evs,X.ev,evl,uJ,uK,if_true]
      exact⟨⟨rfl,trivial⟩,rfl⟩) rfl hb5.anew hf5 rfl hz' (q60 rfl) (qln rfl) fun n7 r7 σ7 l7 B7 p7 W7 a7 hl7 hpre7 _ hgo7 hb7 hf7 hd7 hz7=>?_
     have q0:l7.getD 0 .u=eS s:=by
      have:(l7.take 6).getD 0 .u=eS s:=by rw[hpre7];rfl
      rw[gnG,uI (by omega),←gnG] at this
      exact this
     have hdf7:Dfs c2.A w.heap.size [dK] W7 a7.defers:=by
      rw[hd7,hd']
      exact(hdf.keep (S0:=S0) (p:=p3) hst5).keep (S0:=S0) (p:=p3) fun b hb hn=>(hb7.stays hb fun q hq=>hn (hb5.pa q _ hq)).1
     exact hfin n7 r7 σ7 l7 B7 p7 W7 a7 c2 hl7 hgo7 q0 e1 e2 e3 e4 hA2 (hbs5.up (show Bs c2.A c.F w' (pinned p5) p7 W7 from e2▸hb7) hA2) hb7.anew hf7 hdf7 hz7
    |i+1,hgo=>exact hgo.elim
   | normal =>
    -- a wake
    obtain⟨⟨hlt,-⟩,hgo⟩:=hgo
    obtain⟨st,p5,hR,-,hb5,hf5⟩:=qls (n':=n') (c:=c2) hgo hpre rfl hb' hf'
    have hR:st=[]:=hR
    subst hR
    rw[zga,uP] at hf5
    have q2:l'.getD 2 .u=.i k:=by
     have:(l'.take 6).getD 2 .u=.i k:=by rw[hpre];rfl
     rw[gnG,uI (by omega),←gnG] at this
     exact this
    have q1:l'.getD 1 .u=.r (ws.map eW):=by
     have:(l'.take 6).getD 1 .u=.r (ws.map eW):=by rw[hpre];rfl
     rw[gnG,uI (by omega),←gnG] at this
     exact this
    have hlt:(D.b (decide ((l'.getD 2 .u).int<((l'.getD 1 .u).rs.length:Nat)))).tt=true:=hlt
    rw[q1,q2] at hlt
    have hk:k<ws.length:=by
     have:((k:Int)<(ws.length:Nat)):=by simpa[q5i,q35,yh] using hlt
     omega
    have hst5:∀b,b<W.heap.size→¬c2.A b→w'.heap[b]? =W.heap[b]? :=fun b hb hn=>(hb5.stays hb fun q hq=>hn (hbn.pa q _ hq)).1
    have hbs5:Bs c.A c.F w S0 p5 w':=hbs.up (show Bs c2.A c.F W (pinned p3) p5 w' from e2▸hb5) hA2
    have hdf5:Dfs c2.A w.heap.size [dK] w' a'.defers:=by
     rw[hd']
     exact hdf.keep (S0:=S0) (p:=p3) hst5
    obtain⟨wk,hwk⟩:∃wk,ws[k]=wk:=⟨_,rfl⟩
    have hdr:ws.drop k=wk::ws.drop (k+1):=by rw[kI hk,hwk]
    rw[hdr] at hrun hok
    unfold z3u at hok
    rw[z6x] at hrun
    simp only[gnB,uM,gnD] at hok
    have hab:=zdu hok.1
    show(Code.seq (.block zro (seqs wkR (.seq wkY (.block zqs wkF)))) (sqR (sqR (sqR qhv)))).wpIn (FR none) 5 uA _ a' w'
    refine wpIn_seq (wpIn_block (q2p wkR ?_))
    refine qcf (c:=c2) (z:=69) none 5 qh7 hfm rfl wkR (n:=6) (ann:=q9t) (R:=fun q=>q=[eS sk,.r (o.map eC),.i 0,eW wk]) (B:=fun _ _=>False) (ts:=[]) (ms:=zni) (kill:=[]) (σk:=zo4) (d:=a'.defers) (l:=[eS s,.r (ws.map eW),.i k,eS sk,.r (o.map eC),.i 0]) (σ:=q73) (w0:=w') (S0:=pinned p5) (p:=p5) (by
     rw[hl2,zm1]
     unfold zud
     rw[qj]
     refine⟨⟨?_,?_,trivial⟩,?_⟩
     ·show(D.b (decide ((0:Int)≤(k:Int)))).tt=true
      rw[q5i,gnD]
      omega
     ·show(D.b (decide ((k:Int)<(((ws.map eW).length:Nat):Int)))).tt=true
      rw[q5i,gnD,uB]
      omega
     ·show[eS sk,D.r (o.map eC),D.i 0,(D.r (ws.map eW)).get (k:Int)]=_
      have:(D.r (ws.map eW)).get (k:Int)=eW wk:=by
       show((ws.map eW)[((k:Int)).toNat]?).getD .u=_
       simp[hk,hwk]
      rw[this]) rfl hb5.anew hf5 rfl hz' fun st p6 W6 a6 hR hst hb6 hf6 hd6 hz6=>?_
    have hR:st=[eS sk,.r (o.map eC),.i 0,eW wk]:=hR
    subst hR
    rw[zlf] at hf6
    have hst6:∀b,b<w'.heap.size→¬c2.A b→W6.heap[b]? =w'.heap[b]? :=fun b hb hn=>(hb6.stays hb fun q hq=>hn (hb5.pa q _ hq)).1
    have hbs6:Bs c.A c.F w S0 p6 W6:=hbs5.up (show Bs c2.A c.F w' (pinned p5) p6 W6 from e2▸hb6) hA2
    have hdf6:Dfs c2.A w.heap.size [dK] W6 a6.defers:=by
     rw[hd6]
     exact hdf5.keep (S0:=S0) (p:=p3) hst6
    have so:sk.ok:=ztc (hf6.m 0 ⟨.tok 6,qb,qq 0 qb,[]⟩ (by kernel_rfl)) rfl
    have hnew:∀{A3:Nat→Prop}{W':World}{a2:Act}{D:Nat},(∀b,A3 b→c2.A b)→¬A3 D→W6.heap.size≤D→W'.heap[D]? =some (.deferred (some []))→a2.defers=qx0 D::a6.defers→(∀b,b<W6.heap.size→¬pinned p6 b→W'.heap[b]? =W6.heap[b]?)→Dfs A3 w.heap.size [dK] W' a2.defers:=fun{A3 W' a2 D}hA3 hD hDl hDh hde hold=>by
     obtain⟨Ds,f1,f2,f3⟩:=hdf6
     have hs6:=hbs6.but.size
     refine⟨D::Ds,by rw[hde,f1];rfl,List.nodup_cons.2 ⟨fun hm=>?_,f2⟩,fun D' hm=>?_⟩
     ·have:=qr (f3 D hm).2.1
      omega
     ·rcases List.mem_cons.1 hm with rfl|hm
      ·exact⟨by omega,hDh,hD⟩
      ·obtain⟨g1,g2,g3⟩:=f3 D' hm
       exact⟨g1,(hold D' (qr g2) fun⟨q,hq⟩=>g3 (hb6.pa q _ hq)).trans g2,fun h=>g3 (hA3 _ h)⟩
    refine zi0 (c2:=c2) (p8:=p6) hl2 hfz2 hb6.anew hf6 hz6 hok.1 (by omega) so (fun A3 p' W' a2 D hA3 hD hDl hDh hde hz2 hold hb8 hbn8 he hs8 hlen=>?_) (fun A3 p' W' a2 D hA3 hD hDl hDh hde hz2 hold hb8 hbn8 he hs8=>?_)
    ·-- the next wake
     show(sqR (sqR (sqR qhv))).wpIn (FR none) 5 uA _ a2 W'
     have hdf8:=hnew hA3 hD hDl hDh hde hold
     have hbs8:Bs c.A c.F w S0 p' W':=hbs6.up (show Bs c2.A c.F W6 (pinned p6) p' W' from e2▸hb8) hA2
     obtain⟨r,hr⟩:∃r,r=q03 wk.val sk o (yx sk wk.att):=⟨_,rfl⟩
     rw[←hr] at hs8 he hlen hrun hok
     obtain⟨c3,hc3⟩:∃c3:Cx,c3={c2 with A:=A3}:=⟨_,rfl⟩
     have hc3A:c3.A=A3:=by rw[hc3]
     have hc3F:c3.F=c2.F:=by rw[hc3]
     have hc3l:c3.lo=1:=by rw[hc3];exact hl2
     have pre:=qcf (c:=c3) (z:=69) none 5 qh7 (fun te=>by rw[hc3F];exact hfm te) rfl wkN (n:=6) (ann:=q9t) (R:=fun q=>q=[.i ((k+1:Nat):Int)]) (B:=fun _ _=>False) (ts:=[(26,.int .i64,[],[])]) (ms:=[]) (kill:=[]) (σk:=⟨q73.t.filter (fun e=> !Nat.beq e.1 26),q73.m⟩) (d:=a2.defers) (l:=[eS s,.r (ws.map eW),.i k,eS r.1,.r (r.2.1.map eC),.i 0]) (σ:=q73) (w0:=W') (S0:=pinned p') (p:=p') (a:=a2) (w:=W') (Q:=fun _ _ _=>False) (K:=fun a3 W3=>zu5 c w S0 dK s ws (k+1) a3 W3) (by
      rw[hc3l,znk]
      unfold zu1
      rw[qj]
      have hr:i64 ((k:Int)+1):=by
       unfold i64
       omega
      simp only[q06,X.says,X.ev,evl,uJ,uK,yh,q5i,q6k,hr,and_self,true_and]
      rfl) rfl (by rw[hc3A,hc3F];exact hbn8) (by rw[hc3];exact hs8) rfl hz2 fun st p9 W9 a9 hR9 hst9 hb9 hf9 hd9 hz9=>?_
     ·refine wpIn_mono pre fun e a3 W3 hq=>?_
      cases e with
      |normal=>exact z1m hlo hfz hwl ho hfin f (k+1) a3 W3 hq (by omega)
      |_=>exact hq.elim
     ·have hR9:st=[.i ((k+1:Nat):Int)]:=hR9
      subst hR9
      rw[show q3l [(26,.int .i64,[],[])] [] 6 (q2t [(26,.int .i64,[],[])] [] [] 6 ⟨q73.t.filter (fun e=> !Nat.beq e.1 26),q73.m⟩)=ztm from zn9] at hf9
      have hst9:∀b,b<W'.heap.size→¬A3 b→W9.heap[b]? =W'.heap[b]? :=fun b hb hn=>(hb9.stays hb fun q hq=>hn (hbn8.pa q _ hq)).1
      rw[hc3A,hc3F] at hb9
      refine⟨c3,p9,r.1,r.2.1,by rw[hc3];exact e1,by rw[hc3];exact e2,by rw[hc3];exact e3,by rw[hc3];exact e4,fun b h=>hA2 b (hA3 b (by rw[←hc3A];exact h)),hbs8.up (show Bs A3 c.F W' (pinned p') p9 W9 from e2▸hb9) fun b h=>hA2 b (hA3 b h),by rw[hc3A,hc3F];exact hb9.anew,?_,?_,hz9,?_,?_,?_,?_,hk⟩
      ·refine⟨fun t x hx=>?_,fun j e he=>?_⟩
       ·have hx:=qx hx
        simp only[q73,gnM] at hx
        rcases hx with⟨rfl,rfl⟩|⟨rfl,rfl⟩|⟨rfl,rfl⟩|⟨rfl,rfl⟩|⟨rfl,rfl⟩|⟨rfl,rfl⟩|⟨rfl,rfl⟩
        ·exact hf9.t 0 (.ref 0 [] 0 qb) (by kernel_rfl)
        ·exact hf9.t 1 (.bx 1 41 (.ref 0 [] 0 qb)) (by kernel_rfl)
        ·exact hf9.t 2 (.ref 2 [] 0 yb) (by kernel_rfl)
        ·exact hf9.t 3 (.sn (VB+3) (.ref 3 [] 0 yr)) (by kernel_rfl)
        ·exact hf9.t 24 (.v (.tok 1) q4y [(0,385)] []) (by kernel_rfl)
        ·exact hf9.t 25 (.v (.len (.tok 1)) (.int .i64) [] []) (by kernel_rfl)
        ·exact hf9.t 26 (.v (.tok 6) (.int .i64) [] []) (by kernel_rfl)
       ·have he:=qx he
        simp only[q73,gnM] at he
        rcases he with⟨rfl,rfl⟩|⟨rfl,rfl⟩|⟨rfl,rfl⟩
        ·exact hf9.m 0 ⟨.tok 3,qb,qq 0 qb,[]⟩ (by kernel_rfl)
        ·exact hf9.m 2 ⟨.tok 4,yb,[(0,33)],[]⟩ (by kernel_rfl)
        ·exact hf9.m 3 ⟨.tok 5,yr,[],[]⟩ (by kernel_rfl)
      ·rw[hd9,hc3A]
       exact hdf8.keep (S0:=S0) (p:=p3) hst9
      ·rw[if_pos he] at hrun
       exact hrun
      ·rcases hok.2 with h|h
       ·exact absurd he h
       ·exact h
      ·rw[hr]
       exact hgr.trans (qir _ _ _ _ hok.1)
      ·have:r.2.1.length≤o.length+(yx sk wk.att).length:=hlen
       omega
    ·-- the return from within
     have hdf8:=hnew hA3 hD hDl hDh hde hold
     have hbs8:Bs c.A c.F w S0 p' W':=hbs6.up (show Bs c2.A c.F W6 (pinned p6) p' W' from e2▸hb8) hA2
     rw[if_neg he] at hrun
     have hgt:qbw s (q03 wk.val sk o (yx sk wk.att)).1:=hgr.trans (qir _ _ _ _ hok.1)
     obtain⟨r,hr⟩:∃r,r=q03 wk.val sk o (yx sk wk.att):=⟨_,rfl⟩
     rw[←hr] at hs8 he hrun hgt
     rw[←hrun,if_neg he] at ho
     show Q .ret a2 W'
     refine hfin 4 .ret wkE [eS s,eS r.1,.r [],.i r.2.2] (fun _ _=>False) p' W' a2 {c2 with A:=A3} rfl ?_ rfl e1 e2 e3 e4 (fun b h=>hA2 b (hA3 b h)) hbs8 hbn8 hs8 hdf8 hz2
     rw[zn6,ho]
     have hg:qe q78 2 [.i r.2.2,eS r.1,eS s]=some [eS (z79 s r.1)]:=zm0 hgt.1 hgt.2.1 (by rw[hgt.2.2.2.1];exact uC _) he
     unfold zu7
     simp only[qj,q4n,q06,X.says,X.evs,X.ev,evl,uJ,uK,hg]
     exact⟨⟨rfl,trivial⟩,rfl⟩
  have e:=qm2
  rw[←e] at hW
  exact hW
end
set_option maxHeartbeats 1000000 in
theorem qxn:FOk j8 zpy:=by
 refine zey uV 2 wkC qh7 (fun l=>rfl) Tryz.func23 zjc q3c (by rw[zo1];decide) rfl zsj (ann:=q9t) wkK fun ds outs hwf hg=>?_
 obtain⟨d,r',rfl,hs,rfl⟩:=hwf
 obtain⟨s,rfl,so⟩:=wfS hs
 simp only[zpy,qy] at hg
 split at hg
 case isFalse=>cases hg
 rename_i hcond
 obtain⟨hw1,hc1,hwb⟩:=hcond
 have hg:=(gnI hg).symm
 refine⟨fun q=>q=[.r (s.wk.map eW),.i ((s.wk.map eW).length:Nat),.i 0,eS s,.r [],.i 0],fun _ _=>False,?_,?_⟩
 ·show(q6o uA q78 q9t 1 uV.ntmps zso 1 (qt5 j8) _).go _ _ _ _
  rw[zo1,zmc]
  have hq:zfm 3518437208780 (.r (s.wk.map eW))=true:=by
   simp only[zfm,q35,uB,gnD]
   omega
  have h0:qe q78 0 [.r (s.wk.map eW)]=some [.r (s.wk.map eW)]:=by
   have ht:qe q78 0=gCl 3518437208780:=rfl
   rw[ht]
   simp only[gCl,hq,if_true]
  have h1:qe q78 1 [.r (s.wk.map eW)]=some []:=by
   have ht:qe q78 1=zly:=rfl
   rw[ht]
   simp only[zly,q35,uB,if_pos hw1]
  unfold ztr
  simp only[qj,q4n,q06,X.says,X.evs,X.ev,evl,uJ,uK,qxs,h0,h1,kB,kA,q35,q5i,and_self,and_true,true_and]
 ·intro c p w a S0 Q l n σ ks te was B dK hgo hl hpre hup hlo hfz hp0 hfr0 hb hf hd hz hfin
  unfold wkK at hgo
  split at hgo
  case isFalse=>exact hgo.elim
  rename_i hok
  simp only[gnB] at hok
  obtain⟨h1,h2,h3,h4⟩:=hok
  obtain rfl:=gnN h1
  obtain rfl:=gnN h2
  obtain rfl:=gnN h3
  obtain rfl:=X.beq_ok _ _ h4
  have hlo:c.lo=1:=hlo
  have hz:a.tmps.size=69:=hz.trans zo1
  have hl1:l=[eS s]:=by
   have e:l.take 1=[eS s]:=hpre
   rw[←e,kK (by omega)]
  subst hl1
  have hcl:Code.wpIn (FR none) 5 uA (seqs [sqL q8d,sqL (sqR q8d)] (.seq (.seq (sqL (sqL zaa)) (.block z74 (.loop qhv))) wkZ)) Q a w:=by
   refine q2p _ ?_
   have pre:qby (FR none) 5 uA Q zsp (fun a1 W1=>(Code.block z74 (.loop qhv)).wpIn (FR none) 5 uA (Exit.then (wkZ.wpIn (FR none) 5 uA Q) Q) a1 W1) a w:=by
    refine qcf (c:=c) (z:=69) none 5 qh7 (fun te=>by rw[hfz];exact uO _) rfl zsp (n:=1) (ann:=q9t) (R:=fun q=>q=[.r (s.wk.map eW),.i ((s.wk.map eW).length:Nat),.i 0,eS s,.r [],.i 0]) (B:=B) (ts:=wkI) (ms:=wkM) (kill:=[]) (σk:=wkQ) (d:=[dK]) (l:=[eS s]) (σ:=σ) (w0:=w) (S0:=S0) (p:=p) (by rw[hlo];exact hgo) rfl hb hf hd hz fun st p1 W1 a1 hR hst hb1 hf1 hd1 hz1=>?_
    have hR:st=[.r (s.wk.map eW),.i ((s.wk.map eW).length:Nat),.i 0,eS s,.r [],.i 0]:=hR
    subst hR
    rw[show q3l wkI wkM 1 (q2t wkI wkM [] 1 wkQ)=zti from zl0] at hf1
    refine wpIn_block (wpIn_loop_rounds (s.wk.length+1) ?_)
    refine z1m (c:=c) (w:=w) (S0:=S0) (dK:=dK) (s:=s) (ws:=s.wk) (outs:=outs) hlo hfz (by omega) ?_ ?_ (s.wk.length+1) 0 a1 W1 ?_ (by omega)
    ·rw[hg]
     unfold zdo
     split<;>rfl
    ·intro n' r σ' l' B' p' w' a' c2 q1 q2 q3 q4 q5 q6 q7 q8 q9 q10 q11 q12 q13
     exact hfin n' r σ' l' B' p' w' a' c2 q1 q2 q3 q4 q5 q6 q7 q8 q9 q10 q11 q12 (q13.trans zo1.symm)
    ·refine⟨c,p1,s,[],rfl,rfl,rfl,rfl,fun _ h=>h,hb1,hb1.anew,?_,⟨[],by rw[hd1];rfl,by simp,fun D hD=>nomatch hD⟩,hz1,rfl,hwb,qbw.refl s,by simp,uO _⟩
     refine⟨fun t x hx=>?_,fun j e he=>?_⟩
     ·have hx:=qx hx
      simp only[q73,gnM] at hx
      rcases hx with⟨rfl,rfl⟩|⟨rfl,rfl⟩|⟨rfl,rfl⟩|⟨rfl,rfl⟩|⟨rfl,rfl⟩|⟨rfl,rfl⟩|⟨rfl,rfl⟩
      ·exact hf1.t 0 (.ref 0 [] 0 qb) (by kernel_rfl)
      ·exact hf1.t 1 (.bx 1 41 (.ref 0 [] 0 qb)) (by kernel_rfl)
      ·exact hf1.t 2 (.ref 2 [] 0 yb) (by kernel_rfl)
      ·exact hf1.t 3 (.sn (VB+3) (.ref 3 [] 0 yr)) (by kernel_rfl)
      ·exact hf1.t 24 (.v (.tok 1) q4y [(0,385)] []) (by kernel_rfl)
      ·exact hf1.t 25 (.v (.tok 2) (.int .i64) [] []) (by kernel_rfl)
      ·exact hf1.t 26 (.v (.tok 3) (.int .i64) [] []) (by kernel_rfl)
     ·have he:=qx he
      simp only[q73,gnM] at he
      rcases he with⟨rfl,rfl⟩|⟨rfl,rfl⟩|⟨rfl,rfl⟩
      ·exact hf1.m 0 ⟨.tok 4,qb,qq 0 qb,[]⟩ (by kernel_rfl)
      ·exact hf1.m 2 ⟨.tok 5,yb,[(0,33)],[]⟩ (by kernel_rfl)
      ·exact hf1.m 3 ⟨.tok 6,yr,[],[]⟩ (by kernel_rfl)
   refine q7r (Q:=Q) (Q':=Q) (fun e a w _ h=>h) [sqL q8d,sqL (sqR q8d)] (fun a w h=>?_) (qd5 [sqL q8d,sqL (sqR q8d)] [sqL (sqL zaa)] pre)
   refine wpIn_seq (wpIn_seq (wpIn_mono h fun e a w hq=>?_))
   cases e with
   |normal=>exact hq
   |_=>exact hq
  have e:=ze4
  rw[←e] at hcl
  exact hcl
end
def jx(s:So)(d:Ce):List At:=if d.t=5 then yx s (cellAt s (d.n+2)) else[]
abbrev zfh(s:So):Bool:=decide (s.cs.length≤4000000000000)
theorem z69(s:So)(d:Ce)(h:s.cs.length≤4000000000000):(jx s d).length≤4000000000000:=by
 unfold jx
 split
 ·exact uQ (qbi s s.cs.length _ []) h
 ·simp
theorem z78{s:So}{v:Ce}(hb:zfh s=true)(h:(zw s v).2=true):zaq [eS s,eC (zw s v).1]=some [.r ((jx s (zw s v).1).map eA)]:=by
 simp only[zaq,qy,yt,jx]
 by_cases h5:(zw s v).1.t=5
 ·have hin:inS s ((zw s v).1.n+2)=true:=by
   unfold zw at h h5⊢
   split at h
   ·rename_i hv
    rw[if_pos hv] at h5
    split at h
    ·rename_i h0
     rw[if_pos h0] at h5
     have h5:(q2s s v).t=5:=h5
     omega
    ·rename_i h0
     rw[if_neg h0] at h5
     split at h
     ·rename_i h1
      simp only[if_pos hv,if_neg h0,if_pos h1]
      simp only[gnB] at h
      exact h.2
     ·rename_i h1
      rw[if_neg h1] at h5
      exact absurd h5 (by decide)
   ·cases h
  rw[if_pos h5,if_pos ⟨hin,of_decide_eq_true hb⟩,if_pos h5]
 ·rw[if_neg h5,if_neg h5]
  rfl
theorem qh6{l:List At}(h:¬q1s l nm<0):0≤q1s l nm∧q1s l nm<l.length:=by
 unfold q1s at h⊢
 split
 ·rename_i i hi
  have:=(uT.1 hi).1
  omega
 ·rename_i hi
  rw[hi] at h
  exact absurd (by decide) h
section
section
variable{s:So}(hv:qw s=true)
include hv
theorem ziw(c:Ce):vcP s c=vcR s c:=(qal hv).vc c
theorem tagz(n:Int):0≤q37 s n↔inS s n=true:=by
 have:=(qal hv).tag_in n
 rw[←this]
 simp
theorem zpi:∀(k:Nat)(c:Ce),za9 s k c=qad s k c
 |0,c=>rfl
 |k+1,c=>by
  unfold za9 qad
  by_cases h:c.t=0∧inS s c.n=true∧cellAt s c.n≠c
  ·rw[if_pos h,if_pos ⟨h.1,(tagz hv _).2 h.2.1,h.2.2⟩,zpi k]
  ·rw[if_neg h,if_neg (fun q=>h ⟨q.1,(tagz hv _).1 q.2.1,q.2.2⟩)]
theorem derz(c:Ce):q2s s c=jt s c:=by
 unfold q2s jt
 rw[ziw hv]
 cases h:vcR s c with
 |false=>rfl
 |true=>rw[if_pos rfl,if_pos rfl,zpi hv,zcs hv h]
theorem z4c{c:Ce}(hc:vcR s c=true)(h3:c.t=3):inS s c.n=true∧(cellAt s c.n).t=4∧0≤(cellAt s c.n).n∧(cellAt s c.n).n<s.ys.length∧arS s (cellAt s c.n).n=(q90 s (cellAt s c.n).n).ar∧∀j:Nat,(j:Int)<(q90 s (cellAt s c.n).n).ar→inS s (c.n+1+j)=true∧vcR s (cellAt s (c.n+1+j))=true:=by
 unfold vcR at hc
 rw[if_neg (by omega),if_neg (by omega),if_neg (by omega),if_pos h3] at hc
 have h4:q37 s c.n=4:=of_decide_eq_true hc
 have hi:inS s c.n=true:=by
  unfold q37 at h4
  split at h4
  ·assumption
  ·omega
 rw[q1l hi] at h4
 obtain⟨a1,a2,a3⟩:=zsg hv hi h4
 obtain⟨b1,b2,b3⟩:=z99 (show 0≤arS s (cellAt s c.n).n by omega)
 exact⟨hi,h4,b1,b2,b3,fun j hj=>a3 j (by rw[b3];exact hj)⟩
theorem z7m{c:Ce}(hc:vcR s c=true)(h2:c.t=2):0≤c.n∧c.n<s.ys.length:=by
 unfold vcR at hc
 rw[if_neg (by omega),if_neg (by omega),if_pos h2] at hc
 have h0:arS s c.n=0:=of_decide_eq_true hc
 obtain⟨b1,b2,-⟩:=z99 (show 0≤arS s c.n by omega)
 exact⟨b1,b2⟩
end
def qxv(s:So)(c:Ce)(nm:ByteArray)(k:Int):Bool:=decide (c.t=3)&&decide (q90 s (cellAt s c.n).n=⟨nm,k⟩)
def zbd:List D→Option (List D)
 |[s,c,nm,k]=>if qw (dS s)&&vcR (dS s) (dC c) then some [.b (qxv (dS s) (dC c) nm.str k.int)] else none
 |_=>none
theorem qmh:FOk q0c zbd:=qkg fun ds outs hw hg=>by
 obtain⟨d,r,rfl,hd,e,r',rfl,he,f,r2,rfl,hf,g,r3,rfl,hk,rfl⟩:=hw
 obtain⟨s,rfl,hs⟩:=wfS hd
 obtain⟨c,rfl,hc⟩:=wfC he
 obtain⟨nm,rfl,hn⟩:=hf.str
 obtain⟨k,rfl,hk⟩:=wfI hk
 simp only[zbd,qy,yt,q1z,yh,uN,uR,gnB] at hg
 obtain⟨⟨hv,hcv⟩,rfl⟩:=hg
 have ek:D.a [.s nm,.i k]=eY ⟨nm,k⟩:=rfl
 by_cases h3:c.t=3
 ·obtain⟨a1,a2,a3,a4,a5,-⟩:=z4c hv hcv h3
  have i1:=ql.1 a1
  have eg:(D.r (s.ys.map eY)).get (cellAt s c.n).n=eY (q90 s (cellAt s c.n).n):=z0b eY a3 a4
  simp only[q3p,gnZ,zb a1,eg,ek,h3,qxv]
  simp[a3,a4,i1.1,i1.2,h3]
 ·simp only[q3p,gnZ,h3,qxv]
  simp[h3]
def qxg(l:List ByteArray)(nm:ByteArray):Int:=match l.findIdx? fun a=>decide (a=nm) with
 |some i=>i
 |none=> -1
def qle:List D→Option (List D)
 |[l,nm]=>some [.i (qxg (l.rs.map D.str) nm.str)]
 |_=>none
theorem zte(h:Wf d (.row 9)):∃l:List ByteArray,d=.r (l.map .s)∧l.length≤8796093021952:=by
 obtain⟨l,rfl,h1,h2⟩:=h.row_of (te:=.str) rfl
 obtain⟨m,rfl,h3⟩:=qdx (e:=D.s) (P:=fun _=>True) fun x hx=>by
  obtain⟨s,e,-⟩:=(h2 x hx).str
  exact⟨s,e,trivial⟩
 have e:LM .str=8796093021952:=by kernel_rfl
 rw[uB,e] at h1
 exact⟨m,rfl,h1⟩
theorem qft(l:List ByteArray):(l.map D.s).map D.str=l:=by
 rw[List.map_map]
 exact List.map_id _
theorem zef{l:List ByteArray}:qxg l nm<0↔nm∉l:=by
 unfold qxg
 split
 ·rename_i i hi
  obtain⟨h1,h2,-⟩:=uT.1 hi
  have h2:l[i]=nm:=by simpa using h2
  constructor
  ·intro h
   omega
  ·intro h
   exact absurd (h2▸List.getElem_mem h1) h
 ·rename_i hi
  rw[kH] at hi
  constructor
  ·intro _ hm
   have:=hi nm hm
   simp at this
  ·intro _
   decide
theorem zfo(l:List At)(nm:ByteArray):qxg (l.map At.name) nm=q1s l nm:=by
 unfold qxg q1s
 rw[List.findIdx?_map]
 rfl
set_option maxHeartbeats 1000000 in
theorem q71:FOk zn qle:=qjm fun ds outs hw hg=>by
 obtain⟨d,r,rfl,hd,e,r',rfl,he,rfl⟩:=hw
 obtain⟨l,rfl,hl⟩:=zte hd
 obtain⟨nm,rfl,hn⟩:=he.str
 simp only[qle,q35,qft,q1z,uR] at hg
 subst hg
 rw[q5j,j3]
 refine⟨fun st=>∃k:Nat,k≤l.length∧st=[.i 0,.i k]∧∀j,j<k→l.getD j default≠nm,fun st=>l.length - (st.getD 1 .u).int.toNat,⟨0,uO _,rfl,fun j hj=>absurd hj (kE _)⟩,?_⟩
 rintro st - ⟨k,hk,rfl,hP⟩
 rw[zd]
 refine⟨fun hlt=>?_,fun hlt=>?_⟩
 ·simp only[gnZ] at hlt
  have hkl:k<l.length:=by omega
  simp only[gnZ,q3k D.s hkl]
  refine⟨⟨by omega,by omega⟩,fun hx=>?_,fun hx=>⟨⟨by omega,by omega⟩,?_⟩⟩
  ·have hf:(l.findIdx? fun a=>decide (a=nm))=some k:=by
    rw[uT]
    refine⟨hkl,?_,fun j hj=>?_⟩
    ·have e:l.getD k default=l[k]:=by rw[gnG,gnK hkl];rfl
     rw[e] at hx
     simpa using hx
    ·have:=hP j hj
     rw[gnG,gnK (by omega)] at this
     simpa using this
   rw[qxg,hf]
  ·rw[q2r,if_pos rfl]
   refine⟨⟨k+1,by omega,by simp,q2u hP (by simpa using hx)⟩,?_⟩
   simp[D.int]
   omega
 ·simp only[gnZ] at hlt⊢
  have:k=l.length:=by omega
  subst this
  have hf:(l.findIdx? fun a=>decide (a=nm))=none:=by
   rw[kH]
   intro a ha
   obtain⟨j,hj,rfl⟩:=List.getElem_of_mem ha
   have:=hP j hj
   rw[gnG,gnK hj] at this
   simpa using this
  rw[qxg,hf]
theorem q7s{s:So}(hv:qw s=true){x:Ce}(h:vcR s x=true)(h5:x.t=5):inS s x.n=true∧cellAt s x.n=x∧inS s (x.n+2)=true∧vcR s (cellAt s (x.n+2))=true:=by
 unfold vcR at h
 rw[if_neg (by omega),if_neg (by omega),if_neg (by omega),if_neg (by omega),if_pos h5] at h
 have ht:q37 s x.n=5:=of_decide_eq_true h
 have hi:inS s x.n=true:=by
  unfold q37 at ht
  split at ht
  ·assumption
  ·omega
 rw[q1l hi] at ht
 have hc:=qds hv hi
 unfold q5t at hc
 rw[if_neg (by omega)] at hc
 simp only[gnB,uM,uU,decide_eq_false_iff_not,gnD] at hc
 obtain⟨hn,hg⟩:(cellAt s x.n).n=x.n∧qcs s x.n=true:=by
  rcases hc.2.2 with q|q
  ·exact(q ht).elim
  ·exact q
 simp only[qcs,gnB,gnD,uU,decide_eq_false_iff_not] at hg
 have h2:inS s (x.n+2)=true:=(tagz hv _).1 hg.2.2.2.1
 refine⟨hi,Ce.ext' (ht.trans h5.symm) hn,h2,z84 hv h2 ?_⟩
 have:=hg.2.2.2.2.1
 rwa [q1l h2] at this
theorem qay{s:So}(hv:qw s=true){c:Ce}(hc:vcR s c=true)(nm:ByteArray):qii s c nm=qxv s c nm 2:=by
 rw[Bool.eq_iff_iff,q3e]
 unfold qxv
 simp only[gnB,gnD]
 constructor
 ·rintro⟨h1,-,-,-,-,-,h7⟩
  exact⟨h1,h7⟩
 ·rintro⟨h1,h7⟩
  obtain⟨a1,a2,a3,a4,a5,a6⟩:=z4c hv hc h1
  have:=(a6 1 (by rw[h7];show(1:Int)<2;decide)).1
  exact⟨h1,a1,by rw[show c.n+2=c.n+1+(1:Nat) by omega];exact this,a2,a3,a4,h7⟩
theorem z7j{s:So}(hv:qw s=true){c:Ce}(hc:vcR s c=true)(h:qxv s c nm 2=true):inS s (c.n+1)=true∧vcR s (cellAt s (c.n+1))=true∧inS s (c.n+2)=true∧vcR s (cellAt s (c.n+2))=true:=by
 unfold qxv at h
 simp only[gnB,gnD] at h
 obtain⟨h1,h7⟩:=h
 obtain⟨a1,a2,a3,a4,a5,a6⟩:=z4c hv hc h1
 have b0:=a6 0 (by rw[h7];show(0:Int)<2;decide)
 have b1:=a6 1 (by rw[h7];show(1:Int)<2;decide)
 rw[show c.n+1+((0:Nat):Int)=c.n+1 by omega] at b0
 rw[show c.n+1+((1:Nat):Int)=c.n+2 by omega] at b1
 exact⟨b0.1,b0.2,b1.1,b1.2⟩
theorem zk6{s:So}(hv:qw s=true){c:Ce}(hc:vcR s c=true):qfj s c=decide (c.t=2):=by
 unfold qfj
 by_cases h:c.t=2
 ·obtain⟨h1,h2⟩:=z7m hv hc h
  simp[h,h1,h2]
 ·simp[h]
def q2h(l:List At):D:=.r ((l.map At.name).map .s)
def q3v(l:List At):D:=.r (l.map fun x=>eC x.val)
def z08:List D→Option (List D)
 |[s,c]=>if qw (dS s)&&vcR (dS s) (dC c) then some [q2h (yx (dS s) (dC c)),q3v (yx (dS s) (dC c))] else none
 |_=>none
theorem zfz(l:List At)(x:At):(D.r ((q2h l).rs++[.s x.name]))=q2h (l++[x]):=by simp[q2h,D.rs]
theorem zh9(l:List At)(x:At):(D.r ((q3v l).rs++[eC x.val]))=q3v (l++[x]):=by simp[q3v,D.rs]
set_option maxHeartbeats 2000000 in
theorem q9z:FOk y8 z08:=qgl qg8 qmh q71 qch fun ds outs hw hg=>by
 obtain⟨d,r,rfl,hd,e,r',rfl,he,rfl⟩:=hw
 obtain⟨s,rfl,hs⟩:=wfS hd
 obtain⟨c0,rfl,hc0⟩:=wfC he
 simp only[z08,qy,yt,uN,uR,gnB] at hg
 obtain⟨⟨hv,hcv⟩,rfl⟩:=hg
 have hl:=z40 hv
 have hD:∀c,za7 [eS s,eC c]=some [eC (jt s c)]:=fun c=>by
  simp only[za7,qy,yt]
  rw[if_pos hv]
 have hF:∀c nm,vcR s c=true→zbd [eS s,eC c,.s nm,.i 2]=some [.b (qxv s c nm 2)]:=fun c nm hc=>by
  simp only[zbd,qy,yt,hv,hc,q1z,yh,kU,if_true]
 have hP:∀(l:List At)nm,qle [q2h l,.s nm]=some [.i (qxg (l.map At.name) nm)]:=fun l nm=>by
  simp only[qle,q2h,q35,qft,q1z]
 have hK:∀c,q5m [eC c]=some [eC (q1f c)]:=fun c=>by
  simp only[q5m,yt]
 rw[q3z,qj]
 refine⟨by simp[gnZ,hD],?_⟩
 rw[j3]
 refine⟨fun st=>∃(L:List At)(i:Nat)(c:Ce)(met:List ByteArray),i≤s.cs.length∧vcR s c=true∧st=[q2h L,q3v L,.i i,eC (jt s c)]∧L++q6r s (s.cs.length - i) c met=yx s c0∧(∀nm,hasB met nm=true↔nm∈L.map At.name)∧L.length≤i,fun st=>s.cs.length - (st.getD 2 .u).int.toNat,⟨[],0,c0,[],uO _,hcv,by simp[gnZ,hD,q2h,q3v],rfl,by simp[hasB],uC _⟩,?_⟩
 rintro st - ⟨L,i,c,met,hi,hc,rfl,hrest,hmet,hLi⟩
 have hcd:=qa5 hv hc
 have hnl:(q2h L).rs.length=L.length:=by simp[q2h,D.rs]
 have hvl:(q3v L).rs.length=L.length:=by simp[q3v,D.rs]
 rw[zd]
 refine⟨fun hlt=>?_,fun hlt=>?_⟩
 ·simp only[gnZ] at hlt
  have hil:i<s.cs.length:=by omega
  obtain⟨k,hk⟩:∃k,s.cs.length - i=k+1:=⟨s.cs.length - i - 1,by omega⟩
  rw[hk] at hrest
  unfold q6r at hrest
  rw[qj]
  refine⟨by simp[gnZ,hF _ _ hcd],?_⟩
  rw[zd]
  have e1:=hF (jt s c) ⟨#[46]⟩ hcd
  cases hf1:qxv s (jt s c) ⟨#[46]⟩ 2 with
  | false =>
   have hnx:q59 s c=none:=by
    unfold q59
    rw[derz hv,qay hv hcd,hf1]
    rfl
   rw[hnx] at hrest
   have hrest:L++[]=yx s c0:=hrest
   rw[uP] at hrest
   rw[hf1] at e1
   simp only[gnZ,e1]
   simp[hrest]
  | true =>
   rw[hf1] at e1
   obtain⟨a1,a2,a3,a4⟩:=z7j hv hcd hf1
   have p1:=ql.1 a1
   have p3:=ql.1 a3
   generalize hC:jt s c=C at *
   have hpd:=qa5 hv a2
   have e2:=hF (jt s (cellAt s (C.n+1))) ⟨#[45]⟩ hpd
   generalize hPp:jt s (cellAt s (C.n+1))=P at *
   cases hf2:qxv s P ⟨#[45]⟩ 2 with
   | false =>
    have hnx:q59 s c=none:=by
     unfold q59
     simp only[derz hv,hC,hPp,qay hv hcd,qay hv hpd,hf1,hf2,if_true,gnF,if_false]
    rw[hnx] at hrest
    have hrest:L++[]=yx s c0:=hrest
    rw[uP] at hrest
    rw[hf2] at e2
    simp only[gnZ,e1,hD,zb a1,hPp,e2]
    simp[hrest,p1]
    omega
   | true =>
    rw[hf2] at e2
    obtain⟨b1,b2,b3,b4⟩:=z7j hv hpd hf2
    have r1:=ql.1 b1
    have r3:=ql.1 b3
    have hkd:=qa5 hv b2
    generalize hKk:jt s (cellAt s (P.n+1))=K at *
    by_cases h2:K.t=2
    ·obtain⟨n1,n2⟩:=z7m hv hkd h2
     have eg:(D.r (s.ys.map eY)).get K.n=eY (q90 s K.n):=z0b eY n1 n2
     have hnx:q59 s c=some ((q90 s K.n).name,cellAt s (C.n+2),cellAt s (P.n+2)):=by
      unfold q59
      simp only[derz hv,hC,hPp,hKk,qay hv hcd,qay hv hpd,zk6 hv hkd,hf1,hf2,h2,if_true,decide_true]
      rfl
     rw[hnx] at hrest
     simp only at hrest
     have hpn:=zef (l:=L.map At.name) (nm:=(q90 s K.n).name)
     have hkk:s.cs.length - (i+1)=k:=by omega
     by_cases hin:hasB met (q90 s K.n).name=true
     ·have hpos:¬qxg (L.map At.name) (q90 s K.n).name<0:=fun h=>hpn.1 h ((hmet _).1 hin)
      rw[hin] at hrest
      simp only[gnZ,e1,hD,zb a1,hPp,e2,zb b1,hKk,h2,eg,hP,hpos,zb a3]
      refine⟨fun h=>(by cases h),fun _=>⟨⟨by omega,by omega,by omega,by omega⟩,fun h=>(by cases h),fun _=>⟨⟨by omega,by omega,by omega,by omega⟩,fun h=>(by cases h),fun _=>⟨⟨n1,n2⟩,fun h=>(by cases h),fun _=>⟨⟨by omega,by omega,by omega,by omega⟩,⟨by omega,by omega⟩,?_⟩⟩⟩⟩⟩
      rw[q2r,if_pos rfl]
      refine⟨⟨L,i+1,cellAt s (C.n+2),(q90 s K.n).name::met,by omega,a4,by simp,by rw[hkk];simpa using hrest,fun nm=>?_,by omega⟩,?_⟩
      ·have h1:=hmet nm
       have h2:=(hmet (q90 s K.n).name).1 hin
       have e:hasB ((q90 s K.n).name::met) nm=(decide ((q90 s K.n).name=nm)||hasB met nm):=rfl
       rw[e,uM,gnD,h1]
       constructor
       ·rintro(rfl|h)
        ·exact h2
        ·exact h
       ·exact .inr
      ·simp[D.int]
       omega
     ·have hpos:qxg (L.map At.name) (q90 s K.n).name<0:=hpn.2 fun h=>hin ((hmet _).2 h)
      have hin':hasB met (q90 s K.n).name=false:=by simpa using hin
      rw[hin'] at hrest
      simp only[gnZ,e1,hD,zb a1,hPp,e2,zb b1,hKk,h2,eg,hP,hpos,zb a3,zb b3,hK,hnl,hvl]
      have hml:L.length+1≤1048577:=by omega
      refine⟨fun h=>(by cases h),fun _=>⟨⟨by omega,by omega,by omega,by omega⟩,fun h=>(by cases h),fun _=>⟨⟨by omega,by omega,by omega,by omega⟩,fun h=>(by cases h),fun _=>⟨⟨n1,n2⟩,fun _=>⟨by omega,⟨by omega,by omega,by omega,by omega,by omega⟩,⟨by omega,by omega,by omega,by omega⟩,⟨by omega,by omega⟩,?_⟩,fun h=>(by cases h)⟩⟩⟩⟩
      rw[q2r,if_pos rfl]
      refine⟨⟨L++[⟨(q90 s K.n).name,q1f (q2s s (cellAt s (P.n+2)))⟩],i+1,cellAt s (C.n+2),(q90 s K.n).name::met,by omega,a4,?_,?_,fun nm=>?_,by simp;omega⟩,?_⟩
      ·rw[derz hv]
       simp[q2h,q3v,D.rs]
      ·rw[hkk]
       simpa using hrest
      ·have h1:=hmet nm
       have e:hasB ((q90 s K.n).name::met) nm=(decide ((q90 s K.n).name=nm)||hasB met nm):=rfl
       rw[e,uM,gnD,h1,kQ,List.mem_append]
       constructor
       ·rintro(rfl|h)
        ·exact .inr (by simp)
        ·exact .inl h
       ·rintro(h|h)
        ·exact .inr h
        ·exact .inl (by simp at h;exact h.symm)
      ·simp[D.int]
       omega
    ·have hnx:q59 s c=none:=by
      unfold q59
      simp only[derz hv,hC,hPp,hKk,qay hv hcd,qay hv hpd,zk6 hv hkd,hf1,hf2,h2,if_true,decide_false,gnF,if_false]
     rw[hnx] at hrest
     have hrest:L++[]=yx s c0:=hrest
     rw[uP] at hrest
     simp only[gnZ,e1,hD,zb a1,hPp,e2,zb b1,hKk,h2]
     simp[hrest,p1,r1]
     omega
 ·simp only[gnZ] at hlt⊢
  have:i=s.cs.length:=by omega
  subst this
  rw[Nat.sub_self] at hrest
  have hrest:L++[]=yx s c0:=hrest
  rw[uP] at hrest
  simp[hrest]
def qp2:List D→Option (List D)
 |[s,c]=>if qw (dS s) then some [eC (jt (dS s) (dC c)),.b (vcR (dS s) (dC c)&&(decide ((jt (dS s) (dC c)).t=0)||decide ((jt (dS s) (dC c)).t=5)))] else none
 |_=>none
theorem q68:FOk zp qp2:=qj5 qg8 ji fun ds outs hw hg=>by
 obtain⟨d,r,rfl,hd,e,r',rfl,he,rfl⟩:=hw
 obtain⟨s,rfl,hs⟩:=wfS hd
 obtain⟨c,rfl,hc⟩:=wfC he
 simp only[qp2,qy,yt,uN,uR] at hg
 obtain⟨hv,rfl⟩:=hg
 simp[q5h,gnZ,za7,q65,hv]
theorem varz{s:So}(hv:qw s=true)(v:Ce):zw s v=if vcR s v&&(decide ((jt s v).t=0)||decide ((jt s v).t=5)) then(jt s v,true) else(⟨0,0⟩,false):=by
 unfold zw
 rw[ziw hv,derz hv]
 cases hc:vcR s v with
 |false=>rfl
 | true =>
  have hd:=qa5 hv hc
  simp only[if_true,Bool.true_and]
  by_cases h0:(jt s v).t=0
  ·simp[h0,(qb5 hd h0).1]
  ·by_cases h5:(jt s v).t=5
   ·obtain⟨a1,-,a3,-⟩:=q7s hv hd h5
    simp[h0,h5,a1,a3]
   ·simp[h0,h5]
def z9l(s:So)(v:Ce):List At:=if(zw s v).2 then jx s (zw s v).1 else[]
def zdk:List D→Option (List D)
 |[s,v]=>if qw (dS s) then some [q2h (z9l (dS s) (dC v)),q3v (z9l (dS s) (dC v))] else none
 |_=>none
theorem qzj:FOk q26 zdk:=qv1 q68 q9z fun ds outs hw hg=>by
 obtain⟨d,r,rfl,hd,e,r',rfl,he,rfl⟩:=hw
 obtain⟨s,rfl,hs⟩:=wfS hd
 obtain⟨v,rfl,hc⟩:=wfC he
 simp only[zdk,qy,yt,uN,uR] at hg
 obtain⟨hv,rfl⟩:=hg
 have hV:qp2 [eS s,eC v]=some [eC (jt s v),.b (vcR s v&&(decide ((jt s v).t=0)||decide ((jt s v).t=5)))]:=by
  simp only[qp2,qy,yt,hv,if_true]
 simp only[q9q,gnZ,hV,z9l,varz hv]
 cases hc:vcR s v with
 |false=>simp[q2h,q3v]
 | true =>
  have hd:=qa5 hv hc
  by_cases h5:(jt s v).t=5
  ·obtain⟨a1,a2,a3,a4⟩:=q7s hv hd h5
   have p3:=ql.1 a3
   have hA:z08 [eS s,eC (cellAt s ((jt s v).n+2))]=some [q2h (yx s (cellAt s ((jt s v).n+2))),q3v (yx s (cellAt s ((jt s v).n+2)))]:=by
    simp only[z08,qy,yt,hv,a4,kU,if_true]
   simp only[h5,zb a3,hA,jx]
   have hl:=z40 hv
   simp[h5,p3]
   omega
  ·by_cases h0:(jt s v).t=0
   ·simp[h0,jx,q2h,q3v]
   ·simp[h0,h5,jx,q2h,q3v]
end
def q2d:Ct:=⟨25,[],[(.st 26,true),(.st 28,false),(.bool,false)],[],none,[],[]⟩
theorem qhm:EnZ q2d:=fun _ _=>by kernel_rfl
def ql9:Ann:=⟨[0,1,2,3,4,5,6,7],[]⟩
def q6c:Tree:=(.need [(.ok 0 [(.lit (.i 100))])] (.need [(.ok 1 [(.call 0 0 [(.lit (.i 100))])])] (.need [(.ok 3 [(.call 1 2 [(.call 0 0 [(.lit (.i 100))])]),(.call 1 0 [(.call 0 0 [(.lit (.i 100))])]),(.lit (.s ⟨#[97]⟩)),(.call 2 0 [(.lit (.i 1))])]),(.ok 2 [(.lit (.i 1))])] (.leaf [(.call 3 1 [(.call 1 2 [(.call 0 0 [(.lit (.i 100))])]),(.call 1 0 [(.call 0 0 [(.lit (.i 100))])]),(.lit (.s ⟨#[97]⟩)),(.call 2 0 [(.lit (.i 1))])]),(.call 1 0 [(.call 0 0 [(.lit (.i 100))])]),(.and (.and (.eq (.call 0 1 [(.lit (.i 100))]) (.lit (.i 0))) (.eq (.call 1 1 [(.call 0 0 [(.lit (.i 100))])]) (.lit (.i 0)))) (.eq (.call 3 0 [(.call 1 2 [(.call 0 0 [(.lit (.i 100))])]),(.call 1 0 [(.call 0 0 [(.lit (.i 100))])]),(.lit (.s ⟨#[97]⟩)),(.call 2 0 [(.lit (.i 1))])]) (.lit (.i 0))))]))))
theorem qj0(g0 g1 g2 g3:GfZ):CdZ [(q1w,g0),(z4,g1),(q0y,g2),(q01,g3)] ql9 q2d Tryz.f25 q6c:=fun cd h=>by injection h with h;subst h;kernel_rfl
theorem qll{g0 g1 g2 g3 g:GfZ}(h0:FOk q1w g0)(h1:FOk z4 g1)(h2:FOk q0y g2)(h3:FOk q01 g3)(h:HgZ q6c q2d [(q1w,g0),(z4,g1),(q0y,g2),(q01,g3)] g):FOk q2d g:=yd (qj0 g0 g1 g2 g3) (.cons h0 (.cons h1 (.cons h2 (.cons h3 .nil)))) rfl rfl qhm (by decide) h
def q3d:Ct:=⟨8,[],[(.bool,false)],[],none,[],[]⟩
theorem qlk:EnZ q3d:=fun _ _=>by kernel_rfl
def qeb:Ann:=⟨[0,1,2,3,4,5,6,7,8,9,48,59],[]⟩
section
namespace Dl
open Go.RowKit Go.Shelf
attribute [local go_sem] Oper.semAt_some
theorem zdx(w:World){o:Oper}(hgd:o.guard=none)(s x:Operand)(t t':TypeId)
  (ho:o.op=.call {callee:=.builtin .append,args:= #[s,x],argTypes:= #[t,t']})(v u:Value)(hs:a.eval s=v)(hx:a.eval x=u){v':Value}{w':World}
  (hr:(Builtin.append_ #[t,t'] o.type #[v,u]).run uA w=.ok v' w')(h:wpList uA ops Q rest (a.put o.dst v') w'):wpList uA ops Q (o::rest) a w:=
 wpList_plain hgd fun _ hK=>by
  unfold Oper.wp execOp
  simp only[ho,resolve,invoke,builtin,Sem.run_bind,Sem.run_pure,Result.andThen_ok,List.map_toArray,List.map_cons,List.map_nil,hs,hx,hr]
  exact hK _ _ h
theorem zld(w:World)(b cap n i:Nat)(hi:i<n)(hcap:n≤cap)(hc63:cap≤9223372036854775807)(w1 w2:World)
  (happ:∀o:Addr,o.block=b→(i+1<n→o=⟨b,(i+1) * 3,none⟩)→(Builtin.append_ #[62,62] 62 #[.slice (some ⟨b,0,none⟩) i cap,.slice (some o) (n - (i+1)) (cap - (i+1))]).run uA w.drew=.ok (.slice (some ⟨b,0,none⟩) (n - 1) cap) w1)
  (hclr:(Builtin.clear_ #[62] 0 #[.slice (some ⟨b,(n - 1) * 3,none⟩) 1 (cap - (n - 1))]).run uA w1=.ok (.tuple #[]) w2):Calls uA 46 #[.slice (some ⟨b,0,none⟩) n cap,.int .i64 (i:Nat),.int .i64 ((i:Nat)+1)] w fun e w'=>e=.returned (.slice (some ⟨b,0,none⟩) (n - 1) cap)∧w'=w2:=by
 have hne:¬((i:Int)=(i:Int)+1):=by omega
 have h1:i≤cap:=by omega
 have h2:i+1≤n:=by omega
 have h3:i+1≤cap:=by omega
 have h4:(0:Int)≤(i:Int)+1∧(i:Int)+1≤(n:Int):=by omega
 go_enter Tryz.func46,Tryz.ntmps46
 go_wp2_with fail
 go_still_tail 6,(by kernel_rfl)
 change wpList _ _ _ _ _ w.drew
 obtain⟨o,ho⟩:∃o:Addr,(if cap=i+1 then some (⟨b,0,none⟩:Addr) else some ⟨b,(i+1) * 3,none⟩)=some o:=by
  by_cases e:cap=i+1
  ·exact⟨_,if_pos e⟩
  ·exact⟨_,if_neg e⟩
 have ho1:o.block=b:=by
  split at ho<;>(injection ho with ho;subst ho;rfl)
 have ho2:i+1<n→o=⟨b,(i+1) * 3,none⟩:=fun h=>by
  rw[if_neg (by omega)] at ho
  injection ho with ho
  exact ho.symm
 rw[ho]
 have ha:=happ o ho1 ho2
 refine zdx _ rfl _ _ _ _ rfl _ _ rfl rfl ha ?_
 have k1:n - 1≤n:=by omega
 have k2:n≤cap:=hcap
 have k3:((n - 1:Nat):Int)≤(n:Int):=by omega
 have k4:n - (n - 1)=1:=by omega
 have k5:¬cap=n - 1:=by omega
 go_wp2_with fail
 exact bodyPost_ret (v:=.slice (some ⟨b,0,none⟩) (n - 1) cap) (by simp[results,Tryz.results46,go_sem]) rfl ⟨rfl,rfl⟩
end Dl
end
end Go.Proofs.YtdaadonfbnedaaaGreat
