/-
 Lemmas of the walk and plain laws, put together. No condition.
-/
import Derived.StillTailTactics
import Derived.Test.YtdaadonfbnedaaaLg
namespace Go.Proofs.Ytdaadonfbnedaaa
open Go.RowKit
set_option linter.unusedVariables false
set_option linter.unusedSimpArgs false
set_option maxRecDepth 100000
set_option linter.unusedSectionVars false
open _root_.Go.Proofs.Try renaming prog→uA,f14→uV,f37→kO,f25→vA,f11→vB
open _root_.List renaming length_map→uB,all_eq_true→uH,getD_cons_zero→uI,getD_cons_succ→uJ,getElem?_take_of_lt→uL,length_cons→uO,getElem?_append_left→uU,getElem?_set_ne→kA,findIdx?_eq_some_iff_getElem→kC,cons_append→kD,nil_append→kF,append_nil→kG,drop_eq_getElem_cons→kI,map_cons→kJ,take_of_length_le→kL,getElem?_set_self→kM,mem_cons_self→kR,append_assoc→kT,drop_length→kU,replicate→kW,drop_zero→kX
open _root_.Nat renaming le_refl→uC,lt_of_lt_of_le→uD,zero_le→uN,le_trans→uP,eq_zero_or_pos→uT,beq→uX,lt_or_ge→uZ,mul_le_mul_right→kB,le_add_right→kE,lt_irrefl→kK,zero_add→kP,not_lt_zero→kV
open _root_.Array renaming getElem?_setIfInBounds_ne→uE,getD_eq_getD_getElem?→uF,getElem?_eq_some_iff→uG,getElem?_setIfInBounds_self_of_lt→uK,getElem?_eq_getElem→kH,length_toList→kQ
open _root_.Bool renaming not_eq_true'→uM,or_eq_true→uQ,not_eq_false'→kS,not_true→kY
open _root_.Option renaming isSome_some→uR,getD_some→uW
open _root_.Int renaming toNat_natCast→uY,toNat→kN,ofNat_le→vC
def q06:Ct:=⟨11,[.ref (.st 26) true,.val (.st 32),.val (.str),.val (.st 32)],[(.int .i64,false)],[],none,[],[]⟩
theorem qua:EnZ q06:=fun _ _=>by kernel_rfl
def ql3:Ann:=⟨[0,1,2,3,5,7,8,9,10,11,12,13,14,16,52,62,76,78,86,90,114],[]⟩
def q8n:Tree:=
 let i:X:=.tok 0
 let s:X:=.lit (.i 13)
 let v:X:=.lit (.i 1)
 let a1:X:=.lit (.i 0)
 let b1:X:=.lit (.i 3)
 let f:X:=.call 0 0 [i,(.tok 1)]
 let a:X:=.call 3 0 [i,f]
 let q:X:=.fld f 1
 let t:X:=.eq (.fld f 0) (.lit (.i 5))
 let e:X:=.app a (.row [(.mk [(.tok 2),(.tok 3)])])
 let h:X:=.call 4 0 [a,(.tok 2)]
 let k:X:=.add q (.lit (.i 2))
 let p:X:=.or (.or (.not (.call 0 1 [i,(.tok 1)])) (.and t (.not (.call 1 0 [i,f])))) (.lt (.lit (.i 100)) (.slen (.tok 2)))
 let b:X:=.call 5 2 [i,(.put a h (.set (.get a h) 1 (.tok 3)))]
 let l:X:=.call 5 0 [i,(.put a h (.set (.get a h) 1 (.tok 3)))]
 let m:X:=.call 5 2 [i,e]
 let o:X:=.call 5 1 [i,(.put a h (.set (.get a h) 1 (.tok 3)))]
 let r:X:=.call 5 0 [i,e]
 let u:X:=.call 5 1 [i,e]
 let c:X:=.set m 4 (.add (.fld m 4) v)
 let j:X:=.mk [(.lit (.i 5)),(.len (.fld (.set b 4 (.add (.fld b 4) v)) 0))]
 let w:X:=.call 6 0 [b,k,l]
 let y:X:=.call 6 0 [m,k,r]
 let d:X:=.set (.set b 4 (.add (.fld b 4) v)) 0 (.app (.fld (.set b 4 (.add (.fld b 4) v)) 0) (.row [j,(.mk [v,(.fld (.set b 4 (.add (.fld b 4) v)) 4)]),l]))
 let n:X:=.mk [(.lit (.i 5)),(.len (.fld c 0))]
 let g:X:=.set c 0 (.app (.fld c 0) (.row [n,(.mk [v,(.fld c 4)]),r]))
 let x:X:=.call 6 0 [d,q,j]
 let z:X:=.call 6 0 [g,q,n]
 (.need [(.ok 0 [i,(.tok 1)]),(.ok 0 [i,(.tok 1)])] (.need [(.imp (.not p) (.ok 2 [i,(.tok 3)])),(.imp (.and (.not (.not (.call 0 1 [i,(.tok 1)]))) t) (.ok 1 [i,f]))] (.br (.or p (.not (.call 2 0 [i,(.tok 3)]))) (.leaf [v,i]) (.need [(.ok 3 [i,f])] (.need [(.ok 4 [a,(.tok 2)])] (.br (.le a1 h) (.need [(.le a1 h),(.lt h (.len a))] (.br (.lt (.lit (.i 499)) (.len a)) (.leaf [(.lit (.i 2)),i]) (.need [(.ok 5 [i,(.put a h (.set (.get a h) 1 (.tok 3)))])] (.br (.not (.eq o a1)) (.need [(.ok 7 [o,b,i])] (.leaf [o,(.call 7 0 [o,b,i])])) (.br t (.need [(.rng .i64 k),(.ok 6 [b,k,l])] (.need [(.ok 7 [w,(.call 6 1 [b,k,l]),i])] (.leaf [w,(.call 7 0 [w,(.call 6 1 [b,k,l]),i])]))) (.br (.or (.lt (.fn 18 [(.fld b 5),b1]) (.len (.fld b 0))) (.le (.lit (.i 1099511627776)) (.fld b 4))) (.need [(.ok 7 [s,b,i])] (.leaf [s,(.call 7 0 [s,b,i])])) (.need [(.rng .i64 (.add (.fld b 4) v))] (.need [(.le (.add (.len (.fld (.set b 4 (.add (.fld b 4) v)) 0)) b1) (.lit (.i 8796093021952)))] (.need [(.ok 6 [d,q,j])] (.need [(.ok 7 [x,(.call 6 1 [d,q,j]),i])] (.leaf [x,(.call 7 0 [x,(.call 6 1 [d,q,j]),i])]))))))))))) (.need [(.le (.add (.len a) v) (.lit (.i 4398046510976)))] (.br (.lt (.lit (.i 499)) (.len e)) (.leaf [(.lit (.i 2)),i]) (.need [(.ok 5 [i,e])] (.br (.not (.eq u a1)) (.need [(.ok 7 [u,m,i])] (.leaf [u,(.call 7 0 [u,m,i])])) (.br t (.need [(.rng .i64 k),(.ok 6 [m,k,r])] (.need [(.ok 7 [y,(.call 6 1 [m,k,r]),i])] (.leaf [y,(.call 7 0 [y,(.call 6 1 [m,k,r]),i])]))) (.br (.or (.lt (.fn 18 [(.fld m 5),b1]) (.len (.fld m 0))) (.le (.lit (.i 1099511627776)) (.fld m 4))) (.need [(.ok 7 [s,m,i])] (.leaf [s,(.call 7 0 [s,m,i])])) (.need [(.rng .i64 (.add (.fld m 4) v))] (.need [(.le (.add (.len (.fld c 0)) b1) (.lit (.i 8796093021952)))] (.need [(.ok 6 [g,q,n])] (.need [(.ok 7 [z,(.call 6 1 [g,q,n]),i])] (.leaf [z,(.call 7 0 [z,(.call 6 1 [g,q,n]),i])])))))))))))))))))
theorem qwn(g0 g1 g2 g3 g4 g5 g6:List D→Option (List D)):∀cd,vB.body=some cd→z9i uA [(qu,g0),(y9,g1),(qb,g2),(yi,g3),(yr,g4),(jb,g5),(zo,g6),(qfm,q5c)] ql3 q06 vB 7 cd=q8n:=by
 intro cd h;injection h with h;subst h;kernel_rfl
variable{g:List D→Option (List D)}
theorem qkl{g0 g1 g2 g3 g4 g5 g6:List D→Option (List D)}(h0:FOk qu g0)(h1:FOk y9 g1)(h2:FOk qb g2)(h3:FOk yi g3)(h4:FOk yr g4)(h5:FOk jb g5)(h6:FOk zo g6)(h:∀ds outs,WfA q06.ars ds→g ds=some outs→q8n.go (qf [(qu,g0),(y9,g1),(qb,g2),(yi,g3),(yr,g4),(jb,g5),(zo,g6),(qfm,q5c)]) (fun o=>o=outs) ds fun _ _=>False):FOk q06 g:=
 FOk.of_at qua fun ds outs hw hg=>z50 ql3 vB 7 _ (.cons h0 (.cons h1 (.cons h2 (.cons h3 (.cons h4 (.cons h5 (.cons h6 (.cons z2y .nil)))))))) (fun _=>rfl) rfl rfl (by decide) rfl (by rw[qwn g0 g1 g2 g3 g4 g5 g6 _ rfl];exact h ds outs hw hg)
def q6a:Ct:=⟨25,[.ref (.st 26) true,.val (.st 32),.val (.str)],[(.int .i64,false)],[],none,[],[]⟩
theorem qsv:EnZ q6a:=fun _ _=>by kernel_rfl
def qlp:Ann:=⟨[0,1,2,4,6,7,8,9,10,11,13,28,38,44,46,58],[]⟩
def qco:Tree:=
 let c:X:=.tok 0
 let j:X:=.lit (.i 1)
 let k:X:=.lit (.i 0)
 let b:X:=.call 0 0 [c,(.tok 1)]
 let d:X:=.add (.fld b 1) (.lit (.i 2))
 let e:X:=.call 2 0 [(.call 1 0 [c,b]),(.tok 2)]
 let a:X:=.call 4 0 [(.call 1 0 [c,b]),e,(.add e j)]
 let f:X:=.call 5 2 [c,a]
 let g:X:=.call 5 0 [c,a]
 let h:X:=.call 5 1 [c,a]
 let i:X:=.call 6 0 [f,d,g]
 (.need [(.ok 0 [c,(.tok 1)]),(.ok 0 [c,(.tok 1)])] (.br (.or (.not (.call 0 1 [c,(.tok 1)])) (.lt (.lit (.i 100)) (.slen (.tok 2)))) (.leaf [j,c]) (.need [(.ok 1 [c,b])] (.need [(.ok 2 [(.call 1 0 [c,b]),(.tok 2)])] (.br (.lt e k) (.leaf [k,c]) (.need [(.ok 3 [c,b])] (.br (.not (.call 3 0 [c,b])) (.leaf [j,c]) (.need [(.rng .i64 (.add e j)),(.ok 4 [(.call 1 0 [c,b]),e,(.add e j)]),(.ok 5 [c,a])] (.br (.not (.eq h k)) (.need [(.ok 7 [h,f,c])] (.leaf [h,(.call 7 0 [h,f,c])])) (.need [(.rng .i64 d),(.ok 6 [f,d,g])] (.need [(.ok 7 [i,(.call 6 1 [f,d,g]),c])] (.leaf [i,(.call 7 0 [i,(.call 6 1 [f,d,g]),c])]))))))))))))
theorem qxu(g0 g1 g2 g3 g4 g5 g6:List D→Option (List D)):∀cd,vA.body=some cd→z9i uA [(qu,g0),(yi,g1),(yr,g2),(y9,g3),(ja,g4),(jb,g5),(zo,g6),(qfm,q5c)] qlp q6a vA 7 cd=qco:=by
 intro cd h;injection h with h;subst h;kernel_rfl
theorem z1y{g0 g1 g2 g3 g4 g5 g6:List D→Option (List D)}(h0:FOk qu g0)(h1:FOk yi g1)(h2:FOk yr g2)(h3:FOk y9 g3)(h4:FOk ja g4)(h5:FOk jb g5)(h6:FOk zo g6)(h:∀ds outs,WfA q6a.ars ds→g ds=some outs→qco.go (qf [(qu,g0),(yi,g1),(yr,g2),(y9,g3),(ja,g4),(jb,g5),(zo,g6),(qfm,q5c)]) (fun o=>o=outs) ds fun _ _=>False):FOk q6a g:=
 FOk.of_at qsv fun ds outs hw hg=>z50 qlp vA 7 _ (.cons h0 (.cons h1 (.cons h2 (.cons h3 (.cons h4 (.cons h5 (.cons h6 (.cons z2y .nil)))))))) (fun _=>rfl) rfl rfl (by decide) rfl (by rw[qxu g0 g1 g2 g3 g4 g5 g6 _ rfl];exact h ds outs hw hg)
def y8:Ct:=⟨14,[.ref (.st 26) true],[(.row 33,true),(.int .i64,false)],[],none,[],[]⟩
theorem q37:EnZ y8:=fun _ _=>by kernel_rfl
section
open Go.RowKit Go.Shelf
noncomputable def wkC:Code:=match uV.body with
 |some c=>c
 |none=>.skip
def rgO:Code→List Oper
 |.region _ ops _=>ops.toList
 |_=>[]
noncomputable def zr3:List Code:=[sqL wkC,sqL (sqR wkC)]
noncomputable def zq6:List Oper:=rgO (sqL (sqR (sqR wkC)))
noncomputable def q7u:Code:=sqR (sqR (sqR wkC))
noncomputable def z7f:Code:=sqR (sqR q7u)
noncomputable def zr0:List Code:=[sqL q7u]
noncomputable def zsd:List Code:=[sqL (sqR q7u),sqL (sqL z7f)]
noncomputable def qic:Code:=lpC (bkC (sqR (sqL z7f)))
noncomputable def wkZ:Code:=sqR z7f
noncomputable def zow:Code:=bkC (sqL (sqR (sqR qic)))
noncomputable def wkH:List Code:=[sqL qic,sqL (sqR qic)]
noncomputable def wkR:List Code:=[sqL zow]
noncomputable def wkY:Code:=sqL (sqR zow)
noncomputable def zxr:Nat:=match wkY with
 |.region i _ _=>i
 |_=>0
def zgs:List Oper:=[(.mk (.some 30) (.load 37 (.tmp 1)) 37 "attr.go:278" (.mk []) .none),(.mk (.some 31) (.nilCheck (.tmp 30)) 0 "attr.go:278" (.mk [(.mk 0 .data)]) .none),(.mk (.some 32) (.load 27 (.tmp 31)) 27 "attr.go:278" (.mk [(.mk 1 .data)]) .none),(.mk (.some 33) (.fieldAddr 65 (.tmp 6) 1) 0 "attr.go:278" (.mk []) .none),(.mk (.some 34) (.load 33 (.tmp 33)) 33 "attr.go:278" (.mk [(.mk 3 .data)]) .none),(.mk (.some 35) (.call (.mk (.value (.func 49)) (.mk [(.tmp 32),(.tmp 34)]) (.mk [27,33]))) 92 "attr.go:278" (.mk [(.mk 2 .data),(.mk 4 .data)]) .none)]
noncomputable def wkN:List Code:=[sqR (sqR (sqR qic))]
noncomputable def wkF:Code:=bkC (sqR (sqR zow))
noncomputable def zil:Code:=match wkF with
 |.rangeFunc _ _ a _=>a
 |_=>.skip
noncomputable def z8k:Code:=match wkF with
 |.rangeFunc _ _ _ b=>bkC b
 |_=>.skip
def q88:Ann:=⟨[0,1,2,3,4,6,7,8,9,10,12,14,16,24,25,26,27,35,36,37,58],[]⟩
def q61:Tbl:=[(yp,gCl 3518437208780),(yh,zfw),(qfm,q5c)]
def qxm(m0 m1 m2 m3:Int):Tbl:=[(q01 y8.f ql,fun _=>some [.i m0]),(q01 y8.f q02,fun _=>some [.i m1]),(q01 y8.f q2p,fun _=>some [.i m2]),(q01 y8.f yy,fun _=>some [.i m3]),(zp,gSt q39),(q26,zhb),(yx,gSL q8x),(zu,qoy)]
abbrev wkI:List Item:=[(24,q36,[(0,385)],[]),(25,.int .i64,[],[]),(26,.int .i64,[],[])]
abbrev wkM:List Item:=[(0,qe,qp 0 qe,[]),(2,zl,[(0,33)],[]),(3,zy,[],[])]
def wkQ:St:=⟨[(0,.ref 0 [] 0 qe),(1,.bx 1 37 (.ref 0 [] 0 qe)),(2,.ref 2 [] 0 zl),(3,.sn (VB+3) (.ref 3 [] 0 zy)),(24,.any),(25,.any),(26,.any)],[]⟩
def zv3:St:=(.mk [(24,(.v (.tok 5) (.row 65) [(0,385)] [])),(25,(.v (.tok 6) (.int .i64) [] [])),(26,(.v (.tok 7) (.int .i64) [] [])),(0,(.ref 0 [] 0 (.st 26))),(1,(.bx 1 37 (.ref 0 [] 0 (.st 26)))),(2,(.ref 2 [] 0 (.row 33))),(3,(.sn 100003 (.ref 3 [] 0 (.int .i64))))] [(0,(.mk (.tok 8) (.st 26) [(0,1),(1,2),(2,3),(3,4)] [])),(2,(.mk (.tok 9) (.row 33) [(0,33)] [])),(3,(.mk (.tok 10) (.int .i64) [] []))])
theorem zmt:q33 wkI wkM 5 (q28 wkI wkM [] 5 wkQ)=zv3:=by kernel_rfl
abbrev zcs:List Item:=[(4,q36,[(0,65)],[])]
def zo2:St:=⟨[(0,.ref 0 [] 0 qe),(1,.bx 1 37 (.ref 0 [] 0 qe)),(2,.ref 2 [] 0 zl),(3,.sn (VB+3) (.ref 3 [] 0 zy)),(4,.any)],[]⟩
def zpu:St:=(.mk [(4,(.v (.tok 1) (.row 65) [(0,65)] [])),(0,(.ref 0 [] 0 (.st 26))),(1,(.bx 1 37 (.ref 0 [] 0 (.st 26)))),(2,(.ref 2 [] 0 (.row 33))),(3,(.sn 100003 (.ref 3 [] 0 (.int .i64))))] [(0,(.mk (.tok 2) (.st 26) [(0,1),(1,2),(2,3),(3,4)] [])),(2,(.mk (.tok 3) (.row 33) [(0,33)] [])),(3,(.mk (.tok 4) (.int .i64) [] []))])
theorem zfn:q33 zcs wkM 1 (q28 zcs wkM [] 1 zo2)=zpu:=by kernel_rfl
def zg7:St:=⟨[(0,.ref 0 [] 0 qe),(1,.bx 1 37 (.ref 0 [] 0 qe)),(2,.ref 2 [] 0 zl),(3,.sn (VB+3) (.ref 3 [] 0 zy)),(4,.sn 4 (.v (.tok 1) q36 [(0,65)] []))],[(0,⟨.tok 2,qe,qp 0 qe,[]⟩),(2,⟨.tok 3,zl,[(0,33)],[]⟩),(3,⟨.tok 4,zy,[],[]⟩)]⟩
noncomputable def wkK:Nat→St→Nat→Nat→X→Tree:=fun n σ ks te was=>if uX n 1&&(uX ks 0&&(uX te 3&&X.beq was (.tok 0))) then q65 uA q61 q88 1 69 zr0 n σ (toN zcs wkM [] zo2) else .bad 4
theorem zla:wkY=.region zxr zgs.toArray true:=by kernel_rfl
def zvt:Tree:=(.need [(.ok 0 [(.fld (.tok 0) 3)])] (.leaf [(.call 0 0 [(.fld (.tok 0) 3)]),(.tok 0),(.lit (.r [])),(.lit (.i 0))]))
theorem zne:q65 uA q61 q88 1 69 zr3 1 (qu3 y8) (zqy uA q61 y8 uV zq6 wkK)=zvt:=by kernel_rfl
def zqh:Tree:=(.need [(.ok 1 [(.tok 1)])] (.leaf [(.call 1 0 [(.tok 1)]),(.len (.call 1 0 [(.tok 1)])),(.lit (.i 0)),(.tok 2),(.tok 3),(.tok 4)]))
theorem zfo:q65 uA q61 q88 1 69 zsd 5 zg7 (toN wkI wkM [] wkQ)=zqh:=by kernel_rfl
def q6l:St:=⟨[(0,.ref 0 [] 0 qe),(1,.bx 1 37 (.ref 0 [] 0 qe)),(2,.ref 2 [] 0 zl),(3,.sn (VB+3) (.ref 3 [] 0 zy)),(24,.v (.tok 1) q36 [(0,385)] []),(25,.v (.len (.tok 1)) (.int .i64) [] []),(26,.v (.tok 2) (.int .i64) [] [])],[(0,⟨.tok 3,qe,qp 0 qe,[]⟩),(2,⟨.tok 4,zl,[(0,33)],[]⟩),(3,⟨.tok 5,zy,[],[]⟩)]⟩
theorem zja:q33 [] [] 6 (q28 [] [] [] 6 q6l)=q6l:=by kernel_rfl
def zwl:St:=(.mk [(26,(.v (.tok 6) (.int .i64) [] [])),(0,(.ref 0 [] 0 (.st 26))),(1,(.bx 1 37 (.ref 0 [] 0 (.st 26)))),(2,(.ref 2 [] 0 (.row 33))),(3,(.sn 100003 (.ref 3 [] 0 (.int .i64)))),(24,(.v (.tok 1) (.row 65) [(0,385)] [])),(25,(.v (.len (.tok 1)) (.int .i64) [] []))] [(0,(.mk (.tok 3) (.st 26) [(0,1),(1,2),(2,3),(3,4)] [])),(2,(.mk (.tok 4) (.row 33) [(0,33)] [])),(3,(.mk (.tok 5) (.int .i64) [] []))])
theorem zm8:q33 [(26,.int .i64,[],[])] [] 6 (q28 [(26,.int .i64,[],[])] [] [] 6 ⟨q6l.t.filter (fun e=> !Nat.beq e.1 26),q6l.m⟩)=zwl:=by kernel_rfl
def zua:Nat→ResD→St→Tree:=fun n r σ=>match r with
 |.normal=>.need [.lt (.tok 2) (.len (.tok 1))] (qqp [] [] [] q6l n .normal σ)
 |.exit 0=>.need [.not (.lt (.tok 2) (.len (.tok 1)))] (qqp [] [] [] q6l n .normal σ)
 |_=>.bad 1
def zuh:Tree:=(.br (.lt (.tok 2) (.len (.tok 1))) (.need [(.lt (.tok 2) (.len (.tok 1)))] (.leaf [])) (.need [(.not (.lt (.tok 2) (.len (.tok 1))))] (.leaf [])))
theorem zl6:q65 uA q61 q88 1 69 wkH 6 q6l zua=zuh:=by kernel_rfl
def zoz:St:=⟨q6l.t++[(6,.ref 6 [] 0 yy)],[]⟩
abbrev znp:List Item:=[(0,qe,qp 0 qe,[]),(2,zl,[(0,33)],[]),(3,zy,[],[]),(6,yy,[],[])]
def zm9:St:=⟨zoz.t,[(0,⟨.tok 6,qe,qp 0 qe,[]⟩),(2,⟨.tok 7,zl,[(0,33)],[]⟩),(3,⟨.tok 8,zy,[],[]⟩),(6,⟨.tok 9,yy,[],[]⟩)]⟩
theorem zms:q33 [] znp 6 (q28 [] znp [] 6 zoz)=zm9:=by kernel_rfl
def zvh:Tree:=(.need [(.le (.lit (.i 0)) (.tok 2)),(.lt (.tok 2) (.len (.tok 1)))] (.leaf [(.tok 3),(.tok 4),(.tok 5),(.get (.tok 1) (.tok 2))]))
theorem zkn:q65 uA q61 q88 1 69 wkR 6 q6l (toN [] znp [] zoz)=zvh:=by kernel_rfl
def qok:List (Nat×AV):=[(0,.sn 0 (.ref 0 [] 0 qe)),(1,.sn 1 (.bx 1 37 (.ref 0 [] 0 qe))),(2,.sn 2 (.ref 2 [] 0 zl)),(3,.sn 3 (.ref 3 [] 0 zy)),(6,.sn 6 (.ref 6 [] 0 yy)),(24,.sn 24 (.v (.tok 4) q36 [(0,385)] []))]
def zjk:List (Nat×Ent):=[(0,⟨.tok 1,qe,qp 0 qe,[]⟩),(2,⟨.tok 2,zl,[(0,33)],[]⟩),(3,⟨.tok 3,zy,[],[]⟩),(6,⟨.tok 0,yy,[],[]⟩)]
def z1f:St:=⟨qok,zjk⟩
noncomputable def qkr:List Code:=[sqL z8k,sqL (sqR z8k),sqL (sqR (sqR z8k))]
noncomputable def zbk:Code:=sqR (sqR (sqR z8k))
theorem zab:z8k=seqs qkr zbk:=by kernel_rfl
def zsx:List (Nat×AV):=[(0,.sn 0 (.ref 0 [] 0 qe)),(1,.sn 1 (.bx 1 37 (.ref 0 [] 0 qe))),(2,.sn 2 .any),(3,.sn 3 (.ref 3 [] 0 zy)),(6,.sn 6 (.ref 6 [] 0 yy)),(24,.sn 24 (.v (.tok 4) q36 [(0,385)] []))]
def zmi:St:=⟨zsx++[(36,.v (.tok 5) .str [] []),(37,.v (.tok 6) ql [] [])],[(0,⟨.tok 1,qe,qp 0 qe,[]⟩),(3,⟨.tok 3,zy,[],[]⟩),(6,⟨.tok 0,yy,[],[]⟩)]⟩
def z38:St:=⟨zsx++[(7,.v (.tok 5) .str [] []),(8,.ref 8 [] 0 ql)],[(0,⟨.tok 1,qe,qp 0 qe,[]⟩),(3,⟨.tok 3,zy,[],[]⟩),(6,⟨.tok 0,yy,[],[]⟩),(8,⟨.tok 6,ql,[],[]⟩)]⟩
def zxi:Tree:=(.leaf [])
theorem zqq(m0 m1 m2 m3:Int):q65 uA (qxm m0 m1 m2 m3) q88 1 69 [zil] 7 zmi (toN [] [] [] z38)=zxi:=by kernel_rfl
abbrev z8z:List Item:=[(0,qe,qp 0 qe,[]),(10,ql,[],[])]
def zkh:St:=⟨zsx++[(10,.ref 10 [] 0 ql)],[(3,⟨.tok 3,zy,[],[]⟩),(6,⟨.tok 0,yy,[],[]⟩)]⟩
def z8e:St:=(.mk [(0,(.sn 0 (.ref 0 [] 0 (.st 26)))),(1,(.sn 1 (.bx 1 37 (.ref 0 [] 0 (.st 26))))),(2,(.sn 2 .any)),(3,(.sn 3 (.ref 3 [] 0 (.int .i64)))),(6,(.sn 6 (.ref 6 [] 0 (.st 64)))),(24,(.sn 24 (.v (.tok 4) (.row 65) [(0,385)] []))),(10,(.ref 10 [] 0 (.st 32)))] [(0,(.mk (.tok 7) (.st 26) [(0,1),(1,2),(2,3),(3,4)] [])),(10,(.mk (.tok 8) (.st 32) [] [])),(3,(.mk (.tok 3) (.int .i64) [] [])),(6,(.mk (.tok 0) (.st 64) [] []))])
theorem znr:q33 [] z8z 7 (q28 [] z8z [] 7 zkh)=z8e:=by kernel_rfl
def ztd:Tree:=
 let c:X:=.tok 1
 let d:X:=.lit (.i 0)
 let a:X:=.call 6 0 [(.lit (.s ⟨#[97,116,116,114,95,104,111,111,107]⟩)),(.row [(.call 4 0 [(.tok 5)]),(.call 5 0 [d]),(.call 5 0 [(.lit (.i 1))])])]
 let b:X:=.row [(.mk [d,(.tok 6)]),(.mk [(.lit (.i 1)),(.fld (.tok 0) 2)])]
 (.need [(.ok 4 [(.tok 5)]),(.ok 5 [d]),(.ok 5 [(.lit (.i 1))]),(.ok 6 [(.lit (.s ⟨#[97,116,116,114,95,104,111,111,107]⟩)),(.row [(.call 4 0 [(.tok 5)]),(.call 5 0 [d]),(.call 5 0 [(.lit (.i 1))])])])] (.need [(.ok 7 [c,a,b]),(.le (.call 0 0 []) (.len (.fld c 0))),(.le (.call 1 0 []) (.len (.fld c 1))),(.le (.call 2 0 []) (.len (.fld c 2))),(.le (.call 3 0 []) (.len (.fld c 3)))] (.br (.not (.eq (.call 7 2 [c,a,b]) d)) (.bad 15001) (.leaf [(.call 7 3 [c,a,b]),(.call 7 0 [c,a,b])]))))
theorem zre(m0 m1 m2 m3:Int):q65 uA (qxm m0 m1 m2 m3) q88 1 69 qkr 7 z38 (toN [] z8z [] zkh)=ztd:=by kernel_rfl
def z74:St:=⟨qok++[(7,.v (.tok 5) .str [] []),(8,.ref 8 [] 0 ql)],[(0,⟨.tok 1,qe,qp 0 qe,[]⟩),(2,⟨.tok 2,zl,[(0,33)],[]⟩),(3,⟨.tok 3,zy,[],[]⟩),(6,⟨.tok 0,yy,[],[]⟩),(8,⟨.tok 6,ql,[],[]⟩)]⟩
abbrev zf6:List Item:=[(0,qe,qp 0 qe,[]),(2,zl,[(0,33)],[]),(3,zy,[],[])]
def zrz:St:=⟨qok,[]⟩
def zrw:St:=(.mk [(0,(.sn 0 (.ref 0 [] 0 (.st 26)))),(1,(.sn 1 (.bx 1 37 (.ref 0 [] 0 (.st 26))))),(2,(.sn 2 (.ref 2 [] 0 (.row 33)))),(3,(.sn 3 (.ref 3 [] 0 (.int .i64)))),(6,(.sn 6 (.ref 6 [] 0 (.st 64)))),(24,(.sn 24 (.v (.tok 4) (.row 65) [(0,385)] [])))] [(0,(.mk (.tok 7) (.st 26) [(0,1),(1,2),(2,3),(3,4)] [])),(2,(.mk (.tok 8) (.row 33) [(0,33)] [])),(3,(.mk (.tok 9) (.int .i64) [] []))])
theorem zly:q33 [] zf6 7 (q28 [] zf6 [] 7 zrz)=zrw:=by kernel_rfl
def zqk:Nat→ResD→St→Tree:=fun n r σ=>match r with
 |.ret=>qqp [] zf6 [] zrz n .normal σ
 |_=>.bad 1
def zqn:Tree:=
 let c:X:=.tok 1
 let d:X:=.lit (.i 0)
 let a:X:=.call 6 0 [(.lit (.s ⟨#[97,116,116,114,95,104,111,111,107]⟩)),(.row [(.call 4 0 [(.tok 5)]),(.call 5 0 [d]),(.call 5 0 [(.lit (.i 1))])])]
 let b:X:=.row [(.mk [d,(.tok 6)]),(.mk [(.lit (.i 1)),(.fld (.tok 0) 2)])]
 (.need [(.ok 4 [(.tok 5)]),(.ok 5 [d]),(.ok 5 [(.lit (.i 1))]),(.ok 6 [(.lit (.s ⟨#[97,116,116,114,95,104,111,111,107]⟩)),(.row [(.call 4 0 [(.tok 5)]),(.call 5 0 [d]),(.call 5 0 [(.lit (.i 1))])])])] (.need [(.ok 7 [c,a,b]),(.le (.call 0 0 []) (.len (.fld c 0))),(.le (.call 1 0 []) (.len (.fld c 1))),(.le (.call 2 0 []) (.len (.fld c 2))),(.le (.call 3 0 []) (.len (.fld c 3)))] (.br (.not (.eq (.call 7 2 [c,a,b]) d)) (.leaf [(.call 7 3 [c,a,b]),(.lit (.r [])),(.call 7 2 [c,a,b])]) (.bad 1))))
theorem ztm(m0 m1 m2 m3:Int):q65 uA (qxm m0 m1 m2 m3) q88 1 69 qkr 7 z74 zqk=zqn:=by kernel_rfl
def qsb:List (Nat×AV):=[(0,.sn 0 .any),(1,.sn 1 .any),(2,.sn 2 (.ref 2 [] 0 zl)),(3,.sn 3 .any),(6,.sn 6 .any),(24,.sn 24 .any)]
def z4x:St:=⟨qsb++[(10,.ref 10 [] 0 ql)],[(2,⟨.tok 0,zl,[(0,33)],[]⟩),(10,⟨.tok 1,ql,[],[]⟩)]⟩
abbrev z7n:List Item:=[(2,zl,[(0,33)],[])]
def zn5:St:=(.mk [(0,(.sn 0 .any)),(1,(.sn 1 .any)),(2,(.sn 2 (.ref 2 [] 0 (.row 33)))),(3,(.sn 3 .any)),(6,(.sn 6 .any)),(24,(.sn 24 .any))] [(2,(.mk (.tok 2) (.row 33) [(0,33)] []))])
theorem zo7:q33 [] z7n 2 (q28 [] z7n [] 2 ⟨qsb,[]⟩)=zn5:=by kernel_rfl
def zqc:Tree:=(.need [(.le (.add (.len (.tok 0)) (.lit (.i 1))) (.lit (.i 8796093021952)))] (.leaf [(.app (.tok 0) (.row [(.tok 1)]))]))
theorem zfr:q65 uA [] q88 1 69 [zbk] 2 z4x (toN [] z7n [] ⟨qsb,[]⟩)=zqc:=by kernel_rfl
def zw4:Tree:=(.need [(.rng .i64 (.add (.tok 2) (.lit (.i 1))))] (.leaf [(.add (.tok 2) (.lit (.i 1)))]))
theorem zmm:q65 uA q61 q88 1 69 wkN 6 q6l (toN [(26,.int .i64,[],[])] [] [] ⟨q6l.t.filter (fun e=> !Nat.beq e.1 26),q6l.m⟩)=zw4:=by kernel_rfl
def zul:Tree:=(.need [(.ok 2 [(.lit (.i 0)),(.set (.tok 3) 3 (.lit (.r []))),(.tok 0)])] (.leaf [(.tok 4),(.lit (.i 0)),(.call 2 0 [(.lit (.i 0)),(.set (.tok 3) 3 (.lit (.r []))),(.tok 0)])]))
theorem zmw:toT uA q61 q88 1 69 wkZ [] 6 q6l (qio y8 uV 2 0 3 (.tok 0))=zul:=by kernel_rfl
def wkE:St:=⟨[(0,.ref 0 [] 0 qe),(1,.bx 1 37 (.ref 0 [] 0 qe)),(2,.ref 2 [] 0 zl),(3,.sn (VB+3) (.ref 3 [] 0 zy))],[(0,⟨.tok 1,qe,qp 0 qe,[]⟩),(2,⟨.tok 2,zl,[(0,33)],[]⟩),(3,⟨.tok 3,zy,[],[]⟩)]⟩
def zu6:Tree:=(.need [(.ok 2 [(.tok 3),(.tok 1),(.tok 0)])] (.leaf [(.tok 2),(.tok 3),(.call 2 0 [(.tok 3),(.tok 1),(.tok 0)])]))
theorem zkt:qio y8 uV 2 0 3 (.tok 0) 4 .ret wkE=zu6:=by kernel_rfl
end
def q7l:ByteArray:=⟨#[97,116,116,114,95,104,111,111,107]⟩
def q1i(nm:ByteArray):Te:=q8x q7l [q39 nm,vaT 0,vaT 1]
def q5g(x wv:Ce):List Vc:=[⟨0,x⟩,⟨1,wv⟩]
def z5(wv:Ce)(s:So)(x:At):Ce×List Vc×Int×So:=qiz s (q1i x.name) (q5g x.val wv)
def zz(wv:Ce):So→List Ce→List At→So×List Ce×Int
 |s,o,[]=>(s,o,0)
 |s,o,x::l=>if(z5 wv s x).2.2.1=0 then zz wv (z5 wv s x).2.2.2 (o++[(z5 wv s x).1]) l else((z5 wv s x).2.2.2,[],(z5 wv s x).2.2.1)
def qcm(wv:Ce):So→List At→Bool
 |s,[]=>true
 |s,x::l=>qi2 s (q1i x.name) (q5g x.val wv)&&(decide (¬(z5 wv s x).2.2.1=0)||qcm wv (z5 wv s x).2.2.2 l)
def jw:So→List Ce→List Wk→So×List Ce×Int
 |s,o,[]=>(s,o,0)
 |s,o,w::l=>if(zz w.val s o (yz s w.att)).2.2=0 then jw (zz w.val s o (yz s w.att)).1 (zz w.val s o (yz s w.att)).2.1 l else zz w.val s o (yz s w.att)
def qcf:So→List Ce→List Wk→Bool
 |s,o,[]=>true
 |s,o,w::l=>(decide (s.cs.length≤1048576)&&qcm w.val s (yz s w.att))&&(decide (¬(zz w.val s o (yz s w.att)).2.2=0)||qcf (zz w.val s o (yz s w.att)).1 (zz w.val s o (yz s w.att)).2.1 l)
def qta(s r:So):So:={r with cs:=r.cs.take s.cs.length,ys:=r.ys.take s.ys.length,tr:=r.tr.take s.tr.length,ser:=s.ser}
def q55(l:List Wk):List Wk:=jh Wk.ser l
theorem z62{α β:Type}{f:α→β}{ka:α→Int}{kb:β→Int}(h:∀x,kb (f x)=ka x)(x:α):∀l:List α,q2w kb (f x) (l.map f)=(q2w ka x l).map f
 |[]=>rfl
 |y::l=>by
  simp only[kJ,q2w,h];split
  ·rw[kJ,z62 h x l]
  ·rfl
theorem zdy{α β:Type}{f:α→β}{ka:α→Int}{kb:β→Int}(h:∀x,kb (f x)=ka x)(l:List α):jh kb (l.map f)=(jh ka l).map f:=by
 have key:∀(l acc:List α),(l.map f).foldl (fun acc x=>q2w kb x acc) (acc.map f)=(l.foldl (fun acc x=>q2w ka x acc) acc).map f:=by
  intro l
  induction l with
  |nil=>intro acc;rfl
  |cons x l ih=>intro acc;rw[kJ,List.foldl_cons,z62 h,ih];rfl
 exact key l []
theorem zi3(l:List Wk):jh kyD (l.map eW)=(q55 l).map eW:=zdy (fun x=>rfl) l
theorem qlz(l:List Wk):(q55 l).length=l.length:=j6 l
def q92(s:So):List Ce×Int×So:=if(jw s [] (q55 s.wk)).2.2=0 then((jw s [] (q55 s.wk)).2.1,0,{(jw s [] (q55 s.wk)).1 with wk:=[]}) else([],(jw s [] (q55 s.wk)).2.2,qta s (jw s [] (q55 s.wk)).1)
def zgg:List D→Option (List D)
 |[s]=>if(dS s).wk.length≤1000∧(dS s).cs.length≤1000000∧qcf (dS s) [] (q55 (dS s).wk)=true then some [.r ((q92 (dS s)).1.map eC),.i (q92 (dS s)).2.1,eS (q92 (dS s)).2.2] else none
 |_=>none
def qe2(s s':So):Prop:=s.cs.length≤s'.cs.length∧s.ys.length≤s'.ys.length∧Rst s s'
theorem qe2.refl(s:So):qe2 s s:=⟨uC _,uC _,Rst.refl s⟩
theorem qe2.trans{a b c:So}(h:qe2 a b)(k:qe2 b c):qe2 a c:=⟨uP h.1 k.1,uP h.2.1 k.2.1,h.2.2.trans k.2.2⟩
def zfl(s s':So):Prop:=qe2 s s'∧s'.cs.length≤s.cs.length+4000
theorem qmy{s:So}{t:Te}{l:List Vc}(hq:qi2 s t l=true):zfl s (qiz s t l).2.2.2:=by
 unfold qiz;split
 ·rename_i h;split
  ·rename_i hr;have h':=h;simp only[gnB] at h;have ht:=h.1;simp only[yj,gnB,gnD] at ht;unfold qi2 at hq;rw[h',hr] at hq;simp only[kY,Bool.false_or,gnB] at hq;have hA:=hq.2.2;simp only[qix,gnB,gnD] at hA;obtain⟨h1,h2,h3,h4⟩:=q45 t (s,l) (-1) hA.1 hA.2.1;have h5:=qk9 t;have h6:q6g t l≤q63 t+1:=by
    unfold q6g;split<;>omega
   rw[if_pos (by decide)] at h1;refine⟨⟨by rw[h1];exact kE _ _,?_,h3⟩,by rw[h1];show s.cs.length+q6g t l≤_;omega⟩;rw[h2];exact qmt _ _
  ·exact⟨qe2.refl s,kE _ _⟩
 ·exact⟨qe2.refl s,kE _ _⟩
theorem qk4(wv:Ce):∀(l:List At)(s:So)(o:List Ce),qcm wv s l=true→qe2 s (zz wv s o l).1
 |[],s,o,_=>qe2.refl s
 | x :: l, s, o, h => by
  unfold qcm at h;simp only[gnB,uQ,gnD] at h;have h1:qe2 s (z5 wv s x).2.2.2:=(qmy h.1).1;unfold zz;split
  ·rename_i h0;rcases h.2 with h2|h2
   ·exact absurd h0 h2
   ·exact h1.trans (qk4 wv l _ _ h2)
  ·exact h1
variable{b pin:Nat}{d:D}{E T:TypeId}{te:Ty}{cs:List Value}{cur:Array Value}{F:Flr}{dep:List Nat}
section
open Go.RowKit Go.Shelf
section
variable{A:Nat→Prop}{p:qj}{w W:World}{dep:List Nat}
theorem qrx(hte:qm E=some te)(h:Fl A p w dep (some pin) d (.row E) cs):∃l v,d=.r l∧cs=[v]∧q32 A p w dep pin E te l v:=by
 rcases h with⟨E',te',l,v,e,hte',rfl,rfl,hv⟩|⟨K,V,kt,vt,l,g,es,clock,e,-⟩
 ·injection e with e;subst e;obtain rfl:=gnI (hte.symm.trans hte');exact⟨l,v,rfl,rfl,hv⟩
 ·cases e
theorem zg2:qm 33=some ql∧qm 58=some q02∧qm 69=some q2p∧qm 65=some yy:=⟨by kernel_rfl,by kernel_rfl,by kernel_rfl,by kernel_rfl⟩
theorem z7v{s:So}(h:Con A p w (eS s) qe (qp 0 qe) dep cs):∃v0 v1 v2 v3,cs=[v0,v1,v2,v3,.int .i64 s.ser,.int .i64 s.mx]∧q32 A p w dep 1 33 ql (s.cs.map eC) v0∧q32 A p w dep 2 58 q02 (s.ys.map eY) v1∧q32 A p w dep 3 69 q2p (s.tr.map eU) v2∧q32 A p w dep 4 65 yy (s.wk.map eW) v3∧ji .i64 s.ser=true∧ji .i64 s.mx=true:=by
 have h:Con A p w (eS s) (.st qss) (qp 0 qe) dep cs:=h;obtain⟨fs,ds,hf,he,hl⟩:=h;rw[qrd] at hf;injection hf with hf;subst hf;obtain⟨d0,ds,c0,cs,rfl,rfl,h0,hl⟩:=q5l hl;obtain⟨d1,ds,c1,cs,rfl,rfl,h1,hl⟩:=q5l hl;obtain⟨d2,ds,c2,cs,rfl,rfl,h2,hl⟩:=q5l hl;obtain⟨d3,ds,c3,cs,rfl,rfl,h3,hl⟩:=q5l hl;obtain⟨d4,ds,c4,cs,rfl,rfl,h4,hl⟩:=q5l hl;obtain⟨d5,ds,c5,cs,rfl,rfl,h5,hl⟩:=q5l hl;obtain⟨rfl,rfl⟩:=zh8 hl;obtain⟨t1,t2,t3,t4⟩:=zg2;have h0:Fl A p w dep (some 1) d0 (.row 33) c0:=h0;have h1:Fl A p w dep (some 2) d1 (.row 58) c1:=h1;have h2:Fl A p w dep (some 3) d2 (.row 69) c2:=h2;have h3:Fl A p w dep (some 4) d3 (.row 65) c3:=h3;obtain⟨l0,v0,rfl,rfl,q0⟩:=qrx t1 h0;obtain⟨l1,v1,rfl,rfl,q1⟩:=qrx t2 h1;obtain⟨l2,v2,rfl,rfl,q2⟩:=qrx t3 h2;obtain⟨l3,v3,rfl,rfl,q3⟩:=qrx t4 h3;obtain⟨x4,rfl,rfl,q4,-⟩:=z2b h4;obtain⟨x5,rfl,rfl,q5,-⟩:=z2b h5;simp only[eS,D.a.injEq,List.cons.injEq,D.r.injEq,D.i.injEq,and_true] at he;obtain⟨rfl,rfl,rfl,rfl,rfl,rfl⟩:=he;exact⟨v0,v1,v2,v3,rfl,q0,q1,q2,q3,q4,q5⟩
theorem qdp{i:Nat}(h:w.heap[b]? =some (.cells cur T (0,0))):w.cell? ⟨b,i,none⟩=cur[i]? :=by
 unfold World.cell?;simp[h]
theorem q32.stay{P:Nat→Prop}{l:List D}{v:Value}(h:q32 A p w dep pin E te l v)(hte:qm E=some te)(hf:zt 8 te=true)
  (hk:∀g cur,p pin=some g→w.heap[g]? =some (.cells cur E (0,0))→0<l.length→P g∧∃cur',W.heap[g]? =some (.cells cur' E (0,0))∧∀j,j<l.length * te.w→cur'[j]? =cur[j]?):Rd W P (.r l) (.row E) [v]:=by
 rcases h with⟨rfl,rfl⟩|⟨g,cap,cur,rfl,hg,hh,h1,h2,h3,h4,h5⟩
 ·exact⟨E,te,none,0,rfl,hte,rfl,by simp,by simp,by simp[maxLen],by simp[RdE]⟩
 ·refine⟨E,te,some ⟨g,0,none⟩,cap,rfl,hte,rfl,h1,h4,h2,q1r.2 fun j hj=>?_⟩;obtain⟨cs,hr,hx⟩:=h5 j hj;obtain⟨hP,cur',hw',hc⟩:=hk g cur hg hh (by omega);refine⟨g,0,cs,rfl,hP,fun i v hv=>?_,Rd.flat 8 _ hf hx⟩;have hlen:cs.length=te.w:=(Rd.len _ hx).1;have hi:i<cs.length:=(gnH.1 hv).1;have h6:=hr i v hv;rw[qdp hw'];rw[qdp hh] at h6;have h7:j * te.w+te.w≤l.length * te.w:=by
   rw[←Nat.succ_mul];exact kB _ hj
  simp only[kP] at h6⊢;rw[hc _ (by omega)];exact h6
end
def q25(p:qj)(s:So)(fr:Nat→Prop):Flr where
 fl:=fun b=>if p 1=some b then s.cs.length * ql.w else if p 2=some b then s.ys.length * q02.w else if p 3=some b then s.tr.length * q2p.w else if p 4=some b then s.wk.length * yy.w else 0
 mx:=fun te=>if Ty.beq te ql then s.cs.length else if Ty.beq te q02 then s.ys.length else if Ty.beq te q2p then s.tr.length else if Ty.beq te yy then s.wk.length else 0
 fr:=fr
theorem zwy(p:qj)(s:So)(fr:Nat→Prop):(q25 p s fr).mx ql=s.cs.length:=by
 have e:Ty.beq ql ql=true:=by kernel_rfl
 simp only[q25,e,if_true]
theorem zxc(p:qj)(s:So)(fr:Nat→Prop):(q25 p s fr).mx q02=s.ys.length:=by
 have e1:Ty.beq q02 ql=false:=by kernel_rfl
 have e:Ty.beq q02 q02=true:=by kernel_rfl
 simp only[q25,e,e1,if_true,gnF,if_false]
theorem zx4(p:qj)(s:So)(fr:Nat→Prop):(q25 p s fr).mx q2p=s.tr.length:=by
 have e1:Ty.beq q2p ql=false:=by kernel_rfl
 have e2:Ty.beq q2p q02=false:=by kernel_rfl
 have e:Ty.beq q2p q2p=true:=by kernel_rfl
 simp only[q25,e,e1,e2,if_true,gnF,if_false]
theorem zwu(p:qj)(s:So)(fr:Nat→Prop):(q25 p s fr).mx yy=s.wk.length:=by
 have e1:Ty.beq yy ql=false:=by kernel_rfl
 have e2:Ty.beq yy q02=false:=by kernel_rfl
 have e3:Ty.beq yy q2p=false:=by kernel_rfl
 have e:Ty.beq yy yy=true:=by kernel_rfl
 simp only[q25,e,e1,e2,e3,if_true,gnF,if_false]
theorem zv4(m0 m1 m2 m3:Nat):flM (qxm m0 m1 m2 m3) ql=m0∧flM (qxm m0 m1 m2 m3) q02=m1∧flM (qxm m0 m1 m2 m3) q2p=m2∧flM (qxm m0 m1 m2 m3) yy=m3:=
 ⟨by show kN (m0:Int)=_;exact uY _,by show kN (m1:Int)=_;exact uY _,by show kN (m2:Int)=_;exact uY _,by show kN (m3:Int)=_;exact uY _⟩
theorem zvm(p:qj)(s:So)(fr:Nat→Prop)(te:Ty):(q25 p s fr).mx te≤flM (qxm s.cs.length s.ys.length s.tr.length s.wk.length) te:=by
 obtain⟨h1,h2,h3,h4⟩:=zv4 s.cs.length s.ys.length s.tr.length s.wk.length;unfold q25;simp only;split
 ·rename_i e;rw[(Ty.beq_iff _ _).1 e,h1];exact uC _
 ·split
  ·rename_i e;rw[(Ty.beq_iff _ _).1 e,h2];exact uC _
  ·split
   ·rename_i e;rw[(Ty.beq_iff _ _).1 e,h3];exact uC _
   ·split
    ·rename_i e;rw[(Ty.beq_iff _ _).1 e,h4];exact uC _
    ·exact uN _
section
variable{A:Nat→Prop}{p:qj}{w W:World}{s:So}{v0 v1 v2 v3:Value}{fr:Nat→Prop}
theorem z5k(hinj:∀x y b,p x=some b→p y=some b→x=y):(p 1=some b→(q25 p s fr).fl b=s.cs.length * ql.w)∧(p 2=some b→(q25 p s fr).fl b=s.ys.length * q02.w)∧(p 3=some b→(q25 p s fr).fl b=s.tr.length * q2p.w)∧(p 4=some b→(q25 p s fr).fl b=s.wk.length * yy.w):=by
 have ne:∀x y,x≠y→p y=some b→¬p x=some b:=fun x y h hy hx=>h (hinj x y b hx hy);refine⟨fun h=>?_,fun h=>?_,fun h=>?_,fun h=>?_⟩
 ·simp only[q25,if_pos h]
 ·simp only[q25,if_neg (ne 1 2 (by decide) h),if_pos h]
 ·simp only[q25,if_neg (ne 1 3 (by decide) h),if_neg (ne 2 3 (by decide) h),if_pos h]
 ·simp only[q25,if_neg (ne 1 4 (by decide) h),if_neg (ne 2 4 (by decide) h),if_neg (ne 3 4 (by decide) h),if_pos h]
theorem z0x{k:Nat}{l:List D}{v:Value}(h:q32 A p w dep pin E te l v)(hte:qm E=some te)(hp:p pin=some k)(h0:0<F.fl k)(hfl:F.fl k=l.length * te.w)(hmx:F.mx te=l.length)(hT:2≤l.length∨nvB te=true):∃cs cs' T te,k<w.heap.size∧w.heap[k]? =some (.cells cs T (0,0))∧qm T=some te∧F.fl k≤F.mx te * te.w∧FlT te cs.size∧w.heap[k]? =some (.cells cs' T (0,0))∧cs'.size=cs.size∧∀j,j<F.fl k→cs'[j]? =cs[j]? :=by
 have hl:0<l.length:=by
  rcases uT l.length with e|e
  ·rw[hfl,e,Nat.zero_mul] at h0;omega
  ·exact e
 rcases h with⟨rfl,rfl⟩|⟨g,cap,cur,rfl,hg,hh,h1,h2,h3,h4,h5⟩
 ·simp at hl
 ·rw[hp] at hg;injection hg with hg;subst hg;have hpos:=q3g hte;refine⟨cur,cur,E,te,qt hh,hh,hte,by rw[hfl,hmx];exact uC _,?_,hh,rfl,fun _ _=>rfl⟩;unfold FlT;rw[h3];rcases hT with hT|hT
  ·left;have:2 * te.w≤cap * te.w:=kB _ (by omega);omega
  ·right;refine⟨hT,?_⟩;have:1 * te.w≤cap * te.w:=kB _ (by omega);omega
theorem zrf(hinj:∀x y b,p x=some b→p y=some b→x=y)(h0:q32 A p w [] 1 33 ql (s.cs.map eC) v0)(h1:q32 A p w [] 2 58 q02 (s.ys.map eY) v1)(h2:q32 A p w [] 3 69 q2p (s.tr.map eU) v2)(h3:q32 A p w [] 4 65 yy (s.wk.map eW) v3)(hc:2≤s.cs.length)(hy:2≤s.ys.length):Flo (q25 p s fr) w w:=fun k hk=>by
 obtain⟨t1,t2,t3,t4⟩:=zg2;obtain⟨f1,f2,f3,f4⟩:=z5k (s:=s) (fr:=fr) hinj (b:=k);have hkk:=hk;unfold q25 at hkk;simp only at hkk;split at hkk
 ·rename_i e;exact z0x h0 t1 e hk (by rw[f1 e,uB]) (by rw[zwy,uB]) (.inl (by rw[uB];exact hc))
 ·split at hkk
  ·rename_i e;exact z0x h1 t2 e hk (by rw[f2 e,uB]) (by rw[zxc,uB]) (.inl (by rw[uB];exact hy))
  ·split at hkk
   ·rename_i e;exact z0x h2 t3 e hk (by rw[f3 e,uB]) (by rw[zx4,uB]) (.inr (by kernel_rfl))
   ·split at hkk
    ·rename_i e;exact z0x h3 t4 e hk (by rw[f4 e,uB]) (by rw[zwu,uB]) (.inr (by kernel_rfl))
    ·omega
theorem zut(hinj:∀x y b,p x=some b→p y=some b→x=y)(h0:q32 A p w [] 1 33 ql (s.cs.map eC) v0)(h1:q32 A p w [] 2 58 q02 (s.ys.map eY) v1)(h2:q32 A p w [] 3 69 q2p (s.tr.map eU) v2)(h3:q32 A p w [] 4 65 yy (s.wk.map eW) v3)
  (r1:ji .i64 s.ser=true)(r2:ji .i64 s.mx=true){w1:World}(hs:∀x b,p x=some b→w1.heap[b]? =w.heap[b]?)(hF:Flo (q25 p s fr) w1 W):Rd W (pinned p) (eS s) qe [v0,v1,v2,v3,.int .i64 s.ser,.int .i64 s.mx]:=by
 obtain⟨t1,t2,t3,t4⟩:=zg2;have key:∀{pin:Nat}{E:TypeId}{te:Ty}{l:List D}{v:Value},q32 A p w [] pin E te l v→qm E=some te→zt 8 te=true→(∀b,p pin=some b→(q25 p s fr).fl b=l.length * te.w)→Rd W (pinned p) (.r l) (.row E) [v]:=fun{pin E te l v}h hte hf hfl=>by
  refine h.stay hte hf fun g cur hg hh hl=>⟨⟨pin,hg⟩,?_⟩;have hpos:=q3g hte;have hfg:=hfl g hg;have h0:0<(q25 p s fr).fl g:=by
   rw[hfg];exact Nat.mul_pos hl hpos
  obtain⟨cs,cs',T,te',-,e1,-,-,-,e2,-,e3⟩:=hF g h0;rw[hs _ _ hg,hh] at e1;injection e1 with e1;injection e1 with e1 e1';subst e1 e1';refine⟨cs',e2,fun j hj=>e3 j ?_⟩;rw[hfg];exact hj
 have q0:=key h0 t1 (by kernel_rfl) fun b hb=>by rw[(z5k (fr:=fr) hinj).1 hb,uB]
 have q1:=key h1 t2 (by kernel_rfl) fun b hb=>by rw[(z5k (fr:=fr) hinj).2.1 hb,uB]
 have q2:=key h2 t3 (by kernel_rfl) fun b hb=>by rw[(z5k (fr:=fr) hinj).2.2.1 hb,uB]
 have q3:=key h3 t4 (by kernel_rfl) fun b hb=>by rw[(z5k (fr:=fr) hinj).2.2.2 hb,uB]
 exact⟨qss,_,rfl,qrd,_,_,[v0],_,rfl,rfl,q0,_,_,[v1],_,rfl,rfl,q1,_,_,[v2],_,rfl,rfl,q2,_,_,[v3],_,rfl,rfl,q3,_,_,[_],_,rfl,rfl,⟨.i64,rfl,rfl,r1⟩,_,_,[_],_,rfl,rfl,⟨.i64,rfl,rfl,r2⟩,rfl,rfl⟩
end
theorem zmu{s:So}{c:Ce}(h:0<(yz s c).length):2≤s.cs.length∧2≤s.ys.length:=by
 have hn:q5k s c≠none:=fun e=>by
  unfold yz at h;rw[qot e] at h;simp at h
 unfold q5k at hn;split at hn
 ·rename_i h1;split at hn
  ·rename_i h2;obtain⟨-,a2,a3,-,a4,a5,a6⟩:=q2b.1 h1;obtain⟨-,-,-,-,b4,b5,b6⟩:=q2b.1 h2;have:=qi.1 a2;have:=qi.1 a3;refine⟨by omega,?_⟩;rcases uZ s.ys.length 2 with hlt|hge
   ·exfalso;have e1:(cellAt s (jk s c).n).n.toNat=0:=by omega
    have e2:(cellAt s (jk s (cellAt s ((jk s c).n+1))).n).n.toNat=0:=by omega
    rw[e1] at a6;rw[e2,a6] at b6;simp at b6
   ·exact hge
  ·exact absurd rfl hn
 ·exact absurd rfl hn
end
variable{c:Cx}{p:qj}{A A':Nat→Prop}{σ:St}{a:Act}{q:Nat→Bool}
section
section
variable{A A':Nat→Prop}{p:qj}{w:World}
theorem FFD.chP(hA:∀b,b<w.heap.size→A b→q7h p b→A' b)(hb:b<w.heap.size)(h:FFD A p dep b):FFD A' p dep b:=h.imp (fun h=>⟨hA b hb h.1 h.2,h.2⟩) id
theorem Rd.chP(hA:∀b,b<w.heap.size→A b→q7h p b→A' b){t:Ty}(h:Rd w (FFD A p dep) d t cs):Rd w (FFD A' p dep) d t cs:=Rd.mono (fun b hb hf=>hf.chP hA hb) h
theorem Fl.chP(hA:∀b,b<w.heap.size→A b→q7h p b→A' b){o:Option Nat}{t:Ty}(h:Fl A p w dep o d t cs):Fl A' p w dep o d t cs:=by
 cases o with
 |none=>exact Rd.chP hA h
 | some pin =>
  rcases h with⟨E,te,l,v,e1,hte,e2,e3,hv⟩|h
  ·refine .inl ⟨E,te,l,v,e1,hte,e2,e3,?_⟩;rcases hv with hv|⟨g,cap,cur,e4,hg,hh,q1,q2,q3,q4,q5⟩
   ·exact .inl hv
   ·refine .inr ⟨g,cap,cur,e4,hg,hh,q1,q2,q3,q4,fun i hi=>?_⟩;obtain⟨vs,hr1,hd⟩:=q5 i hi;exact⟨vs,hr1,Rd.chP hA hd⟩
  ·exact .inr h
theorem Fls.chP(hA:∀b,b<w.heap.size→A b→q7h p b→A' b){own:List (Nat×Nat)}:∀{ds:List D}{j:Nat}{fs:List Ty}{cs:List Value},Fls A p w dep own j ds fs cs→Fls A' p w dep own j ds fs cs
 |[],_,_,_,h=>h
 |d::ds,j,fs,cs,⟨t,ts,c1,c2,e1,e2,h1,h2⟩=>⟨t,ts,c1,c2,e1,e2,Fl.chP hA h1,Fls.chP hA h2⟩
theorem Con.chP(hA:∀b,b<w.heap.size→A b→q7h p b→A' b){own:List (Nat×Nat)}{t:Ty}(h:Con A p w d t own dep cs):Con A' p w d t own dep cs:=by
 unfold Con at h⊢;split
 ·obtain⟨fs,ds,hf,e,h⟩:=h;exact⟨fs,ds,hf,e,Fls.chP hA h⟩
 ·rename_i hne;split at h
  ·rename_i T;exact absurd rfl (hne T)
  ·exact Fl.chP hA h
end
mutual
theorem AV.chP{w:World}(hA:∀b,b<w.heap.size→c.A b→q7h p b→A' b):∀(x:AV)(v:Value),x.pd c p w v→x.pd {c with A:=A'} p w v
 |.any,v,h=>h
 |.undef,v,h=>h
 |.nilS,v,h=>h
 |.nb x neg,v,h=>h
 |.nilP,v,h=>h
 |.ref k q o t,v,h=>h
 |.v x t own dep,v,⟨cs,hp,hc⟩=>⟨cs,hp,hc.chP hA⟩
 |.rd x t dep wr,v,⟨b,o,cs,e,hf,hr,h0,hd,hw⟩=>by
  refine⟨b,o,cs,e,hf.chP hA (qe7 hr h0),hr,h0,Rd.chP hA hd,?_⟩
  match wr,hw with
  |none,_=>trivial
  |some (pin,i,pt,q,te),hw=>exact hw
 |.tup l,v,⟨vs,e,h⟩=>⟨vs,e,z39 hA l vs h⟩
 |.gd cs a,v,h=>⟨fun hc=>AV.chP hA a v (h.1 hc),h.2⟩
 |.fn f l,v,⟨vs,e,h⟩=>⟨vs,e,z39 hA l vs h⟩
 |.bx k T a,v,⟨g,u,hg,e,hh,h⟩=>⟨g,u,hg,e,hh,AV.chP hA a u h⟩
 |.ax k T n a,v,⟨g,u,hg,e,hh,hn,h⟩=>⟨g,u,hg,e,hh,hn,AV.chP hA a (.agg u) h⟩
 |.sn t a,v,⟨e,h⟩=>⟨e,AV.chP hA a v h⟩
 |.lv k t,v,h=>h
 |.ar E xs dep,v,⟨te,cs,e1,e2,h3,h⟩=>⟨te,cs,e1,e2,h3,fun j d hj=>Rd.chP hA (h j d hj)⟩
 |.pt pin i E a,v,⟨h1,h⟩=>⟨h1,AV.chP hA a v h⟩
 |.fr T a,v,⟨g,u,ha,hf,e,hh,h⟩=>⟨g,u,hA g (qt hh) ha hf,hf,e,hh,AV.chP hA a u h⟩
 |.ff f T1 x1 t1 T2 x2 t2 dep,v,⟨g,cs1,cs2,e,ha,hb,hfr,hg,hg2,r1,r2⟩=>⟨g,cs1,cs2,e,⟨hA g (qt hg) ha.1 ha.2,ha.2⟩,⟨hA (g+1) (qt hg2) hb.1 hb.2,hb.2⟩,hfr,hg,hg2,Rd.mono (fun b hb h=>⟨h.1.imp (fun y=>⟨hA b hb y.1 y.2,y.2⟩) id,h.2⟩) r1,Rd.mono (fun b hb h=>⟨h.1.imp (fun y=>⟨hA b hb y.1 y.2,y.2⟩) id,h.2⟩) r2⟩
theorem z39{w:World}(hA:∀b,b<w.heap.size→c.A b→q7h p b→A' b):∀(l:List AV)(vs:List Value),pds c p w l vs→pds {c with A:=A'} p w l vs
 |[],vs,h=>h
 |a::l,vs,⟨v,r,e,ha,hl⟩=>⟨v,r,e,AV.chP hA a v ha,z39 hA l r hl⟩
end
theorem SF.chP{w:World}(hA:∀b,b<w.heap.size→c.A b→q7h p b→A' b)(h:SF c σ p w a):SF {c with A:=A'} σ p w a:=by
 refine⟨fun t x hx=>?_,fun k e he=>?_⟩
 ·obtain⟨v,h1,h2⟩:=h.t t x hx;exact⟨v,h1,AV.chP hA x v h2⟩
 ·obtain⟨g,cs,T,hg,hh,hty,hc⟩:=h.m k e he;exact⟨g,cs,T,hg,hh,hty,hc.chP hA⟩
def z91(q:Nat→Bool)(l:List (Nat×AV)):Bool:=l.all fun e=>e.2.pins.all (fun x=> !q x)&&e.2.keys.all (fun x=> !q x)
def z89(q:Nat→Bool)(l:List (Nat×Ent)):Bool:=l.all fun e=> !q (e.1 * 16)&&e.2.pins.all (fun x=> !q x)
theorem qxz{l:List (Nat×AV)}(h:z91 q l=true){t:Nat}{x:AV}(hx:lkA l t=some x):(∀y∈x.pins,q y=false)∧∀y∈x.keys,q y=false:=by
 have:=uH.1 h _ (qx hx);simp only[gnB,uH,uM] at this;exact this
theorem qy6{l:List (Nat×Ent)}(h:z89 q l=true){k:Nat}{e:Ent}(hx:lkA l k=some e):q (k * 16)=false∧∀y∈e.pins,q y=false:=by
 have:=uH.1 h _ (qx hx);simp only[gnB,uH,uM] at this;exact this
def qct(A:Nat→Prop)(q:Nat→Bool)(p:qj)(b:Nat):Prop:=A b∧∀x,q x=true→p x≠some b
def q8z(q:Nat→Bool)(p p':qj):qj:=fun x=>if q x then p x else p' x
section
variable{c:Cx}{F F':Flr}{p p':qj}{w0 w w':World}{S0:Nat→Prop}{q:Nat→Bool}{σ:St}{a a':Act}
theorem q6q{x:Nat}(h:unP q p x=some b):q x=false∧p x=some b:=by
 unfold unP at h;split at h
 ·cases h
 ·rename_i hq;exact⟨by simpa using hq,h⟩
theorem zl9{x:Nat}(hq:q x=false)(h:p x=some b):unP q p x=some b:=by
 unfold unP;rw[hq];exact h
theorem qvo(h:Bs A F w0 S0 p w)(hflo:Flo F' w w)(hfr:∀b,F.fr b→F'.fr b):Bs (qct A q p) F' w (pinned (unP q p)) (unP q p) w:=
 ⟨fun x y b hx hy=>h.inj x y b (q6q hx).2 (q6q hy).2,fun x b hx=>h.bd x b (q6q hx).2,But.refl _ _,fun x b hx=>.inl ⟨x,hx⟩,fun b hb=>by
  have:=h.but.size;refine⟨⟨(h.new b (by omega)).1,fun x _ hx=>?_⟩,hfr b (h.new b (by omega)).2⟩;have:=h.bd x b hx;omega,fun x b hx=>⟨h.pa x b (q6q hx).2,fun y hy hyb=>by
   obtain⟨h1,h2⟩:=q6q hx;rw[h.inj y x b hyb h2,h1] at hy;cases hy⟩,fun x b hx=>h.obj x b (q6q hx).2,hflo⟩
theorem qse(h:SF c σ p w a)(h1:z91 q σ.t=true)(h2:z89 q σ.m=true):SF {c with A:=qct c.A q p} σ (unP q p) w a:=by
 have h':=SF.chP (A':=qct c.A q p) (fun b _ hA hf=>⟨hA,fun x _ hx=>hf x hx⟩) h;have hst:Stab (qct c.A q p) q q p w (unP q p) w:=⟨uC _,fun b _ _ hf=>⟨rfl,fun x hx=>hf x (q6q hx).2⟩,fun x b hq hx=>zl9 hq hx,fun _ _ _ _=>rfl⟩;refine⟨fun t x hx=>?_,fun k e he=>?_⟩
 ·obtain⟨v,e1,e2⟩:=h'.t t x hx;obtain⟨o1,o2⟩:=qxz h1 hx;exact⟨v,e1,AV.kept hst x v (fun y hy=>⟨o1 y hy,o1 y hy⟩) o2 e2⟩
 ·obtain⟨o1,o2⟩:=qy6 h2 he;exact q1v.kept hst (fun y hy=>⟨o2 y hy,o2 y hy⟩) ⟨o1,o1⟩ (h'.m k e he)
theorem qe5(h:Bs c.A F w0 S0 p w)(h':Bs (qct c.A q p) F' w (pinned (unP q p)) p' w')(hb:b<w.heap.size)(hn:∀x,q x=false→p x≠some b):w'.heap[b]? =w.heap[b]? :=
 h'.but.block b hb fun hp=>by
  obtain⟨x,hx⟩:=hp;exact hn x (q6q hx).1 (q6q hx).2
theorem qae(h:Bs c.A F w0 S0 p w)(h':Bs (qct c.A q p) F' w (pinned (unP q p)) p' w'){x:Nat}(hx:p' x=some b):(∃y,q y=false∧p y=some b)∨w.heap.size≤b:=by
 rcases h'.pin x b hx with⟨y,hy⟩|h
 ·exact .inl ⟨y,q6q hy⟩
 ·exact .inr h
theorem z0t(h:Bs c.A F w0 S0 p w)(h':Bs (qct c.A q p) F' w (pinned (unP q p)) p' w')(hflo:Flo F w0 w'):Bs c.A F w0 S0 (q8z q p p') w':=by
 have hsz:=h'.but.size;refine⟨fun x y b hx hy=>?_,fun x b hx=>?_,?_,fun x b hx=>?_,fun b hb=>h.new b hb,fun x b hx=>?_,fun x b hx=>?_,hflo⟩
 ·have mix:∀u v,q u=true→p u=some b→p' v=some b→False:=fun u v hu h1 h2=>by
   rcases qae h h' h2 with⟨z,hz,hzb⟩|hlt
   ·rw[h.inj u z b h1 hzb,hz] at hu;cases hu
   ·have:=h.bd u b h1;omega
  unfold q8z at hx hy;cases hqx:q x<;>cases hqy:q y<;>rw[hqx] at hx<;>rw[hqy] at hy
  ·exact h'.inj x y b hx hy
  ·exact(mix y x hqy hy hx).elim
  ·exact(mix x y hqx hx hy).elim
  ·exact h.inj x y b hx hy
 ·unfold q8z at hx;split at hx
  ·exact uD (h.bd x b hx) hsz
  ·exact h'.bd x b hx
 ·exact h.but.trans h'.but fun b hS _=>by
   obtain⟨x,hx⟩:=hS;exact h.pin x b (q6q hx).2
 ·unfold q8z at hx;split at hx
  ·exact h.pin x b hx
  ·rcases qae h h' hx with⟨z,hz,hzb⟩|hlt
   ·exact h.pin z b hzb
   ·have:=h.but.size;exact .inr (by omega)
 ·unfold q8z at hx;split at hx
  ·exact h.pa x b hx
  ·exact(h'.pa x b hx).1
 ·unfold q8z at hx;split at hx
  ·rename_i hq;refine(h.obj x b hx).same (qe5 h h' (h.bd x b hx) fun y hy hyb=>?_);rw[h.inj x y b hx hyb,hy] at hq;cases hq
  ·exact h'.obj x b hx
theorem z1n(h:Bs c.A F w0 S0 p w)(h':Bs (qct c.A q p) F' w (pinned (unP q p)) p' w')(hf:SF {c with A:=qct c.A q p} σ p' w' a)(h1:z91 q σ.t=true)(h2:z89 q σ.m=true):SF c σ (q8z q p p') w' a:=by
 have hst:Stab (qct c.A q p) q q p' w' (q8z q p p') w':=⟨uC _,fun b _ hA hf=>⟨rfl,fun x hx=>by
  unfold q8z at hx;split at hx
  ·rename_i hq;exact hA.2 x hq hx
  ·exact hf x hx⟩,fun x b hq hx=>by
  unfold q8z;rw[hq];exact hx,fun _ _ _ _=>rfl⟩
 have hf':SF {c with A:=qct c.A q p} σ (q8z q p p') w' a:=by
  refine⟨fun t x hx=>?_,fun k e he=>?_⟩
  ·obtain⟨v,e1,e2⟩:=hf.t t x hx;obtain⟨o1,o2⟩:=qxz h1 hx;exact⟨v,e1,AV.kept hst x v (fun y hy=>⟨o1 y hy,o1 y hy⟩) o2 e2⟩
  ·obtain⟨o1,o2⟩:=qy6 h2 he;exact q1v.kept hst (fun y hy=>⟨o2 y hy,o2 y hy⟩) ⟨o1,o1⟩ (hf.m k e he)
 exact SF.chP (c:={c with A:=qct c.A q p}) (A':=c.A) (fun b _ hA _=>hA.1) hf'
theorem qzp(h:Bs c.A F w0 S0 p w)(h':Bs (qct c.A q p) F' w (pinned (unP q p)) p' w'):Stab c.A (fun x=> !q x) (fun x=> !q x) p w (q8z q p p') w':=
 ⟨h'.but.size,fun b hb hA hf=>⟨qe5 h h' hb fun x _=>hf x,fun x hx=>by
  unfold q8z at hx;split at hx
  ·exact hf x hx
  ·rcases qae h h' hx with⟨z,hz,hzb⟩|hlt
   ·exact hf z hzb
   ·omega⟩,fun x b hq hx=>by
  unfold q8z;have:q x=true:=by simpa using hq
  rw[this];exact hx,fun x b hq hx=>qe5 h h' (h.bd x b hx) fun y hy hyb=>by
  have:q x=true:=by simpa using hq
  rw[h.inj x y b hx hyb,hy] at this;cases this⟩
theorem quk(h:Bs c.A F w0 S0 p w)(h':Bs (qct c.A q p) F' w (pinned (unP q p)) p' w'){k:Nat}{e:Ent}(he:q1v c p w k e)(h0:q (k * 16)=true)(h1:e.pins.all q=true):q1v c (q8z q p p') w' k e:=
 q1v.kept (qzp h h') (fun y hy=>by have:=uH.1 h1 y hy;simp[this]) (by simp[h0]) he
theorem z2g(h:Bs c.A F w0 S0 p w)(h':Bs (qct c.A q p) F' w (pinned (unP q p)) p' w'){x:AV}{v:Value}(hx:x.pd c p w v)(h1:x.pins.all q=true)(h2:x.keys.all q=true):x.pd c (q8z q p p') w' v:=
 AV.kept (qzp h h') x v (fun y hy=>by have:=uH.1 h1 y hy;simp[this]) (fun y hy=>by have:=uH.1 h2 y hy;simp[this]) hx
end
def zjn(y x:AV):Bool:=AV.beq y x||(match y,x with
  |_,.any=>true
  |.sn s z,.sn s' .any=>uX s s'
  |.sn s z,x=>AV.beq z x
  |_,_=>false)
def zih(σ τ:St):Bool:=(τ.t.all fun e=>match lkA σ.t e.1 with
 |some y=>zjn y e.2
 |none=>false)&&τ.m.all fun e=>match lkA σ.m e.1 with
 |some y=>Ent.beq y e.2
 |none=>false
theorem zim{w:World}{v:Value}{y x:AV}(h:zjn y x=true)(hy:y.pd c p w v):x.pd c p w v:=by
 unfold zjn at h;simp only[uQ] at h;rcases h with h|h
 ·have:=AV.beq_ok _ _ h;subst this;exact hy
 ·split at h
  ·trivial
  ·obtain⟨e,-⟩:=hy;have:=gnN h;subst this;exact⟨e,trivial⟩
  ·have:=AV.beq_ok _ _ h;subst this;exact hy.2
  ·cases h
theorem SF.weak{τ:St}{w:World}(h:SF c σ p w a)(hw:zih σ τ=true):SF c τ p w a:=by
 unfold zih at hw;simp only[gnB] at hw;refine⟨fun t x hx=>?_,fun k e he=>?_⟩
 ·have h1:=uH.1 hw.1 _ (qx hx);simp only at h1;split at h1
  ·rename_i y hy;obtain⟨v,e1,e2⟩:=h.t t y hy;exact⟨v,e1,zim h1 e2⟩
  ·cases h1
 ·have h1:=uH.1 hw.2 _ (qx he);simp only at h1;split at h1
  ·rename_i y hy;have:=Ent.beq_ok h1;subst this;exact h.m k y hy
  ·cases h1
def zvf(z:Nat)(l:List (Nat×AV)):Bool:=l.all fun e=>Nat.blt e.1 z&&(match e.2 with
 |.sn t _=>uX t e.1
 |_=>false)
theorem SF.snapA{w:World}{a':Act}(h:SF c σ p w a)(hs:zvf a'.tmps.size σ.t=true)(hsn:∀t,t<a'.tmps.size→a'.tmps[t]? =some (c.snap t)):SF c σ p w a':=by
 refine⟨fun t x hx=>?_,h.m⟩;have h1:=uH.1 hs _ (qx hx);simp only[gnB,Nat.blt_eq] at h1;obtain⟨h1,h2⟩:=h1;split at h2
 ·rename_i s y;have:=gnN h2;subst this;obtain⟨v,-,e2,e3⟩:=h.t _ _ hx;subst e2;exact⟨_,hsn _ h1,rfl,e3⟩
 ·cases h2
end
variable{nm:ByteArray}{x:Ce}{S1:Nat→Prop}{W:World}
section
open Go.RowKit Go.Shelf
def q1c(s:So):Tbl:=qxm s.cs.length s.ys.length s.tr.length s.wk.length
theorem z14(s:So):q0v (q1c s):=by
 unfold q1c qxm;refine .cons (q21 _ q37 _ _) (.cons (q21 _ q37 _ _) (.cons (q21 _ q37 _ _) (.cons (q21 _ q37 _ _) (.cons q2z (.cons qgx (.cons q4j (.cons qc8 .nil)))))))
theorem z0o(s:So):q9v (q1c s)=true:=rfl
theorem zp7{s:So}{wv:Ce}{s1:So}(hv:qi2 s1 (q1i nm) (q5g x wv)=true):qf (q1c s) 7 [eS s1,eT (q1i nm),.r [.a [.i 0,eC x],.a [.i 1,eC wv]]]=some [eC (z5 wv s1 ⟨nm,x⟩).1,.r ((z5 wv s1 ⟨nm,x⟩).2.1.map eV),.i (z5 wv s1 ⟨nm,x⟩).2.2.1,eS (z5 wv s1 ⟨nm,x⟩).2.2.2]:=by
 have e:dVs (.r [.a [.i 0,eC x],.a [.i 1,eC wv]])=q5g x wv:=by
  show[dV (eV ⟨0,x⟩),dV (eV ⟨1,wv⟩)]=_
  rw[qv3,qv3];rfl
 have ht:qf (q1c s) 7=qoy:=rfl;rw[ht];unfold qoy;simp only[yf,jz,e];rw[if_pos hv];rfl
theorem zq5{s:So}:qf (q1c s) 6 [.s q7l,.r [eT (q39 nm),eT (vaT 0),eT (vaT 1)]]=some [eT (q1i nm)]:=by
 have ht:qf (q1c s) 6=gSL q8x:=rfl;rw[ht];unfold gSL
 show some [eT (q8x q7l [dT (eT (q39 nm)),dT (eT (vaT 0)),dT (eT (vaT 1))])]=_
 rw[jz,jz,jz];rfl
section
variable{wk:Wk}{s0 sk:So}{o:List Ce}{dw:D}{y:At}{R:List D→Prop}{B:Nat→List D→Prop}
abbrev q9m(wk:Wk)(sk:So)(o:List Ce)(dw:D)(y:At):List D:=[eW wk,eS sk,.r (o.map eC),.i 0,dw,.s y.name,eC y.val]
theorem zv6(hv:qi2 sk (q1i y.name) (q5g y.val wk.val)=true)(hg:qe2 s0 sk)(he:(z5 wk.val sk y).2.2.1=0)(hR:R [eS (z5 wk.val sk y).2.2.2,eC (z5 wk.val sk y).1]):ztd.go (qf (q1c s0)) R (q9m wk sk o dw y) B:=by
 have hp:=zp7 (s:=s0) (nm:=y.name) (x:=y.val) (wv:=wk.val) hv;have hst:=zq5 (s:=s0) (nm:=y.name);have hN:(⟨#[97,116,116,114,95,104,111,111,107]⟩:ByteArray)=q7l:=rfl;have t0:qf (q1c s0) 0 []=some [.i s0.cs.length]:=rfl;have t1:qf (q1c s0) 1 []=some [.i s0.ys.length]:=rfl;have t2:qf (q1c s0) 2 []=some [.i s0.tr.length]:=rfl;have t3:qf (q1c s0) 3 []=some [.i s0.wk.length]:=rfl;have t4:qf (q1c s0) 4 [.s y.name]=some [eT (q39 y.name)]:=rfl;have t5:qf (q1c s0) 5 [.i 0]=some [eT (vaT 0)]:=rfl;have t6:qf (q1c s0) 5 [.i 1]=some [eT (vaT 1)]:=rfl;obtain⟨g1,g2,-,g3,g4,-⟩:=hg;have g3:s0.tr.length≤sk.tr.length:=by rw[g3];exact uC _
 have g4:s0.wk.length≤sk.wk.length:=by rw[g4];exact uC _
 unfold ztd;simp only[qg,z8,q4o,q0s,X.says,X.ev,X.evs,evl,uI,uJ,hN,t0,t1,t2,t3,t4,t5,t6,hst,hp,zo6,uW,uR,q5y,he,q9e,decide_true,kY,gnF,false_implies,true_and,and_true,qed,zju,z81,z41,q7i,uB,j4,gnD,vC,forall_const];exact⟨⟨g1,g2,g3,g4⟩,hR⟩
theorem zvv(hv:qi2 sk (q1i y.name) (q5g y.val wk.val)=true)(hg:qe2 s0 sk)(he:¬(z5 wk.val sk y).2.2.1=0)(hR:R [eS (z5 wk.val sk y).2.2.2,.r [],.i (z5 wk.val sk y).2.2.1]):zqn.go (qf (q1c s0)) R (q9m wk sk o dw y) B:=by
 have hp:=zp7 (s:=s0) (nm:=y.name) (x:=y.val) (wv:=wk.val) hv;have hst:=zq5 (s:=s0) (nm:=y.name);have hN:(⟨#[97,116,116,114,95,104,111,111,107]⟩:ByteArray)=q7l:=rfl;have t0:qf (q1c s0) 0 []=some [.i s0.cs.length]:=rfl;have t1:qf (q1c s0) 1 []=some [.i s0.ys.length]:=rfl;have t2:qf (q1c s0) 2 []=some [.i s0.tr.length]:=rfl;have t3:qf (q1c s0) 3 []=some [.i s0.wk.length]:=rfl;have t4:qf (q1c s0) 4 [.s y.name]=some [eT (q39 y.name)]:=rfl;have t5:qf (q1c s0) 5 [.i 0]=some [eT (vaT 0)]:=rfl;have t6:qf (q1c s0) 5 [.i 1]=some [eT (vaT 1)]:=rfl;obtain⟨g1,g2,-,g3,g4,-⟩:=hg;have g3:s0.tr.length≤sk.tr.length:=by rw[g3];exact uC _
 have g4:s0.wk.length≤sk.wk.length:=by rw[g4];exact uC _
 unfold zqn;simp only[qg,z8,q4o,q0s,X.says,X.ev,X.evs,evl,uI,uJ,hN,t0,t1,t2,t3,t4,t5,t6,hst,hp,zo6,uW,uR,q5y,he,q9e,decide_false,Bool.not_false,gnF,Bool.true_eq_false,false_implies,true_and,and_true,qed,zju,z81,z41,q7i,uB,j4,gnD,vC,forall_const];exact⟨⟨g1,g2,g3,g4⟩,hR⟩
end
def wkA(A:Nat→Prop)(n8 N1:Nat)(b:Nat):Prop:=A b∧(b<n8∨N1≤b)
def wkS(p2:qj)(w9:World)(n8 m:Nat)(b:Nat):Prop:=pinned p2 b∨q4e w9 (n8+1) m b
def q0i(c2:Cx)(p2:qj)(s0:So)(n8:Nat)(W1:World)(a9:Act):Cx:={c2 with A:=wkA c2.A n8 W1.heap.size,F:=q25 p2 s0 c2.F.fr,snap:=fun t=>a9.tmps.getD t Go.undef}
structure WkH(wk:Wk)(s0:So)(o0:List Ce)(l:List At)(k:Nat)(sk:So)(o:List Ce):Prop where
 run:zz wk.val sk o (l.drop k)=zz wk.val s0 o0 l
 ok:qcm wk.val sk (l.drop k)=true
 grow:qe2 s0 sk
 len:o.length≤o0.length+k
def WkG(p2:qj)(s0:So)(p:qj):Prop:=∀b,p 33=some b→(q25 p2 s0 (fun _=>True)).fl b=0
def WkI(c2:Cx)(p2:qj)(w9 W1:World)(a9:Act)(m n8:Nat)(wk:Wk)(s0:So)(x0:Ce)(o0:List Ce)(dw:D)(k N:Nat)(W:World):Prop:=w9.heap.size+2≤N∧N≤W.heap.size∧∃p3 sk o,WkH wk s0 o0 (yz s0 x0) k sk o∧Bs (q0i c2 p2 s0 n8 W1 a9).A (q0i c2 p2 s0 n8 W1 a9).F W1 (wkS p2 w9 n8 m) p3 W∧SF ((q0i c2 p2 s0 n8 W1 a9).at (qf (q1c s0)) [eW wk,eS sk,.r (o.map eC),.i 0,dw]) z1f p3 W a9∧(∀y b,p3 y=some b→b<N)∧WkG p2 s0 p3
def WkM(c2:Cx)(p2:qj)(w9 W1:World)(a9:Act)(m n8:Nat)(wk:Wk)(s0:So)(x0:Ce)(o0:List Ce)(dw:D)(k N B:Nat)(a1:Act)(W:World):Prop:=∃y p4 sk o,(yz s0 x0)[k]? =some y∧WkH wk s0 o0 (yz s0 x0) k sk o∧Bs (q0i c2 p2 s0 n8 W1 a9).A (q0i c2 p2 s0 n8 W1 a9).F W1 (wkS p2 w9 n8 m) p4 W∧SF ((q0i c2 p2 s0 n8 W1 a9).at (qf (q1c s0)) (q9m wk sk o dw y)) z74 p4 W a1∧a1.defers=[]∧a1.tmps.size=69∧w9.heap.size+2≤N∧N≤B∧B≤W.heap.size∧(∀q b,p4 q=some b→b<N∨B≤b)∧WkG p2 s0 p4
def WkJ(c2:Cx)(p2:qj)(w9 W1:World)(a9:Act)(m n8:Nat)(wk:Wk)(s0:So)(x0:Ce)(o0:List Ce)(W:World):Prop:=¬(zz wk.val s0 o0 (yz s0 x0)).2.2=0∧∃p3 l,Bs (q0i c2 p2 s0 n8 W1 a9).A (q0i c2 p2 s0 n8 W1 a9).F W1 (wkS p2 w9 n8 m) p3 W∧SF ((q0i c2 p2 s0 n8 W1 a9).at (qf (q1c s0)) (l++[eS (zz wk.val s0 o0 (yz s0 x0)).1,.r [],.i (zz wk.val s0 o0 (yz s0 x0)).2.2])) zrw p3 W a9∧l.length=7
theorem qrf{w' W1:World}{bc m:Nat}{W':World}{p3:qj}(hS:∀b,q4e w' bc m b→S1 b)(hA:∀b,A' b→¬q4e w' bc m b)(hF:∀b,0<F.fl b→¬q4e w' bc m b)(h:Bs A' F W1 S1 p3 W)(hb:But (q4e w' bc m) W W'):Bs A' F W1 S1 p3 W'∧Stab A' no no p3 W p3 W':=
 ⟨⟨h.inj,fun x b hx=>uD (h.bd x b hx) hb.size,h.but.trans hb fun i hi _=>.inl (hS i hi),h.pin,h.new,h.pa,fun x b hx=>(h.obj x b hx).same (hb.block b (h.bd x b hx) (hA b (h.pa x b hx))),h.flo.same fun k hk hfl=>hb.block k hk (hF k hfl)⟩,
  hb.size,fun b hlt ha hf=>⟨hb.block b hlt (hA b ha),hf⟩,fun x b _ hx=>hx,fun x b _ hx=>hb.block b (h.bd x b hx) (hA b (h.pa x b hx))⟩
theorem zt4{s:So}{fr:Nat→Prop}(h:0<(q25 p s fr).fl b):∃x,p x=some b:=by
 unfold q25 at h;simp only at h;split at h
 ·exact⟨_,‹_›⟩
 ·split at h
  ·exact⟨_,‹_›⟩
  ·split at h
   ·exact⟨_,‹_›⟩
   ·split at h
    ·exact⟨_,‹_›⟩
    ·omega
end
section
open Go.RowKit Go.Shelf
theorem qc5(wv:Ce)(s:So)(o:List Ce)(x:At)(l:List At):zz wv s o (x::l)=if(z5 wv s x).2.2.1=0 then zz wv (z5 wv s x).2.2.2 (o++[(z5 wv s x).1]) l else((z5 wv s x).2.2.2,[],(z5 wv s x).2.2.1):=rfl
def qC(x:Nat):Bool:=uX x 32||uX x 33
def qO(x:Nat):Bool:= !(uX x 32||(uX x 33||uX x 160))
theorem zvp{x:Nat}(h:qO x=false):x=32∨x=33∨x=160:=by
 unfold qO at h;simp only[kS,uQ] at h;exact h.imp gnN fun h=>h.imp gnN gnN
section
variable{c2:Cx}{p2:qj}{w9 W1:World}{a9:Act}{m n8:Nat}{s0:So}{x0:Ce}{wk:Wk}{o0:List Ce}{dw:D}{v0 v1 v2 v3:Value}
theorem zma:q33 [] [] 7 (q28 [] [] [] 7 z38)=z38:=by kernel_rfl
theorem zgf{w0:World}(h:Flo F w0 W){g:Nat}{t:Ty}(hg:W.heap[g]? =some (.cells cur T (0,0)))(hT:qm T=some t)(hs:cur.size=t.w)(hnv:nvB t=false):F.fl g=0:=by
 rcases uT (F.fl g) with e|e
 ·exact e
 ·have hp:=q3g hT;have:=(FlW.var h hg hT hs (fun h=>by rw[hnv] at h;cases h) #[] e cur T hg).1;simp at this;omega
theorem zwc(hlo:c2.lo=1)(hz:a9.tmps.size=69)(h9:w9.heap.size=n8+2)(hinj:∀x y b,p2 x=some b→p2 y=some b→x=y)(hp2:∀x b,p2 x=some b→b<n8)
  (h0:q32 c2.A p2 w9 [] 1 33 ql (s0.cs.map eC) v0)(h1:q32 c2.A p2 w9 [] 2 58 q02 (s0.ys.map eY) v1)(h2:q32 c2.A p2 w9 [] 3 69 q2p (s0.tr.map eU) v2)(h3:q32 c2.A p2 w9 [] 4 65 yy (s0.wk.map eW) v3)(r1:ji .i64 s0.ser=true)(r2:ji .i64 s0.mx=true)
  (hg:∃T,w9.heap[n8]? =some (.cells [v0,v1,v2,v3,.int .i64 s0.ser,.int .i64 s0.mx].toArray T (0,0)))(hbut:But Nil w9 W1)(hm1:w9.heap.size+2≤m)(hm2:m<W1.heap.size)(hob:o0.length+(yz s0 x0).length+1≤8796093021952):
  ItOk w9 a9 3 n8 (n8+1) m 36 37 zil z8k [v0,v1,v2,v3,.int .i64 s0.ser,.int .i64 s0.mx] s0 x0 (WkI c2 p2 w9 W1 a9 m n8 wk s0 x0 o0 dw) (WkM c2 p2 w9 W1 a9 m n8 wk s0 x0 o0 dw) (WkJ c2 p2 w9 W1 a9 m n8 wk s0 x0 o0):=by
 obtain⟨T,hg⟩:=hg;have hw1:=hbut.size;have hAh:∀b,(q0i c2 p2 s0 n8 W1 a9).A b→¬q4e w9 (n8+1) m b:=fun b h=>by
  have h:wkA c2.A n8 W1.heap.size b:=h;obtain⟨-,h⟩:=h;unfold q4e;omega
 have hSh:∀b,q4e w9 (n8+1) m b→wkS p2 w9 n8 m b:=fun b h=>.inr h;have hFh:∀b,0<(q0i c2 p2 s0 n8 W1 a9).F.fl b→¬q4e w9 (n8+1) m b:=fun b h=>by
  obtain⟨x,hx⟩:=zt4 h;have:=hp2 x b hx;unfold q4e;omega
 have hfm:∀te,(q0i c2 p2 s0 n8 W1 a9).F.mx te≤flM (q1c s0) te:=fun te=>zvm p2 s0 c2.F.fr te;have hcl:(q0i c2 p2 s0 n8 W1 a9).lo=1:=hlo;have hfl0:∀{b:Nat}{W:World},Flo (q0i c2 p2 s0 n8 W1 a9).F W1 W→W1.heap.size≤b→(q25 p2 s0 (fun _=>True)).fl b=0:=fun{b W}hF hb=>by
  rcases uT ((q25 p2 s0 (fun _=>True)).fl b) with e|e
  ·exact e
  ·obtain⟨cs,cs',T,te,hlt,-⟩:=hF b e;omega
 refine⟨?_,?_,?_,?_,?_,?_⟩
 ·-- the copy is readable
  rintro k N W⟨h4,h5,p3,sk,o,hh,hb3,hf3,hp3,hG⟩;refine⟨h4,h5,⟨T,?_⟩,?_⟩
  ·refine(hb3.but.block n8 (by omega) ?_).trans ((hbut.block n8 (by omega) (fun h=>h)).trans hg);rintro(⟨x,hx⟩|h)
   ·have:=hp2 x n8 hx;omega
   ·unfold q4e at h;omega
  ·refine Rd.mono (fun b _ hb=>?_) (zut hinj h0 h1 h2 h3 r1 r2 (w1:=W1) (W:=W) (fr:=c2.F.fr) (fun x b hx=>hbut.block b (by have:=hp2 x b hx;omega) (fun h=>h)) hb3.flo);obtain⟨x,hx⟩:=hb;have:=hp2 x b hx;exact⟨by omega,by omega⟩
 ·rintro k N W W'⟨h4,h5,p3,sk,o,hh,hb3,hf3,hp3,hG⟩hb;obtain⟨q1,q2⟩:=qrf hSh hAh hFh hb3 hb;exact⟨h4,uP h5 hb.size,p3,sk,o,hh,q1,SF.same q2 hf3,hp3,hG⟩
 ·-- the loop's variables
  rintro k N W y hy hyo⟨h4,h5,p3,sk,o,hh,hb3,hf3,hp3,hG⟩;have hsf:SF ((q0i c2 p2 s0 n8 W1 a9).at (qf (q1c s0)) (q9m wk sk o dw y)) ⟨qok++[(36,.v (.tok 5) .str [] []),(37,.v (.tok 6) ql [] [])],zjk⟩ p3 W {tmps:=(a9.tmps.setIfInBounds 36 (.string y.name)).setIfInBounds 37 (.agg (ceL y.val).toArray),defers:=[]}:=by
   refine⟨fun t x hx=>?_,fun j e he=>?_⟩
   ·have hx:=qx hx;have old:∀t x,lkA z1f.t t=some x→t≠36→t≠37→(∀v,x.pd ((q0i c2 p2 s0 n8 W1 a9).at (qf (q1c s0)) [eW wk,eS sk,.r (o.map eC),.i 0,dw]) p3 W v→x.pd ((q0i c2 p2 s0 n8 W1 a9).at (qf (q1c s0)) (q9m wk sk o dw y)) p3 W v)→∃v,((a9.tmps.setIfInBounds 36 (.string y.name)).setIfInBounds 37 (.agg (ceL y.val).toArray))[t]? =some v∧x.pd ((q0i c2 p2 s0 n8 W1 a9).at (qf (q1c s0)) (q9m wk sk o dw y)) p3 W v:=fun t x hl n1 n2 hpd=>by
     obtain⟨v,e1,e2⟩:=hf3.t t x hl;exact⟨v,by rw[uE (Ne.symm n2),uE (Ne.symm n1)];exact e1,hpd v e2⟩
    simp only[qok,kD,kF,gnM] at hx;rcases hx with⟨rfl,rfl⟩|⟨rfl,rfl⟩|⟨rfl,rfl⟩|⟨rfl,rfl⟩|⟨rfl,rfl⟩|⟨rfl,rfl⟩|⟨rfl,rfl⟩|⟨rfl,rfl⟩
    ·exact old _ _ (by kernel_rfl) (by decide) (by decide) fun v h=>h
    ·exact old _ _ (by kernel_rfl) (by decide) (by decide) fun v h=>h
    ·exact old _ _ (by kernel_rfl) (by decide) (by decide) fun v h=>h
    ·exact old _ _ (by kernel_rfl) (by decide) (by decide) fun v h=>h
    ·exact old _ _ (by kernel_rfl) (by decide) (by decide) fun v h=>h
    ·exact old _ _ (by kernel_rfl) (by decide) (by decide) fun v h=>h
    ·exact⟨.string y.name,by rw[uE (by decide),uK (by omega)],_,rfl,Con.of_rd (show Rd W _ (.s y.name) .str _ from⟨rfl,rfl,hyo.1⟩)⟩
    ·exact⟨.agg (ceL y.val).toArray,by rw[uK (by simp;omega)],ceL y.val,rfl,Con.of_rd (show Rd W _ (eC y.val) ql _ from qy9 hyo.2)⟩
   ·have he:=qx he;simp only[zjk,gnM] at he;rcases he with⟨rfl,rfl⟩|⟨rfl,rfl⟩|⟨rfl,rfl⟩|⟨rfl,rfl⟩
    ·exact hf3.m 0 _ (by kernel_rfl)
    ·exact hf3.m 2 _ (by kernel_rfl)
    ·exact hf3.m 3 _ (by kernel_rfl)
    ·exact hf3.m 6 _ (by kernel_rfl)
  have hcs:=hf3.m 2 ⟨.tok 2,zl,[(0,33)],[]⟩ (by kernel_rfl);obtain⟨vc,tc1,tc2⟩:=hf3.t 2 (.sn 2 (.ref 2 [] 0 zl)) (by kernel_rfl);have hbA:=qvo (q:=qC) (F':=(q0i c2 p2 s0 n8 W1 a9).F) hb3 hb3.flo.anew fun _ h=>h;have hfA:=qse (q:=qC) (hsf.weak (τ:=zmi) (by kernel_rfl)) (by kernel_rfl) (by kernel_rfl)
  have pre:=qa3 (c:={(q0i c2 p2 s0 n8 W1 a9) with A:=qct (q0i c2 p2 s0 n8 W1 a9).A qC p3}) (z:=69) (some (w9.heap.size+1)) 3 (z14 s0) hfm (z0o s0) [zil] (n:=7) (ann:=q88) (R:=fun o=>o=[]) (B:=fun _ _=>False) (ts:=[]) (ms:=[]) (kill:=[]) (σk:=z38) (l:=q9m wk sk o dw y) (σ:=zmi) (d:=[]) (w0:=W) (S0:=pinned (unP qC p3)) (p:=unP qC p3) (Q:=fun _ _ _=>False)
   (K:=fun a1 W2=>WkM c2 p2 w9 W1 a9 m n8 wk s0 x0 o0 dw k N W.heap.size a1 W2∧KpN w9 (n8+1) m N W.heap.size W W2)
   (by
    show(q65 uA (q1c s0) q88 c2.lo 69 [zil] 7 zmi (toN [] [] [] z38)).go _ _ _ _
    rw[hlo];unfold q1c;rw[zqq];rfl) rfl hbA hfA rfl (by simp;exact hz) (fun st p4 W2 a2 hR hst hb4 hf4 hd4 hz4=>?_)
  ·exact pre
  ·have hR:st=[]:=hR;subst hR;rw[zma,kG] at hf4;have hb5:=z0t hb3 hb4 (hb3.flo.trans hb4.flo);have hf5:=z1n (c:=(q0i c2 p2 s0 n8 W1 a9).at (qf (q1c s0)) (q9m wk sk o dw y)) (q:=qC) hb3 hb4 hf4 (by kernel_rfl) (by kernel_rfl);have hc5:=quk (c:=(q0i c2 p2 s0 n8 W1 a9).at (qf (q1c s0)) (q9m wk sk o dw y)) (q:=qC) (k:=2) (e:=⟨.tok 2,zl,[(0,33)],[]⟩) hb3 hb4 hcs (by kernel_rfl) (by kernel_rfl);have ht5:=z2g (c:=(q0i c2 p2 s0 n8 W1 a9).at (qf (q1c s0)) (q9m wk sk o dw y)) (q:=qC) (x:=.sn 2 (.ref 2 [] 0 zl)) hb3 hb4 tc2 (by kernel_rfl) (by kernel_rfl);have hf6:SF ((q0i c2 p2 s0 n8 W1 a9).at (qf (q1c s0)) (q9m wk sk o dw y)) z74 (q8z qC p3 p4) W2 a2:=by
    refine⟨fun t x hx=>?_,fun j e he=>?_⟩
    ·have hx:=qx hx;simp only[z74,qok,kD,kF,gnM] at hx;rcases hx with⟨rfl,rfl⟩|⟨rfl,rfl⟩|⟨rfl,rfl⟩|⟨rfl,rfl⟩|⟨rfl,rfl⟩|⟨rfl,rfl⟩|⟨rfl,rfl⟩|⟨rfl,rfl⟩
     ·exact hf5.t 0 _ (by kernel_rfl)
     ·exact hf5.t 1 _ (by kernel_rfl)
     ·obtain⟨v,e1,e2,-⟩:=hf5.t 2 (.sn 2 .any) (by kernel_rfl);obtain⟨e3,-⟩:=id tc2;have e4:v=vc:=e2.trans e3.symm;exact⟨v,e1,by rw[e4];exact ht5⟩
     ·exact hf5.t 3 _ (by kernel_rfl)
     ·exact hf5.t 6 _ (by kernel_rfl)
     ·exact hf5.t 24 _ (by kernel_rfl)
     ·exact hf5.t 7 _ (by kernel_rfl)
     ·exact hf5.t 8 _ (by kernel_rfl)
    ·have he:=qx he;simp only[z74,gnM] at he;rcases he with⟨rfl,rfl⟩|⟨rfl,rfl⟩|⟨rfl,rfl⟩|⟨rfl,rfl⟩|⟨rfl,rfl⟩
     ·exact hf5.m 0 _ (by kernel_rfl)
     ·exact hc5
     ·exact hf5.m 3 _ (by kernel_rfl)
     ·exact hf5.m 6 _ (by kernel_rfl)
     ·exact hf5.m 8 _ (by kernel_rfl)
   refine⟨⟨y,_,sk,o,hy,hh,hb5,hf6,hd4,hz4,h4,h5,hb4.but.size,fun q b hq=>?_,fun b hb=>?_⟩,hb4.but.size,fun b hlt hb=>hb4.but.block b hlt ?_⟩
   ·unfold q8z at hq;split at hq
    ·exact .inl (hp3 q b hq)
    ·rcases qae (q:=qC) (c:=q0i c2 p2 s0 n8 W1 a9) hb3 hb4 hq with⟨q',-,hq'⟩|h
     ·exact .inl (hp3 q' b hq')
     ·exact .inr h
   ·exact hG b hb
   ·rintro⟨q,hq⟩;have hq:=(q6q hq).2;rcases hb with hb|hb
    ·have:=hp3 q b hq;omega
    ·exact hAh b (hb3.pa q b hq) hb
 ·rintro k N B a1 W W'⟨y,p4,sk,o,hy,hh,hb4,hf4,hd4,hz4,h4,h5,h6,hp4,hG⟩hb;obtain⟨q1,q2⟩:=qrf hSh hAh hFh hb4 hb;exact⟨y,p4,sk,o,hy,hh,q1,SF.same q2 hf4,hd4,hz4,h4,h5,uP h6 hb.size,hp4,hG⟩
 ·-- a round
  rintro k N B a1 W hkl⟨y,p4,sk,o,hy,hh,hb4,hf4,hd4,hz4,h4,h5,h6,hp4,hG⟩;obtain⟨hrun,hok,hgr,hlen⟩:=hh;have hdr:(yz s0 x0).drop k=y::(yz s0 x0).drop (k+1):=by
   obtain⟨hlt,e⟩:=gnH.1 hy;rw[kI hlt,e]
  rw[hdr] at hrun hok;unfold qcm at hok;simp only[gnB,uQ,gnD] at hok;obtain⟨hv,hok⟩:=hok;have hKp:∀{W2:World}{S:Nat→Prop},But S W W2→(∀b,S b→∃q,p4 q=some b)→KpN w9 (n8+1) m N B W W2:=fun{W2 S}hbu hS=>⟨hbu.size,fun b hlt hb=>hbu.block b (by omega) fun h=>by
   obtain⟨q,hq⟩:=hS b h;rcases hb with hb|hb
   ·have:=hp4 q b hq;omega
   ·exact hAh b (hb4.pa q b hq) hb⟩
  by_cases he:(z5 wk.val sk y).2.2.1=0
  ·-- the put succeeds
   rcases hok with hok|hok
   ·exact absurd he hok
   rw[qc5] at hrun;rw[if_pos he] at hrun;have hcs:=hf4.m 2 ⟨.tok 2,zl,[(0,33)],[]⟩ (by kernel_rfl);obtain⟨vc,tc1,tc2⟩:=hf4.t 2 (.sn 2 (.ref 2 [] 0 zl)) (by kernel_rfl);have hbA:=qvo (q:=qC) (F':=(q0i c2 p2 s0 n8 W1 a9).F) hb4 hb4.flo.anew fun _ h=>h;have hfA:=qse (q:=qC) (hf4.weak (τ:=z38) (by kernel_rfl)) (by kernel_rfl) (by kernel_rfl);rw[zab];refine q2g qkr ?_
   refine qa3 (c:={(q0i c2 p2 s0 n8 W1 a9) with A:=qct (q0i c2 p2 s0 n8 W1 a9).A qC p4}) (z:=69) (some (w9.heap.size+1)) 3 (z14 s0) hfm (z0o s0) qkr (n:=7) (ann:=q88) (R:=fun q=>q=[eS (z5 wk.val sk y).2.2.2,eC (z5 wk.val sk y).1]) (B:=fun _ _=>False) (ts:=[]) (ms:=z8z) (kill:=[]) (σk:=zkh) (l:=q9m wk sk o dw y) (σ:=z38) (d:=[]) (w0:=W) (S0:=pinned (unP qC p4)) (p:=unP qC p4)
    (by
     show(q65 uA (q1c s0) q88 c2.lo 69 qkr 7 z38 (toN [] z8z [] zkh)).go _ _ _ _
     rw[hlo];have e:=zre s0.cs.length s0.ys.length s0.tr.length s0.wk.length;unfold q1c;rw[e];exact zv6 hv hgr he rfl) rfl hbA hfA hd4 hz4 (fun st p5 W2 a2 hR hst hb5 hf5 hd5 hz5=>?_)
   have hR:st=[eS (z5 wk.val sk y).2.2.2,eC (z5 wk.val sk y).1]:=hR;subst hR;rw[show q33 [] z8z 7 (q28 [] z8z [] 7 zkh)=z8e from znr] at hf5;obtain⟨l9,hl9⟩:∃l9,l9=q9m wk sk o dw y++[eS (z5 wk.val sk y).2.2.2,eC (z5 wk.val sk y).1]:=⟨_,rfl⟩;have hb6:=z0t hb4 hb5 (hb4.flo.trans hb5.flo);have hf6:=z1n (c:=(q0i c2 p2 s0 n8 W1 a9).at (qf (q1c s0)) (q9m wk sk o dw y++[eS (z5 wk.val sk y).2.2.2,eC (z5 wk.val sk y).1])) (q:=qC) hb4 hb5 hf5 (by kernel_rfl) (by kernel_rfl);have hc6:=quk (c:=(q0i c2 p2 s0 n8 W1 a9).at (qf (q1c s0)) (q9m wk sk o dw y)) (q:=qC) (k:=2) (e:=⟨.tok 2,zl,[(0,33)],[]⟩) hb4 hb5 hcs (by kernel_rfl) (by kernel_rfl);have ht6:=z2g (c:=(q0i c2 p2 s0 n8 W1 a9).at (qf (q1c s0)) (q9m wk sk o dw y)) (q:=qC) (x:=.sn 2 (.ref 2 [] 0 zl)) hb4 hb5 tc2 (by kernel_rfl) (by kernel_rfl);have hp6:∀q b,q8z qC p4 p5 q=some b→b<N∨B≤b:=fun q b hq=>by
    unfold q8z at hq;split at hq
    ·exact hp4 q b hq
    ·rcases qae (q:=qC) (c:=q0i c2 p2 s0 n8 W1 a9) hb4 hb5 hq with⟨q',-,hq'⟩|h
     ·exact hp4 q' b hq'
     ·exact .inr (by omega)
   have hG6:WkG p2 s0 (q8z qC p4 p5):=fun b hb=>hG b hb;have hbu6:KpN w9 (n8+1) m N B W W2:=hKp hb5.but fun b⟨q,hq⟩=>⟨q,(q6q hq).2⟩;generalize hp66:q8z qC p4 p5=p6 at *
   -- the cell is appended
   obtain⟨c0,hc0⟩:∃c0:Cx,c0={(q0i c2 p2 s0 n8 W1 a9) with F:=⟨fun _=>0,fun _=>0,(q0i c2 p2 s0 n8 W1 a9).F.fr⟩}:=⟨_,rfl⟩;have hc0A:c0.A=(q0i c2 p2 s0 n8 W1 a9).A:=by rw[hc0]
   have hF0:Flo ⟨fun _=>0,fun _=>0,(q0i c2 p2 s0 n8 W1 a9).F.fr⟩ W2 W2:=fun k h=>absurd h (kK 0);have hsf:SF (c0.at (qf []) [.r (o.map eC),eC (z5 wk.val sk y).1]) z4x p6 W2 a2:=by
    refine⟨fun t x hx=>?_,fun j e he=>?_⟩
    ·have hx:=qx hx;simp only[z4x,qsb,kD,kF,gnM] at hx;have sn:∀t z,lkA z8e.t t=some (.sn t z)→∃v,a2.tmps[t]? =some v∧(AV.sn t .any).pd (c0.at (qf []) [.r (o.map eC),eC (z5 wk.val sk y).1]) p6 W2 v:=fun t z hl=>by
      obtain⟨v,e1,e2,-⟩:=hf6.t t _ hl;exact⟨v,e1,by rw[hc0];exact e2,trivial⟩
     rcases hx with⟨rfl,rfl⟩|⟨rfl,rfl⟩|⟨rfl,rfl⟩|⟨rfl,rfl⟩|⟨rfl,rfl⟩|⟨rfl,rfl⟩|⟨rfl,rfl⟩
     ·exact sn 0 (.ref 0 [] 0 qe) (by kernel_rfl)
     ·exact sn 1 (.bx 1 37 (.ref 0 [] 0 qe)) (by kernel_rfl)
     ·obtain⟨v,e1,e2,-⟩:=hf6.t 2 (.sn 2 .any) (by kernel_rfl);obtain⟨e3,-⟩:=id tc2;have e4:v=vc:=e2.trans e3.symm;refine⟨v,e1,?_⟩;rw[e4,hc0];exact ht6
     ·exact sn 3 (.ref 3 [] 0 zy) (by kernel_rfl)
     ·exact sn 6 (.ref 6 [] 0 yy) (by kernel_rfl)
     ·exact sn 24 (.v (.tok 4) q36 [(0,385)] []) (by kernel_rfl)
     ·rw[hc0];exact hf6.t 10 (.ref 10 [] 0 ql) (by kernel_rfl)
    ·have he:=qx he;simp only[z4x,gnM] at he;rcases he with⟨rfl,rfl⟩|⟨rfl,rfl⟩
     ·rw[hc0];exact hc6
     ·rw[hc0];exact hf6.m 10 ⟨.tok 8,ql,[],[]⟩ (by kernel_rfl)
   have hbB:=qvo (q:=qO) (F':=⟨fun _=>0,fun _=>0,(q0i c2 p2 s0 n8 W1 a9).F.fr⟩) hb6 hF0 fun _ h=>h;have hfB:=qse (q:=qO) hsf (by kernel_rfl) (by kernel_rfl);have hlen2:(o.length:Int)+1≤8796093021952:=by
    have:k<(yz s0 x0).length:=hkl;omega
   have pre:=qa3 (c:={c0 with A:=qct c0.A qO p6}) (z:=69) (some (w9.heap.size+1)) 3 .nil (fun te=>by rw[hc0];exact uN _) rfl [zbk] (n:=2) (ann:=q88) (R:=fun q=>q=[.r ((o++[(z5 wk.val sk y).1]).map eC)]) (B:=fun _ _=>False) (ts:=[]) (ms:=z7n) (kill:=[]) (σk:=⟨qsb,[]⟩) (l:=[.r (o.map eC),eC (z5 wk.val sk y).1]) (σ:=z4x) (d:=[]) (w0:=W2) (S0:=pinned (unP qO p6)) (p:=unP qO p6) (Q:=fun _ _ _=>False)
    (K:=fun a2 W3=>KpN w9 (n8+1) m N B W W3∧WkI c2 p2 w9 W1 a9 m n8 wk s0 x0 o0 dw (k+1) W3.heap.size W3)
    (by
     show(q65 uA [] q88 c0.lo 69 [zbk] 2 z4x (toN [] z7n [] ⟨qsb,[]⟩)).go _ _ _ _
     rw[show c0.lo=1 by rw[hc0];exact hlo,zfr];unfold zqc;rw[qg];refine⟨⟨?_,trivial⟩,?_⟩
     ·show(D.b (decide ((((o.map eC).length:Nat):Int)+1≤8796093021952))).tt=true
      rw[uB,q5y,gnD];exact hlen2
     ·show[D.r (o.map eC++[eC (z5 wk.val sk y).1])]=_
      rw[List.map_append];rfl) rfl (by rw[hc0];exact hbB) hfB hd5 hz5 (fun st p7 W3 a3 hR hst hb7 hf7 hd7 hz7=>?_)
   ·refine wpIn_mono pre fun e a3 W3 hq=>?_;cases e with
    |normal=>exact⟨hq.1,.inl ⟨rfl,hq.2⟩⟩
    |_=>exact hq.elim
   ·have hR:st=[.r ((o++[(z5 wk.val sk y).1]).map eC)]:=hR;subst hR;rw[show q33 [] z7n 2 (q28 [] z7n [] 2 ⟨qsb,[]⟩)=zn5 from zo7] at hf7;rw[hc0] at hb7;have hb7:Bs (qct (q0i c2 p2 s0 n8 W1 a9).A qO p6) ⟨fun _=>0,fun _=>0,(q0i c2 p2 s0 n8 W1 a9).F.fr⟩ W2 (pinned (unP qO p6)) p7 W3:=hb7;have hfl:∀x b,qO x=false→p6 x=some b→(q0i c2 p2 s0 n8 W1 a9).F.fl b=0:=fun x b hx hxb=>by
     rcases zvp hx with rfl|rfl|rfl
     ·obtain⟨g,cs,T,hg,hh,hT,hcon⟩:=hsf.m 2 _ (by kernel_rfl:lkA z4x.m 2=some ⟨.tok 0,zl,[(0,33)],[]⟩);rw[show p6 32=some g from hg] at hxb;injection hxb with hxb;subst hxb;exact zgf hb6.flo hh hT (by rw[←kQ];exact hcon.len.1) (by kernel_rfl)
     ·exact hG6 b hxb
     ·obtain⟨g,cs,T,hg,hh,hT,hcon⟩:=hsf.m 10 _ (by kernel_rfl:lkA z4x.m 10=some ⟨.tok 1,ql,[],[]⟩);rw[show p6 160=some g from hg] at hxb;injection hxb with hxb;subst hxb;exact zgf hb6.flo hh hT (by rw[←kQ];exact hcon.len.1) (by kernel_rfl)
    have hflo:Flo (q0i c2 p2 s0 n8 W1 a9).F W1 W3:=hb6.flo.same fun b hb hfb=>qe5 (q:=qO) (c:=q0i c2 p2 s0 n8 W1 a9) hb6 hb7 hb fun x hx hxb=>by
     have:=hfl x b hx hxb;omega
    have hb8:=z0t (q:=qO) (c:=q0i c2 p2 s0 n8 W1 a9) hb6 hb7 hflo;have hf7:SF {(c0.at (qf []) ([.r (o.map eC),eC (z5 wk.val sk y).1]++[.r ((o++[(z5 wk.val sk y).1]).map eC)])) with A:=qct c0.A qO p6} zn5 p7 W3 a3:=hf7;have hf8:=z1n (c:=c0.at (qf []) ([.r (o.map eC),eC (z5 wk.val sk y).1]++[.r ((o++[(z5 wk.val sk y).1]).map eC)])) (q:=qO) (F:=(q0i c2 p2 s0 n8 W1 a9).F) (w0:=W1) (S0:=wkS p2 w9 n8 m) (w:=W2) (p:=p6) (by rw[hc0];exact hb6) (by rw[hc0];exact hb7) hf7 (by kernel_rfl) (by kernel_rfl)
    -- what was set aside
    have back:∀(x:AV)(v:Value),x.pd ((q0i c2 p2 s0 n8 W1 a9).at (qf (q1c s0)) (q9m wk sk o dw y++[eS (z5 wk.val sk y).2.2.2,eC (z5 wk.val sk y).1])) p6 W2 v→x.pins.all qO=true→x.keys.all qO=true→x.pd ((q0i c2 p2 s0 n8 W1 a9).at (qf (q1c s0)) (q9m wk sk o dw y++[eS (z5 wk.val sk y).2.2.2,eC (z5 wk.val sk y).1])) (q8z qO p6 p7) W3 v:=fun x v hx h1 h2=>z2g (c:=((q0i c2 p2 s0 n8 W1 a9).at (qf (q1c s0)) (q9m wk sk o dw y++[eS (z5 wk.val sk y).2.2.2,eC (z5 wk.val sk y).1]))) (q:=qO) hb6 hb7 hx h1 h2;have backE:∀(j:Nat)(e:Ent),q1v ((q0i c2 p2 s0 n8 W1 a9).at (qf (q1c s0)) (q9m wk sk o dw y++[eS (z5 wk.val sk y).2.2.2,eC (z5 wk.val sk y).1])) p6 W2 j e→qO (j * 16)=true→e.pins.all qO=true→q1v ((q0i c2 p2 s0 n8 W1 a9).at (qf (q1c s0)) (q9m wk sk o dw y++[eS (z5 wk.val sk y).2.2.2,eC (z5 wk.val sk y).1])) (q8z qO p6 p7) W3 j e:=fun j e hx h1 h2=>quk (c:=((q0i c2 p2 s0 n8 W1 a9).at (qf (q1c s0)) (q9m wk sk o dw y++[eS (z5 wk.val sk y).2.2.2,eC (z5 wk.val sk y).1]))) (q:=qO) hb6 hb7 hx h1 h2;have ha9:∀t,t<69→a9.tmps[t]? =some ((q0i c2 p2 s0 n8 W1 a9).snap t):=fun t ht=>by
     show _=some (a9.tmps.getD t Go.undef)
     rw[uF,kH (by omega)];rfl
    have hfin:SF ((q0i c2 p2 s0 n8 W1 a9).at (qf (q1c s0)) [eW wk,eS (z5 wk.val sk y).2.2.2,.r ((o++[(z5 wk.val sk y).1]).map eC),.i 0,dw]) z1f (q8z qO p6 p7) W3 a9:=by
     refine⟨fun t x hx=>?_,fun j e he=>?_⟩
     ·have hx:=qx hx;have old:∀t z,lkA z8e.t t=some (.sn t z)→t<69→z.pins.all qO=true→z.keys.all qO=true→∃v,a9.tmps[t]? =some v∧(AV.sn t z).pd ((q0i c2 p2 s0 n8 W1 a9).at (qf (q1c s0)) (q9m wk sk o dw y++[eS (z5 wk.val sk y).2.2.2,eC (z5 wk.val sk y).1])) (q8z qO p6 p7) W3 v:=fun t z hl ht h1 h2=>by
       obtain⟨v,e1,e2⟩:=hf6.t t _ hl;obtain⟨e3,-⟩:=id e2;have e3:v=(q0i c2 p2 s0 n8 W1 a9).snap t:=e3;exact⟨v,by rw[e3];exact ha9 t ht,back _ _ e2 h1 h2⟩
      simp only[z1f,qok,gnM] at hx;rcases hx with⟨rfl,rfl⟩|⟨rfl,rfl⟩|⟨rfl,rfl⟩|⟨rfl,rfl⟩|⟨rfl,rfl⟩|⟨rfl,rfl⟩
      ·exact old 0 (.ref 0 [] 0 qe) (by kernel_rfl) (by decide) (by kernel_rfl) (by kernel_rfl)
      ·exact old 1 (.bx 1 37 (.ref 0 [] 0 qe)) (by kernel_rfl) (by decide) (by kernel_rfl) (by kernel_rfl)
      ·obtain⟨v,e1,e2⟩:=hf8.t 2 (.sn 2 (.ref 2 [] 0 zl)) (by kernel_rfl);rw[hc0] at e2;obtain⟨e3,-⟩:=id e2;have e3:v=(q0i c2 p2 s0 n8 W1 a9).snap 2:=e3;exact⟨v,by rw[e3];exact ha9 2 (by decide),e2⟩
      ·exact old 3 (.ref 3 [] 0 zy) (by kernel_rfl) (by decide) (by kernel_rfl) (by kernel_rfl)
      ·exact old 6 (.ref 6 [] 0 yy) (by kernel_rfl) (by decide) (by kernel_rfl) (by kernel_rfl)
      ·exact old 24 (.v (.tok 4) q36 [(0,385)] []) (by kernel_rfl) (by decide) (by kernel_rfl) (by kernel_rfl)
     ·have he:=qx he;simp only[z1f,zjk,gnM] at he;rcases he with⟨rfl,rfl⟩|⟨rfl,rfl⟩|⟨rfl,rfl⟩|⟨rfl,rfl⟩
      ·exact backE 0 _ (hf6.m 0 _ (by kernel_rfl:lkA z8e.m 0=some ⟨.tok 7,qe,qp 0 qe,[]⟩)) (by kernel_rfl) (by kernel_rfl)
      ·have:=hf8.m 2 _ (by kernel_rfl:lkA zn5.m 2=some ⟨.tok 2,zl,[(0,33)],[]⟩);rw[hc0] at this;exact this
      ·exact backE 3 _ (hf6.m 3 _ (by kernel_rfl:lkA z8e.m 3=some ⟨.tok 3,zy,[],[]⟩)) (by kernel_rfl) (by kernel_rfl)
      ·exact backE 6 _ (hf6.m 6 _ (by kernel_rfl:lkA z8e.m 6=some ⟨.tok 0,yy,[],[]⟩)) (by kernel_rfl) (by kernel_rfl)
    refine⟨⟨by have h1:=hbu6.1;have h2:=hb7.but.size;omega,fun b hlt hb=>?_⟩,by have h1:=hbu6.1;have h2:=hb7.but.size;omega,uC _,_,_,_,⟨hrun,hok,hgr.trans (qmy hv).1,by simp;omega⟩,hb8,hfin,fun x b hx=>hb8.bd x b hx,fun b hb=>?_⟩
    ·have h1:=hbu6.1;refine(hb7.but.block b (by omega) ?_).trans (hbu6.2 b hlt hb);rintro⟨q,hq⟩;have hq:=(q6q hq).2;rcases hb with hb|hb
     ·have:=hp6 q b hq;omega
     ·exact hAh b (hb6.pa q b hq) hb
    ·have hb:p7 33=some b:=hb;rcases qae (q:=qO) (c:=q0i c2 p2 s0 n8 W1 a9) hb6 hb7 hb with⟨x,hx,hxb⟩|hlt
     ·exact hfl x b hx hxb
     ·refine hfl0 hflo ?_;have:=hb6.but.size;omega
  ·-- the put fails
   rw[qc5] at hrun;rw[if_neg he] at hrun;rw[zab];refine q2g qkr ?_;refine qbh (c:=q0i c2 p2 s0 n8 W1 a9) (z:=69) (some (w9.heap.size+1)) 3 (z14 s0) hfm (z0o s0) qkr (n:=7) (ann:=q88) (R:=fun q=>q=[eS (z5 wk.val sk y).2.2.2,.r [],.i (z5 wk.val sk y).2.2.1]) (B:=fun _ _=>False) (d:=[]) (l:=q9m wk sk o dw y) (σ:=z74) (k:=zqk) (by
     show(q65 uA (q1c s0) q88 c2.lo 69 qkr 7 z74 zqk).go _ _ _ _
     rw[hlo];have e:=ztm s0.cs.length s0.ys.length s0.tr.length s0.wk.length;unfold q1c;rw[e];exact zvv hv hgr he rfl) rfl hb4.anew hf4 hd4 hz4 fun n' r σ' l' B' p' w' a' hl' hpre hgo hb' hf' hd' hz'=>?_
   cases r with
   |normal=>exact hgo.elim
   |exit i=>exact hgo.elim
   | ret =>
    obtain⟨st,p5,hR,-,hb5,hf5⟩:=qlq (n':=n') (c:=q0i c2 p2 s0 n8 W1 a9) hgo hpre rfl hb' hf';have hR:st=[eS (z5 wk.val sk y).2.2.2,.r [],.i (z5 wk.val sk y).2.2.1]:=hR;subst hR;rw[show q33 [] zf6 7 (q28 [] zf6 [] 7 zrz)=zrw from zly] at hf5;refine⟨hKp hb5.but fun b h=>h,.inr ⟨rfl,?_⟩⟩;unfold WkJ;rw[←hrun];exact⟨he,p5,q9m wk sk o dw y,hb4.comp hb5,hf5.snapA (by rw[hz];kernel_rfl) fun t ht=>by
     show _=some (a9.tmps.getD t Go.undef)
     rw[uF,kH ht];rfl,rfl⟩
 ·rintro W W'⟨he,p3,l,hb3,hf3,hl⟩hb;obtain⟨q1,q2⟩:=qrf hSh hAh hFh hb3 hb;exact⟨he,p3,l,q1,SF.same q2 hf3,hl⟩
end
end
variable{y:Operand}{Q:Exit→Act→World→Prop}
section
open Go.RowKit Go.Shelf
section
variable{w:World}{a:Act}{o:Oper}{v u:Value}
theorem zgb{ops:Array Oper}{rest:List Oper}{Q:Act→Prop}(hg:o.guard=none)(h:(execOp a.eval o).run uA w=.ok (.value v) w)(hk:wpStill uA ops w Q rest (a.put o.dst v)):wpStill uA ops w Q (o::rest) a:=by
 unfold wpStill;rw[if_pos (by simp[Region.wanted,hg])];unfold Oper.still;rw[h];exact⟨rfl,hk⟩
theorem qor{t:Nat}(h:a.tmps[t]? =some v):a.eval (.tmp t)=v:=by
 show a.tmps.getD t undef=v
 rw[uF,h];rfl
theorem qg2{k t:Nat}(h:k≠t):(a.put (some k) v).tmps[t]? =a.tmps[t]? :=by
 simp only[Act.put];rw[uE h]
theorem qz3{k:Nat}(h:k<a.tmps.size):(a.put (some k) v).tmps[k]? =some v:=by
 simp only[Act.put];rw[Array.getElem?_setIfInBounds_self,if_pos h]
theorem qa0{k:Option Nat}:(a.put k v).tmps.size=a.tmps.size:=by
 cases k<;>simp[Act.put]
theorem qyb{k:Option Nat}:(a.put k v).defers=a.defers:=by
 cases k<;>simp[Act.put]
theorem z7k(heq:o.op=.load T y)(hy:a.eval y=u)(hr:(Instr.loadAt T u).run uA w=.ok v w):(execOp a.eval o).run uA w=.ok (.value v) w:=by
 subst hy;generalize a.eval=r at *;simp[execOp,heq,hr]
theorem zm7{j:Nat}(heq:o.op=.fieldAddr T y j)(hy:a.eval y=u)(hr:(Instr.fieldAt T u j).run uA w=.ok v w):(execOp a.eval o).run uA w=.ok (.value v) w:=by
 subst hy;generalize a.eval=r at *;simp[execOp,heq,hr]
theorem zwk{ad:Addr}(heq:o.op=.nilCheck y)(hy:a.eval y=.pointer (some ad)):(execOp a.eval o).run uA w=.ok (.value (.pointer (some ad))) w:=by
 generalize a.eval=r at *;simp[execOp,heq,hy]
end
section
variable{w:World}{a:Act}{g1 gs g6:Nat}{v0 v1 v2 v3 v4 v5 u0 u1 u2 u3 u4:Value}{T1 T T6:TypeId}{d d6:D}{F0 F6:Nat→Prop}
set_option maxHeartbeats 1000000 in
theorem zu3(hz:a.tmps.size=69)(e1:a.tmps[1]? =some (.pointer (some ⟨g1,0,none⟩)))(hg1:w.heap[g1]? =some (.cells #[.pointer (some ⟨gs,0,none⟩)] T1 (0,0)))(hgs:w.heap[gs]? =some (.cells #[v0,v1,v2,v3,v4,v5] T (0,0)))(rd:Rd w F0 d qe [v0,v1,v2,v3,v4,v5])
  (e6:a.tmps[6]? =some (.pointer (some ⟨g6,0,none⟩)))(hg6:w.heap[g6]? =some (.cells #[u0,u1,u2,u3,u4] T6 (0,0)))(rd6:Rd w F6 d6 ql [u1,u2])
  (hk:∀a',a'.defers=a.defers→a'.tmps.size=69→(∀t,t<30→a'.tmps[t]? =a.tmps[t]?)→a'.tmps[35]? =some (.func (.func 72) #[] #[ptV w.heap.size,ptV (w.heap.size+1)])→
   Q .normal a' ((w.drew.alloc (.cells #[v0,v1,v2,v3,v4,v5] 27)).alloc (.cells #[u1,u2] 33))):wkY.wp uA Q a w:=by
 rw[zla];refine wp_region_still_tail 5 (by kernel_rfl) (by kernel_rfl) ?_;generalize zgs.toArray=ops
 show wpStill uA ops w.drew (fun a'=>wpList uA ops Q (zgs.drop 5) a' w.drew) (zgs.take 5) a
 simp only[zgs,List.take_succ_cons,List.take_zero,List.drop_succ_cons,kX];refine zgb rfl (z7k (v:=.pointer (some ⟨gs,0,none⟩)) rfl (qor e1) (qeg (by kernel_rfl) (show w.drew.heap[g1]? =_ from hg1))) ?_;refine zgb rfl (zwk (ad:=⟨gs,0,none⟩) rfl (qor (qz3 (by omega)))) ?_;obtain⟨va,hva,hpa⟩:=q8t (w:=w.drew) (F:=F0) (T:=27) (t:=qe) (by kernel_rfl) (b:=gs) (o:=0) (cs:=[v0,v1,v2,v3,v4,v5]) (fun i v hv=>by
  rw[qdp (show w.drew.heap[gs]? =_ from hgs),kP];simpa using hv) (d:=d) (Rd.keeps (w:=w) (w':=w.drew) (F:=F0) (F':=F0) (fun b o h ho=>⟨ho,h⟩) _ rd)
 have hpa:va=.agg #[v0,v1,v2,v3,v4,v5]:=hpa;subst hpa;refine zgb rfl (z7k rfl (qor (qz3 (by rw[qa0];omega))) hva) ?_;refine zgb rfl (zm7 (v:=.pointer (some ⟨g6,1,none⟩)) (u:=.pointer (some ⟨g6,0,none⟩)) rfl (qor (by
  rw[qg2 (by decide),qg2 (by decide),qg2 (by decide)];exact e6)) (by
  have h:=qar (w:=w.drew) (T:=65) (S:=match yy with|.st S=>S|_=>0) (by kernel_rfl) (fs:=[.int .i64,ql,ql]) (by kernel_rfl) (j:=1) (t:=ql) rfl g6 0;exact h)) ?_
 obtain⟨vb,hvb,hpb⟩:=q8t (w:=w.drew) (F:=F6) (T:=33) (t:=ql) (by kernel_rfl) (b:=g6) (o:=1) (cs:=[u1,u2]) (fun i v hv=>by
  rw[qdp (show w.drew.heap[g6]? =_ from hg6)];rcases i with _|_|i
  ·exact hv
  ·exact hv
  ·cases hv) (d:=d6) (Rd.keeps (w:=w) (w':=w.drew) (F:=F6) (F':=F6) (fun b o h ho=>⟨ho,h⟩) _ rd6)
 have hpb:vb=.agg #[u1,u2]:=hpb;subst hpb;refine zgb rfl (z7k rfl (qor (qz3 (by rw[qa0,qa0,qa0];omega))) hvb) ?_;refine wpStill_nil ?_
 -- the call
 obtain⟨a5,ha5⟩:∃a5:Act,a5=((((a.put (some 30) (.pointer (some ⟨gs,0,none⟩))).put (some 31) (.pointer (some ⟨gs,0,none⟩))).put (some 32) (.agg #[v0,v1,v2,v3,v4,v5])).put (some 33) (.pointer (some ⟨g6,1,none⟩))).put (some 34) (.agg #[u1,u2]):=⟨_,rfl⟩;have h32:a5.eval (.tmp 32)=.agg #[v0,v1,v2,v3,v4,v5]:=qor (by
  rw[ha5,qg2 (by decide),qg2 (by decide),qz3 (by rw[qa0,qa0];omega)])
 have h34:a5.eval (.tmp 34)=.agg #[u1,u2]:=qor (by
  rw[ha5,qz3 (by rw[qa0,qa0,qa0,qa0];omega)])
 have h5z:a5.tmps.size=69:=by rw[ha5,qa0,qa0,qa0,qa0,qa0];exact hz
 have h5d:a5.defers=a.defers:=by rw[ha5,qyb,qyb,qyb,qyb,qyb]
 have h5t:∀t,t<30→a5.tmps[t]? =a.tmps[t]? :=fun t ht=>by
  rw[ha5,qg2 (by omega),qg2 (by omega),qg2 (by omega),qg2 (by omega),qg2 (by omega)]
 show wpList uA ops Q _ _ w.drew
 rw[show((((a.put (some 30) (.pointer (some ⟨gs,0,none⟩))).put (some 31) (.pointer (some ⟨gs,0,none⟩))).put (some 32) (.agg #[v0,v1,v2,v3,v4,v5])).put (some 33) (.pointer (some ⟨g6,1,none⟩))).put (some 34) (.agg #[u1,u2])=a5 from ha5.symm];unfold wpList;rw[if_pos (by simp[Region.wanted])];refine .inl ?_;unfold Oper.wp;rw[show(execOp a5.eval _).run uA w.drew=.ok (.enter 49 #[.agg #[v0,v1,v2,v3,v4,v5],.agg #[u1,u2]]) w.drew by
  have hen:=z5r (49,72,27,33) (by simp[qze]) #[.agg #[v0,v1,v2,v3,v4,v5],.agg #[u1,u2]] w.drew;have hfv:a5.eval (.func 49)=.func (.func 49) #[] #[]:=rfl;generalize a5.eval=r at *;simp[execOp,resolve,Deferred.ofValue,hfv,invoke,h32,h34,hen]]
 show Calls uA 49 _ w.drew _
 refine(z9a w.drew v0 v1 v2 v3 v4 v5 u1 u2).mono ?_;rintro e w'⟨rfl,rfl⟩
 show wpList uA ops Q [] (a5.put (some 35) _) _
 refine hk _ (by rw[qyb];exact h5d) (by rw[qa0];exact h5z) (fun t ht=>by rw[qg2 (by omega)];exact h5t t ht) (qz3 (by omega))
end
end
section
open Go.RowKit Go.Shelf
theorem zw3{w:World}{F:Nat→Prop}{k:Wk}(h:Rd w F (eW k) yy cs):cs=[.int .i64 k.ser,.int .i64 k.att.t,.int .i64 k.att.n,.int .i64 k.val.t,.int .i64 k.val.n]∧Rd w F (eC k.att) ql [.int .i64 k.att.t,.int .i64 k.att.n]∧k.att.ok:=by
 have hfl:flds (match yy with|.st S=>S|_=>0)=some [.int .i64,ql,ql]:=by kernel_rfl
 obtain⟨l,e,hF⟩:=Ins.of_rdS hfl h;injection e with e;subst e;obtain⟨d,l',c1,c2,e1,rfl,h1,hG⟩:=Ins.of_rdF hF;obtain⟨d2,l2,c3,c4,e2,rfl,h2,hH⟩:=Ins.of_rdF hG;obtain⟨d3,l3,c5,c6,e3,rfl,h3,hI⟩:=Ins.of_rdF hH;obtain⟨rfl,rfl⟩:=Ins.of_rdN hI;injection e1 with e1 e1';subst e1 e1';injection e2 with e2 e2';subst e2 e2';injection e3 with e3 _;subst e3;obtain⟨n1,-,q1,rfl⟩:=Ins.of_rdI h1;injection q1 with q1;subst q1;have hok:=z9g h2;obtain rfl:=qym h2;obtain rfl:=qym h3;exact⟨rfl,h2,hok⟩
noncomputable def zv9:Nat:=match wkF with
 |.rangeFunc _ _ _ (.block i _)=>i
 |_=>0
theorem zrj:wkF=.rangeFunc (.tmp 35) #[36,37] zil (.block zv9 z8k):=by kernel_rfl
theorem ItOk.blk{w:World}{n bs bc m:Nat}{ti tx:Tmp}{assign body:Code}{css:List Value}{s:So}{c0:Ce}{I:Nat→Nat→World→Prop}{M:Nat→Nat→Nat→Act→World→Prop}{J:World→Prop}(h:ItOk w a n bs bc m ti tx assign body css s c0 I M J)(i:Nat):ItOk w a n bs bc m ti tx assign (.block i body) css s c0 I M J:=
 ⟨h.rd,h.step,h.assign,h.mstep,fun k N B a1 W hk hM=>wpIn_block (wpIn_mono (h.body k N B a1 W hk hM) fun e a w hq=>by
  rcases hq with⟨h1,⟨rfl,h2⟩|⟨rfl,h2⟩⟩
  ·exact⟨h1,.inl ⟨rfl,h2⟩⟩
  ·exact⟨h1,.inr ⟨rfl,h2⟩⟩),h.stop⟩
section
variable{c2:Cx}{p8:qj}{w8:World}{a8:Act}{s sk:So}{ws kk:D}{o:List Ce}{wk:Wk}{i2:Nat}
set_option maxHeartbeats 2000000 in
theorem zfz(hlo:c2.lo=1)(hfz:∀te,c2.F.mx te=0)(hb:Bs c2.A c2.F w8 (pinned p8) p8 w8)(hf:SF (c2.at (qf q61) [eS s,ws,kk,eS sk,.r (o.map eC),.i 0,eS sk,.r (o.map eC),.i 0,eW wk]) zm9 p8 w8 a8)(hz:a8.tmps.size=69)(hok:qcm wk.val sk (yz sk wk.att)=true)(hob:o.length+(yz sk wk.att).length+1≤8796093021952)(so:sk.ok)
  (hN:∀A3 p' W' a' D,(∀b,A3 b→c2.A b)→¬A3 D→w8.heap.size≤D→W'.heap[D]? =some (.deferred (some []))→a'.defers=qsp D::a8.defers→a'.tmps.size=69→(∀b,b<w8.heap.size→¬pinned p8 b→W'.heap[b]? =w8.heap[b]?)→Bs c2.A c2.F w8 (pinned p8) p' W'→Bs A3 c2.F W' (pinned p') p' W'→
   (zz wk.val sk o (yz sk wk.att)).2.2=0→SF (({c2 with A:=A3}:Cx).at (qf q61) [eS s,ws,kk,eS (zz wk.val sk o (yz sk wk.att)).1,.r ((zz wk.val sk o (yz sk wk.att)).2.1.map eC),.i 0]) q6l p' W' a'→(zz wk.val sk o (yz sk wk.att)).2.1.length≤o.length+(yz sk wk.att).length→Q .normal a' W')
  (hR:∀A3 p' W' a' D,(∀b,A3 b→c2.A b)→¬A3 D→w8.heap.size≤D→W'.heap[D]? =some (.deferred (some []))→a'.defers=qsp D::a8.defers→a'.tmps.size=69→(∀b,b<w8.heap.size→¬pinned p8 b→W'.heap[b]? =w8.heap[b]?)→Bs c2.A c2.F w8 (pinned p8) p' W'→Bs A3 c2.F W' (pinned p') p' W'→
   ¬(zz wk.val sk o (yz sk wk.att)).2.2=0→SF (({c2 with A:=A3}:Cx).at (qf q61) [eS s,eS (zz wk.val sk o (yz sk wk.att)).1,.r [],.i (zz wk.val sk o (yz sk wk.att)).2.2]) wkE p' W' a'→Q .ret a' W'):
  (Code.seq wkY (.block i2 wkF)).wpIn (FR none) 5 uA Q a8 w8:=by
 -- what is known before the copies
 obtain⟨g1',t1,g1,u1,⟨hp1,-⟩,rfl,hg1,gs',hgs',rfl,-⟩:=hf.t 1 (.bx 1 37 (.ref 0 [] 0 qe)) (by kernel_rfl);obtain⟨gs,cs,T,hgs,hh,hT,hcon⟩:=hf.m 0 ⟨.tok 6,qe,qp 0 qe,[]⟩ (by kernel_rfl);have hcon:Con c2.A p8 w8 (eS sk) qe (qp 0 qe) [] cs.toList:=hcon;have hgs':p8 (0 * 16)=some gs':=hgs';rw[hgs] at hgs';injection hgs' with hgs';subst hgs';obtain⟨v0,v1,v2,v3,ecs,q0,q1,q2,q3,r1,r2⟩:=z7v hcon;obtain⟨cs⟩:=cs;have ecs:cs=_:=ecs;subst ecs;have rd0:Rd w8 (FFD c2.A p8 ([]++(qp 0 qe).map (·.2))) (eS sk) qe [v0,v1,v2,v3,.int .i64 sk.ser,.int .i64 sk.mx]:=Con.rd hcon (fun x hx=>List.mem_append_left _ hx) (fun x hx=>List.mem_append_right _ hx);obtain⟨g6',t6,g6,hp6,rfl,-⟩:=hf.t 6 (.ref 6 [] 0 yy) (by kernel_rfl);obtain⟨gw,csw,Tw,hgw,hhw,hTw,hcw⟩:=hf.m 6 ⟨.tok 9,yy,[],[]⟩ (by kernel_rfl);have hp6:p8 (6 * 16)=some g6:=hp6;rw[hp6] at hgw;injection hgw with hgw;subst hgw;have rdw:Rd w8 (FFD c2.A p8 []) (eW wk) yy csw.toList:=Con.rd (show Con c2.A p8 w8 (eW wk) yy [] [] csw.toList from hcw) (fun _ h=>h) (fun _ h=>nomatch h);obtain⟨ecw,rda,wo⟩:=zw3 rdw;obtain⟨csw⟩:=csw;have ecw:csw=_:=ecw;subst ecw;refine wpIn_seq ((wpIn_wide (n:=5)).2 (zu3 hz t1 hg1 hh rd0 t6 hhw rda fun a9 hd9 hz9 ht9 h35=>?_));obtain⟨w9,hw9⟩:∃w9,w9=((w8.drew.alloc (.cells #[v0,v1,v2,v3,.int .i64 sk.ser,.int .i64 sk.mx] 27)).alloc (.cells #[.int .i64 wk.att.t,.int .i64 wk.att.n] 33)):=⟨_,rfl⟩;rw[←hw9];have h9s:w9.heap.size=w8.heap.size+2:=by rw[hw9];simp
 have hb9:But Nil w8 w9:=by rw[hw9];exact(((But.refl _ _).drew).alloc _).alloc _
 have h9a:w9.heap[w8.heap.size]? =some (.cells #[v0,v1,v2,v3,.int .i64 sk.ser,.int .i64 sk.mx] 27 (0,0)):=by rw[hw9];exact q2t (q0h rfl)
 have h9b:w9.heap[w8.heap.size+1]? =some (.cells #[.int .i64 wk.att.t,.int .i64 wk.att.n] 33 (0,0)):=by rw[hw9];exact q0h (by simp)
 clear hw9
 show(Code.block i2 wkF).wpIn (FR none) 5 uA Q a9 w9
 refine wpIn_block ?_;rw[zrj];obtain⟨r,hr⟩:∃r,r=zz wk.val sk o (yz sk wk.att):=⟨_,rfl⟩;rw[←hr] at hN hR;have rd9:Rd w9 (fun b=>b≠w8.heap.size+1) (eS sk) qe [v0,v1,v2,v3,.int .i64 sk.ser,.int .i64 sk.mx]:=Rd.keeps (fun b o _ ho=>⟨(hb9.block b (uG.1 ho).1 (fun h=>h)).trans ho,by have:b<w8.heap.size:=(uG.1 ho).1;omega⟩) _ rd0;refine zj6 (nn:=5) (bs:=w8.heap.size) (bc:=w8.heap.size+1) (css:=[v0,v1,v2,v3,.int .i64 sk.ser,.int .i64 sk.mx]) (s:=sk) (c0:=wk.att) (by omega) (qor h35) (by omega) ⟨_,h9a⟩ rd9 so ⟨_,by kernel_rfl,h9b⟩ wo fun m W1 hbut hm1 hm2=>?_;have hw1:=hbut.size;have hbut8:But Nil w8 W1:=hb9.trans_nil hbut;have hp8:∀x b,p8 x=some b→b<w8.heap.size:=hb.bd
 -- the facts at the first round
 have hst:Stab (wkA c2.A w8.heap.size W1.heap.size) no no p8 w8 p8 W1:=⟨hbut8.size,fun b hlt _ hfr=>⟨hbut8.block b hlt fun h=>h,hfr⟩,fun _ _ _ h=>h,fun x b _ hx=>hbut8.block b (hp8 x b hx) fun h=>h⟩;have hf1:SF (({(c2.at (qf q61) [eS s,ws,kk,eS sk,.r (o.map eC),.i 0,eS sk,.r (o.map eC),.i 0,eW wk]) with A:=wkA c2.A w8.heap.size W1.heap.size}:Cx)) zm9 p8 W1 a8:=SF.same hst (SF.chP (A':=wkA c2.A w8.heap.size W1.heap.size) (fun b hb hA _=>⟨hA,.inl hb⟩) hf);have sn9:∀t v,t<30→a8.tmps[t]? =some v→a9.tmps[t]? =some v∧v=a9.tmps.getD t Go.undef:=fun t v ht h=>by
  have h':=(ht9 t ht).trans h;refine⟨h',?_⟩;rw[uF,h'];rfl
 have hf0:SF ((q0i c2 p8 sk w8.heap.size W1 a9).at (qf (q1c sk)) [eW wk,eS sk,.r (o.map eC),.i 0,ws]) z1f p8 W1 a9:=by
  refine⟨fun t x hx=>?_,fun j e he=>?_⟩
  ·have hx:=qx hx;simp only[z1f,qok,gnM] at hx;rcases hx with⟨rfl,rfl⟩|⟨rfl,rfl⟩|⟨rfl,rfl⟩|⟨rfl,rfl⟩|⟨rfl,rfl⟩|⟨rfl,rfl⟩
   ·obtain⟨v,e1,e2⟩:=hf1.t 0 (.ref 0 [] 0 qe) (by kernel_rfl);obtain⟨e3,e4⟩:=sn9 0 v (by decide) e1;exact⟨v,e3,e4,e2⟩
   ·obtain⟨v,e1,e2⟩:=hf1.t 1 (.bx 1 37 (.ref 0 [] 0 qe)) (by kernel_rfl);obtain⟨e3,e4⟩:=sn9 1 v (by decide) e1;exact⟨v,e3,e4,e2⟩
   ·obtain⟨v,e1,e2⟩:=hf1.t 2 (.ref 2 [] 0 zl) (by kernel_rfl);obtain⟨e3,e4⟩:=sn9 2 v (by decide) e1;exact⟨v,e3,e4,e2⟩
   ·obtain⟨v,e1,-,e2⟩:=hf1.t 3 (.sn (VB+3) (.ref 3 [] 0 zy)) (by kernel_rfl);obtain⟨e3,e4⟩:=sn9 3 v (by decide) e1;exact⟨v,e3,e4,e2⟩
   ·obtain⟨v,e1,e2⟩:=hf1.t 6 (.ref 6 [] 0 yy) (by kernel_rfl);obtain⟨e3,e4⟩:=sn9 6 v (by decide) e1;exact⟨v,e3,e4,e2⟩
   ·obtain⟨v,e1,e2⟩:=hf1.t 24 (.v (.tok 1) q36 [(0,385)] []) (by kernel_rfl);obtain⟨e3,e4⟩:=sn9 24 v (by decide) e1;exact⟨v,e3,e4,e2⟩
  ·have he:=qx he;simp only[z1f,zjk,gnM] at he;rcases he with⟨rfl,rfl⟩|⟨rfl,rfl⟩|⟨rfl,rfl⟩|⟨rfl,rfl⟩
   ·exact hf1.m 0 ⟨.tok 6,qe,qp 0 qe,[]⟩ (by kernel_rfl)
   ·exact hf1.m 2 ⟨.tok 7,zl,[(0,33)],[]⟩ (by kernel_rfl)
   ·exact hf1.m 3 ⟨.tok 8,zy,[],[]⟩ (by kernel_rfl)
   ·exact hf1.m 6 ⟨.tok 9,yy,[],[]⟩ (by kernel_rfl)
 have hbs:∀F:Flr,F.fr=c2.F.fr→Flo F W1 W1→Bs (wkA c2.A w8.heap.size W1.heap.size) F W1 (wkS p8 w9 w8.heap.size m) p8 W1:=fun F hfr hF=>
  ⟨hb.inj,fun x b hx=>uD (hp8 x b hx) hbut8.size,But.refl _ _,fun x b hx=>.inl (.inl ⟨x,hx⟩),fun b hb'=>⟨⟨(hb.new b (by omega)).1,.inr hb'⟩,by rw[hfr];exact(hb.new b (by omega)).2⟩,fun x b hx=>⟨hb.pa x b hx,.inl (hp8 x b hx)⟩,fun x b hx=>(hb.obj x b hx).same (hbut8.block b (hp8 x b hx) fun h=>h),hF⟩
 have hAD:¬wkA c2.A w8.heap.size W1.heap.size w9.heap.size:=fun h=>by
  have:=h.2;omega
 have hSp:∀b,wkS p8 w9 w8.heap.size m b→pinned p8 b∨w8.heap.size≤b:=by
  rintro b(h|h)
  ·exact .inl h
  ·unfold q4e at h;exact .inr (by omega)
 -- the end of the range
 have hval:∀{W:World}{p3:qj}{t:Nat}{x:X}{l:List D},t<30→lkA zm9.t t=some (.v x (.int .i64) [] [])→(x.ev (evl (qf q61) [eS s,ws,kk,eS sk,.r (o.map eC),.i 0,eS sk,.r (o.map eC),.i 0,eW wk])=x.ev (evl (qf q61) l))→∃v,a9.tmps[t]? =some v∧(AV.v x (.int .i64) [] []).pd (({c2 with A:=wkA c2.A w8.heap.size W1.heap.size}:Cx).at (qf q61) l) p3 W v:=fun{W p3 t x l}ht hx he=>by
  obtain⟨v,e1,cs,e2,e3⟩:=hf.t t _ hx;refine⟨v,(sn9 t v ht e1).1,cs,e2,?_⟩;rw[show x.ev (c2.at (qf q61) _).v=x.ev (evl (qf q61) l) from he] at e3;exact Con.of_rd (Rd.flat 8 _ (by kernel_rfl) (Con.rd e3 (dep':=[]) (fun _ h=>h) (fun _ h=>nomatch h)))
 have hbsW:∀(F:Flr)p3 W,F.fr=c2.F.fr→Bs (wkA c2.A w8.heap.size W1.heap.size) F W1 (wkS p8 w9 w8.heap.size m) p3 W→Bs c2.A c2.F w8 (pinned p8) p3 W∧Bs (wkA c2.A w8.heap.size W1.heap.size) c2.F W (pinned p3) p3 W∧∀b,b<w8.heap.size→¬pinned p8 b→W.heap[b]? =w8.heap[b]? :=fun F p3 W hfr h3=>by
  have h1:=h3.but.size;have hbW:But (pinned p8) w8 W:=(But.mono hbut8 fun _ h _=>h.elim).trans h3.but fun b hS hlt=>by
   rcases hSp b hS with h|h
   ·exact .inl h
   ·exact .inr h
  refine⟨⟨h3.inj,h3.bd,hbW,fun x b hx=>?_,hb.new,fun x b hx=>(h3.pa x b hx).1,h3.obj,Flo.of0 hfz hb.flo⟩,⟨h3.inj,h3.bd,But.refl _ _,fun x b hx=>.inl ⟨x,hx⟩,fun b hb'=>⟨(h3.new b (by omega)).1,(hb.new b (by omega)).2⟩,h3.pa,h3.obj,Flo.of0 hfz hb.flo⟩,fun b hlt hn=>hbW.block b hlt hn⟩;rcases h3.pin x b hx with h|h
  ·exact hSp b h
  ·exact .inr (by omega)
 have fin:∀(F:Flr)p3 W sk' o',F.fr=c2.F.fr→Bs (wkA c2.A w8.heap.size W1.heap.size) F W1 (wkS p8 w9 w8.heap.size m) p3 W→SF ((q0i c2 p8 sk w8.heap.size W1 a9).at (qf (q1c sk)) [eW wk,eS sk',.r (o'.map eC),.i 0,ws]) z1f p3 W a9→W.heap[w9.heap.size]? =some (.deferred (some []))→r=(sk',o',0)→o'.length≤o.length+(yz sk wk.att).length→Q .normal {a9 with defers:={target:=.collected w9.heap.size,args:= #[]}::a9.defers} W:=fun F p3 W sk' o' hfr h3 hs hD hre hol=>by
  obtain⟨b1,b2,b3⟩:=hbsW F p3 W hfr h3;have e1:r.1=sk':=by rw[hre]
  have e2:r.2.1=o':=by rw[hre]
  have e3:r.2.2=0:=by rw[hre]
  refine hN _ p3 W _ w9.heap.size (fun b h=>h.1) hAD (by omega) hD (by show _::a9.defers=_;rw[hd9];rfl) hz9 b3 b1 b2 e3 ?_ (by rw[e2];exact hol);rw[e1,e2];refine⟨fun t x hx=>?_,fun j e he=>?_⟩
  ·have hx:=qx hx;simp only[q6l,gnM] at hx;rcases hx with⟨rfl,rfl⟩|⟨rfl,rfl⟩|⟨rfl,rfl⟩|⟨rfl,rfl⟩|⟨rfl,rfl⟩|⟨rfl,rfl⟩|⟨rfl,rfl⟩
   ·obtain⟨v,e1,-,e2⟩:=hs.t 0 (.sn 0 (.ref 0 [] 0 qe)) (by kernel_rfl);exact⟨v,e1,e2⟩
   ·obtain⟨v,e1,-,e2⟩:=hs.t 1 (.sn 1 (.bx 1 37 (.ref 0 [] 0 qe))) (by kernel_rfl);exact⟨v,e1,e2⟩
   ·obtain⟨v,e1,-,e2⟩:=hs.t 2 (.sn 2 (.ref 2 [] 0 zl)) (by kernel_rfl);exact⟨v,e1,e2⟩
   ·obtain⟨v,e1,-,e2⟩:=hs.t 3 (.sn 3 (.ref 3 [] 0 zy)) (by kernel_rfl);obtain⟨v',f1,f2,-⟩:=hf.t 3 (.sn (VB+3) (.ref 3 [] 0 zy)) (by kernel_rfl);have f3:=(sn9 3 v' (by decide) f1).1;have e1':a9.tmps[3]? =some v:=e1;rw[f3] at e1';injection e1' with e1';subst e1';exact⟨v',f3,f2,e2⟩
   ·obtain⟨v,e1,-,e2⟩:=hs.t 24 (.sn 24 (.v (.tok 4) q36 [(0,385)] [])) (by kernel_rfl);exact⟨v,e1,e2⟩
   ·exact hval (by decide) (by kernel_rfl) rfl
   ·exact hval (by decide) (by kernel_rfl) rfl
  ·have he:=qx he;simp only[q6l,gnM] at he;rcases he with⟨rfl,rfl⟩|⟨rfl,rfl⟩|⟨rfl,rfl⟩
   ·exact hs.m 0 ⟨.tok 1,qe,qp 0 qe,[]⟩ (by kernel_rfl)
   ·exact hs.m 2 ⟨.tok 2,zl,[(0,33)],[]⟩ (by kernel_rfl)
   ·exact hs.m 3 ⟨.tok 3,zy,[],[]⟩ (by kernel_rfl)
 rcases uT (yz sk wk.att).length with hnil|hpos
 ·-- no attributes
  have hnil:=List.eq_nil_of_length_eq_zero hnil;have hre:r=(sk,o,0):=by rw[hr,hnil];rfl
  have hF0:Flo (⟨fun _=>0,fun _=>0,c2.F.fr⟩:Flr) W1 W1:=fun k h=>absurd h (kK 0);refine⟨fun k N W=>w9.heap.size+2≤N∧N≤W.heap.size∧But (q4e w9 (w8.heap.size+1) m) W1 W,fun _ _ _ _ _=>False,fun _=>False,⟨?_,?_,?_,?_,?_,fun _ _ h=>h.elim⟩,⟨by omega,uC _,But.refl _ _⟩,?_,fun W h=>h.elim⟩
  ·rintro k N W⟨h1,h2,h3⟩;have hk:∀b o,w9.heap[b]? =some o→¬q4e w9 (w8.heap.size+1) m b→W.heap[b]? =some o:=fun b o ho hh=>(h3.block b (by have:b<w9.heap.size:=(uG.1 ho).1;omega) hh).trans ((hbut.block b (uG.1 ho).1 fun h=>h).trans ho);refine⟨h1,h2,⟨_,hk _ _ h9a (by unfold q4e;omega)⟩,Rd.keeps (fun b o _ ho=>?_) _ rd0⟩;have hlt:b<w8.heap.size:=(uG.1 ho).1;exact⟨hk b o ((hb9.block b hlt fun h=>h).trans ho) (by unfold q4e;omega),by omega,by omega⟩
  ·rintro k N W W'⟨h1,h2,h3⟩hb';exact⟨h1,uP h2 hb'.size,h3.trans hb' fun b h _=>.inl h⟩
  ·rintro k N W x hx;rw[hnil] at hx;cases hx
  ·intro k N B a1 W W' h;exact h.elim
  ·intro k N B a1 W _ h;exact h.elim
  ·rintro N W⟨h1,h2,h3⟩hD;obtain⟨q1,q2⟩:=qrf (W1:=W1) (F:=⟨fun _=>0,fun _=>0,c2.F.fr⟩) (S1:=wkS p8 w9 w8.heap.size m) (A':=wkA c2.A w8.heap.size W1.heap.size) (fun b h=>.inr h) (fun b h=>by
    have:=h.2;unfold q4e;omega) (fun b h=>absurd h (kK 0)) (hbs ⟨fun _=>0,fun _=>0,c2.F.fr⟩ rfl hF0) h3
   exact fin ⟨fun _=>0,fun _=>0,c2.F.fr⟩ p8 W sk o rfl q1 (SF.same q2 hf0) hD hre (by omega)
 ·-- attributes
  obtain⟨hc2,hy2⟩:=zmu hpos;have k9:∀{pin:Nat}{E:TypeId}{te:Ty}{l:List D}{v:Value},q32 c2.A p8 w8 [] pin E te l v→q32 c2.A p8 w9 [] pin E te l v:=fun h=>q32.kept (Z:=no) (L:=no) h ⟨hb9.size,fun b hlt _ hfr=>⟨hb9.block b hlt fun h=>h,hfr⟩,fun _ _ _ h=>h,fun x b _ hx=>hb9.block b (hp8 x b hx) fun h=>h⟩ (fun _ h=>nomatch h) ⟨rfl,rfl⟩;have k1:∀{pin:Nat}{E:TypeId}{te:Ty}{l:List D}{v:Value},q32 c2.A p8 w8 [] pin E te l v→q32 c2.A p8 W1 [] pin E te l v:=fun h=>q32.kept (Z:=no) (L:=no) h ⟨hbut8.size,fun b hlt _ hfr=>⟨hbut8.block b hlt fun h=>h,hfr⟩,fun _ _ _ h=>h,fun x b _ hx=>hbut8.block b (hp8 x b hx) fun h=>h⟩ (fun _ h=>nomatch h) ⟨rfl,rfl⟩;have hflo:=zrf (fr:=c2.F.fr) hb.inj (k1 q0) (k1 q1) (k1 q2) (k1 q3) hc2 hy2;refine⟨_,_,_,ItOk.blk (zwc (c2:=c2) (p2:=p8) (wk:=wk) (o0:=o) (dw:=ws) hlo hz9 h9s hb.inj hp8 (k9 q0) (k9 q1) (k9 q2) (k9 q3) r1 r2 ⟨_,h9a⟩ hbut hm1 hm2 hob) zv9,?_,?_,?_⟩
  ·refine⟨by omega,uC _,p8,sk,o,⟨rfl,by rw[kX];exact hok,qe2.refl _,by omega⟩,hbs _ rfl hflo,hf0,fun x b hx=>by have:=hp8 x b hx;omega,fun b hb33=>?_⟩;have ne:∀x,x≠33→¬p8 x=some b:=fun x h hx=>h (hb.inj x 33 b hx hb33);simp only[q25,if_neg (ne 1 (by decide)),if_neg (ne 2 (by decide)),if_neg (ne 3 (by decide)),if_neg (ne 4 (by decide))]
  ·rintro N W⟨-,-,p3,sk',o',⟨hrun,-,-,hlen⟩,h3,hs,-,-⟩hD;rw[kU] at hrun;exact fin (q25 p8 sk c2.F.fr) p3 W sk' o' rfl h3 hs hD (hr.trans hrun.symm) hlen
  ·rintro W⟨he,p3,l,h3,hs,hl⟩hD;obtain⟨b1,b2,b3⟩:=hbsW (q25 p8 sk c2.F.fr) p3 W rfl h3;rw[←hr] at he hs;refine hR _ p3 W _ w9.heap.size (fun b h=>h.1) hAD (by omega) hD (by show _::a9.defers=_;rw[hd9];rfl) hz9 b3 b1 b2 he ?_
   match l,hl with
   |[l0,l1,l2,l3,l4,l5,l6],_=>
   refine⟨fun t x hx=>?_,fun j e he=>?_⟩
   ·have hx:=qx hx;simp only[wkE,gnM] at hx;rcases hx with⟨rfl,rfl⟩|⟨rfl,rfl⟩|⟨rfl,rfl⟩|⟨rfl,rfl⟩
    ·obtain⟨v,e1,-,e2⟩:=hs.t 0 (.sn 0 (.ref 0 [] 0 qe)) (by kernel_rfl);exact⟨v,e1,e2⟩
    ·obtain⟨v,e1,-,e2⟩:=hs.t 1 (.sn 1 (.bx 1 37 (.ref 0 [] 0 qe))) (by kernel_rfl);exact⟨v,e1,e2⟩
    ·obtain⟨v,e1,-,e2⟩:=hs.t 2 (.sn 2 (.ref 2 [] 0 zl)) (by kernel_rfl);exact⟨v,e1,e2⟩
    ·obtain⟨v,e1,-,e2⟩:=hs.t 3 (.sn 3 (.ref 3 [] 0 zy)) (by kernel_rfl);obtain⟨v',f1,f2,-⟩:=hf.t 3 (.sn (VB+3) (.ref 3 [] 0 zy)) (by kernel_rfl);have f3:=(sn9 3 v' (by decide) f1).1;have e1':a9.tmps[3]? =some v:=e1;rw[f3] at e1';injection e1' with e1';subst e1';exact⟨v',f3,f2,e2⟩
   ·have he:=qx he;simp only[wkE,gnM] at he;rcases he with⟨rfl,rfl⟩|⟨rfl,rfl⟩|⟨rfl,rfl⟩
    ·exact hs.m 0 ⟨.tok 7,qe,qp 0 qe,[]⟩ (by kernel_rfl)
    ·exact hs.m 2 ⟨.tok 8,zl,[(0,33)],[]⟩ (by kernel_rfl)
    ·exact hs.m 3 ⟨.tok 9,zy,[],[]⟩ (by kernel_rfl)
end
end
section
open Go.RowKit Go.Shelf
abbrev qbl:Ty:=.row 81
noncomputable def owC:Code:=match kO.body with
 |some c=>c
 |none=>.skip
noncomputable def ow1:List Code:=[sqL owC,sqL (sqR owC),sqL (sqL (sqR (sqR owC)))]
noncomputable def owL:Code:=bkC (sqR (sqL (sqR (sqR owC))))
noncomputable def owZ:Code:=sqR (sqR (sqR owC))
noncomputable def znj:Code:=match owL with
 |.rangeFunc _ _ a _=>a
 |_=>.skip
noncomputable def zlz:Code:=match owL with
 |.rangeFunc _ _ _ b=>b
 |_=>.skip
def z5a:Ann:=⟨[2,3,4,5,6,9,18,19,20,27],[]⟩
noncomputable def zol:List ResultVar:=kO.results.toList
def sR:St:=⟨[(4,.ref 4 [] 0 qbl),(18,.ff 72 27 (.tok 0) qe 33 (.get (.fld (.tok 0) 0) (.add (.fld (.tok 1) 1) (.lit (.i 2)))) ql [])],[]⟩
abbrev iR:List Item:=[(4,qbl,[(0,65)],[])]
def sO1:St:=⟨[(4,.sn 4 (.ref 4 [] 0 qbl)),(19,.v (.tok 1) .str [] []),(20,.v (.tok 2) ql [] [])],[(4,⟨.tok 0,qbl,[(0,65)],[]⟩)]⟩
def sO2:St:=⟨[(4,.sn 4 (.ref 4 [] 0 qbl)),(5,.v (.tok 1) .str [] []),(6,.ref 6 [] 0 ql)],[(4,⟨.tok 0,qbl,[(0,65)],[]⟩),(6,⟨.tok 2,ql,[],[]⟩)]⟩
def sO3:St:=⟨[(4,.sn 4 (.ref 4 [] 0 qbl))],[]⟩
def sO4:St:=⟨[(4,.sn 4 (.ref 4 [] 0 qbl))],[(4,⟨.tok 0,qbl,[(0,65)],[]⟩)]⟩
def sO5:St:=⟨[(4,.ref 4 [] 0 qbl)],[(4,⟨.tok 0,qbl,[(0,65)],[]⟩)]⟩
def zva:Tree:=(.br (.not (.eq (.fld (.tok 1) 0) (.lit (.i 5)))) (.need [(.not (.eq (.fld (.tok 1) 0) (.lit (.i 5))))] (.leaf [(.lit (.r []))])) (.need [(.le (.lit (.i 0)) (.add (.fld (.tok 1) 1) (.lit (.i 2)))),(.lt (.add (.fld (.tok 1) 1) (.lit (.i 2))) (.len (.fld (.tok 0) 0))),(.rng .i64 (.add (.fld (.tok 1) 1) (.lit (.i 2))))] (.need [(.eq (.fld (.tok 1) 0) (.lit (.i 5)))] (.leaf [(.lit (.r []))]))))
theorem zmv:q65 uA [] z5a 2 28 ow1 2 (qu3 yi) (fun n r σ=>match r with|.normal=>.need [.eq (.fld (.tok 1) 0) (.lit (.i 5))] (qqp [] iR [] sR n .normal σ)|r=>.need [.not (.eq (.fld (.tok 1) 0) (.lit (.i 5)))] (qdx yi zol n r σ))=zva:=by kernel_rfl
def zxj:Tree:=(.leaf [])
theorem znn:q65 uA [] z5a 2 28 [znj] 3 sO1 (toN [] [] [] sO2)=zxj:=by kernel_rfl
def zvw:Tree:=(.need [(.le (.add (.len (.tok 0)) (.lit (.i 1))) (.lit (.i 4398046510976)))] (.leaf [(.app (.tok 0) (.row [(.mk [(.tok 1),(.tok 2)])]))]))
theorem zoh:q65 uA [] z5a 2 28 [zlz] 3 sO2 (toN [] iR [] sO3)=zvw:=by kernel_rfl
def zxl:Tree:=(.leaf [(.tok 0)])
theorem zls:toT uA [] z5a 2 28 owZ [] 1 sO5 (qdx yi zol)=zxl:=by kernel_rfl
end
section
open Go.RowKit Go.Shelf
theorem zjo:kO.body=some owC:=by kernel_rfl
theorem zrb:owC=seqs [sqL owC,sqL (sqR owC)] (.seq (.seq (sqL (sqL (sqR (sqR owC)))) (.block 0 owL)) owZ):=by kernel_rfl
theorem ztf:owL=.rangeFunc (.tmp 18) #[19,20] znj zlz:=by kernel_rfl
theorem zlf:kO.ntmps=28:=by kernel_rfl
def sOR:St:=q33 [] iR 2 (q28 [] iR [] 2 sR)
theorem zx5:lkA sOR.t 4=some (.ref 4 [] 0 qbl):=by kernel_rfl
theorem zv2:lkA sOR.t 18=some (.ff 72 27 (.tok 0) qe 33 (.get (.fld (.tok 0) 0) (.add (.fld (.tok 1) 1) (.lit (.i 2)))) ql []):=by kernel_rfl
theorem zxp:lkA sOR.m 4=some ⟨.tok 2,qbl,[(0,65)],[]⟩:=by kernel_rfl
def sOB:St:=q33 [] iR 3 (q28 [] iR [] 3 sO3)
theorem zx3:lkA sOB.t 4=some (.sn 4 (.ref 4 [] 0 qbl)):=by kernel_rfl
theorem zx6:lkA sOB.m 4=some ⟨.tok 3,qbl,[(0,65)],[]⟩:=by kernel_rfl
theorem zwb:q33 [] [] 3 (q28 [] [] [] 3 sO2)=sO2:=by kernel_rfl
theorem zk0{v:Value}{S:Nat→List D→Option (List D)}(h4:a.tmps[4]? =some v)(hsn:c.snap 4=v)(hv:∃g,p 64=some g∧v=.pointer (some ⟨g,0,none⟩)∧c.At 4 g)(hm:q1v (c.at S [d]) p W 4 ⟨.tok 0,qbl,[(0,65)],[]⟩):SF (c.at S [d]) sO4 p W a:=by
 refine⟨fun t x hx=>?_,fun k e he=>?_⟩
 ·have hx:=qx hx;simp only[sO4,gnM] at hx;obtain⟨rfl,rfl⟩:=hx;exact⟨v,h4,hsn.symm,hv⟩
 ·have he:=qx he;simp only[sO4,gnM] at he;obtain⟨rfl,rfl⟩:=he;exact hm
def z8u:List D→Option (List D)
 |[s,c]=>if(dC c).t=5 then(if inS (dS s) ((dC c).n+2)∧(dS s).cs.length≤4000000000000 then some [.r ((yz (dS s) (cellAt (dS s) ((dC c).n+2))).map eA)] else none) else some [.r []]
 |_=>none
theorem qe6(s:So):∀(k:Nat)(c:Ce)(met:List ByteArray),(q3x s k c met).length≤k
 |0,_,_=>uC _
 | k + 1, c, met => by
  unfold q3x;split
  ·simp
  ·rename_i nm tl vl _;have:=qe6 s k tl (nm::met);split<;>simp<;>omega
theorem zno{w w':World}(h:Con A p w (.r []) qbl [(0,pin)] dep cs)(hk:∀g,p pin=some g→w'.heap[g]? =w.heap[g]?):Con A' p w' (.r []) qbl [(0,pin)] dep cs:=by
 rcases h with⟨E,te,l,v,e1,hte,e2,e3,hv⟩|⟨K,V,kt,vt,l,g,es,clock,e1,hK,hV,e2,-⟩
 ·injection e2 with e2;subst e2;refine .inl ⟨E,te,[],v,e1,hte,rfl,e3,?_⟩;rcases hv with⟨rfl,-⟩|⟨g,cap,cur,rfl,hg,hh,h1,h2,h3,h4,h5⟩
  ·exact .inl ⟨rfl,rfl⟩
  ·exact .inr ⟨g,cap,cur,rfl,hg,(hk g hg).trans hh,h1,h2,h3,h4,fun i hi=>absurd hi (kV _)⟩
 ·cases e2
section
variable{c c':Cx}{p p2:qj}{w w' W1:World}{a a':Act}{m g:Nat}{s:So}{x0:Ce}{cs1:List Value}{v4:Value}
def qol(c:Cx)(w':World)(g m:Nat)(b:Nat):Prop:=c.A b∧b≠g∧¬q4e w' (g+1) m b
def zom(p2:qj)(w':World)(g m:Nat)(b:Nat):Prop:=pinned p2 b∨q4e w' (g+1) m b
def OwI(c:Cx)(p2:qj)(w' W1:World)(g m:Nat)(s:So)(x0:Ce)(a':Act)(c':Cx)(k N:Nat)(W:World):Prop:=w'.heap.size+2≤N∧N≤W.heap.size∧∃p3,Bs (qol c w' g m) c.F W1 (zom p2 w' g m) p3 W∧SF (c'.at (qf []) [.r (((yz s x0).take k).map eA)]) sO4 p3 W a'∧∀y b,p3 y=some b→b<N
def OwM(c:Cx)(p2:qj)(w' W1:World)(g m:Nat)(s:So)(x0:Ce)(c':Cx)(k N B:Nat)(a1:Act)(W:World):Prop:=∃y p4,(yz s x0)[k]? =some y∧Bs (qol c w' g m) c.F W1 (zom p2 w' g m) p4 W∧SF (c'.at (qf []) [.r (((yz s x0).take k).map eA),.s y.name,eC y.val]) sO2 p4 W a1∧a1.defers=[]∧a1.tmps.size=28∧w'.heap.size+2≤N∧N≤B∧B≤W.heap.size∧∀q b,p4 q=some b→b<N∨B≤b
theorem zjg(hfz:∀te,F.mx te=0){W':World}{p3:qj}(hS:∀b,q4e w' (g+1) m b→S1 b)(hA:∀b,A' b→¬q4e w' (g+1) m b)(h:Bs A' F W1 S1 p3 W)(hb:But (q4e w' (g+1) m) W W'):Bs A' F W1 S1 p3 W'∧Stab A' no no p3 W p3 W':=
 ⟨⟨h.inj,fun x b hx=>uD (h.bd x b hx) hb.size,h.but.trans hb fun i hi _=>.inl (hS i hi),h.pin,h.new,h.pa,fun x b hx=>(h.obj x b hx).same (hb.block b (h.bd x b hx) (hA b (h.pa x b hx))),Flo.of0 hfz h.flo⟩,
  hb.size,fun b hlt ha hf=>⟨hb.block b hlt (hA b ha),hf⟩,fun x b _ hx=>hx,fun x b _ hx=>hb.block b (h.bd x b hx) (hA b (h.pa x b hx))⟩
theorem zqt(hln:s.cs.length≤4000000000000)(hlo:c.lo=2)(hfz:∀te,c.F.mx te=0)(hz:a'.tmps.size=28)(so:s.ok)(hc':c'={c with A:=qol c w' g m,snap:=fun t=>a'.tmps.getD t Go.undef})(h4:a'.tmps[4]? =some v4)
  (hg:∃T,w'.heap[g]? =some (.cells cs1.toArray T (0,0)))(hfg:q7h p2 g)(hbut:But Nil w' W1)(hm1:w'.heap.size+2≤m)(hm2:m<W1.heap.size)(r1:Rd w' (fun b=>FFD c.A p2 [] b∧b<g) (eS s) qe cs1):
  ItOk w' a' 3 g (g+1) m 19 20 znj zlz cs1 s x0 (OwI c p2 w' W1 g m s x0 a' c') (OwM c p2 w' W1 g m s x0 c') fun _=>False:=by
 obtain⟨T,hg⟩:=hg;have hgl:=qt hg;have hAh:∀b,qol c w' g m b→¬q4e w' (g+1) m b:=fun b h=>h.2.2;have hSh:∀b,q4e w' (g+1) m b→zom p2 w' g m b:=fun b h=>.inr h;have hfm:∀te,c'.F.mx te≤flM [] te:=fun te=>by rw[hc'];show c.F.mx te≤_;rw[hfz];exact uN _
 have hcA:c'.A=qol c w' g m:=by rw[hc']
 have hcF:c'.F=c.F:=by rw[hc']
 have hcl:c'.lo=2:=by rw[hc'];exact hlo
 have hsn:c'.snap 4=v4:=by
  rw[hc']
  show a'.tmps.getD 4 Go.undef=v4
  simp[uF,h4]
 have hcT:c'.At=c.At:=by rw[hc']
 refine⟨?_,?_,?_,?_,?_,fun _ _ h=>h.elim⟩
 ·rintro k N W⟨h1,h2,p3,hb3,hf3,hp3⟩;have hk:∀b o,w'.heap[b]? =some o→q7h p2 b→¬q4e w' (g+1) m b→W.heap[b]? =some o:=fun b o ho hf hh=>by
   have hlt:b<w'.heap.size:=(uG.1 ho).1;refine(hb3.but.block b (uD hlt hbut.size) ?_).trans ((hbut.block b hlt (fun h=>h)).trans ho);rintro(⟨x,hx⟩|h)
   ·exact hf x hx
   ·exact hh h
  have hng:¬q4e w' (g+1) m g:=by unfold q4e;omega
  refine⟨h1,h2,⟨T,hk g _ hg hfg hng⟩,Rd.keeps (fun b o hb ho=>?_) _ r1⟩;obtain⟨hb1,hb2⟩:=hb;rcases hb1 with⟨-,hf⟩|⟨y,hy,-⟩
  ·refine⟨hk b o ho hf (by unfold q4e;omega),by omega,by omega⟩
  ·cases hy
 ·rintro k N W W'⟨h1,h2,p3,hb3,hf3,hp3⟩hb;obtain⟨q1,q2⟩:=zjg hfz hSh hAh hb3 hb;exact⟨h1,uP h2 hb.size,p3,q1,SF.same (by show Stab c'.A no no p3 W p3 W';rw[hcA];exact q2) hf3,hp3⟩
 ·rintro k N W y hy hyo⟨h1,h2,p3,hb3,hf3,hp3⟩;obtain⟨v,t4,hv⟩:=hf3.t 4 _ (by kernel_rfl:lkA sO4.t 4=some (.sn 4 (.ref 4 [] 0 qbl)));have hm:=hf3.m 4 _ (by kernel_rfl:lkA sO4.m 4=some ⟨.tok 0,qbl,[(0,65)],[]⟩);rw[h4] at t4;injection t4 with t4;subst t4;have hsf:SF (c'.at (qf []) [.r (((yz s x0).take k).map eA),.s y.name,eC y.val]) sO1 p3 W {tmps:=(a'.tmps.setIfInBounds 19 (.string y.name)).setIfInBounds 20 (.agg (ceL y.val).toArray),defers:=[]}:=by
   refine⟨fun t x hx=>?_,fun j e he=>?_⟩
   ·have hx:=qx hx;simp only[sO1,gnM] at hx;rcases hx with⟨rfl,rfl⟩|⟨rfl,rfl⟩|⟨rfl,rfl⟩
    ·exact⟨v4,by rw[uE (by decide),uE (by decide)];exact h4,hv⟩
    ·refine⟨.string y.name,by rw[uE (by decide),uK (by omega)],_,rfl,Con.of_rd (show Rd W _ (.s y.name) .str _ from⟨rfl,rfl,hyo.1⟩)⟩
    ·refine⟨.agg (ceL y.val).toArray,by rw[uK (by simp;omega)],ceL y.val,rfl,Con.of_rd (show Rd W _ (eC y.val) ql _ from qy9 hyo.2)⟩
   ·have he:=qx he;simp only[sO1,gnM] at he;obtain⟨rfl,rfl⟩:=he;exact hm
  have pre:=qa3 (c:=c') (z:=28) (some (w'.heap.size+1)) 3 .nil hfm rfl [znj] (n:=3) (ann:=z5a) (R:=fun o=>o=[]) (B:=fun _ _=>False) (ts:=[]) (ms:=[]) (kill:=[]) (σk:=sO2) (l:=[.r (((yz s x0).take k).map eA),.s y.name,eC y.val]) (σ:=sO1) (d:=[]) (w0:=W) (S0:=pinned p3) (p:=p3) (Q:=fun _ _ _=>False)
   (K:=fun a1 W2=>OwM c p2 w' W1 g m s x0 c' k N W.heap.size a1 W2∧KpN w' (g+1) m N W.heap.size W W2)
   (by rw[hcl,znn];rfl) rfl (by rw[hcA,hcF];exact hb3.anew) hsf rfl (by simp;exact hz) (fun st p4 W2 a2 hR hst hb4 hf4 hd4 hz4=>?_)
  ·exact pre
  ·have hR:st=[]:=hR;subst hR;rw[zwb] at hf4;rw[hcA,hcF] at hb4;refine⟨⟨y,p4,hy,hb3.comp hb4,hf4,hd4,hz4,h1,h2,hb4.but.size,fun q b hq=>?_⟩,hb4.but.size,fun b hlt hb=>hb4.but.block b hlt ?_⟩
   ·rcases hb4.pin q b hq with⟨q',hq'⟩|h
    ·exact .inl (hp3 q' b hq')
    ·exact .inr h
   ·rintro⟨q,hq⟩;rcases hb with hb|hb
    ·have:=hp3 q b hq;omega
    ·exact hAh b (hb3.pa q b hq) hb
 ·rintro k N B a1 W W'⟨y,p4,hy,hb4,hf4,hd4,hz4,h1,h2,h3,hp4⟩hb;obtain⟨q1,q2⟩:=zjg hfz hSh hAh hb4 hb;exact⟨y,p4,hy,q1,SF.same (by show Stab c'.A no no p4 W p4 W';rw[hcA];exact q2) hf4,hd4,hz4,h1,h2,uP h3 hb.size,hp4⟩
 ·rintro k N B a1 W hkl⟨y,p4,hy,hb4,hf4,hd4,hz4,h1,h2,h3,hp4⟩;have hlen:((yz s x0).take k).length≤4000000000000:=by
   have h1:=qe6 s s.cs.length x0 [];simp only[List.length_take];unfold yz at *;omega
  have pre:=qa3 (c:=c') (z:=28) (some (w'.heap.size+1)) 3 .nil hfm rfl [zlz] (n:=3) (ann:=z5a) (R:=fun o=>o=[.r (((yz s x0).take k).map eA++[eA y])]) (B:=fun _ _=>False) (ts:=[]) (ms:=iR) (kill:=[]) (σk:=sO3) (l:=[.r (((yz s x0).take k).map eA),.s y.name,eC y.val]) (σ:=sO2) (d:=[]) (w0:=W) (S0:=pinned p4) (p:=p4) (Q:=fun _ _ _=>False)
   (K:=fun a2 W2=>KpN w' (g+1) m N B W W2∧OwI c p2 w' W1 g m s x0 a' c' (k+1) W2.heap.size W2)
   (by
    rw[hcl,zoh];unfold zvw;rw[qg];refine⟨⟨?_,trivial⟩,?_⟩
    ·show(D.b (decide (((((yz s x0).take k).map eA).length:Int)+1≤4398046510976))).tt=true
     rw[uB,q5y,gnD];omega
    ·rfl) rfl (by rw[hcA,hcF];exact hb4.anew) hf4 hd4 hz4 (fun st p5 W2 a2 hR hst hb5 hf5 hd5 hz5=>?_)
  ·refine wpIn_mono pre fun e a2 W2 hq=>?_;cases e with
   |normal=>exact⟨hq.1,.inl ⟨rfl,hq.2⟩⟩
   |_=>exact hq.elim
  ·have hR:st=[.r (((yz s x0).take k).map eA++[eA y])]:=hR;subst hR;rw[hcA,hcF] at hb5;have hf5:SF (c'.at (qf []) [.r (((yz s x0).take k).map eA),.s y.name,eC y.val,.r (((yz s x0).take k).map eA++[eA y])]) sOB p5 W2 a2:=hf5;obtain⟨v,t4,ev,g4,hg4,eg,hat⟩:=hf5.t 4 _ zx3;have hm:=hf5.m 4 _ zx6;refine⟨⟨hb5.but.size,fun b hlt hb=>hb5.but.block b (by omega) ?_⟩,by have:=hb5.but.size;omega,uC _,p5,hb4.comp hb5,?_,fun q b hq=>hb5.bd q b hq⟩
   ·rintro⟨q,hq⟩;rcases hb with hb|hb
    ·have:=hp4 q b hq;omega
    ·exact hAh b (hb4.pa q b hq) hb
   ·have e:((yz s x0).take (k+1)).map eA=((yz s x0).take k).map eA++[eA y]:=by
     rw[List.take_add_one,hy];simp
    rw[e];have ev:v=v4:=ev.trans hsn;exact zk0 h4 hsn ⟨g4,hg4,ev.symm.trans eg,hat⟩ hm
end
set_option maxHeartbeats 1000000 in
theorem qbp:FOk yi z8u:=by
 refine zef (qf []) kO owC Try.func37 zjo qvy (by rw[zlf];decide) fun ds outs hwf hg c p w a Q hlo hfz hfr hdl hb hf hd hz hfin=>?_;obtain⟨d,r,rfl,hs,e,r',rfl,hc,rfl⟩:=hwf;obtain⟨s,rfl,so⟩:=wfS hs;obtain⟨x,rfl,co⟩:=wfC hc;simp only[z8u,yf,q16] at hg;have hlo:c.lo=2:=hlo;have hz:a.tmps.size=28:=hz.trans zlf;have hfm:∀te,c.F.mx te≤flM [] te:=fun te=>by rw[hfz];exact uN _
 have hcl:Code.wpIn (FR none) 5 uA (seqs [sqL owC,sqL (sqR owC)] (.seq (.seq (sqL (sqL (sqR (sqR owC)))) (.block 0 owL)) owZ)) Q a w:=by
  refine q2g _ ?_;have pre:qat (FR none) 5 uA Q ow1 ((Code.block 0 owL).wpIn (FR none) 5 uA (Exit.then (owZ.wpIn (FR none) 5 uA Q) Q)) a w:=by
   refine qbh (c:=c) (z:=28) none 5 .nil hfm rfl ow1 (n:=2) (ann:=z5a) (R:=fun o=>o=[.r []]) (B:=fun _ _=>False) (d:=[]) (l:=[eS s,eC x]) (σ:=qu3 yi) (by
    rw[hlo,zmv];unfold zva;simp only[z8,qg,q4o,q0s,X.says,X.ev,X.evs,evl,uI,uJ,qt5,qxd,qed,q7i,j4,q5y,uB,q9e,gnD,decide_eq_false_iff_not,uM,kS,q46];refine⟨fun h=>⟨⟨h,trivial⟩,trivial⟩,fun h=>?_⟩;rw[if_pos h] at hg;split at hg
    ·rename_i hin;obtain⟨h1,h2⟩:=qi.1 hin.1;have h3:=qmu so;unfold i64 at *;refine⟨⟨by omega,by omega,by omega,trivial⟩,⟨h,trivial⟩,trivial⟩
    ·cases hg) rfl hb hf hd hz fun n' r σ' l' B' p' w' a' hl' hpre hgo hb' hf' hd' hz'=>?_
   have tk1:l'.getD 1 .u=eC x:=by
    have:(l'.take 2).getD 1 .u=eC x:=by rw[hpre];rfl
    rw[gnG,uL (by omega),←gnG] at this;exact this
   have ret:∀r':ResD,(Tree.need [.not (.eq (.fld (.tok 1) 0) (.lit (.i 5)))] (qdx yi zol n' r' σ')).go (qf []) (fun o=>o=[.r []]) l' B'→Q r'.exit' a' w':=fun r' hgo=>by
    obtain⟨⟨hN,-⟩,hgo⟩:=hgo;have hN:(D.b (!(D.b (decide ((l'.getD 1 .u).fld 0=.i 5))).tt)).tt=true:=hN;rw[tk1,qt5] at hN;have hx:x.t≠5:=by simpa[q5y] using hN
    rw[if_neg hx] at hg;exact hfin n' r' σ' l' B' p' w' a' c hl' (zcy hgo fun o ho=>ho.trans (gnI hg)) rfl rfl rfl (fun b h=>h) hb' hb'.anew hf' ⟨[],by rw[hd'];rfl,by simp,fun D hD=>by cases hD⟩ (hz'.trans zlf.symm)
   cases r with
   |ret=>exact ret .ret hgo
   |exit i=>exact ret (.exit i) hgo
   | normal =>
    obtain⟨⟨hN,-⟩,hgo⟩:=hgo;have hN:(D.b (decide ((l'.getD 1 .u).fld 0=.i 5))).tt=true:=hN;rw[tk1,qt5] at hN;have hx:x.t=5:=by simpa[q5y] using hN
    rw[if_pos hx] at hg;split at hg
    ·rename_i hin;have hg:=(gnI hg).symm;obtain⟨st,p2,hR,-,hb2,hf2⟩:=qlq (c:=c) hgo hpre rfl hb' hf';have hR:st=[.r []]:=hR;subst hR;have hf2:SF (c.at (qf []) [eS s,eC x,.r []]) sOR p2 w' a':=hf2;obtain⟨v4,t4,g4,hg4,e4,hat4⟩:=hf2.t 4 _ zx5;obtain⟨v18,t18,gg,cs1,cs2,e18,⟨ha1,hf1⟩,⟨ha2,hf2'⟩,⟨hfr1,hfr2⟩,hh1,hh2,r1,r2⟩:=hf2.t 18 _ zv2;obtain⟨gm,csm,Tm,hgm,hhm,htm,hcm⟩:=hf2.m 4 _ zxp;have ex0:(X.get (.fld (.tok 0) 0) (.add (.fld (.tok 1) 1) (.lit (.i 2)))).ev (c.at (qf []) [eS s,eC x,.r []]).v=eC (cellAt s (x.n+2)):=by
      show((eS s).fld 0).get (((eC x).fld 1).int+2)=_
      rw[qed,qxd,j4];exact y7 hin.1
     rw[ex0] at r2;have hs2:=r2;obtain rfl:=qym r2;have hfr1:=hfr gg hfr1;have hfr2:=hfr (gg+1) hfr2
     show(Code.block 0 owL).wpIn (FR none) 5 uA (Exit.then (owZ.wpIn (FR none) 5 uA Q) Q) a' w'
     refine wpIn_block ?_;rw[ztf];refine zj6 (nn:=5) (bs:=gg) (bc:=gg+1) (css:=cs1) (s:=s) (c0:=cellAt s (x.n+2)) (by omega) ((qc3 t18).trans e18) (by omega) ⟨_,hh1⟩ (Rd.mono (fun b _ h=>by have:=h.2;omega) r1) so ⟨_,by kernel_rfl,hh2⟩ (z9g hs2) fun m W1 hbut hm1 hm2=>?_;have hw1:=hb'.but.size;have hw2:=hbut.size;obtain⟨c',hc'⟩:∃c':Cx,c'={c with A:=qol c w' gg m,snap:=fun t=>a'.tmps.getD t Go.undef}:=⟨_,rfl⟩;have hcA:c'.A=qol c w' gg m:=by rw[hc']
     have hcF:c'.F=c.F:=by rw[hc']
     have hc2:c'.lo=c.lo:=by rw[hc']
     have hcT:c'.At=c.At:=by rw[hc']
     have hgl:=qt hh1;have hgl2:=qt hh2;have hSp:∀b,zom p2 w' gg m b→pinned p b∨w.heap.size≤b:=by
      rintro b(⟨q,hq⟩|h|h|h|h)
      ·exact hb2.pin q b hq
      ·exact .inr (by omega)
      ·exact .inr (by omega)
      ·exact .inr (by omega)
      ·exact .inr (by omega)
     refine⟨_,_,_,zqt (c:=c) (c':=c') (p2:=p2) (W1:=W1) hin.2 hlo hfz hz' so hc' t4 ⟨_,hh1⟩ hf1 hbut hm1 hm2 r1,?_,?_,fun W h=>h.elim⟩
     ·refine⟨by omega,uC _,p2,⟨hb2.inj,fun q b hq=>uD (hb2.bd q b hq) hw2,But.refl _ _,fun q b hq=>.inl (.inl ⟨q,hq⟩),fun b hb=>⟨⟨(hb2.new b (by omega)).1,by omega,by unfold q4e;omega⟩,(hb2.new b (by omega)).2⟩,fun q b hq=>⟨hb2.pa q b hq,fun e=>hf1 q (e▸hq),?_⟩,fun q b hq=>(hb2.obj q b hq).same (hbut.block b (hb2.bd q b hq) fun h=>h),Flo.of0 hfz hb2.flo⟩,?_,fun q b hq=>uD (hb2.bd q b hq) hw2⟩
      ·have:=hb2.bd q b hq;rintro(h|h|h|h)
       ·exact hf2' q (h▸hq)
       ·omega
       ·omega
       ·omega
      ·have hsn:c'.snap 4=v4:=by
        rw[hc']
        show a'.tmps.getD 4 Go.undef=v4
        simp[uF,t4]
       have hc0:Con c'.A p2 W1 (.r []) qbl [(0,65)] [] csm.toList:=zno hcm fun g hg=>hbut.block g (hb2.bd _ _ hg) fun h=>h;exact zk0 t4 hsn ⟨g4,hg4,e4,by rw[hcT];exact hat4⟩ ⟨gm,csm,Tm,hgm,(hbut.block gm (qt hhm) fun h=>h).trans hhm,htm,hc0⟩
     ·rintro N W⟨h1,h2,p3,hb3,hf3,hp3⟩hD
      show owZ.wpIn (FR none) 5 uA Q _ W
      have hnD:¬qol c w' gg m w'.heap.size:=fun h=>h.2.2 (.inr (.inr (.inl rfl)));rw[kL (uC _)] at hf3;have hf3':SF (c'.at (qf []) [.r ((yz s (cellAt s (x.n+2))).map eA)]) sO5 p3 W {a' with defers:={target:=.collected w'.heap.size,args:= #[]}::a'.defers}:=by
       refine⟨fun t y hy=>?_,fun k e he=>hf3.m k e he⟩;have hy:=qx hy;simp only[sO5,gnM] at hy;obtain⟨rfl,rfl⟩:=hy;obtain⟨v,q1,-,q2⟩:=hf3.t 4 _ (by kernel_rfl:lkA sO4.t 4=some (.sn 4 (.ref 4 [] 0 qbl)));exact⟨v,q1,q2⟩
      refine qod none 5 (c:=c') (z:=28) (w0:=W) (S0:=pinned p3) (d:={target:=.collected w'.heap.size,args:= #[]}::a'.defers) .nil (fun te=>by rw[hcF,hfz];exact uN _) owZ (ids:=[]) (n:=1) (ann:=z5a) (k:=qdx yi zol) (R:=fun o=>o=outs) (B:=fun _ _=>False) (l:=[.r ((yz s (cellAt s (x.n+2))).map eA)]) (σ:=sO5) (p:=p3) (by
       rw[hc2,hlo,zls,hg];rfl) rfl (by rw[hcA,hcF];exact hb3.anew) hf3' rfl hz' (q5t rfl) (qkg rfl) fun n5 r5 σ5 l5 B5 p5 W5 a5 hl5 hpre5 _ hgo5 hb5 hf5 hd5 hz5=>?_
      rw[hcA,hcF] at hb5;have hb6:=hb3.comp hb5;refine hfin n5 r5 σ5 l5 B5 p5 W5 a5 c' hl5 hgo5 hc2 hcF hcT (fun b h=>by rw[hcA] at h;exact h.1) ⟨hb6.inj,hb6.bd,(hb'.but.trans_nil hbut).trans hb6.but fun b hb _=>hSp b hb,fun q b hq=>?_,hb.new,fun q b hq=>(hb6.pa q b hq).1,hb6.obj,Flo.of0 hfz hb.flo⟩ (by rw[hcA,hcF];exact hb5.anew) hf5 ⟨[w'.heap.size],by rw[hd5,hd'];rfl,by simp,fun D hD'=>?_⟩ (hz5.trans zlf.symm)
      ·rcases hb6.pin q b hq with h|h
       ·exact hSp b h
       ·exact .inr (by omega)
      ·obtain rfl:D=w'.heap.size:=by simpa using hD'
       exact⟨by omega,(hb5.stays (uG.1 hD).1 fun q hq=>hnD (hb3.pa q _ hq)).1.trans hD,by rw[hcA];exact hnD⟩
    ·cases hg
  refine q7z (Q:=Q) (Q':=Q) (fun e a w _ h=>h) [sqL owC,sqL (sqR owC)] (fun a w h=>?_) (qcx [sqL owC,sqL (sqR owC)] [sqL (sqL (sqR (sqR owC)))] pre);refine wpIn_seq (wpIn_seq (wpIn_mono h fun e a w hq=>?_));cases e with
  |normal=>exact hq
  |_=>exact hq
 have e:=zrb;rw[←e] at hcl;exact hcl
end
section
open Go.RowKit Go.Shelf
theorem qdh:q0v q61:=.cons q96 (.cons zt8 (.cons z2y .nil))
noncomputable def zx1:Nat:=match sqL (sqR (sqR wkC)) with
 |.region i _ _=>i
 |_=>0
theorem zto:wkC=seqs zr3 (.seq (.region zx1 zq6.toArray false) q7u):=by kernel_rfl
noncomputable def z49:Nat:=match sqR (sqL z7f) with
 |.block i _=>i
 |_=>0
theorem zeb:q7u=seqs [sqL q7u,sqL (sqR q7u)] (.seq (.seq (sqL (sqL z7f)) (.block z49 (.loop qic))) wkZ):=by kernel_rfl
noncomputable def zsu:Nat:=match sqL (sqR (sqR qic)) with
 |.block i _=>i
 |_=>0
noncomputable def zsj:Nat:=match sqR (sqR zow) with
 |.block i _=>i
 |_=>0
theorem zqw:z49=0:=by kernel_rfl
theorem qky:qic=seqs wkH (.seq (.block zsu (seqs wkR (.seq wkY (.block zsj wkF)))) (sqR (sqR (sqR qic)))):=by kernel_rfl
theorem zji:uV.body=some wkC:=by kernel_rfl
theorem zof:uV.ntmps=69:=by kernel_rfl
theorem qyw{sk:So}{c:Ce}(h:sk.cs.length≤1048576):(yz sk c).length≤1048576:=by
 have:=qe6 sk sk.cs.length c [];unfold yz at *;omega
theorem Dfs.keep{lb:Nat}{d:List Deferred}{w w':World}{ds:List Deferred}{S0:Nat→Prop}{p:qj}(h:Dfs A lb d w ds)(hk:∀b,b<w.heap.size→¬A b→w'.heap[b]? =w.heap[b]?):Dfs A lb d w' ds:=by
 obtain⟨Ds,e,hn,hD⟩:=h;exact⟨Ds,e,hn,fun D hd=>⟨(hD D hd).1,(hk D (qt (hD D hd).2.1) (hD D hd).2.2).trans (hD D hd).2.1,(hD D hd).2.2⟩⟩
theorem q8u(s:So)(o:List Ce)(w:Wk)(l:List Wk):jw s o (w::l)=if(zz w.val s o (yz s w.att)).2.2=0 then jw (zz w.val s o (yz s w.att)).1 (zz w.val s o (yz s w.att)).2.1 l else zz w.val s o (yz s w.att):=rfl
theorem zmg{s r:So}(hc:s.cs.length≤r.cs.length)(hy:s.ys.length≤r.ys.length)(ht:s.tr.length≤r.tr.length){e:Int}(he:¬e=0):q5c [.i e,eS r,eS s]=some [eS (qta s r)]:=by
 have he':¬(D.i e).int=0:=he;simp only[q5c,if_neg he',qed,zju,z81,z41,zt5,zsi,q7i,uB];rw[if_pos ⟨hc,hy,ht⟩];unfold qta eS;simp only[List.map_take]
def zum(c:Cx)(w:World)(S0:Nat→Prop)(dK:Deferred)(s:So)(ws:List Wk)(k:Nat)(a:Act)(W:World):Prop:=∃(c2:Cx)(p3:qj)(sk:So)(o:List Ce),c2.lo=c.lo∧c2.F=c.F∧c2.At=c.At∧c2.snap (VB+3)=c.snap (VB+3)∧(∀b,c2.A b→c.A b)∧Bs c.A c.F w S0 p3 W∧Bs c2.A c2.F W (pinned p3) p3 W∧SF (c2.at (qf q61) [eS s,.r (ws.map eW),.i k,eS sk,.r (o.map eC),.i 0]) q6l p3 W a∧Dfs c2.A w.heap.size [dK] W a.defers∧a.tmps.size=69∧
 jw sk o (ws.drop k)=jw s [] ws∧qcf sk o (ws.drop k)=true∧qe2 s sk∧o.length≤k * 1048576∧k≤ws.length
theorem zu4{x:X}{sk:So}{own:List (Nat×Nat)}(h:q1v c p W 0 ⟨x,qe,own,[]⟩)(hx:x.ev c.v=eS sk):sk.ok:=by
 obtain⟨g,cs,T,hg,hh,hT,hcon⟩:=h;have hcon:Con c.A p W (x.ev c.v) qe own [] cs.toList:=hcon;rw[hx] at hcon;obtain⟨s',e,hs'⟩:=wfS ⟨W,_,_,Con.rd hcon (dep':=own.map (·.2)) (fun _ h=>nomatch h) (fun _ h=>h)⟩;rw[z99 e];exact hs'
section
variable{c:Cx}{w:World}{S0:Nat→Prop}{dK:Deferred}{s:So}{ws:List Wk}{outs:List D}{Q:Exit→Act→World→Prop}
set_option maxHeartbeats 1000000 in
theorem qya(hlo:c.lo=1)(hfz:∀te,c.F.mx te=0)(hwl:ws.length≤1000000)
  (ho:outs=(if(jw s [] ws).2.2=0 then[.r ((jw s [] ws).2.1.map eC),.i 0,eS {(jw s [] ws).1 with wk:=[]}] else[.r [],.i (jw s [] ws).2.2,eS (qta s (jw s [] ws).1)]))
  (hfin:∀n'(r:ResD)σ' l' B' p' w' a'(c2:Cx),l'.length=n'→(qio y8 uV 2 0 3 (.tok 0) n' r σ').go (qf q61) (fun o=>o=outs) l' B'→l'.getD 0 .u=eS s→c2.lo=c.lo→c2.F=c.F→c2.At=c.At→c2.snap (VB+3)=c.snap (VB+3)→(∀b,c2.A b→c.A b)→Bs c.A c.F w S0 p' w'→Bs c2.A c2.F w' (pinned p') p' w'→SF (c2.at (qf q61) l') σ' p' w' a'→Dfs c2.A w.heap.size [dK] w' a'.defers→a'.tmps.size=69→Q r.exit' a' w'):
  ∀(f k:Nat)(a:Act)(W:World),zum c w S0 dK s ws k a W→ws.length - k<f→Code.roundsIn (FR none) 5 uA qic (Exit.inBlock z49 (Exit.then (wkZ.wpIn (FR none) 5 uA Q) Q)) f a W
 |0,k,a,W,_,hf=>absurd hf (kV _)
 | f + 1, k, a, W, ⟨c2, p3, sk, o, e1, e2, e3, e4, hA2, hbs, hbn, hsf, hdf, hz, hrun, hok, hgr, hol, hkl⟩, hfu => by
  have hfm:∀te,c2.F.mx te≤flM q61 te:=fun te=>by rw[e2,hfz];exact uN _
  have hfz2:∀te,c2.F.mx te=0:=fun te=>by rw[e2];exact hfz te
  have hl2:c2.lo=1:=e1.trans hlo;rw[roundsIn_succ,qky,←qky];refine(show Code.wpIn (FR none) 5 uA qic _ a W from ?_);rw[qky,←qky];have hW:(seqs wkH (.seq (.block zsu (seqs wkR (.seq wkY (.block zsj wkF)))) (sqR (sqR (sqR qic))))).wpIn (FR none) 5 uA (Exit.then (Code.roundsIn (FR none) 5 uA qic (Exit.inBlock z49 (Exit.then (wkZ.wpIn (FR none) 5 uA Q) Q)) f) (Exit.inBlock z49 (Exit.then (wkZ.wpIn (FR none) 5 uA Q) Q))) a W:=by
   refine q2g wkH ?_;refine qbh (c:=c2) (z:=69) none 5 qdh hfm rfl wkH (n:=6) (ann:=q88) (R:=fun q=>q=[]) (B:=fun _ _=>False) (d:=a.defers) (l:=[eS s,.r (ws.map eW),.i k,eS sk,.r (o.map eC),.i 0]) (σ:=q6l) (k:=zua) (by
    rw[hl2,zl6];unfold zuh;rw[z8];refine⟨fun h=>?_,fun h=>?_⟩
    ·rw[qg];exact⟨⟨h,trivial⟩,rfl⟩
    ·rw[qg];refine⟨⟨?_,trivial⟩,rfl⟩
     show(D.b (!(X.ev _ _).tt)).tt=true
     rw[h];rfl) rfl hbn hsf rfl hz fun n' r σ' l' B' p' w' a' hl' hpre hgo hb' hf' hd' hz'=>?_
   cases r with
   |ret=>exact hgo.elim
   | exit i =>
    match i,hgo with
    | 0, hgo =>
     -- the end of the loop
     obtain⟨⟨hlt,-⟩,hgo⟩:=hgo;obtain⟨st,p5,hR,-,hb5,hf5⟩:=qlq (n':=n') (c:=c2) hgo hpre rfl hb' hf';have hR:st=[]:=hR;subst hR;rw[zja,kG] at hf5;have q2:l'.getD 2 .u=.i k:=by
      have:(l'.take 6).getD 2 .u=.i k:=by rw[hpre];rfl
      rw[gnG,uL (by omega),←gnG] at this;exact this
     have q1:l'.getD 1 .u=.r (ws.map eW):=by
      have:(l'.take 6).getD 1 .u=.r (ws.map eW):=by rw[hpre];rfl
      rw[gnG,uL (by omega),←gnG] at this;exact this
     have hlt:(D.b (!(D.b (decide ((l'.getD 2 .u).int<((l'.getD 1 .u).rs.length:Nat)))).tt)).tt=true:=hlt;rw[q1,q2] at hlt;have hk:k=ws.length:=by
      have:¬((k:Int)<(ws.length:Nat)):=by simpa[q5y,q7i,j4] using hlt
      omega
     subst hk;rw[kU] at hrun;have hrun:(sk,o,(0:Int))=jw s [] ws:=hrun;rw[←hrun] at ho
     show Exit.inBlock z49 (Exit.then (wkZ.wpIn (FR none) 5 uA Q) Q) (.exit 0) a' w'
     rw[zqw]
     show wkZ.wpIn (FR none) 5 uA Q a' w'
     have hst5:∀b,b<W.heap.size→¬c2.A b→w'.heap[b]? =W.heap[b]? :=fun b hb hn=>(hb5.stays hb fun q hq=>hn (hbn.pa q _ hq)).1;have hbs5:Bs c.A c.F w S0 p5 w':=hbs.up (show Bs c2.A c.F W (pinned p3) p5 w' from e2▸hb5) hA2;refine qod none 5 (c:=c2) (z:=69) (w0:=w') (S0:=pinned p5) (d:=a'.defers) qdh hfm wkZ (ids:=[]) (n:=6) (ann:=q88) (k:=qio y8 uV 2 0 3 (.tok 0)) (R:=fun q=>q=outs) (B:=fun _ _=>False) (l:=[eS s,.r (ws.map eW),.i ws.length,eS sk,.r (o.map eC),.i 0]) (σ:=q6l) (p:=p5) (by
      rw[hl2,zmw,ho];have hset:(X.set (.tok 3) 3 (.lit (.r []))).ev (evl (qf q61) [eS s,.r (ws.map eW),.i ws.length,eS sk,.r (o.map eC),.i 0])=eS {sk with wk:=[]}:=rfl;have hg:qf q61 2 [.i 0,eS {sk with wk:=[]},eS s]=some [eS {sk with wk:=[]}]:=rfl;unfold zul;simp only[qg,q4o,q0s,X.says,X.evs,X.ev,evl,uI,uJ,if_true];exact⟨⟨rfl,trivial⟩,rfl⟩) rfl hb5.anew hf5 rfl hz' (q5t rfl) (qkg rfl) fun n7 r7 σ7 l7 B7 p7 W7 a7 hl7 hpre7 _ hgo7 hb7 hf7 hd7 hz7=>?_
     have q0:l7.getD 0 .u=eS s:=by
      have:(l7.take 6).getD 0 .u=eS s:=by rw[hpre7];rfl
      rw[gnG,uL (by omega),←gnG] at this;exact this
     have hdf7:Dfs c2.A w.heap.size [dK] W7 a7.defers:=by
      rw[hd7,hd'];exact(hdf.keep (S0:=S0) (p:=p3) hst5).keep (S0:=S0) (p:=p3) fun b hb hn=>(hb7.stays hb fun q hq=>hn (hb5.pa q _ hq)).1
     exact hfin n7 r7 σ7 l7 B7 p7 W7 a7 c2 hl7 hgo7 q0 e1 e2 e3 e4 hA2 (hbs5.up (show Bs c2.A c.F w' (pinned p5) p7 W7 from e2▸hb7) hA2) hb7.anew hf7 hdf7 hz7
    |i+1,hgo=>exact hgo.elim
   | normal =>
    -- a wake
    obtain⟨⟨hlt,-⟩,hgo⟩:=hgo;obtain⟨st,p5,hR,-,hb5,hf5⟩:=qlq (n':=n') (c:=c2) hgo hpre rfl hb' hf';have hR:st=[]:=hR;subst hR;rw[zja,kG] at hf5;have q2:l'.getD 2 .u=.i k:=by
     have:(l'.take 6).getD 2 .u=.i k:=by rw[hpre];rfl
     rw[gnG,uL (by omega),←gnG] at this;exact this
    have q1:l'.getD 1 .u=.r (ws.map eW):=by
     have:(l'.take 6).getD 1 .u=.r (ws.map eW):=by rw[hpre];rfl
     rw[gnG,uL (by omega),←gnG] at this;exact this
    have hlt:(D.b (decide ((l'.getD 2 .u).int<((l'.getD 1 .u).rs.length:Nat)))).tt=true:=hlt;rw[q1,q2] at hlt;have hk:k<ws.length:=by
     have:((k:Int)<(ws.length:Nat)):=by simpa[q5y,q7i,j4] using hlt
     omega
    have hst5:∀b,b<W.heap.size→¬c2.A b→w'.heap[b]? =W.heap[b]? :=fun b hb hn=>(hb5.stays hb fun q hq=>hn (hbn.pa q _ hq)).1;have hbs5:Bs c.A c.F w S0 p5 w':=hbs.up (show Bs c2.A c.F W (pinned p3) p5 w' from e2▸hb5) hA2;have hdf5:Dfs c2.A w.heap.size [dK] w' a'.defers:=by
     rw[hd'];exact hdf.keep (S0:=S0) (p:=p3) hst5
    obtain⟨wk,hwk⟩:∃wk,ws[k]=wk:=⟨_,rfl⟩;have hdr:ws.drop k=wk::ws.drop (k+1):=by rw[kI hk,hwk]
    rw[hdr] at hrun hok;unfold qcf at hok;rw[q8u] at hrun;simp only[gnB,uQ,gnD] at hok;have hab:=qyw (c:=wk.att) hok.1.1;have hok:qcm wk.val sk (yz sk wk.att)=true∧_:=⟨hok.1.2,hok.2⟩
    show(Code.seq (.block zsu (seqs wkR (.seq wkY (.block zsj wkF)))) (sqR (sqR (sqR qic)))).wpIn (FR none) 5 uA _ a' w'
    refine wpIn_seq (wpIn_block (q2g wkR ?_));refine qa3 (c:=c2) (z:=69) none 5 qdh hfm rfl wkR (n:=6) (ann:=q88) (R:=fun q=>q=[eS sk,.r (o.map eC),.i 0,eW wk]) (B:=fun _ _=>False) (ts:=[]) (ms:=znp) (kill:=[]) (σk:=zoz) (d:=a'.defers) (l:=[eS s,.r (ws.map eW),.i k,eS sk,.r (o.map eC),.i 0]) (σ:=q6l) (w0:=w') (S0:=pinned p5) (p:=p5) (by
     rw[hl2,zkn];unfold zvh;rw[qg];refine⟨⟨?_,?_,trivial⟩,?_⟩
     ·show(D.b (decide ((0:Int)≤(k:Int)))).tt=true
      rw[q5y,gnD];omega
     ·show(D.b (decide ((k:Int)<(((ws.map eW).length:Nat):Int)))).tt=true
      rw[q5y,gnD,uB];omega
     ·show[eS sk,D.r (o.map eC),D.i 0,(D.r (ws.map eW)).get (k:Int)]=_
      have:(D.r (ws.map eW)).get (k:Int)=eW wk:=by
       show((ws.map eW)[((k:Int)).toNat]?).getD .u=_
       simp[hk,hwk]
      rw[this]) rfl hb5.anew hf5 rfl hz' fun st p6 W6 a6 hR hst hb6 hf6 hd6 hz6=>?_
    have hR:st=[eS sk,.r (o.map eC),.i 0,eW wk]:=hR;subst hR;rw[zms] at hf6;have hst6:∀b,b<w'.heap.size→¬c2.A b→W6.heap[b]? =w'.heap[b]? :=fun b hb hn=>(hb6.stays hb fun q hq=>hn (hb5.pa q _ hq)).1;have hbs6:Bs c.A c.F w S0 p6 W6:=hbs5.up (show Bs c2.A c.F w' (pinned p5) p6 W6 from e2▸hb6) hA2;have hdf6:Dfs c2.A w.heap.size [dK] W6 a6.defers:=by
     rw[hd6];exact hdf5.keep (S0:=S0) (p:=p3) hst6
    have so:sk.ok:=zu4 (hf6.m 0 ⟨.tok 6,qe,qp 0 qe,[]⟩ (by kernel_rfl)) rfl;have hnew:∀{A3:Nat→Prop}{W':World}{a2:Act}{D:Nat},(∀b,A3 b→c2.A b)→¬A3 D→W6.heap.size≤D→W'.heap[D]? =some (.deferred (some []))→a2.defers=qsp D::a6.defers→(∀b,b<W6.heap.size→¬pinned p6 b→W'.heap[b]? =W6.heap[b]?)→Dfs A3 w.heap.size [dK] W' a2.defers:=fun{A3 W' a2 D}hA3 hD hDl hDh hde hold=>by
     obtain⟨Ds,f1,f2,f3⟩:=hdf6;have hs6:=hbs6.but.size;refine⟨D::Ds,by rw[hde,f1];rfl,List.nodup_cons.2 ⟨fun hm=>?_,f2⟩,fun D' hm=>?_⟩
     ·have:=qt (f3 D hm).2.1;omega
     ·rcases List.mem_cons.1 hm with rfl|hm
      ·exact⟨by omega,hDh,hD⟩
      ·obtain⟨g1,g2,g3⟩:=f3 D' hm;exact⟨g1,(hold D' (qt g2) fun⟨q,hq⟩=>g3 (hb6.pa q _ hq)).trans g2,fun h=>g3 (hA3 _ h)⟩
    refine zfz (c2:=c2) (p8:=p6) hl2 hfz2 hb6.anew hf6 hz6 hok.1 (by omega) so (fun A3 p' W' a2 D hA3 hD hDl hDh hde hz2 hold hb8 hbn8 he hs8 hlen=>?_) (fun A3 p' W' a2 D hA3 hD hDl hDh hde hz2 hold hb8 hbn8 he hs8=>?_)
    ·-- the next wake
     show(sqR (sqR (sqR qic))).wpIn (FR none) 5 uA _ a2 W'
     have hdf8:=hnew hA3 hD hDl hDh hde hold;have hbs8:Bs c.A c.F w S0 p' W':=hbs6.up (show Bs c2.A c.F W6 (pinned p6) p' W' from e2▸hb8) hA2;obtain⟨r,hr⟩:∃r,r=zz wk.val sk o (yz sk wk.att):=⟨_,rfl⟩;rw[←hr] at hs8 he hlen hrun hok;obtain⟨c3,hc3⟩:∃c3:Cx,c3={c2 with A:=A3}:=⟨_,rfl⟩;have hc3A:c3.A=A3:=by rw[hc3]
     have hc3F:c3.F=c2.F:=by rw[hc3]
     have hc3l:c3.lo=1:=by rw[hc3];exact hl2
     have pre:=qa3 (c:=c3) (z:=69) none 5 qdh (fun te=>by rw[hc3F];exact hfm te) rfl wkN (n:=6) (ann:=q88) (R:=fun q=>q=[.i ((k+1:Nat):Int)]) (B:=fun _ _=>False) (ts:=[(26,.int .i64,[],[])]) (ms:=[]) (kill:=[]) (σk:=⟨q6l.t.filter (fun e=> !Nat.beq e.1 26),q6l.m⟩) (d:=a2.defers) (l:=[eS s,.r (ws.map eW),.i k,eS r.1,.r (r.2.1.map eC),.i 0]) (σ:=q6l) (w0:=W') (S0:=pinned p') (p:=p') (a:=a2) (w:=W') (Q:=fun _ _ _=>False) (K:=fun a3 W3=>zum c w S0 dK s ws (k+1) a3 W3) (by
      rw[hc3l,zmm];unfold zw4;rw[qg];have hr:i64 ((k:Int)+1):=by
       unfold i64;omega
      simp only[q0s,X.says,X.ev,evl,uI,uJ,j4,q5y,q46,hr,and_self,true_and];rfl) rfl (by rw[hc3A,hc3F];exact hbn8) (by rw[hc3];exact hs8) rfl hz2 fun st p9 W9 a9 hR9 hst9 hb9 hf9 hd9 hz9=>?_
     ·refine wpIn_mono pre fun e a3 W3 hq=>?_;cases e with
      |normal=>exact qya hlo hfz hwl ho hfin f (k+1) a3 W3 hq (by omega)
      |_=>exact hq.elim
     ·have hR9:st=[.i ((k+1:Nat):Int)]:=hR9;subst hR9;rw[show q33 [(26,.int .i64,[],[])] [] 6 (q28 [(26,.int .i64,[],[])] [] [] 6 ⟨q6l.t.filter (fun e=> !Nat.beq e.1 26),q6l.m⟩)=zwl from zm8] at hf9;have hst9:∀b,b<W'.heap.size→¬A3 b→W9.heap[b]? =W'.heap[b]? :=fun b hb hn=>(hb9.stays hb fun q hq=>hn (hbn8.pa q _ hq)).1;rw[hc3A,hc3F] at hb9;refine⟨c3,p9,r.1,r.2.1,by rw[hc3];exact e1,by rw[hc3];exact e2,by rw[hc3];exact e3,by rw[hc3];exact e4,fun b h=>hA2 b (hA3 b (by rw[←hc3A];exact h)),hbs8.up (show Bs A3 c.F W' (pinned p') p9 W9 from e2▸hb9) fun b h=>hA2 b (hA3 b h),by rw[hc3A,hc3F];exact hb9.anew,?_,?_,hz9,?_,?_,?_,?_,hk⟩
      ·refine⟨fun t x hx=>?_,fun j e he=>?_⟩
       ·have hx:=qx hx;simp only[q6l,gnM] at hx;rcases hx with⟨rfl,rfl⟩|⟨rfl,rfl⟩|⟨rfl,rfl⟩|⟨rfl,rfl⟩|⟨rfl,rfl⟩|⟨rfl,rfl⟩|⟨rfl,rfl⟩
        ·exact hf9.t 0 (.ref 0 [] 0 qe) (by kernel_rfl)
        ·exact hf9.t 1 (.bx 1 37 (.ref 0 [] 0 qe)) (by kernel_rfl)
        ·exact hf9.t 2 (.ref 2 [] 0 zl) (by kernel_rfl)
        ·exact hf9.t 3 (.sn (VB+3) (.ref 3 [] 0 zy)) (by kernel_rfl)
        ·exact hf9.t 24 (.v (.tok 1) q36 [(0,385)] []) (by kernel_rfl)
        ·exact hf9.t 25 (.v (.len (.tok 1)) (.int .i64) [] []) (by kernel_rfl)
        ·exact hf9.t 26 (.v (.tok 6) (.int .i64) [] []) (by kernel_rfl)
       ·have he:=qx he;simp only[q6l,gnM] at he;rcases he with⟨rfl,rfl⟩|⟨rfl,rfl⟩|⟨rfl,rfl⟩
        ·exact hf9.m 0 ⟨.tok 3,qe,qp 0 qe,[]⟩ (by kernel_rfl)
        ·exact hf9.m 2 ⟨.tok 4,zl,[(0,33)],[]⟩ (by kernel_rfl)
        ·exact hf9.m 3 ⟨.tok 5,zy,[],[]⟩ (by kernel_rfl)
      ·rw[hd9,hc3A];exact hdf8.keep (S0:=S0) (p:=p3) hst9
      ·rw[if_pos he] at hrun;exact hrun
      ·rcases hok.2 with h|h
       ·exact absurd he h
       ·exact h
      ·rw[hr];exact hgr.trans (qk4 _ _ _ _ hok.1)
      ·have:r.2.1.length≤o.length+(yz sk wk.att).length:=hlen;omega
    ·-- the return from within
     have hdf8:=hnew hA3 hD hDl hDh hde hold;have hbs8:Bs c.A c.F w S0 p' W':=hbs6.up (show Bs c2.A c.F W6 (pinned p6) p' W' from e2▸hb8) hA2;rw[if_neg he] at hrun;have hgt:qe2 s (zz wk.val sk o (yz sk wk.att)).1:=hgr.trans (qk4 _ _ _ _ hok.1);obtain⟨r,hr⟩:∃r,r=zz wk.val sk o (yz sk wk.att):=⟨_,rfl⟩;rw[←hr] at hs8 he hrun hgt;rw[←hrun,if_neg he] at ho
     show Q .ret a2 W'
     refine hfin 4 .ret wkE [eS s,eS r.1,.r [],.i r.2.2] (fun _ _=>False) p' W' a2 {c2 with A:=A3} rfl ?_ rfl e1 e2 e3 e4 (fun b h=>hA2 b (hA3 b h)) hbs8 hbn8 hs8 hdf8 hz2;rw[zkt,ho];have hg:qf q61 2 [.i r.2.2,eS r.1,eS s]=some [eS (qta s r.1)]:=zmg hgt.1 hgt.2.1 (by rw[hgt.2.2.2.1];exact uC _) he;unfold zu6;simp only[qg,q4o,q0s,X.says,X.evs,X.ev,evl,uI,uJ,hg];exact⟨⟨rfl,trivial⟩,rfl⟩
  have e:=qky;rw[←e] at hW;exact hW
end
set_option maxHeartbeats 1000000 in
theorem qil:FOk y8 zgg:=by
 refine zd1 uV 2 wkC qdh (fun l=>rfl) Try.func14 zji q37 (by rw[zof];decide) rfl zto (ann:=q88) wkK fun ds outs hwf hg=>?_;obtain⟨d,r',rfl,hs,rfl⟩:=hwf;obtain⟨s,rfl,so⟩:=wfS hs;simp only[zgg,yf] at hg;split at hg
 case isFalse=>cases hg
 rename_i hcond;obtain⟨hw1,hc1,hwb⟩:=hcond;have hg:=(gnI hg).symm;refine⟨fun q=>q=[.r (s.wk.map eW),eS s,.r [],.i 0],fun _ _=>False,?_,?_⟩
 ·show(q65 uA q61 q88 1 uV.ntmps zr3 1 (qu3 y8) _).go _ _ _ _
  rw[zof,zne];have hq:zik 3518437208780 (.r (s.wk.map eW))=true:=by
   simp only[zik,q7i,uB,gnD];omega
  have h0:qf q61 0 [.r (s.wk.map eW)]=some [.r (s.wk.map eW)]:=by
   have ht:qf q61 0=gCl 3518437208780:=rfl;rw[ht];simp only[gCl,hq,if_true]
  unfold zvt;simp only[qg,q4o,q0s,X.says,X.evs,X.ev,evl,uI,uJ,z41,h0,uW,uR,q7i,q5y,and_self,and_true,true_and]
 ·intro c p w a S0 Q l n σ ks te was B dK hgo hl hpre hup hlo hfz hp0 hfr0 hb hf hd hz hfin;unfold wkK at hgo;split at hgo
  case isFalse=>exact hgo.elim
  rename_i hok;simp only[gnB] at hok;obtain⟨h1,h2,h3,h4⟩:=hok;obtain rfl:=gnN h1;obtain rfl:=gnN h2;obtain rfl:=gnN h3;obtain rfl:=X.beq_ok _ _ h4;have hlo:c.lo=1:=hlo;have hz:a.tmps.size=69:=hz.trans zof;have hl1:l=[eS s]:=by
   have e:l.take 1=[eS s]:=hpre;rw[←e,kL (by omega)]
  subst hl1;have hcl:Code.wpIn (FR none) 5 uA (seqs [sqL q7u,sqL (sqR q7u)] (.seq (.seq (sqL (sqL z7f)) (.block z49 (.loop qic))) wkZ)) Q a w:=by
   refine q2g _ ?_;have pre:qat (FR none) 5 uA Q zr0 (fun a0 W0=>qat (FR none) 5 uA Q zsd (fun a1 W1=>(Code.block z49 (.loop qic)).wpIn (FR none) 5 uA (Exit.then (wkZ.wpIn (FR none) 5 uA Q) Q) a1 W1) a0 W0) a w:=by
    refine qa3 (c:=c) (z:=69) none 5 qdh (fun te=>by rw[hfz];exact uN _) rfl zr0 (n:=1) (ann:=q88) (R:=fun q=>q=[.r (s.wk.map eW),eS s,.r [],.i 0]) (B:=B) (ts:=zcs) (ms:=wkM) (kill:=[]) (σk:=zo2) (d:=[dK]) (l:=[eS s]) (σ:=σ) (w0:=w) (S0:=S0) (p:=p) (by rw[hlo];exact hgo) rfl hb hf hd hz fun st p0 W0 a0 hR hst hb0 hf0 hd0 hz0=>?_;have hR:st=[.r (s.wk.map eW),eS s,.r [],.i 0]:=hR;subst hR;rw[show q33 zcs wkM 1 (q28 zcs wkM [] 1 zo2)=zpu from zfn] at hf0
    -- the copy's word:a snapshot
    obtain⟨c',hc'⟩:∃c':Cx,c'={c with snap:=fun t=>if t<VB then a0.tmps.getD t Go.undef else c.snap t}:=⟨_,rfl⟩;have hcA:c'.A=c.A:=by rw[hc']
    have hcF:c'.F=c.F:=by rw[hc']
    have hcl:c'.lo=1:=by rw[hc'];exact hlo
    have hcs:c'.snap (VB+3)=c.snap (VB+3):=by rw[hc'];show(if VB+3<VB then a0.tmps.getD (VB+3) Go.undef else c.snap (VB+3))=_;exact if_neg (by decide)
    have hs4:∀v,a0.tmps[4]? =some v→v=c'.snap 4:=fun v hv=>by
     rw[hc']
     show v=if 4<VB then a0.tmps.getD 4 Go.undef else c.snap 4
     rw[if_pos (by decide),uF,hv];rfl
    have hf0b:SF (c'.at (qf q61) [eS s,.r (s.wk.map eW),eS s,.r [],.i 0]) zg7 p0 W0 a0:=by
     refine⟨fun t x hx=>?_,fun j e he=>?_⟩
     ·have hx:=qx hx;simp only[zg7,gnM] at hx;rcases hx with⟨rfl,rfl⟩|⟨rfl,rfl⟩|⟨rfl,rfl⟩|⟨rfl,rfl⟩|⟨rfl,rfl⟩
      ·subst hc';exact hf0.t 0 (.ref 0 [] 0 qe) (by kernel_rfl)
      ·subst hc';exact hf0.t 1 (.bx 1 37 (.ref 0 [] 0 qe)) (by kernel_rfl)
      ·subst hc';exact hf0.t 2 (.ref 2 [] 0 zl) (by kernel_rfl)
      ·obtain⟨v,h1,h2,h3⟩:=hf0.t 3 (.sn (VB+3) (.ref 3 [] 0 zy)) (by kernel_rfl);refine⟨v,h1,h2.trans hcs.symm,?_⟩;subst hc';exact h3
      ·obtain⟨v,h1,h2⟩:=hf0.t 4 (.v (.tok 1) q36 [(0,65)] []) (by kernel_rfl);refine⟨v,h1,hs4 v h1,?_⟩;subst hc';exact h2
     ·have he:=qx he;simp only[zg7,gnM] at he;subst hc';rcases he with⟨rfl,rfl⟩|⟨rfl,rfl⟩|⟨rfl,rfl⟩
      ·exact hf0.m 0 ⟨.tok 2,qe,qp 0 qe,[]⟩ (by kernel_rfl)
      ·exact hf0.m 2 ⟨.tok 3,zl,[(0,33)],[]⟩ (by kernel_rfl)
      ·exact hf0.m 3 ⟨.tok 4,zy,[],[]⟩ (by kernel_rfl)
    have h1:qf q61 1 [.r (s.wk.map eW)]=some [.r ((q55 s.wk).map eW)]:=by
     have ht:qf q61 1=zfw:=rfl;rw[ht];simp only[zfw];rw[if_pos (by rw[uB];exact hw1),zi3]
    refine qa3 (c:=c') (z:=69) none 5 qdh (fun te=>by rw[hcF,hfz];exact uN _) rfl zsd (n:=5) (ann:=q88) (R:=fun q=>q=[.r ((q55 s.wk).map eW),.i ((q55 s.wk).map eW).length,.i 0,eS s,.r [],.i 0]) (B:=fun _ _=>False) (ts:=wkI) (ms:=wkM) (kill:=[]) (σk:=wkQ) (d:=[dK]) (l:=[eS s,.r (s.wk.map eW),eS s,.r [],.i 0]) (σ:=zg7) (w0:=w) (S0:=S0) (p:=p0) (by
     rw[hcl,zfo];unfold zqh;simp only[qg,q4o,q0s,X.says,X.evs,X.ev,evl,uI,uJ,h1,uW,uR,q7i,q5y,and_self,and_true,true_and]) rfl (by rw[hcA,hcF];exact hb0) hf0b hd0 hz0 fun st p1 W1 a1 hR hst hb1 hf1 hd1 hz1=>?_
    have hR:st=[.r ((q55 s.wk).map eW),.i ((q55 s.wk).map eW).length,.i 0,eS s,.r [],.i 0]:=hR;subst hR;rw[show q33 wkI wkM 5 (q28 wkI wkM [] 5 wkQ)=zv3 from zmt] at hf1;rw[hcA,hcF] at hb1;have hwl:=qlz s.wk;refine wpIn_block (wpIn_loop_rounds ((q55 s.wk).length+1) ?_);refine qya (c:=c) (w:=w) (S0:=S0) (dK:=dK) (s:=s) (ws:=q55 s.wk) (outs:=outs) hlo hfz (by omega) ?_ ?_ ((q55 s.wk).length+1) 0 a1 W1 ?_ (by omega)
    ·rw[hg];unfold q92;split<;>rfl
    ·intro n' r σ' l' B' p' w' a' c2 q1 q2 q3 q4 q5 q6 q7 q8 q9 q10 q11 q12 q13;exact hfin n' r σ' l' B' p' w' a' c2 q1 q2 q3 q4 q5 q6 q7 q8 q9 q10 q11 q12 (q13.trans zof.symm)
    ·refine⟨c',p1,s,[],by rw[hc'],hcF,by rw[hc'],hcs,fun b h=>by rw[hcA] at h;exact h,hb1,by rw[hcA,hcF];exact hb1.anew,?_,⟨[],by rw[hd1];rfl,by simp,fun D hD=>nomatch hD⟩,hz1,rfl,hwb,qe2.refl s,by simp,uN _⟩;refine⟨fun t x hx=>?_,fun j e he=>?_⟩
     ·have hx:=qx hx;simp only[q6l,gnM] at hx;rcases hx with⟨rfl,rfl⟩|⟨rfl,rfl⟩|⟨rfl,rfl⟩|⟨rfl,rfl⟩|⟨rfl,rfl⟩|⟨rfl,rfl⟩|⟨rfl,rfl⟩
      ·exact hf1.t 0 (.ref 0 [] 0 qe) (by kernel_rfl)
      ·exact hf1.t 1 (.bx 1 37 (.ref 0 [] 0 qe)) (by kernel_rfl)
      ·exact hf1.t 2 (.ref 2 [] 0 zl) (by kernel_rfl)
      ·exact hf1.t 3 (.sn (VB+3) (.ref 3 [] 0 zy)) (by kernel_rfl)
      ·exact hf1.t 24 (.v (.tok 5) q36 [(0,385)] []) (by kernel_rfl)
      ·exact hf1.t 25 (.v (.tok 6) (.int .i64) [] []) (by kernel_rfl)
      ·exact hf1.t 26 (.v (.tok 7) (.int .i64) [] []) (by kernel_rfl)
     ·have he:=qx he;simp only[q6l,gnM] at he;rcases he with⟨rfl,rfl⟩|⟨rfl,rfl⟩|⟨rfl,rfl⟩
      ·exact hf1.m 0 ⟨.tok 8,qe,qp 0 qe,[]⟩ (by kernel_rfl)
      ·exact hf1.m 2 ⟨.tok 9,zl,[(0,33)],[]⟩ (by kernel_rfl)
      ·exact hf1.m 3 ⟨.tok 10,zy,[],[]⟩ (by kernel_rfl)
   refine q7z (Q:=Q) (Q':=Q) (fun e a w _ h=>h) [sqL q7u,sqL (sqR q7u)] (fun a w h=>?_) (qcx [sqL q7u,sqL (sqR q7u)] [sqL (sqL z7f)] pre);refine wpIn_seq (wpIn_seq (wpIn_mono h fun e a w hq=>?_));cases e with
   |normal=>exact hq
   |_=>exact hq
  have e:=zeb;rw[←e] at hcl;exact hcl
end
def qcg(s:So)(d:Ce):List At:=if d.t=5 then yz s (cellAt s (d.n+2)) else[]
abbrev zl5(s:So):Bool:=decide (s.cs.length≤4000000000000)
theorem zht(s:So)(d:Ce)(h:s.cs.length≤4000000000000):(qcg s d).length≤4000000000000:=by
 unfold qcg;split
 ·exact uP (qe6 s s.cs.length _ []) h
 ·simp
theorem zhk{s:So}{v:Ce}(hb:zl5 s=true)(h:(jm s v).2=true):z8u [eS s,eC (jm s v).1]=some [.r ((qcg s (jm s v).1).map eA)]:=by
 simp only[z8u,yf,q16,qcg];by_cases h5:(jm s v).1.t=5
 ·have hin:inS s ((jm s v).1.n+2)=true:=by
   unfold jm at h h5⊢;split at h
   ·rename_i hv;rw[if_pos hv] at h5;split at h
    ·rename_i h0;rw[if_pos h0] at h5;have h5:(jk s v).t=5:=h5;omega
    ·rename_i h0;rw[if_neg h0] at h5;split at h
     ·rename_i h1;simp only[if_pos hv,if_neg h0,if_pos h1];simp only[gnB] at h;exact h.2
     ·rename_i h1;rw[if_neg h1] at h5;exact absurd h5 (by decide)
   ·cases h
  rw[if_pos h5,if_pos ⟨hin,of_decide_eq_true hb⟩,if_pos h5]
 ·rw[if_neg h5,if_neg h5];rfl
theorem zn8{l:List At}(h:¬q5x l nm<0):0≤q5x l nm∧q5x l nm<l.length:=by
 unfold q5x at h⊢;split
 ·rename_i i hi;have:=(kC.1 hi).1;omega
 ·rename_i hi;rw[hi] at h;exact absurd (by decide) h
section
section
variable{s:So}(hv:qr s=true)
include hv
theorem zml(c:Ce):vcP s c=vcR s c:=(q4l hv).vc c
theorem tagz(n:Int):0≤q0d s n↔inS s n=true:=by
 have:=(q4l hv).tag_in n;rw[←this];simp
theorem zpt:∀(k:Nat)(c:Ce),z0u s k c=qcc s k c
 |0,c=>rfl
 |k+1,c=>by
  unfold z0u qcc;by_cases h:c.t=0∧inS s c.n=true∧cellAt s c.n≠c
  ·rw[if_pos h,if_pos ⟨h.1,(tagz hv _).2 h.2.1,h.2.2⟩,zpt k]
  ·rw[if_neg h,if_neg (fun q=>h ⟨q.1,(tagz hv _).1 q.2.1,q.2.2⟩)]
theorem derz(c:Ce):jk s c=q00 s c:=by
 unfold jk q00;rw[zml hv];cases h:vcR s c with
 |false=>rfl
 |true=>rw[if_pos rfl,if_pos rfl,zpt hv,z9t hv h]
theorem z1l{c:Ce}(hc:vcR s c=true)(h3:c.t=3):inS s c.n=true∧(cellAt s c.n).t=4∧0≤(cellAt s c.n).n∧(cellAt s c.n).n<s.ys.length∧arS s (cellAt s c.n).n=(qf6 s (cellAt s c.n).n).ar∧∀j:Nat,(j:Int)<(qf6 s (cellAt s c.n).n).ar→inS s (c.n+1+j)=true∧vcR s (cellAt s (c.n+1+j))=true:=by
 unfold vcR at hc;rw[if_neg (by omega),if_neg (by omega),if_neg (by omega),if_pos h3] at hc;have h4:q0d s c.n=4:=of_decide_eq_true hc;have hi:inS s c.n=true:=by
  unfold q0d at h4;split at h4
  ·assumption
  ·omega
 rw[zw hi] at h4;obtain⟨a1,a2,a3⟩:=zhl hv hi h4;obtain⟨b1,b2,b3⟩:=qji (show 0≤arS s (cellAt s c.n).n by omega);exact⟨hi,h4,b1,b2,b3,fun j hj=>a3 j (by rw[b3];exact hj)⟩
end
def zub(s:So)(c:Ce)(nm:ByteArray)(k:Int):Bool:=decide (c.t=3)&&decide (qf6 s (cellAt s c.n).n=⟨nm,k⟩)
def zoc(l:List ByteArray)(nm:ByteArray):Int:=match l.findIdx? fun a=>decide (a=nm) with
 |some i=>i
 |none=> -1
theorem zxg(h:Wf d (.row 9)):∃l:List ByteArray,d=.r (l.map .s)∧l.length≤8796093021952:=by
 obtain⟨l,rfl,h1,h2⟩:=h.row_of (te:=.str) rfl;obtain⟨m,rfl,h3⟩:=qdn (e:=D.s) (P:=fun _=>True) fun x hx=>by
  obtain⟨s,e,-⟩:=(h2 x hx).str;exact⟨s,e,trivial⟩
 have e:LM .str=8796093021952:=by kernel_rfl
 rw[uB,e] at h1;exact⟨m,rfl,h1⟩
theorem zcv{l:List ByteArray}:zoc l nm<0↔nm∉l:=by
 unfold zoc;split
 ·rename_i i hi;obtain⟨h1,h2,-⟩:=kC.1 hi;have h2:l[i]=nm:=by simpa using h2
  constructor
  ·intro h;omega
  ·intro h;exact absurd (h2▸List.getElem_mem h1) h
 ·rename_i hi;rw[List.findIdx?_eq_none_iff] at hi;constructor
  ·intro _ hm;have:=hi nm hm;simp at this
  ·intro _;decide
theorem zrc(l:List At)(nm:ByteArray):zoc (l.map At.name) nm=q5x l nm:=by
 unfold zoc q5x;rw[List.findIdx?_map];rfl
theorem qmv{s:So}(hv:qr s=true)(h:vcR s x=true)(h5:x.t=5):inS s x.n=true∧cellAt s x.n=x∧inS s (x.n+2)=true∧vcR s (cellAt s (x.n+2))=true:=by
 unfold vcR at h;rw[if_neg (by omega),if_neg (by omega),if_neg (by omega),if_neg (by omega),if_pos h5] at h;have ht:q0d s x.n=5:=of_decide_eq_true h;have hi:inS s x.n=true:=by
  unfold q0d at ht;split at ht
  ·assumption
  ·omega
 rw[zw hi] at ht;have hc:=q8o hv hi;unfold q34 at hc;rw[if_neg (by omega)] at hc;simp only[gnB,uQ,uM,decide_eq_false_iff_not,gnD] at hc;obtain⟨hn,hg⟩:(cellAt s x.n).n=x.n∧q2q s x.n=true:=by
  rcases hc.2.2 with q|q
  ·exact(q ht).elim
  ·exact q
 simp only[q2q,gnB,gnD,uM,decide_eq_false_iff_not] at hg;have h2:inS s (x.n+2)=true:=(tagz hv _).1 hg.2.2.2.1;refine⟨hi,Ce.ext' (ht.trans h5.symm) hn,h2,qz4 hv h2 ?_⟩;have:=hg.2.2.2.2.1;rwa [zw h2] at this
theorem z45{s:So}(hv:qr s=true){c:Ce}(hc:vcR s c=true)(nm:ByteArray):qfl s c nm=zub s c nm 2:=by
 rw[Bool.eq_iff_iff,q2b];unfold zub;simp only[gnB,gnD];constructor
 ·rintro⟨h1,-,-,-,-,-,h7⟩;exact⟨h1,h7⟩
 ·rintro⟨h1,h7⟩;obtain⟨a1,a2,a3,a4,a5,a6⟩:=z1l hv hc h1;have:=(a6 1 (by rw[h7];show(1:Int)<2;decide)).1;exact⟨h1,a1,by rw[show c.n+2=c.n+1+(1:Nat) by omega];exact this,a2,a3,a4,h7⟩
theorem varz{s:So}(hv:qr s=true)(v:Ce):jm s v=if vcR s v&&(decide ((q00 s v).t=0)||decide ((q00 s v).t=5)) then(q00 s v,true) else(⟨0,0⟩,false):=by
 unfold jm;rw[zml hv,derz hv];cases hc:vcR s v with
 |false=>rfl
 | true =>
  have hd:=ql1 hv hc;simp only[if_true,Bool.true_and];by_cases h0:(q00 s v).t=0
  ·simp[h0,(qfk hd h0).1]
  ·by_cases h5:(q00 s v).t=5
   ·obtain⟨a1,-,a3,-⟩:=qmv hv hd h5;simp[h0,h5,a1,a3]
   ·simp[h0,h5]
end
section
theorem zrt{s:So}(h:vcR s x=true):x.t=0∨x.t=1∨x.t=2∨x.t=3∨x.t=5:=by
 unfold vcR at h;by_cases h0:x.t=0
 ·exact .inl h0
 by_cases h1:x.t=1
 ·exact .inr (.inl h1)
 by_cases h2:x.t=2
 ·exact .inr (.inr (.inl h2))
 by_cases h3:x.t=3
 ·exact .inr (.inr (.inr (.inl h3)))
 by_cases h5:x.t=5
 ·exact .inr (.inr (.inr (.inr h5)))
 ·rw[if_neg h0,if_neg h1,if_neg h2,if_neg h3,if_neg h5] at h;cases h
section
variable{s:So}(hv:qr s=true)
include hv
theorem zt3{c:Ce}(hx:inS s x.n=true∧cellAt s x.n=x)(h5:x.t=5∨x.t=0)(hc:vcR s c=true)(hc0:c.t≠0)(hne:c≠x):q5d vcP q41 s x.n c=true:=by
 obtain⟨hi,hce⟩:=hx;simp only[q5d,gnB,uM,zml hv];refine⟨hi,hc,?_,?_⟩
 ·unfold q41;rw[hce];rcases h5 with h5|h0
  ·rw[if_neg (by omega),if_pos h5]
  ·rw[if_pos h0];simp
 ·unfold qam q76 jl;by_cases hc5:c.t=5
  ·obtain⟨hi',hce',-,-⟩:=qmv hv hc hc5;have hn:¬c.n=x.n:=fun e=>hne (by rw[←hce',e,hce]);rw[if_pos hc5,if_pos ⟨rfl,hi'⟩]
   show(if c.n=x.n then true else q76 s x.n s.cs.length (cellAt s c.n))=false
   rw[if_neg hn,hce'];cases s.cs.length with
   |zero=>rfl
   |succ k=>
    unfold q76;rw[if_neg (fun q=>by omega)]
  ·rw[if_neg hc5,if_neg (fun q=>hc0 q.1)]
end
end
theorem qag{t:Te}{q:Sv}{a:Int}(hn:z6 t=true)(hs:SV q.2):q.1.cs.length≤(zm q t a).2.1.cs.length:=by
 have:=(q45 t q a hn hs).1;omega
theorem qdr{l:List Te}{q:Sv}{to:Nat}(hn:j7 l=true)(hs:SV q.2):q.1.cs.length≤(ju q l to).1.cs.length:=by
 have:=(qd2 l q to hn hs).1;omega
def grow(s:So)(y:Int)(n:Nat):List Ce:=s.cs++(⟨4,y⟩::kW n ⟨0,0⟩)
theorem qlk(s:So)(y:Int)(n:Nat):(grow s y n).length=s.cs.length+1+n:=by simp[grow];omega
mutual
theorem qyr:∀(t:Te)(q:Sv)(a:Int)(i:Nat),z6 t=true→SV q.2→i<q.1.cs.length→(zm q t a).2.1.cs[i]? =q.1.cs[i]?
 | .mk k n nm l, q, a, i, hn, hs, hi => by
  rw[z6,gnB] at hn;rcases q2i hn.1 with⟨rfl,rfl,h1,h2⟩|⟨rfl,rfl⟩|⟨rfl,rfl,h1⟩|⟨rfl,h1,h2,h3⟩
  ·rw[qgt];split
   ·rfl
   ·split
    ·exact uU hi
    ·rfl
  ·rw[qfp]
  ·rw[qfn];exact congrArg (·[i]?) (qm2 q.1 nm 0).1
  ·rw[qgo];have hg:=qlk q.1 (q0p q.1 nm (l.length:Nat)).1 l.length;refine(qau l ({(q0p q.1 nm (l.length:Nat)).2 with cs:=grow q.1 (q0p q.1 nm (l.length:Nat)).1 l.length},q.2) (q.1.cs.length+1) i hn.2 hs (by show _≤(grow _ _ _).length;omega) (by show i<(grow _ _ _).length;omega) (.inl (by omega))).trans ?_;exact uU hi
theorem qau:∀(l:List Te)(q:Sv)(to i:Nat),j7 l=true→SV q.2→to+l.length≤q.1.cs.length→i<q.1.cs.length→i<to∨to+l.length≤i→(ju q l to).1.cs[i]? =q.1.cs[i]?
 |[],q,to,i,_,_,_,_,_=>by rw[ju]
 |t::l,q,to,i,hn,hs,hto,hi,hh=>by
  rw[j7,gnB] at hn;rw[uO] at hto hh;rw[ju];have hm:=qag (a:=(to:Nat)) hn.1 hs;have h4:=(q45 t q (to:Nat) hn.1 hs).2.2.2;rw[qau l (qdw (zm q t (to:Nat)).2.1 to (zm q t (to:Nat)).1,(zm q t (to:Nat)).2.2) (to+1) i hn.2 h4 (by rw[q8w];omega) (by rw[q8w];omega) (by omega)]
  show((zm q t (to:Nat)).2.1.cs.set to _)[i]? =_
  rw[kA (by omega)];exact qyr t q _ i hn.1 hs hi
end
theorem zk9(ys:List Sy)(y:Sy):∃m,qd8 ys y=ys++m:=by
 unfold qd8;split
 ·exact⟨[],by simp⟩
 ·exact⟨[y],rfl⟩
mutual
theorem qzf:∀(t:Te)(ys:List Sy),∃m,q38 ys t=ys++m
 | .mk k n nm l, ys => by
  rw[q38];obtain⟨m,hm⟩:=qe3 l (if k=2∨k=3 then qd8 ys ⟨nm,(l.length:Nat)⟩ else ys);rw[hm];split
  ·obtain⟨m2,h2⟩:=zk9 ys ⟨nm,(l.length:Nat)⟩;exact⟨m2++m,by rw[h2,kT]⟩
  ·exact⟨m,rfl⟩
theorem qe3:∀(l:List Te)(ys:List Sy),∃m,q15 ys l=ys++m
 |[],ys=>⟨[],by simp[q15]⟩
 |t::l,ys=>by
  rw[q15];obtain⟨m,hm⟩:=qzf t ys;obtain⟨m2,h2⟩:=qe3 l (q38 ys t);exact⟨m++m2,by rw[h2,hm,kT]⟩
end
theorem q7c{v n:Int}{c:Ce}:∀{l:List Vc},ofV l n=none→ofV (qc9 l n c) v=if v=n then some c else ofV l v
 | [], _ => by
  by_cases h:v=n
  ·simp[qc9,ofV,h]
  ·have h':¬n=v:=fun e=>h e.symm;simp[qc9,ofV,h,h']
 | x :: l, hn => by
  rw[ofV] at hn;split at hn
  ·cases hn
  rename_i hx;rw[qc9];split
  ·rw[ofV,ofV,q7c hn];by_cases h:v=n
   ·subst h;simp[hx]
   ·simp[h]
  ·by_cases h:v=n
   ·simp[ofV,h]
   ·have h':¬n=v:=fun e=>h e.symm;rw[ofV,if_neg h',if_neg h]
theorem z6o(n:Int)(c:Ce):∀l,(qc9 l n c).length=l.length+1
 |[]=>rfl
 |x::l=>by
  rw[qc9];split
  ·rw[uO,z6o n c l,uO]
  ·simp
mutual
/-- The cells of variables stay. -/
theorem z0q:∀(t:Te)(q:Sv)(a:Int),z6 t=true→∀v c,ofV q.2 v=some c→ofV (zm q t a).2.2 v=some c
 | .mk k n nm l, q, a, hn, v, c, hv => by
  rw[z6,gnB] at hn;rcases q2i hn.1 with⟨rfl,rfl,h1,h2⟩|⟨rfl,rfl⟩|⟨rfl,rfl,h1⟩|⟨rfl,h1,h2,h3⟩
  ·rw[qgt];cases ho:ofV q.2 n with
   |some c'=>exact hv
   | none =>
    have hne:¬v=n:=fun e=>by rw[e,ho] at hv;cases hv
    by_cases ha:a<0
    ·simp only[if_pos ha];rw[q7c ho,if_neg hne,hv]
    ·simp only[if_neg ha];rw[q7c ho,if_neg hne,hv]
  ·rw[qfp];exact hv
  ·rw[qfn];exact hv
  ·rw[qgo];exact qvx l _ _ hn.2 v c hv
theorem qvx:∀(l:List Te)(q:Sv)(to:Nat),j7 l=true→∀v c,ofV q.2 v=some c→ofV (ju q l to).2 v=some c
 |[],q,to,_,v,c,hv=>by rw[ju];exact hv
 |t::l,q,to,hn,v,c,hv=>by
  rw[j7,gnB] at hn;rw[ju];exact qvx l _ _ hn.2 v c (z0q t q _ hn.1 v c hv)
end
theorem qmd(V:List Int)(k n:Int)(s:ByteArray)(l:List Te):inV V (.mk k n s l)↔(k=0→n∈V)∧qi7 V l:=by rw[inV]
mutual
/-- Which variables have cells then, and how many. -/
theorem qob:∀(t:Te)(q:Sv)(a:Int)(vs:List Int),z6 t=true→(∀v,v∈vs↔(ofV q.2 v).isSome=true)→(∀v,v∈q78 vs t↔(ofV (zm q t a).2.2 v).isSome=true)∧(zm q t a).2.2.length+vs.length=q.2.length+(q78 vs t).length
 | .mk k n nm l, q, a, vs, hn, hv => by
  rw[z6,gnB] at hn;rcases q2i hn.1 with⟨rfl,rfl,h1,h2⟩|⟨rfl,rfl⟩|⟨rfl,rfl,h1⟩|⟨rfl,h1,h2,h3⟩
  ·rw[qgt,qr4];simp only[Te.k,Te.n,Te.l,q3w,true_and];cases ho:ofV q.2 n with
   |some c'=>
    have:n∈vs:=(hv n).2 (by rw[ho];rfl);rw[if_neg (fun h=>h this)];exact⟨hv,rfl⟩
   | none =>
    have hnv:n∉vs:=fun h=>by
     have:=(hv n).1 h;rw[ho] at this;cases this
    rw[if_pos hnv];have key:∀c,(∀v,v∈vs++[n]↔(ofV (qc9 q.2 n c) v).isSome=true)∧(qc9 q.2 n c).length+vs.length=q.2.length+(vs++[n]).length:=fun c=>by
     refine⟨fun v=>?_,by rw[z6o];simp;omega⟩;rw[q7c ho];by_cases h:v=n
     ·simp[h]
     ·simp[h,hv v]
    by_cases ha:a<0
    ·simp only[if_pos ha];exact key _
    ·simp only[if_neg ha];exact key _
  ·rw[qfp,qr4];simp only[Te.k,Te.l,q3w];exact⟨hv,rfl⟩
  ·rw[qfn,qr4];simp only[Te.k,Te.l,q3w];exact⟨hv,rfl⟩
  ·rw[qgo,qr4];simp only[Te.k,Te.l];exact qsk l ({(q0p q.1 nm (l.length:Nat)).2 with cs:=q.1.cs++(⟨4,(q0p q.1 nm (l.length:Nat)).1⟩::kW l.length ⟨0,0⟩)},q.2) _ vs hn.2 hv
theorem qsk:∀(l:List Te)(q:Sv)(to:Nat)(vs:List Int),j7 l=true→(∀v,v∈vs↔(ofV q.2 v).isSome=true)→(∀v,v∈q3w vs l↔(ofV (ju q l to).2 v).isSome=true)∧(ju q l to).2.length+vs.length=q.2.length+(q3w vs l).length
 |[],q,to,vs,_,hv=>by rw[ju,q3w];exact⟨hv,rfl⟩
 |t::l,q,to,vs,hn,hv=>by
  rw[j7,gnB] at hn;rw[ju,q3w];obtain⟨h1,h2⟩:=qob t q (to:Nat) vs hn.1 hv;obtain⟨h3,h4⟩:=qsk l (qdw (zm q t (to:Nat)).2.1 to (zm q t (to:Nat)).1,(zm q t (to:Nat)).2.2) (to+1) (q78 vs t) hn.2 h1;simp only at h4;exact⟨h3,by omega⟩
end
mutual
/-- A cell represents a term; f: what represents a variable. -/
def Rh(S:So)(f:Int→Ce):Te→Ce→Prop
 |.mk k n nm l,c=>(k=0∧c=f n)∨(k=1∧c=⟨1,n⟩)∨(k=2∧c.t=2∧∃y:Nat,c.n=(y:Int)∧S.ys[y]? =some ⟨nm,0⟩)∨
  (k=3∧c.t=3∧∃p y:Nat,c.n=(p:Int)∧S.cs[p]? =some ⟨4,y⟩∧S.ys[y]? =some ⟨nm,(l.length:Nat)⟩∧Rhs S f l (p+1))
def Rhs(S:So)(f:Int→Ce):List Te→Nat→Prop
 |[],_=>True
 |t::l,p=>(∃c,S.cs[p]? =some c∧Rh S f t c)∧Rhs S f l (p+1)
end
variable{S:So}{f:Int→Ce}
theorem ztz{n:Int}{l:List Te}:Rh S f (.mk 1 n nm l) ⟨1,n⟩:=by rw[Rh];exact .inr (.inl ⟨rfl,rfl⟩)
theorem zfp{ar:Int}:∀(k:Nat)(l:List Sy),0≤fnd nm ar k l→∃j:Nat,fnd nm ar k l=((k+j:Nat):Int)∧l[j]? =some ⟨nm,ar⟩
 |k,[],h=>by simp[fnd] at h
 | k, y :: l, h => by
  unfold fnd at h⊢;split
  ·rename_i hy;obtain⟨rfl,rfl⟩:=hy;exact⟨0,rfl,rfl⟩
  ·rename_i hy;rw[if_neg hy] at h;obtain⟨j,e,hj⟩:=zfp (k+1) l h;exact⟨j+1,by rw[e];congr 1;omega,by simpa using hj⟩
theorem zc3(s:So)(nm:ByteArray)(ar:Int):∃y:Nat,(q0p s nm ar).1=(y:Int)∧(q0p s nm ar).2.ys[y]? =some ⟨nm,ar⟩:=by
 unfold q0p;by_cases h:0≤qeo s nm ar
 ·rw[if_pos h];obtain⟨j,e,hj⟩:=zfp 0 s.ys h;exact⟨j,by rw[←kP j];exact e,hj⟩
 ·rw[if_neg h];exact⟨s.ys.length,rfl,by simp⟩
theorem zhr{ys m:List Sy}{i:Nat}{y:Sy}(h:ys[i]? =some y):(ys++m)[i]? =some y:=by
 rw[uU (gnH.1 h).1];exact h
def z3i(S:So)(f:Int→Ce)(P:Te→Prop)(i:Nat):Prop:=
 (∃y k:Nat,∃nm,S.cs[i]? =some ⟨4,y⟩∧S.ys[y]? =some ⟨nm,k⟩∧1≤k∧k≤8∧∀j,1≤j→j≤k→∃t c,P t∧S.cs[i+j]? =some c∧Rh S f t c)∨∃t c,P t∧S.cs[i]? =some c∧Rh S f t c
theorem zjd:∀{l:List Te}{p j:Nat},Rhs S f l p→j<l.length→∃c,S.cs[p+j]? =some c∧Rh S f (l.getD j default) c
 |t::l,p,0,h,_=>by rw[Rhs] at h;exact h.1
 |t::l,p,j+1,h,hj=>by
  rw[Rhs] at h;obtain⟨c,h1,h2⟩:=zjd h.2 (j:=j) (by simpa using hj);exact⟨c,by rw[←h1];congr 1;omega,by simpa using h2⟩
variable{P:Te→Prop}
mutual
theorem qvu(hP:∀k n nm l,P (.mk k n nm l)→∀t∈l,P t):∀(t:Te)(q:Sv)(a:Int),P t→z6 t=true→SV q.2→(∀i,q.1.cs.length≤i→i<(zm q t a).2.1.cs.length→S.cs[i]? =(zm q t a).2.1.cs[i]?)→(∀(i:Nat)y,(zm q t a).2.1.ys[i]? =some y→S.ys[i]? =some y)→(∀v c,ofV (zm q t a).2.2 v=some c→f v=jl c)→
  Rh S f t (zm q t a).1∧∀i,q.1.cs.length≤i→i<(zm q t a).2.1.cs.length→z3i S f P i
 | .mk k n nm l, q, a, hp, hn, hs, hc, hy, hf => by
  rw[z6,gnB] at hn;rcases q2i hn.1 with⟨rfl,rfl,h1,h2⟩|⟨rfl,rfl⟩|⟨rfl,rfl,h1⟩|⟨rfl,h1,h2,h3⟩
  ·rw[qgt] at hc hy hf⊢;cases ho:ofV q.2 n with
   |some c=>
    simp only[ho] at hc hf⊢;refine⟨?_,fun i h1 h2=>by omega⟩;rw[Rh];exact .inl ⟨rfl,(hf n c ho).symm⟩
   | none =>
    by_cases ha:a<0
    ·simp only[ho,if_pos ha] at hc hf⊢;have e:=hf n _ (by rw[q7c ho,if_pos rfl]);have hr:Rh S f (.mk 0 n nm []) ⟨0,(q.1.cs.length:Nat)⟩:=by
      rw[Rh];exact .inl ⟨rfl,by rw[e];rfl⟩
     refine⟨hr,fun i h1 h2=>?_⟩;have:i=q.1.cs.length:=by simp at h2;omega
     subst this;exact .inr ⟨_,_,hp,by rw[hc _ h1 h2];simp,hr⟩
    ·simp only[ho,if_neg ha] at hc hf⊢;have e:=hf n _ (by rw[q7c ho,if_pos rfl]);refine⟨?_,fun i h1 h2=>by omega⟩;rw[Rh];exact .inl ⟨rfl,by rw[e];rfl⟩
  ·rw[qfp];exact⟨ztz,fun i h1 h2=>by simp only at h2;omega⟩
  ·rw[qfn] at hy⊢;obtain⟨y,e,hy'⟩:=zc3 q.1 nm 0;refine⟨?_,fun i h1 h2=>?_⟩
   ·rw[Rh];exact .inr (.inr (.inl ⟨rfl,rfl,y,e,hy _ _ hy'⟩))
   ·have e1:=(qm2 q.1 nm 0).1;simp only[e1] at h2;omega
  ·rw[qgo] at hc hy hf⊢;obtain⟨y,e,hy'⟩:=zc3 q.1 nm (l.length:Nat);have hg:=qlk q.1 (q0p q.1 nm (l.length:Nat)).1 l.length;have hm:q.1.cs.length+1+l.length≤(ju ({(q0p q.1 nm (l.length:Nat)).2 with cs:=grow q.1 (q0p q.1 nm (l.length:Nat)).1 l.length},q.2) l (q.1.cs.length+1)).1.cs.length:=by
    rw[←hg];exact qdr (q:=({(q0p q.1 nm (l.length:Nat)).2 with cs:=grow q.1 (q0p q.1 nm (l.length:Nat)).1 l.length},q.2)) hn.2 hs
   have hk:=qau l ({(q0p q.1 nm (l.length:Nat)).2 with cs:=grow q.1 (q0p q.1 nm (l.length:Nat)).1 l.length},q.2) (q.1.cs.length+1) q.1.cs.length hn.2 hs (by show _≤(grow _ _ _).length;omega) (by show _<(grow _ _ _).length;omega) (.inl (by omega));have hys:=(qd2 l ({(q0p q.1 nm (l.length:Nat)).2 with cs:=grow q.1 (q0p q.1 nm (l.length:Nat)).1 l.length},q.2) (q.1.cs.length+1) hn.2 hs).2.1;have hpl:=hP _ _ _ _ hp;have ih:=qy5 hP l ({(q0p q.1 nm (l.length:Nat)).2 with cs:=grow q.1 (q0p q.1 nm (l.length:Nat)).1 l.length},q.2) (q.1.cs.length+1) hpl hn.2 hs (by show _≤(grow _ _ _).length;omega) (fun i h1 h2=>hc i (by have h1:(grow _ _ _).length≤i:=h1;omega) h2) (fun i h1 h2=>hc i (by omega) (by
    have:q.1.cs.length+1+l.length≤(ju ({(q0p q.1 nm (l.length:Nat)).2 with cs:=grow q.1 (q0p q.1 nm (l.length:Nat)).1 l.length},q.2) l (q.1.cs.length+1)).1.cs.length:=hm;exact uD h2 this)) hy hf
   obtain⟨i1,i2,i3⟩:=ih;obtain⟨m,hpre⟩:=qe3 l (q0p q.1 nm (l.length:Nat)).2.ys;have hhead:S.cs[q.1.cs.length]? =some ⟨4,y⟩:=by
    rw[hc _ (uC _) (by
     have:q.1.cs.length+1+l.length≤(ju ({(q0p q.1 nm (l.length:Nat)).2 with cs:=grow q.1 (q0p q.1 nm (l.length:Nat)).1 l.length},q.2) l (q.1.cs.length+1)).1.cs.length:=hm;exact uD (by omega) this)]
    refine Eq.trans hk ?_
    show(grow _ _ _)[q.1.cs.length]? =_
    rw[grow,List.getElem?_append_right (uC _),Nat.sub_self,e];rfl
   have hsy:S.ys[y]? =some ⟨nm,(l.length:Nat)⟩:=by
    refine hy _ _ ?_;refine Eq.trans (congrArg (·[y]?) hys) ?_
    show(q15 (q0p q.1 nm (l.length:Nat)).2.ys l)[y]? =_
    rw[hpre];exact zhr hy'
   refine⟨?_,fun i h4 h5=>?_⟩
   ·rw[Rh];exact .inr (.inr (.inr ⟨rfl,rfl,q.1.cs.length,y,rfl,hhead,hsy,i1⟩))
   ·rcases uZ i (q.1.cs.length+1) with h6|h6
    ·have:i=q.1.cs.length:=by omega
     subst this;refine .inl ⟨y,l.length,nm,hhead,hsy,h2,h3,fun j g1 g2=>?_⟩;obtain⟨c,g3,g4⟩:=zjd i1 (j:=j - 1) (by omega);exact⟨_,c,hpl _ (q1y (by omega)),by rw[←g3];congr 1;omega,g4⟩
    rcases uZ i (q.1.cs.length+1+l.length) with h7|h7
    ·exact i3 i h6 h7
    ·exact i2 i (by show(grow _ _ _).length≤i;omega) h5
theorem qy5(hP:∀k n nm l,P (.mk k n nm l)→∀t∈l,P t):∀(l:List Te)(q:Sv)(to:Nat),(∀t∈l,P t)→j7 l=true→SV q.2→to+l.length≤q.1.cs.length→(∀i,q.1.cs.length≤i→i<(ju q l to).1.cs.length→S.cs[i]? =(ju q l to).1.cs[i]?)→(∀i,to≤i→i<to+l.length→S.cs[i]? =(ju q l to).1.cs[i]?)→(∀(i:Nat)y,(ju q l to).1.ys[i]? =some y→S.ys[i]? =some y)→(∀v c,ofV (ju q l to).2 v=some c→f v=jl c)→
  Rhs S f l to∧(∀i,q.1.cs.length≤i→i<(ju q l to).1.cs.length→z3i S f P i)∧∀i,to≤i→i<to+l.length→z3i S f P i
 |[],q,to,_,_,_,_,hc,hc2,hy,hf=>by
  rw[ju];refine⟨?_,fun i h1 h2=>by omega,fun i h1 h2=>?_⟩
  ·rw[Rhs];trivial
  ·simp only[List.length_nil] at h2;omega
 | t :: l, q, to, hp, hn, hs, hto, hc, hc2, hy, hf => by
  rw[j7,gnB] at hn;rw[uO] at hto hc2;rw[ju] at hc hc2 hy hf⊢;obtain⟨g1,g2,g3,g4⟩:=q45 t q (to:Nat) hn.1 hs;have hm:=qag (a:=(to:Nat)) hn.1 hs;have hL:=q8w (zm q t (to:Nat)).2.1 to (zm q t (to:Nat)).1;have hkeep:=fun i h1 h2 h3=>qau l (qdw (zm q t (to:Nat)).2.1 to (zm q t (to:Nat)).1,(zm q t (to:Nat)).2.2) (to+1) i hn.2 g4 h1 h2 h3;have hys:=(qd2 l (qdw (zm q t (to:Nat)).2.1 to (zm q t (to:Nat)).1,(zm q t (to:Nat)).2.2) (to+1) hn.2 g4).2.1;have hm2:=qdr (to:=to+1) (q:=(qdw (zm q t (to:Nat)).2.1 to (zm q t (to:Nat)).1,(zm q t (to:Nat)).2.2)) hn.2 g4;have hof:=qvx l (qdw (zm q t (to:Nat)).2.1 to (zm q t (to:Nat)).1,(zm q t (to:Nat)).2.2) (to+1) hn.2;simp only at hm2;rw[hL] at hm2;have hset:∀i,i≠to→(qdw (zm q t (to:Nat)).2.1 to (zm q t (to:Nat)).1).cs[i]? =(zm q t (to:Nat)).2.1.cs[i]? :=fun i h=>kA (fun e=>h e.symm);obtain⟨m,hpre⟩:=qe3 l (zm q t (to:Nat)).2.1.ys;obtain⟨r1,r2⟩:=qvu hP t q (to:Nat) (hp t kR) hn.1 hs (fun i h1 h2=>by
   rw[hc i h1 (uD h2 hm2),hkeep i (by rw[hL];omega) (by rw[hL];omega) (.inr (by omega)),hset i (by omega)]) (fun i y h=>by
   refine hy i y ?_;refine Eq.trans (congrArg (·[i]?) hys) ?_
   show(q15 (zm q t (to:Nat)).2.1.ys l)[i]? =_
   rw[hpre];exact zhr h) (fun v c h=>hf v c (hof v c h))
  have hat:S.cs[to]? =some (zm q t (to:Nat)).1:=by
   rw[hc2 to (uC _) (by omega),hkeep to (by rw[hL];omega) (by rw[hL];omega) (.inl (by omega))]
   show((zm q t (to:Nat)).2.1.cs.set to _)[to]? =_
   rw[kM (by omega)]
  obtain⟨s1,s2,s3⟩:=qy5 hP l (qdw (zm q t (to:Nat)).2.1 to (zm q t (to:Nat)).1,(zm q t (to:Nat)).2.2) (to+1) (fun u hu=>hp u (List.mem_cons_of_mem _ hu)) hn.2 g4 (by rw[hL];omega) (fun i h1 h2=>hc i (by rw[hL] at h1;omega) h2) (fun i h1 h2=>hc2 i (by omega) (by omega)) hy hf;refine⟨?_,fun i h1 h2=>?_,fun i h1 h2=>?_⟩
  ·rw[Rhs];exact⟨⟨_,hat,r1⟩,s1⟩
  ·rcases uZ i (zm q t (to:Nat)).2.1.cs.length with h3|h3
   ·exact r2 i h1 h3
   ·exact s2 i (by rw[hL];exact h3) h2
  ·rw[uO] at h2;rcases uZ to i with h3|h3
   ·exact s3 i h3 (by omega)
   ·have:i=to:=by omega
    subst this;exact .inr ⟨_,_,hp t kR,hat,r1⟩
end
mutual
/-- New variables: their cells hold themselves. -/
theorem z70:∀(t:Te)(q:Sv)(a:Int),z6 t=true→SV q.2→(∀i,q.1.cs.length≤i→i<(zm q t a).2.1.cs.length→S.cs[i]? =(zm q t a).2.1.cs[i]?)→(0≤a→S.cs[a.toNat]? =some (zm q t a).1)→∀v c,ofV (zm q t a).2.2 v=some c→ofV q.2 v=some c∨∃p:Nat,c=⟨0,p⟩∧S.cs[p]? =some c∧(q.1.cs.length≤p∨a=p)
 | .mk k n nm l, q, a, hn, hs, hc, ha, v, c, hv => by
  rw[z6,gnB] at hn;rcases q2i hn.1 with⟨rfl,rfl,h1,h2⟩|⟨rfl,rfl⟩|⟨rfl,rfl,h1⟩|⟨rfl,h1,h2,h3⟩
  ·rw[qgt] at hc ha hv;cases ho:ofV q.2 n with
   |some c'=>simp only[ho] at hv;exact .inl hv
   | none =>
    by_cases h0:a<0
    ·simp only[ho,if_pos h0] at hc hv;rw[q7c ho] at hv;split at hv
     ·cases hv;refine .inr ⟨_,rfl,?_,.inl (uC _)⟩;rw[hc _ (uC _) (by simp)];simp
     ·exact .inl hv
    ·simp only[ho,if_neg h0] at ha hv;rw[q7c ho] at hv;split at hv
     ·cases hv;have e:(a.toNat:Int)=a:=Int.toNat_of_nonneg (by omega);refine .inr ⟨a.toNat,by rw[e],ha (by omega),.inr e.symm⟩
     ·exact .inl hv
  ·rw[qfp] at hv;exact .inl hv
  ·rw[qfn] at hv;exact .inl hv
  ·rw[qgo] at hc hv;have hg:=qlk q.1 (q0p q.1 nm (l.length:Nat)).1 l.length;have hm:q.1.cs.length+1+l.length≤(ju ({(q0p q.1 nm (l.length:Nat)).2 with cs:=grow q.1 (q0p q.1 nm (l.length:Nat)).1 l.length},q.2) l (q.1.cs.length+1)).1.cs.length:=by
    rw[←hg];exact qdr (q:=({(q0p q.1 nm (l.length:Nat)).2 with cs:=grow q.1 (q0p q.1 nm (l.length:Nat)).1 l.length},q.2)) hn.2 hs
   rcases qzd l ({(q0p q.1 nm (l.length:Nat)).2 with cs:=grow q.1 (q0p q.1 nm (l.length:Nat)).1 l.length},q.2) (q.1.cs.length+1) hn.2 hs (by show _≤(grow _ _ _).length;omega) (fun i h1 h2=>hc i (by have h1:(grow _ _ _).length≤i:=h1;omega) h2) (fun i h1 h2=>hc i (by omega) (uD h2 hm)) v c hv with h|⟨p,e1,e2,e3⟩
   ·exact .inl h
   ·refine .inr ⟨p,e1,e2,.inl ?_⟩;rcases e3 with e3|e3
    ·have e3:(grow _ _ _).length≤p:=e3;omega
    ·omega
theorem qzd:∀(l:List Te)(q:Sv)(to:Nat),j7 l=true→SV q.2→to+l.length≤q.1.cs.length→(∀i,q.1.cs.length≤i→i<(ju q l to).1.cs.length→S.cs[i]? =(ju q l to).1.cs[i]?)→(∀i,to≤i→i<to+l.length→S.cs[i]? =(ju q l to).1.cs[i]?)→∀v c,ofV (ju q l to).2 v=some c→ofV q.2 v=some c∨∃p:Nat,c=⟨0,p⟩∧S.cs[p]? =some c∧(q.1.cs.length≤p∨to≤p)
 |[],q,to,_,_,_,_,_,v,c,hv=>by rw[ju] at hv;exact .inl hv
 | t :: l, q, to, hn, hs, hto, hc, hc2, v, c, hv => by
  rw[j7,gnB] at hn;rw[uO] at hto hc2;rw[ju] at hc hc2 hv;obtain⟨g1,g2,g3,g4⟩:=q45 t q (to:Nat) hn.1 hs;have hm:=qag (a:=(to:Nat)) hn.1 hs;have hL:=q8w (zm q t (to:Nat)).2.1 to (zm q t (to:Nat)).1;have hkeep:=fun i h1 h2 h3=>qau l (qdw (zm q t (to:Nat)).2.1 to (zm q t (to:Nat)).1,(zm q t (to:Nat)).2.2) (to+1) i hn.2 g4 h1 h2 h3;have hm2:=qdr (to:=to+1) (q:=(qdw (zm q t (to:Nat)).2.1 to (zm q t (to:Nat)).1,(zm q t (to:Nat)).2.2)) hn.2 g4;simp only at hm2;rw[hL] at hm2;have hset:∀i,i≠to→(qdw (zm q t (to:Nat)).2.1 to (zm q t (to:Nat)).1).cs[i]? =(zm q t (to:Nat)).2.1.cs[i]? :=fun i h=>kA (fun e=>h e.symm);have hat:S.cs[to]? =some (zm q t (to:Nat)).1:=by
   rw[hc2 to (uC _) (by omega),hkeep to (by rw[hL];omega) (by rw[hL];omega) (.inl (by omega))]
   show((zm q t (to:Nat)).2.1.cs.set to _)[to]? =_
   rw[kM (by omega)]
  rcases qzd l (qdw (zm q t (to:Nat)).2.1 to (zm q t (to:Nat)).1,(zm q t (to:Nat)).2.2) (to+1) hn.2 g4 (by rw[hL];omega) (fun i h1 h2=>hc i (by rw[hL] at h1;omega) h2) (fun i h1 h2=>hc2 i (by omega) (by omega)) v c hv with h|⟨p,e1,e2,e3⟩
  ·rcases z70 t q (to:Nat) hn.1 hs (fun i h1 h2=>by
    rw[hc i h1 (uD h2 hm2),hkeep i (by rw[hL];omega) (by rw[hL];omega) (.inr (by omega)),hset i (by omega)]) (fun _=>by simpa using hat) v c h with h|⟨p,e1,e2,e3⟩
   ·exact .inl h
   ·exact .inr ⟨p,e1,e2,by omega⟩
  ·exact .inr ⟨p,e1,e2,by rw[hL] at e3;omega⟩
end
end Go.Proofs.Ytdaadonfbnedaaa
