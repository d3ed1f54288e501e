/-
 Lemmas of the walk and plain laws, put together. No condition.
-/
import Derived.Test.YtbmaffphliignaaKd
namespace Go.Proofs.Ytbmaffphliignaa
open Go.RowKit
set_option linter.unusedVariables false
set_option linter.unusedSimpArgs false
set_option maxRecDepth 100000
open _root_.Option.some renaming injEq→uA
open _root_.Option renaming ite_none_right_eq_some→uB
open _root_.List renaming getD_cons_zero→uC,take_length→uG,cons_append→uH,take_append_drop→uJ,mem_cons→uL,mem_cons_of_mem→uM,mem_cons_self→uO,length_take→uS,length_cons→uT,all_eq_true→uU,length_map→uV,mem_range→uW,map_map→uZ,map_id→kA,range→kB
open _root_.Bool renaming and_assoc→uD,and_eq_false_iff→uK,or_eq_false_iff→uN,not_eq_false'→uP,eq_false_iff→uQ,and_true→uY
open _root_.And renaming intro→uE
open _root_.Nat renaming zero_le→uF,not_lt_zero→uI
open _root_.Go.Proofs.Try renaming f75→uR,prog→uX,f47→kC
abbrev q87:Ty:=.row 24
abbrev q2g:Ty:=.st 23
abbrev z42:Ty:=.st 25
abbrev qf3:Ty:=.row 38
abbrev qut:Ty:=.st 34
abbrev qh7:Ty:=.row 42
abbrev qvo:Ty:=.st 37
abbrev qcq:Ty:=.st 41
abbrev GfZ:=List D→Option (List D)
def EnZ(ct:Ct):Prop:=∀(args:Array Value)(w:World),(callFunc ct.f args).run uX w=.ok (.enter ct.f args) w
def CdZ(T:Tbl)(a:Ann)(ct:Ct)(f:Func)(t:Tree):Prop:=∀cd,f.body=some cd→qb7 uX T a ct f cd=t
def HgZ(t:Tree)(ct:Ct)(T:Tbl)(g:GfZ):Prop:=∀ds outs,WfA ct.ars ds→g ds=some outs→t.go (yx T) (fun o=>o=outs) ds fun _ _=>False
theorem j6{ct:Ct}{g:GfZ}{T:Tbl}{a:Ann}{f:Func}{t:Tree}{cd:Code}(hc:CdZ T a ct f t)(htb:q16 T)(hf:uX.funcs[ct.f]? =some f)(hb:f.body=some cd)(he:EnZ ct)(hd:ct.ar.length≤f.ntmps)(h:HgZ t ct T g)(hnp:qwo T=true:=by rfl)(hkp:ct.kp=[]:=by rfl)(hfl:ct.fl=[]:=by rfl):FOk ct g:=
 z3l a f cd htb hf hb he hd (fun ds outs hw hg=>by rw[hc cd hb];exact h ds outs hw hg) hnp hkp hfl
def yu:Ct:=⟨92,[.val (.st 23),.ref (.int .i64) true,.cell 111 3],[],[(.cell 2,.fn 92 [1,2])],none,[],[]⟩
theorem q7z:EnZ yu:=fun _ _=>by kernel_rfl
def qhn:Ann:=⟨[0,1,2,3,4,15],[(3,⟨[(4,.int .i64,false)],[1],[7,8,9,10,11,12,13,14,15,18,19,20,21,22,23,24,16,17],[]⟩)]⟩
def q4j:Tree:=(.need [(.rng .i64 (.sub (.tok 1) (.lit (.i 1))))] (.loop 3 2 [(.lit (.i 0)),(.sub (.tok 1) (.lit (.i 1)))] (.br (.and (.lt (.tok 2) (.len (.fld (.tok 0) 3))) (.lt (.lit (.i 0)) (.tok 3))) (.need [(.ok 0 [(.get (.fld (.tok 0) 3) (.tok 2)),(.tok 3)]),(.le (.lit (.i 0)) (.tok 2)),(.lt (.tok 2) (.len (.fld (.tok 0) 3)))] (.need [(.rng .i64 (.add (.tok 2) (.lit (.i 1))))] (.back 3 [(.add (.tok 2) (.lit (.i 1))),(.call 0 0 [(.get (.fld (.tok 0) 3) (.tok 2)),(.tok 3)])]))) (.leaf [(.tok 3)]))))
theorem qgg(g0:GfZ):CdZ [(yu,g0)] qhn yu Try.f92 q4j:=fun cd h=>by injection h with h;subst h;kernel_rfl
theorem qhy{g0 g:GfZ}(h0:FOk yu g0)(h:HgZ q4j yu [(yu,g0)] g):FOk yu g:=j6 (qgg g0) (.cons h0 .nil) rfl rfl q7z (by decide) h
def y7:Ct:=⟨66,[.val (.st 23)],[(.int .i64,false)],[],none,[],[]⟩
theorem qig:EnZ y7:=fun _ _=>by kernel_rfl
def qmw:Ann:=⟨[0,1,2,3,4],[]⟩
def q74:Tree:=(.need [(.ok 0 [(.tok 0),(.lit (.i 2001))])] (.need [(.rng .i64 (.sub (.lit (.i 2001)) (.call 0 0 [(.tok 0),(.lit (.i 2001))])))] (.leaf [(.sub (.lit (.i 2001)) (.call 0 0 [(.tok 0),(.lit (.i 2001))]))])))
theorem qlb(g0:GfZ):CdZ [(yu,g0)] qmw y7 Try.f66 q74:=fun cd h=>by injection h with h;subst h;kernel_rfl
theorem qmu{g0 g:GfZ}(h0:FOk yu g0)(h:HgZ q74 y7 [(yu,g0)] g):FOk y7 g:=j6 (qlb g0) (.cons h0 .nil) rfl rfl qig (by decide) h
def yq:Ct:=⟨68,[.val (.st 23)],[(.bool,false)],[],none,[],[]⟩
theorem qa3:EnZ yq:=fun _ _=>by kernel_rfl
def qnf:Ann:=⟨[0,1,2,3,4,6,7,28,39,56,86],[(12,⟨[(3,.bool,false),(4,.int .i64,false)],[],[79,80,81,82,83,84,85,86,89,90,91,92,93,94,87,88],[]⟩)]⟩
def q7f:Tree:=
 let b:X:=.add (.tok 2) (.lit (.i 1))
 let c:X:=.lit (.i 0)
 let j:X:=.tok 0
 let o:X:=.tok 1
 let a:X:=.fld j 3
 let f:X:=.and (.eq (.fld j 1) c) (.le (.slen (.fld j 2)) (.lit (.i 100)))
 let h:X:=.le c (.tok 2)
 let k:X:=.rng .i64 b
 let m:X:=.eq (.fld j 2) (.lit (.s ⟨#[]⟩))
 let p:X:=.fld j 0
 let d:X:=.lt (.tok 2) (.len a)
 let e:X:=.get a (.tok 2)
 let n:X:=.eq (.len a) c
 let g:X:=.and d o
 let i:X:=.call 0 0 [e]
 let l:X:=.ok 0 [e]
 (.br (.eq p c) (.loop 12 1 [(.and (.and (.and (.le c (.fld j 1)) (.le (.fld j 1) (.lit (.i 1099511627776)))) m) n),c] (.br g (.need [h,d,l] (.need [k] (.back 12 [i,b]))) (.leaf [o]))) (.br (.eq p (.lit (.i 1))) (.loop 12 1 [(.and m n),c] (.br g (.need [h,d,l] (.need [k] (.back 12 [i,b]))) (.leaf [o]))) (.br (.eq p (.lit (.i 2))) (.loop 12 1 [(.and f n),c] (.br g (.need [h,d,l] (.need [k] (.back 12 [i,b]))) (.leaf [o]))) (.br (.eq p (.lit (.i 3))) (.loop 12 1 [(.and (.and f (.lt c (.len a))) (.le (.len a) (.lit (.i 8)))),c] (.br g (.need [h,d,l] (.need [k] (.back 12 [i,b]))) (.leaf [o]))) (.loop 12 1 [(.lit (.b .false)),c] (.br g (.need [h,d,l] (.need [k] (.back 12 [i,b]))) (.leaf [o])))))))
theorem ql4(g0:GfZ):CdZ [(yq,g0)] qnf yq Try.f68 q7f:=fun cd h=>by injection h with h;subst h;kernel_rfl
theorem qn4{g0 g:GfZ}(h0:FOk yq g0)(h:HgZ q7f yq [(yq,g0)] g):FOk yq g:=j6 (ql4 g0) (.cons h0 .nil) rfl rfl qa3 (by decide) h
def z4:Ct:=⟨41,[.val (.st 23)],[(.bool,false)],[],none,[],[]⟩
theorem qga:EnZ z4:=fun _ _=>by kernel_rfl
def qkv:Ann:=⟨[0,1,2],[]⟩
def q5z:Tree:=(.need [(.ok 0 [(.tok 0)]),(.imp (.le (.call 0 0 [(.tok 0)]) (.lit (.i 2000))) (.ok 1 [(.tok 0)]))] (.leaf [(.and (.le (.call 0 0 [(.tok 0)]) (.lit (.i 2000))) (.call 1 0 [(.tok 0)]))]))
theorem qhq(g0 g1:GfZ):CdZ [(y7,g0),(yq,g1)] qkv z4 Try.f41 q5z:=fun cd h=>by injection h with h;subst h;kernel_rfl
theorem qm7{g0 g1 g:GfZ}(h0:FOk y7 g0)(h1:FOk yq g1)(h:HgZ q5z z4 [(y7,g0),(yq,g1)] g):FOk z4 g:=j6 (qhq g0 g1) (.cons h0 (.cons h1 .nil)) rfl rfl qga (by decide) h
def yd:Ct:=⟨42,[.val (.st 23)],[(.bool,false)],[],none,[],[]⟩
theorem qbt:EnZ yd:=fun _ _=>by kernel_rfl
def qdm:Ann:=⟨[0,1,2],[]⟩
def q3c:Tree:=(.leaf [(.or (.eq (.fld (.tok 0) 0) (.lit (.i 2))) (.eq (.fld (.tok 0) 0) (.lit (.i 3))))])
theorem qcy:CdZ [] qdm yd Try.f42 q3c:=fun cd h=>by injection h with h;subst h;kernel_rfl
theorem qer{g:GfZ}(h:HgZ q3c yd [] g):FOk yd g:=j6 (qcy) .nil rfl rfl qbt (by decide) h
def q11:Ct:=⟨43,[.val (.st 25)],[(.bool,false)],[],none,[],[]⟩
theorem qi9:EnZ q11:=fun _ _=>by kernel_rfl
def qng:Ann:=⟨[0,1,2],[]⟩
def q7c:Tree:=(.need [(.ok 0 [(.fld (.tok 0) 1)]),(.rng .i64 (.add (.call 0 0 [(.fld (.tok 0) 0)]) (.call 0 0 [(.fld (.tok 0) 1)]))),(.ok 0 [(.fld (.tok 0) 0)])] (.leaf [(.le (.add (.call 0 0 [(.fld (.tok 0) 0)]) (.call 0 0 [(.fld (.tok 0) 1)])) (.lit (.i 2000)))]))
theorem qjq(g0:GfZ):CdZ [(y7,g0)] qng q11 Try.f43 q7c:=fun cd h=>by injection h with h;subst h;kernel_rfl
theorem qn9{g0 g:GfZ}(h0:FOk y7 g0)(h:HgZ q7c q11 [(y7,g0)] g):FOk q11 g:=j6 (qjq g0) (.cons h0 .nil) rfl rfl qi9 (by decide) h
def yv:Ct:=⟨95,[.val (.st 23)],[(.bool,false)],[],none,[],[]⟩
theorem qf5:EnZ yv:=fun _ _=>by kernel_rfl
def qj5:Ann:=⟨[0,1,2],[]⟩
def q4v:Tree:=(.leaf [(.and (.and (.eq (.fld (.tok 0) 0) (.lit (.i 3))) (.eq (.len (.fld (.tok 0) 3)) (.lit (.i 2)))) (.or (.or (.eq (.fld (.tok 0) 2) (.lit (.s ⟨#[44]⟩))) (.eq (.fld (.tok 0) 2) (.lit (.s ⟨#[59]⟩)))) (.eq (.fld (.tok 0) 2) (.lit (.s ⟨#[45,62]⟩)))))])
theorem qg1:CdZ [] qj5 yv Try.f95 q4v:=fun cd h=>by injection h with h;subst h;kernel_rfl
theorem qhx{g:GfZ}(h:HgZ q4v yv [] g):FOk yv g:=j6 (qg1) .nil rfl rfl qf5 (by decide) h
def jr:Ct:=⟨48,[.val (.st 23)],[(.st 23,false)],[],none,[],[]⟩
theorem qcs:EnZ jr:=fun _ _=>by kernel_rfl
def qgf:Ann:=⟨[0,1,2],[]⟩
def q3y:Tree:=(.leaf [(.tok 0)])
theorem qdo:CdZ [] qgf jr Try.f48 q3y:=fun cd h=>by injection h with h;subst h;kernel_rfl
theorem qff{g:GfZ}(h:HgZ q3y jr [] g):FOk jr g:=j6 (qdo) .nil rfl rfl qcs (by decide) h
def jc:Ct:=⟨47,[.val (.st 23),.fn 48 []],[(.st 23,false)],[],none,[],[]⟩
theorem q8u:EnZ jc:=fun _ _=>by kernel_rfl
def qjs:Ann:=⟨[0,1,2,4,5,7,10,22,23,24,25],[(5,⟨[(24,.int .i64,false)],[5],[25,26,27,7,28,29,30,31,32,33,34,35,36],[]⟩)]⟩
def q5v:Tree:=(.br (.eq (.fld (.tok 0) 0) (.lit (.i 0))) (.need [(.ok 0 [(.tok 0)])] (.leaf [(.call 0 0 [(.tok 0)])])) (.loop 5 1 [(.lit (.i 0)),(.set (.set (.set (.lit (.a [(.i 0),(.i 0),(.s ⟨#[]⟩),(.r [])])) 0 (.fld (.tok 0) 0)) 1 (.fld (.tok 0) 1)) 2 (.fld (.tok 0) 2))] (.br (.lt (.tok 1) (.len (.fld (.tok 0) 3))) (.need [(.le (.lit (.i 0)) (.tok 1)),(.lt (.tok 1) (.len (.fld (.tok 0) 3)))] (.need [(.le (.add (.len (.fld (.tok 2) 3)) (.lit (.i 1))) (.lit (.i 2513169434843))),(.ok 1 [(.get (.fld (.tok 0) 3) (.tok 1))])] (.need [(.rng .i64 (.add (.tok 1) (.lit (.i 1))))] (.back 5 [(.add (.tok 1) (.lit (.i 1))),(.set (.tok 2) 3 (.app (.fld (.tok 2) 3) (.row [(.call 1 0 [(.get (.fld (.tok 0) 3) (.tok 1))])])))])))) (.leaf [(.tok 2)]))))
theorem qi4(g0 g1:GfZ):CdZ [(jr,g0),(jc,g1)] qjs jc kC q5v:=fun cd h=>by injection h with h;subst h;kernel_rfl
theorem qlm{g0 g1 g:GfZ}(h0:FOk jr g0)(h1:FOk jc g1)(h:HgZ q5v jc [(jr,g0),(jc,g1)] g):FOk jc g:=j6 (qi4 g0 g1) (.cons h0 (.cons h1 .nil)) rfl rfl q8u (by decide) h
def y8:Ct:=⟨19,[.val (.st 23)],[(.st 23,false)],[],none,[],[]⟩
theorem qgs:EnZ y8:=fun _ _=>by kernel_rfl
def qls:Ann:=⟨[0,1,2,5],[]⟩
def q5o:Tree:=(.need [(.ok 0 [(.tok 0)])] (.br (.not (.call 0 0 [(.tok 0)])) (.leaf [(.lit (.a [(.i 0),(.i 0),(.s ⟨#[]⟩),(.r [])]))]) (.need [(.ok 1 [(.tok 0)])] (.leaf [(.call 1 0 [(.tok 0)])]))))
theorem qit(g0 g1:GfZ):CdZ [(z4,g0),(jc,g1)] qls y8 Try.f19 q5o:=fun cd h=>by injection h with h;subst h;kernel_rfl
theorem qkp{g0 g1 g:GfZ}(h0:FOk z4 g0)(h1:FOk jc g1)(h:HgZ q5o y8 [(z4,g0),(jc,g1)] g):FOk y8 g:=j6 (qit g0 g1) (.cons h0 (.cons h1 .nil)) rfl rfl qgs (by decide) h
def jl:Ct:=⟨94,[.val (.st 23)],[(.st 23,false)],[],some 113,[],[]⟩
theorem q4h:EnZ jl:=fun _ _=>by kernel_rfl
def q6y:Ann:=⟨[0,1,2,3,10,27],[]⟩
def q5x:Tree:=(.br (.eq (.fld (.tok 0) 0) (.lit (.i 0))) (.leaf [(.set (.set (.set (.lit (.a [(.i 0),(.i 0),(.s ⟨#[]⟩),(.r [])])) 0 (.lit (.i 3))) 2 (.lit (.s ⟨#[99,97,108,108]⟩))) 3 (.row [(.tok 0)]))]) (.need [(.ok 0 [(.tok 0)])] (.br (.call 0 0 [(.tok 0)]) (.need [(.ok 1 [(.get (.fld (.tok 0) 3) (.lit (.i 1)))]),(.ok 1 [(.get (.fld (.tok 0) 3) (.lit (.i 0)))]),(.lit (.b .true)),(.lt (.lit (.i 1)) (.len (.fld (.tok 0) 3))),(.lit (.b .true)),(.lt (.lit (.i 0)) (.len (.fld (.tok 0) 3)))] (.leaf [(.set (.set (.set (.lit (.a [(.i 0),(.i 0),(.s ⟨#[]⟩),(.r [])])) 0 (.lit (.i 3))) 2 (.fld (.tok 0) 2)) 3 (.row [(.call 1 0 [(.get (.fld (.tok 0) 3) (.lit (.i 0)))]),(.call 1 0 [(.get (.fld (.tok 0) 3) (.lit (.i 1)))])]))])) (.need [(.ok 2 [(.tok 0)])] (.br (.call 2 0 [(.tok 0)]) (.need [(.ok 3 [(.tok 0)])] (.leaf [(.call 3 0 [(.tok 0)])])) (.leaf [(.lit .u)]))))))
theorem qa0(g0 g1 g2 g3:GfZ):CdZ [(yv,g0),(jl,g1),(yd,g2),(y8,g3)] q6y jl Try.f94 q5x:=fun cd h=>by injection h with h;subst h;kernel_rfl
def yo:Ct:=⟨44,[.val (.st 23)],[(.st 23,false),(.bool,false)],[],none,[],[]⟩
theorem qin:EnZ yo:=fun _ _=>by kernel_rfl
def q0w:Ct:=⟨69,[.val (.st 23)],[(.st 23,false),(.bool,false)],[],none,[],[]⟩
theorem qdd:EnZ q0w:=fun _ _=>by kernel_rfl
def qn0:Ann:=⟨[0,1,2,3,6,19],[]⟩
def q6p:Tree:=(.need [(.ok 0 [(.tok 0)])] (.br (.not (.call 0 0 [(.tok 0)])) (.leaf [(.lit (.a [(.i 0),(.i 0),(.s ⟨#[]⟩),(.r [])])),(.lit (.b .false))]) (.need [(.ok 1 [(.tok 0)])] (.need [(.imp (.not (.not (.call 1 1 [(.tok 0)]))) (.ok 2 [(.call 1 0 [(.tok 0)])]))] (.br (.or (.not (.call 1 1 [(.tok 0)])) (.lt (.lit (.i 2000)) (.call 2 0 [(.call 1 0 [(.tok 0)])]))) (.leaf [(.lit (.a [(.i 0),(.i 0),(.s ⟨#[]⟩),(.r [])])),(.lit (.b .false))]) (.leaf [(.call 1 0 [(.tok 0)]),(.lit (.b .true))]))))))
theorem qki(g0 g1 g2:GfZ):CdZ [(z4,g0),(q0w,g1),(y7,g2)] qn0 yo Try.f44 q6p:=fun cd h=>by injection h with h;subst h;kernel_rfl
theorem qnr{g0 g1 g2 g:GfZ}(h0:FOk z4 g0)(h1:FOk q0w g1)(h2:FOk y7 g2)(h:HgZ q6p yo [(z4,g0),(q0w,g1),(y7,g2)] g):FOk yo g:=j6 (qki g0 g1 g2) (.cons h0 (.cons h1 (.cons h2 .nil))) rfl rfl qin (by decide) h
def y6:Ct:=⟨67,[.val (.st 23),.val (.st 23)],[(.bool,false)],[],none,[],[]⟩
theorem q5g:EnZ y6:=fun _ _=>by kernel_rfl
def qco:Ann:=⟨[0,1,2,3,4,5,6,34,36,37,38,39,50],[(4,⟨[(4,.bool,false),(38,.int .i64,false)],[],[39,40,41,42,6,5,43,44,45,46,47,48,49,50,51],[]⟩)]⟩
def q2u:Tree:=(.br (.or (.or (.or (.not (.eq (.fld (.tok 0) 0) (.fld (.tok 1) 0))) (.not (.eq (.fld (.tok 0) 1) (.fld (.tok 1) 1)))) (.not (.eq (.fld (.tok 0) 2) (.fld (.tok 1) 2)))) (.not (.eq (.len (.fld (.tok 0) 3)) (.len (.fld (.tok 1) 3))))) (.leaf [(.lit (.b .false))]) (.loop 4 2 [(.lit (.b .false)),(.lit (.i 0))] (.br (.lt (.tok 3) (.len (.fld (.tok 0) 3))) (.need [(.le (.lit (.i 0)) (.tok 3)),(.lt (.tok 3) (.len (.fld (.tok 0) 3)))] (.need [(.ok 0 [(.get (.fld (.tok 0) 3) (.tok 3)),(.get (.fld (.tok 1) 3) (.tok 3))]),(.le (.lit (.i 0)) (.tok 3)),(.lt (.tok 3) (.len (.fld (.tok 1) 3)))] (.br (.not (.call 0 0 [(.get (.fld (.tok 0) 3) (.tok 3)),(.get (.fld (.tok 1) 3) (.tok 3))])) (.leaf [(.lit (.b .false))]) (.need [(.rng .i64 (.add (.tok 3) (.lit (.i 1))))] (.back 4 [(.tok 2),(.add (.tok 3) (.lit (.i 1)))]))))) (.leaf [(.lit (.b .true))]))))
theorem qbr(g0:GfZ):CdZ [(y6,g0)] qco y6 Try.f67 q2u:=fun cd h=>by injection h with h;subst h;kernel_rfl
theorem qcw{g0 g:GfZ}(h0:FOk y6 g0)(h:HgZ q2u y6 [(y6,g0)] g):FOk y6 g:=j6 (qbr g0) (.cons h0 .nil) rfl rfl q5g (by decide) h
def jo:Ct:=⟨37,[.val (.st 23),.val (.st 23)],[(.bool,false)],[],none,[],[]⟩
theorem qj6:EnZ jo:=fun _ _=>by kernel_rfl
def qnt:Ann:=⟨[0,1,2,3,4],[]⟩
def q71:Tree:=(.need [(.ok 0 [(.tok 0)]),(.imp (.call 0 0 [(.tok 0)]) (.ok 0 [(.tok 1)])),(.imp (.and (.call 0 0 [(.tok 0)]) (.call 0 0 [(.tok 1)])) (.ok 1 [(.tok 0),(.tok 1)]))] (.leaf [(.and (.and (.call 0 0 [(.tok 0)]) (.call 0 0 [(.tok 1)])) (.call 1 0 [(.tok 0),(.tok 1)]))]))
theorem ql3(g0 g1:GfZ):CdZ [(z4,g0),(y6,g1)] qnt jo Try.f37 q71:=fun cd h=>by injection h with h;subst h;kernel_rfl
theorem qnm{g0 g1 g:GfZ}(h0:FOk z4 g0)(h1:FOk y6 g1)(h:HgZ q71 jo [(z4,g0),(y6,g1)] g):FOk jo g:=j6 (ql3 g0 g1) (.cons h0 (.cons h1 .nil)) rfl rfl qj6 (by decide) h
def y5:Ct:=⟨70,[.val (.st 23),.mref (.map 2 2)],[(.st 23,false)],[],none,[],[]⟩
theorem q84:EnZ y5:=fun _ _=>by kernel_rfl
def qiv:Ann:=⟨[0,1,2,4,5,6,7,9,19,28,38,39,40,41],[(9,⟨[(40,.int .i64,false),(1,.map 2 2,false)],[5],[41,42,43,9,44,45,46,47,48,49,50,51,52,21,29,31],[]⟩)]⟩
def q1l:Tree:=
 let b:X:=.get (.fld (.tok 0) 3) (.tok 2)
 let c:X:=.lt (.tok 2) (.len (.fld (.tok 0) 3))
 let d:X:=.le (.add (.len (.fld (.tok 4) 3)) (.lit (.i 1))) (.lit (.i 2513169434843))
 let f:X:=.add (.tok 2) (.lit (.i 1))
 let g:X:=.lit (.i 0)
 let h:X:=.tok 3
 let i:X:=.tok 1
 let k:X:=.fld (.tok 0) 1
 let a:X:=.set (.set (.set (.lit (.a [(.i 0),(.i 0),(.s ⟨#[]⟩),(.r [])])) 0 (.fld (.tok 0) 0)) 1 k) 2 (.fld (.tok 0) 2)
 let e:X:=.set (.tok 4) 3 (.app (.fld (.tok 4) 3) (.row [(.call 0 0 [b,h])]))
 let j:X:=.call 0 1 [b,h]
 let l:X:=.le g (.tok 2)
 let m:X:=.ok 0 [b,h]
 let n:X:=.rng .i64 f
 (.br (.eq (.fld (.tok 0) 0) g) (.br (.not (.fn 1 [i,k])) (.need [(.rng .i64 (.fn 3 [i]))] (.loop 9 2 [g,(.fn 2 [i,k,(.fn 3 [i])]),(.set a 1 (.fn 3 [i]))] (.br c (.need [l,c] (.need [d,m] (.need [n] (.back 9 [f,j,e])))) (.leaf [(.tok 4),h])))) (.loop 9 2 [g,i,(.set a 1 (.fn 0 [i,k,g]))] (.br c (.need [l,c] (.need [d,m] (.need [n] (.back 9 [f,j,e])))) (.leaf [(.tok 4),h])))) (.loop 9 2 [g,i,a] (.br c (.need [l,c] (.need [d,m] (.need [n] (.back 9 [f,j,e])))) (.leaf [(.tok 4),h]))))
theorem qg0(g0:GfZ):CdZ [(y5,g0)] qiv y5 Try.f70 q1l:=fun cd h=>by injection h with h;subst h;kernel_rfl
theorem qht{g0 g:GfZ}(h0:FOk y5 g0)(h:HgZ q1l y5 [(y5,g0)] g):FOk y5 g:=j6 (qg0 g0) (.cons h0 .nil) rfl rfl q84 (by decide) h
def j7:Ct:=⟨45,[.val (.st 25)],[(.st 25,true),(.int .i64,false)],[],none,[],[]⟩
theorem qaz:EnZ j7:=fun _ _=>by kernel_rfl
def qcp:Ann:=⟨[0,1,2,3,4],[]⟩
def q2v:Tree:=(.need [(.ok 0 [(.fld (.tok 0) 0),(.lit (.mp []))])] (.need [(.ok 0 [(.fld (.tok 0) 1),(.call 0 1 [(.fld (.tok 0) 0),(.lit (.mp []))])])] (.need [(.rng .i64 (.fn 3 [(.call 0 1 [(.fld (.tok 0) 1),(.call 0 1 [(.fld (.tok 0) 0),(.lit (.mp []))])])]))] (.leaf [(.set (.set (.lit (.a [(.a [(.i 0),(.i 0),(.s ⟨#[]⟩),(.r [])]),(.a [(.i 0),(.i 0),(.s ⟨#[]⟩),(.r [])])])) 0 (.call 0 0 [(.fld (.tok 0) 0),(.lit (.mp []))])) 1 (.call 0 0 [(.fld (.tok 0) 1),(.call 0 1 [(.fld (.tok 0) 0),(.lit (.mp []))])])),(.fn 3 [(.call 0 1 [(.fld (.tok 0) 1),(.call 0 1 [(.fld (.tok 0) 0),(.lit (.mp []))])])])]))))
theorem qbq(g0:GfZ):CdZ [(y5,g0)] qcp j7 Try.f45 q2v:=fun cd h=>by injection h with h;subst h;kernel_rfl
theorem qd1{g0 g:GfZ}(h0:FOk y5 g0)(h:HgZ q2v j7 [(y5,g0)] g):FOk j7 g:=j6 (qbq g0) (.cons h0 .nil) rfl rfl qaz (by decide) h
def q0j:Ct:=⟨17,[.val (.st 25)],[(.bool,false)],[],none,[],[]⟩
theorem qgj:EnZ q0j:=fun _ _=>by kernel_rfl
def qkh:Ann:=⟨[0,1,2,3,4,5,20,35],[]⟩
def j2:Tree:=
 let a:X:=.tok 0
 let c:X:=.fld a 1
 let e:X:=.call 5 0 [a]
 let f:X:=.fld a 0
 let b:X:=.and (.le (.call 5 1 [a]) (.lit (.i 64))) (.call 4 0 [(.fld e 0),f])
 let d:X:=.or (.not (.call 0 0 [f])) (.not (.call 1 0 [f]))
 (.need [(.ok 0 [f]),(.imp (.not (.not (.call 0 0 [f]))) (.ok 1 [f])),(.imp (.not d) (.ok 2 [a]))] (.br (.or d (.not (.call 2 0 [a]))) (.leaf [(.lit (.b .false))]) (.need [(.ok 3 [c])] (.need [(.imp (.not (.not (.call 3 1 [c]))) (.ok 4 [(.call 3 0 [c]),c]))] (.br (.or (.not (.call 3 1 [c])) (.not (.call 4 0 [(.call 3 0 [c]),c]))) (.leaf [(.lit (.b .false))]) (.need [(.ok 5 [a])] (.need [(.imp (.le (.call 5 1 [a]) (.lit (.i 64))) (.ok 4 [(.fld e 0),f])),(.imp b (.ok 4 [(.fld e 1),c]))] (.leaf [(.and b (.call 4 0 [(.fld e 1),c]))]))))))))
theorem qj1(g0 g1 g2 g3 g4 g5:GfZ):CdZ [(z4,g0),(yd,g1),(q11,g2),(yo,g3),(jo,g4),(j7,g5)] qkh q0j Try.f17 j2:=fun cd h=>by injection h with h;subst h;kernel_rfl
theorem ql5{g0 g1 g2 g3 g4 g5 g:GfZ}(h0:FOk z4 g0)(h1:FOk yd g1)(h2:FOk q11 g2)(h3:FOk yo g3)(h4:FOk jo g4)(h5:FOk j7 g5)(h:HgZ j2 q0j [(z4,g0),(yd,g1),(q11,g2),(yo,g3),(jo,g4),(j7,g5)] g):FOk q0j g:=j6 (qj1 g0 g1 g2 g3 g4 g5) (.cons h0 (.cons h1 (.cons h2 (.cons h3 (.cons h4 (.cons h5 .nil)))))) rfl rfl qgj (by decide) h
def yy:Ct:=⟨71,[.val (.st 23),.ref (.map 2 3) true,.ref (.row 2) true],[(.st 23,false)],[],none,[],[]⟩
theorem qeo:EnZ yy:=fun _ _=>by kernel_rfl
def qiw:Ann:=⟨[0,1,2,3,4,9],[]⟩
def q4o:Tree:=(.br (.eq (.fn 0 [(.tok 1),(.fld (.tok 0) 1),(.lit (.i 0))]) (.lit (.i 0))) (.need [(.le (.add (.len (.tok 2)) (.lit (.i 1))) (.lit (.i 17592186043904)))] (.leaf [(.tok 0),(.fn 2 [(.tok 1),(.fld (.tok 0) 1),(.lit (.i 1))]),(.app (.tok 2) (.row [(.fld (.tok 0) 1)]))])) (.leaf [(.tok 0),(.tok 1),(.tok 2)]))
theorem qfx:CdZ [] qiw yy Try.f71 q4o:=fun cd h=>by injection h with h;subst h;kernel_rfl
theorem qhp{g:GfZ}(h:HgZ q4o yy [] g):FOk yy g:=j6 (qfx) .nil rfl rfl qeo (by decide) h
def yk:Ct:=⟨47,[.val (.st 23),.fn 71 [2,3]],[(.st 23,false)],[(.cap 1 0,.ref (.map 2 3) true),(.cap 1 1,.ref (.row 2) true)],none,[],[]⟩
theorem q75:EnZ yk:=fun _ _=>by kernel_rfl
def qgq:Ann:=⟨[0,1,2,4,5,7,10,22,23,24,25],[(5,⟨[(24,.int .i64,false)],[5,100000,100001],[25,26,27,7,28,29,30,31,32,33,34,35,36],[]⟩)]⟩
def q40:Tree:=(.br (.eq (.fld (.tok 0) 0) (.lit (.i 0))) (.need [(.ok 0 [(.tok 0),(.tok 1),(.tok 2)])] (.leaf [(.call 0 0 [(.tok 0),(.tok 1),(.tok 2)]),(.call 0 1 [(.tok 0),(.tok 1),(.tok 2)]),(.call 0 2 [(.tok 0),(.tok 1),(.tok 2)])])) (.loop 5 3 [(.lit (.i 0)),(.set (.set (.set (.lit (.a [(.i 0),(.i 0),(.s ⟨#[]⟩),(.r [])])) 0 (.fld (.tok 0) 0)) 1 (.fld (.tok 0) 1)) 2 (.fld (.tok 0) 2)),(.tok 1),(.tok 2)] (.br (.lt (.tok 3) (.len (.fld (.tok 0) 3))) (.need [(.le (.lit (.i 0)) (.tok 3)),(.lt (.tok 3) (.len (.fld (.tok 0) 3)))] (.need [(.le (.add (.len (.fld (.tok 4) 3)) (.lit (.i 1))) (.lit (.i 2513169434843))),(.ok 1 [(.get (.fld (.tok 0) 3) (.tok 3)),(.tok 5),(.tok 6)])] (.need [(.rng .i64 (.add (.tok 3) (.lit (.i 1))))] (.back 5 [(.add (.tok 3) (.lit (.i 1))),(.set (.tok 4) 3 (.app (.fld (.tok 4) 3) (.row [(.call 1 0 [(.get (.fld (.tok 0) 3) (.tok 3)),(.tok 5),(.tok 6)])]))),(.call 1 1 [(.get (.fld (.tok 0) 3) (.tok 3)),(.tok 5),(.tok 6)]),(.call 1 2 [(.get (.fld (.tok 0) 3) (.tok 3)),(.tok 5),(.tok 6)])])))) (.leaf [(.tok 4),(.tok 5),(.tok 6)]))))
theorem qed(g0 g1:GfZ):CdZ [(yy,g0),(yk,g1)] qgq yk kC q40:=fun cd h=>by injection h with h;subst h;kernel_rfl
theorem qfc{g0 g1 g:GfZ}(h0:FOk yy g0)(h1:FOk yk g1)(h:HgZ q40 yk [(yy,g0),(yk,g1)] g):FOk yk g:=j6 (qed g0 g1) (.cons h0 (.cons h1 .nil)) rfl rfl q75 (by decide) h
def jm:Ct:=⟨46,[.val (.st 23)],[(.row 2,true)],[],none,[],[]⟩
theorem qih:EnZ jm:=fun _ _=>by kernel_rfl
def qni:Ann:=⟨[0,1,2,3,4,7],[]⟩
def q44:Tree:=(.need [(.ok 1 [(.tok 0)])] (.br (.not (.call 1 0 [(.tok 0)])) (.leaf [(.lit (.r []))]) (.need [(.ok 2 [(.tok 0),(.lit (.mp [])),(.lit (.r []))])] (.leaf [(.call 2 2 [(.tok 0),(.lit (.mp [])),(.lit (.r []))])]))))
theorem qmj(g0 g1 g2:GfZ):CdZ [(yy,g0),(z4,g1),(yk,g2)] qni jm Try.f46 q44:=fun cd h=>by injection h with h;subst h;kernel_rfl
theorem qnn{g0 g1 g2 g:GfZ}(h0:FOk yy g0)(h1:FOk z4 g1)(h2:FOk yk g2)(h:HgZ q44 jm [(yy,g0),(z4,g1),(yk,g2)] g):FOk jm g:=j6 (qmj g0 g1 g2) (.cons h0 (.cons h1 (.cons h2 .nil))) rfl rfl qih (by decide) h
def ja:Ct:=⟨18,[.val (.row 24)],[(.int .i64,false)],[],none,[],[]⟩
theorem qgx:EnZ ja:=fun _ _=>by kernel_rfl
def qlw:Ann:=⟨[0,2,3,5,7,8,9,10,11,15,16,17,18],[(3,⟨[(3,.int .i64,false),(10,.int .i64,false)],[],[11,12,13,5,14,15,16,17,18,19,20,7,21,22,23,24,25,26],[]⟩),
 (6,⟨[(3,.int .i64,false),(17,.int .i64,false)],[],[18,19,20,7,21,22,23,24,25],[]⟩)]⟩
def q5s:Tree:=(.loop 3 1 [(.lit (.i 0)),(.lit (.i 0))] (.br (.lt (.tok 2) (.len (.tok 0))) (.need [(.le (.lit (.i 0)) (.tok 2)),(.lt (.tok 2) (.len (.tok 0)))] (.need [(.ok 0 [(.get (.tok 0) (.tok 2))])] (.loop 6 3 [(.tok 1),(.lit (.i 0))] (.br (.lt (.tok 4) (.len (.call 0 0 [(.get (.tok 0) (.tok 2))]))) (.need [(.le (.lit (.i 0)) (.tok 4)),(.lt (.tok 4) (.len (.call 0 0 [(.get (.tok 0) (.tok 2))])))] (.need [(.rng .i64 (.add (.get (.call 0 0 [(.get (.tok 0) (.tok 2))]) (.tok 4)) (.lit (.i 1))))] (.need [(.rng .i64 (.add (.tok 4) (.lit (.i 1))))] (.back 6 [(.ite (.lt (.tok 3) (.add (.get (.call 0 0 [(.get (.tok 0) (.tok 2))]) (.tok 4)) (.lit (.i 1)))) (.add (.get (.call 0 0 [(.get (.tok 0) (.tok 2))]) (.tok 4)) (.lit (.i 1))) (.tok 3)),(.add (.tok 4) (.lit (.i 1)))])))) (.need [(.rng .i64 (.add (.tok 2) (.lit (.i 1))))] (.back 3 [(.tok 3),(.add (.tok 2) (.lit (.i 1)))])))))) (.leaf [(.tok 1)])))
theorem qhr(g0:GfZ):CdZ [(jm,g0)] qlw ja Try.f18 q5s:=fun cd h=>by injection h with h;subst h;kernel_rfl
theorem qke{g0 g:GfZ}(h0:FOk jm g0)(h:HgZ q5s ja [(jm,g0)] g):FOk ja g:=j6 (qhr g0) (.cons h0 .nil) rfl rfl qgx (by decide) h
def jn:Ct:=⟨72,[.val (.st 23)],[(.bool,false)],[],none,[],[]⟩
theorem q9y:EnZ jn:=fun _ _=>by kernel_rfl
def qny:Ann:=⟨[0,1,2,3,10,14],[]⟩
def q7b:Tree:=(.br (.eq (.fld (.tok 0) 0) (.lit (.i 2))) (.leaf [(.eq (.fld (.tok 0) 2) (.lit (.s ⟨#[33]⟩)))]) (.need [(.ok 0 [(.tok 0)])] (.br (.not (.call 0 0 [(.tok 0)])) (.leaf [(.lit (.b .false))]) (.br (.eq (.fld (.tok 0) 2) (.lit (.s ⟨#[45,62]⟩))) (.need [(.lit (.b .true)),(.lt (.lit (.i 1)) (.len (.fld (.tok 0) 3))),(.ok 1 [(.get (.fld (.tok 0) 3) (.lit (.i 1)))])] (.leaf [(.call 1 0 [(.get (.fld (.tok 0) 3) (.lit (.i 1)))])])) (.need [(.lit (.b .true)),(.lt (.lit (.i 0)) (.len (.fld (.tok 0) 3))),(.ok 1 [(.get (.fld (.tok 0) 3) (.lit (.i 0)))]),(.imp (.not (.call 1 0 [(.get (.fld (.tok 0) 3) (.lit (.i 0)))])) (.lit (.b .true))),(.imp (.not (.call 1 0 [(.get (.fld (.tok 0) 3) (.lit (.i 0)))])) (.lt (.lit (.i 1)) (.len (.fld (.tok 0) 3)))),(.imp (.not (.call 1 0 [(.get (.fld (.tok 0) 3) (.lit (.i 0)))])) (.ok 1 [(.get (.fld (.tok 0) 3) (.lit (.i 1)))]))] (.leaf [(.or (.call 1 0 [(.get (.fld (.tok 0) 3) (.lit (.i 0)))]) (.call 1 0 [(.get (.fld (.tok 0) 3) (.lit (.i 1)))]))]))))))
theorem qlt(g0 g1:GfZ):CdZ [(yv,g0),(jn,g1)] qny jn Try.f72 q7b:=fun cd h=>by injection h with h;subst h;kernel_rfl
theorem qmy{g0 g1 g:GfZ}(h0:FOk yv g0)(h1:FOk jn g1)(h:HgZ q7b jn [(yv,g0),(jn,g1)] g):FOk jn g:=j6 (qlt g0 g1) (.cons h0 (.cons h1 .nil)) rfl rfl q9y (by decide) h
def zq:Ct:=⟨49,[.val (.st 23)],[(.bool,false)],[],none,[],[]⟩
theorem qi0:EnZ zq:=fun _ _=>by kernel_rfl
def qo1:Ann:=⟨[0,1,2],[]⟩
def q6i:Tree:=(.need [(.ok 0 [(.tok 0)]),(.imp (.call 0 0 [(.tok 0)]) (.ok 1 [(.tok 0)]))] (.leaf [(.and (.call 0 0 [(.tok 0)]) (.call 1 0 [(.tok 0)]))]))
theorem qjx(g0 g1:GfZ):CdZ [(z4,g0),(jn,g1)] qo1 zq Try.f49 q6i:=fun cd h=>by injection h with h;subst h;kernel_rfl
theorem qmx{g0 g1 g:GfZ}(h0:FOk z4 g0)(h1:FOk jn g1)(h:HgZ q6i zq [(z4,g0),(jn,g1)] g):FOk zq g:=j6 (qjx g0 g1) (.cons h0 (.cons h1 .nil)) rfl rfl qi0 (by decide) h
def yg:Ct:=⟨51,[.val (.int .i64),.val (.int .i64)],[(.st 41,false)],[],none,[],[]⟩
theorem qmq:EnZ yg:=fun _ _=>by kernel_rfl
def qs5:Ann:=⟨[0,1,4],[]⟩
def q9j:Tree:=(.leaf [(.set (.set (.lit (.a [(.i 0),(.a [(.s ⟨#[]⟩),(.i 0),(.i 0)]),(.r []),(.i 0)])) 0 (.tok 0)) 3 (.tok 1))])
theorem qrb:CdZ [] qs5 yg Try.f51 q9j:=fun cd h=>by injection h with h;subst h;kernel_rfl
theorem qt5{g:GfZ}(h:HgZ q9j yg [] g):FOk yg g:=j6 (qrb) .nil rfl rfl qmq (by decide) h
def q0l:Ct:=⟨73,[.val (.st 23),.val (.str),.val (.int .i64)],[(.bool,false)],[],none,[],[]⟩
theorem qnp:EnZ q0l:=fun _ _=>by kernel_rfl
def qti:Ann:=⟨[0,1,2,3,6],[]⟩
def q9k:Tree:=(.leaf [(.and (.and (.or (.eq (.fld (.tok 0) 0) (.lit (.i 2))) (.eq (.fld (.tok 0) 0) (.lit (.i 3)))) (.eq (.fld (.tok 0) 2) (.tok 1))) (.eq (.len (.fld (.tok 0) 3)) (.tok 2)))])
theorem qr8:CdZ [] qti q0l Try.f73 q9k:=fun cd h=>by injection h with h;subst h;kernel_rfl
theorem qtp{g:GfZ}(h:HgZ q9k q0l [] g):FOk q0l g:=j6 (qr8) .nil rfl rfl qnp (by decide) h
def q03:Ct:=⟨102,[.val (.int .i64)],[(.bool,false)],[],none,[],[]⟩
theorem qds:EnZ q03:=fun _ _=>by kernel_rfl
def qho:Ann:=⟨[0,2],[]⟩
def q4d:Tree:=(.leaf [(.and (.le (.lit (.i 0)) (.tok 0)) (.le (.tok 0) (.lit (.i 1099511627776))))])
theorem qfz:CdZ [] qho q03 Try.f102 q4d:=fun cd h=>by injection h with h;subst h;kernel_rfl
theorem qia{g:GfZ}(h:HgZ q4d q03 [] g):FOk q03 g:=j6 (qfz) .nil rfl rfl qds (by decide) h
def zo:Ct:=⟨78,[.val (.int .i64)],[(.st 23,false)],[],none,[],[]⟩
theorem qlr:EnZ zo:=fun _ _=>by kernel_rfl
def qqf:Ann:=⟨[0,2,5],[]⟩
def q8f:Tree:=(.need [(.ok 0 [(.tok 0)])] (.br (.not (.call 0 0 [(.tok 0)])) (.leaf [(.lit (.a [(.i 0),(.i 0),(.s ⟨#[]⟩),(.r [])]))]) (.leaf [(.set (.lit (.a [(.i 0),(.i 0),(.s ⟨#[]⟩),(.r [])])) 1 (.tok 0))])))
theorem qnh(g0:GfZ):CdZ [(q03,g0)] qqf zo Try.f78 q8f:=fun cd h=>by injection h with h;subst h;kernel_rfl
theorem qpj{g0 g:GfZ}(h0:FOk q03 g0)(h:HgZ q8f zo [(q03,g0)] g):FOk zo g:=j6 (qnh g0) (.cons h0 .nil) rfl rfl qlr (by decide) h
def zs:Ct:=⟨64,[.val (.st 23)],[(.row 24,true)],[],none,[],[]⟩
theorem qic:EnZ zs:=fun _ _=>by kernel_rfl
def qn6:Ann:=⟨[0,1,2,4,6,7,8,9],[(2,⟨[(2,.row 24,false),(8,.int .i64,false)],[],[9,10,11,4,12,13,14,15,16,17],[]⟩)]⟩
def q6k:Tree:=(.need [(.ok 0 [(.tok 0)])] (.loop 2 1 [(.lit (.r [])),(.lit (.i 0))] (.br (.lt (.tok 2) (.len (.call 0 0 [(.tok 0)]))) (.need [(.le (.lit (.i 0)) (.tok 2)),(.lt (.tok 2) (.len (.call 0 0 [(.tok 0)])))] (.need [(.ok 1 [(.get (.call 0 0 [(.tok 0)]) (.tok 2))]),(.le (.add (.len (.tok 1)) (.lit (.i 1))) (.lit (.i 2513169434843)))] (.need [(.rng .i64 (.add (.tok 2) (.lit (.i 1))))] (.back 2 [(.app (.tok 1) (.row [(.call 1 0 [(.get (.call 0 0 [(.tok 0)]) (.tok 2))])])),(.add (.tok 2) (.lit (.i 1)))])))) (.leaf [(.tok 1)]))))
theorem qjz(g0 g1:GfZ):CdZ [(jm,g0),(zo,g1)] qn6 zs Try.f64 q6k:=fun cd h=>by injection h with h;subst h;kernel_rfl
theorem qnj{g0 g1 g:GfZ}(h0:FOk jm g0)(h1:FOk zo g1)(h:HgZ q6k zs [(jm,g0),(zo,g1)] g):FOk zs g:=j6 (qjz g0 g1) (.cons h0 (.cons h1 .nil)) rfl rfl qic (by decide) h
def z3:Ct:=⟨101,[.val (.row 24)],[(.row 24,false)],[],none,[],[]⟩
theorem q8n:EnZ z3:=fun _ _=>by kernel_rfl
def qaa:Ann:=⟨[0,2,4],[]⟩
def q3x:Tree:=(.amb (.tok 0) .false (.leaf [(.lit (.r []))]) (.need [(.le (.add (.lit (.i 0)) (.len (.tok 0))) (.lit (.i 2513169434843)))] (.leaf [(.app (.row []) (.tok 0))])))
theorem q9e:CdZ [] qaa z3 Try.f101 q3x:=fun cd h=>by injection h with h;subst h;kernel_rfl
theorem qa7{g:GfZ}(h:HgZ q3x z3 [] g):FOk z3 g:=j6 (q9e) .nil rfl rfl q8n (by decide) h
def zr:Ct:=⟨76,[.val (.st 34),.val (.row 24)],[(.st 41,false)],[],none,[],[]⟩
theorem qio:EnZ zr:=fun _ _=>by kernel_rfl
def qo0:Ann:=⟨[0,1,2,4,5,7,10,11,12,13],[(3,⟨[(12,.int .i64,false)],[5],[13,14,15,7,16,17,18,19,20,21,22,23],[]⟩)]⟩
def q6m:Tree:=(.loop 3 2 [(.lit (.i 0)),(.set (.set (.lit (.a [(.i 0),(.a [(.s ⟨#[]⟩),(.i 0),(.i 0)]),(.r []),(.i 0)])) 0 (.lit (.i 1))) 1 (.tok 0))] (.br (.lt (.tok 2) (.len (.tok 1))) (.need [(.le (.lit (.i 0)) (.tok 2)),(.lt (.tok 2) (.len (.tok 1)))] (.need [(.le (.add (.len (.fld (.tok 3) 2)) (.lit (.i 1))) (.lit (.i 2513169434843))),(.ok 0 [(.get (.tok 1) (.tok 2))])] (.need [(.rng .i64 (.add (.tok 2) (.lit (.i 1))))] (.back 3 [(.add (.tok 2) (.lit (.i 1))),(.set (.tok 3) 2 (.app (.fld (.tok 3) 2) (.row [(.call 0 0 [(.get (.tok 1) (.tok 2))])])))])))) (.leaf [(.tok 3)])))
theorem ql1(g0:GfZ):CdZ [(y8,g0)] qo0 zr Try.f76 q6m:=fun cd h=>by injection h with h;subst h;kernel_rfl
theorem qnk{g0 g:GfZ}(h0:FOk y8 g0)(h:HgZ q6m zr [(y8,g0)] g):FOk zr g:=j6 (ql1 g0) (.cons h0 .nil) rfl rfl qio (by decide) h
def z9:Ct:=⟨75,[.ref (.st 52) true,.cst (.st 99) (.a [.s ⟨#[59]⟩,.i 2,.i 96]),.val (.st 23),.val (.int .i64)],[(.st 41,false)],[],none,[],[]⟩
theorem q46:EnZ z9:=fun _ _=>by kernel_rfl
def zt:Ct:=⟨96,[.ref (.st 52) true,.val (.st 23),.val (.int .i64)],[(.row 36,false)],[],none,[],[]⟩
theorem q5k:EnZ zt:=fun _ _=>by kernel_rfl
def qy:Ct:=⟨100,[.ref (.st 49) true],[(.int .i64,false)],[],none,[],[]⟩
theorem q5p:EnZ qy:=fun _ _=>by kernel_rfl
def q5a:Ann:=⟨[0,1,2,3,5,6,8,9,10,11,12,14,18,50,51,52,53],[(9,⟨[(12,.row 38,false),(52,.int .i64,false)],[],[53,54,55,14,56,57,58,59,60,61,62,63,64],[369,257]⟩)]⟩
def ye:Tree:=
 let h:X:=.lit (.i 1)
 let j:X:=.call 1 0 [(.tok 1)]
 let k:X:=.tok 4
 let l:X:=.lit (.i 0)
 let a:X:=.set (.tok 0) 0 (.set (.fld (.tok 0) 0) 1 (.add (.fld (.fld (.tok 0) 0) 1) h))
 let c:X:=.app j (.row [(.call 3 0 [(.tok 2)])])
 let d:X:=.set (.set (.lit (.a [(.s ⟨#[]⟩),(.i 0),(.i 0)])) 1 (.len j)) 2 (.fld (.fld (.tok 0) 0) 1)
 let m:X:=.le (.add (.len (.tok 3)) h) (.lit (.i 1759218604390))
 let n:X:=.rng .i64 (.add (.fld (.fld (.tok 0) 0) 1) h)
 let s:X:=.add k h
 let b:X:=.set a 2 (.app (.fld a 2) (.row [(.lit (.r []))]))
 let e:X:=.set (.set (.lit (.a [(.s ⟨#[]⟩),(.i 0),(.i 0)])) 1 (.len c)) 2 (.fld (.fld (.tok 0) 0) 1)
 let i:X:=.len (.fld a 2)
 let f:X:=.call 0 0 [b,(.tok 1),(.tok 2)]
 let g:X:=.call 0 1 [b,(.tok 1),(.tok 2)]
 let p:X:=.le (.add i h) (.lit (.i 5864062014634))
 let r:X:=.ok 0 [b,(.tok 1),(.tok 2)]
 let o:X:=.lt k (.len f)
 let q:X:=.set g 2 (.put (.fld g 2) i (.tok 3))
 let t:X:=.lt i (.len (.fld g 2))
 (.need [(.ok 1 [(.tok 1)])] (.need [(.ok 2 [(.tok 1)])] (.br (.call 2 0 [(.tok 1)]) (.need [(.ok 3 [(.tok 2)]),(.le (.add (.len j) h) (.lit (.i 2513169434843)))] (.need [n] (.need [p] (.need [r] (.loop 9 3 [(.lit (.r [])),l] (.br o (.need [(.le l k),o] (.need [m,(.ok 5 [c])] (.need [(.rng .i64 s)] (.back 9 [(.app (.tok 3) (.row [(.mk [e,(.call 5 0 [c]),(.get f k)])])),s])))) (.need [(.le l i),t] (.need [(.ok 6 [e,c])] (.leaf [(.call 6 0 [e,c]),q]))))))))) (.need [n] (.need [p] (.need [r] (.loop 9 3 [(.lit (.r [])),l] (.br o (.need [(.le l k),o] (.need [m,(.ok 5 [j])] (.need [(.rng .i64 s)] (.back 9 [(.app (.tok 3) (.row [(.mk [d,(.call 5 0 [j]),(.get f k)])])),s])))) (.need [(.le l i),t] (.need [(.ok 6 [d,j])] (.leaf [(.call 6 0 [d,j]),q])))))))))))
theorem q4k(g0 g1 g2 g3 g4 g5 g6:GfZ):CdZ [(zt,g0),(zs,g1),(zq,g2),(zo,g3),(qy,g4),(z3,g5),(zr,g6)] q5a z9 uR ye:=fun cd h=>by injection h with h;subst h;kernel_rfl
theorem q55{g0 g1 g2 g3 g4 g5 g6 g:GfZ}(h0:FOk zt g0)(h1:FOk zs g1)(h2:FOk zq g2)(h3:FOk zo g3)(h4:FOk qy g4)(h5:FOk z3 g5)(h6:FOk zr g6)(h:HgZ ye z9 [(zt,g0),(zs,g1),(zq,g2),(zo,g3),(qy,g4),(z3,g5),(zr,g6)] g):FOk z9 g:=j6 (q4k g0 g1 g2 g3 g4 g5 g6) (.cons h0 (.cons h1 (.cons h2 (.cons h3 (.cons h4 (.cons h5 (.cons h6 .nil))))))) rfl rfl q46 (by decide) h
def z6:Ct:=⟨105,[.ref (.st 52) true,.val (.st 23)],[(.row 42,true)],[],none,[],[]⟩
theorem q66:EnZ z6:=fun _ _=>by kernel_rfl
def qz:Ct:=⟨50,[.ref (.st 49) true],[(.int .i64,false)],[],none,[],[]⟩
theorem q6b:EnZ qz:=fun _ _=>by kernel_rfl
def qa:Ct:=⟨52,[.ref (.st 52) true,.val (.st 23),.val (.int .i64)],[(.row 42,true)],[],none,[],[]⟩
theorem q2b:EnZ qa:=fun _ _=>by kernel_rfl
def q7r:Ann:=⟨[0,1,3,4,5,6],[]⟩
def q0p:Tree:=
 let a:X:=.fld (.fld (.tok 0) 0) 0
 let d:X:=.lit (.i 1)
 let e:X:=.lit (.i 1954687338211)
 let b:X:=.set (.tok 0) 0 (.set (.fld (.tok 0) 0) 0 (.add a d))
 let c:X:=.app (.row [(.call 1 0 [(.lit (.i 3)),a])]) (.call 2 0 [b,(.tok 1),a])
 (.need [(.rng .i64 (.add a d))] (.need [(.ok 1 [(.lit (.i 3)),a])] (.need [(.ok 2 [b,(.tok 1),a]),(.le (.add d (.len (.call 2 0 [b,(.tok 1),a]))) e)] (.need [(.ok 1 [(.lit (.i 4)),a]),(.le (.add (.len c) d) e)] (.leaf [(.app c (.row [(.call 1 0 [(.lit (.i 4)),a])])),(.call 2 1 [b,(.tok 1),a])])))))
theorem q73(g0 g1 g2:GfZ):CdZ [(qz,g0),(yg,g1),(qa,g2)] q7r z6 Try.f105 q0p:=fun cd h=>by injection h with h;subst h;kernel_rfl
theorem q7t{g0 g1 g2 g:GfZ}(h0:FOk qz g0)(h1:FOk yg g1)(h2:FOk qa g2)(h:HgZ q0p z6 [(qz,g0),(yg,g1),(qa,g2)] g):FOk z6 g:=j6 (q73 g0 g1 g2) (.cons h0 (.cons h1 (.cons h2 .nil))) rfl rfl q66 (by decide) h
def y1:Ct:=⟨97,[.ref (.st 52) true,.val (.st 23),.val (.int .i64)],[(.row 36,false)],[],none,[],[]⟩
theorem q6l:EnZ y1:=fun _ _=>by kernel_rfl
def q8c:Ann:=⟨[0,1,2,4,6,7],[]⟩
def q0s:Tree:=(.need [(.lit (.b .true)),(.lt (.lit (.i 0)) (.len (.fld (.tok 1) 3))),(.ok 0 [(.tok 0),(.get (.fld (.tok 1) 3) (.lit (.i 0)))])] (.need [(.lit (.b .true)),(.lt (.lit (.i 1)) (.len (.fld (.tok 1) 3))),(.ok 1 [(.call 0 1 [(.tok 0),(.get (.fld (.tok 1) 3) (.lit (.i 0)))]),(.get (.fld (.tok 1) 3) (.lit (.i 1))),(.tok 2)]),(.le (.add (.len (.call 0 0 [(.tok 0),(.get (.fld (.tok 1) 3) (.lit (.i 0)))])) (.len (.call 1 0 [(.call 0 1 [(.tok 0),(.get (.fld (.tok 1) 3) (.lit (.i 0)))]),(.get (.fld (.tok 1) 3) (.lit (.i 1))),(.tok 2)]))) (.lit (.i 1954687338211)))] (.leaf [(.row [(.app (.call 0 0 [(.tok 0),(.get (.fld (.tok 1) 3) (.lit (.i 0)))]) (.call 1 0 [(.call 0 1 [(.tok 0),(.get (.fld (.tok 1) 3) (.lit (.i 0)))]),(.get (.fld (.tok 1) 3) (.lit (.i 1))),(.tok 2)]))]),(.call 1 1 [(.call 0 1 [(.tok 0),(.get (.fld (.tok 1) 3) (.lit (.i 0)))]),(.get (.fld (.tok 1) 3) (.lit (.i 1))),(.tok 2)])])))
theorem q7i(g0 g1:GfZ):CdZ [(z6,g0),(qa,g1)] q8c y1 Try.f97 q0s:=fun cd h=>by injection h with h;subst h;kernel_rfl
theorem q8g{g0 g1 g:GfZ}(h0:FOk z6 g0)(h1:FOk qa g1)(h:HgZ q0s y1 [(z6,g0),(qa,g1)] g):FOk y1 g:=j6 (q7i g0 g1) (.cons h0 (.cons h1 .nil)) rfl rfl q6l (by decide) h
def zk:Ct:=⟨75,[.ref (.st 52) true,.cst (.st 99) (.a [.s ⟨#[45,62]⟩,.i 2,.i 97]),.val (.st 23),.val (.int .i64)],[(.st 41,false)],[],none,[],[]⟩
theorem q48:EnZ zk:=fun _ _=>by kernel_rfl
def q59:Ann:=⟨[0,1,2,3,5,6,8,9,10,11,12,14,18,50,51,52,53],[(9,⟨[(12,.row 38,false),(52,.int .i64,false)],[],[53,54,55,14,56,57,58,59,60,61,62,63,64],[369,257]⟩)]⟩
def q1k:Tree:=
 let h:X:=.lit (.i 1)
 let j:X:=.call 1 0 [(.tok 1)]
 let k:X:=.tok 4
 let l:X:=.lit (.i 0)
 let a:X:=.set (.tok 0) 0 (.set (.fld (.tok 0) 0) 1 (.add (.fld (.fld (.tok 0) 0) 1) h))
 let c:X:=.app j (.row [(.call 3 0 [(.tok 2)])])
 let d:X:=.set (.set (.lit (.a [(.s ⟨#[]⟩),(.i 0),(.i 0)])) 1 (.len j)) 2 (.fld (.fld (.tok 0) 0) 1)
 let m:X:=.le (.add (.len (.tok 3)) h) (.lit (.i 1759218604390))
 let n:X:=.rng .i64 (.add (.fld (.fld (.tok 0) 0) 1) h)
 let s:X:=.add k h
 let b:X:=.set a 2 (.app (.fld a 2) (.row [(.lit (.r []))]))
 let e:X:=.set (.set (.lit (.a [(.s ⟨#[]⟩),(.i 0),(.i 0)])) 1 (.len c)) 2 (.fld (.fld (.tok 0) 0) 1)
 let i:X:=.len (.fld a 2)
 let f:X:=.call 0 0 [b,(.tok 1),(.tok 2)]
 let g:X:=.call 0 1 [b,(.tok 1),(.tok 2)]
 let p:X:=.le (.add i h) (.lit (.i 5864062014634))
 let r:X:=.ok 0 [b,(.tok 1),(.tok 2)]
 let o:X:=.lt k (.len f)
 let q:X:=.set g 2 (.put (.fld g 2) i (.tok 3))
 let t:X:=.lt i (.len (.fld g 2))
 (.need [(.ok 1 [(.tok 1)])] (.need [(.ok 2 [(.tok 1)])] (.br (.call 2 0 [(.tok 1)]) (.need [(.ok 3 [(.tok 2)]),(.le (.add (.len j) h) (.lit (.i 2513169434843)))] (.need [n] (.need [p] (.need [r] (.loop 9 3 [(.lit (.r [])),l] (.br o (.need [(.le l k),o] (.need [m,(.ok 5 [c])] (.need [(.rng .i64 s)] (.back 9 [(.app (.tok 3) (.row [(.mk [e,(.call 5 0 [c]),(.get f k)])])),s])))) (.need [(.le l i),t] (.need [(.ok 6 [e,c])] (.leaf [(.call 6 0 [e,c]),q]))))))))) (.need [n] (.need [p] (.need [r] (.loop 9 3 [(.lit (.r [])),l] (.br o (.need [(.le l k),o] (.need [m,(.ok 5 [j])] (.need [(.rng .i64 s)] (.back 9 [(.app (.tok 3) (.row [(.mk [d,(.call 5 0 [j]),(.get f k)])])),s])))) (.need [(.le l i),t] (.need [(.ok 6 [d,j])] (.leaf [(.call 6 0 [d,j]),q])))))))))))
theorem q4q(g0 g1 g2 g3 g4 g5 g6:GfZ):CdZ [(y1,g0),(zs,g1),(zq,g2),(zo,g3),(qy,g4),(z3,g5),(zr,g6)] q59 zk uR q1k:=fun cd h=>by injection h with h;subst h;kernel_rfl
theorem q5d{g0 g1 g2 g3 g4 g5 g6 g:GfZ}(h0:FOk y1 g0)(h1:FOk zs g1)(h2:FOk zq g2)(h3:FOk zo g3)(h4:FOk qy g4)(h5:FOk z3 g5)(h6:FOk zr g6)(h:HgZ q1k zk [(y1,g0),(zs,g1),(zq,g2),(zo,g3),(qy,g4),(z3,g5),(zr,g6)] g):FOk zk g:=j6 (q4q g0 g1 g2 g3 g4 g5 g6) (.cons h0 (.cons h1 (.cons h2 (.cons h3 (.cons h4 (.cons h5 (.cons h6 .nil))))))) rfl rfl q48 (by decide) h
def jb:Ct:=⟨106,[.val (.st 23)],[(.st 23,false)],[],none,[],[]⟩
theorem qfq:EnZ jb:=fun _ _=>by kernel_rfl
def qmc:Ann:=⟨[0,1,2,3,4,10],[]⟩
def q5y:Tree:=(.need [(.ok 0 [(.tok 0)])] (.br (.call 0 1 [(.tok 0)]) (.leaf [(.call 0 0 [(.tok 0)])]) (.leaf [(.set (.set (.set (.lit (.a [(.i 0),(.i 0),(.s ⟨#[]⟩),(.r [])])) 0 (.lit (.i 3))) 2 (.lit (.s ⟨#[99,97,108,108]⟩))) 3 (.row [(.tok 0)]))])))
theorem qif(g0:GfZ):CdZ [(yo,g0)] qmc jb Try.f106 q5y:=fun cd h=>by injection h with h;subst h;kernel_rfl
theorem qla{g0 g:GfZ}(h0:FOk yo g0)(h:HgZ q5y jb [(yo,g0)] g):FOk jb g:=j6 (qif g0) (.cons h0 .nil) rfl rfl qfq (by decide) h
def y4:Ct:=⟨98,[.ref (.st 52) true,.val (.st 23),.val (.int .i64)],[(.row 36,false)],[],none,[],[]⟩
theorem q7m:EnZ y4:=fun _ _=>by kernel_rfl
def q96:Ann:=⟨[0,1,2,4,6,7,8,9],[]⟩
def q13:Tree:=
 let d:X:=.fld (.fld (.tok 0) 0) 0
 let h:X:=.lit (.i 2)
 let i:X:=.lit (.i 0)
 let j:X:=.lit (.i 1954687338211)
 let a:X:=.set (.tok 0) 0 (.set (.fld (.tok 0) 0) 0 (.add d (.lit (.i 1))))
 let f:X:=.get (.fld (.tok 1) 3) i
 let c:X:=.fld (.fld a 0) 0
 let g:X:=.set a 0 (.set (.fld a 0) 0 (.add c (.lit (.i 1))))
 let b:X:=.call 3 0 [g,(.call 2 0 [f]),c]
 let e:X:=.app (.row [(.call 1 0 [h,d]),(.call 1 0 [(.lit (.i 3)),c])]) b
 (.need [(.rng .i64 (.add d (.lit (.i 1))))] (.need [(.rng .i64 (.add c (.lit (.i 1))))] (.need [(.ok 1 [h,d]),(.ok 1 [(.lit (.i 3)),c])] (.need [(.lit (.b .true)),(.lt i (.len (.fld (.tok 1) 3))),(.ok 2 [f]),(.ok 3 [g,(.call 2 0 [f]),c]),(.le (.add h (.len b)) j)] (.need [(.ok 1 [(.lit (.i 4)),d]),(.ok 1 [(.lit (.i 5)),i]),(.le (.add (.len e) h) j)] (.leaf [(.row [(.app e (.row [(.call 1 0 [(.lit (.i 4)),d]),(.call 1 0 [(.lit (.i 5)),i])])),(.lit (.r []))]),(.call 3 1 [g,(.call 2 0 [f]),c])]))))))
theorem q8j(g0 g1 g2 g3:GfZ):CdZ [(qz,g0),(yg,g1),(jb,g2),(qa,g3)] q96 y4 Try.f98 q13:=fun cd h=>by injection h with h;subst h;kernel_rfl
theorem q91{g0 g1 g2 g3 g:GfZ}(h0:FOk qz g0)(h1:FOk yg g1)(h2:FOk jb g2)(h3:FOk qa g3)(h:HgZ q13 y4 [(qz,g0),(yg,g1),(jb,g2),(qa,g3)] g):FOk y4 g:=j6 (q8j g0 g1 g2 g3) (.cons h0 (.cons h1 (.cons h2 (.cons h3 .nil)))) rfl rfl q7m (by decide) h
def zf:Ct:=⟨75,[.ref (.st 52) true,.cst (.st 99) (.a [.s ⟨#[92,43]⟩,.i 1,.i 98]),.val (.st 23),.val (.int .i64)],[(.st 41,false)],[],none,[],[]⟩
theorem q45:EnZ zf:=fun _ _=>by kernel_rfl
def q5c:Ann:=⟨[0,1,2,3,5,6,8,9,10,11,12,14,18,50,51,52,53],[(9,⟨[(12,.row 38,false),(52,.int .i64,false)],[],[53,54,55,14,56,57,58,59,60,61,62,63,64],[369,257]⟩)]⟩
def q1g:Tree:=
 let h:X:=.lit (.i 1)
 let j:X:=.call 1 0 [(.tok 1)]
 let k:X:=.tok 4
 let l:X:=.lit (.i 0)
 let a:X:=.set (.tok 0) 0 (.set (.fld (.tok 0) 0) 1 (.add (.fld (.fld (.tok 0) 0) 1) h))
 let c:X:=.app j (.row [(.call 3 0 [(.tok 2)])])
 let d:X:=.set (.set (.lit (.a [(.s ⟨#[]⟩),(.i 0),(.i 0)])) 1 (.len j)) 2 (.fld (.fld (.tok 0) 0) 1)
 let m:X:=.le (.add (.len (.tok 3)) h) (.lit (.i 1759218604390))
 let n:X:=.rng .i64 (.add (.fld (.fld (.tok 0) 0) 1) h)
 let s:X:=.add k h
 let b:X:=.set a 2 (.app (.fld a 2) (.row [(.lit (.r []))]))
 let e:X:=.set (.set (.lit (.a [(.s ⟨#[]⟩),(.i 0),(.i 0)])) 1 (.len c)) 2 (.fld (.fld (.tok 0) 0) 1)
 let i:X:=.len (.fld a 2)
 let f:X:=.call 0 0 [b,(.tok 1),(.tok 2)]
 let g:X:=.call 0 1 [b,(.tok 1),(.tok 2)]
 let p:X:=.le (.add i h) (.lit (.i 5864062014634))
 let r:X:=.ok 0 [b,(.tok 1),(.tok 2)]
 let o:X:=.lt k (.len f)
 let q:X:=.set g 2 (.put (.fld g 2) i (.tok 3))
 let t:X:=.lt i (.len (.fld g 2))
 (.need [(.ok 1 [(.tok 1)])] (.need [(.ok 2 [(.tok 1)])] (.br (.call 2 0 [(.tok 1)]) (.need [(.ok 3 [(.tok 2)]),(.le (.add (.len j) h) (.lit (.i 2513169434843)))] (.need [n] (.need [p] (.need [r] (.loop 9 3 [(.lit (.r [])),l] (.br o (.need [(.le l k),o] (.need [m,(.ok 5 [c])] (.need [(.rng .i64 s)] (.back 9 [(.app (.tok 3) (.row [(.mk [e,(.call 5 0 [c]),(.get f k)])])),s])))) (.need [(.le l i),t] (.need [(.ok 6 [e,c])] (.leaf [(.call 6 0 [e,c]),q]))))))))) (.need [n] (.need [p] (.need [r] (.loop 9 3 [(.lit (.r [])),l] (.br o (.need [(.le l k),o] (.need [m,(.ok 5 [j])] (.need [(.rng .i64 s)] (.back 9 [(.app (.tok 3) (.row [(.mk [d,(.call 5 0 [j]),(.get f k)])])),s])))) (.need [(.le l i),t] (.need [(.ok 6 [d,j])] (.leaf [(.call 6 0 [d,j]),q])))))))))))
theorem q4w(g0 g1 g2 g3 g4 g5 g6:GfZ):CdZ [(y4,g0),(zs,g1),(zq,g2),(zo,g3),(qy,g4),(z3,g5),(zr,g6)] q5c zf uR q1g:=fun cd h=>by injection h with h;subst h;kernel_rfl
theorem q56{g0 g1 g2 g3 g4 g5 g6 g:GfZ}(h0:FOk y4 g0)(h1:FOk zs g1)(h2:FOk zq g2)(h3:FOk zo g3)(h4:FOk qy g4)(h5:FOk z3 g5)(h6:FOk zr g6)(h:HgZ q1g zf [(y4,g0),(zs,g1),(zq,g2),(zo,g3),(qy,g4),(z3,g5),(zr,g6)] g):FOk zf g:=j6 (q4w g0 g1 g2 g3 g4 g5 g6) (.cons h0 (.cons h1 (.cons h2 (.cons h3 (.cons h4 (.cons h5 (.cons h6 .nil))))))) rfl rfl q45 (by decide) h
def y2:Ct:=⟨99,[.ref (.st 52) true,.val (.st 23),.val (.int .i64)],[(.row 36,false)],[],none,[],[]⟩
theorem q6n:EnZ y2:=fun _ _=>by kernel_rfl
def q8i:Ann:=⟨[0,1,2,4,6],[]⟩
def q0u:Tree:=(.need [(.lit (.b .true)),(.lt (.lit (.i 0)) (.len (.fld (.tok 1) 3))),(.ok 0 [(.get (.fld (.tok 1) 3) (.lit (.i 0)))]),(.ok 1 [(.tok 0),(.call 0 0 [(.get (.fld (.tok 1) 3) (.lit (.i 0)))])])] (.leaf [(.row [(.call 1 0 [(.tok 0),(.call 0 0 [(.get (.fld (.tok 1) 3) (.lit (.i 0)))])])]),(.call 1 1 [(.tok 0),(.call 0 0 [(.get (.fld (.tok 1) 3) (.lit (.i 0)))])])]))
theorem q7s(g0 g1:GfZ):CdZ [(jb,g0),(z6,g1)] q8i y2 Try.f99 q0u:=fun cd h=>by injection h with h;subst h;kernel_rfl
theorem q8k{g0 g1 g:GfZ}(h0:FOk jb g0)(h1:FOk z6 g1)(h:HgZ q0u y2 [(jb,g0),(z6,g1)] g):FOk y2 g:=j6 (q7s g0 g1) (.cons h0 (.cons h1 .nil)) rfl rfl q6n (by decide) h
def zi:Ct:=⟨75,[.ref (.st 52) true,.cst (.st 99) (.a [.s ⟨#[111,110,99,101]⟩,.i 1,.i 99]),.val (.st 23),.val (.int .i64)],[(.st 41,false)],[],none,[],[]⟩
theorem q47:EnZ zi:=fun _ _=>by kernel_rfl
def q5h:Ann:=⟨[0,1,2,3,5,6,8,9,10,11,12,14,18,50,51,52,53],[(9,⟨[(12,.row 38,false),(52,.int .i64,false)],[],[53,54,55,14,56,57,58,59,60,61,62,63,64],[369,257]⟩)]⟩
def q1e:Tree:=
 let h:X:=.lit (.i 1)
 let j:X:=.call 1 0 [(.tok 1)]
 let k:X:=.tok 4
 let l:X:=.lit (.i 0)
 let a:X:=.set (.tok 0) 0 (.set (.fld (.tok 0) 0) 1 (.add (.fld (.fld (.tok 0) 0) 1) h))
 let c:X:=.app j (.row [(.call 3 0 [(.tok 2)])])
 let d:X:=.set (.set (.lit (.a [(.s ⟨#[]⟩),(.i 0),(.i 0)])) 1 (.len j)) 2 (.fld (.fld (.tok 0) 0) 1)
 let m:X:=.le (.add (.len (.tok 3)) h) (.lit (.i 1759218604390))
 let n:X:=.rng .i64 (.add (.fld (.fld (.tok 0) 0) 1) h)
 let s:X:=.add k h
 let b:X:=.set a 2 (.app (.fld a 2) (.row [(.lit (.r []))]))
 let e:X:=.set (.set (.lit (.a [(.s ⟨#[]⟩),(.i 0),(.i 0)])) 1 (.len c)) 2 (.fld (.fld (.tok 0) 0) 1)
 let i:X:=.len (.fld a 2)
 let f:X:=.call 0 0 [b,(.tok 1),(.tok 2)]
 let g:X:=.call 0 1 [b,(.tok 1),(.tok 2)]
 let p:X:=.le (.add i h) (.lit (.i 5864062014634))
 let r:X:=.ok 0 [b,(.tok 1),(.tok 2)]
 let o:X:=.lt k (.len f)
 let q:X:=.set g 2 (.put (.fld g 2) i (.tok 3))
 let t:X:=.lt i (.len (.fld g 2))
 (.need [(.ok 1 [(.tok 1)])] (.need [(.ok 2 [(.tok 1)])] (.br (.call 2 0 [(.tok 1)]) (.need [(.ok 3 [(.tok 2)]),(.le (.add (.len j) h) (.lit (.i 2513169434843)))] (.need [n] (.need [p] (.need [r] (.loop 9 3 [(.lit (.r [])),l] (.br o (.need [(.le l k),o] (.need [m,(.ok 5 [c])] (.need [(.rng .i64 s)] (.back 9 [(.app (.tok 3) (.row [(.mk [e,(.call 5 0 [c]),(.get f k)])])),s])))) (.need [(.le l i),t] (.need [(.ok 6 [e,c])] (.leaf [(.call 6 0 [e,c]),q]))))))))) (.need [n] (.need [p] (.need [r] (.loop 9 3 [(.lit (.r [])),l] (.br o (.need [(.le l k),o] (.need [m,(.ok 5 [j])] (.need [(.rng .i64 s)] (.back 9 [(.app (.tok 3) (.row [(.mk [d,(.call 5 0 [j]),(.get f k)])])),s])))) (.need [(.le l i),t] (.need [(.ok 6 [d,j])] (.leaf [(.call 6 0 [d,j]),q])))))))))))
theorem q4r(g0 g1 g2 g3 g4 g5 g6:GfZ):CdZ [(y2,g0),(zs,g1),(zq,g2),(zo,g3),(qy,g4),(z3,g5),(zr,g6)] q5h zi uR q1e:=fun cd h=>by injection h with h;subst h;kernel_rfl
theorem q5j{g0 g1 g2 g3 g4 g5 g6 g:GfZ}(h0:FOk y2 g0)(h1:FOk zs g1)(h2:FOk zq g2)(h3:FOk zo g3)(h4:FOk qy g4)(h5:FOk z3 g5)(h6:FOk zr g6)(h:HgZ q1e zi [(y2,g0),(zs,g1),(zq,g2),(zo,g3),(qy,g4),(z3,g5),(zr,g6)] g):FOk zi g:=j6 (q4r g0 g1 g2 g3 g4 g5 g6) (.cons h0 (.cons h1 (.cons h2 (.cons h3 (.cons h4 (.cons h5 (.cons h6 .nil))))))) rfl rfl q47 (by decide) h
def q0g:Ct:=⟨77,[.val (.st 23)],[(.bool,false)],[],none,[],[]⟩
theorem qfa:EnZ q0g:=fun _ _=>by kernel_rfl
def ql2:Ann:=⟨[0,1,2,3,8,9,11,19],[]⟩
def q5m:Tree:=
 let a:X:=.fld (.tok 0) 2
 let e:X:=.lit (.b .true)
 let i:X:=.len (.fld (.tok 0) 3)
 let b:X:=.not (.eq i (.lit (.i 3)))
 let c:X:=.not (.eq (.sget a (.lit (.i 0))) (.lit (.i 36)))
 let d:X:=.lt (.lit (.i 0)) (.slen a)
 let f:X:=.eq a (.lit (.s ⟨#[102,105,110,100,97,108,108]⟩))
 let g:X:=.eq a (.lit (.s ⟨#[98,97,103,111,102]⟩))
 let h:X:=.eq a (.lit (.s ⟨#[99,97,116,99,104]⟩))
 (.br (.eq a (.lit (.s ⟨#[]⟩))) (.leaf [e]) (.br (.eq a (.lit (.s ⟨#[99,97,108,108]⟩))) (.leaf [(.or (.lt i (.lit (.i 1))) (.lt (.lit (.i 8)) i))]) (.br h (.br h (.leaf [b]) (.need [e,d] (.leaf [c]))) (.br f (.br f (.leaf [b]) (.need [e,d] (.leaf [c]))) (.br g (.br g (.leaf [b]) (.need [e,d] (.leaf [c]))) (.br (.eq a (.lit (.s ⟨#[115,101,116,111,102]⟩))) (.leaf [b]) (.need [e,d] (.leaf [c]))))))))
theorem qi1:CdZ [] ql2 q0g Try.f77 q5m:=fun cd h=>by injection h with h;subst h;kernel_rfl
theorem qmk{g:GfZ}(h:HgZ q5m q0g [] g):FOk q0g g:=j6 (qi1) .nil rfl rfl qfa (by decide) h
def q6w:Ann:=⟨[0,1,2,4,6,7,8,9,10,16],[]⟩
def q0d:Tree:=
 let f:X:=.lit (.i 1)
 let g:X:=.fld (.tok 1) 3
 let h:X:=.tok 2
 let i:X:=.fld (.fld (.tok 0) 0) 0
 let k:X:=.lit (.b .true)
 let n:X:=.lit (.i 1954687338211)
 let r:X:=.lit (.i 0)
 let s:X:=.lit (.i 2)
 let u:X:=.lit (.s ⟨#[45,62]⟩)
 let a:X:=.set (.tok 0) 0 (.set (.fld (.tok 0) 0) 0 (.add i f))
 let b:X:=.get g r
 let p:X:=.get g f
 let l:X:=.fld (.fld a 0) 0
 let m:X:=.call 3 1 [(.tok 0),b,h]
 let t:X:=.fld b 3
 let c:X:=.set a 0 (.set (.fld a 0) 0 (.add l f))
 let j:X:=.get t f
 let d:X:=.app (.row [(.call 2 0 [s,i]),(.call 2 0 [(.lit (.i 3)),l])]) (.call 3 0 [c,(.get t r),l])
 let e:X:=.call 3 1 [c,(.get t r),l]
 let o:X:=.app d (.row [(.call 2 0 [(.lit (.i 4)),i])])
 let q:X:=.call 3 1 [e,j,h]
 (.need [k,(.lt r (.len g))] (.need [(.ok 0 [b,u,s])] (.br (.call 0 0 [b,u,s]) (.need [(.rng .i64 (.add i f))] (.need [(.rng .i64 (.add l f))] (.need [(.ok 2 [s,i]),(.ok 2 [(.lit (.i 3)),l]),k] (.need [k,(.lt r (.len t)),(.ok 3 [c,(.get t r),l]),(.le (.add s (.len (.call 3 0 [c,(.get t r),l]))) n)] (.need [(.ok 2 [(.lit (.i 4)),i]),(.le (.add (.len d) f) n)] (.need [k,(.lt f (.len t)),(.ok 3 [e,j,h]),(.le (.add (.len o) (.len (.call 3 0 [e,j,h]))) n)] (.need [k,(.lt f (.len g)),(.ok 3 [q,p,h])] (.leaf [(.row [(.app o (.call 3 0 [e,j,h])),(.call 3 0 [q,p,h])]),(.call 3 1 [q,p,h])])))))))) (.need [(.ok 3 [(.tok 0),b,h])] (.need [k,(.lt f (.len g)),(.ok 3 [m,p,h])] (.leaf [(.row [(.call 3 0 [(.tok 0),b,h]),(.call 3 0 [m,p,h])]),(.call 3 1 [m,p,h])]))))))
theorem q6a(g0 g1 g2 g3:GfZ):CdZ [(q0l,g0),(qz,g1),(yg,g2),(qa,g3)] q6w zt Try.f96 q0d:=fun cd h=>by injection h with h;subst h;kernel_rfl
theorem q7h{g0 g1 g2 g3 g:GfZ}(h0:FOk q0l g0)(h1:FOk qz g1)(h2:FOk yg g2)(h3:FOk qa g3)(h:HgZ q0d zt [(q0l,g0),(qz,g1),(yg,g2),(qa,g3)] g):FOk zt g:=j6 (q6a g0 g1 g2 g3) (.cons h0 (.cons h1 (.cons h2 (.cons h3 .nil)))) rfl rfl q5k (by decide) h
def q8h:Ann:=⟨[0,1,2,4,6,7,9,10,11,12,13,14,17,22,28,47,48,49,56,82],[]⟩
def q0v:Tree:=
 let a:X:=.row [(.lit (.a [(.s ⟨#[59]⟩),(.i 2),(.i 96)])),(.lit (.a [(.s ⟨#[45,62]⟩),(.i 2),(.i 97)])),(.lit (.a [(.s ⟨#[92,43]⟩),(.i 1),(.i 98)])),(.lit (.a [(.s ⟨#[111,110,99,101]⟩),(.i 1),(.i 99)]))]
 let b:X:=.tok 1
 let c:X:=.lit (.a [(.s ⟨#[]⟩),(.i 0),(.i 0)])
 let d:X:=.tok 0
 let e:X:=.lit (.i 0)
 let f:X:=.tok 2
 let h:X:=.lit (.b .true)
 let i:X:=.lit (.i 1)
 let k:X:=.lit (.i 2)
 let q:X:=.lit (.s ⟨#[116,114,117,101]⟩)
 let r:X:=.lit (.s ⟨#[102,97,105,108]⟩)
 let y:X:=.lit (.i 4)
 let z:X:=.lit (.s ⟨#[33]⟩)
 let g:X:=.fld b 3
 let n:X:=.get a (.lit (.i 3))
 let o:X:=.set (.set c 1 k) 2 (.lit (.i 1099511627775))
 let p:X:=.set (.set c 1 k) 2 (.lit (.i 1099511627776))
 let s:X:=.fld (.fld d 0) 0
 let v:X:=.get a e
 let w:X:=.get a i
 let x:X:=.get a k
 let j:X:=.row [(.call 9 0 [s]),b]
 let l:X:=.call 6 1 [d,(.get g e),f]
 let m:X:=.set (.set c 0 (.fld b 2)) 1 (.len g)
 let t:X:=.call 6 0 [d,(.get g e),f]
 let u:X:=.call 6 0 [l,(.get g i),f]
 (.need [(.ok 4 [b,q,e])] (.br (.call 4 0 [b,q,e]) (.leaf [(.lit (.r [])),d]) (.need [(.ok 4 [b,r,e])] (.br (.call 4 0 [b,r,e]) (.need [(.ok 5 [(.lit (.i 5)),e])] (.leaf [(.row [(.call 5 0 [(.lit (.i 5)),e])]),d])) (.need [(.ok 4 [b,z,e])] (.br (.call 4 0 [b,z,e]) (.need [(.ok 5 [y,f])] (.leaf [(.row [(.call 5 0 [y,f])]),d])) (.need [(.ok 4 [b,(.lit (.s ⟨#[44]⟩)),k])] (.br (.call 4 0 [b,(.lit (.s ⟨#[44]⟩)),k]) (.need [h,(.lt e (.len g)),(.ok 6 [d,(.get g e),f])] (.need [h,(.lt i (.len g)),(.ok 6 [l,(.get g i),f]),(.le (.add (.len t) (.len u)) (.lit (.i 1954687338211)))] (.leaf [(.app t u),(.call 6 1 [l,(.get g i),f])]))) (.need [h,h] (.need [(.ok 4 [b,(.fld v 0),(.fld v 1)])] (.br (.call 4 0 [b,(.fld v 0),(.fld v 1)]) (.need [(.ok 0 [d,b,f])] (.leaf [(.row [(.call 0 0 [d,b,f])]),(.call 0 1 [d,b,f])])) (.need [(.rng .i64 i)] (.need [h,h] (.need [(.ok 4 [b,(.fld w 0),(.fld w 1)])] (.br (.call 4 0 [b,(.fld w 0),(.fld w 1)]) (.need [(.ok 1 [d,b,f])] (.leaf [(.row [(.call 1 0 [d,b,f])]),(.call 1 1 [d,b,f])])) (.need [(.rng .i64 k)] (.need [h,h] (.need [(.ok 4 [b,(.fld x 0),(.fld x 1)])] (.br (.call 4 0 [b,(.fld x 0),(.fld x 1)]) (.need [(.ok 2 [d,b,f])] (.leaf [(.row [(.call 2 0 [d,b,f])]),(.call 2 1 [d,b,f])])) (.need [(.rng .i64 (.lit (.i 3)))] (.need [h,h] (.need [(.ok 4 [b,(.fld n 0),(.fld n 1)])] (.br (.call 4 0 [b,(.fld n 0),(.fld n 1)]) (.need [(.ok 3 [d,b,f])] (.leaf [(.row [(.call 3 0 [d,b,f])]),(.call 3 1 [d,b,f])])) (.need [(.rng .i64 y)] (.need [(.ok 7 [m,g])] (.need [(.imp (.not (.not (.fld d 1))) (.ok 8 [b]))] (.br (.or (.not (.fld d 1)) (.not (.call 8 0 [b]))) (.leaf [(.row [(.call 7 0 [m,g])]),d]) (.need [(.rng .i64 (.add s i)),(.ok 9 [s])] (.need [(.ok 7 [o,j]),(.ok 7 [p,j])] (.leaf [(.row [(.call 7 0 [p,j]),(.call 7 0 [m,g]),(.call 7 0 [o,j])]),(.set d 0 (.set (.fld d 0) 0 (.add s i)))]))))))))))))))))))))))))))))))
theorem q7o(g0 g1 g2 g3 g4 g5 g6 g7 g8 g9:GfZ):CdZ [(z9,g0),(zk,g1),(zf,g2),(zi,g3),(q0l,g4),(yg,g5),(qa,g6),(zr,g7),(q0g,g8),(zo,g9)] q8h qa Try.f52 q0v:=fun cd h=>by injection h with h;subst h;kernel_rfl
theorem q8l{g0 g1 g2 g3 g4 g5 g6 g7 g8 g9 g:GfZ}(h0:FOk z9 g0)(h1:FOk zk g1)(h2:FOk zf g2)(h3:FOk zi g3)(h4:FOk q0l g4)(h5:FOk yg g5)(h6:FOk qa g6)(h7:FOk zr g7)(h8:FOk q0g g8)(h9:FOk zo g9)(h:HgZ q0v qa [(z9,g0),(zk,g1),(zf,g2),(zi,g3),(q0l,g4),(yg,g5),(qa,g6),(zr,g7),(q0g,g8),(zo,g9)] g):FOk qa g:=j6 (q7o g0 g1 g2 g3 g4 g5 g6 g7 g8 g9) (.cons h0 (.cons h1 (.cons h2 (.cons h3 (.cons h4 (.cons h5 (.cons h6 (.cons h7 (.cons h8 (.cons h9 .nil)))))))))) rfl rfl q2b (by decide) h
def yl:Ct:=⟨79,[.nils,.val (.int .i64)],[(.row 38,true)],[],none,[],[]⟩
theorem q9a:EnZ yl:=fun _ _=>by kernel_rfl
def qay:Ann:=⟨[0,1,4,6,16],[]⟩
def q23:Tree:=(.br (.lt (.tok 0) (.lit (.i 0))) (.bad 2000) (.need [(.rng .i64 (.lit (.i 0))),(.rng .i64 (.sub (.tok 0) (.lit (.i 0))))] (.br (.lt (.lit (.i 0)) (.sub (.tok 0) (.lit (.i 0)))) (.need [(.le (.lit (.i 0)) (.sub (.tok 0) (.lit (.i 0)))),(.le (.sub (.tok 0) (.lit (.i 0))) (.lit (.i 16777216))),(.le (.add (.lit (.i 0)) (.sub (.tok 0) (.lit (.i 0)))) (.lit (.i 1759218604390))),(.lit (.b .true)),(.le (.lit (.i 0)) (.len (.app (.lit (.r [])) (.rep (.sub (.tok 0) (.lit (.i 0))) (.lit (.a [(.a [(.s ⟨#[]⟩),(.i 0),(.i 0)]),(.r []),(.r [])]))))))] (.leaf [(.cut (.app (.lit (.r [])) (.rep (.sub (.tok 0) (.lit (.i 0))) (.lit (.a [(.a [(.s ⟨#[]⟩),(.i 0),(.i 0)]),(.r []),(.r [])])))) (.lit (.i 0)) (.lit (.i 0)))])) (.leaf [(.lit (.r []))]))))
theorem qa8:CdZ [] qay yl Try.f79 q23:=fun cd h=>by injection h with h;subst h;kernel_rfl
theorem qb4{g:GfZ}(h:HgZ q23 yl [] g):FOk yl g:=j6 (qa8) .nil rfl rfl q9a (by decide) h
def yc:Ct:=⟨53,[.val (.row 27)],[(.row 38,true)],[],none,[],[]⟩
theorem q8b:EnZ yc:=fun _ _=>by kernel_rfl
def q9p:Ann:=⟨[0,2,3,5,6,8,9,10,11,12,20,25,26,27,28],[(3,⟨[(3,.int .i64,false),(11,.int .i64,false)],[],[12,13,14,5,15,16,17,18,19,20,21,22],[]⟩),
 (11,⟨[(6,.row 38,false),(27,.int .i64,false)],[],[28,29,30,8,31,32,33,34],[]⟩)]⟩
def q1i:Tree:=(.loop 3 1 [(.lit (.i 0)),(.lit (.i 0))] (.br (.lt (.tok 2) (.len (.tok 0))) (.need [(.le (.lit (.i 0)) (.tok 2)),(.lt (.tok 2) (.len (.tok 0)))] (.need [(.rng .i64 (.add (.tok 1) (.len (.get (.tok 0) (.tok 2)))))] (.br (.lt (.add (.tok 1) (.len (.get (.tok 0) (.tok 2)))) (.lit (.i 0))) (.bad 7000) (.need [(.rng .i64 (.add (.tok 2) (.lit (.i 1))))] (.back 3 [(.add (.tok 1) (.len (.get (.tok 0) (.tok 2)))),(.add (.tok 2) (.lit (.i 1)))]))))) (.need [(.ok 0 [(.tok 1)])] (.loop 11 3 [(.call 0 0 [(.tok 1)]),(.lit (.i 0))] (.br (.lt (.tok 4) (.len (.tok 0))) (.need [(.le (.lit (.i 0)) (.tok 4)),(.lt (.tok 4) (.len (.tok 0)))] (.need [(.le (.add (.len (.tok 3)) (.len (.get (.tok 0) (.tok 4)))) (.lit (.i 1759218604390)))] (.need [(.rng .i64 (.add (.tok 4) (.lit (.i 1))))] (.back 11 [(.app (.tok 3) (.get (.tok 0) (.tok 4))),(.add (.tok 4) (.lit (.i 1)))])))) (.leaf [(.tok 3)]))))))
theorem q8x(g0:GfZ):CdZ [(yl,g0)] q9p yc Try.f53 q1i:=fun cd h=>by injection h with h;subst h;kernel_rfl
theorem q9n{g0 g:GfZ}(h0:FOk yl g0)(h:HgZ q1i yc [(yl,g0)] g):FOk yc g:=j6 (q8x g0) (.cons h0 .nil) rfl rfl q8b (by decide) h
def j8:Ct:=⟨32,[.val (.st 34)],[(.bool,false)],[],none,[],[]⟩
theorem qak:EnZ j8:=fun _ _=>by kernel_rfl
def qd0:Ann:=⟨[0,1,2,5],[]⟩
def q2w:Tree:=(.br (.eq (.fld (.tok 0) 2) (.lit (.i 0))) (.leaf [(.and (.and (.le (.slen (.fld (.tok 0) 0)) (.lit (.i 100))) (.le (.lit (.i 0)) (.fld (.tok 0) 1))) (.le (.fld (.tok 0) 1) (.lit (.i 8))))]) (.leaf [(.and (.and (.and (.and (.eq (.fld (.tok 0) 0) (.lit (.s ⟨#[]⟩))) (.le (.lit (.i 1)) (.fld (.tok 0) 2))) (.le (.fld (.tok 0) 2) (.lit (.i 1099511627776)))) (.le (.lit (.i 0)) (.fld (.tok 0) 1))) (.le (.fld (.tok 0) 1) (.lit (.i 4096))))]))
theorem qby:CdZ [] qd0 j8 Try.f32 q2w:=fun cd h=>by injection h with h;subst h;kernel_rfl
theorem qd7{g:GfZ}(h:HgZ q2w j8 [] g):FOk j8 g:=j6 (qby) .nil rfl rfl qak (by decide) h
def q0y:Ct:=⟨33,[.ref (.int .i64) true,.val (.row 24)],[(.bool,false)],[],none,[],[]⟩
theorem qhv:EnZ q0y:=fun _ _=>by kernel_rfl
def qn8:Ann:=⟨[0,1,4,6,7,8,9,10,15,26],[(2,⟨[(4,.bool,false),(9,.int .i64,false)],[0],[10,11,12,6,13,14,15,16,17,18,19,20,21,22,23,24,25,26,27],[]⟩)]⟩
def q6v:Tree:=(.loop 2 2 [(.lit (.b .false)),(.lit (.i 0)),(.tok 0)] (.br (.lt (.tok 3) (.len (.tok 1))) (.need [(.le (.lit (.i 0)) (.tok 3)),(.lt (.tok 3) (.len (.tok 1)))] (.need [(.ok 0 [(.get (.tok 1) (.tok 3))])] (.br (.not (.call 0 0 [(.get (.tok 1) (.tok 3))])) (.leaf [(.lit (.b .false)),(.tok 4)]) (.need [(.ok 1 [(.get (.tok 1) (.tok 3))]),(.rng .i64 (.sub (.tok 4) (.call 1 0 [(.get (.tok 1) (.tok 3))])))] (.br (.lt (.sub (.tok 4) (.call 1 0 [(.get (.tok 1) (.tok 3))])) (.lit (.i 0))) (.leaf [(.lit (.b .false)),(.sub (.tok 4) (.call 1 0 [(.get (.tok 1) (.tok 3))]))]) (.need [(.rng .i64 (.add (.tok 3) (.lit (.i 1))))] (.back 2 [(.tok 2),(.add (.tok 3) (.lit (.i 1))),(.sub (.tok 4) (.call 1 0 [(.get (.tok 1) (.tok 3))]))]))))))) (.leaf [(.lit (.b .true)),(.tok 4)])))
theorem qk7(g0 g1:GfZ):CdZ [(z4,g0),(y7,g1)] qn8 q0y Try.f33 q6v:=fun cd h=>by injection h with h;subst h;kernel_rfl
theorem qn2{g0 g1 g:GfZ}(h0:FOk z4 g0)(h1:FOk y7 g1)(h:HgZ q6v q0y [(z4,g0),(y7,g1)] g):FOk q0y g:=j6 (qk7 g0 g1) (.cons h0 (.cons h1 .nil)) rfl rfl qhv (by decide) h
def q0e:Ct:=⟨13,[.val (.st 37)],[(.bool,false)],[],none,[],[]⟩
theorem qge:EnZ q0e:=fun _ _=>by kernel_rfl
def qlo:Ann:=⟨[0,1,2,3,4,6,7,8,27,29,30,31,32,46,47,71,88,102,111],[(6,⟨[(4,.bool,false),(2,.bool,false),(31,.int .i64,false)],[3],[32,33,34,6,35,36,37,38,39,40,41,42,43,44,7,8,45,46,48,47,49,50,51,52,53,54,55,56,57,58,59,60,61,62,63,64,65,66,67,68,69,70,72,71,73,74,75,76,77,78,79,80,81,82,83,84,85,86,87,89,88,90,91,92,93,94,95,96,97,98,99,100,101,103,102,104,105,106,107,108,109,110,111,112],[]⟩)]⟩
def q5u:Tree:=
 let a:X:=.get (.fld (.tok 0) 2) (.tok 3)
 let c:X:=.add (.tok 3) (.lit (.i 1))
 let g:X:=.lit (.b .false)
 let i:X:=.tok 4
 let k:X:=.lit (.i 131072)
 let m:X:=.lt (.tok 3) (.len (.fld (.tok 0) 2))
 let n:X:=.tok 2
 let o:X:=.tok 1
 let p:X:=.fld (.tok 0) 1
 let b:X:=.and (.eq (.fld a 1) (.lit (.a [(.s ⟨#[]⟩),(.i 0),(.i 0)]))) (.eq (.len (.fld a 2)) (.lit (.i 0)))
 let d:X:=.and (.and (.call 0 0 [(.fld a 1)]) (.eq (.len (.fld a 2)) (.fld (.fld a 1) 1))) (.eq (.fld a 3) (.lit (.i 0)))
 let e:X:=.or (.not (.call 0 0 [(.fld (.tok 0) 0)])) (.not (.eq (.len p) (.fld (.fld (.tok 0) 0) 1)))
 let h:X:=.rng .i64 c
 let j:X:=.fld a 0
 let f:X:=.and (.and b (.le (.lit (.i 0)) (.fld a 3))) (.le (.fld a 3) (.lit (.i 1099511627776)))
 let l:X:=.not (.and b (.eq (.fld a 3) (.lit (.i 0))))
 (.need [(.ok 0 [(.fld (.tok 0) 0)]),(.imp (.not e) (.ok 1 [k,p]))] (.br (.or e (.not (.call 1 0 [k,p]))) (.leaf [g]) (.loop 6 1 [g,g,(.lit (.i 0)),(.ite (.not e) (.call 1 1 [k,p]) k)] (.br m (.need [(.le (.lit (.i 0)) (.tok 3)),m] (.br (.eq j (.lit (.i 1))) (.need [(.ok 0 [(.fld a 1)]),(.imp d (.ok 1 [i,(.fld a 2)]))] (.br (.not (.and d (.call 1 0 [i,(.fld a 2)]))) (.leaf [g]) (.need [h] (.back 6 [(.lit (.b .true)),n,c,(.ite d (.call 1 1 [i,(.fld a 2)]) i)])))) (.br (.eq j (.lit (.i 2))) (.br (.not (.and f (.not o))) (.leaf [g]) (.need [h] (.back 6 [o,n,c,i]))) (.br (.eq j (.lit (.i 3))) (.br (.eq j (.lit (.i 3))) (.br (.not f) (.leaf [g]) (.need [h] (.back 6 [o,n,c,i]))) (.br (.eq j (.lit (.i 5))) (.br l (.leaf [g]) (.need [h] (.back 6 [o,n,c,i]))) (.leaf [g]))) (.br (.eq j (.lit (.i 4))) (.br (.not f) (.leaf [g]) (.need [h] (.back 6 [o,n,c,i]))) (.br (.eq j (.lit (.i 5))) (.br l (.leaf [g]) (.need [h] (.back 6 [o,n,c,i]))) (.leaf [g]))))))) (.leaf [(.lit (.b .true))])))))
theorem qim(g0 g1:GfZ):CdZ [(j8,g0),(q0y,g1)] qlo q0e Try.f13 q5u:=fun cd h=>by injection h with h;subst h;kernel_rfl
theorem qk9{g0 g1 g:GfZ}(h0:FOk j8 g0)(h1:FOk q0y g1)(h:HgZ q5u q0e [(j8,g0),(q0y,g1)] g):FOk q0e g:=j6 (qim g0 g1) (.cons h0 (.cons h1 .nil)) rfl rfl qge (by decide) h
def z7:Ct:=⟨20,[.ref (.st 52) {f:=none,lost:=true},.own (.st 37),.val (.st 23)],[(.row 38,false),(.int .i64,false)],[],none,[],[]⟩
theorem q6d:EnZ z7:=fun _ _=>by kernel_rfl
def q7j:Ann:=⟨[0,1,2,4,5,6,7,8,9,11,13,45,46,47,48,53],[(8,⟨[(6,.row 38,false),(7,.int .i64,false),(47,.int .i64,false)],[],[48,49,50,11,51,52,53,54],[]⟩)]⟩
def q0m:Tree:=
 let d:X:=.fld (.fld (.tok 0) 0) 0
 let e:X:=.lit (.i 0)
 let g:X:=.tok 5
 let h:X:=.lit (.i 1)
 let j:X:=.lit (.r [])
 let k:X:=.lit (.i 2)
 let l:X:=.tok 2
 let n:X:=.lit (.i 1954687338211)
 let o:X:=.lit (.i 1759218604390)
 let c:X:=.set (.tok 0) 0 (.set (.fld (.tok 0) 0) 0 (.add d h))
 let f:X:=.call 3 1 [(.tok 0),l,e]
 let m:X:=.add g h
 let b:X:=.app (.row [(.set (.tok 1) 2 (.call 3 0 [(.tok 0),l,e]))]) (.call 4 0 [(.fld f 2)])
 let i:X:=.call 3 1 [c,l,d]
 let a:X:=.app (.row [(.set (.set (.tok 1) 2 (.app (.fld (.tok 1) 2) (.row [(.call 2 0 [k,d])]))) 2 (.app (.fld (.set (.tok 1) 2 (.app (.fld (.tok 1) 2) (.row [(.call 2 0 [k,d])]))) 2) (.call 3 0 [c,l,d])))]) (.call 4 0 [(.fld i 2)])
 (.need [(.ok 0 [l])] (.br (.call 0 0 [l]) (.need [(.rng .i64 (.add d h))] (.need [(.le (.add (.len (.fld (.tok 1) 2)) h) n),(.ok 2 [k,d])] (.need [(.le (.add (.len (.fld (.set (.tok 1) 2 (.app (.fld (.tok 1) 2) (.row [(.call 2 0 [k,d])]))) 2)) (.len (.call 3 0 [c,l,d]))) n),(.ok 3 [c,l,d])] (.need [(.le (.add h (.len (.call 4 0 [(.fld i 2)]))) o),(.ok 4 [(.fld i 2)])] (.loop 8 3 [j,e,e] (.br (.lt g (.len a)) (.need [(.le e g),(.lt g (.len a))] (.need [(.ok 5 [(.get a g)])] (.br (.not (.call 5 0 [(.get a g)])) (.leaf [j,k,i]) (.need [(.rng .i64 m)] (.back 8 [(.tok 3),(.tok 4),m]))))) (.leaf [a,e,i]))))))) (.need [(.ok 3 [(.tok 0),l,e])] (.need [(.le (.add h (.len (.call 4 0 [(.fld f 2)]))) o),(.ok 4 [(.fld f 2)])] (.loop 8 3 [j,e,e] (.br (.lt g (.len b)) (.need [(.le e g),(.lt g (.len b))] (.need [(.ok 5 [(.get b g)])] (.br (.not (.call 5 0 [(.get b g)])) (.leaf [j,k,f]) (.need [(.rng .i64 m)] (.back 8 [(.tok 3),(.tok 4),m]))))) (.leaf [b,e,f])))))))
theorem q6z(g0 g1 g2 g3 g4 g5:GfZ):CdZ [(zq,g0),(qz,g1),(yg,g2),(qa,g3),(yc,g4),(q0e,g5)] q7j z7 Try.f20 q0m:=fun cd h=>by injection h with h;subst h;kernel_rfl
theorem q7l{g0 g1 g2 g3 g4 g5 g:GfZ}(h0:FOk zq g0)(h1:FOk qz g1)(h2:FOk yg g2)(h3:FOk qa g3)(h4:FOk yc g4)(h5:FOk q0e g5)(h:HgZ q0m z7 [(zq,g0),(qz,g1),(yg,g2),(qa,g3),(yc,g4),(q0e,g5)] g):FOk z7 g:=j6 (q6z g0 g1 g2 g3 g4 g5) (.cons h0 (.cons h1 (.cons h2 (.cons h3 (.cons h4 (.cons h5 .nil)))))) rfl rfl q6d (by decide) h
def jp:Ct:=⟨6,[.val (.st 25),.val (.int .i64),.val (.bool)],[(.row 38,false),(.int .i64,false)],[],none,[],[]⟩
theorem qe6:EnZ jp:=fun _ _=>by kernel_rfl
def qiy:Ann:=⟨[0,1,2,3,6,7,8,9,11,22,45,46,47,48],[(6,⟨[(47,.int .i64,false)],[9],[48,49,50,11,51,52,53,54,55,56,57,58],[]⟩)]⟩
def q4f:Tree:=
 let c:X:=.tok 0
 let d:X:=.lit (.i 1)
 let e:X:=.tok 3
 let f:X:=.tok 4
 let b:X:=.fld (.fld c 0) 3
 let g:X:=.fld c 1
 let a:X:=.set (.set (.lit (.a [(.a [(.i 0),(.i 0)]),(.b .false),(.r [])])) 0 (.mk [(.call 1 0 [(.row [(.fld c 0),g])]),(.tok 1)])) 1 (.tok 2)
 (.need [(.ok 0 [c])] (.br (.or (.or (.not (.call 0 0 [c])) (.lt (.tok 1) d)) (.lt (.lit (.i 1099511623776)) (.tok 1))) (.leaf [(.lit (.r [])),d]) (.need [(.ok 1 [(.row [(.fld c 0),g])])] (.loop 6 3 [(.lit (.i 0)),(.set (.lit (.a [(.a [(.s ⟨#[]⟩),(.i 0),(.i 0)]),(.r []),(.r [])])) 0 (.set (.set (.lit (.a [(.s ⟨#[]⟩),(.i 0),(.i 0)])) 0 (.fld (.fld c 0) 2)) 1 (.len b)))] (.br (.lt e (.len b)) (.need [(.le (.lit (.i 0)) e),(.lt e (.len b))] (.need [(.le (.add (.len (.fld f 1)) d) (.lit (.i 2513169434843))),(.ok 2 [(.get b e)])] (.need [(.rng .i64 (.add e d))] (.back 6 [(.add e d),(.set f 1 (.app (.fld f 1) (.row [(.call 2 0 [(.get b e)])])))])))) (.need [(.ok 3 [a,f,g])] (.leaf [(.call 3 0 [a,f,g]),(.call 3 1 [a,f,g])])))))))
theorem qfo(g0 g1 g2 g3:GfZ):CdZ [(q0j,g0),(ja,g1),(y8,g2),(z7,g3)] qiy jp Try.f6 q4f:=fun cd h=>by injection h with h;subst h;kernel_rfl
theorem qhw{g0 g1 g2 g3 g:GfZ}(h0:FOk q0j g0)(h1:FOk ja g1)(h2:FOk y8 g2)(h3:FOk z7 g3)(h:HgZ q4f jp [(q0j,g0),(ja,g1),(y8,g2),(z7,g3)] g):FOk jp g:=j6 (qfo g0 g1 g2 g3) (.cons h0 (.cons h1 (.cons h2 (.cons h3 .nil)))) rfl rfl qe6 (by decide) h
def q2o:Ct:=⟨30,[.val (.st 23),.val (.int .i64),.val (.bool)],[(.row 38,false),(.int .i64,false)],[],none,[],[]⟩
theorem qik:EnZ q2o:=fun _ _=>by kernel_rfl
def qn3:Ann:=⟨[0,1,2,3,6,7,8,9,10,11,12,33,38],[]⟩
def q6r:Tree:=
 let c:X:=.tok 0
 let d:X:=.lit (.i 1)
 let a:X:=.set (.set (.lit (.a [(.a [(.s ⟨#[]⟩),(.i 0),(.i 0)]),(.r []),(.r [])])) 0 (.set (.set (.lit (.a [(.s ⟨#[]⟩),(.i 0),(.i 0)])) 1 (.len (.call 3 0 [c]))) 2 (.tok 1))) 1 (.call 3 0 [c])
 let b:X:=.set (.set (.lit (.a [(.a [(.i 0),(.i 0)]),(.b .false),(.r [])])) 0 (.mk [(.call 2 0 [(.row [c])]),(.add (.tok 1) d)])) 1 (.tok 2)
 (.need [(.ok 0 [c])] (.need [(.imp (.not (.not (.call 0 1 [c]))) (.ok 1 [c,(.call 0 0 [c])]))] (.br (.or (.or (.or (.not (.call 0 1 [c])) (.not (.call 1 0 [c,(.call 0 0 [c])]))) (.lt (.tok 1) d)) (.lt (.lit (.i 1099511623776)) (.tok 1))) (.leaf [(.lit (.r [])),d]) (.need [(.ok 2 [(.row [c])])] (.br (.lt (.lit (.i 1099511625777)) (.call 2 0 [(.row [c])])) (.leaf [(.lit (.r [])),(.lit (.i 2))]) (.need [(.rng .i64 (.add (.tok 1) d))] (.need [(.ok 3 [c])] (.need [(.ok 4 [b,a,c])] (.leaf [(.call 4 0 [b,a,c]),(.call 4 1 [b,a,c])])))))))))
theorem qjw(g0 g1 g2 g3 g4:GfZ):CdZ [(yo,g0),(jo,g1),(ja,g2),(zs,g3),(z7,g4)] qn3 q2o Try.f30 q6r:=fun cd h=>by injection h with h;subst h;kernel_rfl
theorem qnx{g0 g1 g2 g3 g4 g:GfZ}(h0:FOk yo g0)(h1:FOk jo g1)(h2:FOk ja g2)(h3:FOk zs g3)(h4:FOk z7 g4)(h:HgZ q6r q2o [(yo,g0),(jo,g1),(ja,g2),(zs,g3),(z7,g4)] g):FOk q2o g:=j6 (qjw g0 g1 g2 g3 g4) (.cons h0 (.cons h1 (.cons h2 (.cons h3 (.cons h4 .nil))))) rfl rfl qik (by decide) h
def yw:Ct:=⟨82,[.val (.st 23),.val (.int .i64)],[(.int .i64,false)],[],none,[],[]⟩
theorem q85:EnZ yw:=fun _ _=>by kernel_rfl
def qip:Ann:=⟨[0,1,2,4,5,6,16],[(3,⟨[(5,.int .i64,false),(6,.int .i64,false)],[],[7,8,9,10,11,12,13,14,15,16,19,20,21,22,23,24,25,26,27,28,29,17,18],[]⟩)]⟩
def q50:Tree:=(.loop 3 2 [(.lit (.i 1)),(.lit (.i 0))] (.br (.and (.lt (.tok 3) (.len (.fld (.tok 0) 3))) (.lt (.tok 2) (.tok 1))) (.need [(.le (.lit (.i 0)) (.tok 3)),(.lt (.tok 3) (.len (.fld (.tok 0) 3))),(.rng .i64 (.sub (.tok 1) (.tok 2))),(.ok 0 [(.get (.fld (.tok 0) 3) (.tok 3)),(.sub (.tok 1) (.tok 2))]),(.rng .i64 (.add (.tok 2) (.call 0 0 [(.get (.fld (.tok 0) 3) (.tok 3)),(.sub (.tok 1) (.tok 2))])))] (.need [(.rng .i64 (.add (.tok 3) (.lit (.i 1))))] (.back 3 [(.add (.tok 2) (.call 0 0 [(.get (.fld (.tok 0) 3) (.tok 3)),(.sub (.tok 1) (.tok 2))])),(.add (.tok 3) (.lit (.i 1)))]))) (.leaf [(.tok 2)])))
theorem qfv(g0:GfZ):CdZ [(yw,g0)] qip yw Try.f82 q50:=fun cd h=>by injection h with h;subst h;kernel_rfl
theorem qis{g0 g:GfZ}(h0:FOk yw g0)(h:HgZ q50 yw [(yw,g0)] g):FOk yw g:=j6 (qfv g0) (.cons h0 .nil) rfl rfl q85 (by decide) h
def q0f:Ct:=⟨56,[.val (.st 23)],[(.int .i64,false)],[],none,[],[]⟩
theorem qgy:EnZ q0f:=fun _ _=>by kernel_rfl
def qk8:Ann:=⟨[0,1,2],[]⟩
def q5n:Tree:=(.need [(.ok 0 [(.tok 0),(.lit (.i 2001))])] (.leaf [(.call 0 0 [(.tok 0),(.lit (.i 2001))])]))
theorem qix(g0:GfZ):CdZ [(yw,g0)] qk8 q0f Try.f56 q5n:=fun cd h=>by injection h with h;subst h;kernel_rfl
theorem qld{g0 g:GfZ}(h0:FOk yw g0)(h:HgZ q5n q0f [(yw,g0)] g):FOk q0f g:=j6 (qix g0) (.cons h0 .nil) rfl rfl qgy (by decide) h
def q0h:Ct:=⟨103,[.val (.st 23)],[(.bool,false)],[],none,[],[]⟩
theorem qgu:EnZ q0h:=fun _ _=>by kernel_rfl
def qkn:Ann:=⟨[0,1,2,4,5,26,37,54],[]⟩
def q60:Tree:=(.br (.eq (.fld (.tok 0) 0) (.lit (.i 0))) (.leaf [(.and (.and (.and (.le (.lit (.i 0)) (.fld (.tok 0) 1)) (.le (.fld (.tok 0) 1) (.lit (.i 1099511627776)))) (.eq (.fld (.tok 0) 2) (.lit (.s ⟨#[]⟩)))) (.eq (.len (.fld (.tok 0) 3)) (.lit (.i 0))))]) (.br (.eq (.fld (.tok 0) 0) (.lit (.i 1))) (.leaf [(.and (.eq (.fld (.tok 0) 2) (.lit (.s ⟨#[]⟩))) (.eq (.len (.fld (.tok 0) 3)) (.lit (.i 0))))]) (.br (.eq (.fld (.tok 0) 0) (.lit (.i 2))) (.leaf [(.and (.and (.eq (.fld (.tok 0) 1) (.lit (.i 0))) (.le (.slen (.fld (.tok 0) 2)) (.lit (.i 100)))) (.eq (.len (.fld (.tok 0) 3)) (.lit (.i 0))))]) (.br (.eq (.fld (.tok 0) 0) (.lit (.i 3))) (.leaf [(.and (.and (.and (.eq (.fld (.tok 0) 1) (.lit (.i 0))) (.le (.slen (.fld (.tok 0) 2)) (.lit (.i 100)))) (.le (.lit (.i 1)) (.len (.fld (.tok 0) 3)))) (.le (.len (.fld (.tok 0) 3)) (.lit (.i 8))))]) (.leaf [(.lit (.b .false))])))))
theorem qil:CdZ [] qkn q0h Try.f103 q60:=fun cd h=>by injection h with h;subst h;kernel_rfl
theorem qlc{g:GfZ}(h:HgZ q60 q0h [] g):FOk q0h g:=j6 (qil) .nil rfl rfl qgu (by decide) h
def j1:Ct:=⟨80,[.val (.st 23)],[(.bool,false)],[],none,[],[]⟩
theorem q7x:EnZ j1:=fun _ _=>by kernel_rfl
def qii:Ann:=⟨[0,1,2,3,6,11,20],[(4,⟨[(2,.bool,false),(3,.int .i64,false)],[],[7,8,9,10,11,14,15,16,17,18,19,20,12,13],[]⟩)]⟩
def q4c:Tree:=(.need [(.ok 0 [(.tok 0)])] (.br (.not (.call 0 0 [(.tok 0)])) (.leaf [(.lit (.b .false))]) (.loop 4 1 [(.lit (.b .false)),(.lit (.i 0))] (.br (.lt (.tok 2) (.len (.fld (.tok 0) 3))) (.need [(.le (.lit (.i 0)) (.tok 2)),(.lt (.tok 2) (.len (.fld (.tok 0) 3))),(.ok 1 [(.get (.fld (.tok 0) 3) (.tok 2))])] (.br (.not (.call 1 0 [(.get (.fld (.tok 0) 3) (.tok 2))])) (.leaf [(.lit (.b .false))]) (.need [(.rng .i64 (.add (.tok 2) (.lit (.i 1))))] (.back 4 [(.tok 1),(.add (.tok 2) (.lit (.i 1)))])))) (.leaf [(.lit (.b .true))])))))
theorem qh3(g0 g1:GfZ):CdZ [(q0h,g0),(j1,g1)] qii j1 Try.f80 q4c:=fun cd h=>by injection h with h;subst h;kernel_rfl
theorem qie{g0 g1 g:GfZ}(h0:FOk q0h g0)(h1:FOk j1 g1)(h:HgZ q4c j1 [(q0h,g0),(j1,g1)] g):FOk j1 g:=j6 (qh3 g0 g1) (.cons h0 (.cons h1 .nil)) rfl rfl q7x (by decide) h
def yz:Ct:=⟨54,[.val (.st 23)],[(.bool,false)],[],none,[],[]⟩
theorem qep:EnZ yz:=fun _ _=>by kernel_rfl
def qi3:Ann:=⟨[0,1,2],[]⟩
def q4l:Tree:=(.need [(.ok 0 [(.tok 0)]),(.imp (.le (.call 0 0 [(.tok 0)]) (.lit (.i 2000))) (.ok 1 [(.tok 0)]))] (.leaf [(.and (.le (.call 0 0 [(.tok 0)]) (.lit (.i 2000))) (.call 1 0 [(.tok 0)]))]))
theorem qfy(g0 g1:GfZ):CdZ [(q0f,g0),(j1,g1)] qi3 yz Try.f54 q4l:=fun cd h=>by injection h with h;subst h;kernel_rfl
theorem qij{g0 g1 g:GfZ}(h0:FOk q0f g0)(h1:FOk j1 g1)(h:HgZ q4l yz [(q0f,g0),(j1,g1)] g):FOk yz g:=j6 (qfy g0 g1) (.cons h0 (.cons h1 .nil)) rfl rfl qep (by decide) h
def q1q:Ct:=⟨87,[.val (.st 23),.val (.str),.val (.int .i64)],[(.bool,false)],[],none,[],[]⟩
theorem qkz:EnZ q1q:=fun _ _=>by kernel_rfl
def qq7:Ann:=⟨[0,1,2,3,6],[]⟩
def q8a:Tree:=(.leaf [(.and (.and (.or (.eq (.fld (.tok 0) 0) (.lit (.i 2))) (.eq (.fld (.tok 0) 0) (.lit (.i 3)))) (.eq (.fld (.tok 0) 2) (.tok 1))) (.eq (.len (.fld (.tok 0) 3)) (.tok 2)))])
theorem qnl:CdZ [] qq7 q1q Try.f87 q8a:=fun cd h=>by injection h with h;subst h;kernel_rfl
theorem qqq{g:GfZ}(h:HgZ q8a q1q [] g):FOk q1q g:=j6 (qnl) .nil rfl rfl qkz (by decide) h
def q07:Ct:=⟨81,[.val (.st 23)],[(.bool,false)],[],none,[],[]⟩
theorem qdw:EnZ q07:=fun _ _=>by kernel_rfl
def qiu:Ann:=⟨[0,1,2],[]⟩
def q4z:Tree:=(.need [(.ok 0 [(.tok 0),(.lit (.s ⟨#[44]⟩)),(.lit (.i 2))]),(.imp (.not (.call 0 0 [(.tok 0),(.lit (.s ⟨#[44]⟩)),(.lit (.i 2))])) (.ok 0 [(.tok 0),(.lit (.s ⟨#[59]⟩)),(.lit (.i 2))])),(.imp (.not (.or (.call 0 0 [(.tok 0),(.lit (.s ⟨#[44]⟩)),(.lit (.i 2))]) (.call 0 0 [(.tok 0),(.lit (.s ⟨#[59]⟩)),(.lit (.i 2))]))) (.ok 0 [(.tok 0),(.lit (.s ⟨#[45,62]⟩)),(.lit (.i 2))]))] (.leaf [(.or (.or (.call 0 0 [(.tok 0),(.lit (.s ⟨#[44]⟩)),(.lit (.i 2))]) (.call 0 0 [(.tok 0),(.lit (.s ⟨#[59]⟩)),(.lit (.i 2))])) (.call 0 0 [(.tok 0),(.lit (.s ⟨#[45,62]⟩)),(.lit (.i 2))]))]))
theorem qgw(g0:GfZ):CdZ [(q1q,g0)] qiu q07 Try.f81 q4z:=fun cd h=>by injection h with h;subst h;kernel_rfl
theorem qiz{g0 g:GfZ}(h0:FOk q1q g0)(h:HgZ q4z q07 [(q1q,g0)] g):FOk q07 g:=j6 (qgw g0) (.cons h0 .nil) rfl rfl qdw (by decide) h
def yj:Ct:=⟨85,[.val (.st 23)],[(.st 23,false)],[],none,[],[]⟩
theorem q6j:EnZ yj:=fun _ _=>by kernel_rfl
def qgr:Ann:=⟨[0,1,2,3,4,16],[(3,⟨[(4,.int .i64,false)],[3],[12,13,14,15,16,19,20,21,22,23,24,25,26,27,28,29,17,18],[]⟩)]⟩
def q3r:Tree:=(.loop 3 1 [(.lit (.i 0)),(.set (.set (.set (.lit (.a [(.i 0),(.i 0),(.s ⟨#[]⟩),(.r [])])) 0 (.fld (.tok 0) 0)) 1 (.fld (.tok 0) 1)) 2 (.fld (.tok 0) 2))] (.br (.lt (.tok 1) (.len (.fld (.tok 0) 3))) (.need [(.le (.add (.len (.fld (.tok 2) 3)) (.lit (.i 1))) (.lit (.i 2513169434843))),(.ok 0 [(.get (.fld (.tok 0) 3) (.tok 1))]),(.le (.lit (.i 0)) (.tok 1)),(.lt (.tok 1) (.len (.fld (.tok 0) 3)))] (.need [(.rng .i64 (.add (.tok 1) (.lit (.i 1))))] (.back 3 [(.add (.tok 1) (.lit (.i 1))),(.set (.tok 2) 3 (.app (.fld (.tok 2) 3) (.row [(.call 0 0 [(.get (.fld (.tok 0) 3) (.tok 1))])])))]))) (.leaf [(.tok 2)])))
theorem qdu(g0:GfZ):CdZ [(yj,g0)] qgr yj Try.f85 q3r:=fun cd h=>by injection h with h;subst h;kernel_rfl
theorem qfb{g0 g:GfZ}(h0:FOk yj g0)(h:HgZ q3r yj [(yj,g0)] g):FOk yj g:=j6 (qdu g0) (.cons h0 .nil) rfl rfl q6j (by decide) h
def q05:Ct:=⟨59,[.val (.st 23)],[(.st 23,false)],[],none,[],[]⟩
theorem qe1:EnZ q05:=fun _ _=>by kernel_rfl
def qi5:Ann:=⟨[0,1,2,5],[]⟩
def q4m:Tree:=(.need [(.ok 0 [(.tok 0)])] (.br (.not (.call 0 0 [(.tok 0)])) (.leaf [(.lit (.a [(.i 0),(.i 0),(.s ⟨#[]⟩),(.r [])]))]) (.need [(.ok 1 [(.tok 0)])] (.leaf [(.call 1 0 [(.tok 0)])]))))
theorem qg5(g0 g1:GfZ):CdZ [(yz,g0),(yj,g1)] qi5 q05 Try.f59 q4m:=fun cd h=>by injection h with h;subst h;kernel_rfl
theorem qi6{g0 g1 g:GfZ}(h0:FOk yz g0)(h1:FOk yj g1)(h:HgZ q4m q05 [(yz,g0),(yj,g1)] g):FOk q05 g:=j6 (qg5 g0 g1) (.cons h0 (.cons h1 .nil)) rfl rfl qe1 (by decide) h
def jj:Ct:=⟨55,[.val (.st 23)],[(.st 23,false),(.bool,false)],[],none,[],[]⟩
theorem q61:EnZ jj:=fun _ _=>by kernel_rfl
def qel:Ann:=⟨[0,1,2,3,4,5,6,7,10,16,20],[]⟩
def q3d:Tree:=(.br (.eq (.fld (.tok 0) 0) (.lit (.i 0))) (.leaf [(.set (.set (.set (.lit (.a [(.i 0),(.i 0),(.s ⟨#[]⟩),(.r [])])) 0 (.lit (.i 3))) 2 (.lit (.s ⟨#[99,97,108,108]⟩))) 3 (.row [(.tok 0)])),(.lit (.b .true))]) (.br (.eq (.fld (.tok 0) 0) (.lit (.i 1))) (.leaf [(.lit (.a [(.i 0),(.i 0),(.s ⟨#[]⟩),(.r [])])),(.lit (.b .false))]) (.need [(.ok 0 [(.tok 0)])] (.br (.not (.call 0 0 [(.tok 0)])) (.need [(.ok 1 [(.tok 0)])] (.leaf [(.call 1 0 [(.tok 0)]),(.lit (.b .true))])) (.need [(.lit (.b .true)),(.lt (.lit (.i 0)) (.len (.fld (.tok 0) 3))),(.ok 2 [(.get (.fld (.tok 0) 3) (.lit (.i 0)))])] (.need [(.lit (.b .true)),(.lt (.lit (.i 1)) (.len (.fld (.tok 0) 3))),(.ok 2 [(.get (.fld (.tok 0) 3) (.lit (.i 1)))])] (.leaf [(.set (.set (.set (.lit (.a [(.i 0),(.i 0),(.s ⟨#[]⟩),(.r [])])) 0 (.lit (.i 3))) 2 (.fld (.tok 0) 2)) 3 (.row [(.call 2 0 [(.get (.fld (.tok 0) 3) (.lit (.i 0)))]),(.call 2 0 [(.get (.fld (.tok 0) 3) (.lit (.i 1)))])])),(.and (.call 2 1 [(.get (.fld (.tok 0) 3) (.lit (.i 0)))]) (.call 2 1 [(.get (.fld (.tok 0) 3) (.lit (.i 1)))]))])))))))
theorem qdl(g0 g1 g2:GfZ):CdZ [(q07,g0),(q05,g1),(jj,g2)] qel jj Try.f55 q3d:=fun cd h=>by injection h with h;subst h;kernel_rfl
theorem qf0{g0 g1 g2 g:GfZ}(h0:FOk q07 g0)(h1:FOk q05 g1)(h2:FOk jj g2)(h:HgZ q3d jj [(q07,g0),(q05,g1),(jj,g2)] g):FOk jj g:=j6 (qdl g0 g1 g2) (.cons h0 (.cons h1 (.cons h2 .nil))) rfl rfl q61 (by decide) h
def zy:Ct:=⟨65,[.val (.st 23),.val (.st 23)],[(.bool,false)],[],none,[],[]⟩
theorem q4b:EnZ zy:=fun _ _=>by kernel_rfl
def qbo:Ann:=⟨[0,1,2,3,4,5,33,38,52],[(4,⟨[(4,.bool,false),(5,.int .i64,false)],[],[34,35,36,37,38,41,42,43,44,45,46,47,48,49,50,51,52,39,40],[]⟩)]⟩
def q2f:Tree:=(.br (.or (.or (.or (.not (.eq (.fld (.tok 0) 0) (.fld (.tok 1) 0))) (.not (.eq (.fld (.tok 0) 1) (.fld (.tok 1) 1)))) (.not (.eq (.fld (.tok 0) 2) (.fld (.tok 1) 2)))) (.not (.eq (.len (.fld (.tok 0) 3)) (.len (.fld (.tok 1) 3))))) (.leaf [(.lit (.b .false))]) (.loop 4 2 [(.lit (.b .false)),(.lit (.i 0))] (.br (.lt (.tok 3) (.len (.fld (.tok 0) 3))) (.need [(.ok 0 [(.get (.fld (.tok 0) 3) (.tok 3)),(.get (.fld (.tok 1) 3) (.tok 3))]),(.le (.lit (.i 0)) (.tok 3)),(.lt (.tok 3) (.len (.fld (.tok 1) 3))),(.le (.lit (.i 0)) (.tok 3)),(.lt (.tok 3) (.len (.fld (.tok 0) 3)))] (.br (.not (.call 0 0 [(.get (.fld (.tok 0) 3) (.tok 3)),(.get (.fld (.tok 1) 3) (.tok 3))])) (.leaf [(.lit (.b .false))]) (.need [(.rng .i64 (.add (.tok 3) (.lit (.i 1))))] (.back 4 [(.tok 2),(.add (.tok 3) (.lit (.i 1)))])))) (.leaf [(.lit (.b .true))]))))
theorem qb5(g0:GfZ):CdZ [(zy,g0)] qbo zy Try.f65 q2f:=fun cd h=>by injection h with h;subst h;kernel_rfl
theorem qbp{g0 g:GfZ}(h0:FOk zy g0)(h:HgZ q2f zy [(zy,g0)] g):FOk zy g:=j6 (qb5 g0) (.cons h0 .nil) rfl rfl q4b (by decide) h
def q01:Ct:=⟨31,[.val (.st 23),.val (.st 23)],[(.bool,false)],[],none,[],[]⟩
theorem qg4:EnZ q01:=fun _ _=>by kernel_rfl
def qme:Ann:=⟨[0,1,2,3,4],[]⟩
def q5w:Tree:=(.need [(.ok 0 [(.tok 0)]),(.imp (.call 0 0 [(.tok 0)]) (.ok 0 [(.tok 1)])),(.imp (.and (.call 0 0 [(.tok 0)]) (.call 0 0 [(.tok 1)])) (.ok 1 [(.tok 0),(.tok 1)]))] (.leaf [(.and (.and (.call 0 0 [(.tok 0)]) (.call 0 0 [(.tok 1)])) (.call 1 0 [(.tok 0),(.tok 1)]))]))
theorem qj0(g0 g1:GfZ):CdZ [(yz,g0),(zy,g1)] qme q01 Try.f31 q5w:=fun cd h=>by injection h with h;subst h;kernel_rfl
theorem qm6{g0 g1 g:GfZ}(h0:FOk yz g0)(h1:FOk zy g1)(h:HgZ q5w q01 [(yz,g0),(zy,g1)] g):FOk q01 g:=j6 (qj0 g0 g1) (.cons h0 (.cons h1 .nil)) rfl rfl qg4 (by decide) h
def jk:Ct:=⟨10,[.val (.row 24),.val (.row 24)],[(.bool,false)],[],none,[],[]⟩
theorem qbw:EnZ jk:=fun _ _=>by kernel_rfl
def qe3:Ann:=⟨[0,1,4,5,10,14,26],[(4,⟨[(4,.bool,false),(5,.int .i64,false)],[],[11,12,13,14,17,18,19,20,21,22,23,24,25,26,15,16],[]⟩)]⟩
def q39:Tree:=(.br (.not (.eq (.len (.tok 0)) (.len (.tok 1)))) (.leaf [(.lit (.b .false))]) (.loop 4 2 [(.lit (.b .false)),(.lit (.i 0))] (.br (.lt (.tok 3) (.len (.tok 0))) (.need [(.ok 0 [(.get (.tok 0) (.tok 3)),(.get (.tok 1) (.tok 3))]),(.le (.lit (.i 0)) (.tok 3)),(.lt (.tok 3) (.len (.tok 1))),(.le (.lit (.i 0)) (.tok 3)),(.lt (.tok 3) (.len (.tok 0)))] (.br (.not (.call 0 0 [(.get (.tok 0) (.tok 3)),(.get (.tok 1) (.tok 3))])) (.leaf [(.lit (.b .false))]) (.need [(.rng .i64 (.add (.tok 3) (.lit (.i 1))))] (.back 4 [(.tok 2),(.add (.tok 3) (.lit (.i 1)))])))) (.leaf [(.lit (.b .true))]))))
theorem qdb(g0:GfZ):CdZ [(q01,g0)] qe3 jk Try.f10 q39:=fun cd h=>by injection h with h;subst h;kernel_rfl
theorem qdx{g0 g:GfZ}(h0:FOk q01 g0)(h:HgZ q39 jk [(q01,g0)] g):FOk jk g:=j6 (qdb g0) (.cons h0 .nil) rfl rfl qbw (by decide) h
def q4s:Ct:=⟨27,[.val (.str)],[(.st 23,false)],[],none,[],[]⟩
theorem qnb:EnZ q4s:=fun _ _=>by kernel_rfl
def qs2:Ann:=⟨[0,2],[]⟩
def q9q:Tree:=(.leaf [(.set (.set (.lit (.a [(.i 0),(.i 0),(.s ⟨#[]⟩),(.r [])])) 0 (.lit (.i 2))) 2 (.tok 0))])
theorem qqg:CdZ [] qs2 q4s Try.f27 q9q:=fun cd h=>by injection h with h;subst h;kernel_rfl
theorem qs6{g:GfZ}(h:HgZ q9q q4s [] g):FOk q4s g:=j6 (qqg) .nil rfl rfl qnb (by decide) h
def q4e:Ct:=⟨28,[.val (.str),.val (.row 24)],[(.st 23,false)],[],none,[],[]⟩
theorem qnc:EnZ q4e:=fun _ _=>by kernel_rfl
def qsi:Ann:=⟨[0,1,4],[]⟩
def q9l:Tree:=(.leaf [(.set (.set (.set (.lit (.a [(.i 0),(.i 0),(.s ⟨#[]⟩),(.r [])])) 0 (.lit (.i 3))) 2 (.tok 0)) 3 (.tok 1))])
theorem qpe:CdZ [] qsi q4e Try.f28 q9l:=fun cd h=>by injection h with h;subst h;kernel_rfl
theorem qst{g:GfZ}(h:HgZ q9l q4e [] g):FOk q4e g:=j6 (qpe) .nil rfl rfl qnc (by decide) h
def q4i:Ct:=⟨29,[.val (.int .i64)],[(.st 23,false)],[],none,[],[]⟩
theorem qc9:EnZ q4i:=fun _ _=>by kernel_rfl
def qsb:Ann:=⟨[0,2],[]⟩
def q9o:Tree:=(.leaf [(.set (.lit (.a [(.i 0),(.i 0),(.s ⟨#[]⟩),(.r [])])) 1 (.tok 0))])
theorem qpd:CdZ [] qsb q4i Try.f29 q9o:=fun cd h=>by injection h with h;subst h;kernel_rfl
theorem qta{g:GfZ}(h:HgZ q9o q4i [] g):FOk q4i g:=j6 (qpd) .nil rfl rfl qc9 (by decide) h
def jf:Ct:=⟨11,[.val (.str),.val (.int .i64)],[(.bool,false)],[],none,[],[]⟩
theorem qbu:EnZ jf:=fun _ _=>by kernel_rfl
def qez:Ann:=⟨[0,1,4,5,6,12,18],[]⟩
def zz:Tree:=
 let a:X:=.eq (.tok 0) (.lit (.s ⟨#[92,43]⟩))
 let b:X:=.eq (.tok 1) (.lit (.i 1))
 let c:X:=.eq (.tok 0) (.lit (.s ⟨#[111,110,99,101]⟩))
 let d:X:=.lit (.b .false)
 let e:X:=.eq (.tok 1) (.lit (.i 2))
 let f:X:=.eq (.tok 0) (.lit (.s ⟨#[44]⟩))
 let g:X:=.eq (.tok 0) (.lit (.s ⟨#[59]⟩))
 let h:X:=.eq (.tok 0) (.lit (.s ⟨#[45,62]⟩))
 let i:X:=.eq (.tok 1) (.lit (.i 0))
 let j:X:=.eq (.tok 0) (.lit (.s ⟨#[116,114,117,101]⟩))
 let k:X:=.eq (.tok 0) (.lit (.s ⟨#[102,97,105,108]⟩))
 (.br j (.br j (.leaf [i]) (.br f (.br f (.leaf [e]) (.br a (.br a (.leaf [b]) (.leaf [d])) (.br c (.leaf [b]) (.leaf [d])))) (.br g (.br g (.leaf [e]) (.br a (.br a (.leaf [b]) (.leaf [d])) (.br c (.leaf [b]) (.leaf [d])))) (.br h (.leaf [e]) (.br a (.br a (.leaf [b]) (.leaf [d])) (.br c (.leaf [b]) (.leaf [d]))))))) (.br k (.br k (.leaf [i]) (.br f (.br f (.leaf [e]) (.br a (.br a (.leaf [b]) (.leaf [d])) (.br c (.leaf [b]) (.leaf [d])))) (.br g (.br g (.leaf [e]) (.br a (.br a (.leaf [b]) (.leaf [d])) (.br c (.leaf [b]) (.leaf [d])))) (.br h (.leaf [e]) (.br a (.br a (.leaf [b]) (.leaf [d])) (.br c (.leaf [b]) (.leaf [d]))))))) (.br (.eq (.tok 0) (.lit (.s ⟨#[33]⟩))) (.leaf [i]) (.br f (.br f (.leaf [e]) (.br a (.br a (.leaf [b]) (.leaf [d])) (.br c (.leaf [b]) (.leaf [d])))) (.br g (.br g (.leaf [e]) (.br a (.br a (.leaf [b]) (.leaf [d])) (.br c (.leaf [b]) (.leaf [d])))) (.br h (.leaf [e]) (.br a (.br a (.leaf [b]) (.leaf [d])) (.br c (.leaf [b]) (.leaf [d])))))))))
theorem qdh:CdZ [] qez jf Try.f11 zz:=fun cd h=>by injection h with h;subst h;kernel_rfl
theorem qey{g:GfZ}(h:HgZ zz jf [] g):FOk jf g:=j6 (qdh) .nil rfl rfl qbu (by decide) h
abbrev i64(n:Int):Prop:= -9223372036854775808≤n∧n≤9223372036854775807
theorem wfI{d:D}(h:Wf d (.int .i64)):∃n,d=.i n∧i64 n:=by
 obtain⟨n,rfl,hn⟩:=h.int;exact⟨n,rfl,qxk.1 hn⟩
inductive Te where
 |mk(k n:Int)(s:ByteArray)(l:List Te)
instance:Inhabited Te:=⟨.mk 0 0 ⟨#[]⟩ []⟩
def Te.k:Te→Int|.mk k _ _ _=>k
def Te.n:Te→Int|.mk _ n _ _=>n
def Te.s:Te→ByteArray|.mk _ _ s _=>s
def Te.l:Te→List Te|.mk _ _ _ l=>l
mutual
theorem Te.ind0{P:Te→Prop}(h:∀k n s l,(∀t∈l,P t)→P (.mk k n s l)):∀t,P t
 |.mk k n s l=>h k n s l (Te.inds h l)
theorem Te.inds{P:Te→Prop}(h:∀k n s l,(∀t∈l,P t)→P (.mk k n s l)):∀(l:List Te),∀t∈l,P t
 |[],_,ht=>by cases ht
 |u::l,t,ht=>by
  exact(uL.1 ht).elim (fun e=>e▸Te.ind0 h u) fun h'=>Te.inds h l t h'
end
mutual
def eT:Te→D
 |.mk k n s l=>.a [.i k,.i n,.s s,.r (eTs l)]
def eTs:List Te→List D
 |[]=>[]
 |t::l=>eT t::eTs l
end
theorem qw6:∀l,eTs l=l.map eT
 |[]=>rfl
 |t::l=>by rw[eTs,qw6 l,List.map_cons]
theorem q64(k n:Int)(s:ByteArray)(l:List Te):eT (.mk k n s l)=.a [.i k,.i n,.s s,.r (l.map eT)]:=by rw[eT,qw6]
mutual
def dT:D→Te
 |.a [.i k,.i n,.s s,.r l]=>.mk k n s (dTs l)
 |_=>.mk 0 0 ⟨#[]⟩ []
def dTs:List D→List Te
 |[]=>[]
 |d::l=>dT d::dTs l
end
mutual
theorem zm:∀t,dT (eT t)=t
 |.mk k n s l=>by simp only[eT,dT,qxo l]
theorem qxo:∀l,dTs (eTs l)=l
 |[]=>rfl
 |t::l=>by simp only[eTs,dTs,zm t,qxo l]
end
theorem z8b{t u:Te}(h:eT t=eT u):t=u:=by rw[←zm t,h,zm u]
theorem z6u(t u:Te):(eT t=eT u)=(t=u):=propext ⟨z8b,fun h=>h▸rfl⟩
theorem z0e(t:Te):(eT t).fld 0=.i t.k:=by cases t;rfl
theorem z1e(t:Te):(eT t).fld 1=.i t.n:=by cases t;rfl
theorem z3q(t:Te):(eT t).fld 2=.s t.s:=by cases t;rfl
theorem za1(t:Te):(eT t).fld 3=.r (t.l.map eT):=by cases t;rw[q64];rfl
theorem qja(k n:Int)(s:ByteArray)(l:List Te)(x:Te):D.a ((eT (.mk k n s l)).fs.set 3 (.r (l.map eT++[eT x])))=eT (.mk k n s (l++[x])):=by
 rw[q64,q64];simp[D.fs]
def zT:Te:=.mk 0 0 ⟨#[]⟩ []
theorem zav:D.a [.i 0,.i 0,.s ⟨#[]⟩,.r []]=eT zT:=rfl
theorem gnT:type_of% (uE @zm (uE @z0e (uE @z1e (uE @z3q (uE @za1 (uE @z6u @zav)))))):=uE @zm (uE @z0e (uE @z1e (uE @z3q (uE @za1 (uE @z6u @zav)))))
mutual
def szT:Te→Nat
 |.mk _ _ _ l=>q2x l+1
def q2x:List Te→Nat
 |[]=>0
 |t::l=>szT t+q2x l
end
theorem qje(t:Te):1≤szT t:=by cases t;rw[szT];omega
theorem qkd{t:Te}:∀{l:List Te},t∈l→szT t≤q2x l
 |u::l,h=>by
  rcases uL.1 h with rfl|h
  ·rw[q2x];omega
  ·have:=qkd h;rw[q2x];omega
theorem z59{t u:Te}(h:u∈t.l):szT u<szT t:=by
 cases t;have:=qkd h;rw[szT];exact Nat.lt_succ_of_le this
theorem qal:∀(l m:List Te),q2x (l++m)=q2x l+q2x m
 |[],m=>by simp[q2x]
 |t::l,m=>by rw[uH,q2x,q2x,qal l m];omega
theorem qfd{l:List Te}{k:Nat}(h:k<l.length):q2x (l.take (k+1))=q2x (l.take k)+szT (l.getD k default):=by
 rw[ji h,qal];simp[q2x]
theorem qwm(t:Te):szT t=q2x t.l+1:=by cases t;rw[szT];rfl
mutual
def okT:Te→Prop
 |.mk k n s l=>i64 k∧i64 n∧s.size≤LIM∧l.length≤2513169434843∧z5u l
def z5u:List Te→Prop
 |[]=>True
 |t::l=>okT t∧z5u l
end
theorem qt4:∀{l:List Te},z5u l↔∀t∈l,okT t
 |[]=>⟨fun _ t h=>(by cases h),fun _=>trivial⟩
 |t::l=>by rw[z5u,qt4];simp
theorem z1a{k n:Int}{s:ByteArray}{l:List Te}:okT (.mk k n s l)↔i64 k∧i64 n∧s.size≤LIM∧l.length≤2513169434843∧∀t∈l,okT t:=by rw[okT,qt4]
theorem okT.l{t:Te}(h:okT t):t.l.length≤2513169434843:=by cases t;exact(z1a.1 h).2.2.2.1
theorem qx8(d:D):(Wf d q2g→∃t,d=eT t∧okT t)∧(Wf d q87→∃l:List Te,d=.r (l.map eT)∧l.length≤2513169434843∧∀t∈l,okT t):=by
 have noS:∀{d:D},Wf d q2g→∃l,d=.a l:=fun h=>let ⟨l,e,_⟩:=h.st_of (fs:=[.int .i64,.int .i64,.str,q87]) rfl;⟨l,e⟩
 have noR:∀{d:D},Wf d q87→∃l,d=.r l:=fun h=>let ⟨l,e,_⟩:=h.row_of (te:=q2g) rfl;⟨l,e⟩
 induction d using D.ind with
 |hu=>exact⟨fun h=>(by obtain⟨_,e⟩:=noS h;cases e),fun h=>(by obtain⟨_,e⟩:=noR h;cases e)⟩
 |hi n=>exact⟨fun h=>(by obtain⟨_,e⟩:=noS h;cases e),fun h=>(by obtain⟨_,e⟩:=noR h;cases e)⟩
 |hb n=>exact⟨fun h=>(by obtain⟨_,e⟩:=noS h;cases e),fun h=>(by obtain⟨_,e⟩:=noR h;cases e)⟩
 |hs n=>exact⟨fun h=>(by obtain⟨_,e⟩:=noS h;cases e),fun h=>(by obtain⟨_,e⟩:=noR h;cases e)⟩
 |hm n=>exact⟨fun h=>(by obtain⟨_,e⟩:=noS h;cases e),fun h=>(by obtain⟨_,e⟩:=noR h;cases e)⟩
 |ha l ih=>
  refine⟨fun h=>?_,fun h=>(by obtain⟨_,e⟩:=noR h;cases e)⟩;obtain⟨ds,e,hl⟩:=h.st_of (fs:=[.int .i64,.int .i64,.str,q87]) rfl;injection e with e;subst e;obtain⟨d0,r,rfl,h0,hl⟩:=q76 hl;obtain⟨d1,r,rfl,h1,hl⟩:=q76 hl;obtain⟨d2,d3,rfl,h2,h3⟩:=quv hl;obtain⟨k,rfl,hk⟩:=wfI h0;obtain⟨n,rfl,hn⟩:=wfI h1;obtain⟨s,rfl,hs⟩:=h2.str;obtain⟨ts,rfl,h4,h5⟩:=(ih d3 (by simp)).2 h3;exact⟨.mk k n s ts,(q64 _ _ _ _).symm,z1a.2 ⟨hk,hn,hs,h4,h5⟩⟩
 |hr l ih=>
  refine⟨fun h=>(by obtain⟨_,e⟩:=noS h;cases e),fun h=>?_⟩;obtain⟨l',e,h1,h2⟩:=h.row_of (te:=q2g) rfl;injection e with e;subst e;obtain⟨m,rfl,h3⟩:=qgd (e:=eT) (P:=okT) fun x hx=>(ih x hx).1 (h2 x hx);have e:LM q2g=2513169434843:=by kernel_rfl
  rw[e,uV] at h1;exact⟨m,rfl,h1,h3⟩
theorem wfT{d:D}(h:Wf d q2g):∃t,d=eT t∧okT t:=(qx8 d).1 h
theorem qq1{d:D}(h:Wf d q87):∃l:List Te,d=.r (l.map eT)∧l.length≤2513169434843∧∀t∈l,okT t:=(qx8 d).2 h
def q88(t:Te):Bool:=
 if t.k=0 then decide (0≤t.n)&&(decide (t.n≤1099511627776)&&(decide (t.s=⟨#[]⟩)&&decide ((t.l.length:Int)=0)))
 else if t.k=1 then decide (t.s=⟨#[]⟩)&&decide ((t.l.length:Int)=0)
 else if t.k=2 then decide (t.n=0)&&(decide ((t.s.size:Int)≤100)&&decide ((t.l.length:Int)=0))
 else if t.k=3 then decide (t.n=0)&&(decide ((t.s.size:Int)≤100)&&(decide (1≤(t.l.length:Int))&&decide ((t.l.length:Int)≤8)))
 else false
mutual
def yi:Te→Bool
 |.mk k n s l=>q88 (.mk k n s l)&&q54 l
def q54:List Te→Bool
 |[]=>true
 |t::l=>yi t&&q54 l
end
theorem q3l:∀{l:List Te},q54 l=true↔∀t∈l,yi t=true
 |[]=>⟨fun _ t h=>(by cases h),fun _=>rfl⟩
 |t::l=>by rw[q54,gnB,q3l];simp
theorem qcz(t:Te):yi t=(q88 t&&(kB t.l.length).all fun i=>yi (t.l.getD i default)):=by
 cases t with
 |mk k n s l=>
  rw[yi]
  congr 1
  rw[Bool.eq_iff_iff,q3l,uU];refine⟨fun h i hi=>h _ (qkw (uW.1 hi)),fun h t ht=>?_⟩;obtain⟨i,hi,rfl⟩:=List.getElem_of_mem ht;have:=h i (uW.2 hi);rwa [show(Te.mk k n s l).l.getD i default=l[i] by simp[Te.l,gnG,gnK hi]] at this
def zu(t:Te):Bool:=decide (szT t≤2000)&&yi t
mutual
def idT:Te→Te→Bool
 |.mk k n s l,.mk k' n' s' l'=>decide (k=k')&&(decide (n=n')&&(decide (s=s')&&qu6 l l'))
def qu6:List Te→List Te→Bool
 |[],[]=>true
 |t::l,u::m=>idT t u&&qu6 l m
 |_,_=>false
end
mutual
theorem qbi:∀(t u:Te),idT t u=true↔t=u
 |.mk k n s l,.mk k' n' s' l'=>by simp[idT,qsl l l']
theorem qsl:∀(l m:List Te),qu6 l m=true↔l=m
 |[],[]=>by simp[qu6]
 |t::l,u::m=>by simp[qu6,qbi t u,qsl l m]
 |[],_::_=>by simp[qu6]
 |_::_,[]=>by simp[qu6]
end
instance:DecidableEq Te:=fun t u=>if h:idT t u=true then .isTrue ((qbi t u).1 h) else .isFalse fun e=>h ((qbi t u).2 e)
def mT(ds:List D):Nat:=szT (dT (ds.getD 0 .u))
def z53:List D→Option (List D)
 |[t,m]=>if 1≤m.int then some [.i (min (szT (dT t):Int) m.int)] else none
 |_=>none
def gTi(f:Te→Int):List D→Option (List D)
 |[t]=>some [.i (f (dT t))]
 |_=>none
def gTb(f:Te→Bool):List D→Option (List D)
 |[t]=>some [.b (f (dT t))]
 |_=>none
def gTT(f:Te→Te):List D→Option (List D)
 |[t]=>some [eT (f (dT t))]
 |_=>none
def q7n(f:Te→Te→Bool):List D→Option (List D)
 |[t,v]=>some [.b (f (dT t) (dT v))]
 |_=>none
theorem z64(k n:Int)(s:ByteArray)(l:List Te):(Te.mk k n s l).l=l:=rfl
theorem q1j{l:List Te}{k:Nat}(h:k<l.length):(D.r (l.map eT)).get (k:Int)=eT (l.getD k default):=z9t eT h
theorem q37{t:Te}{k:Nat}(h:k<t.l.length):szT (t.l.getD k default)<szT t:=z59 (qkw h)
theorem qlk:FOk yw z53:=q29 (m:=mT) q85 fun N ih=>qis ih fun ds outs hw hg=>by
 obtain⟨d,r,rfl,hd,e,r',rfl,he,rfl⟩:=hw;obtain⟨t,rfl,ht⟩:=wfT hd;obtain⟨m,rfl,hm⟩:=wfI he;simp only[jt,mT,z53,uC,zm,q04,uB,uA] at hg;obtain⟨hsz,h1,rfl⟩:=hg;have hl:=ht.l;rw[q50,j4];refine⟨fun st=>∃k:Nat,k≤t.l.length∧st=[.i (min ((q2x (t.l.take k):Int)+1) m),.i k],fun st=>t.l.length - (st.getD 1 .u).int.toNat,⟨0,uF _,by simp[X.evs,X.ev,q2x];omega⟩,?_⟩;rintro st - ⟨k,hk,rfl⟩;rw[yb];refine⟨fun hlt=>?_,fun hlt=>?_⟩
 ·simp only[gnZ,gnT,gnB] at hlt;obtain⟨hkl,hlm⟩:=hlt;have hkl':k<t.l.length:=by omega
  have ha:=q37 hkl';have hs:=qfd hkl';have hmn:1≤m - min ((q2x (t.l.take k):Int)+1) m:=by omega
  simp only[gnZ,gnT,q1j hkl',jt,mT,z53,if_pos hmn,if_pos (show szT (t.l.getD k default)<N by omega)];refine⟨⟨by omega,by omega,by omega,by omega⟩,⟨by omega,by omega⟩,?_⟩;rw[q0t,if_pos rfl];refine⟨⟨k+1,by omega,?_⟩,?_⟩
  ·rw[hs];simp;omega
  ·simp[D.int];omega
 ·simp only[gnZ,gnT,uK] at hlt;simp only[gnZ,gnT];have hz:=qwm t;have:min ((q2x (t.l.take k):Int)+1) m=min (szT t:Int) m:=by
   rcases hlt with h|h
   ·have:k=t.l.length:=by omega
    subst this;rw[uG];omega
   ·have h2:=qal (t.l.take k) (t.l.drop k);rw[uJ] at h2;omega
  rw[this]
theorem qnq:FOk q0f (gTi fun t=>min (szT t:Int) 2001):=qld qlk fun ds outs hw hg=>by
 obtain⟨d,r,rfl,hd,rfl⟩:=hw;obtain⟨t,rfl,ht⟩:=wfT hd;simp only[gTi,zm,uA] at hg;subst hg;simp[q5n,gnZ,gnT,z53]
theorem qne:FOk q0h (gTb q88):=qlc fun ds outs hw hg=>by
 obtain⟨d,r,rfl,hd,rfl⟩:=hw;obtain⟨t,rfl,ht⟩:=wfT hd;simp only[gTb,zm,uA] at hg;subst hg;simp only[q60,gnZ,gnT,q88];by_cases h0:t.k=0
 ·simp[h0,uD]
 ·by_cases h1:t.k=1
  ·simp[h1]
  ·by_cases h2:t.k=2
   ·simp[h2,uD]
   ·by_cases h3:t.k=3
    ·simp[h3,uD]
    ·simp[h0,h1,h2,h3]
theorem q6g(t:Te):yi t=true↔q88 t=true∧∀j,j<t.l.length→yi (t.l.getD j default)=true:=by
 rw[qcz,gnB,uU];simp
theorem qk0:FOk j1 (gTb yi):=q29 (m:=mT) q7x fun N ih=>qie qne ih fun ds outs hw hg=>by
 obtain⟨d,r,rfl,hd,rfl⟩:=hw;obtain⟨t,rfl,ht⟩:=wfT hd;simp only[jt,mT,gTb,uC,zm,q04,uB,uA] at hg;obtain⟨hsz,rfl⟩:=hg;have hl:=ht.l;simp only[q4c,gnZ,gnT,gTb];refine⟨fun hn=>?_,fun hn=>?_⟩
 ·rw[qcz,show q88 t=false by simpa using hn];rfl
 have hn:q88 t=true:=by simpa using hn
 rw[j4];refine⟨fun st=>∃k:Nat,k≤t.l.length∧st=[.b false,.i k]∧∀j,j<k→yi (t.l.getD j default)=true,fun st=>t.l.length - (st.getD 1 .u).int.toNat,⟨0,uF _,rfl,fun j hj=>absurd hj (uI _)⟩,?_⟩;rintro st - ⟨k,hk,rfl,hP⟩;rw[yb];refine⟨fun hlt=>?_,fun hlt=>?_⟩
 ·simp only[gnZ,gnT] at hlt;have hkl':k<t.l.length:=by omega
  have ha:=q37 hkl';simp only[gnZ,gnT,q1j hkl',jt,mT,gTb,if_pos (show szT (t.l.getD k default)<N by omega)];refine⟨⟨by omega,by omega⟩,fun hx=>?_,fun hx=>⟨⟨by omega,by omega⟩,?_⟩⟩
  ·have:yi t=false:=by
    cases hh:yi t with
    |false=>rfl
    |true=>rw[((q6g t).1 hh).2 k hkl'] at hx;cases hx
   rw[this]
  ·rw[q0t,if_pos rfl];refine⟨⟨k+1,by omega,by simp,q8z hP (by simpa using hx)⟩,?_⟩;simp[D.int];omega
 ·simp only[gnZ,gnT] at hlt⊢;have:k=t.l.length:=by omega
  subst this;rw[(q6g t).2 ⟨hn,hP⟩]
theorem qan:FOk yz (gTb zu):=qij qnq qk0 fun ds outs hw hg=>by
 obtain⟨d,r,rfl,hd,rfl⟩:=hw;obtain⟨t,rfl,ht⟩:=wfT hd;simp only[gTb,zm,uA] at hg;subst hg;have e:decide (min (szT t:Int) 2001≤2000)=decide (szT t≤2000):=by rw[decide_eq_decide];omega
 simp[q4l,gnZ,gnT,gTi,gTb,zu,e]
theorem q90{t u:Te}:idT t u=true↔t.k=u.k∧t.n=u.n∧t.s=u.s∧t.l.length=u.l.length∧∀j,j<t.l.length→idT (t.l.getD j default) (u.l.getD j default)=true:=by
 rw[qbi];cases t with
 | mk k n s l =>
  cases u with
  | mk k' n' s' l' =>
   simp only[Te.k,Te.n,Te.s,Te.l,Te.mk.injEq,qbi];refine⟨?_,?_⟩
   ·rintro⟨rfl,rfl,rfl,rfl⟩;exact⟨rfl,rfl,rfl,rfl,fun _ _=>rfl⟩
   ·rintro⟨rfl,rfl,rfl,h1,h2⟩;refine⟨rfl,rfl,rfl,List.ext_getElem h1 fun i hi hi'=>?_⟩;have:=h2 i hi;simpa[gnG,gnK hi,gnK hi'] using this
theorem qdg:FOk zy (q7n idT):=q29 (m:=mT) q4b fun N ih=>qbp ih fun ds outs hw hg=>by
 obtain⟨d,r,rfl,hd,e,r',rfl,he,rfl⟩:=hw;obtain⟨t,rfl,ht⟩:=wfT hd;obtain⟨u,rfl,hu⟩:=wfT he;simp only[jt,mT,q7n,uC,zm,q04,uB,uA] at hg;obtain⟨hsz,rfl⟩:=hg;have hl:=ht.l;have no:(¬idT t u=true)→[D.b false]=[D.b (idT t u)]:=fun h=>by rw[uQ.2 h]
 simp only[q2f,gnZ,gnT,q7n];refine⟨fun hn=>no fun h=>?_,fun hn=>?_⟩
 ·obtain⟨e1,e2,e3,e4,-⟩:=q90.1 h;simp[e1,e2,e3,e4] at hn
 simp only[uN,uP,gnD] at hn;obtain⟨⟨⟨e1,e2⟩,e3⟩,e4⟩:=hn;have e4:t.l.length=u.l.length:=by omega
 rw[j4];refine⟨fun st=>∃k:Nat,k≤t.l.length∧st=[.b false,.i k]∧∀j,j<k→idT (t.l.getD j default) (u.l.getD j default)=true,fun st=>t.l.length - (st.getD 1 .u).int.toNat,⟨0,uF _,rfl,fun j hj=>absurd hj (uI _)⟩,?_⟩;rintro st - ⟨k,hk,rfl,hP⟩;rw[yb];refine⟨fun hlt=>?_,fun hlt=>?_⟩
 ·simp only[gnZ,gnT] at hlt;have hkl':k<t.l.length:=by omega
  have hku':k<u.l.length:=by omega
  have ha:=q37 hkl';simp only[gnZ,gnT,q1j hkl',q1j hku',jt,mT,q7n,if_pos (show szT (t.l.getD k default)<N by omega)];refine⟨⟨by omega,by omega,by omega,by omega⟩,fun hx=>no fun h=>?_,fun hx=>⟨⟨by omega,by omega⟩,?_⟩⟩
  ·rw[(q90.1 h).2.2.2.2 k hkl'] at hx;cases hx
  ·rw[q0t,if_pos rfl];refine⟨⟨k+1,by omega,by simp,q8z hP (by simpa using hx)⟩,?_⟩;simp[D.int];omega
 ·simp only[gnZ,gnT] at hlt⊢;have:k=t.l.length:=by omega
  subst this;rw[q90.2 ⟨e1,e2,e3,e4,hP⟩]
def q6q(t u:Te):Bool:=zu t&&(zu u&&idT t u)
theorem qc4:FOk q01 (q7n q6q):=qm6 qan qdg fun ds outs hw hg=>by
 obtain⟨d,r,rfl,hd,e,r',rfl,he,rfl⟩:=hw;obtain⟨t,rfl,ht⟩:=wfT hd;obtain⟨u,rfl,hu⟩:=wfT he;simp only[q7n,zm,uA] at hg;subst hg;simp[q5w,gnZ,gnT,gTb,q7n,q6q,uD]
def z65:List D→Option (List D)
 |[t,m]=>if 1≤m.int then some [.i (m.int - min (szT (dT t):Int) m.int)] else none
 |_=>none
theorem qmb:FOk yu z65:=q29 (m:=mT) q7z fun N ih=>qhy ih fun ds outs hw hg=>by
 obtain⟨d,r,rfl,hd,e,r',rfl,he,rfl⟩:=hw;obtain⟨t,rfl,ht⟩:=wfT hd;obtain⟨m,rfl,hm⟩:=wfI he;simp only[jt,mT,z65,uC,zm,q04,uB,uA] at hg;obtain⟨hsz,h1,rfl⟩:=hg;have hl:=ht.l;rw[q4j,yp];refine⟨by simp only[gnZ,gnT];omega,?_⟩;rw[j4];refine⟨fun st=>∃k:Nat,k≤t.l.length∧st=[.i k,.i (m - min ((q2x (t.l.take k):Int)+1) m)],fun st=>t.l.length - (st.getD 0 .u).int.toNat,⟨0,uF _,by simp[X.evs,X.ev,q2x,evl,D.int];omega⟩,?_⟩;rintro st - ⟨k,hk,rfl⟩;rw[yb];refine⟨fun hlt=>?_,fun hlt=>?_⟩
 ·simp only[gnZ,gnT,gnB] at hlt;obtain⟨hkl,hlm⟩:=hlt;have hkl':k<t.l.length:=by omega
  have ha:=q37 hkl';have hs:=qfd hkl';have hmn:1≤m - min ((q2x (t.l.take k):Int)+1) m:=by omega
  simp only[gnZ,gnT,q1j hkl',jt,mT,z65,if_pos hmn,if_pos (show szT (t.l.getD k default)<N by omega)];refine⟨⟨by omega,by omega⟩,⟨by omega,by omega⟩,?_⟩;rw[q0t,if_pos rfl];refine⟨⟨k+1,by omega,?_⟩,?_⟩
  ·rw[hs];simp;omega
  ·simp[D.int];omega
 ·simp only[gnZ,gnT,uK] at hlt;simp only[gnZ,gnT];have hz:=qwm t;have:m - min ((q2x (t.l.take k):Int)+1) m=m - min (szT t:Int) m:=by
   rcases hlt with h|h
   ·have:k=t.l.length:=by omega
    subst this;rw[uG];omega
   ·have h2:=qal (t.l.take k) (t.l.drop k);rw[uJ] at h2;omega
  rw[this]
theorem q6c:FOk y7 (gTi fun t=>min (szT t:Int) 2001):=qmu qmb fun ds outs hw hg=>by
 obtain⟨d,r,rfl,hd,rfl⟩:=hw;obtain⟨t,rfl,ht⟩:=wfT hd;simp only[gTi,zm,uA] at hg;subst hg;simp[q74,gnZ,gnT,z65];omega
theorem qr7:FOk yq (gTb yi):=q29 (m:=mT) qa3 fun N ih=>qn4 ih fun ds outs hw hg=>by
 obtain⟨d,r,rfl,hd,rfl⟩:=hw;obtain⟨t,rfl,ht⟩:=wfT hd;simp only[jt,mT,gTb,uC,zm,q04,uB,uA] at hg;obtain⟨hsz,rfl⟩:=hg;have hl:=ht.l;have key:∀(x:X),x.ev (evl (yx [(yq,jt mT N (gTb yi))]) [eT t])=.b (q88 t)→Tree.go (yx [(yq,jt mT N (gTb yi))]) (fun o=>o=[D.b (yi t)]) (.loop 12 1 [x,(.lit (.i 0))] (.br (.and (.lt (.tok 2) (.len (.fld (.tok 0) 3))) (.tok 1)) (.need [(.le (.lit (.i 0)) (.tok 2)),(.lt (.tok 2) (.len (.fld (.tok 0) 3))),(.ok 0 [(.get (.fld (.tok 0) 3) (.tok 2))])] (.need [(.rng .i64 (.add (.tok 2) (.lit (.i 1))))] (.back 12 [(.call 0 0 [(.get (.fld (.tok 0) 3) (.tok 2))]),(.add (.tok 2) (.lit (.i 1)))]))) (.leaf [(.tok 1)]))) [eT t] fun _ _=>False:=by
  intro x hx;rw[j4];refine⟨fun st=>∃(k:Nat)(v:Bool),k≤t.l.length∧st=[.b v,.i k]∧(v=true↔q88 t=true∧∀j,j<k→yi (t.l.getD j default)=true),fun st=>t.l.length - (st.getD 1 .u).int.toNat,⟨0,q88 t,uF _,by simp only[X.evs,hx,X.ev];rfl,by simp⟩,?_⟩;rintro st - ⟨k,v,hk,rfl,hv⟩;rw[yb];refine⟨fun hlt=>?_,fun hlt=>?_⟩
  ·simp only[gnZ,gnT,gnB] at hlt;obtain⟨hlt,rfl⟩:=hlt;have hkl':k<t.l.length:=by omega
   have ha:=q37 hkl';simp only[gnZ,gnT,q1j hkl',jt,mT,gTb,if_pos (show szT (t.l.getD k default)<N by omega)];refine⟨⟨by omega,by omega⟩,⟨by omega,by omega⟩,?_⟩;rw[q0t,if_pos rfl];have hv':=hv.1 rfl;refine⟨⟨k+1,_,by omega,rfl,⟨fun h=>⟨hv'.1,q8z hv'.2 h⟩,fun h=>h.2 k (Nat.lt_succ_self _)⟩⟩,?_⟩;simp[D.int];omega
  ·simp only[gnZ,gnT,uK] at hlt;simp only[gnZ,gnT];rw[show v=yi t from ?_];cases hvv:v with
   | false =>
    cases hh:yi t with
    |false=>rfl
    |true=>
     have h2:=(q6g t).1 hh;rw[hv.2 ⟨h2.1,fun j hj=>h2.2 j (by omega)⟩] at hvv;cases hvv
   | true =>
    have:k=t.l.length:=by
     rcases hlt with h|h
     ·omega
     ·rw[hvv] at h;cases h
    subst this;exact((q6g t).2 (hv.1 hvv)).symm
 rw[q7f];simp only[yb];have e0:∀z:Int,(X.eq (.fld (.tok 0) 0) (.lit (.i z))).ev (evl (yx [(yq,jt mT N (gTb yi))]) [eT t])=.b (decide (t.k=z)):=fun z=>by
  simp only[gnZ,gnT]
 simp only[e0,qdc,gnD,decide_eq_false_iff_not];refine⟨fun h=>key _ ?_,fun h0=>⟨fun h=>key _ ?_,fun h1=>⟨fun h=>key _ ?_,fun h2=>⟨fun h=>key _ ?_,fun h3=>key _ ?_⟩⟩⟩⟩
 all_goals simp only[gnZ,gnT,q88]
 ·simp[h,uD]
 ·simp[h,uD]
 ·simp[h,uD]
 ·have e8:decide (0<(t.l.length:Int))=decide (1≤(t.l.length:Int)):=rfl;rw[e8];simp[h,uD]
 ·simp[h0,h1,h2,h3]
theorem q12:FOk z4 (gTb zu):=qm7 q6c qr7 fun ds outs hw hg=>by
 obtain⟨d,r,rfl,hd,rfl⟩:=hw;obtain⟨t,rfl,ht⟩:=wfT hd;simp only[gTb,zm,uA] at hg;subst hg;have e:decide (min (szT t:Int) 2001≤2000)=decide (szT t≤2000):=by rw[decide_eq_decide];omega
 simp[q5z,gnZ,gnT,gTi,gTb,zu,e]
theorem qir:FOk jr (gTT id):=qff fun ds outs hw hg=>by
 obtain⟨d,r,rfl,hd,rfl⟩:=hw;obtain⟨t,rfl,ht⟩:=wfT hd;simp only[gTT,zm,uA] at hg;subst hg;simp only[q3y,gnZ,gnT,id]
theorem qno:FOk jc (gTT id):=q29 (m:=mT) q8u fun N ih=>qlm qir ih fun ds outs hw hg=>by
 obtain⟨d,r,rfl,hd,rfl⟩:=hw;obtain⟨t,rfl,ht⟩:=wfT hd;simp only[jt,mT,gTT,uC,zm,q04,uB,uA] at hg;obtain⟨hsz,rfl⟩:=hg;have hl:=ht.l;rw[q5v,yb];refine⟨fun h=>?_,fun h=>?_⟩
 ·simp only[gnZ,gnT,gTT,id]
 rw[j4];refine⟨fun st=>∃k:Nat,k≤t.l.length∧st=[.i k,eT (.mk t.k t.n t.s (t.l.take k))],fun st=>t.l.length - (st.getD 0 .u).int.toNat,⟨0,uF _,by simp only[X.evs,X.ev,evl,uC,z0e,z1e,z3q,q64];rfl⟩,?_⟩;rintro st - ⟨k,hk,rfl⟩;rw[yb];refine⟨fun hlt=>?_,fun hlt=>?_⟩
 ·simp only[gnZ,gnT] at hlt;have hkl':k<t.l.length:=by omega
  have ha:=q37 hkl';simp only[gnZ,gnT,q1j hkl',jt,mT,gTT,if_pos (show szT (t.l.getD k default)<N by omega),id,z64,uS];refine⟨⟨by omega,by omega⟩,by omega,⟨by omega,by omega⟩,?_⟩;rw[q0t,if_pos rfl];refine⟨⟨k+1,by omega,?_⟩,?_⟩
  ·rw[ji hkl',qja];rfl
  ·simp[D.int];omega
 ·simp only[gnZ,gnT] at hlt⊢;have:k=t.l.length:=by omega
  subst this;rw[uG];cases t;rfl
theorem qnw:FOk y8 (gTT fun t=>if zu t then t else zT):=qkp q12 qno fun ds outs hw hg=>by
 obtain⟨d,r,rfl,hd,rfl⟩:=hw;obtain⟨t,rfl,ht⟩:=wfT hd;simp only[gTT,zm,uA] at hg;subst hg;simp only[q5o,gnZ,gnT,gTb,gTT,id];cases zu t<;>simp
section
mutual
/-- Variables renumbered. -/
def qid(f:Int→Int):Te→Te
 |.mk k n s l=>.mk k (if k=0 then f n else n) s (qhf f l)
def qhf(f:Int→Int):List Te→List Te
 |[]=>[]
 |t::l=>qid f t::qhf f l
end
mutual
/-- The variables in the order of their first occurrence, behind those given. -/
def j5(vs:List Int):Te→List Int
 |.mk k n s l=>ym (if k=0∧n∉vs then vs++[n] else vs) l
def ym(vs:List Int):List Te→List Int
 |[]=>vs
 |t::l=>ym (j5 vs t) l
end
mutual
def inV(V:List Int):Te→Prop
 |.mk k n s l=>(k=0→n∈V)∧qz2 V l
def qz2(V:List Int):List Te→Prop
 |[]=>True
 |t::l=>inV V t∧qz2 V l
end
def q5t:List Int→Int→Int
 |[],_=> -1
 |a::l,x=>if a=x then 0 else if q5t l x<0 then -1 else q5t l x+1
abbrev qs9(V:List Int):Te→Te:=qid (q5t V)
section
variable{f g:Int→Int}
theorem qo6:∀l,qhf f l=l.map (qid f)
 |[]=>rfl
 |t::l=>by rw[qhf,qo6 l];rfl
theorem z6h(k n:Int)(s:ByteArray)(l:List Te):qid f (.mk k n s l)=.mk k (if k=0 then f n else n) s (l.map (qid f)):=by rw[qid,qo6]
theorem qtn:∀(l:List Te)(vs:List Int),ym vs l=l.foldl j5 vs
 |[],_=>rfl
 |t::l,vs=>by rw[ym,qtn l];rfl
theorem q6u:∀(l m:List Te)(vs:List Int),ym vs (l++m)=ym (ym vs l) m
 |[],_,_=>rfl
 |t::l,m,vs=>by rw[uH,ym,ym,q6u l]
mutual
theorem qko{V:List Int}(h:∀x∈V,f x=g x):∀t,inV V t→qid f t=qid g t
 |.mk k n s l,hi=>by
  rw[qid,qid,qhl h l hi.2];by_cases hk:k=0
  ·rw[if_pos hk,if_pos hk,h n (hi.1 hk)]
  ·rw[if_neg hk,if_neg hk]
theorem qhl{V:List Int}(h:∀x∈V,f x=g x):∀l,qz2 V l→qhf f l=qhf g l
 |[],_=>rfl
 |t::l,hi=>by rw[qhf,qhf,qko h t hi.1,qhl h l hi.2]
end
mutual
theorem qtr{V W:List Int}(h:∀x∈V,x∈W):∀t,inV V t→inV W t
 |.mk k n s l,hi=>⟨fun hk=>h n (hi.1 hk),qp5 h l hi.2⟩
theorem qp5{V W:List Int}(h:∀x∈V,x∈W):∀l,qz2 V l→qz2 W l
 |[],_=>trivial
 |t::l,hi=>⟨qtr h t hi.1,qp5 h l hi.2⟩
end
mutual
theorem qh5:∀(t:Te)(vs:List Int),∃m,j5 vs t=vs++m
 |.mk k n s l,vs=>by
  rw[j5];obtain⟨m,hm⟩:=q77 l (if k=0∧n∉vs then vs++[n] else vs);rw[hm];split
  ·exact⟨[n]++m,by simp⟩
  ·exact⟨m,rfl⟩
theorem q77:∀(l:List Te)(vs:List Int),∃m,ym vs l=vs++m
 |[],vs=>⟨[],by simp[ym]⟩
 |t::l,vs=>by
  rw[ym];obtain⟨m,hm⟩:=qh5 t vs;obtain⟨m',hm'⟩:=q77 l (j5 vs t);exact⟨m++m',by rw[hm',hm];simp⟩
end
theorem qm9{t:List Te}{vs:List Int}{x:Int}(h:x∈vs):x∈ym vs t:=by
 obtain⟨m,hm⟩:=q77 t vs;rw[hm];exact List.mem_append_left _ h
mutual
theorem qm3:∀(t:Te)(vs:List Int),inV (j5 vs t) t
 | .mk k n s l, vs => by
  rw[j5];refine⟨fun hk=>qm9 ?_,qon l _⟩;split
  ·simp
  ·rename_i h;exact Classical.byContradiction fun hn=>h ⟨hk,hn⟩
theorem qon:∀(l:List Te)(vs:List Int),qz2 (ym vs l) l
 |[],vs=>trivial
 |t::l,vs=>by
  rw[ym];exact⟨qtr (fun x hx=>qm9 hx) t (qm3 t vs),qon l _⟩
end
mutual
theorem qbj:∀(t:Te)(vs:List Int),(j5 vs t).length≤vs.length+szT t
 |.mk k n s l,vs=>by
  rw[j5,szT];refine Nat.le_trans (q9m l _) ?_;split
  ·simp;omega
  ·omega
theorem q9m:∀(l:List Te)(vs:List Int),(ym vs l).length≤vs.length+q2x l
 |[],vs=>by simp[ym,q2x]
 |t::l,vs=>by
  rw[ym,q2x];have h1:=q9m l (j5 vs t);have h2:=qbj t vs;omega
end
theorem qev(k n:Int)(s:ByteArray)(l:List Te):q88 (.mk k n s l)=if k=0 then decide (0≤n)&&(decide (n≤1099511627776)&&(decide (s=⟨#[]⟩)&&decide ((l.length:Int)=0)))
 else if k=1 then decide (s=⟨#[]⟩)&&decide ((l.length:Int)=0)
 else if k=2 then decide (n=0)&&(decide ((s.size:Int)≤100)&&decide ((l.length:Int)=0))
 else if k=3 then decide (n=0)&&(decide ((s.size:Int)≤100)&&(decide (1≤(l.length:Int))&&decide ((l.length:Int)≤8)))
 else false:=rfl
end
theorem qs0:∀{l:List Int}{x:Int},x∈l→0≤q5t l x∧q5t l x<l.length
 | a :: l, x, h => by
  unfold q5t;split
  ·simp only[uT];omega
  ·rename_i hne;have:=qs0 (l:=l) (x:=x) (by
    rcases uL.1 h with rfl|h
    ·exact absurd rfl hne
    ·exact h)
   rw[if_neg (by omega)];simp only[uT];omega
theorem z3b:∀{l:List Int}{x:Int},x∉l→q5t l x= -1
 |[],_,_=>rfl
 |a::l,x,h=>by
  unfold q5t;rw[if_neg (fun e:a=x=>h (by rw[e];exact uO)),if_pos (by rw[z3b fun q=>h (uM _ q)];omega)]
theorem qkl{l m:List Int}{x:Int}(h:x∈l):q5t (l++m) x=q5t l x:=by
 induction l with
 |nil=>cases h
 | cons a l ih =>
  rw[uH];unfold q5t;by_cases e:a=x
  ·rw[if_pos e,if_pos e]
  ·have hx:x∈l:=by
    rcases uL.1 h with rfl|h
    ·exact absurd rfl e
    ·exact h
   rw[if_neg e,if_neg e,ih hx]
theorem qpc:∀{l:List Int}{x:Int},x∉l→q5t (l++[x]) x=l.length
 |[],x,_=>by simp[q5t]
 |a::l,x,h=>by
  rw[uH];unfold q5t;have:=qpc (l:=l) (x:=x) fun q=>h (uM _ q);rw[if_neg (fun e:a=x=>h (by rw[e];exact uO)),this,if_neg (by omega)];simp
end
def q1s(t:Te):Te:=if zu t then t else zT
theorem q3v:FOk y8 (gTT q1s):=qnw
theorem qes:FOk y6 (q7n idT):=q29 (m:=mT) q5g fun N ih=>qcw ih fun ds outs hw hg=>by
 obtain⟨d,r,rfl,hd,e,r',rfl,he,rfl⟩:=hw;obtain⟨t,rfl,ht⟩:=wfT hd;obtain⟨u,rfl,hu⟩:=wfT he;simp only[jt,mT,q7n,uC,zm,q04,uB,uA] at hg;obtain⟨hsz,rfl⟩:=hg;have hl:=ht.l;have no:(¬idT t u=true)→[D.b false]=[D.b (idT t u)]:=fun h=>by rw[uQ.2 h]
 simp only[q2u,gnZ,gnT,q7n];refine⟨fun hn=>no fun h=>?_,fun hn=>?_⟩
 ·obtain⟨e1,e2,e3,e4,-⟩:=q90.1 h;simp[e1,e2,e3,e4] at hn
 simp only[uN,uP,gnD] at hn;obtain⟨⟨⟨e1,e2⟩,e3⟩,e4⟩:=hn;have e4:t.l.length=u.l.length:=by omega
 rw[j4];refine⟨fun st=>∃k:Nat,k≤t.l.length∧st=[.b false,.i k]∧∀j,j<k→idT (t.l.getD j default) (u.l.getD j default)=true,fun st=>t.l.length - (st.getD 1 .u).int.toNat,⟨0,uF _,rfl,fun j hj=>absurd hj (uI _)⟩,?_⟩;rintro st - ⟨k,hk,rfl,hP⟩;rw[yb];refine⟨fun hlt=>?_,fun hlt=>?_⟩
 ·simp only[gnZ,gnT] at hlt;have hkl':k<t.l.length:=by omega
  have hku':k<u.l.length:=by omega
  have ha:=q37 hkl';simp only[gnZ,gnT,q1j hkl',q1j hku',jt,mT,q7n,if_pos (show szT (t.l.getD k default)<N by omega)];refine⟨⟨by omega,by omega⟩,⟨by omega,by omega⟩,fun hx=>no fun h=>?_,fun hx=>⟨⟨by omega,by omega⟩,?_⟩⟩
  ·rw[(q90.1 h).2.2.2.2 k hkl'] at hx;cases hx
  ·rw[q0t,if_pos rfl];refine⟨⟨k+1,by omega,by simp,q8z hP (by simpa using hx)⟩,?_⟩;simp[D.int];omega
 ·simp only[gnZ,gnT] at hlt⊢;have:k=t.l.length:=by omega
  subst this;rw[q90.2 ⟨e1,e2,e3,e4,hP⟩]
theorem qex:FOk jo (q7n q6q):=qnm q12 qes fun ds outs hw hg=>by
 obtain⟨d,r,rfl,hd,e,r',rfl,he,rfl⟩:=hw;obtain⟨t,rfl,ht⟩:=wfT hd;obtain⟨u,rfl,hu⟩:=wfT he;simp only[q7n,zm,uA] at hg;subst hg;simp[q71,gnZ,gnT,gTb,q7n,q6q,uD]
def gSL(f:ByteArray→List Te→Te):List D→Option (List D)
 |[s,l]=>some [eT (f s.str (l.rs.map dT))]
 |_=>none
theorem q4g(l:List Te):(l.map eT).map dT=l:=by
 rw[uZ];have:dT ∘ eT=id:=funext zm;rw[this,kA]
theorem qj4:FOk yj (gTT id):=q29 (m:=mT) q6j fun N ih=>qfb ih fun ds outs hw hg=>by
 obtain⟨d,r,rfl,hd,rfl⟩:=hw;obtain⟨t,rfl,ht⟩:=wfT hd;simp only[jt,mT,gTT,uC,zm,q04,uB,uA] at hg;obtain⟨hsz,rfl⟩:=hg;have hl:=ht.l;rw[q3r,j4];refine⟨fun st=>∃k:Nat,k≤t.l.length∧st=[.i k,eT (.mk t.k t.n t.s (t.l.take k))],fun st=>t.l.length - (st.getD 0 .u).int.toNat,⟨0,uF _,by simp only[X.evs,X.ev,evl,uC,z0e,z1e,z3q,q64];rfl⟩,?_⟩;rintro st - ⟨k,hk,rfl⟩;rw[yb];refine⟨fun hlt=>?_,fun hlt=>?_⟩
 ·simp only[gnZ,gnT] at hlt;have hkl':k<t.l.length:=by omega
  have ha:=q37 hkl';simp only[gnZ,gnT,q1j hkl',jt,mT,gTT,if_pos (show szT (t.l.getD k default)<N by omega),id,z64,uS];refine⟨⟨by omega,by omega,by omega⟩,⟨by omega,by omega⟩,?_⟩;rw[q0t,if_pos rfl];refine⟨⟨k+1,by omega,?_⟩,?_⟩
  ·rw[ji hkl',qja];rfl
  ·simp[D.int];omega
 ·simp only[gnZ,gnT] at hlt⊢;have:k=t.l.length:=by omega
  subst this;rw[uG];cases t;rfl
theorem qmo:FOk q05 (gTT q1s):=qi6 qan qj4 fun ds outs hw hg=>by
 obtain⟨d,r,rfl,hd,rfl⟩:=hw;obtain⟨t,rfl,ht⟩:=wfT hd;simp only[gTT,zm,uA] at hg;subst hg;simp only[q4m,gnZ,gnT,gTb,gTT,id,q1s];cases zu t<;>simp
def q6x(l m:List Te):Bool:=decide (l.length=m.length)&&(kB l.length).all fun j=>q6q (l.getD j default) (m.getD j default)
def z4w(f:List Te→List Te→Bool):List D→Option (List D)
 |[l,m]=>some [.b (f (l.rs.map dT) (m.rs.map dT))]
 |_=>none
theorem qf8:FOk jk (z4w q6x):=qdx qc4 fun ds outs hw hg=>by
 obtain⟨d,r,rfl,hd,e,r',rfl,he,rfl⟩:=hw;obtain⟨l,rfl,hl,-⟩:=qq1 hd;obtain⟨m,rfl,hm,-⟩:=qq1 he;simp only[z4w,q7p,q4g,uA] at hg;subst hg;simp only[q39,gnZ,gnT,q7n];refine⟨fun hn=>?_,fun hn=>?_⟩
 ·rw[q6x,show decide (l.length=m.length)=false by simp at hn⊢;omega];rfl
 have hn:l.length=m.length:=by simp at hn;omega
 rw[j4];refine⟨fun st=>∃k:Nat,k≤l.length∧st=[.b false,.i k]∧∀j,j<k→q6q (l.getD j default) (m.getD j default)=true,fun st=>l.length - (st.getD 1 .u).int.toNat,⟨0,uF _,rfl,fun j hj=>absurd hj (uI _)⟩,?_⟩;rintro st - ⟨k,hk,rfl,hP⟩;rw[yb];refine⟨fun hlt=>?_,fun hlt=>?_⟩
 ·simp only[gnZ,gnT] at hlt;have hkl:k<l.length:=by omega
  have hkm:k<m.length:=by omega
  simp only[gnZ,gnT,q1j hkl,q1j hkm,q7n];refine⟨⟨by omega,by omega,by omega,by omega⟩,fun hx=>?_,fun hx=>⟨⟨by omega,by omega⟩,?_⟩⟩
  ·rw[q6x,z6p hkl (by simpa using hx),Bool.and_false]
  ·rw[q0t,if_pos rfl];refine⟨⟨k+1,by omega,by simp,q8z hP (by simpa using hx)⟩,?_⟩;simp[D.int];omega
 ·simp only[gnZ,gnT] at hlt⊢;have:k=l.length:=by omega
  subst this;rw[q6x,z6q hP,uY,decide_eq_true hn]
def qpx:Tree→Tree
 |.br _ _ e=>qpx e
 |.need _ t=>qpx t
 |.loop _ _ _ b=>b
 |t=>t
def eIs(l:List Int):D:=.r (l.map .i)
def dIs(d:D):List Int:=d.rs.map D.int
theorem qf6(l:List Int):dIs (eIs l)=l:=by
 show(l.map .i).map D.int=l
 rw[uZ];have:D.int ∘ D.i=id:=funext fun _=>rfl;rw[this,kA]
theorem q9s(l:List Int):(eIs l).rs.length=l.length:=by simp[eIs,q7p]
theorem z0c(l:List Int)(x:Int):D.r ((eIs l).rs++[.i x])=eIs (l++[x]):=by simp[eIs,q7p]
theorem qxt{l:List Int}{k:Nat}(h:k<l.length):(eIs l).get (k:Int)=.i (l.getD k 0):=by
 show(l.map D.i).getD k .u=_
 simp[gnG,h]
theorem zab{d:D}{E:TypeId}(hE:qw E=some (.int .i64))(h:Wf d (.row E)):∃l:List Int,d=eIs l∧l.length≤17592186043904∧∀x∈l,i64 x:=by
 obtain⟨l,rfl,h1,h2⟩:=h.row_of (te:=.int .i64) hE;obtain⟨m,rfl,h3⟩:=qgd (e:=D.i) (P:=fun n=>i64 n) fun x hx=>wfI (h2 x hx);refine⟨m,rfl,?_,h3⟩;have e:LM (.int .i64)=17592186043904:=by kernel_rfl
 rw[uV] at h1;omega
theorem z2h:qw 2=some (.int .i64):=by kernel_rfl
theorem qrl{vs:List Int}{l:List Te}{k:Nat}(h:k<l.length):ym vs (l.take (k+1))=j5 (ym vs (l.take k)) (l.getD k default):=by
 rw[ji h,q6u];rfl
theorem qe5(vs:List Int)(t:Te):j5 vs t=ym (if t.k=0∧t.n∉vs then vs++[t.n] else vs) t.l:=by cases t;rfl
theorem qx0{l:List Te}{k:Nat}(hk:k<l.length):q2x (l.take k)+szT (l.getD k default)≤q2x l:=by
 have h2:=qfd hk;have:=qal (l.take (k+1)) (l.drop (k+1));rw[uJ] at this;omega
theorem z94(f:Int→Int)(t:Te):qid f t=.mk t.k (if t.k=0 then f t.n else t.n) t.s (t.l.map (qid f)):=by cases t;rw[z6h];rfl
mutual
theorem qsg:∀(t:Te)(vs:List Int),yi t=true→(∀x∈vs,0≤x∧x≤1099511627776)→∀x∈j5 vs t,0≤x∧x≤1099511627776
 | .mk k n s l, vs, h, hv => by
  rw[yi,gnB,qev] at h;rw[j5];refine qox l _ h.2 fun x hx=>?_;split at hx
  ·rename_i hk;rw[if_pos hk.1] at h;simp only[gnB,gnD] at h;rcases List.mem_append.1 hx with hx|hx
   ·exact hv x hx
   ·rw[List.mem_singleton.1 hx];exact⟨h.1.1,h.1.2.1⟩
  ·exact hv x hx
theorem qox:∀(l:List Te)(vs:List Int),q54 l=true→(∀x∈vs,0≤x∧x≤1099511627776)→∀x∈ym vs l,0≤x∧x≤1099511627776
 |[],vs,h,hv=>hv
 |t::l,vs,h,hv=>by
  rw[q54,gnB] at h;rw[ym];exact qox l _ h.2 (qsg t vs h.1 hv)
end
theorem q3b{t:Te}:zu t=true↔szT t≤2000∧yi t=true:=by simp[zu]
theorem qfh{s:ByteArray}{l:List Te}(hs:s.size≤100)(h1:1≤l.length)(h2:l.length≤8)(h:∀t∈l,yi t=true):yi (.mk 3 0 s l)=true:=by
 rw[yi,q3l.2 h,uY,qev];have h':(s.size:Int)≤100:=by omega
 have h3:(1:Int)≤l.length:=by omega
 have h4:(l.length:Int)≤8:=by omega
 simp[h',h3,h4]
theorem qgm{t:Te}(h:zu t=true):q1s t=t:=if_pos h
end Go.Proofs.Ytbmaffphliignaa
