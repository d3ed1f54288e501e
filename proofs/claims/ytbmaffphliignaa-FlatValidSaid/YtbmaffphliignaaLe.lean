/-
 Lemmas of the walk and plain laws, put together. No condition.
-/
import Derived.Test.YtbmaffphliignaaLd
namespace Go.Proofs.Ytbmaffphliignaa
open Go.RowKit
set_option linter.unusedVariables false
set_option linter.unusedSimpArgs false
set_option maxRecDepth 100000
open _root_.Option.some renaming injEq→uA
open _root_.Option renaming ite_none_right_eq_some→uB
open _root_.List renaming getD_cons_zero→uC,cons_append→uG,mem_cons→uI,take_length→uJ,take_append_drop→uK,mem_cons_of_mem→uL,mem_cons_self→uM,length_cons→uO,all_eq_true→uP,mem_range→uR
open _root_.Bool renaming and_assoc→uD,and_eq_false_iff→uH
open _root_.And renaming intro→uE
open _root_.Nat renaming zero_le→uF,not_lt_zero→uQ
open _root_.Go.Proofs.Try renaming f75→uN,prog→uS,f47→uT
abbrev q8l:Ty:=.row 24
abbrev q2h:Ty:=.st 23
abbrev z43:Ty:=.st 25
abbrev qf9:Ty:=.row 38
abbrev qw7:Ty:=.st 34
abbrev qhp:Ty:=.row 42
abbrev qwu:Ty:=.st 37
abbrev qdw:Ty:=.st 41
abbrev GfZ:=List D→Option (List D)
def EnZ(ct:Ct):Prop:=∀(args:Array Value)(w:World),(callFunc ct.f args).run uS w=.ok (.enter ct.f args) w
def CdZ(T:Tbl)(a:Ann)(ct:Ct)(f:Func)(t:Tree):Prop:=∀cd,f.body=some cd→qbj uS T a ct f cd=t
def HgZ(t:Tree)(ct:Ct)(T:Tbl)(g:GfZ):Prop:=∀ds outs,WfA ct.ars ds→g ds=some outs→t.go (qm T) (fun o=>o=outs) ds fun _ _=>False
theorem yw{ct:Ct}{g:GfZ}{T:Tbl}{a:Ann}{f:Func}{t:Tree}{cd:Code}(hc:CdZ T a ct f t)(htb:q1k T)(hf:uS.funcs[ct.f]? =some f)(hb:f.body=some cd)(he:EnZ ct)(hd:ct.ar.length≤f.ntmps)(h:HgZ t ct T g)(hnp:qyf T=true:=by rfl)(hkp:ct.kp=[]:=by rfl)(hfl:ct.fl=[]:=by rfl):FOk ct g:=
 z23 a f cd htb hf hb he hd (fun ds outs hw hg=>by rw[hc cd hb];exact h ds outs hw hg) hnp hkp hfl
def jc:Ct:=⟨92,[.val (.st 23),.ref (.int .i64) true,.cell 111 3],[],[(.cell 2,.fn 92 [1,2])],none,[],[]⟩
theorem q8w:EnZ jc:=fun _ _=>by kernel_rfl
def qjh:Ann:=⟨[0,1,2,3,4,15],[(3,⟨[(4,.int .i64,false)],[1],[7,8,9,10,11,12,13,14,15,18,19,20,21,22,23,24,16,17],[]⟩)]⟩
def q56:Tree:=(.need [(.rng .i64 (.sub (.tok 1) (.lit (.i 1))))] (.loop 3 2 [(.lit (.i 0)),(.sub (.tok 1) (.lit (.i 1)))] (.br (.and (.lt (.tok 2) (.len (.fld (.tok 0) 3))) (.lt (.lit (.i 0)) (.tok 3))) (.need [(.ok 0 [(.get (.fld (.tok 0) 3) (.tok 2)),(.tok 3)]),(.le (.lit (.i 0)) (.tok 2)),(.lt (.tok 2) (.len (.fld (.tok 0) 3)))] (.need [(.rng .i64 (.add (.tok 2) (.lit (.i 1))))] (.back 3 [(.add (.tok 2) (.lit (.i 1))),(.call 0 0 [(.get (.fld (.tok 0) 3) (.tok 2)),(.tok 3)])]))) (.leaf [(.tok 3)]))))
theorem qgc(g0:GfZ):CdZ [(jc,g0)] qjh jc Try.f92 q56:=fun cd h=>by injection h with h;subst h;kernel_rfl
theorem qi3{g0 g:GfZ}(h0:FOk jc g0)(h:HgZ q56 jc [(jc,g0)] g):FOk jc g:=yw (qgc g0) (.cons h0 .nil) rfl rfl q8w (by decide) h
def yh:Ct:=⟨66,[.val (.st 23)],[(.int .i64,false)],[],none,[],[]⟩
theorem qjg:EnZ yh:=fun _ _=>by kernel_rfl
def qod:Ann:=⟨[0,1,2,3,4],[]⟩
def q7n:Tree:=(.need [(.ok 0 [(.tok 0),(.lit (.i 2001))])] (.need [(.rng .i64 (.sub (.lit (.i 2001)) (.call 0 0 [(.tok 0),(.lit (.i 2001))])))] (.leaf [(.sub (.lit (.i 2001)) (.call 0 0 [(.tok 0),(.lit (.i 2001))]))])))
theorem qki(g0:GfZ):CdZ [(jc,g0)] qod yh Try.f66 q7n:=fun cd h=>by injection h with h;subst h;kernel_rfl
theorem qow{g0 g:GfZ}(h0:FOk jc g0)(h:HgZ q7n yh [(jc,g0)] g):FOk yh g:=yw (qki g0) (.cons h0 .nil) rfl rfl qjg (by decide) h
def j5:Ct:=⟨68,[.val (.st 23)],[(.bool,false)],[],none,[],[]⟩
theorem qah:EnZ j5:=fun _ _=>by kernel_rfl
def qp6:Ann:=⟨[0,1,2,3,4,6,7,28,39,56,86],[(12,⟨[(3,.bool,false),(4,.int .i64,false)],[],[79,80,81,82,83,84,85,86,89,90,91,92,93,94,87,88],[]⟩)]⟩
def q7m:Tree:=
 let b:X:=.add (.tok 2) (.lit (.i 1))
 let c:X:=.lit (.i 0)
 let j:X:=.tok 0
 let o:X:=.tok 1
 let a:X:=.fld j 3
 let f:X:=.and (.eq (.fld j 1) c) (.le (.slen (.fld j 2)) (.lit (.i 100)))
 let h:X:=.le c (.tok 2)
 let k:X:=.rng .i64 b
 let m:X:=.eq (.fld j 2) (.lit (.s ⟨#[]⟩))
 let p:X:=.fld j 0
 let d:X:=.lt (.tok 2) (.len a)
 let e:X:=.get a (.tok 2)
 let n:X:=.eq (.len a) c
 let g:X:=.and d o
 let i:X:=.call 0 0 [e]
 let l:X:=.ok 0 [e]
 (.br (.eq p c) (.loop 12 1 [(.and (.and (.and (.le c (.fld j 1)) (.le (.fld j 1) (.lit (.i 1099511627776)))) m) n),c] (.br g (.need [h,d,l] (.need [k] (.back 12 [i,b]))) (.leaf [o]))) (.br (.eq p (.lit (.i 1))) (.loop 12 1 [(.and m n),c] (.br g (.need [h,d,l] (.need [k] (.back 12 [i,b]))) (.leaf [o]))) (.br (.eq p (.lit (.i 2))) (.loop 12 1 [(.and f n),c] (.br g (.need [h,d,l] (.need [k] (.back 12 [i,b]))) (.leaf [o]))) (.br (.eq p (.lit (.i 3))) (.loop 12 1 [(.and (.and f (.lt c (.len a))) (.le (.len a) (.lit (.i 8)))),c] (.br g (.need [h,d,l] (.need [k] (.back 12 [i,b]))) (.leaf [o]))) (.loop 12 1 [(.lit (.b .false)),c] (.br g (.need [h,d,l] (.need [k] (.back 12 [i,b]))) (.leaf [o])))))))
theorem qnr(g0:GfZ):CdZ [(j5,g0)] qp6 j5 Try.f68 q7m:=fun cd h=>by injection h with h;subst h;kernel_rfl
theorem qo4{g0 g:GfZ}(h0:FOk j5 g0)(h:HgZ q7m j5 [(j5,g0)] g):FOk j5 g:=yw (qnr g0) (.cons h0 .nil) rfl rfl qah (by decide) h
def zj:Ct:=⟨41,[.val (.st 23)],[(.bool,false)],[],none,[],[]⟩
theorem qgm:EnZ zj:=fun _ _=>by kernel_rfl
def qmq:Ann:=⟨[0,1,2],[]⟩
def q60:Tree:=(.need [(.ok 0 [(.tok 0)]),(.imp (.le (.call 0 0 [(.tok 0)]) (.lit (.i 2000))) (.ok 1 [(.tok 0)]))] (.leaf [(.and (.le (.call 0 0 [(.tok 0)]) (.lit (.i 2000))) (.call 1 0 [(.tok 0)]))]))
theorem qic(g0 g1:GfZ):CdZ [(yh,g0),(j5,g1)] qmq zj Try.f41 q60:=fun cd h=>by injection h with h;subst h;kernel_rfl
theorem qkz{g0 g1 g:GfZ}(h0:FOk yh g0)(h1:FOk j5 g1)(h:HgZ q60 zj [(yh,g0),(j5,g1)] g):FOk zj g:=yw (qic g0 g1) (.cons h0 (.cons h1 .nil)) rfl rfl qgm (by decide) h
def yp:Ct:=⟨42,[.val (.st 23)],[(.bool,false)],[],none,[],[]⟩
theorem qc9:EnZ yp:=fun _ _=>by kernel_rfl
def qf5:Ann:=⟨[0,1,2],[]⟩
def q3k:Tree:=(.leaf [(.or (.eq (.fld (.tok 0) 0) (.lit (.i 2))) (.eq (.fld (.tok 0) 0) (.lit (.i 3))))])
theorem qdr:CdZ [] qf5 yp Try.f42 q3k:=fun cd h=>by injection h with h;subst h;kernel_rfl
theorem qez{g:GfZ}(h:HgZ q3k yp [] g):FOk yp g:=yw (qdr) .nil rfl rfl qc9 (by decide) h
def q1b:Ct:=⟨43,[.val (.st 25)],[(.bool,false)],[],none,[],[]⟩
theorem qjj:EnZ q1b:=fun _ _=>by kernel_rfl
def qol:Ann:=⟨[0,1,2],[]⟩
def q74:Tree:=(.need [(.ok 0 [(.fld (.tok 0) 1)]),(.rng .i64 (.add (.call 0 0 [(.fld (.tok 0) 0)]) (.call 0 0 [(.fld (.tok 0) 1)]))),(.ok 0 [(.fld (.tok 0) 0)])] (.leaf [(.le (.add (.call 0 0 [(.fld (.tok 0) 0)]) (.call 0 0 [(.fld (.tok 0) 1)])) (.lit (.i 2000)))]))
theorem qmp(g0:GfZ):CdZ [(yh,g0)] qol q1b Try.f43 q74:=fun cd h=>by injection h with h;subst h;kernel_rfl
theorem qou{g0 g:GfZ}(h0:FOk yh g0)(h:HgZ q74 q1b [(yh,g0)] g):FOk q1b g:=yw (qmp g0) (.cons h0 .nil) rfl rfl qjj (by decide) h
def jb:Ct:=⟨95,[.val (.st 23)],[(.bool,false)],[],none,[],[]⟩
theorem qeu:EnZ jb:=fun _ _=>by kernel_rfl
def qi6:Ann:=⟨[0,1,2],[]⟩
def q4x:Tree:=(.leaf [(.and (.and (.eq (.fld (.tok 0) 0) (.lit (.i 3))) (.eq (.len (.fld (.tok 0) 3)) (.lit (.i 2)))) (.or (.or (.eq (.fld (.tok 0) 2) (.lit (.s ⟨#[44]⟩))) (.eq (.fld (.tok 0) 2) (.lit (.s ⟨#[59]⟩)))) (.eq (.fld (.tok 0) 2) (.lit (.s ⟨#[45,62]⟩)))))])
theorem qg4:CdZ [] qi6 jb Try.f95 q4x:=fun cd h=>by injection h with h;subst h;kernel_rfl
theorem qjb{g:GfZ}(h:HgZ q4x jb [] g):FOk jb g:=yw (qg4) .nil rfl rfl qeu (by decide) h
def q00:Ct:=⟨48,[.val (.st 23)],[(.st 23,false)],[],none,[],[]⟩
theorem qe0:EnZ q00:=fun _ _=>by kernel_rfl
def qg8:Ann:=⟨[0,1,2],[]⟩
def q4d:Tree:=(.leaf [(.tok 0)])
theorem qe7:CdZ [] qg8 q00 Try.f48 q4d:=fun cd h=>by injection h with h;subst h;kernel_rfl
theorem qhg{g:GfZ}(h:HgZ q4d q00 [] g):FOk q00 g:=yw (qe7) .nil rfl rfl qe0 (by decide) h
def jm:Ct:=⟨47,[.val (.st 23),.fn 48 []],[(.st 23,false)],[],none,[],[]⟩
theorem q9f:EnZ jm:=fun _ _=>by kernel_rfl
def qnh:Ann:=⟨[0,1,2,4,5,7,10,22,23,24,25],[(5,⟨[(24,.int .i64,false)],[5],[25,26,27,7,28,29,30,31,32,33,34,35,36],[]⟩)]⟩
def q64:Tree:=(.br (.eq (.fld (.tok 0) 0) (.lit (.i 0))) (.need [(.ok 0 [(.tok 0)])] (.leaf [(.call 0 0 [(.tok 0)])])) (.loop 5 1 [(.lit (.i 0)),(.set (.set (.set (.lit (.a [(.i 0),(.i 0),(.s ⟨#[]⟩),(.r [])])) 0 (.fld (.tok 0) 0)) 1 (.fld (.tok 0) 1)) 2 (.fld (.tok 0) 2))] (.br (.lt (.tok 1) (.len (.fld (.tok 0) 3))) (.need [(.le (.lit (.i 0)) (.tok 1)),(.lt (.tok 1) (.len (.fld (.tok 0) 3)))] (.need [(.le (.add (.len (.fld (.tok 2) 3)) (.lit (.i 1))) (.lit (.i 2513169434843))),(.ok 1 [(.get (.fld (.tok 0) 3) (.tok 1))])] (.need [(.rng .i64 (.add (.tok 1) (.lit (.i 1))))] (.back 5 [(.add (.tok 1) (.lit (.i 1))),(.set (.tok 2) 3 (.app (.fld (.tok 2) 3) (.row [(.call 1 0 [(.get (.fld (.tok 0) 3) (.tok 1))])])))])))) (.leaf [(.tok 2)]))))
theorem qjm(g0 g1:GfZ):CdZ [(q00,g0),(jm,g1)] qnh jm uT q64:=fun cd h=>by injection h with h;subst h;kernel_rfl
theorem ql3{g0 g1 g:GfZ}(h0:FOk q00 g0)(h1:FOk jm g1)(h:HgZ q64 jm [(q00,g0),(jm,g1)] g):FOk jm g:=yw (qjm g0 g1) (.cons h0 (.cons h1 .nil)) rfl rfl q9f (by decide) h
def yj:Ct:=⟨19,[.val (.st 23)],[(.st 23,false)],[],none,[],[]⟩
theorem qg0:EnZ yj:=fun _ _=>by kernel_rfl
def qnm:Ann:=⟨[0,1,2,5],[]⟩
def q6b:Tree:=(.need [(.ok 0 [(.tok 0)])] (.br (.not (.call 0 0 [(.tok 0)])) (.leaf [(.lit (.a [(.i 0),(.i 0),(.s ⟨#[]⟩),(.r [])]))]) (.need [(.ok 1 [(.tok 0)])] (.leaf [(.call 1 0 [(.tok 0)])]))))
theorem qi1(g0 g1:GfZ):CdZ [(zj,g0),(jm,g1)] qnm yj Try.f19 q6b:=fun cd h=>by injection h with h;subst h;kernel_rfl
theorem qkw{g0 g1 g:GfZ}(h0:FOk zj g0)(h1:FOk jm g1)(h:HgZ q6b yj [(zj,g0),(jm,g1)] g):FOk yj g:=yw (qi1 g0 g1) (.cons h0 (.cons h1 .nil)) rfl rfl qg0 (by decide) h
def jx:Ct:=⟨94,[.val (.st 23)],[(.st 23,false)],[],some 113,[],[]⟩
theorem q4s:EnZ jx:=fun _ _=>by kernel_rfl
def q7b:Ann:=⟨[0,1,2,3,10,27],[]⟩
def q6h:Tree:=(.br (.eq (.fld (.tok 0) 0) (.lit (.i 0))) (.leaf [(.set (.set (.set (.lit (.a [(.i 0),(.i 0),(.s ⟨#[]⟩),(.r [])])) 0 (.lit (.i 3))) 2 (.lit (.s ⟨#[99,97,108,108]⟩))) 3 (.row [(.tok 0)]))]) (.need [(.ok 0 [(.tok 0)])] (.br (.call 0 0 [(.tok 0)]) (.need [(.ok 1 [(.get (.fld (.tok 0) 3) (.lit (.i 1)))]),(.ok 1 [(.get (.fld (.tok 0) 3) (.lit (.i 0)))]),(.lit (.b .true)),(.lt (.lit (.i 1)) (.len (.fld (.tok 0) 3))),(.lit (.b .true)),(.lt (.lit (.i 0)) (.len (.fld (.tok 0) 3)))] (.leaf [(.set (.set (.set (.lit (.a [(.i 0),(.i 0),(.s ⟨#[]⟩),(.r [])])) 0 (.lit (.i 3))) 2 (.fld (.tok 0) 2)) 3 (.row [(.call 1 0 [(.get (.fld (.tok 0) 3) (.lit (.i 0)))]),(.call 1 0 [(.get (.fld (.tok 0) 3) (.lit (.i 1)))])]))])) (.need [(.ok 2 [(.tok 0)])] (.br (.call 2 0 [(.tok 0)]) (.need [(.ok 3 [(.tok 0)])] (.leaf [(.call 3 0 [(.tok 0)])])) (.leaf [(.lit .u)]))))))
theorem qac(g0 g1 g2 g3:GfZ):CdZ [(jb,g0),(jx,g1),(yp,g2),(yj,g3)] q7b jx Try.f94 q6h:=fun cd h=>by injection h with h;subst h;kernel_rfl
def j1:Ct:=⟨44,[.val (.st 23)],[(.st 23,false),(.bool,false)],[],none,[],[]⟩
theorem qjp:EnZ j1:=fun _ _=>by kernel_rfl
def q17:Ct:=⟨69,[.val (.st 23)],[(.st 23,false),(.bool,false)],[],none,[],[]⟩
theorem qds:EnZ q17:=fun _ _=>by kernel_rfl
def qon:Ann:=⟨[0,1,2,3,6,19],[]⟩
def q80:Tree:=(.need [(.ok 0 [(.tok 0)])] (.br (.not (.call 0 0 [(.tok 0)])) (.leaf [(.lit (.a [(.i 0),(.i 0),(.s ⟨#[]⟩),(.r [])])),(.lit (.b .false))]) (.need [(.ok 1 [(.tok 0)])] (.need [(.imp (.not (.not (.call 1 1 [(.tok 0)]))) (.ok 2 [(.call 1 0 [(.tok 0)])]))] (.br (.or (.not (.call 1 1 [(.tok 0)])) (.lt (.lit (.i 2000)) (.call 2 0 [(.call 1 0 [(.tok 0)])]))) (.leaf [(.lit (.a [(.i 0),(.i 0),(.s ⟨#[]⟩),(.r [])])),(.lit (.b .false))]) (.leaf [(.call 1 0 [(.tok 0)]),(.lit (.b .true))]))))))
theorem qlm(g0 g1 g2:GfZ):CdZ [(zj,g0),(q17,g1),(yh,g2)] qon j1 Try.f44 q80:=fun cd h=>by injection h with h;subst h;kernel_rfl
theorem qny{g0 g1 g2 g:GfZ}(h0:FOk zj g0)(h1:FOk q17 g1)(h2:FOk yh g2)(h:HgZ q80 j1 [(zj,g0),(q17,g1),(yh,g2)] g):FOk j1 g:=yw (qlm g0 g1 g2) (.cons h0 (.cons h1 (.cons h2 .nil))) rfl rfl qjp (by decide) h
def ye:Ct:=⟨67,[.val (.st 23),.val (.st 23)],[(.bool,false)],[],none,[],[]⟩
theorem q5t:EnZ ye:=fun _ _=>by kernel_rfl
def qdx:Ann:=⟨[0,1,2,3,4,5,6,34,36,37,38,39,50],[(4,⟨[(4,.bool,false),(38,.int .i64,false)],[],[39,40,41,42,6,5,43,44,45,46,47,48,49,50,51],[]⟩)]⟩
def q31:Tree:=(.br (.or (.or (.or (.not (.eq (.fld (.tok 0) 0) (.fld (.tok 1) 0))) (.not (.eq (.fld (.tok 0) 1) (.fld (.tok 1) 1)))) (.not (.eq (.fld (.tok 0) 2) (.fld (.tok 1) 2)))) (.not (.eq (.len (.fld (.tok 0) 3)) (.len (.fld (.tok 1) 3))))) (.leaf [(.lit (.b .false))]) (.loop 4 2 [(.lit (.b .false)),(.lit (.i 0))] (.br (.lt (.tok 3) (.len (.fld (.tok 0) 3))) (.need [(.le (.lit (.i 0)) (.tok 3)),(.lt (.tok 3) (.len (.fld (.tok 0) 3)))] (.need [(.ok 0 [(.get (.fld (.tok 0) 3) (.tok 3)),(.get (.fld (.tok 1) 3) (.tok 3))]),(.le (.lit (.i 0)) (.tok 3)),(.lt (.tok 3) (.len (.fld (.tok 1) 3)))] (.br (.not (.call 0 0 [(.get (.fld (.tok 0) 3) (.tok 3)),(.get (.fld (.tok 1) 3) (.tok 3))])) (.leaf [(.lit (.b .false))]) (.need [(.rng .i64 (.add (.tok 3) (.lit (.i 1))))] (.back 4 [(.tok 2),(.add (.tok 3) (.lit (.i 1)))]))))) (.leaf [(.lit (.b .true))]))))
theorem qcb(g0:GfZ):CdZ [(ye,g0)] qdx ye Try.f67 q31:=fun cd h=>by injection h with h;subst h;kernel_rfl
theorem qdk{g0 g:GfZ}(h0:FOk ye g0)(h:HgZ q31 ye [(ye,g0)] g):FOk ye g:=yw (qcb g0) (.cons h0 .nil) rfl rfl q5t (by decide) h
def j2:Ct:=⟨37,[.val (.st 23),.val (.st 23)],[(.bool,false)],[],none,[],[]⟩
theorem qia:EnZ j2:=fun _ _=>by kernel_rfl
def qoo:Ann:=⟨[0,1,2,3,4],[]⟩
def q7f:Tree:=(.need [(.ok 0 [(.tok 0)]),(.imp (.call 0 0 [(.tok 0)]) (.ok 0 [(.tok 1)])),(.imp (.and (.call 0 0 [(.tok 0)]) (.call 0 0 [(.tok 1)])) (.ok 1 [(.tok 0),(.tok 1)]))] (.leaf [(.and (.and (.call 0 0 [(.tok 0)]) (.call 0 0 [(.tok 1)])) (.call 1 0 [(.tok 0),(.tok 1)]))]))
theorem qn7(g0 g1:GfZ):CdZ [(zj,g0),(ye,g1)] qoo j2 Try.f37 q7f:=fun cd h=>by injection h with h;subst h;kernel_rfl
theorem qoi{g0 g1 g:GfZ}(h0:FOk zj g0)(h1:FOk ye g1)(h:HgZ q7f j2 [(zj,g0),(ye,g1)] g):FOk j2 g:=yw (qn7 g0 g1) (.cons h0 (.cons h1 .nil)) rfl rfl qia (by decide) h
def yc:Ct:=⟨70,[.val (.st 23),.mref (.map 2 2)],[(.st 23,false)],[],none,[],[]⟩
theorem q8m:EnZ yc:=fun _ _=>by kernel_rfl
def qit:Ann:=⟨[0,1,2,4,5,6,7,9,19,28,38,39,40,41],[(9,⟨[(40,.int .i64,false),(1,.map 2 2,false)],[5],[41,42,43,9,44,45,46,47,48,49,50,51,52,21,29,31],[]⟩)]⟩
def q1r:Tree:=
 let b:X:=.get (.fld (.tok 0) 3) (.tok 2)
 let c:X:=.lt (.tok 2) (.len (.fld (.tok 0) 3))
 let d:X:=.le (.add (.len (.fld (.tok 4) 3)) (.lit (.i 1))) (.lit (.i 2513169434843))
 let f:X:=.add (.tok 2) (.lit (.i 1))
 let g:X:=.lit (.i 0)
 let h:X:=.tok 3
 let i:X:=.tok 1
 let k:X:=.fld (.tok 0) 1
 let a:X:=.set (.set (.set (.lit (.a [(.i 0),(.i 0),(.s ⟨#[]⟩),(.r [])])) 0 (.fld (.tok 0) 0)) 1 k) 2 (.fld (.tok 0) 2)
 let e:X:=.set (.tok 4) 3 (.app (.fld (.tok 4) 3) (.row [(.call 0 0 [b,h])]))
 let j:X:=.call 0 1 [b,h]
 let l:X:=.le g (.tok 2)
 let m:X:=.ok 0 [b,h]
 let n:X:=.rng .i64 f
 (.br (.eq (.fld (.tok 0) 0) g) (.br (.not (.fn 1 [i,k])) (.need [(.rng .i64 (.fn 3 [i]))] (.loop 9 2 [g,(.fn 2 [i,k,(.fn 3 [i])]),(.set a 1 (.fn 3 [i]))] (.br c (.need [l,c] (.need [d,m] (.need [n] (.back 9 [f,j,e])))) (.leaf [(.tok 4),h])))) (.loop 9 2 [g,i,(.set a 1 (.fn 0 [i,k,g]))] (.br c (.need [l,c] (.need [d,m] (.need [n] (.back 9 [f,j,e])))) (.leaf [(.tok 4),h])))) (.loop 9 2 [g,i,a] (.br c (.need [l,c] (.need [d,m] (.need [n] (.back 9 [f,j,e])))) (.leaf [(.tok 4),h]))))
theorem qgp(g0:GfZ):CdZ [(yc,g0)] qit yc Try.f70 q1r:=fun cd h=>by injection h with h;subst h;kernel_rfl
theorem qi4{g0 g:GfZ}(h0:FOk yc g0)(h:HgZ q1r yc [(yc,g0)] g):FOk yc g:=yw (qgp g0) (.cons h0 .nil) rfl rfl q8m (by decide) h
def ji:Ct:=⟨45,[.val (.st 25)],[(.st 25,true),(.int .i64,false)],[],none,[],[]⟩
theorem qb8:EnZ ji:=fun _ _=>by kernel_rfl
def qdt:Ann:=⟨[0,1,2,3,4],[]⟩
def q30:Tree:=(.need [(.ok 0 [(.fld (.tok 0) 0),(.lit (.mp []))])] (.need [(.ok 0 [(.fld (.tok 0) 1),(.call 0 1 [(.fld (.tok 0) 0),(.lit (.mp []))])])] (.need [(.rng .i64 (.fn 3 [(.call 0 1 [(.fld (.tok 0) 1),(.call 0 1 [(.fld (.tok 0) 0),(.lit (.mp []))])])]))] (.leaf [(.set (.set (.lit (.a [(.a [(.i 0),(.i 0),(.s ⟨#[]⟩),(.r [])]),(.a [(.i 0),(.i 0),(.s ⟨#[]⟩),(.r [])])])) 0 (.call 0 0 [(.fld (.tok 0) 0),(.lit (.mp []))])) 1 (.call 0 0 [(.fld (.tok 0) 1),(.call 0 1 [(.fld (.tok 0) 0),(.lit (.mp []))])])),(.fn 3 [(.call 0 1 [(.fld (.tok 0) 1),(.call 0 1 [(.fld (.tok 0) 0),(.lit (.mp []))])])])]))))
theorem qcd(g0:GfZ):CdZ [(yc,g0)] qdt ji Try.f45 q30:=fun cd h=>by injection h with h;subst h;kernel_rfl
theorem qd3{g0 g:GfZ}(h0:FOk yc g0)(h:HgZ q30 ji [(yc,g0)] g):FOk ji g:=yw (qcd g0) (.cons h0 .nil) rfl rfl qb8 (by decide) h
def q0r:Ct:=⟨17,[.val (.st 25)],[(.bool,false)],[],none,[],[]⟩
theorem qhk:EnZ q0r:=fun _ _=>by kernel_rfl
def qkp:Ann:=⟨[0,1,2,3,4,5,20,35],[]⟩
def jg:Tree:=
 let a:X:=.tok 0
 let c:X:=.fld a 1
 let e:X:=.call 5 0 [a]
 let f:X:=.fld a 0
 let b:X:=.and (.le (.call 5 1 [a]) (.lit (.i 64))) (.call 4 0 [(.fld e 0),f])
 let d:X:=.or (.not (.call 0 0 [f])) (.not (.call 1 0 [f]))
 (.need [(.ok 0 [f]),(.imp (.not (.not (.call 0 0 [f]))) (.ok 1 [f])),(.imp (.not d) (.ok 2 [a]))] (.br (.or d (.not (.call 2 0 [a]))) (.leaf [(.lit (.b .false))]) (.need [(.ok 3 [c])] (.need [(.imp (.not (.not (.call 3 1 [c]))) (.ok 4 [(.call 3 0 [c]),c]))] (.br (.or (.not (.call 3 1 [c])) (.not (.call 4 0 [(.call 3 0 [c]),c]))) (.leaf [(.lit (.b .false))]) (.need [(.ok 5 [a])] (.need [(.imp (.le (.call 5 1 [a]) (.lit (.i 64))) (.ok 4 [(.fld e 0),f])),(.imp b (.ok 4 [(.fld e 1),c]))] (.leaf [(.and b (.call 4 0 [(.fld e 1),c]))]))))))))
theorem qib(g0 g1 g2 g3 g4 g5:GfZ):CdZ [(zj,g0),(yp,g1),(q1b,g2),(j1,g3),(j2,g4),(ji,g5)] qkp q0r Try.f17 jg:=fun cd h=>by injection h with h;subst h;kernel_rfl
theorem qni{g0 g1 g2 g3 g4 g5 g:GfZ}(h0:FOk zj g0)(h1:FOk yp g1)(h2:FOk q1b g2)(h3:FOk j1 g3)(h4:FOk j2 g4)(h5:FOk ji g5)(h:HgZ jg q0r [(zj,g0),(yp,g1),(q1b,g2),(j1,g3),(j2,g4),(ji,g5)] g):FOk q0r g:=yw (qib g0 g1 g2 g3 g4 g5) (.cons h0 (.cons h1 (.cons h2 (.cons h3 (.cons h4 (.cons h5 .nil)))))) rfl rfl qhk (by decide) h
def j8:Ct:=⟨71,[.val (.st 23),.ref (.map 2 3) true,.ref (.row 2) true],[(.st 23,false)],[],none,[],[]⟩
theorem qei:EnZ j8:=fun _ _=>by kernel_rfl
def qjl:Ann:=⟨[0,1,2,3,4,9],[]⟩
def q58:Tree:=(.br (.eq (.fn 0 [(.tok 1),(.fld (.tok 0) 1),(.lit (.i 0))]) (.lit (.i 0))) (.need [(.le (.add (.len (.tok 2)) (.lit (.i 1))) (.lit (.i 17592186043904)))] (.leaf [(.tok 0),(.fn 2 [(.tok 1),(.fld (.tok 0) 1),(.lit (.i 1))]),(.app (.tok 2) (.row [(.fld (.tok 0) 1)]))])) (.leaf [(.tok 0),(.tok 1),(.tok 2)]))
theorem qfy:CdZ [] qjl j8 Try.f71 q58:=fun cd h=>by injection h with h;subst h;kernel_rfl
theorem qhy{g:GfZ}(h:HgZ q58 j8 [] g):FOk j8 g:=yw (qfy) .nil rfl rfl qei (by decide) h
def yu:Ct:=⟨47,[.val (.st 23),.fn 71 [2,3]],[(.st 23,false)],[(.cap 1 0,.ref (.map 2 3) true),(.cap 1 1,.ref (.row 2) true)],none,[],[]⟩
theorem q7t:EnZ yu:=fun _ _=>by kernel_rfl
def qgb:Ann:=⟨[0,1,2,4,5,7,10,22,23,24,25],[(5,⟨[(24,.int .i64,false)],[5,100000,100001],[25,26,27,7,28,29,30,31,32,33,34,35,36],[]⟩)]⟩
def q40:Tree:=(.br (.eq (.fld (.tok 0) 0) (.lit (.i 0))) (.need [(.ok 0 [(.tok 0),(.tok 1),(.tok 2)])] (.leaf [(.call 0 0 [(.tok 0),(.tok 1),(.tok 2)]),(.call 0 1 [(.tok 0),(.tok 1),(.tok 2)]),(.call 0 2 [(.tok 0),(.tok 1),(.tok 2)])])) (.loop 5 3 [(.lit (.i 0)),(.set (.set (.set (.lit (.a [(.i 0),(.i 0),(.s ⟨#[]⟩),(.r [])])) 0 (.fld (.tok 0) 0)) 1 (.fld (.tok 0) 1)) 2 (.fld (.tok 0) 2)),(.tok 1),(.tok 2)] (.br (.lt (.tok 3) (.len (.fld (.tok 0) 3))) (.need [(.le (.lit (.i 0)) (.tok 3)),(.lt (.tok 3) (.len (.fld (.tok 0) 3)))] (.need [(.le (.add (.len (.fld (.tok 4) 3)) (.lit (.i 1))) (.lit (.i 2513169434843))),(.ok 1 [(.get (.fld (.tok 0) 3) (.tok 3)),(.tok 5),(.tok 6)])] (.need [(.rng .i64 (.add (.tok 3) (.lit (.i 1))))] (.back 5 [(.add (.tok 3) (.lit (.i 1))),(.set (.tok 4) 3 (.app (.fld (.tok 4) 3) (.row [(.call 1 0 [(.get (.fld (.tok 0) 3) (.tok 3)),(.tok 5),(.tok 6)])]))),(.call 1 1 [(.get (.fld (.tok 0) 3) (.tok 3)),(.tok 5),(.tok 6)]),(.call 1 2 [(.get (.fld (.tok 0) 3) (.tok 3)),(.tok 5),(.tok 6)])])))) (.leaf [(.tok 4),(.tok 5),(.tok 6)]))))
theorem qed(g0 g1:GfZ):CdZ [(j8,g0),(yu,g1)] qgb yu uT q40:=fun cd h=>by injection h with h;subst h;kernel_rfl
theorem qg3{g0 g1 g:GfZ}(h0:FOk j8 g0)(h1:FOk yu g1)(h:HgZ q40 yu [(j8,g0),(yu,g1)] g):FOk yu g:=yw (qed g0 g1) (.cons h0 (.cons h1 .nil)) rfl rfl q7t (by decide) h
def jz:Ct:=⟨46,[.val (.st 23)],[(.row 2,true)],[],none,[],[]⟩
theorem qhz:EnZ jz:=fun _ _=>by kernel_rfl
def qof:Ann:=⟨[0,1,2,3,4,7],[]⟩
def q48:Tree:=(.need [(.ok 1 [(.tok 0)])] (.br (.not (.call 1 0 [(.tok 0)])) (.leaf [(.lit (.r []))]) (.need [(.ok 2 [(.tok 0),(.lit (.mp [])),(.lit (.r []))])] (.leaf [(.call 2 2 [(.tok 0),(.lit (.mp [])),(.lit (.r []))])]))))
theorem qnq(g0 g1 g2:GfZ):CdZ [(j8,g0),(zj,g1),(yu,g2)] qof jz Try.f46 q48:=fun cd h=>by injection h with h;subst h;kernel_rfl
theorem qo3{g0 g1 g2 g:GfZ}(h0:FOk j8 g0)(h1:FOk zj g1)(h2:FOk yu g2)(h:HgZ q48 jz [(j8,g0),(zj,g1),(yu,g2)] g):FOk jz g:=yw (qnq g0 g1 g2) (.cons h0 (.cons h1 (.cons h2 .nil))) rfl rfl qhz (by decide) h
def jo:Ct:=⟨18,[.val (.row 24)],[(.int .i64,false)],[],none,[],[]⟩
theorem qgq:EnZ jo:=fun _ _=>by kernel_rfl
def qn9:Ann:=⟨[0,2,3,5,7,8,9,10,11,15,16,17,18],[(3,⟨[(3,.int .i64,false),(10,.int .i64,false)],[],[11,12,13,5,14,15,16,17,18,19,20,7,21,22,23,24,25,26],[]⟩),
 (6,⟨[(3,.int .i64,false),(17,.int .i64,false)],[],[18,19,20,7,21,22,23,24,25],[]⟩)]⟩
def q67:Tree:=(.loop 3 1 [(.lit (.i 0)),(.lit (.i 0))] (.br (.lt (.tok 2) (.len (.tok 0))) (.need [(.le (.lit (.i 0)) (.tok 2)),(.lt (.tok 2) (.len (.tok 0)))] (.need [(.ok 0 [(.get (.tok 0) (.tok 2))])] (.loop 6 3 [(.tok 1),(.lit (.i 0))] (.br (.lt (.tok 4) (.len (.call 0 0 [(.get (.tok 0) (.tok 2))]))) (.need [(.le (.lit (.i 0)) (.tok 4)),(.lt (.tok 4) (.len (.call 0 0 [(.get (.tok 0) (.tok 2))])))] (.need [(.rng .i64 (.add (.get (.call 0 0 [(.get (.tok 0) (.tok 2))]) (.tok 4)) (.lit (.i 1))))] (.need [(.rng .i64 (.add (.tok 4) (.lit (.i 1))))] (.back 6 [(.ite (.lt (.tok 3) (.add (.get (.call 0 0 [(.get (.tok 0) (.tok 2))]) (.tok 4)) (.lit (.i 1)))) (.add (.get (.call 0 0 [(.get (.tok 0) (.tok 2))]) (.tok 4)) (.lit (.i 1))) (.tok 3)),(.add (.tok 4) (.lit (.i 1)))])))) (.need [(.rng .i64 (.add (.tok 2) (.lit (.i 1))))] (.back 3 [(.tok 3),(.add (.tok 2) (.lit (.i 1)))])))))) (.leaf [(.tok 1)])))
theorem qi8(g0:GfZ):CdZ [(jz,g0)] qn9 jo Try.f18 q67:=fun cd h=>by injection h with h;subst h;kernel_rfl
theorem ql6{g0 g:GfZ}(h0:FOk jz g0)(h:HgZ q67 jo [(jz,g0)] g):FOk jo g:=yw (qi8 g0) (.cons h0 .nil) rfl rfl qgq (by decide) h
def jy:Ct:=⟨72,[.val (.st 23)],[(.bool,false)],[],none,[],[]⟩
theorem qaf:EnZ jy:=fun _ _=>by kernel_rfl
def qnv:Ann:=⟨[0,1,2,3,10,14],[]⟩
def q7k:Tree:=(.br (.eq (.fld (.tok 0) 0) (.lit (.i 2))) (.leaf [(.eq (.fld (.tok 0) 2) (.lit (.s ⟨#[33]⟩)))]) (.need [(.ok 0 [(.tok 0)])] (.br (.not (.call 0 0 [(.tok 0)])) (.leaf [(.lit (.b .false))]) (.br (.eq (.fld (.tok 0) 2) (.lit (.s ⟨#[45,62]⟩))) (.need [(.lit (.b .true)),(.lt (.lit (.i 1)) (.len (.fld (.tok 0) 3))),(.ok 1 [(.get (.fld (.tok 0) 3) (.lit (.i 1)))])] (.leaf [(.call 1 0 [(.get (.fld (.tok 0) 3) (.lit (.i 1)))])])) (.need [(.lit (.b .true)),(.lt (.lit (.i 0)) (.len (.fld (.tok 0) 3))),(.ok 1 [(.get (.fld (.tok 0) 3) (.lit (.i 0)))]),(.imp (.not (.call 1 0 [(.get (.fld (.tok 0) 3) (.lit (.i 0)))])) (.lit (.b .true))),(.imp (.not (.call 1 0 [(.get (.fld (.tok 0) 3) (.lit (.i 0)))])) (.lt (.lit (.i 1)) (.len (.fld (.tok 0) 3)))),(.imp (.not (.call 1 0 [(.get (.fld (.tok 0) 3) (.lit (.i 0)))])) (.ok 1 [(.get (.fld (.tok 0) 3) (.lit (.i 1)))]))] (.leaf [(.or (.call 1 0 [(.get (.fld (.tok 0) 3) (.lit (.i 0)))]) (.call 1 0 [(.get (.fld (.tok 0) 3) (.lit (.i 1)))]))]))))))
theorem qn8(g0 g1:GfZ):CdZ [(jb,g0),(jy,g1)] qnv jy Try.f72 q7k:=fun cd h=>by injection h with h;subst h;kernel_rfl
theorem qo7{g0 g1 g:GfZ}(h0:FOk jb g0)(h1:FOk jy g1)(h:HgZ q7k jy [(jb,g0),(jy,g1)] g):FOk jy g:=yw (qn8 g0 g1) (.cons h0 (.cons h1 .nil)) rfl rfl qaf (by decide) h
def y2:Ct:=⟨49,[.val (.st 23)],[(.bool,false)],[],none,[],[]⟩
theorem qin:EnZ y2:=fun _ _=>by kernel_rfl
def qo1:Ann:=⟨[0,1,2],[]⟩
def q7h:Tree:=(.need [(.ok 0 [(.tok 0)]),(.imp (.call 0 0 [(.tok 0)]) (.ok 1 [(.tok 0)]))] (.leaf [(.and (.call 0 0 [(.tok 0)]) (.call 1 0 [(.tok 0)]))]))
theorem qmx(g0 g1:GfZ):CdZ [(zj,g0),(jy,g1)] qo1 y2 Try.f49 q7h:=fun cd h=>by injection h with h;subst h;kernel_rfl
theorem qo6{g0 g1 g:GfZ}(h0:FOk zj g0)(h1:FOk jy g1)(h:HgZ q7h y2 [(zj,g0),(jy,g1)] g):FOk y2 g:=yw (qmx g0 g1) (.cons h0 (.cons h1 .nil)) rfl rfl qin (by decide) h
def yr:Ct:=⟨51,[.val (.int .i64),.val (.int .i64)],[(.st 41,false)],[],none,[],[]⟩
theorem qom:EnZ yr:=fun _ _=>by kernel_rfl
def qtn:Ann:=⟨[0,1,4],[]⟩
def qa2:Tree:=(.leaf [(.set (.set (.lit (.a [(.i 0),(.a [(.s ⟨#[]⟩),(.i 0),(.i 0)]),(.r []),(.i 0)])) 0 (.tok 0)) 3 (.tok 1))])
theorem qqs:CdZ [] qtn yr Try.f51 qa2:=fun cd h=>by injection h with h;subst h;kernel_rfl
theorem qtd{g:GfZ}(h:HgZ qa2 yr [] g):FOk yr g:=yw (qqs) .nil rfl rfl qom (by decide) h
def q0w:Ct:=⟨73,[.val (.st 23),.val (.str),.val (.int .i64)],[(.bool,false)],[],none,[],[]⟩
theorem qp8:EnZ q0w:=fun _ _=>by kernel_rfl
def qv6:Ann:=⟨[0,1,2,3,6],[]⟩
def q9z:Tree:=(.leaf [(.and (.and (.or (.eq (.fld (.tok 0) 0) (.lit (.i 2))) (.eq (.fld (.tok 0) 0) (.lit (.i 3)))) (.eq (.fld (.tok 0) 2) (.tok 1))) (.eq (.len (.fld (.tok 0) 3)) (.tok 2)))])
theorem qqt:CdZ [] qv6 q0w Try.f73 q9z:=fun cd h=>by injection h with h;subst h;kernel_rfl
theorem qtz{g:GfZ}(h:HgZ q9z q0w [] g):FOk q0w g:=yw (qqt) .nil rfl rfl qp8 (by decide) h
def q0d:Ct:=⟨102,[.val (.int .i64)],[(.bool,false)],[],none,[],[]⟩
theorem qer:EnZ q0d:=fun _ _=>by kernel_rfl
def qiu:Ann:=⟨[0,2],[]⟩
def q4l:Tree:=(.leaf [(.and (.le (.lit (.i 0)) (.tok 0)) (.le (.tok 0) (.lit (.i 1099511627776))))])
theorem qgi:CdZ [] qiu q0d Try.f102 q4l:=fun cd h=>by injection h with h;subst h;kernel_rfl
theorem qjn{g:GfZ}(h:HgZ q4l q0d [] g):FOk q0d g:=yw (qgi) .nil rfl rfl qer (by decide) h
def y1:Ct:=⟨78,[.val (.int .i64)],[(.st 23,false)],[],none,[],[]⟩
theorem qke:EnZ y1:=fun _ _=>by kernel_rfl
def qrr:Ann:=⟨[0,2,5],[]⟩
def q99:Tree:=(.need [(.ok 0 [(.tok 0)])] (.br (.not (.call 0 0 [(.tok 0)])) (.leaf [(.lit (.a [(.i 0),(.i 0),(.s ⟨#[]⟩),(.r [])]))]) (.leaf [(.set (.lit (.a [(.i 0),(.i 0),(.s ⟨#[]⟩),(.r [])])) 1 (.tok 0))])))
theorem qp1(g0:GfZ):CdZ [(q0d,g0)] qrr y1 Try.f78 q99:=fun cd h=>by injection h with h;subst h;kernel_rfl
theorem qr8{g0 g:GfZ}(h0:FOk q0d g0)(h:HgZ q99 y1 [(q0d,g0)] g):FOk y1 g:=yw (qp1 g0) (.cons h0 .nil) rfl rfl qke (by decide) h
def y4:Ct:=⟨64,[.val (.st 23)],[(.row 24,true)],[],none,[],[]⟩
theorem qjc:EnZ y4:=fun _ _=>by kernel_rfl
def qp5:Ann:=⟨[0,1,2,4,6,7,8,9],[(2,⟨[(2,.row 24,false),(8,.int .i64,false)],[],[9,10,11,4,12,13,14,15,16,17],[]⟩)]⟩
def q7a:Tree:=(.need [(.ok 0 [(.tok 0)])] (.loop 2 1 [(.lit (.r [])),(.lit (.i 0))] (.br (.lt (.tok 2) (.len (.call 0 0 [(.tok 0)]))) (.need [(.le (.lit (.i 0)) (.tok 2)),(.lt (.tok 2) (.len (.call 0 0 [(.tok 0)])))] (.need [(.ok 1 [(.get (.call 0 0 [(.tok 0)]) (.tok 2))]),(.le (.add (.len (.tok 1)) (.lit (.i 1))) (.lit (.i 2513169434843)))] (.need [(.rng .i64 (.add (.tok 2) (.lit (.i 1))))] (.back 2 [(.app (.tok 1) (.row [(.call 1 0 [(.get (.call 0 0 [(.tok 0)]) (.tok 2))])])),(.add (.tok 2) (.lit (.i 1)))])))) (.leaf [(.tok 1)]))))
theorem qnb(g0 g1:GfZ):CdZ [(jz,g0),(y1,g1)] qp5 y4 Try.f64 q7a:=fun cd h=>by injection h with h;subst h;kernel_rfl
theorem qoa{g0 g1 g:GfZ}(h0:FOk jz g0)(h1:FOk y1 g1)(h:HgZ q7a y4 [(jz,g0),(y1,g1)] g):FOk y4 g:=yw (qnb g0 g1) (.cons h0 (.cons h1 .nil)) rfl rfl qjc (by decide) h
def zg:Ct:=⟨101,[.val (.row 24)],[(.row 24,false)],[],none,[],[]⟩
theorem q9c:EnZ zg:=fun _ _=>by kernel_rfl
def qal:Ann:=⟨[0,2,4],[]⟩
def q41:Tree:=(.amb (.tok 0) .false (.leaf [(.lit (.r []))]) (.need [(.le (.add (.lit (.i 0)) (.len (.tok 0))) (.lit (.i 2513169434843)))] (.leaf [(.app (.row []) (.tok 0))])))
theorem qa3:CdZ [] qal zg Try.f101 q41:=fun cd h=>by injection h with h;subst h;kernel_rfl
theorem qap{g:GfZ}(h:HgZ q41 zg [] g):FOk zg g:=yw (qa3) .nil rfl rfl q9c (by decide) h
def y3:Ct:=⟨76,[.val (.st 34),.val (.row 24)],[(.st 41,false)],[],none,[],[]⟩
theorem qji:EnZ y3:=fun _ _=>by kernel_rfl
def qoy:Ann:=⟨[0,1,2,4,5,7,10,11,12,13],[(3,⟨[(12,.int .i64,false)],[5],[13,14,15,7,16,17,18,19,20,21,22,23],[]⟩)]⟩
def q79:Tree:=(.loop 3 2 [(.lit (.i 0)),(.set (.set (.lit (.a [(.i 0),(.a [(.s ⟨#[]⟩),(.i 0),(.i 0)]),(.r []),(.i 0)])) 0 (.lit (.i 1))) 1 (.tok 0))] (.br (.lt (.tok 2) (.len (.tok 1))) (.need [(.le (.lit (.i 0)) (.tok 2)),(.lt (.tok 2) (.len (.tok 1)))] (.need [(.le (.add (.len (.fld (.tok 3) 2)) (.lit (.i 1))) (.lit (.i 2513169434843))),(.ok 0 [(.get (.tok 1) (.tok 2))])] (.need [(.rng .i64 (.add (.tok 2) (.lit (.i 1))))] (.back 3 [(.add (.tok 2) (.lit (.i 1))),(.set (.tok 3) 2 (.app (.fld (.tok 3) 2) (.row [(.call 0 0 [(.get (.tok 1) (.tok 2))])])))])))) (.leaf [(.tok 3)])))
theorem qnj(g0:GfZ):CdZ [(yj,g0)] qoy y3 Try.f76 q79:=fun cd h=>by injection h with h;subst h;kernel_rfl
theorem qp4{g0 g:GfZ}(h0:FOk yj g0)(h:HgZ q79 y3 [(yj,g0)] g):FOk y3 g:=yw (qnj g0) (.cons h0 .nil) rfl rfl qji (by decide) h
def zo:Ct:=⟨75,[.ref (.st 52) true,.cst (.st 99) (.a [.s ⟨#[59]⟩,.i 2,.i 96]),.val (.st 23),.val (.int .i64)],[(.st 41,false)],[],none,[],[]⟩
theorem q4h:EnZ zo:=fun _ _=>by kernel_rfl
def y5:Ct:=⟨96,[.ref (.st 52) true,.val (.st 23),.val (.int .i64)],[(.row 36,false)],[],none,[],[]⟩
theorem q6f:EnZ y5:=fun _ _=>by kernel_rfl
def zd:Ct:=⟨100,[.ref (.st 49) true],[(.int .i64,false)],[],none,[],[]⟩
theorem q68:EnZ zd:=fun _ _=>by kernel_rfl
def q5v:Ann:=⟨[0,1,2,3,5,6,8,9,10,11,12,14,18,50,51,52,53],[(9,⟨[(12,.row 38,false),(52,.int .i64,false)],[],[53,54,55,14,56,57,58,59,60,61,62,63,64],[369,257]⟩)]⟩
def yq:Tree:=
 let h:X:=.lit (.i 1)
 let j:X:=.call 1 0 [(.tok 1)]
 let k:X:=.tok 4
 let l:X:=.lit (.i 0)
 let a:X:=.set (.tok 0) 0 (.set (.fld (.tok 0) 0) 1 (.add (.fld (.fld (.tok 0) 0) 1) h))
 let c:X:=.app j (.row [(.call 3 0 [(.tok 2)])])
 let d:X:=.set (.set (.lit (.a [(.s ⟨#[]⟩),(.i 0),(.i 0)])) 1 (.len j)) 2 (.fld (.fld (.tok 0) 0) 1)
 let m:X:=.le (.add (.len (.tok 3)) h) (.lit (.i 1759218604390))
 let n:X:=.rng .i64 (.add (.fld (.fld (.tok 0) 0) 1) h)
 let s:X:=.add k h
 let b:X:=.set a 2 (.app (.fld a 2) (.row [(.lit (.r []))]))
 let e:X:=.set (.set (.lit (.a [(.s ⟨#[]⟩),(.i 0),(.i 0)])) 1 (.len c)) 2 (.fld (.fld (.tok 0) 0) 1)
 let i:X:=.len (.fld a 2)
 let f:X:=.call 0 0 [b,(.tok 1),(.tok 2)]
 let g:X:=.call 0 1 [b,(.tok 1),(.tok 2)]
 let p:X:=.le (.add i h) (.lit (.i 5864062014634))
 let r:X:=.ok 0 [b,(.tok 1),(.tok 2)]
 let o:X:=.lt k (.len f)
 let q:X:=.set g 2 (.put (.fld g 2) i (.tok 3))
 let t:X:=.lt i (.len (.fld g 2))
 (.need [(.ok 1 [(.tok 1)])] (.need [(.ok 2 [(.tok 1)])] (.br (.call 2 0 [(.tok 1)]) (.need [(.ok 3 [(.tok 2)]),(.le (.add (.len j) h) (.lit (.i 2513169434843)))] (.need [n] (.need [p] (.need [r] (.loop 9 3 [(.lit (.r [])),l] (.br o (.need [(.le l k),o] (.need [m,(.ok 5 [c])] (.need [(.rng .i64 s)] (.back 9 [(.app (.tok 3) (.row [(.mk [e,(.call 5 0 [c]),(.get f k)])])),s])))) (.need [(.le l i),t] (.need [(.ok 6 [e,c])] (.leaf [(.call 6 0 [e,c]),q]))))))))) (.need [n] (.need [p] (.need [r] (.loop 9 3 [(.lit (.r [])),l] (.br o (.need [(.le l k),o] (.need [m,(.ok 5 [j])] (.need [(.rng .i64 s)] (.back 9 [(.app (.tok 3) (.row [(.mk [d,(.call 5 0 [j]),(.get f k)])])),s])))) (.need [(.le l i),t] (.need [(.ok 6 [d,j])] (.leaf [(.call 6 0 [d,j]),q])))))))))))
theorem q4t(g0 g1 g2 g3 g4 g5 g6:GfZ):CdZ [(y5,g0),(y4,g1),(y2,g2),(y1,g3),(zd,g4),(zg,g5),(y3,g6)] q5v zo uN yq:=fun cd h=>by injection h with h;subst h;kernel_rfl
theorem q5s{g0 g1 g2 g3 g4 g5 g6 g:GfZ}(h0:FOk y5 g0)(h1:FOk y4 g1)(h2:FOk y2 g2)(h3:FOk y1 g3)(h4:FOk zd g4)(h5:FOk zg g5)(h6:FOk y3 g6)(h:HgZ yq zo [(y5,g0),(y4,g1),(y2,g2),(y1,g3),(zd,g4),(zg,g5),(y3,g6)] g):FOk zo g:=yw (q4t g0 g1 g2 g3 g4 g5 g6) (.cons h0 (.cons h1 (.cons h2 (.cons h3 (.cons h4 (.cons h5 (.cons h6 .nil))))))) rfl rfl q4h (by decide) h
def zn:Ct:=⟨105,[.ref (.st 52) true,.val (.st 23)],[(.row 42,true)],[],none,[],[]⟩
theorem q6w:EnZ zn:=fun _ _=>by kernel_rfl
def ze:Ct:=⟨50,[.ref (.st 49) true],[(.int .i64,false)],[],none,[],[]⟩
theorem q6t:EnZ ze:=fun _ _=>by kernel_rfl
def ql:Ct:=⟨52,[.ref (.st 52) true,.val (.st 23),.val (.int .i64)],[(.row 42,true)],[],none,[],[]⟩
theorem q2n:EnZ ql:=fun _ _=>by kernel_rfl
def q8g:Ann:=⟨[0,1,3,4,5,6],[]⟩
def q11:Tree:=
 let a:X:=.fld (.fld (.tok 0) 0) 0
 let d:X:=.lit (.i 1)
 let e:X:=.lit (.i 1954687338211)
 let b:X:=.set (.tok 0) 0 (.set (.fld (.tok 0) 0) 0 (.add a d))
 let c:X:=.app (.row [(.call 1 0 [(.lit (.i 3)),a])]) (.call 2 0 [b,(.tok 1),a])
 (.need [(.rng .i64 (.add a d))] (.need [(.ok 1 [(.lit (.i 3)),a])] (.need [(.ok 2 [b,(.tok 1),a]),(.le (.add d (.len (.call 2 0 [b,(.tok 1),a]))) e)] (.need [(.ok 1 [(.lit (.i 4)),a]),(.le (.add (.len c) d) e)] (.leaf [(.app c (.row [(.call 1 0 [(.lit (.i 4)),a])])),(.call 2 1 [b,(.tok 1),a])])))))
theorem q83(g0 g1 g2:GfZ):CdZ [(ze,g0),(yr,g1),(ql,g2)] q8g zn Try.f105 q11:=fun cd h=>by injection h with h;subst h;kernel_rfl
theorem q8b{g0 g1 g2 g:GfZ}(h0:FOk ze g0)(h1:FOk yr g1)(h2:FOk ql g2)(h:HgZ q11 zn [(ze,g0),(yr,g1),(ql,g2)] g):FOk zn g:=yw (q83 g0 g1 g2) (.cons h0 (.cons h1 (.cons h2 .nil))) rfl rfl q6w (by decide) h
def y9:Ct:=⟨97,[.ref (.st 52) true,.val (.st 23),.val (.int .i64)],[(.row 36,false)],[],none,[],[]⟩
theorem q76:EnZ y9:=fun _ _=>by kernel_rfl
def q96:Ann:=⟨[0,1,2,4,6,7],[]⟩
def q15:Tree:=(.need [(.lit (.b .true)),(.lt (.lit (.i 0)) (.len (.fld (.tok 1) 3))),(.ok 0 [(.tok 0),(.get (.fld (.tok 1) 3) (.lit (.i 0)))])] (.need [(.lit (.b .true)),(.lt (.lit (.i 1)) (.len (.fld (.tok 1) 3))),(.ok 1 [(.call 0 1 [(.tok 0),(.get (.fld (.tok 1) 3) (.lit (.i 0)))]),(.get (.fld (.tok 1) 3) (.lit (.i 1))),(.tok 2)]),(.le (.add (.len (.call 0 0 [(.tok 0),(.get (.fld (.tok 1) 3) (.lit (.i 0)))])) (.len (.call 1 0 [(.call 0 1 [(.tok 0),(.get (.fld (.tok 1) 3) (.lit (.i 0)))]),(.get (.fld (.tok 1) 3) (.lit (.i 1))),(.tok 2)]))) (.lit (.i 1954687338211)))] (.leaf [(.row [(.app (.call 0 0 [(.tok 0),(.get (.fld (.tok 1) 3) (.lit (.i 0)))]) (.call 1 0 [(.call 0 1 [(.tok 0),(.get (.fld (.tok 1) 3) (.lit (.i 0)))]),(.get (.fld (.tok 1) 3) (.lit (.i 1))),(.tok 2)]))]),(.call 1 1 [(.call 0 1 [(.tok 0),(.get (.fld (.tok 1) 3) (.lit (.i 0)))]),(.get (.fld (.tok 1) 3) (.lit (.i 1))),(.tok 2)])])))
theorem q86(g0 g1:GfZ):CdZ [(zn,g0),(ql,g1)] q96 y9 Try.f97 q15:=fun cd h=>by injection h with h;subst h;kernel_rfl
theorem q97{g0 g1 g:GfZ}(h0:FOk zn g0)(h1:FOk ql g1)(h:HgZ q15 y9 [(zn,g0),(ql,g1)] g):FOk y9 g:=yw (q86 g0 g1) (.cons h0 (.cons h1 .nil)) rfl rfl q76 (by decide) h
def zu:Ct:=⟨75,[.ref (.st 52) true,.cst (.st 99) (.a [.s ⟨#[45,62]⟩,.i 2,.i 97]),.val (.st 23),.val (.int .i64)],[(.st 41,false)],[],none,[],[]⟩
theorem q4i:EnZ zu:=fun _ _=>by kernel_rfl
def q5l:Ann:=⟨[0,1,2,3,5,6,8,9,10,11,12,14,18,50,51,52,53],[(9,⟨[(12,.row 38,false),(52,.int .i64,false)],[],[53,54,55,14,56,57,58,59,60,61,62,63,64],[369,257]⟩)]⟩
def q1x:Tree:=
 let h:X:=.lit (.i 1)
 let j:X:=.call 1 0 [(.tok 1)]
 let k:X:=.tok 4
 let l:X:=.lit (.i 0)
 let a:X:=.set (.tok 0) 0 (.set (.fld (.tok 0) 0) 1 (.add (.fld (.fld (.tok 0) 0) 1) h))
 let c:X:=.app j (.row [(.call 3 0 [(.tok 2)])])
 let d:X:=.set (.set (.lit (.a [(.s ⟨#[]⟩),(.i 0),(.i 0)])) 1 (.len j)) 2 (.fld (.fld (.tok 0) 0) 1)
 let m:X:=.le (.add (.len (.tok 3)) h) (.lit (.i 1759218604390))
 let n:X:=.rng .i64 (.add (.fld (.fld (.tok 0) 0) 1) h)
 let s:X:=.add k h
 let b:X:=.set a 2 (.app (.fld a 2) (.row [(.lit (.r []))]))
 let e:X:=.set (.set (.lit (.a [(.s ⟨#[]⟩),(.i 0),(.i 0)])) 1 (.len c)) 2 (.fld (.fld (.tok 0) 0) 1)
 let i:X:=.len (.fld a 2)
 let f:X:=.call 0 0 [b,(.tok 1),(.tok 2)]
 let g:X:=.call 0 1 [b,(.tok 1),(.tok 2)]
 let p:X:=.le (.add i h) (.lit (.i 5864062014634))
 let r:X:=.ok 0 [b,(.tok 1),(.tok 2)]
 let o:X:=.lt k (.len f)
 let q:X:=.set g 2 (.put (.fld g 2) i (.tok 3))
 let t:X:=.lt i (.len (.fld g 2))
 (.need [(.ok 1 [(.tok 1)])] (.need [(.ok 2 [(.tok 1)])] (.br (.call 2 0 [(.tok 1)]) (.need [(.ok 3 [(.tok 2)]),(.le (.add (.len j) h) (.lit (.i 2513169434843)))] (.need [n] (.need [p] (.need [r] (.loop 9 3 [(.lit (.r [])),l] (.br o (.need [(.le l k),o] (.need [m,(.ok 5 [c])] (.need [(.rng .i64 s)] (.back 9 [(.app (.tok 3) (.row [(.mk [e,(.call 5 0 [c]),(.get f k)])])),s])))) (.need [(.le l i),t] (.need [(.ok 6 [e,c])] (.leaf [(.call 6 0 [e,c]),q]))))))))) (.need [n] (.need [p] (.need [r] (.loop 9 3 [(.lit (.r [])),l] (.br o (.need [(.le l k),o] (.need [m,(.ok 5 [j])] (.need [(.rng .i64 s)] (.back 9 [(.app (.tok 3) (.row [(.mk [d,(.call 5 0 [j]),(.get f k)])])),s])))) (.need [(.le l i),t] (.need [(.ok 6 [d,j])] (.leaf [(.call 6 0 [d,j]),q])))))))))))
theorem q4p(g0 g1 g2 g3 g4 g5 g6:GfZ):CdZ [(y9,g0),(y4,g1),(y2,g2),(y1,g3),(zd,g4),(zg,g5),(y3,g6)] q5l zu uN q1x:=fun cd h=>by injection h with h;subst h;kernel_rfl
theorem q5o{g0 g1 g2 g3 g4 g5 g6 g:GfZ}(h0:FOk y9 g0)(h1:FOk y4 g1)(h2:FOk y2 g2)(h3:FOk y1 g3)(h4:FOk zd g4)(h5:FOk zg g5)(h6:FOk y3 g6)(h:HgZ q1x zu [(y9,g0),(y4,g1),(y2,g2),(y1,g3),(zd,g4),(zg,g5),(y3,g6)] g):FOk zu g:=yw (q4p g0 g1 g2 g3 g4 g5 g6) (.cons h0 (.cons h1 (.cons h2 (.cons h3 (.cons h4 (.cons h5 (.cons h6 .nil))))))) rfl rfl q4i (by decide) h
def jl:Ct:=⟨106,[.val (.st 23)],[(.st 23,false)],[],none,[],[]⟩
theorem qgf:EnZ jl:=fun _ _=>by kernel_rfl
def qms:Ann:=⟨[0,1,2,3,4,10],[]⟩
def q6g:Tree:=(.need [(.ok 0 [(.tok 0)])] (.br (.call 0 1 [(.tok 0)]) (.leaf [(.call 0 0 [(.tok 0)])]) (.leaf [(.set (.set (.set (.lit (.a [(.i 0),(.i 0),(.s ⟨#[]⟩),(.r [])])) 0 (.lit (.i 3))) 2 (.lit (.s ⟨#[99,97,108,108]⟩))) 3 (.row [(.tok 0)]))])))
theorem qig(g0:GfZ):CdZ [(j1,g0)] qms jl Try.f106 q6g:=fun cd h=>by injection h with h;subst h;kernel_rfl
theorem qn3{g0 g:GfZ}(h0:FOk j1 g0)(h:HgZ q6g jl [(j1,g0)] g):FOk jl g:=yw (qig g0) (.cons h0 .nil) rfl rfl qgf (by decide) h
def yd:Ct:=⟨98,[.ref (.st 52) true,.val (.st 23),.val (.int .i64)],[(.row 36,false)],[],none,[],[]⟩
theorem q8f:EnZ yd:=fun _ _=>by kernel_rfl
def q9b:Ann:=⟨[0,1,2,4,6,7,8,9],[]⟩
def q1f:Tree:=
 let d:X:=.fld (.fld (.tok 0) 0) 0
 let h:X:=.lit (.i 2)
 let i:X:=.lit (.i 0)
 let j:X:=.lit (.i 1954687338211)
 let a:X:=.set (.tok 0) 0 (.set (.fld (.tok 0) 0) 0 (.add d (.lit (.i 1))))
 let f:X:=.get (.fld (.tok 1) 3) i
 let c:X:=.fld (.fld a 0) 0
 let g:X:=.set a 0 (.set (.fld a 0) 0 (.add c (.lit (.i 1))))
 let b:X:=.call 3 0 [g,(.call 2 0 [f]),c]
 let e:X:=.app (.row [(.call 1 0 [h,d]),(.call 1 0 [(.lit (.i 3)),c])]) b
 (.need [(.rng .i64 (.add d (.lit (.i 1))))] (.need [(.rng .i64 (.add c (.lit (.i 1))))] (.need [(.ok 1 [h,d]),(.ok 1 [(.lit (.i 3)),c])] (.need [(.lit (.b .true)),(.lt i (.len (.fld (.tok 1) 3))),(.ok 2 [f]),(.ok 3 [g,(.call 2 0 [f]),c]),(.le (.add h (.len b)) j)] (.need [(.ok 1 [(.lit (.i 4)),d]),(.ok 1 [(.lit (.i 5)),i]),(.le (.add (.len e) h) j)] (.leaf [(.row [(.app e (.row [(.call 1 0 [(.lit (.i 4)),d]),(.call 1 0 [(.lit (.i 5)),i])])),(.lit (.r []))]),(.call 3 1 [g,(.call 2 0 [f]),c])]))))))
theorem q94(g0 g1 g2 g3:GfZ):CdZ [(ze,g0),(yr,g1),(jl,g2),(ql,g3)] q9b yd Try.f98 q1f:=fun cd h=>by injection h with h;subst h;kernel_rfl
theorem q9h{g0 g1 g2 g3 g:GfZ}(h0:FOk ze g0)(h1:FOk yr g1)(h2:FOk jl g2)(h3:FOk ql g3)(h:HgZ q1f yd [(ze,g0),(yr,g1),(jl,g2),(ql,g3)] g):FOk yd g:=yw (q94 g0 g1 g2 g3) (.cons h0 (.cons h1 (.cons h2 (.cons h3 .nil)))) rfl rfl q8f (by decide) h
def zt:Ct:=⟨75,[.ref (.st 52) true,.cst (.st 99) (.a [.s ⟨#[92,43]⟩,.i 1,.i 98]),.val (.st 23),.val (.int .i64)],[(.st 41,false)],[],none,[],[]⟩
theorem q4e:EnZ zt:=fun _ _=>by kernel_rfl
def q5r:Ann:=⟨[0,1,2,3,5,6,8,9,10,11,12,14,18,50,51,52,53],[(9,⟨[(12,.row 38,false),(52,.int .i64,false)],[],[53,54,55,14,56,57,58,59,60,61,62,63,64],[369,257]⟩)]⟩
def q1t:Tree:=
 let h:X:=.lit (.i 1)
 let j:X:=.call 1 0 [(.tok 1)]
 let k:X:=.tok 4
 let l:X:=.lit (.i 0)
 let a:X:=.set (.tok 0) 0 (.set (.fld (.tok 0) 0) 1 (.add (.fld (.fld (.tok 0) 0) 1) h))
 let c:X:=.app j (.row [(.call 3 0 [(.tok 2)])])
 let d:X:=.set (.set (.lit (.a [(.s ⟨#[]⟩),(.i 0),(.i 0)])) 1 (.len j)) 2 (.fld (.fld (.tok 0) 0) 1)
 let m:X:=.le (.add (.len (.tok 3)) h) (.lit (.i 1759218604390))
 let n:X:=.rng .i64 (.add (.fld (.fld (.tok 0) 0) 1) h)
 let s:X:=.add k h
 let b:X:=.set a 2 (.app (.fld a 2) (.row [(.lit (.r []))]))
 let e:X:=.set (.set (.lit (.a [(.s ⟨#[]⟩),(.i 0),(.i 0)])) 1 (.len c)) 2 (.fld (.fld (.tok 0) 0) 1)
 let i:X:=.len (.fld a 2)
 let f:X:=.call 0 0 [b,(.tok 1),(.tok 2)]
 let g:X:=.call 0 1 [b,(.tok 1),(.tok 2)]
 let p:X:=.le (.add i h) (.lit (.i 5864062014634))
 let r:X:=.ok 0 [b,(.tok 1),(.tok 2)]
 let o:X:=.lt k (.len f)
 let q:X:=.set g 2 (.put (.fld g 2) i (.tok 3))
 let t:X:=.lt i (.len (.fld g 2))
 (.need [(.ok 1 [(.tok 1)])] (.need [(.ok 2 [(.tok 1)])] (.br (.call 2 0 [(.tok 1)]) (.need [(.ok 3 [(.tok 2)]),(.le (.add (.len j) h) (.lit (.i 2513169434843)))] (.need [n] (.need [p] (.need [r] (.loop 9 3 [(.lit (.r [])),l] (.br o (.need [(.le l k),o] (.need [m,(.ok 5 [c])] (.need [(.rng .i64 s)] (.back 9 [(.app (.tok 3) (.row [(.mk [e,(.call 5 0 [c]),(.get f k)])])),s])))) (.need [(.le l i),t] (.need [(.ok 6 [e,c])] (.leaf [(.call 6 0 [e,c]),q]))))))))) (.need [n] (.need [p] (.need [r] (.loop 9 3 [(.lit (.r [])),l] (.br o (.need [(.le l k),o] (.need [m,(.ok 5 [j])] (.need [(.rng .i64 s)] (.back 9 [(.app (.tok 3) (.row [(.mk [d,(.call 5 0 [j]),(.get f k)])])),s])))) (.need [(.le l i),t] (.need [(.ok 6 [d,j])] (.leaf [(.call 6 0 [d,j]),q])))))))))))
theorem q4y(g0 g1 g2 g3 g4 g5 g6:GfZ):CdZ [(yd,g0),(y4,g1),(y2,g2),(y1,g3),(zd,g4),(zg,g5),(y3,g6)] q5r zt uN q1t:=fun cd h=>by injection h with h;subst h;kernel_rfl
theorem q5q{g0 g1 g2 g3 g4 g5 g6 g:GfZ}(h0:FOk yd g0)(h1:FOk y4 g1)(h2:FOk y2 g2)(h3:FOk y1 g3)(h4:FOk zd g4)(h5:FOk zg g5)(h6:FOk y3 g6)(h:HgZ q1t zt [(yd,g0),(y4,g1),(y2,g2),(y1,g3),(zd,g4),(zg,g5),(y3,g6)] g):FOk zt g:=yw (q4y g0 g1 g2 g3 g4 g5 g6) (.cons h0 (.cons h1 (.cons h2 (.cons h3 (.cons h4 (.cons h5 (.cons h6 .nil))))))) rfl rfl q4e (by decide) h
def yb:Ct:=⟨99,[.ref (.st 52) true,.val (.st 23),.val (.int .i64)],[(.row 36,false)],[],none,[],[]⟩
theorem q85:EnZ yb:=fun _ _=>by kernel_rfl
def q8z:Ann:=⟨[0,1,2,4,6],[]⟩
def q14:Tree:=(.need [(.lit (.b .true)),(.lt (.lit (.i 0)) (.len (.fld (.tok 1) 3))),(.ok 0 [(.get (.fld (.tok 1) 3) (.lit (.i 0)))]),(.ok 1 [(.tok 0),(.call 0 0 [(.get (.fld (.tok 1) 3) (.lit (.i 0)))])])] (.leaf [(.row [(.call 1 0 [(.tok 0),(.call 0 0 [(.get (.fld (.tok 1) 3) (.lit (.i 0)))])])]),(.call 1 1 [(.tok 0),(.call 0 0 [(.get (.fld (.tok 1) 3) (.lit (.i 0)))])])]))
theorem q8e(g0 g1:GfZ):CdZ [(jl,g0),(zn,g1)] q8z yb Try.f99 q14:=fun cd h=>by injection h with h;subst h;kernel_rfl
theorem q9a{g0 g1 g:GfZ}(h0:FOk jl g0)(h1:FOk zn g1)(h:HgZ q14 yb [(jl,g0),(zn,g1)] g):FOk yb g:=yw (q8e g0 g1) (.cons h0 (.cons h1 .nil)) rfl rfl q85 (by decide) h
def zs:Ct:=⟨75,[.ref (.st 52) true,.cst (.st 99) (.a [.s ⟨#[111,110,99,101]⟩,.i 1,.i 99]),.val (.st 23),.val (.int .i64)],[(.st 41,false)],[],none,[],[]⟩
theorem q4g:EnZ zs:=fun _ _=>by kernel_rfl
def q5u:Ann:=⟨[0,1,2,3,5,6,8,9,10,11,12,14,18,50,51,52,53],[(9,⟨[(12,.row 38,false),(52,.int .i64,false)],[],[53,54,55,14,56,57,58,59,60,61,62,63,64],[369,257]⟩)]⟩
def q1z:Tree:=
 let h:X:=.lit (.i 1)
 let j:X:=.call 1 0 [(.tok 1)]
 let k:X:=.tok 4
 let l:X:=.lit (.i 0)
 let a:X:=.set (.tok 0) 0 (.set (.fld (.tok 0) 0) 1 (.add (.fld (.fld (.tok 0) 0) 1) h))
 let c:X:=.app j (.row [(.call 3 0 [(.tok 2)])])
 let d:X:=.set (.set (.lit (.a [(.s ⟨#[]⟩),(.i 0),(.i 0)])) 1 (.len j)) 2 (.fld (.fld (.tok 0) 0) 1)
 let m:X:=.le (.add (.len (.tok 3)) h) (.lit (.i 1759218604390))
 let n:X:=.rng .i64 (.add (.fld (.fld (.tok 0) 0) 1) h)
 let s:X:=.add k h
 let b:X:=.set a 2 (.app (.fld a 2) (.row [(.lit (.r []))]))
 let e:X:=.set (.set (.lit (.a [(.s ⟨#[]⟩),(.i 0),(.i 0)])) 1 (.len c)) 2 (.fld (.fld (.tok 0) 0) 1)
 let i:X:=.len (.fld a 2)
 let f:X:=.call 0 0 [b,(.tok 1),(.tok 2)]
 let g:X:=.call 0 1 [b,(.tok 1),(.tok 2)]
 let p:X:=.le (.add i h) (.lit (.i 5864062014634))
 let r:X:=.ok 0 [b,(.tok 1),(.tok 2)]
 let o:X:=.lt k (.len f)
 let q:X:=.set g 2 (.put (.fld g 2) i (.tok 3))
 let t:X:=.lt i (.len (.fld g 2))
 (.need [(.ok 1 [(.tok 1)])] (.need [(.ok 2 [(.tok 1)])] (.br (.call 2 0 [(.tok 1)]) (.need [(.ok 3 [(.tok 2)]),(.le (.add (.len j) h) (.lit (.i 2513169434843)))] (.need [n] (.need [p] (.need [r] (.loop 9 3 [(.lit (.r [])),l] (.br o (.need [(.le l k),o] (.need [m,(.ok 5 [c])] (.need [(.rng .i64 s)] (.back 9 [(.app (.tok 3) (.row [(.mk [e,(.call 5 0 [c]),(.get f k)])])),s])))) (.need [(.le l i),t] (.need [(.ok 6 [e,c])] (.leaf [(.call 6 0 [e,c]),q]))))))))) (.need [n] (.need [p] (.need [r] (.loop 9 3 [(.lit (.r [])),l] (.br o (.need [(.le l k),o] (.need [m,(.ok 5 [j])] (.need [(.rng .i64 s)] (.back 9 [(.app (.tok 3) (.row [(.mk [d,(.call 5 0 [j]),(.get f k)])])),s])))) (.need [(.le l i),t] (.need [(.ok 6 [d,j])] (.leaf [(.call 6 0 [d,j]),q])))))))))))
theorem q4r(g0 g1 g2 g3 g4 g5 g6:GfZ):CdZ [(yb,g0),(y4,g1),(y2,g2),(y1,g3),(zd,g4),(zg,g5),(y3,g6)] q5u zs uN q1z:=fun cd h=>by injection h with h;subst h;kernel_rfl
theorem q5p{g0 g1 g2 g3 g4 g5 g6 g:GfZ}(h0:FOk yb g0)(h1:FOk y4 g1)(h2:FOk y2 g2)(h3:FOk y1 g3)(h4:FOk zd g4)(h5:FOk zg g5)(h6:FOk y3 g6)(h:HgZ q1z zs [(yb,g0),(y4,g1),(y2,g2),(y1,g3),(zd,g4),(zg,g5),(y3,g6)] g):FOk zs g:=yw (q4r g0 g1 g2 g3 g4 g5 g6) (.cons h0 (.cons h1 (.cons h2 (.cons h3 (.cons h4 (.cons h5 (.cons h6 .nil))))))) rfl rfl q4g (by decide) h
def q0o:Ct:=⟨77,[.val (.st 23)],[(.bool,false)],[],none,[],[]⟩
theorem qgz:EnZ q0o:=fun _ _=>by kernel_rfl
def ql9:Ann:=⟨[0,1,2,3,8,9,11,19],[]⟩
def q6i:Tree:=
 let a:X:=.fld (.tok 0) 2
 let e:X:=.lit (.b .true)
 let i:X:=.len (.fld (.tok 0) 3)
 let b:X:=.not (.eq i (.lit (.i 3)))
 let c:X:=.not (.eq (.sget a (.lit (.i 0))) (.lit (.i 36)))
 let d:X:=.lt (.lit (.i 0)) (.slen a)
 let f:X:=.eq a (.lit (.s ⟨#[102,105,110,100,97,108,108]⟩))
 let g:X:=.eq a (.lit (.s ⟨#[98,97,103,111,102]⟩))
 let h:X:=.eq a (.lit (.s ⟨#[99,97,116,99,104]⟩))
 (.br (.eq a (.lit (.s ⟨#[]⟩))) (.leaf [e]) (.br (.eq a (.lit (.s ⟨#[99,97,108,108]⟩))) (.leaf [(.or (.lt i (.lit (.i 1))) (.lt (.lit (.i 8)) i))]) (.br h (.br h (.leaf [b]) (.need [e,d] (.leaf [c]))) (.br f (.br f (.leaf [b]) (.need [e,d] (.leaf [c]))) (.br g (.br g (.leaf [b]) (.need [e,d] (.leaf [c]))) (.br (.eq a (.lit (.s ⟨#[115,101,116,111,102]⟩))) (.leaf [b]) (.need [e,d] (.leaf [c]))))))))
theorem qir:CdZ [] ql9 q0o Try.f77 q6i:=fun cd h=>by injection h with h;subst h;kernel_rfl
theorem qne{g:GfZ}(h:HgZ q6i q0o [] g):FOk q0o g:=yw (qir) .nil rfl rfl qgz (by decide) h
def q7c:Ann:=⟨[0,1,2,4,6,7,8,9,10,16],[]⟩
def q0n:Tree:=
 let f:X:=.lit (.i 1)
 let g:X:=.fld (.tok 1) 3
 let h:X:=.tok 2
 let i:X:=.fld (.fld (.tok 0) 0) 0
 let k:X:=.lit (.b .true)
 let n:X:=.lit (.i 1954687338211)
 let r:X:=.lit (.i 0)
 let s:X:=.lit (.i 2)
 let u:X:=.lit (.s ⟨#[45,62]⟩)
 let a:X:=.set (.tok 0) 0 (.set (.fld (.tok 0) 0) 0 (.add i f))
 let b:X:=.get g r
 let p:X:=.get g f
 let l:X:=.fld (.fld a 0) 0
 let m:X:=.call 3 1 [(.tok 0),b,h]
 let t:X:=.fld b 3
 let c:X:=.set a 0 (.set (.fld a 0) 0 (.add l f))
 let j:X:=.get t f
 let d:X:=.app (.row [(.call 2 0 [s,i]),(.call 2 0 [(.lit (.i 3)),l])]) (.call 3 0 [c,(.get t r),l])
 let e:X:=.call 3 1 [c,(.get t r),l]
 let o:X:=.app d (.row [(.call 2 0 [(.lit (.i 4)),i])])
 let q:X:=.call 3 1 [e,j,h]
 (.need [k,(.lt r (.len g))] (.need [(.ok 0 [b,u,s])] (.br (.call 0 0 [b,u,s]) (.need [(.rng .i64 (.add i f))] (.need [(.rng .i64 (.add l f))] (.need [(.ok 2 [s,i]),(.ok 2 [(.lit (.i 3)),l]),k] (.need [k,(.lt r (.len t)),(.ok 3 [c,(.get t r),l]),(.le (.add s (.len (.call 3 0 [c,(.get t r),l]))) n)] (.need [(.ok 2 [(.lit (.i 4)),i]),(.le (.add (.len d) f) n)] (.need [k,(.lt f (.len t)),(.ok 3 [e,j,h]),(.le (.add (.len o) (.len (.call 3 0 [e,j,h]))) n)] (.need [k,(.lt f (.len g)),(.ok 3 [q,p,h])] (.leaf [(.row [(.app o (.call 3 0 [e,j,h])),(.call 3 0 [q,p,h])]),(.call 3 1 [q,p,h])])))))))) (.need [(.ok 3 [(.tok 0),b,h])] (.need [k,(.lt f (.len g)),(.ok 3 [m,p,h])] (.leaf [(.row [(.call 3 0 [(.tok 0),b,h]),(.call 3 0 [m,p,h])]),(.call 3 1 [m,p,h])]))))))
theorem q6s(g0 g1 g2 g3:GfZ):CdZ [(q0w,g0),(ze,g1),(yr,g2),(ql,g3)] q7c y5 Try.f96 q0n:=fun cd h=>by injection h with h;subst h;kernel_rfl
theorem q7p{g0 g1 g2 g3 g:GfZ}(h0:FOk q0w g0)(h1:FOk ze g1)(h2:FOk yr g2)(h3:FOk ql g3)(h:HgZ q0n y5 [(q0w,g0),(ze,g1),(yr,g2),(ql,g3)] g):FOk y5 g:=yw (q6s g0 g1 g2 g3) (.cons h0 (.cons h1 (.cons h2 (.cons h3 .nil)))) rfl rfl q6f (by decide) h
def q8y:Ann:=⟨[0,1,2,4,6,7,9,10,11,12,13,14,17,22,28,47,48,49,56,82],[]⟩
def q13:Tree:=
 let a:X:=.row [(.lit (.a [(.s ⟨#[59]⟩),(.i 2),(.i 96)])),(.lit (.a [(.s ⟨#[45,62]⟩),(.i 2),(.i 97)])),(.lit (.a [(.s ⟨#[92,43]⟩),(.i 1),(.i 98)])),(.lit (.a [(.s ⟨#[111,110,99,101]⟩),(.i 1),(.i 99)]))]
 let b:X:=.tok 1
 let c:X:=.lit (.a [(.s ⟨#[]⟩),(.i 0),(.i 0)])
 let d:X:=.tok 0
 let e:X:=.lit (.i 0)
 let f:X:=.tok 2
 let h:X:=.lit (.b .true)
 let i:X:=.lit (.i 1)
 let k:X:=.lit (.i 2)
 let q:X:=.lit (.s ⟨#[116,114,117,101]⟩)
 let r:X:=.lit (.s ⟨#[102,97,105,108]⟩)
 let y:X:=.lit (.i 4)
 let z:X:=.lit (.s ⟨#[33]⟩)
 let g:X:=.fld b 3
 let n:X:=.get a (.lit (.i 3))
 let o:X:=.set (.set c 1 k) 2 (.lit (.i 1099511627775))
 let p:X:=.set (.set c 1 k) 2 (.lit (.i 1099511627776))
 let s:X:=.fld (.fld d 0) 0
 let v:X:=.get a e
 let w:X:=.get a i
 let x:X:=.get a k
 let j:X:=.row [(.call 9 0 [s]),b]
 let l:X:=.call 6 1 [d,(.get g e),f]
 let m:X:=.set (.set c 0 (.fld b 2)) 1 (.len g)
 let t:X:=.call 6 0 [d,(.get g e),f]
 let u:X:=.call 6 0 [l,(.get g i),f]
 (.need [(.ok 4 [b,q,e])] (.br (.call 4 0 [b,q,e]) (.leaf [(.lit (.r [])),d]) (.need [(.ok 4 [b,r,e])] (.br (.call 4 0 [b,r,e]) (.need [(.ok 5 [(.lit (.i 5)),e])] (.leaf [(.row [(.call 5 0 [(.lit (.i 5)),e])]),d])) (.need [(.ok 4 [b,z,e])] (.br (.call 4 0 [b,z,e]) (.need [(.ok 5 [y,f])] (.leaf [(.row [(.call 5 0 [y,f])]),d])) (.need [(.ok 4 [b,(.lit (.s ⟨#[44]⟩)),k])] (.br (.call 4 0 [b,(.lit (.s ⟨#[44]⟩)),k]) (.need [h,(.lt e (.len g)),(.ok 6 [d,(.get g e),f])] (.need [h,(.lt i (.len g)),(.ok 6 [l,(.get g i),f]),(.le (.add (.len t) (.len u)) (.lit (.i 1954687338211)))] (.leaf [(.app t u),(.call 6 1 [l,(.get g i),f])]))) (.need [h,h] (.need [(.ok 4 [b,(.fld v 0),(.fld v 1)])] (.br (.call 4 0 [b,(.fld v 0),(.fld v 1)]) (.need [(.ok 0 [d,b,f])] (.leaf [(.row [(.call 0 0 [d,b,f])]),(.call 0 1 [d,b,f])])) (.need [(.rng .i64 i)] (.need [h,h] (.need [(.ok 4 [b,(.fld w 0),(.fld w 1)])] (.br (.call 4 0 [b,(.fld w 0),(.fld w 1)]) (.need [(.ok 1 [d,b,f])] (.leaf [(.row [(.call 1 0 [d,b,f])]),(.call 1 1 [d,b,f])])) (.need [(.rng .i64 k)] (.need [h,h] (.need [(.ok 4 [b,(.fld x 0),(.fld x 1)])] (.br (.call 4 0 [b,(.fld x 0),(.fld x 1)]) (.need [(.ok 2 [d,b,f])] (.leaf [(.row [(.call 2 0 [d,b,f])]),(.call 2 1 [d,b,f])])) (.need [(.rng .i64 (.lit (.i 3)))] (.need [h,h] (.need [(.ok 4 [b,(.fld n 0),(.fld n 1)])] (.br (.call 4 0 [b,(.fld n 0),(.fld n 1)]) (.need [(.ok 3 [d,b,f])] (.leaf [(.row [(.call 3 0 [d,b,f])]),(.call 3 1 [d,b,f])])) (.need [(.rng .i64 y)] (.need [(.ok 7 [m,g])] (.need [(.imp (.not (.not (.fld d 1))) (.ok 8 [b]))] (.br (.or (.not (.fld d 1)) (.not (.call 8 0 [b]))) (.leaf [(.row [(.call 7 0 [m,g])]),d]) (.need [(.rng .i64 (.add s i)),(.ok 9 [s])] (.need [(.ok 7 [o,j]),(.ok 7 [p,j])] (.leaf [(.row [(.call 7 0 [p,j]),(.call 7 0 [m,g]),(.call 7 0 [o,j])]),(.set d 0 (.set (.fld d 0) 0 (.add s i)))]))))))))))))))))))))))))))))))
theorem q89(g0 g1 g2 g3 g4 g5 g6 g7 g8 g9:GfZ):CdZ [(zo,g0),(zu,g1),(zt,g2),(zs,g3),(q0w,g4),(yr,g5),(ql,g6),(y3,g7),(q0o,g8),(y1,g9)] q8y ql Try.f52 q13:=fun cd h=>by injection h with h;subst h;kernel_rfl
theorem q93{g0 g1 g2 g3 g4 g5 g6 g7 g8 g9 g:GfZ}(h0:FOk zo g0)(h1:FOk zu g1)(h2:FOk zt g2)(h3:FOk zs g3)(h4:FOk q0w g4)(h5:FOk yr g5)(h6:FOk ql g6)(h7:FOk y3 g7)(h8:FOk q0o g8)(h9:FOk y1 g9)(h:HgZ q13 ql [(zo,g0),(zu,g1),(zt,g2),(zs,g3),(q0w,g4),(yr,g5),(ql,g6),(y3,g7),(q0o,g8),(y1,g9)] g):FOk ql g:=yw (q89 g0 g1 g2 g3 g4 g5 g6 g7 g8 g9) (.cons h0 (.cons h1 (.cons h2 (.cons h3 (.cons h4 (.cons h5 (.cons h6 (.cons h7 (.cons h8 (.cons h9 .nil)))))))))) rfl rfl q2n (by decide) h
def yx:Ct:=⟨79,[.nils,.val (.int .i64)],[(.row 38,true)],[],none,[],[]⟩
theorem q9y:EnZ yx:=fun _ _=>by kernel_rfl
def qbs:Ann:=⟨[0,1,4,6,16],[]⟩
def q2a:Tree:=(.br (.lt (.tok 0) (.lit (.i 0))) (.bad 2000) (.need [(.rng .i64 (.lit (.i 0))),(.rng .i64 (.sub (.tok 0) (.lit (.i 0))))] (.br (.lt (.lit (.i 0)) (.sub (.tok 0) (.lit (.i 0)))) (.need [(.le (.lit (.i 0)) (.sub (.tok 0) (.lit (.i 0)))),(.le (.sub (.tok 0) (.lit (.i 0))) (.lit (.i 16777216))),(.le (.add (.lit (.i 0)) (.sub (.tok 0) (.lit (.i 0)))) (.lit (.i 1759218604390))),(.lit (.b .true)),(.le (.lit (.i 0)) (.len (.app (.lit (.r [])) (.rep (.sub (.tok 0) (.lit (.i 0))) (.lit (.a [(.a [(.s ⟨#[]⟩),(.i 0),(.i 0)]),(.r []),(.r [])]))))))] (.leaf [(.cut (.app (.lit (.r [])) (.rep (.sub (.tok 0) (.lit (.i 0))) (.lit (.a [(.a [(.s ⟨#[]⟩),(.i 0),(.i 0)]),(.r []),(.r [])])))) (.lit (.i 0)) (.lit (.i 0)))])) (.leaf [(.lit (.r []))]))))
theorem qar:CdZ [] qbs yx Try.f79 q2a:=fun cd h=>by injection h with h;subst h;kernel_rfl
theorem qbe{g:GfZ}(h:HgZ q2a yx [] g):FOk yx g:=yw (qar) .nil rfl rfl q9y (by decide) h
def yl:Ct:=⟨53,[.val (.row 27)],[(.row 38,true)],[],none,[],[]⟩
theorem q90:EnZ yl:=fun _ _=>by kernel_rfl
def qa7:Ann:=⟨[0,2,3,5,6,8,9,10,11,12,20,25,26,27,28],[(3,⟨[(3,.int .i64,false),(11,.int .i64,false)],[],[12,13,14,5,15,16,17,18,19,20,21,22],[]⟩),
 (11,⟨[(6,.row 38,false),(27,.int .i64,false)],[],[28,29,30,8,31,32,33,34],[]⟩)]⟩
def q1s:Tree:=(.loop 3 1 [(.lit (.i 0)),(.lit (.i 0))] (.br (.lt (.tok 2) (.len (.tok 0))) (.need [(.le (.lit (.i 0)) (.tok 2)),(.lt (.tok 2) (.len (.tok 0)))] (.need [(.rng .i64 (.add (.tok 1) (.len (.get (.tok 0) (.tok 2)))))] (.br (.lt (.add (.tok 1) (.len (.get (.tok 0) (.tok 2)))) (.lit (.i 0))) (.bad 7000) (.need [(.rng .i64 (.add (.tok 2) (.lit (.i 1))))] (.back 3 [(.add (.tok 1) (.len (.get (.tok 0) (.tok 2)))),(.add (.tok 2) (.lit (.i 1)))]))))) (.need [(.ok 0 [(.tok 1)])] (.loop 11 3 [(.call 0 0 [(.tok 1)]),(.lit (.i 0))] (.br (.lt (.tok 4) (.len (.tok 0))) (.need [(.le (.lit (.i 0)) (.tok 4)),(.lt (.tok 4) (.len (.tok 0)))] (.need [(.le (.add (.len (.tok 3)) (.len (.get (.tok 0) (.tok 4)))) (.lit (.i 1759218604390)))] (.need [(.rng .i64 (.add (.tok 4) (.lit (.i 1))))] (.back 11 [(.app (.tok 3) (.get (.tok 0) (.tok 4))),(.add (.tok 4) (.lit (.i 1)))])))) (.leaf [(.tok 3)]))))))
theorem q9n(g0:GfZ):CdZ [(yx,g0)] qa7 yl Try.f53 q1s:=fun cd h=>by injection h with h;subst h;kernel_rfl
theorem qa1{g0 g:GfZ}(h0:FOk yx g0)(h:HgZ q1s yl [(yx,g0)] g):FOk yl g:=yw (q9n g0) (.cons h0 .nil) rfl rfl q90 (by decide) h
def jh:Ct:=⟨32,[.val (.st 34)],[(.bool,false)],[],none,[],[]⟩
theorem qb0:EnZ jh:=fun _ _=>by kernel_rfl
def qdg:Ann:=⟨[0,1,2,5],[]⟩
def q34:Tree:=(.br (.eq (.fld (.tok 0) 2) (.lit (.i 0))) (.leaf [(.and (.and (.le (.slen (.fld (.tok 0) 0)) (.lit (.i 100))) (.le (.lit (.i 0)) (.fld (.tok 0) 1))) (.le (.fld (.tok 0) 1) (.lit (.i 8))))]) (.leaf [(.and (.and (.and (.and (.eq (.fld (.tok 0) 0) (.lit (.s ⟨#[]⟩))) (.le (.lit (.i 1)) (.fld (.tok 0) 2))) (.le (.fld (.tok 0) 2) (.lit (.i 1099511627776)))) (.le (.lit (.i 0)) (.fld (.tok 0) 1))) (.le (.fld (.tok 0) 1) (.lit (.i 4096))))]))
theorem qch:CdZ [] qdg jh Try.f32 q34:=fun cd h=>by injection h with h;subst h;kernel_rfl
theorem qd4{g:GfZ}(h:HgZ q34 jh [] g):FOk jh g:=yw (qch) .nil rfl rfl qb0 (by decide) h
def q1c:Ct:=⟨33,[.ref (.int .i64) true,.val (.row 24)],[(.bool,false)],[],none,[],[]⟩
theorem qjk:EnZ q1c:=fun _ _=>by kernel_rfl
def qox:Ann:=⟨[0,1,4,6,7,8,9,10,15,26],[(2,⟨[(4,.bool,false),(9,.int .i64,false)],[0],[10,11,12,6,13,14,15,16,17,18,19,20,21,22,23,24,25,26,27],[]⟩)]⟩
def q7x:Tree:=(.loop 2 2 [(.lit (.b .false)),(.lit (.i 0)),(.tok 0)] (.br (.lt (.tok 3) (.len (.tok 1))) (.need [(.le (.lit (.i 0)) (.tok 3)),(.lt (.tok 3) (.len (.tok 1)))] (.need [(.ok 0 [(.get (.tok 1) (.tok 3))])] (.br (.not (.call 0 0 [(.get (.tok 1) (.tok 3))])) (.leaf [(.lit (.b .false)),(.tok 4)]) (.need [(.ok 1 [(.get (.tok 1) (.tok 3))]),(.rng .i64 (.sub (.tok 4) (.call 1 0 [(.get (.tok 1) (.tok 3))])))] (.br (.lt (.sub (.tok 4) (.call 1 0 [(.get (.tok 1) (.tok 3))])) (.lit (.i 0))) (.leaf [(.lit (.b .false)),(.sub (.tok 4) (.call 1 0 [(.get (.tok 1) (.tok 3))]))]) (.need [(.rng .i64 (.add (.tok 3) (.lit (.i 1))))] (.back 2 [(.tok 2),(.add (.tok 3) (.lit (.i 1))),(.sub (.tok 4) (.call 1 0 [(.get (.tok 1) (.tok 3))]))]))))))) (.leaf [(.lit (.b .true)),(.tok 4)])))
theorem qmg(g0 g1:GfZ):CdZ [(zj,g0),(yh,g1)] qox q1c Try.f33 q7x:=fun cd h=>by injection h with h;subst h;kernel_rfl
theorem qoz{g0 g1 g:GfZ}(h0:FOk zj g0)(h1:FOk yh g1)(h:HgZ q7x q1c [(zj,g0),(yh,g1)] g):FOk q1c g:=yw (qmg g0 g1) (.cons h0 (.cons h1 .nil)) rfl rfl qjk (by decide) h
def yt:Ct:=⟨13,[.val (.st 37)],[(.bool,false)],[],none,[],[]⟩
theorem qhj:EnZ yt:=fun _ _=>by kernel_rfl
def qnu:Ann:=⟨[0,1,2,3,4,6,7,8,27,29,30,31,32,46,47,71,88,102,111],[(6,⟨[(4,.bool,false),(2,.bool,false),(31,.int .i64,false)],[3],[32,33,34,6,35,36,37,38,39,40,41,42,43,44,7,8,45,46,48,47,49,50,51,52,53,54,55,56,57,58,59,60,61,62,63,64,65,66,67,68,69,70,72,71,73,74,75,76,77,78,79,80,81,82,83,84,85,86,87,89,88,90,91,92,93,94,95,96,97,98,99,100,101,103,102,104,105,106,107,108,109,110,111,112],[]⟩)]⟩
def q63:Tree:=
 let a:X:=.get (.fld (.tok 0) 2) (.tok 3)
 let c:X:=.add (.tok 3) (.lit (.i 1))
 let g:X:=.lit (.b .false)
 let i:X:=.tok 4
 let k:X:=.lit (.i 131072)
 let m:X:=.lt (.tok 3) (.len (.fld (.tok 0) 2))
 let n:X:=.tok 2
 let o:X:=.tok 1
 let p:X:=.fld (.tok 0) 1
 let b:X:=.and (.eq (.fld a 1) (.lit (.a [(.s ⟨#[]⟩),(.i 0),(.i 0)]))) (.eq (.len (.fld a 2)) (.lit (.i 0)))
 let d:X:=.and (.and (.call 0 0 [(.fld a 1)]) (.eq (.len (.fld a 2)) (.fld (.fld a 1) 1))) (.eq (.fld a 3) (.lit (.i 0)))
 let e:X:=.or (.not (.call 0 0 [(.fld (.tok 0) 0)])) (.not (.eq (.len p) (.fld (.fld (.tok 0) 0) 1)))
 let h:X:=.rng .i64 c
 let j:X:=.fld a 0
 let f:X:=.and (.and b (.le (.lit (.i 0)) (.fld a 3))) (.le (.fld a 3) (.lit (.i 1099511627776)))
 let l:X:=.not (.and b (.eq (.fld a 3) (.lit (.i 0))))
 (.need [(.ok 0 [(.fld (.tok 0) 0)]),(.imp (.not e) (.ok 1 [k,p]))] (.br (.or e (.not (.call 1 0 [k,p]))) (.leaf [g]) (.loop 6 1 [g,g,(.lit (.i 0)),(.ite (.not e) (.call 1 1 [k,p]) k)] (.br m (.need [(.le (.lit (.i 0)) (.tok 3)),m] (.br (.eq j (.lit (.i 1))) (.need [(.ok 0 [(.fld a 1)]),(.imp d (.ok 1 [i,(.fld a 2)]))] (.br (.not (.and d (.call 1 0 [i,(.fld a 2)]))) (.leaf [g]) (.need [h] (.back 6 [(.lit (.b .true)),n,c,(.ite d (.call 1 1 [i,(.fld a 2)]) i)])))) (.br (.eq j (.lit (.i 2))) (.br (.not (.and f (.not o))) (.leaf [g]) (.need [h] (.back 6 [o,n,c,i]))) (.br (.eq j (.lit (.i 3))) (.br (.eq j (.lit (.i 3))) (.br (.not f) (.leaf [g]) (.need [h] (.back 6 [o,n,c,i]))) (.br (.eq j (.lit (.i 5))) (.br l (.leaf [g]) (.need [h] (.back 6 [o,n,c,i]))) (.leaf [g]))) (.br (.eq j (.lit (.i 4))) (.br (.not f) (.leaf [g]) (.need [h] (.back 6 [o,n,c,i]))) (.br (.eq j (.lit (.i 5))) (.br l (.leaf [g]) (.need [h] (.back 6 [o,n,c,i]))) (.leaf [g]))))))) (.leaf [(.lit (.b .true))])))))
theorem qjs(g0 g1:GfZ):CdZ [(jh,g0),(q1c,g1)] qnu yt Try.f13 q63:=fun cd h=>by injection h with h;subst h;kernel_rfl
theorem qky{g0 g1 g:GfZ}(h0:FOk jh g0)(h1:FOk q1c g1)(h:HgZ q63 yt [(jh,g0),(q1c,g1)] g):FOk yt g:=yw (qjs g0 g1) (.cons h0 (.cons h1 .nil)) rfl rfl qhj (by decide) h
def zl:Ct:=⟨20,[.ref (.st 52) {f:=none,lost:=true},.own (.st 37),.val (.st 23)],[(.row 38,false),(.int .i64,false)],[],none,[],[]⟩
theorem q6p:EnZ zl:=fun _ _=>by kernel_rfl
def q8d:Ann:=⟨[0,1,2,4,5,6,7,8,9,11,13,45,46,47,48,53],[(8,⟨[(6,.row 38,false),(7,.int .i64,false),(47,.int .i64,false)],[],[48,49,50,11,51,52,53,54],[]⟩)]⟩
def q0y:Tree:=
 let d:X:=.fld (.fld (.tok 0) 0) 0
 let e:X:=.lit (.i 0)
 let g:X:=.tok 5
 let h:X:=.lit (.i 1)
 let j:X:=.lit (.r [])
 let k:X:=.lit (.i 2)
 let l:X:=.tok 2
 let n:X:=.lit (.i 1954687338211)
 let o:X:=.lit (.i 1759218604390)
 let c:X:=.set (.tok 0) 0 (.set (.fld (.tok 0) 0) 0 (.add d h))
 let f:X:=.call 3 1 [(.tok 0),l,e]
 let m:X:=.add g h
 let b:X:=.app (.row [(.set (.tok 1) 2 (.call 3 0 [(.tok 0),l,e]))]) (.call 4 0 [(.fld f 2)])
 let i:X:=.call 3 1 [c,l,d]
 let a:X:=.app (.row [(.set (.set (.tok 1) 2 (.app (.fld (.tok 1) 2) (.row [(.call 2 0 [k,d])]))) 2 (.app (.fld (.set (.tok 1) 2 (.app (.fld (.tok 1) 2) (.row [(.call 2 0 [k,d])]))) 2) (.call 3 0 [c,l,d])))]) (.call 4 0 [(.fld i 2)])
 (.need [(.ok 0 [l])] (.br (.call 0 0 [l]) (.need [(.rng .i64 (.add d h))] (.need [(.le (.add (.len (.fld (.tok 1) 2)) h) n),(.ok 2 [k,d])] (.need [(.le (.add (.len (.fld (.set (.tok 1) 2 (.app (.fld (.tok 1) 2) (.row [(.call 2 0 [k,d])]))) 2)) (.len (.call 3 0 [c,l,d]))) n),(.ok 3 [c,l,d])] (.need [(.le (.add h (.len (.call 4 0 [(.fld i 2)]))) o),(.ok 4 [(.fld i 2)])] (.loop 8 3 [j,e,e] (.br (.lt g (.len a)) (.need [(.le e g),(.lt g (.len a))] (.need [(.ok 5 [(.get a g)])] (.br (.not (.call 5 0 [(.get a g)])) (.leaf [j,k,i]) (.need [(.rng .i64 m)] (.back 8 [(.tok 3),(.tok 4),m]))))) (.leaf [a,e,i]))))))) (.need [(.ok 3 [(.tok 0),l,e])] (.need [(.le (.add h (.len (.call 4 0 [(.fld f 2)]))) o),(.ok 4 [(.fld f 2)])] (.loop 8 3 [j,e,e] (.br (.lt g (.len b)) (.need [(.le e g),(.lt g (.len b))] (.need [(.ok 5 [(.get b g)])] (.br (.not (.call 5 0 [(.get b g)])) (.leaf [j,k,f]) (.need [(.rng .i64 m)] (.back 8 [(.tok 3),(.tok 4),m]))))) (.leaf [b,e,f])))))))
theorem q81(g0 g1 g2 g3 g4 g5:GfZ):CdZ [(y2,g0),(ze,g1),(yr,g2),(ql,g3),(yl,g4),(yt,g5)] q8d zl Try.f20 q0y:=fun cd h=>by injection h with h;subst h;kernel_rfl
theorem q8h{g0 g1 g2 g3 g4 g5 g:GfZ}(h0:FOk y2 g0)(h1:FOk ze g1)(h2:FOk yr g2)(h3:FOk ql g3)(h4:FOk yl g4)(h5:FOk yt g5)(h:HgZ q0y zl [(y2,g0),(ze,g1),(yr,g2),(ql,g3),(yl,g4),(yt,g5)] g):FOk zl g:=yw (q81 g0 g1 g2 g3 g4 g5) (.cons h0 (.cons h1 (.cons h2 (.cons h3 (.cons h4 (.cons h5 .nil)))))) rfl rfl q6p (by decide) h
def q20:Ct:=⟨6,[.val (.st 25),.val (.int .i64),.val (.bool)],[(.row 38,false),(.int .i64,false)],[],none,[],[]⟩
theorem qej:EnZ q20:=fun _ _=>by kernel_rfl
def qja:Ann:=⟨[0,1,2,3,6,7,8,9,11,22,45,46,47,48],[(6,⟨[(47,.int .i64,false)],[9],[48,49,50,11,51,52,53,54,55,56,57,58],[]⟩)]⟩
def q52:Tree:=
 let c:X:=.tok 0
 let d:X:=.lit (.i 1)
 let e:X:=.tok 3
 let f:X:=.tok 4
 let b:X:=.fld (.fld c 0) 3
 let g:X:=.fld c 1
 let a:X:=.set (.set (.lit (.a [(.a [(.i 0),(.i 0)]),(.b .false),(.r [])])) 0 (.mk [(.call 1 0 [(.row [(.fld c 0),g])]),(.tok 1)])) 1 (.tok 2)
 (.need [(.ok 0 [c])] (.br (.or (.or (.not (.call 0 0 [c])) (.lt (.tok 1) d)) (.lt (.lit (.i 1099511623776)) (.tok 1))) (.leaf [(.lit (.r [])),d]) (.need [(.ok 1 [(.row [(.fld c 0),g])])] (.loop 6 3 [(.lit (.i 0)),(.set (.lit (.a [(.a [(.s ⟨#[]⟩),(.i 0),(.i 0)]),(.r []),(.r [])])) 0 (.set (.set (.lit (.a [(.s ⟨#[]⟩),(.i 0),(.i 0)])) 0 (.fld (.fld c 0) 2)) 1 (.len b)))] (.br (.lt e (.len b)) (.need [(.le (.lit (.i 0)) e),(.lt e (.len b))] (.need [(.le (.add (.len (.fld f 1)) d) (.lit (.i 2513169434843))),(.ok 2 [(.get b e)])] (.need [(.rng .i64 (.add e d))] (.back 6 [(.add e d),(.set f 1 (.app (.fld f 1) (.row [(.call 2 0 [(.get b e)])])))])))) (.need [(.ok 3 [a,f,g])] (.leaf [(.call 3 0 [a,f,g]),(.call 3 1 [a,f,g])])))))))
theorem qhh(g0 g1 g2 g3:GfZ):CdZ [(q0r,g0),(jo,g1),(yj,g2),(zl,g3)] qja q20 Try.f6 q52:=fun cd h=>by injection h with h;subst h;kernel_rfl
theorem qj3{g0 g1 g2 g3 g:GfZ}(h0:FOk q0r g0)(h1:FOk jo g1)(h2:FOk yj g2)(h3:FOk zl g3)(h:HgZ q52 q20 [(q0r,g0),(jo,g1),(yj,g2),(zl,g3)] g):FOk q20 g:=yw (qhh g0 g1 g2 g3) (.cons h0 (.cons h1 (.cons h2 (.cons h3 .nil)))) rfl rfl qej (by decide) h
def q2t:Ct:=⟨30,[.val (.st 23),.val (.int .i64),.val (.bool)],[(.row 38,false),(.int .i64,false)],[],none,[],[]⟩
theorem qj5:EnZ q2t:=fun _ _=>by kernel_rfl
def qo9:Ann:=⟨[0,1,2,3,6,7,8,9,10,11,12,33,38],[]⟩
def q75:Tree:=
 let c:X:=.tok 0
 let d:X:=.lit (.i 1)
 let a:X:=.set (.set (.lit (.a [(.a [(.s ⟨#[]⟩),(.i 0),(.i 0)]),(.r []),(.r [])])) 0 (.set (.set (.lit (.a [(.s ⟨#[]⟩),(.i 0),(.i 0)])) 1 (.len (.call 3 0 [c]))) 2 (.tok 1))) 1 (.call 3 0 [c])
 let b:X:=.set (.set (.lit (.a [(.a [(.i 0),(.i 0)]),(.b .false),(.r [])])) 0 (.mk [(.call 2 0 [(.row [c])]),(.add (.tok 1) d)])) 1 (.tok 2)
 (.need [(.ok 0 [c])] (.need [(.imp (.not (.not (.call 0 1 [c]))) (.ok 1 [c,(.call 0 0 [c])]))] (.br (.or (.or (.or (.not (.call 0 1 [c])) (.not (.call 1 0 [c,(.call 0 0 [c])]))) (.lt (.tok 1) d)) (.lt (.lit (.i 1099511623776)) (.tok 1))) (.leaf [(.lit (.r [])),d]) (.need [(.ok 2 [(.row [c])])] (.br (.lt (.lit (.i 1099511625777)) (.call 2 0 [(.row [c])])) (.leaf [(.lit (.r [])),(.lit (.i 2))]) (.need [(.rng .i64 (.add (.tok 1) d))] (.need [(.ok 3 [c])] (.need [(.ok 4 [b,a,c])] (.leaf [(.call 4 0 [b,a,c]),(.call 4 1 [b,a,c])])))))))))
theorem qm3(g0 g1 g2 g3 g4:GfZ):CdZ [(j1,g0),(j2,g1),(jo,g2),(y4,g3),(zl,g4)] qo9 q2t Try.f30 q75:=fun cd h=>by injection h with h;subst h;kernel_rfl
theorem qoc{g0 g1 g2 g3 g4 g:GfZ}(h0:FOk j1 g0)(h1:FOk j2 g1)(h2:FOk jo g2)(h3:FOk y4 g3)(h4:FOk zl g4)(h:HgZ q75 q2t [(j1,g0),(j2,g1),(jo,g2),(y4,g3),(zl,g4)] g):FOk q2t g:=yw (qm3 g0 g1 g2 g3 g4) (.cons h0 (.cons h1 (.cons h2 (.cons h3 (.cons h4 .nil))))) rfl rfl qj5 (by decide) h
def jd:Ct:=⟨82,[.val (.st 23),.val (.int .i64)],[(.int .i64,false)],[],none,[],[]⟩
theorem q8n:EnZ jd:=fun _ _=>by kernel_rfl
def qjr:Ann:=⟨[0,1,2,4,5,6,16],[(3,⟨[(5,.int .i64,false),(6,.int .i64,false)],[],[7,8,9,10,11,12,13,14,15,16,19,20,21,22,23,24,25,26,27,28,29,17,18],[]⟩)]⟩
def q5b:Tree:=(.loop 3 2 [(.lit (.i 1)),(.lit (.i 0))] (.br (.and (.lt (.tok 3) (.len (.fld (.tok 0) 3))) (.lt (.tok 2) (.tok 1))) (.need [(.le (.lit (.i 0)) (.tok 3)),(.lt (.tok 3) (.len (.fld (.tok 0) 3))),(.rng .i64 (.sub (.tok 1) (.tok 2))),(.ok 0 [(.get (.fld (.tok 0) 3) (.tok 3)),(.sub (.tok 1) (.tok 2))]),(.rng .i64 (.add (.tok 2) (.call 0 0 [(.get (.fld (.tok 0) 3) (.tok 3)),(.sub (.tok 1) (.tok 2))])))] (.need [(.rng .i64 (.add (.tok 3) (.lit (.i 1))))] (.back 3 [(.add (.tok 2) (.call 0 0 [(.get (.fld (.tok 0) 3) (.tok 3)),(.sub (.tok 1) (.tok 2))])),(.add (.tok 3) (.lit (.i 1)))]))) (.leaf [(.tok 2)])))
theorem qfp(g0:GfZ):CdZ [(jd,g0)] qjr jd Try.f82 q5b:=fun cd h=>by injection h with h;subst h;kernel_rfl
theorem qiv{g0 g:GfZ}(h0:FOk jd g0)(h:HgZ q5b jd [(jd,g0)] g):FOk jd g:=yw (qfp g0) (.cons h0 .nil) rfl rfl q8n (by decide) h
def jn:Ct:=⟨56,[.val (.st 23)],[(.int .i64,false)],[],none,[],[]⟩
theorem qgx:EnZ jn:=fun _ _=>by kernel_rfl
def qlj:Ann:=⟨[0,1,2],[]⟩
def q6a:Tree:=(.need [(.ok 0 [(.tok 0),(.lit (.i 2001))])] (.leaf [(.call 0 0 [(.tok 0),(.lit (.i 2001))])]))
theorem qhx(g0:GfZ):CdZ [(jd,g0)] qlj jn Try.f56 q6a:=fun cd h=>by injection h with h;subst h;kernel_rfl
theorem qn5{g0 g:GfZ}(h0:FOk jd g0)(h:HgZ q6a jn [(jd,g0)] g):FOk jn g:=yw (qhx g0) (.cons h0 .nil) rfl rfl qgx (by decide) h
def q0p:Ct:=⟨103,[.val (.st 23)],[(.bool,false)],[],none,[],[]⟩
theorem qfq:EnZ q0p:=fun _ _=>by kernel_rfl
def qlq:Ann:=⟨[0,1,2,4,5,26,37,54],[]⟩
def q6d:Tree:=(.br (.eq (.fld (.tok 0) 0) (.lit (.i 0))) (.leaf [(.and (.and (.and (.le (.lit (.i 0)) (.fld (.tok 0) 1)) (.le (.fld (.tok 0) 1) (.lit (.i 1099511627776)))) (.eq (.fld (.tok 0) 2) (.lit (.s ⟨#[]⟩)))) (.eq (.len (.fld (.tok 0) 3)) (.lit (.i 0))))]) (.br (.eq (.fld (.tok 0) 0) (.lit (.i 1))) (.leaf [(.and (.eq (.fld (.tok 0) 2) (.lit (.s ⟨#[]⟩))) (.eq (.len (.fld (.tok 0) 3)) (.lit (.i 0))))]) (.br (.eq (.fld (.tok 0) 0) (.lit (.i 2))) (.leaf [(.and (.and (.eq (.fld (.tok 0) 1) (.lit (.i 0))) (.le (.slen (.fld (.tok 0) 2)) (.lit (.i 100)))) (.eq (.len (.fld (.tok 0) 3)) (.lit (.i 0))))]) (.br (.eq (.fld (.tok 0) 0) (.lit (.i 3))) (.leaf [(.and (.and (.and (.eq (.fld (.tok 0) 1) (.lit (.i 0))) (.le (.slen (.fld (.tok 0) 2)) (.lit (.i 100)))) (.le (.lit (.i 1)) (.len (.fld (.tok 0) 3)))) (.le (.len (.fld (.tok 0) 3)) (.lit (.i 8))))]) (.leaf [(.lit (.b .false))])))))
theorem qiw:CdZ [] qlq q0p Try.f103 q6d:=fun cd h=>by injection h with h;subst h;kernel_rfl
theorem qmr{g:GfZ}(h:HgZ q6d q0p [] g):FOk q0p g:=yw (qiw) .nil rfl rfl qfq (by decide) h
def ja:Ct:=⟨80,[.val (.st 23)],[(.bool,false)],[],none,[],[]⟩
theorem q8o:EnZ ja:=fun _ _=>by kernel_rfl
def qj9:Ann:=⟨[0,1,2,3,6,11,20],[(4,⟨[(2,.bool,false),(3,.int .i64,false)],[],[7,8,9,10,11,14,15,16,17,18,19,20,12,13],[]⟩)]⟩
def q4o:Tree:=(.need [(.ok 0 [(.tok 0)])] (.br (.not (.call 0 0 [(.tok 0)])) (.leaf [(.lit (.b .false))]) (.loop 4 1 [(.lit (.b .false)),(.lit (.i 0))] (.br (.lt (.tok 2) (.len (.fld (.tok 0) 3))) (.need [(.le (.lit (.i 0)) (.tok 2)),(.lt (.tok 2) (.len (.fld (.tok 0) 3))),(.ok 1 [(.get (.fld (.tok 0) 3) (.tok 2))])] (.br (.not (.call 1 0 [(.get (.fld (.tok 0) 3) (.tok 2))])) (.leaf [(.lit (.b .false))]) (.need [(.rng .i64 (.add (.tok 2) (.lit (.i 1))))] (.back 4 [(.tok 1),(.add (.tok 2) (.lit (.i 1)))])))) (.leaf [(.lit (.b .true))])))))
theorem qgg(g0 g1:GfZ):CdZ [(q0p,g0),(ja,g1)] qj9 ja Try.f80 q4o:=fun cd h=>by injection h with h;subst h;kernel_rfl
theorem qjo{g0 g1 g:GfZ}(h0:FOk q0p g0)(h1:FOk ja g1)(h:HgZ q4o ja [(q0p,g0),(ja,g1)] g):FOk ja g:=yw (qgg g0 g1) (.cons h0 (.cons h1 .nil)) rfl rfl q8o (by decide) h
def yg:Ct:=⟨54,[.val (.st 23)],[(.bool,false)],[],none,[],[]⟩
theorem qfe:EnZ yg:=fun _ _=>by kernel_rfl
def qje:Ann:=⟨[0,1,2],[]⟩
def q4z:Tree:=(.need [(.ok 0 [(.tok 0)]),(.imp (.le (.call 0 0 [(.tok 0)]) (.lit (.i 2000))) (.ok 1 [(.tok 0)]))] (.leaf [(.and (.le (.call 0 0 [(.tok 0)]) (.lit (.i 2000))) (.call 1 0 [(.tok 0)]))]))
theorem qh3(g0 g1:GfZ):CdZ [(jn,g0),(ja,g1)] qje yg Try.f54 q4z:=fun cd h=>by injection h with h;subst h;kernel_rfl
theorem qio{g0 g1 g:GfZ}(h0:FOk jn g0)(h1:FOk ja g1)(h:HgZ q4z yg [(jn,g0),(ja,g1)] g):FOk yg g:=yw (qh3 g0 g1) (.cons h0 (.cons h1 .nil)) rfl rfl qfe (by decide) h
def q22:Ct:=⟨87,[.val (.st 23),.val (.str),.val (.int .i64)],[(.bool,false)],[],none,[],[]⟩
theorem qns:EnZ q22:=fun _ _=>by kernel_rfl
def qrv:Ann:=⟨[0,1,2,3,6],[]⟩
def q98:Tree:=(.leaf [(.and (.and (.or (.eq (.fld (.tok 0) 0) (.lit (.i 2))) (.eq (.fld (.tok 0) 0) (.lit (.i 3)))) (.eq (.fld (.tok 0) 2) (.tok 1))) (.eq (.len (.fld (.tok 0) 3)) (.tok 2)))])
theorem qnw:CdZ [] qrv q22 Try.f87 q98:=fun cd h=>by injection h with h;subst h;kernel_rfl
theorem qqv{g:GfZ}(h:HgZ q98 q22 [] g):FOk q22 g:=yw (qnw) .nil rfl rfl qns (by decide) h
def q0g:Ct:=⟨81,[.val (.st 23)],[(.bool,false)],[],none,[],[]⟩
theorem qff:EnZ q0g:=fun _ _=>by kernel_rfl
def qif:Ann:=⟨[0,1,2],[]⟩
def q4m:Tree:=(.need [(.ok 0 [(.tok 0),(.lit (.s ⟨#[44]⟩)),(.lit (.i 2))]),(.imp (.not (.call 0 0 [(.tok 0),(.lit (.s ⟨#[44]⟩)),(.lit (.i 2))])) (.ok 0 [(.tok 0),(.lit (.s ⟨#[59]⟩)),(.lit (.i 2))])),(.imp (.not (.or (.call 0 0 [(.tok 0),(.lit (.s ⟨#[44]⟩)),(.lit (.i 2))]) (.call 0 0 [(.tok 0),(.lit (.s ⟨#[59]⟩)),(.lit (.i 2))]))) (.ok 0 [(.tok 0),(.lit (.s ⟨#[45,62]⟩)),(.lit (.i 2))]))] (.leaf [(.or (.or (.call 0 0 [(.tok 0),(.lit (.s ⟨#[44]⟩)),(.lit (.i 2))]) (.call 0 0 [(.tok 0),(.lit (.s ⟨#[59]⟩)),(.lit (.i 2))])) (.call 0 0 [(.tok 0),(.lit (.s ⟨#[45,62]⟩)),(.lit (.i 2))]))]))
theorem qft(g0:GfZ):CdZ [(q22,g0)] qif q0g Try.f81 q4m:=fun cd h=>by injection h with h;subst h;kernel_rfl
theorem qij{g0 g:GfZ}(h0:FOk q22 g0)(h:HgZ q4m q0g [(q22,g0)] g):FOk q0g g:=yw (qft g0) (.cons h0 .nil) rfl rfl qff (by decide) h
def yv:Ct:=⟨85,[.val (.st 23)],[(.st 23,false)],[],none,[],[]⟩
theorem q7j:EnZ yv:=fun _ _=>by kernel_rfl
def qgr:Ann:=⟨[0,1,2,3,4,16],[(3,⟨[(4,.int .i64,false)],[3],[12,13,14,15,16,19,20,21,22,23,24,25,26,27,28,29,17,18],[]⟩)]⟩
def q3v:Tree:=(.loop 3 1 [(.lit (.i 0)),(.set (.set (.set (.lit (.a [(.i 0),(.i 0),(.s ⟨#[]⟩),(.r [])])) 0 (.fld (.tok 0) 0)) 1 (.fld (.tok 0) 1)) 2 (.fld (.tok 0) 2))] (.br (.lt (.tok 1) (.len (.fld (.tok 0) 3))) (.need [(.le (.add (.len (.fld (.tok 2) 3)) (.lit (.i 1))) (.lit (.i 2513169434843))),(.ok 0 [(.get (.fld (.tok 0) 3) (.tok 1))]),(.le (.lit (.i 0)) (.tok 1)),(.lt (.tok 1) (.len (.fld (.tok 0) 3)))] (.need [(.rng .i64 (.add (.tok 1) (.lit (.i 1))))] (.back 3 [(.add (.tok 1) (.lit (.i 1))),(.set (.tok 2) 3 (.app (.fld (.tok 2) 3) (.row [(.call 0 0 [(.get (.fld (.tok 0) 3) (.tok 1))])])))]))) (.leaf [(.tok 2)])))
theorem qe4(g0:GfZ):CdZ [(yv,g0)] qgr yv Try.f85 q3v:=fun cd h=>by injection h with h;subst h;kernel_rfl
theorem qgu{g0 g:GfZ}(h0:FOk yv g0)(h:HgZ q3v yv [(yv,g0)] g):FOk yv g:=yw (qe4 g0) (.cons h0 .nil) rfl rfl q7j (by decide) h
def q0c:Ct:=⟨59,[.val (.st 23)],[(.st 23,false)],[],none,[],[]⟩
theorem qev:EnZ q0c:=fun _ _=>by kernel_rfl
def qiy:Ann:=⟨[0,1,2,5],[]⟩
def q4u:Tree:=(.need [(.ok 0 [(.tok 0)])] (.br (.not (.call 0 0 [(.tok 0)])) (.leaf [(.lit (.a [(.i 0),(.i 0),(.s ⟨#[]⟩),(.r [])]))]) (.need [(.ok 1 [(.tok 0)])] (.leaf [(.call 1 0 [(.tok 0)])]))))
theorem qhd(g0 g1:GfZ):CdZ [(yg,g0),(yv,g1)] qiy q0c Try.f59 q4u:=fun cd h=>by injection h with h;subst h;kernel_rfl
theorem qjd{g0 g1 g:GfZ}(h0:FOk yg g0)(h1:FOk yv g1)(h:HgZ q4u q0c [(yg,g0),(yv,g1)] g):FOk q0c g:=yw (qhd g0 g1) (.cons h0 (.cons h1 .nil)) rfl rfl qev (by decide) h
def jr:Ct:=⟨55,[.val (.st 23)],[(.st 23,false),(.bool,false)],[],none,[],[]⟩
theorem q6l:EnZ jr:=fun _ _=>by kernel_rfl
def qex:Ann:=⟨[0,1,2,3,4,5,6,7,10,16,20],[]⟩
def q3j:Tree:=(.br (.eq (.fld (.tok 0) 0) (.lit (.i 0))) (.leaf [(.set (.set (.set (.lit (.a [(.i 0),(.i 0),(.s ⟨#[]⟩),(.r [])])) 0 (.lit (.i 3))) 2 (.lit (.s ⟨#[99,97,108,108]⟩))) 3 (.row [(.tok 0)])),(.lit (.b .true))]) (.br (.eq (.fld (.tok 0) 0) (.lit (.i 1))) (.leaf [(.lit (.a [(.i 0),(.i 0),(.s ⟨#[]⟩),(.r [])])),(.lit (.b .false))]) (.need [(.ok 0 [(.tok 0)])] (.br (.not (.call 0 0 [(.tok 0)])) (.need [(.ok 1 [(.tok 0)])] (.leaf [(.call 1 0 [(.tok 0)]),(.lit (.b .true))])) (.need [(.lit (.b .true)),(.lt (.lit (.i 0)) (.len (.fld (.tok 0) 3))),(.ok 2 [(.get (.fld (.tok 0) 3) (.lit (.i 0)))])] (.need [(.lit (.b .true)),(.lt (.lit (.i 1)) (.len (.fld (.tok 0) 3))),(.ok 2 [(.get (.fld (.tok 0) 3) (.lit (.i 1)))])] (.leaf [(.set (.set (.set (.lit (.a [(.i 0),(.i 0),(.s ⟨#[]⟩),(.r [])])) 0 (.lit (.i 3))) 2 (.fld (.tok 0) 2)) 3 (.row [(.call 2 0 [(.get (.fld (.tok 0) 3) (.lit (.i 0)))]),(.call 2 0 [(.get (.fld (.tok 0) 3) (.lit (.i 1)))])])),(.and (.call 2 1 [(.get (.fld (.tok 0) 3) (.lit (.i 0)))]) (.call 2 1 [(.get (.fld (.tok 0) 3) (.lit (.i 1)))]))])))))))
theorem qdo(g0 g1 g2:GfZ):CdZ [(q0g,g0),(q0c,g1),(jr,g2)] qex jr Try.f55 q3j:=fun cd h=>by injection h with h;subst h;kernel_rfl
theorem qfk{g0 g1 g2 g:GfZ}(h0:FOk q0g g0)(h1:FOk q0c g1)(h2:FOk jr g2)(h:HgZ q3j jr [(q0g,g0),(q0c,g1),(jr,g2)] g):FOk jr g:=yw (qdo g0 g1 g2) (.cons h0 (.cons h1 (.cons h2 .nil))) rfl rfl q6l (by decide) h
def y8:Ct:=⟨65,[.val (.st 23),.val (.st 23)],[(.bool,false)],[],none,[],[]⟩
theorem q4k:EnZ y8:=fun _ _=>by kernel_rfl
def qci:Ann:=⟨[0,1,2,3,4,5,33,38,52],[(4,⟨[(4,.bool,false),(5,.int .i64,false)],[],[34,35,36,37,38,41,42,43,44,45,46,47,48,49,50,51,52,39,40],[]⟩)]⟩
def q2m:Tree:=(.br (.or (.or (.or (.not (.eq (.fld (.tok 0) 0) (.fld (.tok 1) 0))) (.not (.eq (.fld (.tok 0) 1) (.fld (.tok 1) 1)))) (.not (.eq (.fld (.tok 0) 2) (.fld (.tok 1) 2)))) (.not (.eq (.len (.fld (.tok 0) 3)) (.len (.fld (.tok 1) 3))))) (.leaf [(.lit (.b .false))]) (.loop 4 2 [(.lit (.b .false)),(.lit (.i 0))] (.br (.lt (.tok 3) (.len (.fld (.tok 0) 3))) (.need [(.ok 0 [(.get (.fld (.tok 0) 3) (.tok 3)),(.get (.fld (.tok 1) 3) (.tok 3))]),(.le (.lit (.i 0)) (.tok 3)),(.lt (.tok 3) (.len (.fld (.tok 1) 3))),(.le (.lit (.i 0)) (.tok 3)),(.lt (.tok 3) (.len (.fld (.tok 0) 3)))] (.br (.not (.call 0 0 [(.get (.fld (.tok 0) 3) (.tok 3)),(.get (.fld (.tok 1) 3) (.tok 3))])) (.leaf [(.lit (.b .false))]) (.need [(.rng .i64 (.add (.tok 3) (.lit (.i 1))))] (.back 4 [(.tok 2),(.add (.tok 3) (.lit (.i 1)))])))) (.leaf [(.lit (.b .true))]))))
theorem qbk(g0:GfZ):CdZ [(y8,g0)] qci y8 Try.f65 q2m:=fun cd h=>by injection h with h;subst h;kernel_rfl
theorem qce{g0 g:GfZ}(h0:FOk y8 g0)(h:HgZ q2m y8 [(y8,g0)] g):FOk y8 g:=yw (qbk g0) (.cons h0 .nil) rfl rfl q4k (by decide) h
def q0b:Ct:=⟨31,[.val (.st 23),.val (.st 23)],[(.bool,false)],[],none,[],[]⟩
theorem qg1:EnZ q0b:=fun _ _=>by kernel_rfl
def qmi:Ann:=⟨[0,1,2,3,4],[]⟩
def q6c:Tree:=(.need [(.ok 0 [(.tok 0)]),(.imp (.call 0 0 [(.tok 0)]) (.ok 0 [(.tok 1)])),(.imp (.and (.call 0 0 [(.tok 0)]) (.call 0 0 [(.tok 1)])) (.ok 1 [(.tok 0),(.tok 1)]))] (.leaf [(.and (.and (.call 0 0 [(.tok 0)]) (.call 0 0 [(.tok 1)])) (.call 1 0 [(.tok 0),(.tok 1)]))]))
theorem qjt(g0 g1:GfZ):CdZ [(yg,g0),(y8,g1)] qmi q0b Try.f31 q6c:=fun cd h=>by injection h with h;subst h;kernel_rfl
theorem qnl{g0 g1 g:GfZ}(h0:FOk yg g0)(h1:FOk y8 g1)(h:HgZ q6c q0b [(yg,g0),(y8,g1)] g):FOk q0b g:=yw (qjt g0 g1) (.cons h0 (.cons h1 .nil)) rfl rfl qg1 (by decide) h
def ju:Ct:=⟨10,[.val (.row 24),.val (.row 24)],[(.bool,false)],[],none,[],[]⟩
theorem qck:EnZ ju:=fun _ _=>by kernel_rfl
def qf2:Ann:=⟨[0,1,4,5,10,14,26],[(4,⟨[(4,.bool,false),(5,.int .i64,false)],[],[11,12,13,14,17,18,19,20,21,22,23,24,25,26,15,16],[]⟩)]⟩
def q3f:Tree:=(.br (.not (.eq (.len (.tok 0)) (.len (.tok 1)))) (.leaf [(.lit (.b .false))]) (.loop 4 2 [(.lit (.b .false)),(.lit (.i 0))] (.br (.lt (.tok 3) (.len (.tok 0))) (.need [(.ok 0 [(.get (.tok 0) (.tok 3)),(.get (.tok 1) (.tok 3))]),(.le (.lit (.i 0)) (.tok 3)),(.lt (.tok 3) (.len (.tok 1))),(.le (.lit (.i 0)) (.tok 3)),(.lt (.tok 3) (.len (.tok 0)))] (.br (.not (.call 0 0 [(.get (.tok 0) (.tok 3)),(.get (.tok 1) (.tok 3))])) (.leaf [(.lit (.b .false))]) (.need [(.rng .i64 (.add (.tok 3) (.lit (.i 1))))] (.back 4 [(.tok 2),(.add (.tok 3) (.lit (.i 1)))])))) (.leaf [(.lit (.b .true))]))))
theorem qdj(g0:GfZ):CdZ [(q0b,g0)] qf2 ju Try.f10 q3f:=fun cd h=>by injection h with h;subst h;kernel_rfl
theorem qf7{g0 g:GfZ}(h0:FOk q0b g0)(h:HgZ q3f ju [(q0b,g0)] g):FOk ju g:=yw (qdj g0) (.cons h0 .nil) rfl rfl qck (by decide) h
def q0e:Ct:=⟨34,[.val (.row 24),.val (.int .i64)],[(.int .i64,false),(.bool,false)],[],none,[],[]⟩
theorem qes:EnZ q0e:=fun _ _=>by kernel_rfl
def qie:Ann:=⟨[0,1,4,5,6,10,18,28],[(2,⟨[(4,.int .i64,false),(5,.bool,false),(1,.int .i64,false),(6,.int .i64,false)],[],[7,8,9,10,13,14,15,16,17,18,19,20,21,22,23,24,25,26,27,28,29,11,12],[]⟩)]⟩
def q5c:Tree:=(.loop 2 2 [(.lit (.i 0)),(.lit (.b .false)),(.tok 1),(.lit (.i 0))] (.br (.lt (.tok 5) (.len (.tok 0))) (.need [(.le (.lit (.i 0)) (.tok 5)),(.lt (.tok 5) (.len (.tok 0))),(.ok 0 [(.get (.tok 0) (.tok 5))])] (.br (.not (.call 0 0 [(.get (.tok 0) (.tok 5))])) (.leaf [(.tok 4),(.lit (.b .false))]) (.need [(.le (.lit (.i 0)) (.tok 5)),(.lt (.tok 5) (.len (.tok 0))),(.ok 1 [(.get (.tok 0) (.tok 5))]),(.rng .i64 (.add (.tok 4) (.call 1 0 [(.get (.tok 0) (.tok 5))])))] (.br (.lt (.lit (.i 131072)) (.add (.tok 4) (.call 1 0 [(.get (.tok 0) (.tok 5))]))) (.leaf [(.add (.tok 4) (.call 1 0 [(.get (.tok 0) (.tok 5))])),(.lit (.b .false))]) (.need [(.rng .i64 (.add (.tok 5) (.lit (.i 1))))] (.back 2 [(.tok 2),(.tok 3),(.add (.tok 4) (.call 1 0 [(.get (.tok 0) (.tok 5))])),(.add (.tok 5) (.lit (.i 1)))])))))) (.leaf [(.tok 4),(.lit (.b .true))])))
theorem qgy(g0 g1:GfZ):CdZ [(yg,g0),(jn,g1)] qie q0e Try.f34 q5c:=fun cd h=>by injection h with h;subst h;kernel_rfl
theorem qid{g0 g1 g:GfZ}(h0:FOk yg g0)(h1:FOk jn g1)(h:HgZ q5c q0e [(yg,g0),(jn,g1)] g):FOk q0e g:=yw (qgy g0 g1) (.cons h0 (.cons h1 .nil)) rfl rfl qes (by decide) h
def je:Ct:=⟨35,[.val (.st 34)],[(.bool,false)],[],none,[],[]⟩
theorem qan:EnZ je:=fun _ _=>by kernel_rfl
def qcj:Ann:=⟨[0,1,2,5],[]⟩
def q2g:Tree:=(.br (.eq (.fld (.tok 0) 2) (.lit (.i 0))) (.leaf [(.and (.and (.le (.slen (.fld (.tok 0) 0)) (.lit (.i 100))) (.le (.lit (.i 0)) (.fld (.tok 0) 1))) (.le (.fld (.tok 0) 1) (.lit (.i 8))))]) (.leaf [(.and (.and (.and (.and (.eq (.fld (.tok 0) 0) (.lit (.s ⟨#[]⟩))) (.le (.lit (.i 1)) (.fld (.tok 0) 2))) (.le (.fld (.tok 0) 2) (.lit (.i 1099511627776)))) (.le (.lit (.i 0)) (.fld (.tok 0) 1))) (.le (.fld (.tok 0) 1) (.lit (.i 4096))))]))
theorem qat:CdZ [] qcj je Try.f35 q2g:=fun cd h=>by injection h with h;subst h;kernel_rfl
theorem qca{g:GfZ}(h:HgZ q2g je [] g):FOk je g:=yw (qat) .nil rfl rfl qan (by decide) h
def jf:Ct:=⟨14,[.val (.st 37)],[(.bool,false)],[],none,[],[]⟩
theorem qet:EnZ jf:=fun _ _=>by kernel_rfl
def qj4:Ann:=⟨[0,1,2,3,4,5,6,7,30,35,44,45,64,73,74,105,106,122],[(6,⟨[(2,.bool,false),(3,.int .i64,false),(4,.bool,false),(5,.bool,false),(6,.int .i64,false)],[],[31,32,33,34,35,38,39,40,41,42,7,43,44,46,45,47,48,49,50,51,52,53,54,55,56,57,58,59,60,61,62,63,64,66,67,68,69,65,70,71,72,73,75,74,76,77,78,79,80,81,82,83,84,85,86,87,88,89,90,91,92,93,94,95,96,97,98,99,100,101,102,103,104,105,107,106,108,109,110,111,112,113,114,115,116,117,118,119,120,121,122,36,37],[]⟩)]⟩
def q4v:Tree:=
 let c:X:=.add (.tok 5) (.lit (.i 1))
 let e:X:=.lit (.b .false)
 let i:X:=.tok 2
 let j:X:=.tok 0
 let k:X:=.lit (.i 0)
 let l:X:=.tok 1
 let o:X:=.tok 3
 let p:X:=.tok 4
 let a:X:=.get (.fld j 2) (.tok 5)
 let f:X:=.call 0 1 [(.fld j 1),k]
 let h:X:=.rng .i64 c
 let q:X:=.lt (.tok 5) (.len (.fld j 2))
 let g:X:=.fld a 0
 let n:X:=.fld a 2
 let b:X:=.or (.or (.or (.or (.lt (.fld a 3) k) (.lt (.lit (.i 1099511627776)) (.fld a 3))) (.not (.eq (.fld a 1) (.lit (.a [(.s ⟨#[]⟩),(.i 0),(.i 0)]))))) (.not (.eq (.len n) k))) (.and (.eq g (.lit (.i 2))) p)
 let d:X:=.or (.or (.not (.eq (.fld a 3) k)) (.not (.eq (.fld a 1) (.lit (.a [(.s ⟨#[]⟩),(.i 0),(.i 0)]))))) (.not (.eq (.len n) k))
 let m:X:=.eq g (.lit (.i 5))
 (.need [(.ok 0 [(.fld j 1),k])] (.need [(.imp (.not (.not f)) (.ok 1 [(.fld j 0)]))] (.br (.or (.or (.not f) (.not (.call 1 0 [(.fld j 0)]))) (.not (.eq (.len (.fld j 1)) (.fld (.fld j 0) 1)))) (.leaf [e]) (.loop 6 1 [e,(.call 0 0 [(.fld j 1),k]),f,e,k] (.br q (.need [(.le k (.tok 5)),q] (.br (.eq g (.lit (.i 1))) (.need [(.ok 1 [(.fld a 1)])] (.br (.or (.or (.not (.call 1 0 [(.fld a 1)])) (.not (.eq (.len n) (.fld (.fld a 1) 1)))) (.not (.eq (.fld a 3) k))) (.leaf [e]) (.need [(.ok 0 [n,i])] (.br (.not (.call 0 1 [n,i])) (.leaf [e]) (.need [h] (.back 6 [l,(.call 0 0 [n,i]),(.call 0 1 [n,i]),(.lit (.b .true)),c])))))) (.br (.eq g (.lit (.i 2))) (.br (.eq g (.lit (.i 2))) (.br b (.leaf [e]) (.need [h] (.back 6 [l,i,o,p,c]))) (.br m (.br d (.leaf [e]) (.need [h] (.back 6 [l,i,o,p,c]))) (.leaf [e]))) (.br (.eq g (.lit (.i 3))) (.br (.eq g (.lit (.i 3))) (.br b (.leaf [e]) (.need [h] (.back 6 [l,i,o,p,c]))) (.br m (.br d (.leaf [e]) (.need [h] (.back 6 [l,i,o,p,c]))) (.leaf [e]))) (.br (.eq g (.lit (.i 4))) (.br b (.leaf [e]) (.need [h] (.back 6 [l,i,o,p,c]))) (.br m (.br d (.leaf [e]) (.need [h] (.back 6 [l,i,o,p,c]))) (.leaf [e]))))))) (.leaf [(.lit (.b .true))]))))))
theorem qh8(g0 g1:GfZ):CdZ [(q0e,g0),(je,g1)] qj4 jf Try.f14 q4v:=fun cd h=>by injection h with h;subst h;kernel_rfl
theorem qjq{g0 g1 g:GfZ}(h0:FOk q0e g0)(h1:FOk je g1)(h:HgZ q4v jf [(q0e,g0),(je,g1)] g):FOk jf g:=yw (qh8 g0 g1) (.cons h0 (.cons h1 .nil)) rfl rfl qet (by decide) h
def q0f:Ct:=⟨40,[.val (.st 37),.val (.st 37)],[(.bool,false)],[],none,[],[]⟩
theorem qey:EnZ q0f:=fun _ _=>by kernel_rfl
def qis:Ann:=⟨[0,1,2,3,4,5,6,7,29,34,73],[(4,⟨[(4,.bool,false),(5,.int .i64,false)],[],[30,31,32,33,34,37,38,39,40,41,42,43,44,45,46,6,7,47,48,49,50,51,52,53,54,55,56,57,58,59,60,61,62,63,64,65,66,67,68,69,70,71,72,73,35,36],[]⟩)]⟩
def q50:Tree:=
 let b:X:=.tok 3
 let c:X:=.fld (.tok 0) 2
 let d:X:=.tok 1
 let f:X:=.lit (.b .false)
 let h:X:=.lit (.i 0)
 let e:X:=.not (.eq (.fld (.tok 0) 0) (.fld d 0))
 let g:X:=.fld d 2
 let a:X:=.or (.or (.not (.eq (.fld (.get c b) 0) (.fld (.get g b) 0))) (.not (.eq (.fld (.get c b) 1) (.fld (.get g b) 1)))) (.not (.eq (.fld (.get c b) 3) (.fld (.get g b) 3)))
 (.need [(.imp (.not e) (.ok 0 [(.fld (.tok 0) 1),(.fld d 1)]))] (.br (.or (.or e (.not (.call 0 0 [(.fld (.tok 0) 1),(.fld d 1)]))) (.not (.eq (.len c) (.len g)))) (.leaf [f]) (.loop 4 2 [f,h] (.br (.lt b (.len c)) (.need [(.le h b),(.lt b (.len g)),(.le h b),(.lt b (.len c))] (.need [(.imp (.not a) (.ok 0 [(.fld (.get c b) 2),(.fld (.get g b) 2)]))] (.br (.or a (.not (.call 0 0 [(.fld (.get c b) 2),(.fld (.get g b) 2)]))) (.leaf [f]) (.need [(.rng .i64 (.add b (.lit (.i 1))))] (.back 4 [(.tok 2),(.add b (.lit (.i 1)))]))))) (.leaf [(.lit (.b .true))])))))
theorem qfs(g0:GfZ):CdZ [(ju,g0)] qis q0f Try.f40 q50:=fun cd h=>by injection h with h;subst h;kernel_rfl
theorem qjf{g0 g:GfZ}(h0:FOk ju g0)(h:HgZ q50 q0f [(ju,g0)] g):FOk q0f g:=yw (qfs g0) (.cons h0 .nil) rfl rfl qey (by decide) h
def q0t:Ct:=⟨16,[.val (.st 37),.val (.st 37)],[(.bool,false)],[],none,[],[]⟩
theorem qga:EnZ q0t:=fun _ _=>by kernel_rfl
def qkf:Ann:=⟨[0,1,2,3,4],[]⟩
def q62:Tree:=(.need [(.ok 0 [(.tok 0)]),(.imp (.call 0 0 [(.tok 0)]) (.ok 0 [(.tok 1)])),(.imp (.and (.call 0 0 [(.tok 0)]) (.call 0 0 [(.tok 1)])) (.ok 1 [(.tok 0),(.tok 1)]))] (.leaf [(.and (.and (.call 0 0 [(.tok 0)]) (.call 0 0 [(.tok 1)])) (.call 1 0 [(.tok 0),(.tok 1)]))]))
theorem qi2(g0 g1:GfZ):CdZ [(jf,g0),(q0f,g1)] qkf q0t Try.f16 q62:=fun cd h=>by injection h with h;subst h;kernel_rfl
theorem ql8{g0 g1 g:GfZ}(h0:FOk jf g0)(h1:FOk q0f g1)(h:HgZ q62 q0t [(jf,g0),(q0f,g1)] g):FOk q0t g:=yw (qi2 g0 g1) (.cons h0 (.cons h1 .nil)) rfl rfl qga (by decide) h
def q5d:Ct:=⟨27,[.val (.str)],[(.st 23,false)],[],none,[],[]⟩
theorem qot:EnZ q5d:=fun _ _=>by kernel_rfl
def qt1:Ann:=⟨[0,2],[]⟩
def q9w:Tree:=(.leaf [(.set (.set (.lit (.a [(.i 0),(.i 0),(.s ⟨#[]⟩),(.r [])])) 0 (.lit (.i 2))) 2 (.tok 0))])
theorem qrj:CdZ [] qt1 q5d Try.f27 q9w:=fun cd h=>by injection h with h;subst h;kernel_rfl
theorem qtk{g:GfZ}(h:HgZ q9w q5d [] g):FOk q5d g:=yw (qrj) .nil rfl rfl qot (by decide) h
def q53:Ct:=⟨28,[.val (.str),.val (.row 24)],[(.st 23,false)],[],none,[],[]⟩
theorem qov:EnZ q53:=fun _ _=>by kernel_rfl
def quj:Ann:=⟨[0,1,4],[]⟩
def q9t:Tree:=(.leaf [(.set (.set (.set (.lit (.a [(.i 0),(.i 0),(.s ⟨#[]⟩),(.r [])])) 0 (.lit (.i 3))) 2 (.tok 0)) 3 (.tok 1))])
theorem qr6:CdZ [] quj q53 Try.f28 q9t:=fun cd h=>by injection h with h;subst h;kernel_rfl
theorem qtt{g:GfZ}(h:HgZ q9t q53 [] g):FOk q53 g:=yw (qr6) .nil rfl rfl qov (by decide) h
def q5h:Ct:=⟨29,[.val (.int .i64)],[(.st 23,false)],[],none,[],[]⟩
theorem qcu:EnZ q5h:=fun _ _=>by kernel_rfl
def qud:Ann:=⟨[0,2],[]⟩
def q9u:Tree:=(.leaf [(.set (.lit (.a [(.i 0),(.i 0),(.s ⟨#[]⟩),(.r [])])) 1 (.tok 0))])
theorem qsm:CdZ [] qud q5h Try.f29 q9u:=fun cd h=>by injection h with h;subst h;kernel_rfl
theorem qti{g:GfZ}(h:HgZ q9u q5h [] g):FOk q5h g:=yw (qsm) .nil rfl rfl qcu (by decide) h
def q0s:Ct:=⟨12,[.val (.st 37)],[(.bool,false)],[],none,[],[]⟩
theorem qgh:EnZ q0s:=fun _ _=>by kernel_rfl
def qkr:Ann:=⟨[0,1,2,3,4,14,26,36],[(5,⟨[(2,.bool,false),(3,.int .i64,false),(4,.int .i64,false)],[],[18,19,20,21,22,23,24,25,26,29,30,31,32,33,34,35,36,37,38,39,40,41,42,43,44,45,27,28],[]⟩)]⟩
def q6e:Tree:=(.br (.or (.lt (.lit (.i 5000)) (.len (.fld (.tok 0) 1))) (.lt (.lit (.i 2000)) (.len (.fld (.tok 0) 2)))) (.leaf [(.lit (.b .true))]) (.loop 5 1 [(.lit (.b .false)),(.len (.fld (.tok 0) 1)),(.lit (.i 0))] (.br (.and (.lt (.tok 3) (.len (.fld (.tok 0) 2))) (.le (.tok 2) (.lit (.i 5000)))) (.need [(.le (.lit (.i 0)) (.tok 3)),(.lt (.tok 3) (.len (.fld (.tok 0) 2)))] (.br (.lt (.lit (.i 5000)) (.len (.fld (.get (.fld (.tok 0) 2) (.tok 3)) 2))) (.leaf [(.lit (.b .true))]) (.need [(.le (.lit (.i 0)) (.tok 3)),(.lt (.tok 3) (.len (.fld (.tok 0) 2))),(.rng .i64 (.add (.tok 2) (.len (.fld (.get (.fld (.tok 0) 2) (.tok 3)) 2))))] (.need [(.rng .i64 (.add (.tok 3) (.lit (.i 1))))] (.back 5 [(.tok 1),(.add (.tok 2) (.len (.fld (.get (.fld (.tok 0) 2) (.tok 3)) 2))),(.add (.tok 3) (.lit (.i 1)))]))))) (.leaf [(.lt (.lit (.i 5000)) (.tok 2))]))))
theorem qj1:CdZ [] qkr q0s Try.f12 q6e:=fun cd h=>by injection h with h;subst h;kernel_rfl
theorem qkh{g:GfZ}(h:HgZ q6e q0s [] g):FOk q0s g:=yw (qj1) .nil rfl rfl qgh (by decide) h
def zm:Ct:=⟨36,[.val (.row 24),.val (.row 24),.fn 37 []],[(.bool,false)],[],none,[],[]⟩
theorem q6u:EnZ zm:=fun _ _=>by kernel_rfl
def q87:Ann:=⟨[0,1,2,6,7,8,9,14,15,16,17,18,30],[(4,⟨[(6,.bool,false),(17,.int .i64,false)],[],[18,19,20,21,8,7,22,23,24,25,9,26,27,28,29,30,31],[]⟩)]⟩
def q10:Tree:=(.br (.not (.eq (.len (.tok 0)) (.len (.tok 1)))) (.leaf [(.lit (.b .false))]) (.loop 4 2 [(.lit (.b .false)),(.lit (.i 0))] (.br (.lt (.tok 3) (.len (.tok 0))) (.need [(.le (.lit (.i 0)) (.tok 3)),(.lt (.tok 3) (.len (.tok 0)))] (.need [(.le (.lit (.i 0)) (.tok 3)),(.lt (.tok 3) (.len (.tok 1)))] (.need [(.ok 0 [(.get (.tok 0) (.tok 3)),(.get (.tok 1) (.tok 3))])] (.br (.not (.call 0 0 [(.get (.tok 0) (.tok 3)),(.get (.tok 1) (.tok 3))])) (.leaf [(.lit (.b .false))]) (.need [(.rng .i64 (.add (.tok 3) (.lit (.i 1))))] (.back 4 [(.tok 2),(.add (.tok 3) (.lit (.i 1)))])))))) (.leaf [(.lit (.b .true))]))))
theorem q7d(g0:GfZ):CdZ [(j2,g0)] q87 zm Try.f36 q10:=fun cd h=>by injection h with h;subst h;kernel_rfl
theorem q8a{g0 g:GfZ}(h0:FOk j2 g0)(h:HgZ q10 zm [(j2,g0)] g):FOk zm g:=yw (q7d g0) (.cons h0 .nil) rfl rfl q6u (by decide) h
def q0h:Ct:=⟨39,[.val (.st 41),.val (.st 41)],[(.bool,false)],[],none,[],[]⟩
theorem qfl:EnZ q0h:=fun _ _=>by kernel_rfl
def qim:Ann:=⟨[0,1,2,3,4],[]⟩
def q57:Tree:=(.need [(.imp (.and (.and (.eq (.fld (.tok 0) 0) (.fld (.tok 1) 0)) (.eq (.fld (.tok 0) 1) (.fld (.tok 1) 1))) (.eq (.fld (.tok 0) 3) (.fld (.tok 1) 3))) (.ok 0 [(.fld (.tok 0) 2),(.fld (.tok 1) 2)]))] (.leaf [(.and (.and (.and (.eq (.fld (.tok 0) 0) (.fld (.tok 1) 0)) (.eq (.fld (.tok 0) 1) (.fld (.tok 1) 1))) (.eq (.fld (.tok 0) 3) (.fld (.tok 1) 3))) (.call 0 0 [(.fld (.tok 0) 2),(.fld (.tok 1) 2)]))]))
theorem qh9(g0:GfZ):CdZ [(zm,g0)] qim q0h Try.f39 q57:=fun cd h=>by injection h with h;subst h;kernel_rfl
theorem qi0{g0 g:GfZ}(h0:FOk zm g0)(h:HgZ q57 q0h [(zm,g0)] g):FOk q0h g:=yw (qh9 g0) (.cons h0 .nil) rfl rfl qfl (by decide) h
def zr:Ct:=⟨38,[.val (.row 42),.val (.row 42),.fn 39 []],[(.bool,false)],[],none,[],[]⟩
theorem q4f:EnZ zr:=fun _ _=>by kernel_rfl
def q5x:Ann:=⟨[0,1,2,6,7,8,9,14,15,16,17,18,30],[(4,⟨[(6,.bool,false),(17,.int .i64,false)],[],[18,19,20,21,8,7,22,23,24,25,9,26,27,28,29,30,31],[]⟩)]⟩
def q09:Tree:=(.br (.not (.eq (.len (.tok 0)) (.len (.tok 1)))) (.leaf [(.lit (.b .false))]) (.loop 4 2 [(.lit (.b .false)),(.lit (.i 0))] (.br (.lt (.tok 3) (.len (.tok 0))) (.need [(.le (.lit (.i 0)) (.tok 3)),(.lt (.tok 3) (.len (.tok 0)))] (.need [(.le (.lit (.i 0)) (.tok 3)),(.lt (.tok 3) (.len (.tok 1)))] (.need [(.ok 0 [(.get (.tok 0) (.tok 3)),(.get (.tok 1) (.tok 3))])] (.br (.not (.call 0 0 [(.get (.tok 0) (.tok 3)),(.get (.tok 1) (.tok 3))])) (.leaf [(.lit (.b .false))]) (.need [(.rng .i64 (.add (.tok 3) (.lit (.i 1))))] (.back 4 [(.tok 2),(.add (.tok 3) (.lit (.i 1)))])))))) (.leaf [(.lit (.b .true))]))))
theorem q55(g0:GfZ):CdZ [(q0h,g0)] q5x zr Try.f38 q09:=fun cd h=>by injection h with h;subst h;kernel_rfl
theorem q5k{g0 g:GfZ}(h0:FOk q0h g0)(h:HgZ q09 zr [(q0h,g0)] g):FOk zr g:=yw (q55 g0) (.cons h0 .nil) rfl rfl q4f (by decide) h
def q1d:Ct:=⟨15,[.val (.st 37),.val (.st 37)],[(.bool,false)],[],none,[],[]⟩
theorem qil:EnZ q1d:=fun _ _=>by kernel_rfl
def qo5:Ann:=⟨[0,1,2,3,4],[]⟩
def q7q:Tree:=(.need [(.ok 0 [(.tok 0)]),(.imp (.call 0 0 [(.tok 0)]) (.ok 0 [(.tok 1)])),(.imp (.and (.and (.call 0 0 [(.tok 0)]) (.call 0 0 [(.tok 1)])) (.eq (.fld (.tok 0) 0) (.fld (.tok 1) 0))) (.ok 1 [(.fld (.tok 0) 1),(.fld (.tok 1) 1)])),(.imp (.and (.and (.and (.call 0 0 [(.tok 0)]) (.call 0 0 [(.tok 1)])) (.eq (.fld (.tok 0) 0) (.fld (.tok 1) 0))) (.call 1 0 [(.fld (.tok 0) 1),(.fld (.tok 1) 1)])) (.ok 2 [(.fld (.tok 0) 2),(.fld (.tok 1) 2)]))] (.leaf [(.and (.and (.and (.and (.call 0 0 [(.tok 0)]) (.call 0 0 [(.tok 1)])) (.eq (.fld (.tok 0) 0) (.fld (.tok 1) 0))) (.call 1 0 [(.fld (.tok 0) 1),(.fld (.tok 1) 1)])) (.call 2 0 [(.fld (.tok 0) 2),(.fld (.tok 1) 2)]))]))
theorem qlp(g0 g1 g2:GfZ):CdZ [(yt,g0),(zm,g1),(zr,g2)] qo5 q1d Try.f15 q7q:=fun cd h=>by injection h with h;subst h;kernel_rfl
theorem qob{g0 g1 g2 g:GfZ}(h0:FOk yt g0)(h1:FOk zm g1)(h2:FOk zr g2)(h:HgZ q7q q1d [(yt,g0),(zm,g1),(zr,g2)] g):FOk q1d g:=yw (qlp g0 g1 g2) (.cons h0 (.cons h1 (.cons h2 .nil))) rfl rfl qil (by decide) h
abbrev i64(n:Int):Prop:= -9223372036854775808≤n∧n≤9223372036854775807
theorem wfI{d:D}(h:Wf d (.int .i64)):∃n,d=.i n∧i64 n:=by
 obtain⟨n,rfl,hn⟩:=h.int;exact⟨n,rfl,qg.1 hn⟩
inductive Te where
 |mk(k n:Int)(s:ByteArray)(l:List Te)
instance:Inhabited Te:=⟨.mk 0 0 ⟨#[]⟩ []⟩
def Te.k:Te→Int|.mk k _ _ _=>k
def Te.n:Te→Int|.mk _ n _ _=>n
def Te.s:Te→ByteArray|.mk _ _ s _=>s
def Te.l:Te→List Te|.mk _ _ _ l=>l
mutual
theorem Te.ind0{P:Te→Prop}(h:∀k n s l,(∀t∈l,P t)→P (.mk k n s l)):∀t,P t
 |.mk k n s l=>h k n s l (Te.inds h l)
theorem Te.inds{P:Te→Prop}(h:∀k n s l,(∀t∈l,P t)→P (.mk k n s l)):∀(l:List Te),∀t∈l,P t
 |[],_,ht=>by cases ht
 |u::l,t,ht=>by
  exact(uI.1 ht).elim (fun e=>e▸Te.ind0 h u) fun h'=>Te.inds h l t h'
end
mutual
def eT:Te→D
 |.mk k n s l=>.a [.i k,.i n,.s s,.r (eTs l)]
def eTs:List Te→List D
 |[]=>[]
 |t::l=>eT t::eTs l
end
theorem qy1:∀l,eTs l=l.map eT
 |[]=>rfl
 |t::l=>by rw[eTs,qy1 l,List.map_cons]
theorem q6k(k n:Int)(s:ByteArray)(l:List Te):eT (.mk k n s l)=.a [.i k,.i n,.s s,.r (l.map eT)]:=by rw[eT,qy1]
mutual
def dT:D→Te
 |.a [.i k,.i n,.s s,.r l]=>.mk k n s (dTs l)
 |_=>.mk 0 0 ⟨#[]⟩ []
def dTs:List D→List Te
 |[]=>[]
 |d::l=>dT d::dTs l
end
mutual
theorem zw:∀t,dT (eT t)=t
 |.mk k n s l=>by simp only[eT,dT,qxm l]
theorem qxm:∀l,dTs (eTs l)=l
 |[]=>rfl
 |t::l=>by simp only[eTs,dTs,zw t,qxm l]
end
theorem z9i{t u:Te}(h:eT t=eT u):t=u:=by rw[←zw t,h,zw u]
theorem z7i(t u:Te):(eT t=eT u)=(t=u):=propext ⟨z9i,fun h=>h▸rfl⟩
theorem z0t(t:Te):(eT t).fld 0=.i t.k:=by cases t;rfl
theorem z2n(t:Te):(eT t).fld 1=.i t.n:=by cases t;rfl
theorem z25(t:Te):(eT t).fld 2=.s t.s:=by cases t;rfl
theorem zag(t:Te):(eT t).fld 3=.r (t.l.map eT):=by cases t;rw[q6k];rfl
theorem qk4(k n:Int)(s:ByteArray)(l:List Te)(x:Te):D.a ((eT (.mk k n s l)).fs.set 3 (.r (l.map eT++[eT x])))=eT (.mk k n s (l++[x])):=by
 rw[q6k,q6k];simp[D.fs]
def zT:Te:=.mk 0 0 ⟨#[]⟩ []
theorem zb3:D.a [.i 0,.i 0,.s ⟨#[]⟩,.r []]=eT zT:=rfl
theorem gnT:type_of% (uE @zw (uE @z0t (uE @z2n (uE @z25 (uE @zag (uE @z7i @zb3)))))):=uE @zw (uE @z0t (uE @z2n (uE @z25 (uE @zag (uE @z7i @zb3)))))
mutual
def szT:Te→Nat
 |.mk _ _ _ l=>q47 l+1
def q47:List Te→Nat
 |[]=>0
 |t::l=>szT t+q47 l
end
theorem qrn(t:Te):1≤szT t:=by cases t;rw[szT];omega
theorem ql1{t:Te}:∀{l:List Te},t∈l→szT t≤q47 l
 |u::l,h=>by
  rcases uI.1 h with rfl|h
  ·rw[q47];omega
  ·have:=ql1 h;rw[q47];omega
theorem z6c{t u:Te}(h:u∈t.l):szT u<szT t:=by
 cases t;have:=ql1 h;rw[szT];exact Nat.lt_succ_of_le this
theorem qaw:∀(l m:List Te),q47 (l++m)=q47 l+q47 m
 |[],m=>by simp[q47]
 |t::l,m=>by rw[uG,q47,q47,qaw l m];omega
theorem qg7{l:List Te}{k:Nat}(h:k<l.length):q47 (l.take (k+1))=q47 (l.take k)+szT (l.getD k default):=by
 rw[q0j h,qaw];simp[q47]
theorem qy4(t:Te):szT t=q47 t.l+1:=by cases t;rw[szT];rfl
mutual
def okT:Te→Prop
 |.mk k n s l=>i64 k∧i64 n∧s.size≤LIM∧l.length≤2513169434843∧z6z l
def z6z:List Te→Prop
 |[]=>True
 |t::l=>okT t∧z6z l
end
theorem qst:∀{l:List Te},z6z l↔∀t∈l,okT t
 |[]=>⟨fun _ t h=>(by cases h),fun _=>trivial⟩
 |t::l=>by rw[z6z,qst];simp
theorem z11{k n:Int}{s:ByteArray}{l:List Te}:okT (.mk k n s l)↔i64 k∧i64 n∧s.size≤LIM∧l.length≤2513169434843∧∀t∈l,okT t:=by rw[okT,qst]
theorem okT.l{t:Te}(h:okT t):t.l.length≤2513169434843:=by cases t;exact(z11.1 h).2.2.2.1
theorem qza(d:D):(Wf d q2h→∃t,d=eT t∧okT t)∧(Wf d q8l→∃l:List Te,d=.r (l.map eT)∧l.length≤2513169434843∧∀t∈l,okT t):=by
 have noS:∀{d:D},Wf d q2h→∃l,d=.a l:=fun h=>let ⟨l,e,_⟩:=h.st_of (fs:=[.int .i64,.int .i64,.str,q8l]) rfl;⟨l,e⟩
 have noR:∀{d:D},Wf d q8l→∃l,d=.r l:=fun h=>let ⟨l,e,_⟩:=h.row_of (te:=q2h) rfl;⟨l,e⟩
 induction d using D.ind with
 |hu=>exact⟨fun h=>(by obtain⟨_,e⟩:=noS h;cases e),fun h=>(by obtain⟨_,e⟩:=noR h;cases e)⟩
 |hi n=>exact⟨fun h=>(by obtain⟨_,e⟩:=noS h;cases e),fun h=>(by obtain⟨_,e⟩:=noR h;cases e)⟩
 |hb n=>exact⟨fun h=>(by obtain⟨_,e⟩:=noS h;cases e),fun h=>(by obtain⟨_,e⟩:=noR h;cases e)⟩
 |hs n=>exact⟨fun h=>(by obtain⟨_,e⟩:=noS h;cases e),fun h=>(by obtain⟨_,e⟩:=noR h;cases e)⟩
 |hm n=>exact⟨fun h=>(by obtain⟨_,e⟩:=noS h;cases e),fun h=>(by obtain⟨_,e⟩:=noR h;cases e)⟩
 |ha l ih=>
  refine⟨fun h=>?_,fun h=>(by obtain⟨_,e⟩:=noR h;cases e)⟩;obtain⟨ds,e,hl⟩:=h.st_of (fs:=[.int .i64,.int .i64,.str,q8l]) rfl;injection e with e;subst e;obtain⟨d0,r,rfl,h0,hl⟩:=q7w hl;obtain⟨d1,r,rfl,h1,hl⟩:=q7w hl;obtain⟨d2,d3,rfl,h2,h3⟩:=qvl hl;obtain⟨k,rfl,hk⟩:=wfI h0;obtain⟨n,rfl,hn⟩:=wfI h1;obtain⟨s,rfl,hs⟩:=h2.str;obtain⟨ts,rfl,h4,h5⟩:=(ih d3 (by simp)).2 h3;exact⟨.mk k n s ts,(q6k _ _ _ _).symm,z11.2 ⟨hk,hn,hs,h4,h5⟩⟩
 |hr l ih=>
  refine⟨fun h=>(by obtain⟨_,e⟩:=noS h;cases e),fun h=>?_⟩;obtain⟨l',e,h1,h2⟩:=h.row_of (te:=q2h) rfl;injection e with e;subst e;obtain⟨m,rfl,h3⟩:=qgn (e:=eT) (P:=okT) fun x hx=>(ih x hx).1 (h2 x hx);have e:LM q2h=2513169434843:=by kernel_rfl
  rw[e,List.length_map] at h1;exact⟨m,rfl,h1,h3⟩
theorem wfT{d:D}(h:Wf d q2h):∃t,d=eT t∧okT t:=(qza d).1 h
theorem qj2{d:D}(h:Wf d q8l):∃l:List Te,d=.r (l.map eT)∧l.length≤2513169434843∧∀t∈l,okT t:=(qza d).2 h
def q9m(t:Te):Bool:=
 if t.k=0 then decide (0≤t.n)&&(decide (t.n≤1099511627776)&&(decide (t.s=⟨#[]⟩)&&decide ((t.l.length:Int)=0)))
 else if t.k=1 then decide (t.s=⟨#[]⟩)&&decide ((t.l.length:Int)=0)
 else if t.k=2 then decide (t.n=0)&&(decide ((t.s.size:Int)≤100)&&decide ((t.l.length:Int)=0))
 else if t.k=3 then decide (t.n=0)&&(decide ((t.s.size:Int)≤100)&&(decide (1≤(t.l.length:Int))&&decide ((t.l.length:Int)≤8)))
 else false
mutual
def q02:Te→Bool
 |.mk k n s l=>q9m (.mk k n s l)&&qk7 l
def qk7:List Te→Bool
 |[]=>true
 |t::l=>q02 t&&qk7 l
end
theorem qbh:∀{l:List Te},qk7 l=true↔∀t∈l,q02 t=true
 |[]=>⟨fun _ t h=>(by cases h),fun _=>rfl⟩
 |t::l=>by rw[qk7,gnB,qbh];simp
theorem qn1(t:Te):q02 t=(q9m t&&(List.range t.l.length).all fun i=>q02 (t.l.getD i default)):=by
 cases t with
 |mk k n s l=>
  rw[q02]
  congr 1
  rw[Bool.eq_iff_iff,qbh,uP];refine⟨fun h i hi=>h _ (qkk (uR.1 hi)),fun h t ht=>?_⟩;obtain⟨i,hi,rfl⟩:=List.getElem_of_mem ht;have:=h i (uR.2 hi);rwa [show(Te.mk k n s l).l.getD i default=l[i] by simp[Te.l,gnG,gnK hi]] at this
def y7(t:Te):Bool:=decide (szT t≤2000)&&q02 t
mutual
def idT:Te→Te→Bool
 |.mk k n s l,.mk k' n' s' l'=>decide (k=k')&&(decide (n=n')&&(decide (s=s')&&qw6 l l'))
def qw6:List Te→List Te→Bool
 |[],[]=>true
 |t::l,u::m=>idT t u&&qw6 l m
 |_,_=>false
end
mutual
theorem qbv:∀(t u:Te),idT t u=true↔t=u
 |.mk k n s l,.mk k' n' s' l'=>by simp[idT,qu3 l l']
theorem qu3:∀(l m:List Te),qw6 l m=true↔l=m
 |[],[]=>by simp[qw6]
 |t::l,u::m=>by simp[qw6,qbv t u,qu3 l m]
 |[],_::_=>by simp[qw6]
 |_::_,[]=>by simp[qw6]
end
instance:DecidableEq Te:=fun t u=>if h:idT t u=true then .isTrue ((qbv t u).1 h) else .isFalse fun e=>h ((qbv t u).2 e)
def mT(ds:List D):Nat:=szT (dT (ds.getD 0 .u))
def z5z:List D→Option (List D)
 |[t,m]=>if 1≤m.int then some [.i (min (szT (dT t):Int) m.int)] else none
 |_=>none
def gTi(f:Te→Int):List D→Option (List D)
 |[t]=>some [.i (f (dT t))]
 |_=>none
def gTb(f:Te→Bool):List D→Option (List D)
 |[t]=>some [.b (f (dT t))]
 |_=>none
def gTT(f:Te→Te):List D→Option (List D)
 |[t]=>some [eT (f (dT t))]
 |_=>none
def q6v(f:Te→Te→Bool):List D→Option (List D)
 |[t,v]=>some [.b (f (dT t) (dT v))]
 |_=>none
theorem z4w(k n:Int)(s:ByteArray)(l:List Te):(Te.mk k n s l).l=l:=rfl
theorem q12{l:List Te}{k:Nat}(h:k<l.length):(D.r (l.map eT)).get (k:Int)=eT (l.getD k default):=zau eT h
theorem q3g{t:Te}{k:Nat}(h:k<t.l.length):szT (t.l.getD k default)<szT t:=z6c (qkk h)
theorem qna:FOk jd z5z:=q2d (m:=mT) q8n fun N ih=>qiv ih fun ds outs hw hg=>by
 obtain⟨d,r,rfl,hd,e,r',rfl,he,rfl⟩:=hw;obtain⟨t,rfl,ht⟩:=wfT hd;obtain⟨m,rfl,hm⟩:=wfI he;simp only[q01,mT,z5z,uC,zw,qe,uB,uA] at hg;obtain⟨hsz,h1,rfl⟩:=hg;have hl:=ht.l;rw[q5b,j7];refine⟨fun st=>∃k:Nat,k≤t.l.length∧st=[.i (min ((q47 (t.l.take k):Int)+1) m),.i k],fun st=>t.l.length - (st.getD 1 .u).int.toNat,⟨0,uF _,by simp[X.evs,X.ev,q47];omega⟩,?_⟩;rintro st - ⟨k,hk,rfl⟩;rw[qd];refine⟨fun hlt=>?_,fun hlt=>?_⟩
 ·simp only[gnZ,gnT,gnB] at hlt;obtain⟨hkl,hlm⟩:=hlt;have hkl':k<t.l.length:=by omega
  have ha:=q3g hkl';have hs:=qg7 hkl';have hmn:1≤m - min ((q47 (t.l.take k):Int)+1) m:=by omega
  simp only[gnZ,gnT,q12 hkl',q01,mT,z5z,if_pos hmn,if_pos (show szT (t.l.getD k default)<N by omega)];refine⟨⟨by omega,by omega,by omega,by omega⟩,⟨by omega,by omega⟩,?_⟩;rw[q1n,if_pos rfl];refine⟨⟨k+1,by omega,?_⟩,?_⟩
  ·rw[hs];simp;omega
  ·simp[D.int];omega
 ·simp only[gnZ,gnT,uH] at hlt;simp only[gnZ,gnT];have hz:=qy4 t;have:min ((q47 (t.l.take k):Int)+1) m=min (szT t:Int) m:=by
   rcases hlt with h|h
   ·have:k=t.l.length:=by omega
    subst this;rw[uJ];omega
   ·have h2:=qaw (t.l.take k) (t.l.drop k);rw[uK] at h2;omega
  rw[this]
theorem qcp:FOk jn (gTi fun t=>min (szT t:Int) 2001):=qn5 qna fun ds outs hw hg=>by
 obtain⟨d,r,rfl,hd,rfl⟩:=hw;obtain⟨t,rfl,ht⟩:=wfT hd;simp only[gTi,zw,uA] at hg;subst hg;simp[q6a,gnZ,gnT,z5z]
theorem qos:FOk q0p (gTb q9m):=qmr fun ds outs hw hg=>by
 obtain⟨d,r,rfl,hd,rfl⟩:=hw;obtain⟨t,rfl,ht⟩:=wfT hd;simp only[gTb,zw,uA] at hg;subst hg;simp only[q6d,gnZ,gnT,q9m];by_cases h0:t.k=0
 ·simp[h0,uD]
 ·by_cases h1:t.k=1
  ·simp[h1]
  ·by_cases h2:t.k=2
   ·simp[h2,uD]
   ·by_cases h3:t.k=3
    ·simp[h3,uD]
    ·simp[h0,h1,h2,h3]
theorem q73(t:Te):q02 t=true↔q9m t=true∧∀j,j<t.l.length→q02 (t.l.getD j default)=true:=by
 rw[qn1,gnB,uP];simp
theorem qkq:FOk ja (gTb q02):=q2d (m:=mT) q8o fun N ih=>qjo qos ih fun ds outs hw hg=>by
 obtain⟨d,r,rfl,hd,rfl⟩:=hw;obtain⟨t,rfl,ht⟩:=wfT hd;simp only[q01,mT,gTb,uC,zw,qe,uB,uA] at hg;obtain⟨hsz,rfl⟩:=hg;have hl:=ht.l;simp only[q4o,gnZ,gnT,gTb];refine⟨fun hn=>?_,fun hn=>?_⟩
 ·rw[qn1,show q9m t=false by simpa using hn];rfl
 have hn:q9m t=true:=by simpa using hn
 rw[j7];refine⟨fun st=>∃k:Nat,k≤t.l.length∧st=[.b false,.i k]∧∀j,j<k→q02 (t.l.getD j default)=true,fun st=>t.l.length - (st.getD 1 .u).int.toNat,⟨0,uF _,rfl,fun j hj=>absurd hj (uQ _)⟩,?_⟩;rintro st - ⟨k,hk,rfl,hP⟩;rw[qd];refine⟨fun hlt=>?_,fun hlt=>?_⟩
 ·simp only[gnZ,gnT] at hlt;have hkl':k<t.l.length:=by omega
  have ha:=q3g hkl';simp only[gnZ,gnT,q12 hkl',q01,mT,gTb,if_pos (show szT (t.l.getD k default)<N by omega)];refine⟨⟨by omega,by omega⟩,fun hx=>?_,fun hx=>⟨⟨by omega,by omega⟩,?_⟩⟩
  ·have:q02 t=false:=by
    cases hh:q02 t with
    |false=>rfl
    |true=>rw[((q73 t).1 hh).2 k hkl'] at hx;cases hx
   rw[this]
  ·rw[q1n,if_pos rfl];refine⟨⟨k+1,by omega,by simp,q3p hP (by simpa using hx)⟩,?_⟩;simp[D.int];omega
 ·simp only[gnZ,gnT] at hlt⊢;have:k=t.l.length:=by omega
  subst this;rw[(q73 t).2 ⟨hn,hP⟩]
theorem q7g:FOk yg (gTb y7):=qio qcp qkq fun ds outs hw hg=>by
 obtain⟨d,r,rfl,hd,rfl⟩:=hw;obtain⟨t,rfl,ht⟩:=wfT hd;simp only[gTb,zw,uA] at hg;subst hg;have e:decide (min (szT t:Int) 2001≤2000)=decide (szT t≤2000):=by rw[decide_eq_decide];omega
 simp[q4z,gnZ,gnT,gTi,gTb,y7,e]
theorem q9k{t u:Te}:idT t u=true↔t.k=u.k∧t.n=u.n∧t.s=u.s∧t.l.length=u.l.length∧∀j,j<t.l.length→idT (t.l.getD j default) (u.l.getD j default)=true:=by
 rw[qbv];cases t with
 | mk k n s l =>
  cases u with
  | mk k' n' s' l' =>
   simp only[Te.k,Te.n,Te.s,Te.l,Te.mk.injEq,qbv];refine⟨?_,?_⟩
   ·rintro⟨rfl,rfl,rfl,rfl⟩;exact⟨rfl,rfl,rfl,rfl,fun _ _=>rfl⟩
   ·rintro⟨rfl,rfl,rfl,h1,h2⟩;refine⟨rfl,rfl,rfl,List.ext_getElem h1 fun i hi hi'=>?_⟩;have:=h2 i hi;simpa[gnG,gnK hi,gnK hi'] using this
theorem qdz:FOk y8 (q6v idT):=q2d (m:=mT) q4k fun N ih=>qce ih fun ds outs hw hg=>by
 obtain⟨d,r,rfl,hd,e,r',rfl,he,rfl⟩:=hw;obtain⟨t,rfl,ht⟩:=wfT hd;obtain⟨u,rfl,hu⟩:=wfT he;simp only[q01,mT,q6v,uC,zw,qe,uB,uA] at hg;obtain⟨hsz,rfl⟩:=hg;have hl:=ht.l;have no:(¬idT t u=true)→[D.b false]=[D.b (idT t u)]:=fun h=>by rw[Bool.eq_false_iff.2 h]
 simp only[q2m,gnZ,gnT,q6v];refine⟨fun hn=>no fun h=>?_,fun hn=>?_⟩
 ·obtain⟨e1,e2,e3,e4,-⟩:=q9k.1 h;simp[e1,e2,e3,e4] at hn
 simp only[Bool.or_eq_false_iff,Bool.not_eq_false',gnD] at hn;obtain⟨⟨⟨e1,e2⟩,e3⟩,e4⟩:=hn;have e4:t.l.length=u.l.length:=by omega
 rw[j7];refine⟨fun st=>∃k:Nat,k≤t.l.length∧st=[.b false,.i k]∧∀j,j<k→idT (t.l.getD j default) (u.l.getD j default)=true,fun st=>t.l.length - (st.getD 1 .u).int.toNat,⟨0,uF _,rfl,fun j hj=>absurd hj (uQ _)⟩,?_⟩;rintro st - ⟨k,hk,rfl,hP⟩;rw[qd];refine⟨fun hlt=>?_,fun hlt=>?_⟩
 ·simp only[gnZ,gnT] at hlt;have hkl':k<t.l.length:=by omega
  have hku':k<u.l.length:=by omega
  have ha:=q3g hkl';simp only[gnZ,gnT,q12 hkl',q12 hku',q01,mT,q6v,if_pos (show szT (t.l.getD k default)<N by omega)];refine⟨⟨by omega,by omega,by omega,by omega⟩,fun hx=>no fun h=>?_,fun hx=>⟨⟨by omega,by omega⟩,?_⟩⟩
  ·rw[(q9k.1 h).2.2.2.2 k hkl'] at hx;cases hx
  ·rw[q1n,if_pos rfl];refine⟨⟨k+1,by omega,by simp,q3p hP (by simpa using hx)⟩,?_⟩;simp[D.int];omega
 ·simp only[gnZ,gnT] at hlt⊢;have:k=t.l.length:=by omega
  subst this;rw[q9k.2 ⟨e1,e2,e3,e4,hP⟩]
def q6j(t u:Te):Bool:=y7 t&&(y7 u&&idT t u)
theorem qcm:FOk q0b (q6v q6j):=qnl q7g qdz fun ds outs hw hg=>by
 obtain⟨d,r,rfl,hd,e,r',rfl,he,rfl⟩:=hw;obtain⟨t,rfl,ht⟩:=wfT hd;obtain⟨u,rfl,hu⟩:=wfT he;simp only[q6v,zw,uA] at hg;subst hg;simp[q6c,gnZ,gnT,gTb,q6v,q6j,uD]
def z4r:List D→Option (List D)
 |[t,m]=>if 1≤m.int then some [.i (m.int - min (szT (dT t):Int) m.int)] else none
 |_=>none
theorem qm2:FOk jc z4r:=q2d (m:=mT) q8w fun N ih=>qi3 ih fun ds outs hw hg=>by
 obtain⟨d,r,rfl,hd,e,r',rfl,he,rfl⟩:=hw;obtain⟨t,rfl,ht⟩:=wfT hd;obtain⟨m,rfl,hm⟩:=wfI he;simp only[q01,mT,z4r,uC,zw,qe,uB,uA] at hg;obtain⟨hsz,h1,rfl⟩:=hg;have hl:=ht.l;rw[q56,q9];refine⟨by simp only[gnZ,gnT];omega,?_⟩;rw[j7];refine⟨fun st=>∃k:Nat,k≤t.l.length∧st=[.i k,.i (m - min ((q47 (t.l.take k):Int)+1) m)],fun st=>t.l.length - (st.getD 0 .u).int.toNat,⟨0,uF _,by simp[X.evs,X.ev,q47,evl,D.int];omega⟩,?_⟩;rintro st - ⟨k,hk,rfl⟩;rw[qd];refine⟨fun hlt=>?_,fun hlt=>?_⟩
 ·simp only[gnZ,gnT,gnB] at hlt;obtain⟨hkl,hlm⟩:=hlt;have hkl':k<t.l.length:=by omega
  have ha:=q3g hkl';have hs:=qg7 hkl';have hmn:1≤m - min ((q47 (t.l.take k):Int)+1) m:=by omega
  simp only[gnZ,gnT,q12 hkl',q01,mT,z4r,if_pos hmn,if_pos (show szT (t.l.getD k default)<N by omega)];refine⟨⟨by omega,by omega⟩,⟨by omega,by omega⟩,?_⟩;rw[q1n,if_pos rfl];refine⟨⟨k+1,by omega,?_⟩,?_⟩
  ·rw[hs];simp;omega
  ·simp[D.int];omega
 ·simp only[gnZ,gnT,uH] at hlt;simp only[gnZ,gnT];have hz:=qy4 t;have:m - min ((q47 (t.l.take k):Int)+1) m=m - min (szT t:Int) m:=by
   rcases hlt with h|h
   ·have:k=t.l.length:=by omega
    subst this;rw[uJ];omega
   ·have h2:=qaw (t.l.take k) (t.l.drop k);rw[uK] at h2;omega
  rw[this]
theorem q6r:FOk yh (gTi fun t=>min (szT t:Int) 2001):=qow qm2 fun ds outs hw hg=>by
 obtain⟨d,r,rfl,hd,rfl⟩:=hw;obtain⟨t,rfl,ht⟩:=wfT hd;simp only[gTi,zw,uA] at hg;subst hg;simp[q7n,gnZ,gnT,z4r];omega
theorem qs1:FOk j5 (gTb q02):=q2d (m:=mT) qah fun N ih=>qo4 ih fun ds outs hw hg=>by
 obtain⟨d,r,rfl,hd,rfl⟩:=hw;obtain⟨t,rfl,ht⟩:=wfT hd;simp only[q01,mT,gTb,uC,zw,qe,uB,uA] at hg;obtain⟨hsz,rfl⟩:=hg;have hl:=ht.l;have key:∀(x:X),x.ev (evl (qm [(j5,q01 mT N (gTb q02))]) [eT t])=.b (q9m t)→Tree.go (qm [(j5,q01 mT N (gTb q02))]) (fun o=>o=[D.b (q02 t)]) (.loop 12 1 [x,(.lit (.i 0))] (.br (.and (.lt (.tok 2) (.len (.fld (.tok 0) 3))) (.tok 1)) (.need [(.le (.lit (.i 0)) (.tok 2)),(.lt (.tok 2) (.len (.fld (.tok 0) 3))),(.ok 0 [(.get (.fld (.tok 0) 3) (.tok 2))])] (.need [(.rng .i64 (.add (.tok 2) (.lit (.i 1))))] (.back 12 [(.call 0 0 [(.get (.fld (.tok 0) 3) (.tok 2))]),(.add (.tok 2) (.lit (.i 1)))]))) (.leaf [(.tok 1)]))) [eT t] fun _ _=>False:=by
  intro x hx;rw[j7];refine⟨fun st=>∃(k:Nat)(v:Bool),k≤t.l.length∧st=[.b v,.i k]∧(v=true↔q9m t=true∧∀j,j<k→q02 (t.l.getD j default)=true),fun st=>t.l.length - (st.getD 1 .u).int.toNat,⟨0,q9m t,uF _,by simp only[X.evs,hx,X.ev];rfl,by simp⟩,?_⟩;rintro st - ⟨k,v,hk,rfl,hv⟩;rw[qd];refine⟨fun hlt=>?_,fun hlt=>?_⟩
  ·simp only[gnZ,gnT,gnB] at hlt;obtain⟨hlt,rfl⟩:=hlt;have hkl':k<t.l.length:=by omega
   have ha:=q3g hkl';simp only[gnZ,gnT,q12 hkl',q01,mT,gTb,if_pos (show szT (t.l.getD k default)<N by omega)];refine⟨⟨by omega,by omega⟩,⟨by omega,by omega⟩,?_⟩;rw[q1n,if_pos rfl];have hv':=hv.1 rfl;refine⟨⟨k+1,_,by omega,rfl,⟨fun h=>⟨hv'.1,q3p hv'.2 h⟩,fun h=>h.2 k (Nat.lt_succ_self _)⟩⟩,?_⟩;simp[D.int];omega
  ·simp only[gnZ,gnT,uH] at hlt;simp only[gnZ,gnT];rw[show v=q02 t from ?_];cases hvv:v with
   | false =>
    cases hh:q02 t with
    |false=>rfl
    |true=>
     have h2:=(q73 t).1 hh;rw[hv.2 ⟨h2.1,fun j hj=>h2.2 j (by omega)⟩] at hvv;cases hvv
   | true =>
    have:k=t.l.length:=by
     rcases hlt with h|h
     ·omega
     ·rw[hvv] at h;cases h
    subst this;exact((q73 t).2 (hv.1 hvv)).symm
 rw[q7m];simp only[qd];have e0:∀z:Int,(X.eq (.fld (.tok 0) 0) (.lit (.i z))).ev (evl (qm [(j5,q01 mT N (gTb q02))]) [eT t])=.b (decide (t.k=z)):=fun z=>by
  simp only[gnZ,gnT]
 simp only[e0,qp,gnD,decide_eq_false_iff_not];refine⟨fun h=>key _ ?_,fun h0=>⟨fun h=>key _ ?_,fun h1=>⟨fun h=>key _ ?_,fun h2=>⟨fun h=>key _ ?_,fun h3=>key _ ?_⟩⟩⟩⟩
 all_goals simp only[gnZ,gnT,q9m]
 ·simp[h,uD]
 ·simp[h,uD]
 ·simp[h,uD]
 ·have e8:decide (0<(t.l.length:Int))=decide (1≤(t.l.length:Int)):=rfl;rw[e8];simp[h,uD]
 ·simp[h0,h1,h2,h3]
theorem q1i:FOk zj (gTb y7):=qkz q6r qs1 fun ds outs hw hg=>by
 obtain⟨d,r,rfl,hd,rfl⟩:=hw;obtain⟨t,rfl,ht⟩:=wfT hd;simp only[gTb,zw,uA] at hg;subst hg;have e:decide (min (szT t:Int) 2001≤2000)=decide (szT t≤2000):=by rw[decide_eq_decide];omega
 simp[q60,gnZ,gnT,gTi,gTb,y7,e]
theorem qi5:FOk q00 (gTT id):=qhg fun ds outs hw hg=>by
 obtain⟨d,r,rfl,hd,rfl⟩:=hw;obtain⟨t,rfl,ht⟩:=wfT hd;simp only[gTT,zw,uA] at hg;subst hg;simp only[q4d,gnZ,gnT,id]
theorem qnz:FOk jm (gTT id):=q2d (m:=mT) q9f fun N ih=>ql3 qi5 ih fun ds outs hw hg=>by
 obtain⟨d,r,rfl,hd,rfl⟩:=hw;obtain⟨t,rfl,ht⟩:=wfT hd;simp only[q01,mT,gTT,uC,zw,qe,uB,uA] at hg;obtain⟨hsz,rfl⟩:=hg;have hl:=ht.l;rw[q64,qd];refine⟨fun h=>?_,fun h=>?_⟩
 ·simp only[gnZ,gnT,gTT,id]
 rw[j7];refine⟨fun st=>∃k:Nat,k≤t.l.length∧st=[.i k,eT (.mk t.k t.n t.s (t.l.take k))],fun st=>t.l.length - (st.getD 0 .u).int.toNat,⟨0,uF _,by simp only[X.evs,X.ev,evl,uC,z0t,z2n,z25,q6k];rfl⟩,?_⟩;rintro st - ⟨k,hk,rfl⟩;rw[qd];refine⟨fun hlt=>?_,fun hlt=>?_⟩
 ·simp only[gnZ,gnT] at hlt;have hkl':k<t.l.length:=by omega
  have ha:=q3g hkl';simp only[gnZ,gnT,q12 hkl',q01,mT,gTT,if_pos (show szT (t.l.getD k default)<N by omega),id,z4w,List.length_take];refine⟨⟨by omega,by omega⟩,by omega,⟨by omega,by omega⟩,?_⟩;rw[q1n,if_pos rfl];refine⟨⟨k+1,by omega,?_⟩,?_⟩
  ·rw[q0j hkl',qk4];rfl
  ·simp[D.int];omega
 ·simp only[gnZ,gnT] at hlt⊢;have:k=t.l.length:=by omega
  subst this;rw[uJ];cases t;rfl
theorem qnx:FOk yj (gTT fun t=>if y7 t then t else zT):=qkw q1i qnz fun ds outs hw hg=>by
 obtain⟨d,r,rfl,hd,rfl⟩:=hw;obtain⟨t,rfl,ht⟩:=wfT hd;simp only[gTT,zw,uA] at hg;subst hg;simp only[q6b,gnZ,gnT,gTb,gTT,id];cases y7 t<;>simp
section
mutual
/-- Variables renumbered. -/
def qix(f:Int→Int):Te→Te
 |.mk k n s l=>.mk k (if k=0 then f n else n) s (qhw f l)
def qhw(f:Int→Int):List Te→List Te
 |[]=>[]
 |t::l=>qix f t::qhw f l
end
mutual
/-- The variables in the order of their first occurrence, behind those given. -/
def jk(vs:List Int):Te→List Int
 |.mk k n s l=>j9 (if k=0∧n∉vs then vs++[n] else vs) l
def j9(vs:List Int):List Te→List Int
 |[]=>vs
 |t::l=>j9 (jk vs t) l
end
mutual
def inV(V:List Int):Te→Prop
 |.mk k n s l=>(k=0→n∈V)∧qzz V l
def qzz(V:List Int):List Te→Prop
 |[]=>True
 |t::l=>inV V t∧qzz V l
end
def q66:List Int→Int→Int
 |[],_=> -1
 |a::l,x=>if a=x then 0 else if q66 l x<0 then -1 else q66 l x+1
abbrev qu0(V:List Int):Te→Te:=qix (q66 V)
section
variable{f g:Int→Int}
theorem qpy:∀l,qhw f l=l.map (qix f)
 |[]=>rfl
 |t::l=>by rw[qhw,qpy l];rfl
theorem z6y(k n:Int)(s:ByteArray)(l:List Te):qix f (.mk k n s l)=.mk k (if k=0 then f n else n) s (l.map (qix f)):=by rw[qix,qpy]
theorem quu:∀(l:List Te)(vs:List Int),j9 vs l=l.foldl jk vs
 |[],_=>rfl
 |t::l,vs=>by rw[j9,quu l];rfl
theorem q7e:∀(l m:List Te)(vs:List Int),j9 vs (l++m)=j9 (j9 vs l) m
 |[],_,_=>rfl
 |t::l,m,vs=>by rw[uG,j9,j9,q7e l]
mutual
theorem qkm{V:List Int}(h:∀x∈V,f x=g x):∀t,inV V t→qix f t=qix g t
 |.mk k n s l,hi=>by
  rw[qix,qix,qho h l hi.2];by_cases hk:k=0
  ·rw[if_pos hk,if_pos hk,h n (hi.1 hk)]
  ·rw[if_neg hk,if_neg hk]
theorem qho{V:List Int}(h:∀x∈V,f x=g x):∀l,qzz V l→qhw f l=qhw g l
 |[],_=>rfl
 |t::l,hi=>by rw[qhw,qhw,qkm h t hi.1,qho h l hi.2]
end
mutual
theorem qtb{V W:List Int}(h:∀x∈V,x∈W):∀t,inV V t→inV W t
 |.mk k n s l,hi=>⟨fun hk=>h n (hi.1 hk),qqd h l hi.2⟩
theorem qqd{V W:List Int}(h:∀x∈V,x∈W):∀l,qzz V l→qzz W l
 |[],_=>trivial
 |t::l,hi=>⟨qtb h t hi.1,qqd h l hi.2⟩
end
mutual
theorem qfo:∀(t:Te)(vs:List Int),∃m,jk vs t=vs++m
 |.mk k n s l,vs=>by
  rw[jk];obtain⟨m,hm⟩:=q7l l (if k=0∧n∉vs then vs++[n] else vs);rw[hm];split
  ·exact⟨[n]++m,by simp⟩
  ·exact⟨m,rfl⟩
theorem q7l:∀(l:List Te)(vs:List Int),∃m,j9 vs l=vs++m
 |[],vs=>⟨[],by simp[j9]⟩
 |t::l,vs=>by
  rw[j9];obtain⟨m,hm⟩:=qfo t vs;obtain⟨m',hm'⟩:=q7l l (jk vs t);exact⟨m++m',by rw[hm',hm];simp⟩
end
theorem qla{t:List Te}{vs:List Int}{x:Int}(h:x∈vs):x∈j9 vs t:=by
 obtain⟨m,hm⟩:=q7l t vs;rw[hm];exact List.mem_append_left _ h
mutual
theorem qlr:∀(t:Te)(vs:List Int),inV (jk vs t) t
 | .mk k n s l, vs => by
  rw[jk];refine⟨fun hk=>qla ?_,qpu l _⟩;split
  ·simp
  ·rename_i h;exact Classical.byContradiction fun hn=>h ⟨hk,hn⟩
theorem qpu:∀(l:List Te)(vs:List Int),qzz (j9 vs l) l
 |[],vs=>trivial
 |t::l,vs=>by
  rw[j9];exact⟨qtb (fun x hx=>qla hx) t (qlr t vs),qpu l _⟩
end
mutual
theorem qc1:∀(t:Te)(vs:List Int),(jk vs t).length≤vs.length+szT t
 |.mk k n s l,vs=>by
  rw[jk,szT];refine Nat.le_trans (q9x l _) ?_;split
  ·simp;omega
  ·omega
theorem q9x:∀(l:List Te)(vs:List Int),(j9 vs l).length≤vs.length+q47 l
 |[],vs=>by simp[j9,q47]
 |t::l,vs=>by
  rw[j9,q47];have h1:=q9x l (jk vs t);have h2:=qc1 t vs;omega
end
end
theorem quy:∀{l:List Int}{x:Int},x∈l→0≤q66 l x∧q66 l x<l.length
 | a :: l, x, h => by
  unfold q66;split
  ·simp only[uO];omega
  ·rename_i hne;have:=quy (l:=l) (x:=x) (by
    rcases uI.1 h with rfl|h
    ·exact absurd rfl hne
    ·exact h)
   rw[if_neg (by omega)];simp only[uO];omega
theorem z4k:∀{l:List Int}{x:Int},x∉l→q66 l x= -1
 |[],_,_=>rfl
 |a::l,x,h=>by
  unfold q66;rw[if_neg (fun e:a=x=>h (by rw[e];exact uM)),if_pos (by rw[z4k fun q=>h (uL _ q)];omega)]
theorem qnt{l m:List Int}{x:Int}(h:x∈l):q66 (l++m) x=q66 l x:=by
 induction l with
 |nil=>cases h
 | cons a l ih =>
  rw[uG];unfold q66;by_cases e:a=x
  ·rw[if_pos e,if_pos e]
  ·have hx:x∈l:=by
    rcases uI.1 h with rfl|h
    ·exact absurd rfl e
    ·exact h
   rw[if_neg e,if_neg e,ih hx]
theorem qq7:∀{l:List Int}{x:Int},x∉l→q66 (l++[x]) x=l.length
 |[],x,_=>by simp[q66]
 |a::l,x,h=>by
  rw[uG];unfold q66;have:=qq7 (l:=l) (x:=x) fun q=>h (uL _ q);rw[if_neg (fun e:a=x=>h (by rw[e];exact uM)),this,if_neg (by omega)];simp
end
end Go.Proofs.Ytbmaffphliignaa
