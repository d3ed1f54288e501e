/-
 Lemmas of the walk and plain laws, put together. No condition.
-/
import Derived.Test.YtbmaffphliignaaKd
namespace Go.Proofs.Ytbmaffphliignaa
open Go.RowKit
set_option linter.unusedVariables false
set_option linter.unusedSimpArgs false
set_option maxRecDepth 100000
open _root_.And renaming intro→uA
open _root_.Go.Proofs.Try renaming f75→uB,prog→uD,f47→uF
abbrev qc2:Ty:=.row 24
abbrev q48:Ty:=.st 23
abbrev zbi:Ty:=.st 25
abbrev qdv:Ty:=.row 38
abbrev z2q:Ty:=.st 34
abbrev qnc:Ty:=.row 42
abbrev z3y:Ty:=.st 37
abbrev qi1:Ty:=.st 41
abbrev GfZ:=List D→Option (List D)
def EnZ(ct:Ct):Prop:=∀(args:Array Value)(w:World),(callFunc ct.f args).run uD w=.ok (.enter ct.f args) w
def CdZ(T:Tbl)(a:Ann)(ct:Ct)(f:Func)(t:Tree):Prop:=∀cd,f.body=some cd→qf3 uD T a ct f cd=t
def HgZ(t:Tree)(ct:Ct)(T:Tbl)(g:GfZ):Prop:=∀ds outs,WfA ct.ars ds→g ds=some outs→t.go (ym T) (fun o=>o=outs) ds fun _ _=>False
theorem yl{ct:Ct}{g:GfZ}{T:Tbl}{a:Ann}{f:Func}{t:Tree}{cd:Code}(hc:CdZ T a ct f t)(htb:q35 T)(hf:uD.funcs[ct.f]? =some f)(hb:f.body=some cd)(he:EnZ ct)(hd:ct.ar.length≤f.ntmps)(h:HgZ t ct T g)(hnp:z64 T=true:=by rfl)(hkp:ct.kp=[]:=by rfl)(hfl:ct.fl=[]:=by rfl):FOk ct g:=
 zc8 a f cd htb hf hb he hd (fun ds outs hw hg=>by rw[hc cd hb];exact h ds outs hw hg) hnp hkp hfl
def jt:Ct:=⟨92,[.val (.st 23),.ref (.int .i64) true,.cell 111 3],[],[(.cell 2,.fn 92 [1,2])],none,[],[]⟩
theorem qbn:EnZ jt:=fun _ _=>by kernel_rfl
def qpg:Ann:=⟨[0,1,2,3,4,15],[(3,⟨[(4,.int .i64,false)],[1],[7,8,9,10,11,12,13,14,15,18,19,20,21,22,23,24,16,17],[]⟩)]⟩
def q7t:Tree:=(.need [(.rng .i64 (.sub (.tok 1) (.lit (.i 1))))] (.loop 3 2 [(.lit (.i 0)),(.sub (.tok 1) (.lit (.i 1)))] (.br (.and (.lt (.tok 2) (.len (.fld (.tok 0) 3))) (.lt (.lit (.i 0)) (.tok 3))) (.need [(.ok 0 [(.get (.fld (.tok 0) 3) (.tok 2)),(.tok 3)]),(.le (.lit (.i 0)) (.tok 2)),(.lt (.tok 2) (.len (.fld (.tok 0) 3)))] (.need [(.rng .i64 (.add (.tok 2) (.lit (.i 1))))] (.back 3 [(.add (.tok 2) (.lit (.i 1))),(.call 0 0 [(.get (.fld (.tok 0) 3) (.tok 2)),(.tok 3)])]))) (.leaf [(.tok 3)]))))
theorem ql3(g0:GfZ):CdZ [(jt,g0)] qpg jt Try.f92 q7t:=fun cd h=>by injection h with h;subst h;kernel_rfl
theorem qp2{g0 g:GfZ}(h0:FOk jt g0)(h:HgZ q7t jt [(jt,g0)] g):FOk jt g:=yl (ql3 g0) (.cons h0 .nil) rfl rfl qbn (by decide) h
def j1:Ct:=⟨66,[.val (.st 23)],[(.int .i64,false)],[],none,[],[]⟩
theorem qpn:EnZ j1:=fun _ _=>by kernel_rfl
def qut:Ann:=⟨[0,1,2,3,4],[]⟩
def q9y:Tree:=(.need [(.ok 0 [(.tok 0),(.lit (.i 2001))])] (.need [(.rng .i64 (.sub (.lit (.i 2001)) (.call 0 0 [(.tok 0),(.lit (.i 2001))])))] (.leaf [(.sub (.lit (.i 2001)) (.call 0 0 [(.tok 0),(.lit (.i 2001))]))])))
theorem qrl(g0:GfZ):CdZ [(jt,g0)] qut j1 Try.f66 q9y:=fun cd h=>by injection h with h;subst h;kernel_rfl
theorem qvn{g0 g:GfZ}(h0:FOk jt g0)(h:HgZ q9y j1 [(jt,g0)] g):FOk j1 g:=yl (qrl g0) (.cons h0 .nil) rfl rfl qpn (by decide) h
def jp:Ct:=⟨68,[.val (.st 23)],[(.bool,false)],[],none,[],[]⟩
theorem qe9:EnZ jp:=fun _ _=>by kernel_rfl
def qvq:Ann:=⟨[0,1,2,3,4,6,7,28,39,56,86],[(12,⟨[(3,.bool,false),(4,.int .i64,false)],[],[79,80,81,82,83,84,85,86,89,90,91,92,93,94,87,88],[]⟩)]⟩
def qag:Tree:=
 let b:X:=.add (.tok 2) (.lit (.i 1))
 let c:X:=.lit (.i 0)
 let j:X:=.tok 0
 let o:X:=.tok 1
 let a:X:=.fld j 3
 let f:X:=.and (.eq (.fld j 1) c) (.le (.slen (.fld j 2)) (.lit (.i 100)))
 let h:X:=.le c (.tok 2)
 let k:X:=.rng .i64 b
 let m:X:=.eq (.fld j 2) (.lit (.s ⟨#[]⟩))
 let p:X:=.fld j 0
 let d:X:=.lt (.tok 2) (.len a)
 let e:X:=.get a (.tok 2)
 let n:X:=.eq (.len a) c
 let g:X:=.and d o
 let i:X:=.call 0 0 [e]
 let l:X:=.ok 0 [e]
 (.br (.eq p c) (.loop 12 1 [(.and (.and (.and (.le c (.fld j 1)) (.le (.fld j 1) (.lit (.i 1099511627776)))) m) n),c] (.br g (.need [h,d,l] (.need [k] (.back 12 [i,b]))) (.leaf [o]))) (.br (.eq p (.lit (.i 1))) (.loop 12 1 [(.and m n),c] (.br g (.need [h,d,l] (.need [k] (.back 12 [i,b]))) (.leaf [o]))) (.br (.eq p (.lit (.i 2))) (.loop 12 1 [(.and f n),c] (.br g (.need [h,d,l] (.need [k] (.back 12 [i,b]))) (.leaf [o]))) (.br (.eq p (.lit (.i 3))) (.loop 12 1 [(.and (.and f (.lt c (.len a))) (.le (.len a) (.lit (.i 8)))),c] (.br g (.need [h,d,l] (.need [k] (.back 12 [i,b]))) (.leaf [o]))) (.loop 12 1 [(.lit (.b .false)),c] (.br g (.need [h,d,l] (.need [k] (.back 12 [i,b]))) (.leaf [o])))))))
theorem qr2(g0:GfZ):CdZ [(jp,g0)] qvq jp Try.f68 qag:=fun cd h=>by injection h with h;subst h;kernel_rfl
theorem qvk{g0 g:GfZ}(h0:FOk jp g0)(h:HgZ qag jp [(jp,g0)] g):FOk jp g:=yl (qr2 g0) (.cons h0 .nil) rfl rfl qe9 (by decide) h
def zd:Ct:=⟨41,[.val (.st 23)],[(.bool,false)],[],none,[],[]⟩
theorem qmx:EnZ zd:=fun _ _=>by kernel_rfl
def qry:Ann:=⟨[0,1,2],[]⟩
def q99:Tree:=(.need [(.ok 0 [(.tok 0)]),(.imp (.le (.call 0 0 [(.tok 0)]) (.lit (.i 2000))) (.ok 1 [(.tok 0)]))] (.leaf [(.and (.le (.call 0 0 [(.tok 0)]) (.lit (.i 2000))) (.call 1 0 [(.tok 0)]))]))
theorem qnv(g0 g1:GfZ):CdZ [(j1,g0),(jp,g1)] qry zd Try.f41 q99:=fun cd h=>by injection h with h;subst h;kernel_rfl
theorem qsq{g0 g1 g:GfZ}(h0:FOk j1 g0)(h1:FOk jp g1)(h:HgZ q99 zd [(j1,g0),(jp,g1)] g):FOk zd g:=yl (qnv g0 g1) (.cons h0 (.cons h1 .nil)) rfl rfl qmx (by decide) h
def ja:Ct:=⟨42,[.val (.st 23)],[(.bool,false)],[],none,[],[]⟩
theorem qgn:EnZ ja:=fun _ _=>by kernel_rfl
def qjv:Ann:=⟨[0,1,2],[]⟩
def q5q:Tree:=(.leaf [(.or (.eq (.fld (.tok 0) 0) (.lit (.i 2))) (.eq (.fld (.tok 0) 0) (.lit (.i 3))))])
theorem qif:CdZ [] qjv ja Try.f42 q5q:=fun cd h=>by injection h with h;subst h;kernel_rfl
theorem qj2{g:GfZ}(h:HgZ q5q ja [] g):FOk ja g:=yl (qif) .nil rfl rfl qgn (by decide) h
def q31:Ct:=⟨43,[.val (.st 25)],[(.bool,false)],[],none,[],[]⟩
theorem qp3:EnZ q31:=fun _ _=>by kernel_rfl
def qv2:Ann:=⟨[0,1,2],[]⟩
def qar:Tree:=(.need [(.ok 0 [(.fld (.tok 0) 1)]),(.rng .i64 (.add (.call 0 0 [(.fld (.tok 0) 0)]) (.call 0 0 [(.fld (.tok 0) 1)]))),(.ok 0 [(.fld (.tok 0) 0)])] (.leaf [(.le (.add (.call 0 0 [(.fld (.tok 0) 0)]) (.call 0 0 [(.fld (.tok 0) 1)])) (.lit (.i 2000)))]))
theorem qtg(g0:GfZ):CdZ [(j1,g0)] qv2 q31 Try.f43 qar:=fun cd h=>by injection h with h;subst h;kernel_rfl
theorem qvg{g0 g:GfZ}(h0:FOk j1 g0)(h:HgZ qar q31 [(j1,g0)] g):FOk q31 g:=yl (qtg g0) (.cons h0 .nil) rfl rfl qp3 (by decide) h
def jy:Ct:=⟨95,[.val (.st 23)],[(.bool,false)],[],none,[],[]⟩
theorem qk0:EnZ jy:=fun _ _=>by kernel_rfl
def qoz:Ann:=⟨[0,1,2],[]⟩
def q82:Tree:=(.leaf [(.and (.and (.eq (.fld (.tok 0) 0) (.lit (.i 3))) (.eq (.len (.fld (.tok 0) 3)) (.lit (.i 2)))) (.or (.or (.eq (.fld (.tok 0) 2) (.lit (.s ⟨#[44]⟩))) (.eq (.fld (.tok 0) 2) (.lit (.s ⟨#[59]⟩)))) (.eq (.fld (.tok 0) 2) (.lit (.s ⟨#[45,62]⟩)))))])
theorem qmg:CdZ [] qoz jy Try.f95 q82:=fun cd h=>by injection h with h;subst h;kernel_rfl
theorem qor{g:GfZ}(h:HgZ q82 jy [] g):FOk jy g:=yl (qmg) .nil rfl rfl qk0 (by decide) h
def q0w:Ct:=⟨48,[.val (.st 23)],[(.st 23,false)],[],none,[],[]⟩
theorem qh8:EnZ q0w:=fun _ _=>by kernel_rfl
def qkw:Ann:=⟨[0,1,2],[]⟩
def q6q:Tree:=(.leaf [(.tok 0)])
theorem qk9:CdZ [] qkw q0w Try.f48 q6q:=fun cd h=>by injection h with h;subst h;kernel_rfl
theorem ql4{g:GfZ}(h:HgZ q6q q0w [] g):FOk q0w g:=yl (qk9) .nil rfl rfl qh8 (by decide) h
def q0b:Ct:=⟨47,[.val (.st 23),.fn 48 []],[(.st 23,false)],[],none,[],[]⟩
theorem qd8:EnZ q0b:=fun _ _=>by kernel_rfl
def qse:Ann:=⟨[0,1,2,4,5,7,10,22,23,24,25],[(5,⟨[(24,.int .i64,false)],[5],[25,26,27,7,28,29,30,31,32,33,34,35,36],[]⟩)]⟩
def q98:Tree:=(.br (.eq (.fld (.tok 0) 0) (.lit (.i 0))) (.need [(.ok 0 [(.tok 0)])] (.leaf [(.call 0 0 [(.tok 0)])])) (.loop 5 1 [(.lit (.i 0)),(.set (.set (.set (.lit (.a [(.i 0),(.i 0),(.s ⟨#[]⟩),(.r [])])) 0 (.fld (.tok 0) 0)) 1 (.fld (.tok 0) 1)) 2 (.fld (.tok 0) 2))] (.br (.lt (.tok 1) (.len (.fld (.tok 0) 3))) (.need [(.le (.lit (.i 0)) (.tok 1)),(.lt (.tok 1) (.len (.fld (.tok 0) 3)))] (.need [(.le (.add (.len (.fld (.tok 2) 3)) (.lit (.i 1))) (.lit (.i 2513169434843))),(.ok 1 [(.get (.fld (.tok 0) 3) (.tok 1))])] (.need [(.rng .i64 (.add (.tok 1) (.lit (.i 1))))] (.back 5 [(.add (.tok 1) (.lit (.i 1))),(.set (.tok 2) 3 (.app (.fld (.tok 2) 3) (.row [(.call 1 0 [(.get (.fld (.tok 0) 3) (.tok 1))])])))])))) (.leaf [(.tok 2)]))))
theorem qox(g0 g1:GfZ):CdZ [(q0w,g0),(q0b,g1)] qse q0b uF q98:=fun cd h=>by injection h with h;subst h;kernel_rfl
theorem qso{g0 g1 g:GfZ}(h0:FOk q0w g0)(h1:FOk q0b g1)(h:HgZ q98 q0b [(q0w,g0),(q0b,g1)] g):FOk q0b g:=yl (qox g0 g1) (.cons h0 (.cons h1 .nil)) rfl rfl qd8 (by decide) h
def j3:Ct:=⟨19,[.val (.st 23)],[(.st 23,false)],[],none,[],[]⟩
theorem qlg:EnZ j3:=fun _ _=>by kernel_rfl
def qsu:Ann:=⟨[0,1,2,5],[]⟩
def q8z:Tree:=(.need [(.ok 0 [(.tok 0)])] (.br (.not (.call 0 0 [(.tok 0)])) (.leaf [(.lit (.a [(.i 0),(.i 0),(.s ⟨#[]⟩),(.r [])]))]) (.need [(.ok 1 [(.tok 0)])] (.leaf [(.call 1 0 [(.tok 0)])]))))
theorem qpo(g0 g1:GfZ):CdZ [(zd,g0),(q0b,g1)] qsu j3 Try.f19 q8z:=fun cd h=>by injection h with h;subst h;kernel_rfl
theorem qtn{g0 g1 g:GfZ}(h0:FOk zd g0)(h1:FOk q0b g1)(h:HgZ q8z j3 [(zd,g0),(q0b,g1)] g):FOk j3 g:=yl (qpo g0 g1) (.cons h0 (.cons h1 .nil)) rfl rfl qlg (by decide) h
def q0r:Ct:=⟨94,[.val (.st 23)],[(.st 23,false)],[],some 113,[],[]⟩
theorem q77:EnZ q0r:=fun _ _=>by kernel_rfl
def qau:Ann:=⟨[0,1,2,3,10,27],[]⟩
def q91:Tree:=(.br (.eq (.fld (.tok 0) 0) (.lit (.i 0))) (.leaf [(.set (.set (.set (.lit (.a [(.i 0),(.i 0),(.s ⟨#[]⟩),(.r [])])) 0 (.lit (.i 3))) 2 (.lit (.s ⟨#[99,97,108,108]⟩))) 3 (.row [(.tok 0)]))]) (.need [(.ok 0 [(.tok 0)])] (.br (.call 0 0 [(.tok 0)]) (.need [(.ok 1 [(.get (.fld (.tok 0) 3) (.lit (.i 1)))]),(.ok 1 [(.get (.fld (.tok 0) 3) (.lit (.i 0)))]),(.lit (.b .true)),(.lt (.lit (.i 1)) (.len (.fld (.tok 0) 3))),(.lit (.b .true)),(.lt (.lit (.i 0)) (.len (.fld (.tok 0) 3)))] (.leaf [(.set (.set (.set (.lit (.a [(.i 0),(.i 0),(.s ⟨#[]⟩),(.r [])])) 0 (.lit (.i 3))) 2 (.fld (.tok 0) 2)) 3 (.row [(.call 1 0 [(.get (.fld (.tok 0) 3) (.lit (.i 0)))]),(.call 1 0 [(.get (.fld (.tok 0) 3) (.lit (.i 1)))])]))])) (.need [(.ok 2 [(.tok 0)])] (.br (.call 2 0 [(.tok 0)]) (.need [(.ok 3 [(.tok 0)])] (.leaf [(.call 3 0 [(.tok 0)])])) (.leaf [(.lit .u)]))))))
theorem qdz(g0 g1 g2 g3:GfZ):CdZ [(jy,g0),(q0r,g1),(ja,g2),(j3,g3)] qau q0r Try.f94 q91:=fun cd h=>by injection h with h;subst h;kernel_rfl
def jo:Ct:=⟨44,[.val (.st 23)],[(.st 23,false),(.bool,false)],[],none,[],[]⟩
theorem qoc:EnZ jo:=fun _ _=>by kernel_rfl
def q2u:Ct:=⟨69,[.val (.st 23)],[(.st 23,false),(.bool,false)],[],none,[],[]⟩
theorem qhm:EnZ q2u:=fun _ _=>by kernel_rfl
def qv8:Ann:=⟨[0,1,2,3,6,19],[]⟩
def qal:Tree:=(.need [(.ok 0 [(.tok 0)])] (.br (.not (.call 0 0 [(.tok 0)])) (.leaf [(.lit (.a [(.i 0),(.i 0),(.s ⟨#[]⟩),(.r [])])),(.lit (.b .false))]) (.need [(.ok 1 [(.tok 0)])] (.need [(.imp (.not (.not (.call 1 1 [(.tok 0)]))) (.ok 2 [(.call 1 0 [(.tok 0)])]))] (.br (.or (.not (.call 1 1 [(.tok 0)])) (.lt (.lit (.i 2000)) (.call 2 0 [(.call 1 0 [(.tok 0)])]))) (.leaf [(.lit (.a [(.i 0),(.i 0),(.s ⟨#[]⟩),(.r [])])),(.lit (.b .false))]) (.leaf [(.call 1 0 [(.tok 0)]),(.lit (.b .true))]))))))
theorem qrg(g0 g1 g2:GfZ):CdZ [(zd,g0),(q2u,g1),(j1,g2)] qv8 jo Try.f44 qal:=fun cd h=>by injection h with h;subst h;kernel_rfl
theorem qui{g0 g1 g2 g:GfZ}(h0:FOk zd g0)(h1:FOk q2u g1)(h2:FOk j1 g2)(h:HgZ qal jo [(zd,g0),(q2u,g1),(j1,g2)] g):FOk jo g:=yl (qrg g0 g1 g2) (.cons h0 (.cons h1 (.cons h2 .nil))) rfl rfl qoc (by decide) h
def yy:Ct:=⟨67,[.val (.st 23),.val (.st 23)],[(.bool,false)],[],none,[],[]⟩
theorem q8j:EnZ yy:=fun _ _=>by kernel_rfl
def qhg:Ann:=⟨[0,1,2,3,4,5,6,34,36,37,38,39,50],[(4,⟨[(4,.bool,false),(38,.int .i64,false)],[],[39,40,41,42,6,5,43,44,45,46,47,48,49,50,51],[]⟩)]⟩
def q59:Tree:=(.br (.or (.or (.or (.not (.eq (.fld (.tok 0) 0) (.fld (.tok 1) 0))) (.not (.eq (.fld (.tok 0) 1) (.fld (.tok 1) 1)))) (.not (.eq (.fld (.tok 0) 2) (.fld (.tok 1) 2)))) (.not (.eq (.len (.fld (.tok 0) 3)) (.len (.fld (.tok 1) 3))))) (.leaf [(.lit (.b .false))]) (.loop 4 2 [(.lit (.b .false)),(.lit (.i 0))] (.br (.lt (.tok 3) (.len (.fld (.tok 0) 3))) (.need [(.le (.lit (.i 0)) (.tok 3)),(.lt (.tok 3) (.len (.fld (.tok 0) 3)))] (.need [(.ok 0 [(.get (.fld (.tok 0) 3) (.tok 3)),(.get (.fld (.tok 1) 3) (.tok 3))]),(.le (.lit (.i 0)) (.tok 3)),(.lt (.tok 3) (.len (.fld (.tok 1) 3)))] (.br (.not (.call 0 0 [(.get (.fld (.tok 0) 3) (.tok 3)),(.get (.fld (.tok 1) 3) (.tok 3))])) (.leaf [(.lit (.b .false))]) (.need [(.rng .i64 (.add (.tok 3) (.lit (.i 1))))] (.back 4 [(.tok 2),(.add (.tok 3) (.lit (.i 1)))]))))) (.leaf [(.lit (.b .true))]))))
theorem qgf(g0:GfZ):CdZ [(yy,g0)] qhg yy Try.f67 q59:=fun cd h=>by injection h with h;subst h;kernel_rfl
theorem qhj{g0 g:GfZ}(h0:FOk yy g0)(h:HgZ q59 yy [(yy,g0)] g):FOk yy g:=yl (qgf g0) (.cons h0 .nil) rfl rfl q8j (by decide) h
def jn:Ct:=⟨37,[.val (.st 23),.val (.st 23)],[(.bool,false)],[],none,[],[]⟩
theorem qpq:EnZ jn:=fun _ _=>by kernel_rfl
def qun:Ann:=⟨[0,1,2,3,4],[]⟩
def qaa:Tree:=(.need [(.ok 0 [(.tok 0)]),(.imp (.call 0 0 [(.tok 0)]) (.ok 0 [(.tok 1)])),(.imp (.and (.call 0 0 [(.tok 0)]) (.call 0 0 [(.tok 1)])) (.ok 1 [(.tok 0),(.tok 1)]))] (.leaf [(.and (.and (.call 0 0 [(.tok 0)]) (.call 0 0 [(.tok 1)])) (.call 1 0 [(.tok 0),(.tok 1)]))]))
theorem qs2(g0 g1:GfZ):CdZ [(zd,g0),(yy,g1)] qun jn Try.f37 qaa:=fun cd h=>by injection h with h;subst h;kernel_rfl
theorem qv3{g0 g1 g:GfZ}(h0:FOk zd g0)(h1:FOk yy g1)(h:HgZ qaa jn [(zd,g0),(yy,g1)] g):FOk jn g:=yl (qs2 g0 g1) (.cons h0 (.cons h1 .nil)) rfl rfl qpq (by decide) h
def yx:Ct:=⟨70,[.val (.st 23),.mref (.map 2 2)],[(.st 23,false)],[],none,[],[]⟩
theorem qbw:EnZ yx:=fun _ _=>by kernel_rfl
def qo1:Ann:=⟨[0,1,2,4,5,6,7,9,19,28,38,39,40,41],[(9,⟨[(40,.int .i64,false),(1,.map 2 2,false)],[5],[41,42,43,9,44,45,46,47,48,49,50,51,52,21,29,31],[]⟩)]⟩
def q3t:Tree:=
 let b:X:=.get (.fld (.tok 0) 3) (.tok 2)
 let c:X:=.lt (.tok 2) (.len (.fld (.tok 0) 3))
 let d:X:=.le (.add (.len (.fld (.tok 4) 3)) (.lit (.i 1))) (.lit (.i 2513169434843))
 let f:X:=.add (.tok 2) (.lit (.i 1))
 let g:X:=.lit (.i 0)
 let h:X:=.tok 3
 let i:X:=.tok 1
 let k:X:=.fld (.tok 0) 1
 let a:X:=.set (.set (.set (.lit (.a [(.i 0),(.i 0),(.s ⟨#[]⟩),(.r [])])) 0 (.fld (.tok 0) 0)) 1 k) 2 (.fld (.tok 0) 2)
 let e:X:=.set (.tok 4) 3 (.app (.fld (.tok 4) 3) (.row [(.call 0 0 [b,h])]))
 let j:X:=.call 0 1 [b,h]
 let l:X:=.le g (.tok 2)
 let m:X:=.ok 0 [b,h]
 let n:X:=.rng .i64 f
 (.br (.eq (.fld (.tok 0) 0) g) (.br (.not (.fn 1 [i,k])) (.need [(.rng .i64 (.fn 3 [i]))] (.loop 9 2 [g,(.fn 2 [i,k,(.fn 3 [i])]),(.set a 1 (.fn 3 [i]))] (.br c (.need [l,c] (.need [d,m] (.need [n] (.back 9 [f,j,e])))) (.leaf [(.tok 4),h])))) (.loop 9 2 [g,i,(.set a 1 (.fn 0 [i,k,g]))] (.br c (.need [l,c] (.need [d,m] (.need [n] (.back 9 [f,j,e])))) (.leaf [(.tok 4),h])))) (.loop 9 2 [g,i,a] (.br c (.need [l,c] (.need [d,m] (.need [n] (.back 9 [f,j,e])))) (.leaf [(.tok 4),h]))))
theorem qmy(g0:GfZ):CdZ [(yx,g0)] qo1 yx Try.f70 q3t:=fun cd h=>by injection h with h;subst h;kernel_rfl
theorem qob{g0 g:GfZ}(h0:FOk yx g0)(h:HgZ q3t yx [(yx,g0)] g):FOk yx g:=yl (qmy g0) (.cons h0 .nil) rfl rfl qbw (by decide) h
def q05:Ct:=⟨45,[.val (.st 25)],[(.st 25,true),(.int .i64,false)],[],none,[],[]⟩
theorem qf2:EnZ q05:=fun _ _=>by kernel_rfl
def qia:Ann:=⟨[0,1,2,3,4],[]⟩
def q5d:Tree:=(.need [(.ok 0 [(.fld (.tok 0) 0),(.lit (.mp []))])] (.need [(.ok 0 [(.fld (.tok 0) 1),(.call 0 1 [(.fld (.tok 0) 0),(.lit (.mp []))])])] (.need [(.rng .i64 (.fn 3 [(.call 0 1 [(.fld (.tok 0) 1),(.call 0 1 [(.fld (.tok 0) 0),(.lit (.mp []))])])]))] (.leaf [(.set (.set (.lit (.a [(.a [(.i 0),(.i 0),(.s ⟨#[]⟩),(.r [])]),(.a [(.i 0),(.i 0),(.s ⟨#[]⟩),(.r [])])])) 0 (.call 0 0 [(.fld (.tok 0) 0),(.lit (.mp []))])) 1 (.call 0 0 [(.fld (.tok 0) 1),(.call 0 1 [(.fld (.tok 0) 0),(.lit (.mp []))])])),(.fn 3 [(.call 0 1 [(.fld (.tok 0) 1),(.call 0 1 [(.fld (.tok 0) 0),(.lit (.mp []))])])])]))))
theorem qgq(g0:GfZ):CdZ [(yx,g0)] qia q05 Try.f45 q5d:=fun cd h=>by injection h with h;subst h;kernel_rfl
theorem qi5{g0 g:GfZ}(h0:FOk yx g0)(h:HgZ q5d q05 [(yx,g0)] g):FOk q05 g:=yl (qgq g0) (.cons h0 .nil) rfl rfl qf2 (by decide) h
def q20:Ct:=⟨17,[.val (.st 25)],[(.bool,false)],[],none,[],[]⟩
theorem qmm:EnZ q20:=fun _ _=>by kernel_rfl
def qri:Ann:=⟨[0,1,2,3,4,5,20,35],[]⟩
def q00:Tree:=
 let a:X:=.tok 0
 let c:X:=.fld a 1
 let e:X:=.call 5 0 [a]
 let f:X:=.fld a 0
 let b:X:=.and (.le (.call 5 1 [a]) (.lit (.i 64))) (.call 4 0 [(.fld e 0),f])
 let d:X:=.or (.not (.call 0 0 [f])) (.not (.call 1 0 [f]))
 (.need [(.ok 0 [f]),(.imp (.not (.not (.call 0 0 [f]))) (.ok 1 [f])),(.imp (.not d) (.ok 2 [a]))] (.br (.or d (.not (.call 2 0 [a]))) (.leaf [(.lit (.b .false))]) (.need [(.ok 3 [c])] (.need [(.imp (.not (.not (.call 3 1 [c]))) (.ok 4 [(.call 3 0 [c]),c]))] (.br (.or (.not (.call 3 1 [c])) (.not (.call 4 0 [(.call 3 0 [c]),c]))) (.leaf [(.lit (.b .false))]) (.need [(.ok 5 [a])] (.need [(.imp (.le (.call 5 1 [a]) (.lit (.i 64))) (.ok 4 [(.fld e 0),f])),(.imp b (.ok 4 [(.fld e 1),c]))] (.leaf [(.and b (.call 4 0 [(.fld e 1),c]))]))))))))
theorem qpc(g0 g1 g2 g3 g4 g5:GfZ):CdZ [(zd,g0),(ja,g1),(q31,g2),(jo,g3),(jn,g4),(q05,g5)] qri q20 Try.f17 q00:=fun cd h=>by injection h with h;subst h;kernel_rfl
theorem qqn{g0 g1 g2 g3 g4 g5 g:GfZ}(h0:FOk zd g0)(h1:FOk ja g1)(h2:FOk q31 g2)(h3:FOk jo g3)(h4:FOk jn g4)(h5:FOk q05 g5)(h:HgZ q00 q20 [(zd,g0),(ja,g1),(q31,g2),(jo,g3),(jn,g4),(q05,g5)] g):FOk q20 g:=yl (qpc g0 g1 g2 g3 g4 g5) (.cons h0 (.cons h1 (.cons h2 (.cons h3 (.cons h4 (.cons h5 .nil)))))) rfl rfl qmm (by decide) h
def jw:Ct:=⟨71,[.val (.st 23),.ref (.map 2 3) true,.ref (.row 2) true],[(.st 23,false)],[],none,[],[]⟩
theorem qk7:EnZ jw:=fun _ _=>by kernel_rfl
def qp6:Ann:=⟨[0,1,2,3,4,9],[]⟩
def q7e:Tree:=(.br (.eq (.fn 0 [(.tok 1),(.fld (.tok 0) 1),(.lit (.i 0))]) (.lit (.i 0))) (.need [(.le (.add (.len (.tok 2)) (.lit (.i 1))) (.lit (.i 17592186043904)))] (.leaf [(.tok 0),(.fn 2 [(.tok 1),(.fld (.tok 0) 1),(.lit (.i 1))]),(.app (.tok 2) (.row [(.fld (.tok 0) 1)]))])) (.leaf [(.tok 0),(.tok 1),(.tok 2)]))
theorem qlc:CdZ [] qp6 jw Try.f71 q7e:=fun cd h=>by injection h with h;subst h;kernel_rfl
theorem qp0{g:GfZ}(h:HgZ q7e jw [] g):FOk jw g:=yl (qlc) .nil rfl rfl qk7 (by decide) h
def ji:Ct:=⟨47,[.val (.st 23),.fn 71 [2,3]],[(.st 23,false)],[(.cap 1 0,.ref (.map 2 3) true),(.cap 1 1,.ref (.row 2) true)],none,[],[]⟩
theorem qah:EnZ ji:=fun _ _=>by kernel_rfl
def qmd:Ann:=⟨[0,1,2,4,5,7,10,22,23,24,25],[(5,⟨[(24,.int .i64,false)],[5,100000,100001],[25,26,27,7,28,29,30,31,32,33,34,35,36],[]⟩)]⟩
def q64:Tree:=(.br (.eq (.fld (.tok 0) 0) (.lit (.i 0))) (.need [(.ok 0 [(.tok 0),(.tok 1),(.tok 2)])] (.leaf [(.call 0 0 [(.tok 0),(.tok 1),(.tok 2)]),(.call 0 1 [(.tok 0),(.tok 1),(.tok 2)]),(.call 0 2 [(.tok 0),(.tok 1),(.tok 2)])])) (.loop 5 3 [(.lit (.i 0)),(.set (.set (.set (.lit (.a [(.i 0),(.i 0),(.s ⟨#[]⟩),(.r [])])) 0 (.fld (.tok 0) 0)) 1 (.fld (.tok 0) 1)) 2 (.fld (.tok 0) 2)),(.tok 1),(.tok 2)] (.br (.lt (.tok 3) (.len (.fld (.tok 0) 3))) (.need [(.le (.lit (.i 0)) (.tok 3)),(.lt (.tok 3) (.len (.fld (.tok 0) 3)))] (.need [(.le (.add (.len (.fld (.tok 4) 3)) (.lit (.i 1))) (.lit (.i 2513169434843))),(.ok 1 [(.get (.fld (.tok 0) 3) (.tok 3)),(.tok 5),(.tok 6)])] (.need [(.rng .i64 (.add (.tok 3) (.lit (.i 1))))] (.back 5 [(.add (.tok 3) (.lit (.i 1))),(.set (.tok 4) 3 (.app (.fld (.tok 4) 3) (.row [(.call 1 0 [(.get (.fld (.tok 0) 3) (.tok 3)),(.tok 5),(.tok 6)])]))),(.call 1 1 [(.get (.fld (.tok 0) 3) (.tok 3)),(.tok 5),(.tok 6)]),(.call 1 2 [(.get (.fld (.tok 0) 3) (.tok 3)),(.tok 5),(.tok 6)])])))) (.leaf [(.tok 4),(.tok 5),(.tok 6)]))))
theorem qka(g0 g1:GfZ):CdZ [(jw,g0),(ji,g1)] qmd ji uF q64:=fun cd h=>by injection h with h;subst h;kernel_rfl
theorem ql8{g0 g1 g:GfZ}(h0:FOk jw g0)(h1:FOk ji g1)(h:HgZ q64 ji [(jw,g0),(ji,g1)] g):FOk ji g:=yl (qka g0 g1) (.cons h0 (.cons h1 .nil)) rfl rfl qah (by decide) h
def q0t:Ct:=⟨46,[.val (.st 23)],[(.row 2,true)],[],none,[],[]⟩
theorem qpf:EnZ q0t:=fun _ _=>by kernel_rfl
def qud:Ann:=⟨[0,1,2,3,4,7],[]⟩
def q6h:Tree:=(.need [(.ok 1 [(.tok 0)])] (.br (.not (.call 1 0 [(.tok 0)])) (.leaf [(.lit (.r []))]) (.need [(.ok 2 [(.tok 0),(.lit (.mp [])),(.lit (.r []))])] (.leaf [(.call 2 2 [(.tok 0),(.lit (.mp [])),(.lit (.r []))])]))))
theorem qqr(g0 g1 g2:GfZ):CdZ [(jw,g0),(zd,g1),(ji,g2)] qud q0t Try.f46 q6h:=fun cd h=>by injection h with h;subst h;kernel_rfl
theorem qva{g0 g1 g2 g:GfZ}(h0:FOk jw g0)(h1:FOk zd g1)(h2:FOk ji g2)(h:HgZ q6h q0t [(jw,g0),(zd,g1),(ji,g2)] g):FOk q0t g:=yl (qqr g0 g1 g2) (.cons h0 (.cons h1 (.cons h2 .nil))) rfl rfl qpf (by decide) h
def q0d:Ct:=⟨18,[.val (.row 24)],[(.int .i64,false)],[],none,[],[]⟩
theorem qkx:EnZ q0d:=fun _ _=>by kernel_rfl
def qsg:Ann:=⟨[0,2,3,5,7,8,9,10,11,15,16,17,18],[(3,⟨[(3,.int .i64,false),(10,.int .i64,false)],[],[11,12,13,5,14,15,16,17,18,19,20,7,21,22,23,24,25,26],[]⟩),
 (6,⟨[(3,.int .i64,false),(17,.int .i64,false)],[],[18,19,20,7,21,22,23,24,25],[]⟩)]⟩
def q90:Tree:=(.loop 3 1 [(.lit (.i 0)),(.lit (.i 0))] (.br (.lt (.tok 2) (.len (.tok 0))) (.need [(.le (.lit (.i 0)) (.tok 2)),(.lt (.tok 2) (.len (.tok 0)))] (.need [(.ok 0 [(.get (.tok 0) (.tok 2))])] (.loop 6 3 [(.tok 1),(.lit (.i 0))] (.br (.lt (.tok 4) (.len (.call 0 0 [(.get (.tok 0) (.tok 2))]))) (.need [(.le (.lit (.i 0)) (.tok 4)),(.lt (.tok 4) (.len (.call 0 0 [(.get (.tok 0) (.tok 2))])))] (.need [(.rng .i64 (.add (.get (.call 0 0 [(.get (.tok 0) (.tok 2))]) (.tok 4)) (.lit (.i 1))))] (.need [(.rng .i64 (.add (.tok 4) (.lit (.i 1))))] (.back 6 [(.ite (.lt (.tok 3) (.add (.get (.call 0 0 [(.get (.tok 0) (.tok 2))]) (.tok 4)) (.lit (.i 1)))) (.add (.get (.call 0 0 [(.get (.tok 0) (.tok 2))]) (.tok 4)) (.lit (.i 1))) (.tok 3)),(.add (.tok 4) (.lit (.i 1)))])))) (.need [(.rng .i64 (.add (.tok 2) (.lit (.i 1))))] (.back 3 [(.tok 3),(.add (.tok 2) (.lit (.i 1)))])))))) (.leaf [(.tok 1)])))
theorem qnm(g0:GfZ):CdZ [(q0t,g0)] qsg q0d Try.f18 q90:=fun cd h=>by injection h with h;subst h;kernel_rfl
theorem qs1{g0 g:GfZ}(h0:FOk q0t g0)(h:HgZ q90 q0d [(q0t,g0)] g):FOk q0d g:=yl (qnm g0) (.cons h0 .nil) rfl rfl qkx (by decide) h
def q0s:Ct:=⟨72,[.val (.st 23)],[(.bool,false)],[],none,[],[]⟩
theorem qe4:EnZ q0s:=fun _ _=>by kernel_rfl
def qvl:Ann:=⟨[0,1,2,3,10,14],[]⟩
def qa4:Tree:=(.br (.eq (.fld (.tok 0) 0) (.lit (.i 2))) (.leaf [(.eq (.fld (.tok 0) 2) (.lit (.s ⟨#[33]⟩)))]) (.need [(.ok 0 [(.tok 0)])] (.br (.not (.call 0 0 [(.tok 0)])) (.leaf [(.lit (.b .false))]) (.br (.eq (.fld (.tok 0) 2) (.lit (.s ⟨#[45,62]⟩))) (.need [(.lit (.b .true)),(.lt (.lit (.i 1)) (.len (.fld (.tok 0) 3))),(.ok 1 [(.get (.fld (.tok 0) 3) (.lit (.i 1)))])] (.leaf [(.call 1 0 [(.get (.fld (.tok 0) 3) (.lit (.i 1)))])])) (.need [(.lit (.b .true)),(.lt (.lit (.i 0)) (.len (.fld (.tok 0) 3))),(.ok 1 [(.get (.fld (.tok 0) 3) (.lit (.i 0)))]),(.imp (.not (.call 1 0 [(.get (.fld (.tok 0) 3) (.lit (.i 0)))])) (.lit (.b .true))),(.imp (.not (.call 1 0 [(.get (.fld (.tok 0) 3) (.lit (.i 0)))])) (.lt (.lit (.i 1)) (.len (.fld (.tok 0) 3)))),(.imp (.not (.call 1 0 [(.get (.fld (.tok 0) 3) (.lit (.i 0)))])) (.ok 1 [(.get (.fld (.tok 0) 3) (.lit (.i 1)))]))] (.leaf [(.or (.call 1 0 [(.get (.fld (.tok 0) 3) (.lit (.i 0)))]) (.call 1 0 [(.get (.fld (.tok 0) 3) (.lit (.i 1)))]))]))))))
theorem qrf(g0 g1:GfZ):CdZ [(jy,g0),(q0s,g1)] qvl q0s Try.f72 qa4:=fun cd h=>by injection h with h;subst h;kernel_rfl
theorem quv{g0 g1 g:GfZ}(h0:FOk jy g0)(h1:FOk q0s g1)(h:HgZ qa4 q0s [(jy,g0),(q0s,g1)] g):FOk q0s g:=yl (qrf g0 g1) (.cons h0 (.cons h1 .nil)) rfl rfl qe4 (by decide) h
def ye:Ct:=⟨49,[.val (.st 23)],[(.bool,false)],[],none,[],[]⟩
theorem qoq:EnZ ye:=fun _ _=>by kernel_rfl
def quw:Ann:=⟨[0,1,2],[]⟩
def qa9:Tree:=(.need [(.ok 0 [(.tok 0)]),(.imp (.call 0 0 [(.tok 0)]) (.ok 1 [(.tok 0)]))] (.leaf [(.and (.call 0 0 [(.tok 0)]) (.call 1 0 [(.tok 0)]))]))
theorem qt2(g0 g1:GfZ):CdZ [(zd,g0),(q0s,g1)] quw ye Try.f49 qa9:=fun cd h=>by injection h with h;subst h;kernel_rfl
theorem qv1{g0 g1 g:GfZ}(h0:FOk zd g0)(h1:FOk q0s g1)(h:HgZ qa9 ye [(zd,g0),(q0s,g1)] g):FOk ye g:=yl (qt2 g0 g1) (.cons h0 (.cons h1 .nil)) rfl rfl qoq (by decide) h
def jc:Ct:=⟨51,[.val (.int .i64),.val (.int .i64)],[(.st 41,false)],[],none,[],[]⟩
theorem qvj:EnZ jc:=fun _ _=>by kernel_rfl
def z1o:Ann:=⟨[0,1,4],[]⟩
def qdk:Tree:=(.leaf [(.set (.set (.lit (.a [(.i 0),(.a [(.s ⟨#[]⟩),(.i 0),(.i 0)]),(.r []),(.i 0)])) 0 (.tok 0)) 3 (.tok 1))])
theorem qz0:CdZ [] z1o jc Try.f51 qdk:=fun cd h=>by injection h with h;subst h;kernel_rfl
theorem z10{g:GfZ}(h:HgZ qdk jc [] g):FOk jc g:=yl (qz0) .nil rfl rfl qvj (by decide) h
def q2e:Ct:=⟨73,[.val (.st 23),.val (.str),.val (.int .i64)],[(.bool,false)],[],none,[],[]⟩
theorem qvp:EnZ q2e:=fun _ _=>by kernel_rfl
def z07:Ann:=⟨[0,1,2,3,6],[]⟩
def qdp:Tree:=(.leaf [(.and (.and (.or (.eq (.fld (.tok 0) 0) (.lit (.i 2))) (.eq (.fld (.tok 0) 0) (.lit (.i 3)))) (.eq (.fld (.tok 0) 2) (.tok 1))) (.eq (.len (.fld (.tok 0) 3)) (.tok 2)))])
theorem qzd:CdZ [] z07 q2e Try.f73 qdp:=fun cd h=>by injection h with h;subst h;kernel_rfl
theorem z23{g:GfZ}(h:HgZ qdp q2e [] g):FOk q2e g:=yl (qzd) .nil rfl rfl qvp (by decide) h
def q1g:Ct:=⟨102,[.val (.int .i64)],[(.bool,false)],[],none,[],[]⟩
theorem qkm:EnZ q1g:=fun _ _=>by kernel_rfl
def qo9:Ann:=⟨[0,2],[]⟩
def q7n:Tree:=(.leaf [(.and (.le (.lit (.i 0)) (.tok 0)) (.le (.tok 0) (.lit (.i 1099511627776))))])
theorem qlx:CdZ [] qo9 q1g Try.f102 q7n:=fun cd h=>by injection h with h;subst h;kernel_rfl
theorem qom{g:GfZ}(h:HgZ q7n q1g [] g):FOk q1g g:=yl (qlx) .nil rfl rfl qkm (by decide) h
def y8:Ct:=⟨78,[.val (.int .i64)],[(.st 23,false)],[],none,[],[]⟩
theorem qtr:EnZ y8:=fun _ _=>by kernel_rfl
def qzk:Ann:=⟨[0,2,5],[]⟩
def qc3:Tree:=(.need [(.ok 0 [(.tok 0)])] (.br (.not (.call 0 0 [(.tok 0)])) (.leaf [(.lit (.a [(.i 0),(.i 0),(.s ⟨#[]⟩),(.r [])]))]) (.leaf [(.set (.lit (.a [(.i 0),(.i 0),(.s ⟨#[]⟩),(.r [])])) 1 (.tok 0))])))
theorem qug(g0:GfZ):CdZ [(q1g,g0)] qzk y8 Try.f78 qc3:=fun cd h=>by injection h with h;subst h;kernel_rfl
theorem qy6{g0 g:GfZ}(h0:FOk q1g g0)(h:HgZ qc3 y8 [(q1g,g0)] g):FOk y8 g:=yl (qug g0) (.cons h0 .nil) rfl rfl qtr (by decide) h
def yg:Ct:=⟨64,[.val (.st 23)],[(.row 24,true)],[],none,[],[]⟩
theorem qod:EnZ yg:=fun _ _=>by kernel_rfl
def qvt:Ann:=⟨[0,1,2,4,6,7,8,9],[(2,⟨[(2,.row 24,false),(8,.int .i64,false)],[],[9,10,11,4,12,13,14,15,16,17],[]⟩)]⟩
def qa3:Tree:=(.need [(.ok 0 [(.tok 0)])] (.loop 2 1 [(.lit (.r [])),(.lit (.i 0))] (.br (.lt (.tok 2) (.len (.call 0 0 [(.tok 0)]))) (.need [(.le (.lit (.i 0)) (.tok 2)),(.lt (.tok 2) (.len (.call 0 0 [(.tok 0)])))] (.need [(.ok 1 [(.get (.call 0 0 [(.tok 0)]) (.tok 2))]),(.le (.add (.len (.tok 1)) (.lit (.i 1))) (.lit (.i 2513169434843)))] (.need [(.rng .i64 (.add (.tok 2) (.lit (.i 1))))] (.back 2 [(.app (.tok 1) (.row [(.call 1 0 [(.get (.call 0 0 [(.tok 0)]) (.tok 2))])])),(.add (.tok 2) (.lit (.i 1)))])))) (.leaf [(.tok 1)]))))
theorem qta(g0 g1:GfZ):CdZ [(q0t,g0),(y8,g1)] qvt yg Try.f64 qa3:=fun cd h=>by injection h with h;subst h;kernel_rfl
theorem qub{g0 g1 g:GfZ}(h0:FOk q0t g0)(h1:FOk y8 g1)(h:HgZ qa3 yg [(q0t,g0),(y8,g1)] g):FOk yg g:=yl (qta g0 g1) (.cons h0 (.cons h1 .nil)) rfl rfl qod (by decide) h
def z8:Ct:=⟨101,[.val (.row 24)],[(.row 24,false)],[],none,[],[]⟩
theorem qcv:EnZ z8:=fun _ _=>by kernel_rfl
def qeg:Ann:=⟨[0,2,4],[]⟩
def q6a:Tree:=(.amb (.tok 0) .false (.leaf [(.lit (.r []))]) (.need [(.le (.add (.lit (.i 0)) (.len (.tok 0))) (.lit (.i 2513169434843)))] (.leaf [(.app (.row []) (.tok 0))])))
theorem qdx:CdZ [] qeg z8 Try.f101 q6a:=fun cd h=>by injection h with h;subst h;kernel_rfl
theorem qek{g:GfZ}(h:HgZ q6a z8 [] g):FOk z8 g:=yl (qdx) .nil rfl rfl qcv (by decide) h
def yd:Ct:=⟨76,[.val (.st 34),.val (.row 24)],[(.st 41,false)],[],none,[],[]⟩
theorem qpk:EnZ yd:=fun _ _=>by kernel_rfl
def qve:Ann:=⟨[0,1,2,4,5,7,10,11,12,13],[(3,⟨[(12,.int .i64,false)],[5],[13,14,15,7,16,17,18,19,20,21,22,23],[]⟩)]⟩
def qb2:Tree:=(.loop 3 2 [(.lit (.i 0)),(.set (.set (.lit (.a [(.i 0),(.a [(.s ⟨#[]⟩),(.i 0),(.i 0)]),(.r []),(.i 0)])) 0 (.lit (.i 1))) 1 (.tok 0))] (.br (.lt (.tok 2) (.len (.tok 1))) (.need [(.le (.lit (.i 0)) (.tok 2)),(.lt (.tok 2) (.len (.tok 1)))] (.need [(.le (.add (.len (.fld (.tok 3) 2)) (.lit (.i 1))) (.lit (.i 2513169434843))),(.ok 0 [(.get (.tok 1) (.tok 2))])] (.need [(.rng .i64 (.add (.tok 2) (.lit (.i 1))))] (.back 3 [(.add (.tok 2) (.lit (.i 1))),(.set (.tok 3) 2 (.app (.fld (.tok 3) 2) (.row [(.call 0 0 [(.get (.tok 1) (.tok 2))])])))])))) (.leaf [(.tok 3)])))
theorem qrj(g0:GfZ):CdZ [(j3,g0)] qve yd Try.f76 qb2:=fun cd h=>by injection h with h;subst h;kernel_rfl
theorem qu9{g0 g:GfZ}(h0:FOk j3 g0)(h:HgZ qb2 yd [(j3,g0)] g):FOk yd g:=yl (qrj g0) (.cons h0 .nil) rfl rfl qpk (by decide) h
def zn:Ct:=⟨75,[.ref (.st 52) true,.cst (.st 99) (.a [.s ⟨#[59]⟩,.i 2,.i 96]),.val (.st 23),.val (.int .i64)],[(.st 41,false)],[],none,[],[]⟩
theorem q6w:EnZ zn:=fun _ _=>by kernel_rfl
def yi:Ct:=⟨96,[.ref (.st 52) true,.val (.st 23),.val (.int .i64)],[(.row 36,false)],[],none,[],[]⟩
theorem q94:EnZ yi:=fun _ _=>by kernel_rfl
def z5:Ct:=⟨100,[.ref (.st 49) true],[(.int .i64,false)],[],none,[],[]⟩
theorem q93:EnZ z5:=fun _ _=>by kernel_rfl
def q8a:Ann:=⟨[0,1,2,3,5,6,8,9,10,11,12,14,18,50,51,52,53],[(9,⟨[(12,.row 38,false),(52,.int .i64,false)],[],[53,54,55,14,56,57,58,59,60,61,62,63,64],[369,257]⟩)]⟩
def j9:Tree:=
 let h:X:=.lit (.i 1)
 let j:X:=.call 1 0 [(.tok 1)]
 let k:X:=.tok 4
 let l:X:=.lit (.i 0)
 let a:X:=.set (.tok 0) 0 (.set (.fld (.tok 0) 0) 1 (.add (.fld (.fld (.tok 0) 0) 1) h))
 let c:X:=.app j (.row [(.call 3 0 [(.tok 2)])])
 let d:X:=.set (.set (.lit (.a [(.s ⟨#[]⟩),(.i 0),(.i 0)])) 1 (.len j)) 2 (.fld (.fld (.tok 0) 0) 1)
 let m:X:=.le (.add (.len (.tok 3)) h) (.lit (.i 1759218604390))
 let n:X:=.rng .i64 (.add (.fld (.fld (.tok 0) 0) 1) h)
 let s:X:=.add k h
 let b:X:=.set a 2 (.app (.fld a 2) (.row [(.lit .u)]))
 let e:X:=.set (.set (.lit (.a [(.s ⟨#[]⟩),(.i 0),(.i 0)])) 1 (.len c)) 2 (.fld (.fld (.tok 0) 0) 1)
 let i:X:=.len (.fld a 2)
 let f:X:=.call 0 0 [b,(.tok 1),(.tok 2)]
 let g:X:=.call 0 1 [b,(.tok 1),(.tok 2)]
 let p:X:=.le (.add i h) (.lit (.i 5864062014634))
 let r:X:=.ok 0 [b,(.tok 1),(.tok 2)]
 let o:X:=.lt k (.len f)
 let q:X:=.set g 2 (.put (.fld g 2) i (.tok 3))
 let t:X:=.lt i (.len (.fld g 2))
 (.need [(.ok 1 [(.tok 1)])] (.need [(.ok 2 [(.tok 1)])] (.br (.call 2 0 [(.tok 1)]) (.need [(.ok 3 [(.tok 2)]),(.le (.add (.len j) h) (.lit (.i 2513169434843)))] (.need [n] (.need [p] (.need [r] (.loop 9 3 [(.lit (.r [])),l] (.br o (.need [(.le l k),o] (.need [m,(.ok 5 [c])] (.need [(.rng .i64 s)] (.back 9 [(.app (.tok 3) (.row [(.mk [e,(.call 5 0 [c]),(.get f k)])])),s])))) (.need [(.le l i),t] (.need [(.ok 6 [e,c])] (.leaf [(.call 6 0 [e,c]),q]))))))))) (.need [n] (.need [p] (.need [r] (.loop 9 3 [(.lit (.r [])),l] (.br o (.need [(.le l k),o] (.need [m,(.ok 5 [j])] (.need [(.rng .i64 s)] (.back 9 [(.app (.tok 3) (.row [(.mk [d,(.call 5 0 [j]),(.get f k)])])),s])))) (.need [(.le l i),t] (.need [(.ok 6 [d,j])] (.leaf [(.call 6 0 [d,j]),q])))))))))))
theorem q84(g0 g1 g2 g3 g4 g5 g6:GfZ):CdZ [(yi,g0),(yg,g1),(ye,g2),(y8,g3),(z5,g4),(z8,g5),(yd,g6)] q8a zn uB j9:=fun cd h=>by injection h with h;subst h;kernel_rfl
theorem q8b{g0 g1 g2 g3 g4 g5 g6 g:GfZ}(h0:FOk yi g0)(h1:FOk yg g1)(h2:FOk ye g2)(h3:FOk y8 g3)(h4:FOk z5 g4)(h5:FOk z8 g5)(h6:FOk yd g6)(h:HgZ j9 zn [(yi,g0),(yg,g1),(ye,g2),(y8,g3),(z5,g4),(z8,g5),(yd,g6)] g):FOk zn g:=yl (q84 g0 g1 g2 g3 g4 g5 g6) (.cons h0 (.cons h1 (.cons h2 (.cons h3 (.cons h4 (.cons h5 (.cons h6 .nil))))))) rfl rfl q6w (by decide) h
def zk:Ct:=⟨105,[.ref (.st 52) true,.val (.st 23)],[(.row 42,true)],[],none,[],[]⟩
theorem q9q:EnZ zk:=fun _ _=>by kernel_rfl
def z7:Ct:=⟨50,[.ref (.st 49) true],[(.int .i64,false)],[],none,[],[]⟩
theorem q9m:EnZ z7:=fun _ _=>by kernel_rfl
def qd:Ct:=⟨52,[.ref (.st 52) true,.val (.st 23),.val (.int .i64)],[(.row 42,true)],[],none,[],[]⟩
theorem q4h:EnZ qd:=fun _ _=>by kernel_rfl
def qb7:Ann:=⟨[0,1,3,4,5,6],[]⟩
def q2g:Tree:=
 let a:X:=.fld (.fld (.tok 0) 0) 0
 let d:X:=.lit (.i 1)
 let e:X:=.lit (.i 1954687338211)
 let b:X:=.set (.tok 0) 0 (.set (.fld (.tok 0) 0) 0 (.add a d))
 let c:X:=.app (.row [(.call 1 0 [(.lit (.i 3)),a])]) (.call 2 0 [b,(.tok 1),a])
 (.need [(.rng .i64 (.add a d))] (.need [(.ok 1 [(.lit (.i 3)),a])] (.need [(.ok 2 [b,(.tok 1),a]),(.le (.add d (.len (.call 2 0 [b,(.tok 1),a]))) e)] (.need [(.ok 1 [(.lit (.i 4)),a]),(.le (.add (.len c) d) e)] (.leaf [(.app c (.row [(.call 1 0 [(.lit (.i 4)),a])])),(.call 2 1 [b,(.tok 1),a])])))))
theorem qab(g0 g1 g2:GfZ):CdZ [(z7,g0),(jc,g1),(qd,g2)] qb7 zk Try.f105 q2g:=fun cd h=>by injection h with h;subst h;kernel_rfl
theorem qb8{g0 g1 g2 g:GfZ}(h0:FOk z7 g0)(h1:FOk jc g1)(h2:FOk qd g2)(h:HgZ q2g zk [(z7,g0),(jc,g1),(qd,g2)] g):FOk zk g:=yl (qab g0 g1 g2) (.cons h0 (.cons h1 (.cons h2 .nil))) rfl rfl q9q (by decide) h
def yq:Ct:=⟨97,[.ref (.st 52) true,.val (.st 23),.val (.int .i64)],[(.row 36,false)],[],none,[],[]⟩
theorem qam:EnZ yq:=fun _ _=>by kernel_rfl
def qca:Ann:=⟨[0,1,2,4,6,7],[]⟩
def q2r:Tree:=(.need [(.lit (.b .true)),(.lt (.lit (.i 0)) (.len (.fld (.tok 1) 3))),(.ok 0 [(.tok 0),(.get (.fld (.tok 1) 3) (.lit (.i 0)))])] (.need [(.lit (.b .true)),(.lt (.lit (.i 1)) (.len (.fld (.tok 1) 3))),(.ok 1 [(.call 0 1 [(.tok 0),(.get (.fld (.tok 1) 3) (.lit (.i 0)))]),(.get (.fld (.tok 1) 3) (.lit (.i 1))),(.tok 2)]),(.le (.add (.len (.call 0 0 [(.tok 0),(.get (.fld (.tok 1) 3) (.lit (.i 0)))])) (.len (.call 1 0 [(.call 0 1 [(.tok 0),(.get (.fld (.tok 1) 3) (.lit (.i 0)))]),(.get (.fld (.tok 1) 3) (.lit (.i 1))),(.tok 2)]))) (.lit (.i 1954687338211)))] (.leaf [(.row [(.app (.call 0 0 [(.tok 0),(.get (.fld (.tok 1) 3) (.lit (.i 0)))]) (.call 1 0 [(.call 0 1 [(.tok 0),(.get (.fld (.tok 1) 3) (.lit (.i 0)))]),(.get (.fld (.tok 1) 3) (.lit (.i 1))),(.tok 2)]))]),(.call 1 1 [(.call 0 1 [(.tok 0),(.get (.fld (.tok 1) 3) (.lit (.i 0)))]),(.get (.fld (.tok 1) 3) (.lit (.i 1))),(.tok 2)])])))
theorem qbc(g0 g1:GfZ):CdZ [(zk,g0),(qd,g1)] qca yq Try.f97 q2r:=fun cd h=>by injection h with h;subst h;kernel_rfl
theorem qch{g0 g1 g:GfZ}(h0:FOk zk g0)(h1:FOk qd g1)(h:HgZ q2r yq [(zk,g0),(qd,g1)] g):FOk yq g:=yl (qbc g0 g1) (.cons h0 (.cons h1 .nil)) rfl rfl qam (by decide) h
def zz:Ct:=⟨75,[.ref (.st 52) true,.cst (.st 99) (.a [.s ⟨#[45,62]⟩,.i 2,.i 97]),.val (.st 23),.val (.int .i64)],[(.st 41,false)],[],none,[],[]⟩
theorem q6s:EnZ zz:=fun _ _=>by kernel_rfl
def q8g:Ann:=⟨[0,1,2,3,5,6,8,9,10,11,12,14,18,50,51,52,53],[(9,⟨[(12,.row 38,false),(52,.int .i64,false)],[],[53,54,55,14,56,57,58,59,60,61,62,63,64],[369,257]⟩)]⟩
def q3o:Tree:=
 let h:X:=.lit (.i 1)
 let j:X:=.call 1 0 [(.tok 1)]
 let k:X:=.tok 4
 let l:X:=.lit (.i 0)
 let a:X:=.set (.tok 0) 0 (.set (.fld (.tok 0) 0) 1 (.add (.fld (.fld (.tok 0) 0) 1) h))
 let c:X:=.app j (.row [(.call 3 0 [(.tok 2)])])
 let d:X:=.set (.set (.lit (.a [(.s ⟨#[]⟩),(.i 0),(.i 0)])) 1 (.len j)) 2 (.fld (.fld (.tok 0) 0) 1)
 let m:X:=.le (.add (.len (.tok 3)) h) (.lit (.i 1759218604390))
 let n:X:=.rng .i64 (.add (.fld (.fld (.tok 0) 0) 1) h)
 let s:X:=.add k h
 let b:X:=.set a 2 (.app (.fld a 2) (.row [(.lit .u)]))
 let e:X:=.set (.set (.lit (.a [(.s ⟨#[]⟩),(.i 0),(.i 0)])) 1 (.len c)) 2 (.fld (.fld (.tok 0) 0) 1)
 let i:X:=.len (.fld a 2)
 let f:X:=.call 0 0 [b,(.tok 1),(.tok 2)]
 let g:X:=.call 0 1 [b,(.tok 1),(.tok 2)]
 let p:X:=.le (.add i h) (.lit (.i 5864062014634))
 let r:X:=.ok 0 [b,(.tok 1),(.tok 2)]
 let o:X:=.lt k (.len f)
 let q:X:=.set g 2 (.put (.fld g 2) i (.tok 3))
 let t:X:=.lt i (.len (.fld g 2))
 (.need [(.ok 1 [(.tok 1)])] (.need [(.ok 2 [(.tok 1)])] (.br (.call 2 0 [(.tok 1)]) (.need [(.ok 3 [(.tok 2)]),(.le (.add (.len j) h) (.lit (.i 2513169434843)))] (.need [n] (.need [p] (.need [r] (.loop 9 3 [(.lit (.r [])),l] (.br o (.need [(.le l k),o] (.need [m,(.ok 5 [c])] (.need [(.rng .i64 s)] (.back 9 [(.app (.tok 3) (.row [(.mk [e,(.call 5 0 [c]),(.get f k)])])),s])))) (.need [(.le l i),t] (.need [(.ok 6 [e,c])] (.leaf [(.call 6 0 [e,c]),q]))))))))) (.need [n] (.need [p] (.need [r] (.loop 9 3 [(.lit (.r [])),l] (.br o (.need [(.le l k),o] (.need [m,(.ok 5 [j])] (.need [(.rng .i64 s)] (.back 9 [(.app (.tok 3) (.row [(.mk [d,(.call 5 0 [j]),(.get f k)])])),s])))) (.need [(.le l i),t] (.need [(.ok 6 [d,j])] (.leaf [(.call 6 0 [d,j]),q])))))))))))
theorem q7r(g0 g1 g2 g3 g4 g5 g6:GfZ):CdZ [(yq,g0),(yg,g1),(ye,g2),(y8,g3),(z5,g4),(z8,g5),(yd,g6)] q8g zz uB q3o:=fun cd h=>by injection h with h;subst h;kernel_rfl
theorem q8m{g0 g1 g2 g3 g4 g5 g6 g:GfZ}(h0:FOk yq g0)(h1:FOk yg g1)(h2:FOk ye g2)(h3:FOk y8 g3)(h4:FOk z5 g4)(h5:FOk z8 g5)(h6:FOk yd g6)(h:HgZ q3o zz [(yq,g0),(yg,g1),(ye,g2),(y8,g3),(z5,g4),(z8,g5),(yd,g6)] g):FOk zz g:=yl (q7r g0 g1 g2 g3 g4 g5 g6) (.cons h0 (.cons h1 (.cons h2 (.cons h3 (.cons h4 (.cons h5 (.cons h6 .nil))))))) rfl rfl q6s (by decide) h
def q0c:Ct:=⟨106,[.val (.st 23)],[(.st 23,false)],[],none,[],[]⟩
theorem qlr:EnZ q0c:=fun _ _=>by kernel_rfl
def qts:Ann:=⟨[0,1,2,3,4,10],[]⟩
def q8w:Tree:=(.need [(.ok 0 [(.tok 0)])] (.br (.call 0 1 [(.tok 0)]) (.leaf [(.call 0 0 [(.tok 0)])]) (.leaf [(.set (.set (.set (.lit (.a [(.i 0),(.i 0),(.s ⟨#[]⟩),(.r [])])) 0 (.lit (.i 3))) 2 (.lit (.s ⟨#[99,97,108,108]⟩))) 3 (.row [(.tok 0)]))])))
theorem qpt(g0:GfZ):CdZ [(jo,g0)] qts q0c Try.f106 q8w:=fun cd h=>by injection h with h;subst h;kernel_rfl
theorem qqu{g0 g:GfZ}(h0:FOk jo g0)(h:HgZ q8w q0c [(jo,g0)] g):FOk q0c g:=yl (qpt g0) (.cons h0 .nil) rfl rfl qlr (by decide) h
def j2:Ct:=⟨98,[.ref (.st 52) true,.val (.st 23),.val (.int .i64)],[(.row 36,false)],[],none,[],[]⟩
theorem qb9:EnZ j2:=fun _ _=>by kernel_rfl
def qcs:Ann:=⟨[0,1,2,4,6,7,8,9],[]⟩
def q32:Tree:=
 let d:X:=.fld (.fld (.tok 0) 0) 0
 let h:X:=.lit (.i 2)
 let i:X:=.lit (.i 0)
 let j:X:=.lit (.i 1954687338211)
 let a:X:=.set (.tok 0) 0 (.set (.fld (.tok 0) 0) 0 (.add d (.lit (.i 1))))
 let f:X:=.get (.fld (.tok 1) 3) i
 let c:X:=.fld (.fld a 0) 0
 let g:X:=.set a 0 (.set (.fld a 0) 0 (.add c (.lit (.i 1))))
 let b:X:=.call 3 0 [g,(.call 2 0 [f]),c]
 let e:X:=.app (.row [(.call 1 0 [h,d]),(.call 1 0 [(.lit (.i 3)),c])]) b
 (.need [(.rng .i64 (.add d (.lit (.i 1))))] (.need [(.rng .i64 (.add c (.lit (.i 1))))] (.need [(.ok 1 [h,d]),(.ok 1 [(.lit (.i 3)),c])] (.need [(.lit (.b .true)),(.lt i (.len (.fld (.tok 1) 3))),(.ok 2 [f]),(.ok 3 [g,(.call 2 0 [f]),c]),(.le (.add h (.len b)) j)] (.need [(.ok 1 [(.lit (.i 4)),d]),(.ok 1 [(.lit (.i 5)),i]),(.le (.add (.len e) h) j)] (.leaf [(.row [(.app e (.row [(.call 1 0 [(.lit (.i 4)),d]),(.call 1 0 [(.lit (.i 5)),i])])),(.lit (.r []))]),(.call 3 1 [g,(.call 2 0 [f]),c])]))))))
theorem qc9(g0 g1 g2 g3:GfZ):CdZ [(z7,g0),(jc,g1),(q0c,g2),(qd,g3)] qcs j2 Try.f98 q32:=fun cd h=>by injection h with h;subst h;kernel_rfl
theorem qco{g0 g1 g2 g3 g:GfZ}(h0:FOk z7 g0)(h1:FOk jc g1)(h2:FOk q0c g2)(h3:FOk qd g3)(h:HgZ q32 j2 [(z7,g0),(jc,g1),(q0c,g2),(qd,g3)] g):FOk j2 g:=yl (qc9 g0 g1 g2 g3) (.cons h0 (.cons h1 (.cons h2 (.cons h3 .nil)))) rfl rfl qb9 (by decide) h
def y2:Ct:=⟨75,[.ref (.st 52) true,.cst (.st 99) (.a [.s ⟨#[92,43]⟩,.i 1,.i 98]),.val (.st 23),.val (.int .i64)],[(.st 41,false)],[],none,[],[]⟩
theorem q6x:EnZ y2:=fun _ _=>by kernel_rfl
def q8n:Ann:=⟨[0,1,2,3,5,6,8,9,10,11,12,14,18,50,51,52,53],[(9,⟨[(12,.row 38,false),(52,.int .i64,false)],[],[53,54,55,14,56,57,58,59,60,61,62,63,64],[369,257]⟩)]⟩
def q3g:Tree:=
 let h:X:=.lit (.i 1)
 let j:X:=.call 1 0 [(.tok 1)]
 let k:X:=.tok 4
 let l:X:=.lit (.i 0)
 let a:X:=.set (.tok 0) 0 (.set (.fld (.tok 0) 0) 1 (.add (.fld (.fld (.tok 0) 0) 1) h))
 let c:X:=.app j (.row [(.call 3 0 [(.tok 2)])])
 let d:X:=.set (.set (.lit (.a [(.s ⟨#[]⟩),(.i 0),(.i 0)])) 1 (.len j)) 2 (.fld (.fld (.tok 0) 0) 1)
 let m:X:=.le (.add (.len (.tok 3)) h) (.lit (.i 1759218604390))
 let n:X:=.rng .i64 (.add (.fld (.fld (.tok 0) 0) 1) h)
 let s:X:=.add k h
 let b:X:=.set a 2 (.app (.fld a 2) (.row [(.lit .u)]))
 let e:X:=.set (.set (.lit (.a [(.s ⟨#[]⟩),(.i 0),(.i 0)])) 1 (.len c)) 2 (.fld (.fld (.tok 0) 0) 1)
 let i:X:=.len (.fld a 2)
 let f:X:=.call 0 0 [b,(.tok 1),(.tok 2)]
 let g:X:=.call 0 1 [b,(.tok 1),(.tok 2)]
 let p:X:=.le (.add i h) (.lit (.i 5864062014634))
 let r:X:=.ok 0 [b,(.tok 1),(.tok 2)]
 let o:X:=.lt k (.len f)
 let q:X:=.set g 2 (.put (.fld g 2) i (.tok 3))
 let t:X:=.lt i (.len (.fld g 2))
 (.need [(.ok 1 [(.tok 1)])] (.need [(.ok 2 [(.tok 1)])] (.br (.call 2 0 [(.tok 1)]) (.need [(.ok 3 [(.tok 2)]),(.le (.add (.len j) h) (.lit (.i 2513169434843)))] (.need [n] (.need [p] (.need [r] (.loop 9 3 [(.lit (.r [])),l] (.br o (.need [(.le l k),o] (.need [m,(.ok 5 [c])] (.need [(.rng .i64 s)] (.back 9 [(.app (.tok 3) (.row [(.mk [e,(.call 5 0 [c]),(.get f k)])])),s])))) (.need [(.le l i),t] (.need [(.ok 6 [e,c])] (.leaf [(.call 6 0 [e,c]),q]))))))))) (.need [n] (.need [p] (.need [r] (.loop 9 3 [(.lit (.r [])),l] (.br o (.need [(.le l k),o] (.need [m,(.ok 5 [j])] (.need [(.rng .i64 s)] (.back 9 [(.app (.tok 3) (.row [(.mk [d,(.call 5 0 [j]),(.get f k)])])),s])))) (.need [(.le l i),t] (.need [(.ok 6 [d,j])] (.leaf [(.call 6 0 [d,j]),q])))))))))))
theorem q7w(g0 g1 g2 g3 g4 g5 g6:GfZ):CdZ [(j2,g0),(yg,g1),(ye,g2),(y8,g3),(z5,g4),(z8,g5),(yd,g6)] q8n y2 uB q3g:=fun cd h=>by injection h with h;subst h;kernel_rfl
theorem q8p{g0 g1 g2 g3 g4 g5 g6 g:GfZ}(h0:FOk j2 g0)(h1:FOk yg g1)(h2:FOk ye g2)(h3:FOk y8 g3)(h4:FOk z5 g4)(h5:FOk z8 g5)(h6:FOk yd g6)(h:HgZ q3g y2 [(j2,g0),(yg,g1),(ye,g2),(y8,g3),(z5,g4),(z8,g5),(yd,g6)] g):FOk y2 g:=yl (q7w g0 g1 g2 g3 g4 g5 g6) (.cons h0 (.cons h1 (.cons h2 (.cons h3 (.cons h4 (.cons h5 (.cons h6 .nil))))))) rfl rfl q6x (by decide) h
def yr:Ct:=⟨99,[.ref (.st 52) true,.val (.st 23),.val (.int .i64)],[(.row 36,false)],[],none,[],[]⟩
theorem qa5:EnZ yr:=fun _ _=>by kernel_rfl
def qcg:Ann:=⟨[0,1,2,4,6],[]⟩
def q2o:Tree:=(.need [(.lit (.b .true)),(.lt (.lit (.i 0)) (.len (.fld (.tok 1) 3))),(.ok 0 [(.get (.fld (.tok 1) 3) (.lit (.i 0)))]),(.ok 1 [(.tok 0),(.call 0 0 [(.get (.fld (.tok 1) 3) (.lit (.i 0)))])])] (.leaf [(.row [(.call 1 0 [(.tok 0),(.call 0 0 [(.get (.fld (.tok 1) 3) (.lit (.i 0)))])])]),(.call 1 1 [(.tok 0),(.call 0 0 [(.get (.fld (.tok 1) 3) (.lit (.i 0)))])])]))
theorem qb5(g0 g1:GfZ):CdZ [(q0c,g0),(zk,g1)] qcg yr Try.f99 q2o:=fun cd h=>by injection h with h;subst h;kernel_rfl
theorem qcd{g0 g1 g:GfZ}(h0:FOk q0c g0)(h1:FOk zk g1)(h:HgZ q2o yr [(q0c,g0),(zk,g1)] g):FOk yr g:=yl (qb5 g0 g1) (.cons h0 (.cons h1 .nil)) rfl rfl qa5 (by decide) h
def zy:Ct:=⟨75,[.ref (.st 52) true,.cst (.st 99) (.a [.s ⟨#[111,110,99,101]⟩,.i 1,.i 99]),.val (.st 23),.val (.int .i64)],[(.st 41,false)],[],none,[],[]⟩
theorem q6u:EnZ zy:=fun _ _=>by kernel_rfl
def q89:Ann:=⟨[0,1,2,3,5,6,8,9,10,11,12,14,18,50,51,52,53],[(9,⟨[(12,.row 38,false),(52,.int .i64,false)],[],[53,54,55,14,56,57,58,59,60,61,62,63,64],[369,257]⟩)]⟩
def q3m:Tree:=
 let h:X:=.lit (.i 1)
 let j:X:=.call 1 0 [(.tok 1)]
 let k:X:=.tok 4
 let l:X:=.lit (.i 0)
 let a:X:=.set (.tok 0) 0 (.set (.fld (.tok 0) 0) 1 (.add (.fld (.fld (.tok 0) 0) 1) h))
 let c:X:=.app j (.row [(.call 3 0 [(.tok 2)])])
 let d:X:=.set (.set (.lit (.a [(.s ⟨#[]⟩),(.i 0),(.i 0)])) 1 (.len j)) 2 (.fld (.fld (.tok 0) 0) 1)
 let m:X:=.le (.add (.len (.tok 3)) h) (.lit (.i 1759218604390))
 let n:X:=.rng .i64 (.add (.fld (.fld (.tok 0) 0) 1) h)
 let s:X:=.add k h
 let b:X:=.set a 2 (.app (.fld a 2) (.row [(.lit .u)]))
 let e:X:=.set (.set (.lit (.a [(.s ⟨#[]⟩),(.i 0),(.i 0)])) 1 (.len c)) 2 (.fld (.fld (.tok 0) 0) 1)
 let i:X:=.len (.fld a 2)
 let f:X:=.call 0 0 [b,(.tok 1),(.tok 2)]
 let g:X:=.call 0 1 [b,(.tok 1),(.tok 2)]
 let p:X:=.le (.add i h) (.lit (.i 5864062014634))
 let r:X:=.ok 0 [b,(.tok 1),(.tok 2)]
 let o:X:=.lt k (.len f)
 let q:X:=.set g 2 (.put (.fld g 2) i (.tok 3))
 let t:X:=.lt i (.len (.fld g 2))
 (.need [(.ok 1 [(.tok 1)])] (.need [(.ok 2 [(.tok 1)])] (.br (.call 2 0 [(.tok 1)]) (.need [(.ok 3 [(.tok 2)]),(.le (.add (.len j) h) (.lit (.i 2513169434843)))] (.need [n] (.need [p] (.need [r] (.loop 9 3 [(.lit (.r [])),l] (.br o (.need [(.le l k),o] (.need [m,(.ok 5 [c])] (.need [(.rng .i64 s)] (.back 9 [(.app (.tok 3) (.row [(.mk [e,(.call 5 0 [c]),(.get f k)])])),s])))) (.need [(.le l i),t] (.need [(.ok 6 [e,c])] (.leaf [(.call 6 0 [e,c]),q]))))))))) (.need [n] (.need [p] (.need [r] (.loop 9 3 [(.lit (.r [])),l] (.br o (.need [(.le l k),o] (.need [m,(.ok 5 [j])] (.need [(.rng .i64 s)] (.back 9 [(.app (.tok 3) (.row [(.mk [d,(.call 5 0 [j]),(.get f k)])])),s])))) (.need [(.le l i),t] (.need [(.ok 6 [d,j])] (.leaf [(.call 6 0 [d,j]),q])))))))))))
theorem q7q(g0 g1 g2 g3 g4 g5 g6:GfZ):CdZ [(yr,g0),(yg,g1),(ye,g2),(y8,g3),(z5,g4),(z8,g5),(yd,g6)] q89 zy uB q3m:=fun cd h=>by injection h with h;subst h;kernel_rfl
theorem q8e{g0 g1 g2 g3 g4 g5 g6 g:GfZ}(h0:FOk yr g0)(h1:FOk yg g1)(h2:FOk ye g2)(h3:FOk y8 g3)(h4:FOk z5 g4)(h5:FOk z8 g5)(h6:FOk yd g6)(h:HgZ q3m zy [(yr,g0),(yg,g1),(ye,g2),(y8,g3),(z5,g4),(z8,g5),(yd,g6)] g):FOk zy g:=yl (q7q g0 g1 g2 g3 g4 g5 g6) (.cons h0 (.cons h1 (.cons h2 (.cons h3 (.cons h4 (.cons h5 (.cons h6 .nil))))))) rfl rfl q6u (by decide) h
def q21:Ct:=⟨77,[.val (.st 23)],[(.bool,false)],[],none,[],[]⟩
theorem ql6:EnZ q21:=fun _ _=>by kernel_rfl
def qsc:Ann:=⟨[0,1,2,3,8,9,11,19],[]⟩
def q8u:Tree:=
 let a:X:=.fld (.tok 0) 2
 let e:X:=.lit (.b .true)
 let i:X:=.len (.fld (.tok 0) 3)
 let b:X:=.not (.eq i (.lit (.i 3)))
 let c:X:=.not (.eq (.sget a (.lit (.i 0))) (.lit (.i 36)))
 let d:X:=.lt (.lit (.i 0)) (.slen a)
 let f:X:=.eq a (.lit (.s ⟨#[102,105,110,100,97,108,108]⟩))
 let g:X:=.eq a (.lit (.s ⟨#[98,97,103,111,102]⟩))
 let h:X:=.eq a (.lit (.s ⟨#[99,97,116,99,104]⟩))
 (.br (.eq a (.lit (.s ⟨#[]⟩))) (.leaf [e]) (.br (.eq a (.lit (.s ⟨#[99,97,108,108]⟩))) (.leaf [(.or (.lt i (.lit (.i 1))) (.lt (.lit (.i 8)) i))]) (.br h (.br h (.leaf [b]) (.need [e,d] (.leaf [c]))) (.br f (.br f (.leaf [b]) (.need [e,d] (.leaf [c]))) (.br g (.br g (.leaf [b]) (.need [e,d] (.leaf [c]))) (.br (.eq a (.lit (.s ⟨#[115,101,116,111,102]⟩))) (.leaf [b]) (.need [e,d] (.leaf [c]))))))))
theorem qnp:CdZ [] qsc q21 Try.f77 q8u:=fun cd h=>by injection h with h;subst h;kernel_rfl
theorem qtj{g:GfZ}(h:HgZ q8u q21 [] g):FOk q21 g:=yl (qnp) .nil rfl rfl ql6 (by decide) h
def qav:Ann:=⟨[0,1,2,4,6,7,8,9,10,16],[]⟩
def q1v:Tree:=
 let f:X:=.lit (.i 1)
 let g:X:=.fld (.tok 1) 3
 let h:X:=.tok 2
 let i:X:=.fld (.fld (.tok 0) 0) 0
 let k:X:=.lit (.b .true)
 let n:X:=.lit (.i 1954687338211)
 let r:X:=.lit (.i 0)
 let s:X:=.lit (.i 2)
 let u:X:=.lit (.s ⟨#[45,62]⟩)
 let a:X:=.set (.tok 0) 0 (.set (.fld (.tok 0) 0) 0 (.add i f))
 let b:X:=.get g r
 let p:X:=.get g f
 let l:X:=.fld (.fld a 0) 0
 let m:X:=.call 3 1 [(.tok 0),b,h]
 let t:X:=.fld b 3
 let c:X:=.set a 0 (.set (.fld a 0) 0 (.add l f))
 let j:X:=.get t f
 let d:X:=.app (.row [(.call 2 0 [s,i]),(.call 2 0 [(.lit (.i 3)),l])]) (.call 3 0 [c,(.get t r),l])
 let e:X:=.call 3 1 [c,(.get t r),l]
 let o:X:=.app d (.row [(.call 2 0 [(.lit (.i 4)),i])])
 let q:X:=.call 3 1 [e,j,h]
 (.need [k,(.lt r (.len g))] (.need [(.ok 0 [b,u,s])] (.br (.call 0 0 [b,u,s]) (.need [(.rng .i64 (.add i f))] (.need [(.rng .i64 (.add l f))] (.need [(.ok 2 [s,i]),(.ok 2 [(.lit (.i 3)),l]),k] (.need [k,(.lt r (.len t)),(.ok 3 [c,(.get t r),l]),(.le (.add s (.len (.call 3 0 [c,(.get t r),l]))) n)] (.need [(.ok 2 [(.lit (.i 4)),i]),(.le (.add (.len d) f) n)] (.need [k,(.lt f (.len t)),(.ok 3 [e,j,h]),(.le (.add (.len o) (.len (.call 3 0 [e,j,h]))) n)] (.need [k,(.lt f (.len g)),(.ok 3 [q,p,h])] (.leaf [(.row [(.app o (.call 3 0 [e,j,h])),(.call 3 0 [q,p,h])]),(.call 3 1 [q,p,h])])))))))) (.need [(.ok 3 [(.tok 0),b,h])] (.need [k,(.lt f (.len g)),(.ok 3 [m,p,h])] (.leaf [(.row [(.call 3 0 [(.tok 0),b,h]),(.call 3 0 [m,p,h])]),(.call 3 1 [m,p,h])]))))))
theorem q9r(g0 g1 g2 g3:GfZ):CdZ [(q2e,g0),(z7,g1),(jc,g2),(qd,g3)] qav yi Try.f96 q1v:=fun cd h=>by injection h with h;subst h;kernel_rfl
theorem qai{g0 g1 g2 g3 g:GfZ}(h0:FOk q2e g0)(h1:FOk z7 g1)(h2:FOk jc g2)(h3:FOk qd g3)(h:HgZ q1v yi [(q2e,g0),(z7,g1),(jc,g2),(qd,g3)] g):FOk yi g:=yl (q9r g0 g1 g2 g3) (.cons h0 (.cons h1 (.cons h2 (.cons h3 .nil)))) rfl rfl q94 (by decide) h
def qcb:Ann:=⟨[0,1,2,4,6,7,9,10,11,12,13,14,17,22,28,47,48,49,56,82],[]⟩
def q2q:Tree:=
 let a:X:=.row [(.lit (.a [(.s ⟨#[59]⟩),(.i 2),(.i 96)])),(.lit (.a [(.s ⟨#[45,62]⟩),(.i 2),(.i 97)])),(.lit (.a [(.s ⟨#[92,43]⟩),(.i 1),(.i 98)])),(.lit (.a [(.s ⟨#[111,110,99,101]⟩),(.i 1),(.i 99)]))]
 let b:X:=.tok 1
 let c:X:=.lit (.a [(.s ⟨#[]⟩),(.i 0),(.i 0)])
 let d:X:=.tok 0
 let e:X:=.lit (.i 0)
 let f:X:=.tok 2
 let h:X:=.lit (.b .true)
 let i:X:=.lit (.i 1)
 let k:X:=.lit (.i 2)
 let q:X:=.lit (.s ⟨#[116,114,117,101]⟩)
 let r:X:=.lit (.s ⟨#[102,97,105,108]⟩)
 let y:X:=.lit (.i 4)
 let z:X:=.lit (.s ⟨#[33]⟩)
 let g:X:=.fld b 3
 let n:X:=.get a (.lit (.i 3))
 let o:X:=.set (.set c 1 k) 2 (.lit (.i 1099511627775))
 let p:X:=.set (.set c 1 k) 2 (.lit (.i 1099511627776))
 let s:X:=.fld (.fld d 0) 0
 let v:X:=.get a e
 let w:X:=.get a i
 let x:X:=.get a k
 let j:X:=.row [(.call 9 0 [s]),b]
 let l:X:=.call 6 1 [d,(.get g e),f]
 let m:X:=.set (.set c 0 (.fld b 2)) 1 (.len g)
 let t:X:=.call 6 0 [d,(.get g e),f]
 let u:X:=.call 6 0 [l,(.get g i),f]
 (.need [(.ok 4 [b,q,e])] (.br (.call 4 0 [b,q,e]) (.leaf [(.lit (.r [])),d]) (.need [(.ok 4 [b,r,e])] (.br (.call 4 0 [b,r,e]) (.need [(.ok 5 [(.lit (.i 5)),e])] (.leaf [(.row [(.call 5 0 [(.lit (.i 5)),e])]),d])) (.need [(.ok 4 [b,z,e])] (.br (.call 4 0 [b,z,e]) (.need [(.ok 5 [y,f])] (.leaf [(.row [(.call 5 0 [y,f])]),d])) (.need [(.ok 4 [b,(.lit (.s ⟨#[44]⟩)),k])] (.br (.call 4 0 [b,(.lit (.s ⟨#[44]⟩)),k]) (.need [h,(.lt e (.len g)),(.ok 6 [d,(.get g e),f])] (.need [h,(.lt i (.len g)),(.ok 6 [l,(.get g i),f]),(.le (.add (.len t) (.len u)) (.lit (.i 1954687338211)))] (.leaf [(.app t u),(.call 6 1 [l,(.get g i),f])]))) (.need [h,h] (.need [(.ok 4 [b,(.fld v 0),(.fld v 1)])] (.br (.call 4 0 [b,(.fld v 0),(.fld v 1)]) (.need [(.ok 0 [d,b,f])] (.leaf [(.row [(.call 0 0 [d,b,f])]),(.call 0 1 [d,b,f])])) (.need [(.rng .i64 i)] (.need [h,h] (.need [(.ok 4 [b,(.fld w 0),(.fld w 1)])] (.br (.call 4 0 [b,(.fld w 0),(.fld w 1)]) (.need [(.ok 1 [d,b,f])] (.leaf [(.row [(.call 1 0 [d,b,f])]),(.call 1 1 [d,b,f])])) (.need [(.rng .i64 k)] (.need [h,h] (.need [(.ok 4 [b,(.fld x 0),(.fld x 1)])] (.br (.call 4 0 [b,(.fld x 0),(.fld x 1)]) (.need [(.ok 2 [d,b,f])] (.leaf [(.row [(.call 2 0 [d,b,f])]),(.call 2 1 [d,b,f])])) (.need [(.rng .i64 (.lit (.i 3)))] (.need [h,h] (.need [(.ok 4 [b,(.fld n 0),(.fld n 1)])] (.br (.call 4 0 [b,(.fld n 0),(.fld n 1)]) (.need [(.ok 3 [d,b,f])] (.leaf [(.row [(.call 3 0 [d,b,f])]),(.call 3 1 [d,b,f])])) (.need [(.rng .i64 y)] (.need [(.ok 7 [m,g])] (.need [(.imp (.not (.not (.fld d 1))) (.ok 8 [b]))] (.br (.or (.not (.fld d 1)) (.not (.call 8 0 [b]))) (.leaf [(.row [(.call 7 0 [m,g])]),d]) (.need [(.rng .i64 (.add s i)),(.ok 9 [s])] (.need [(.ok 7 [o,j]),(.ok 7 [p,j])] (.leaf [(.row [(.call 7 0 [p,j]),(.call 7 0 [m,g]),(.call 7 0 [o,j])]),(.set d 0 (.set (.fld d 0) 0 (.add s i)))]))))))))))))))))))))))))))))))
theorem qbi(g0 g1 g2 g3 g4 g5 g6 g7 g8 g9:GfZ):CdZ [(zn,g0),(zz,g1),(y2,g2),(zy,g3),(q2e,g4),(jc,g5),(qd,g6),(yd,g7),(q21,g8),(y8,g9)] qcb qd Try.f52 q2q:=fun cd h=>by injection h with h;subst h;kernel_rfl
theorem qc7{g0 g1 g2 g3 g4 g5 g6 g7 g8 g9 g:GfZ}(h0:FOk zn g0)(h1:FOk zz g1)(h2:FOk y2 g2)(h3:FOk zy g3)(h4:FOk q2e g4)(h5:FOk jc g5)(h6:FOk qd g6)(h7:FOk yd g7)(h8:FOk q21 g8)(h9:FOk y8 g9)(h:HgZ q2q qd [(zn,g0),(zz,g1),(y2,g2),(zy,g3),(q2e,g4),(jc,g5),(qd,g6),(yd,g7),(q21,g8),(y8,g9)] g):FOk qd g:=yl (qbi g0 g1 g2 g3 g4 g5 g6 g7 g8 g9) (.cons h0 (.cons h1 (.cons h2 (.cons h3 (.cons h4 (.cons h5 (.cons h6 (.cons h7 (.cons h8 (.cons h9 .nil)))))))))) rfl rfl q4h (by decide) h
def jl:Ct:=⟨79,[.nils,.val (.int .i64)],[(.row 38,true)],[],none,[],[]⟩
theorem qdm:EnZ jl:=fun _ _=>by kernel_rfl
def qes:Ann:=⟨[0,1,4,6,16],[]⟩
def q49:Tree:=(.br (.lt (.tok 0) (.lit (.i 0))) (.bad 2000) (.need [(.rng .i64 (.lit (.i 0))),(.rng .i64 (.sub (.tok 0) (.lit (.i 0))))] (.br (.lt (.lit (.i 0)) (.sub (.tok 0) (.lit (.i 0)))) (.need [(.le (.lit (.i 0)) (.sub (.tok 0) (.lit (.i 0)))),(.le (.sub (.tok 0) (.lit (.i 0))) (.lit (.i 16777216))),(.le (.add (.lit (.i 0)) (.sub (.tok 0) (.lit (.i 0)))) (.lit (.i 1759218604390))),(.lit (.b .true)),(.le (.lit (.i 0)) (.len (.app (.lit (.r [])) (.rep (.sub (.tok 0) (.lit (.i 0))) (.lit (.a [(.a [(.s ⟨#[]⟩),(.i 0),(.i 0)]),(.r []),(.r [])]))))))] (.leaf [(.cut (.app (.lit (.r [])) (.rep (.sub (.tok 0) (.lit (.i 0))) (.lit (.a [(.a [(.s ⟨#[]⟩),(.i 0),(.i 0)]),(.r []),(.r [])])))) (.lit (.i 0)) (.lit (.i 0)))])) (.leaf [(.lit (.r []))]))))
theorem qec:CdZ [] qes jl Try.f79 q49:=fun cd h=>by injection h with h;subst h;kernel_rfl
theorem qem{g:GfZ}(h:HgZ q49 jl [] g):FOk jl g:=yl (qec) .nil rfl rfl qdm (by decide) h
def j8:Ct:=⟨53,[.val (.row 27)],[(.row 38,true)],[],none,[],[]⟩
theorem qc6:EnZ j8:=fun _ _=>by kernel_rfl
def qdg:Ann:=⟨[0,2,3,5,6,8,9,10,11,12,20,25,26,27,28],[(3,⟨[(3,.int .i64,false),(11,.int .i64,false)],[],[12,13,14,5,15,16,17,18,19,20,21,22],[]⟩),
 (11,⟨[(6,.row 38,false),(27,.int .i64,false)],[],[28,29,30,8,31,32,33,34],[]⟩)]⟩
def q3k:Tree:=(.loop 3 1 [(.lit (.i 0)),(.lit (.i 0))] (.br (.lt (.tok 2) (.len (.tok 0))) (.need [(.le (.lit (.i 0)) (.tok 2)),(.lt (.tok 2) (.len (.tok 0)))] (.need [(.rng .i64 (.add (.tok 1) (.len (.get (.tok 0) (.tok 2)))))] (.br (.lt (.add (.tok 1) (.len (.get (.tok 0) (.tok 2)))) (.lit (.i 0))) (.bad 7000) (.need [(.rng .i64 (.add (.tok 2) (.lit (.i 1))))] (.back 3 [(.add (.tok 1) (.len (.get (.tok 0) (.tok 2)))),(.add (.tok 2) (.lit (.i 1)))]))))) (.need [(.ok 0 [(.tok 1)])] (.loop 11 3 [(.call 0 0 [(.tok 1)]),(.lit (.i 0))] (.br (.lt (.tok 4) (.len (.tok 0))) (.need [(.le (.lit (.i 0)) (.tok 4)),(.lt (.tok 4) (.len (.tok 0)))] (.need [(.le (.add (.len (.tok 3)) (.len (.get (.tok 0) (.tok 4)))) (.lit (.i 1759218604390)))] (.need [(.rng .i64 (.add (.tok 4) (.lit (.i 1))))] (.back 11 [(.app (.tok 3) (.get (.tok 0) (.tok 4))),(.add (.tok 4) (.lit (.i 1)))])))) (.leaf [(.tok 3)]))))))
theorem qd5(g0:GfZ):CdZ [(jl,g0)] qdg j8 Try.f53 q3k:=fun cd h=>by injection h with h;subst h;kernel_rfl
theorem qdt{g0 g:GfZ}(h0:FOk jl g0)(h:HgZ q3k j8 [(jl,g0)] g):FOk j8 g:=yl (qd5 g0) (.cons h0 .nil) rfl rfl qc6 (by decide) h
def q04:Ct:=⟨32,[.val (.st 34)],[(.bool,false)],[],none,[],[]⟩
theorem qf7:EnZ q04:=fun _ _=>by kernel_rfl
def qi0:Ann:=⟨[0,1,2,5],[]⟩
def q5a:Tree:=(.br (.eq (.fld (.tok 0) 2) (.lit (.i 0))) (.leaf [(.and (.and (.le (.slen (.fld (.tok 0) 0)) (.lit (.i 100))) (.le (.lit (.i 0)) (.fld (.tok 0) 1))) (.le (.fld (.tok 0) 1) (.lit (.i 8))))]) (.leaf [(.and (.and (.and (.and (.eq (.fld (.tok 0) 0) (.lit (.s ⟨#[]⟩))) (.le (.lit (.i 1)) (.fld (.tok 0) 2))) (.le (.fld (.tok 0) 2) (.lit (.i 1099511627776)))) (.le (.lit (.i 0)) (.fld (.tok 0) 1))) (.le (.fld (.tok 0) 1) (.lit (.i 4096))))]))
theorem qgm:CdZ [] qi0 q04 Try.f32 q5a:=fun cd h=>by injection h with h;subst h;kernel_rfl
theorem qi4{g:GfZ}(h:HgZ q5a q04 [] g):FOk q04 g:=yl (qgm) .nil rfl rfl qf7 (by decide) h
def q30:Ct:=⟨33,[.ref (.int .i64) true,.val (.row 24)],[(.bool,false)],[],none,[],[]⟩
theorem qo2:EnZ q30:=fun _ _=>by kernel_rfl
def quu:Ann:=⟨[0,1,4,6,7,8,9,10,15,26],[(2,⟨[(4,.bool,false),(9,.int .i64,false)],[0],[10,11,12,6,13,14,15,16,17,18,19,20,21,22,23,24,25,26,27],[]⟩)]⟩
def qa7:Tree:=(.loop 2 2 [(.lit (.b .false)),(.lit (.i 0)),(.tok 0)] (.br (.lt (.tok 3) (.len (.tok 1))) (.need [(.le (.lit (.i 0)) (.tok 3)),(.lt (.tok 3) (.len (.tok 1)))] (.need [(.ok 0 [(.get (.tok 1) (.tok 3))])] (.br (.not (.call 0 0 [(.get (.tok 1) (.tok 3))])) (.leaf [(.lit (.b .false)),(.tok 4)]) (.need [(.ok 1 [(.get (.tok 1) (.tok 3))]),(.rng .i64 (.sub (.tok 4) (.call 1 0 [(.get (.tok 1) (.tok 3))])))] (.br (.lt (.sub (.tok 4) (.call 1 0 [(.get (.tok 1) (.tok 3))])) (.lit (.i 0))) (.leaf [(.lit (.b .false)),(.sub (.tok 4) (.call 1 0 [(.get (.tok 1) (.tok 3))]))]) (.need [(.rng .i64 (.add (.tok 3) (.lit (.i 1))))] (.back 2 [(.tok 2),(.add (.tok 3) (.lit (.i 1))),(.sub (.tok 4) (.call 1 0 [(.get (.tok 1) (.tok 3))]))]))))))) (.leaf [(.lit (.b .true)),(.tok 4)])))
theorem qqd(g0 g1:GfZ):CdZ [(zd,g0),(j1,g1)] quu q30 Try.f33 qa7:=fun cd h=>by injection h with h;subst h;kernel_rfl
theorem qvi{g0 g1 g:GfZ}(h0:FOk zd g0)(h1:FOk j1 g1)(h:HgZ qa7 q30 [(zd,g0),(j1,g1)] g):FOk q30 g:=yl (qqd g0 g1) (.cons h0 (.cons h1 .nil)) rfl rfl qo2 (by decide) h
def q27:Ct:=⟨13,[.val (.st 37)],[(.bool,false)],[],none,[],[]⟩
theorem qlp:EnZ q27:=fun _ _=>by kernel_rfl
def qsr:Ann:=⟨[0,1,2,3,4,6,7,8,27,29,30,31,32,46,47,71,88,102,111],[(6,⟨[(4,.bool,false),(2,.bool,false),(31,.int .i64,false)],[3],[32,33,34,6,35,36,37,38,39,40,41,42,43,44,7,8,45,46,48,47,49,50,51,52,53,54,55,56,57,58,59,60,61,62,63,64,65,66,67,68,69,70,72,71,73,74,75,76,77,78,79,80,81,82,83,84,85,86,87,89,88,90,91,92,93,94,95,96,97,98,99,100,101,103,102,104,105,106,107,108,109,110,111,112],[]⟩)]⟩
def q9b:Tree:=
 let a:X:=.get (.fld (.tok 0) 2) (.tok 3)
 let c:X:=.add (.tok 3) (.lit (.i 1))
 let g:X:=.lit (.b .false)
 let i:X:=.tok 4
 let k:X:=.lit (.i 131072)
 let m:X:=.lt (.tok 3) (.len (.fld (.tok 0) 2))
 let n:X:=.tok 2
 let o:X:=.tok 1
 let p:X:=.fld (.tok 0) 1
 let b:X:=.and (.eq (.fld a 1) (.lit (.a [(.s ⟨#[]⟩),(.i 0),(.i 0)]))) (.eq (.len (.fld a 2)) (.lit (.i 0)))
 let d:X:=.and (.and (.call 0 0 [(.fld a 1)]) (.eq (.len (.fld a 2)) (.fld (.fld a 1) 1))) (.eq (.fld a 3) (.lit (.i 0)))
 let e:X:=.or (.not (.call 0 0 [(.fld (.tok 0) 0)])) (.not (.eq (.len p) (.fld (.fld (.tok 0) 0) 1)))
 let h:X:=.rng .i64 c
 let j:X:=.fld a 0
 let f:X:=.and (.and b (.le (.lit (.i 0)) (.fld a 3))) (.le (.fld a 3) (.lit (.i 1099511627776)))
 let l:X:=.not (.and b (.eq (.fld a 3) (.lit (.i 0))))
 (.need [(.ok 0 [(.fld (.tok 0) 0)]),(.imp (.not e) (.ok 1 [k,p]))] (.br (.or e (.not (.call 1 0 [k,p]))) (.leaf [g]) (.loop 6 1 [g,g,(.lit (.i 0)),(.ite (.not e) (.call 1 1 [k,p]) k)] (.br m (.need [(.le (.lit (.i 0)) (.tok 3)),m] (.br (.eq j (.lit (.i 1))) (.need [(.ok 0 [(.fld a 1)]),(.imp d (.ok 1 [i,(.fld a 2)]))] (.br (.not (.and d (.call 1 0 [i,(.fld a 2)]))) (.leaf [g]) (.need [h] (.back 6 [(.lit (.b .true)),n,c,(.ite d (.call 1 1 [i,(.fld a 2)]) i)])))) (.br (.eq j (.lit (.i 2))) (.br (.not (.and f (.not o))) (.leaf [g]) (.need [h] (.back 6 [o,n,c,i]))) (.br (.eq j (.lit (.i 3))) (.br (.eq j (.lit (.i 3))) (.br (.not f) (.leaf [g]) (.need [h] (.back 6 [o,n,c,i]))) (.br (.eq j (.lit (.i 5))) (.br l (.leaf [g]) (.need [h] (.back 6 [o,n,c,i]))) (.leaf [g]))) (.br (.eq j (.lit (.i 4))) (.br (.not f) (.leaf [g]) (.need [h] (.back 6 [o,n,c,i]))) (.br (.eq j (.lit (.i 5))) (.br l (.leaf [g]) (.need [h] (.back 6 [o,n,c,i]))) (.leaf [g]))))))) (.leaf [(.lit (.b .true))])))))
theorem qny(g0 g1:GfZ):CdZ [(q04,g0),(q30,g1)] qsr q27 Try.f13 q9b:=fun cd h=>by injection h with h;subst h;kernel_rfl
theorem qrm{g0 g1 g:GfZ}(h0:FOk q04 g0)(h1:FOk q30 g1)(h:HgZ q9b q27 [(q04,g0),(q30,g1)] g):FOk q27 g:=yl (qny g0 g1) (.cons h0 (.cons h1 .nil)) rfl rfl qlp (by decide) h
def zl:Ct:=⟨20,[.ref (.st 52) {f:=none,lost:=true},.own (.st 37),.val (.st 23)],[(.row 38,false),(.int .i64,false)],[],none,[],[]⟩
theorem q9t:EnZ zl:=fun _ _=>by kernel_rfl
def qbd:Ann:=⟨[0,1,2,4,5,6,7,8,9,11,13,45,46,47,48,53],[(8,⟨[(6,.row 38,false),(7,.int .i64,false),(47,.int .i64,false)],[],[48,49,50,11,51,52,53,54],[]⟩)]⟩
def q2a:Tree:=
 let d:X:=.fld (.fld (.tok 0) 0) 0
 let e:X:=.lit (.i 0)
 let g:X:=.tok 5
 let h:X:=.lit (.i 1)
 let j:X:=.lit (.r [])
 let k:X:=.lit (.i 2)
 let l:X:=.tok 2
 let n:X:=.lit (.i 1954687338211)
 let o:X:=.lit (.i 1759218604390)
 let c:X:=.set (.tok 0) 0 (.set (.fld (.tok 0) 0) 0 (.add d h))
 let f:X:=.call 3 1 [(.tok 0),l,e]
 let m:X:=.add g h
 let b:X:=.app (.row [(.set (.tok 1) 2 (.call 3 0 [(.tok 0),l,e]))]) (.call 4 0 [(.fld f 2)])
 let i:X:=.call 3 1 [c,l,d]
 let a:X:=.app (.row [(.set (.set (.tok 1) 2 (.app (.fld (.tok 1) 2) (.row [(.call 2 0 [k,d])]))) 2 (.app (.fld (.set (.tok 1) 2 (.app (.fld (.tok 1) 2) (.row [(.call 2 0 [k,d])]))) 2) (.call 3 0 [c,l,d])))]) (.call 4 0 [(.fld i 2)])
 (.need [(.ok 0 [l])] (.br (.call 0 0 [l]) (.need [(.rng .i64 (.add d h))] (.need [(.le (.add (.len (.fld (.tok 1) 2)) h) n),(.ok 2 [k,d])] (.need [(.le (.add (.len (.fld (.set (.tok 1) 2 (.app (.fld (.tok 1) 2) (.row [(.call 2 0 [k,d])]))) 2)) (.len (.call 3 0 [c,l,d]))) n),(.ok 3 [c,l,d])] (.need [(.le (.add h (.len (.call 4 0 [(.fld i 2)]))) o),(.ok 4 [(.fld i 2)])] (.loop 8 3 [j,e,e] (.br (.lt g (.len a)) (.need [(.le e g),(.lt g (.len a))] (.need [(.ok 5 [(.get a g)])] (.br (.not (.call 5 0 [(.get a g)])) (.leaf [j,k,i]) (.need [(.rng .i64 m)] (.back 8 [(.tok 3),(.tok 4),m]))))) (.leaf [a,e,i]))))))) (.need [(.ok 3 [(.tok 0),l,e])] (.need [(.le (.add h (.len (.call 4 0 [(.fld f 2)]))) o),(.ok 4 [(.fld f 2)])] (.loop 8 3 [j,e,e] (.br (.lt g (.len b)) (.need [(.le e g),(.lt g (.len b))] (.need [(.ok 5 [(.get b g)])] (.br (.not (.call 5 0 [(.get b g)])) (.leaf [j,k,f]) (.need [(.rng .i64 m)] (.back 8 [(.tok 3),(.tok 4),m]))))) (.leaf [b,e,f])))))))
theorem qaw(g0 g1 g2 g3 g4 g5:GfZ):CdZ [(ye,g0),(z7,g1),(jc,g2),(qd,g3),(j8,g4),(q27,g5)] qbd zl Try.f20 q2a:=fun cd h=>by injection h with h;subst h;kernel_rfl
theorem qba{g0 g1 g2 g3 g4 g5 g:GfZ}(h0:FOk ye g0)(h1:FOk z7 g1)(h2:FOk jc g2)(h3:FOk qd g3)(h4:FOk j8 g4)(h5:FOk q27 g5)(h:HgZ q2a zl [(ye,g0),(z7,g1),(jc,g2),(qd,g3),(j8,g4),(q27,g5)] g):FOk zl g:=yl (qaw g0 g1 g2 g3 g4 g5) (.cons h0 (.cons h1 (.cons h2 (.cons h3 (.cons h4 (.cons h5 .nil)))))) rfl rfl q9t (by decide) h
def q0u:Ct:=⟨6,[.val (.st 25),.val (.int .i64),.val (.bool)],[(.row 38,false),(.int .i64,false)],[],none,[],[]⟩
theorem qki:EnZ q0u:=fun _ _=>by kernel_rfl
def qog:Ann:=⟨[0,1,2,3,6,7,8,9,11,22,45,46,47,48],[(6,⟨[(47,.int .i64,false)],[9],[48,49,50,11,51,52,53,54,55,56,57,58],[]⟩)]⟩
def q83:Tree:=
 let c:X:=.tok 0
 let d:X:=.lit (.i 1)
 let e:X:=.tok 3
 let f:X:=.tok 4
 let b:X:=.fld (.fld c 0) 3
 let g:X:=.fld c 1
 let a:X:=.set (.set (.lit (.a [(.a [(.i 0),(.i 0)]),(.b .false),(.r [])])) 0 (.mk [(.call 1 0 [(.row [(.fld c 0),g])]),(.tok 1)])) 1 (.tok 2)
 (.need [(.ok 0 [c])] (.br (.or (.or (.not (.call 0 0 [c])) (.lt (.tok 1) d)) (.lt (.lit (.i 1099511623776)) (.tok 1))) (.leaf [(.lit (.r [])),d]) (.need [(.ok 1 [(.row [(.fld c 0),g])])] (.loop 6 3 [(.lit (.i 0)),(.set (.lit (.a [(.a [(.s ⟨#[]⟩),(.i 0),(.i 0)]),(.r []),(.r [])])) 0 (.set (.set (.lit (.a [(.s ⟨#[]⟩),(.i 0),(.i 0)])) 0 (.fld (.fld c 0) 2)) 1 (.len b)))] (.br (.lt e (.len b)) (.need [(.le (.lit (.i 0)) e),(.lt e (.len b))] (.need [(.le (.add (.len (.fld f 1)) d) (.lit (.i 2513169434843))),(.ok 2 [(.get b e)])] (.need [(.rng .i64 (.add e d))] (.back 6 [(.add e d),(.set f 1 (.app (.fld f 1) (.row [(.call 2 0 [(.get b e)])])))])))) (.need [(.ok 3 [a,f,g])] (.leaf [(.call 3 0 [a,f,g]),(.call 3 1 [a,f,g])])))))))
theorem qlw(g0 g1 g2 g3:GfZ):CdZ [(q20,g0),(q0d,g1),(j3,g2),(zl,g3)] qog q0u Try.f6 q83:=fun cd h=>by injection h with h;subst h;kernel_rfl
theorem qpj{g0 g1 g2 g3 g:GfZ}(h0:FOk q20 g0)(h1:FOk q0d g1)(h2:FOk j3 g2)(h3:FOk zl g3)(h:HgZ q83 q0u [(q20,g0),(q0d,g1),(j3,g2),(zl,g3)] g):FOk q0u g:=yl (qlw g0 g1 g2 g3) (.cons h0 (.cons h1 (.cons h2 (.cons h3 .nil)))) rfl rfl qki (by decide) h
def q51:Ct:=⟨30,[.val (.st 23),.val (.int .i64),.val (.bool)],[(.row 38,false),(.int .i64,false)],[],none,[],[]⟩
theorem qns:EnZ q51:=fun _ _=>by kernel_rfl
def qur:Ann:=⟨[0,1,2,3,6,7,8,9,10,11,12,33,38],[]⟩
def qaq:Tree:=
 let c:X:=.tok 0
 let d:X:=.lit (.i 1)
 let a:X:=.set (.set (.lit (.a [(.a [(.s ⟨#[]⟩),(.i 0),(.i 0)]),(.r []),(.r [])])) 0 (.set (.set (.lit (.a [(.s ⟨#[]⟩),(.i 0),(.i 0)])) 1 (.len (.call 3 0 [c]))) 2 (.tok 1))) 1 (.call 3 0 [c])
 let b:X:=.set (.set (.lit (.a [(.a [(.i 0),(.i 0)]),(.b .false),(.r [])])) 0 (.mk [(.call 2 0 [(.row [c])]),(.add (.tok 1) d)])) 1 (.tok 2)
 (.need [(.ok 0 [c])] (.need [(.imp (.not (.not (.call 0 1 [c]))) (.ok 1 [c,(.call 0 0 [c])]))] (.br (.or (.or (.or (.not (.call 0 1 [c])) (.not (.call 1 0 [c,(.call 0 0 [c])]))) (.lt (.tok 1) d)) (.lt (.lit (.i 1099511623776)) (.tok 1))) (.leaf [(.lit (.r [])),d]) (.need [(.ok 2 [(.row [c])])] (.br (.lt (.lit (.i 1099511625777)) (.call 2 0 [(.row [c])])) (.leaf [(.lit (.r [])),(.lit (.i 2))]) (.need [(.rng .i64 (.add (.tok 1) d))] (.need [(.ok 3 [c])] (.need [(.ok 4 [b,a,c])] (.leaf [(.call 4 0 [b,a,c]),(.call 4 1 [b,a,c])])))))))))
theorem qt6(g0 g1 g2 g3 g4:GfZ):CdZ [(jo,g0),(jn,g1),(q0d,g2),(yg,g3),(zl,g4)] qur q51 Try.f30 qaq:=fun cd h=>by injection h with h;subst h;kernel_rfl
theorem quy{g0 g1 g2 g3 g4 g:GfZ}(h0:FOk jo g0)(h1:FOk jn g1)(h2:FOk q0d g2)(h3:FOk yg g3)(h4:FOk zl g4)(h:HgZ qaq q51 [(jo,g0),(jn,g1),(q0d,g2),(yg,g3),(zl,g4)] g):FOk q51 g:=yl (qt6 g0 g1 g2 g3 g4) (.cons h0 (.cons h1 (.cons h2 (.cons h3 (.cons h4 .nil))))) rfl rfl qns (by decide) h
def jv:Ct:=⟨82,[.val (.st 23),.val (.int .i64)],[(.int .i64,false)],[],none,[],[]⟩
theorem qbx:EnZ jv:=fun _ _=>by kernel_rfl
def qnw:Ann:=⟨[0,1,2,4,5,6,16],[(3,⟨[(5,.int .i64,false),(6,.int .i64,false)],[],[7,8,9,10,11,12,13,14,15,16,19,20,21,22,23,24,25,26,27,28,29,17,18],[]⟩)]⟩
def q7u:Tree:=(.loop 3 2 [(.lit (.i 1)),(.lit (.i 0))] (.br (.and (.lt (.tok 3) (.len (.fld (.tok 0) 3))) (.lt (.tok 2) (.tok 1))) (.need [(.le (.lit (.i 0)) (.tok 3)),(.lt (.tok 3) (.len (.fld (.tok 0) 3))),(.rng .i64 (.sub (.tok 1) (.tok 2))),(.ok 0 [(.get (.fld (.tok 0) 3) (.tok 3)),(.sub (.tok 1) (.tok 2))]),(.rng .i64 (.add (.tok 2) (.call 0 0 [(.get (.fld (.tok 0) 3) (.tok 3)),(.sub (.tok 1) (.tok 2))])))] (.need [(.rng .i64 (.add (.tok 3) (.lit (.i 1))))] (.back 3 [(.add (.tok 2) (.call 0 0 [(.get (.fld (.tok 0) 3) (.tok 3)),(.sub (.tok 1) (.tok 2))])),(.add (.tok 3) (.lit (.i 1)))]))) (.leaf [(.tok 2)])))
theorem qlt(g0:GfZ):CdZ [(jv,g0)] qnw jv Try.f82 q7u:=fun cd h=>by injection h with h;subst h;kernel_rfl
theorem qnz{g0 g:GfZ}(h0:FOk jv g0)(h:HgZ q7u jv [(jv,g0)] g):FOk jv g:=yl (qlt g0) (.cons h0 .nil) rfl rfl qbx (by decide) h
def yj:Ct:=⟨56,[.val (.st 23)],[(.int .i64,false)],[],none,[],[]⟩
theorem qmw:EnZ yj:=fun _ _=>by kernel_rfl
def qrq:Ann:=⟨[0,1,2],[]⟩
def q92:Tree:=(.need [(.ok 0 [(.tok 0),(.lit (.i 2001))])] (.leaf [(.call 0 0 [(.tok 0),(.lit (.i 2001))])]))
theorem qo0(g0:GfZ):CdZ [(jv,g0)] qrq yj Try.f56 q92:=fun cd h=>by injection h with h;subst h;kernel_rfl
theorem qrr{g0 g:GfZ}(h0:FOk jv g0)(h:HgZ q92 yj [(jv,g0)] g):FOk yj g:=yl (qo0 g0) (.cons h0 .nil) rfl rfl qmw (by decide) h
def q25:Ct:=⟨103,[.val (.st 23)],[(.bool,false)],[],none,[],[]⟩
theorem qma:EnZ q25:=fun _ _=>by kernel_rfl
def qss:Ann:=⟨[0,1,2,4,5,26,37,54],[]⟩
def q95:Tree:=(.br (.eq (.fld (.tok 0) 0) (.lit (.i 0))) (.leaf [(.and (.and (.and (.le (.lit (.i 0)) (.fld (.tok 0) 1)) (.le (.fld (.tok 0) 1) (.lit (.i 1099511627776)))) (.eq (.fld (.tok 0) 2) (.lit (.s ⟨#[]⟩)))) (.eq (.len (.fld (.tok 0) 3)) (.lit (.i 0))))]) (.br (.eq (.fld (.tok 0) 0) (.lit (.i 1))) (.leaf [(.and (.eq (.fld (.tok 0) 2) (.lit (.s ⟨#[]⟩))) (.eq (.len (.fld (.tok 0) 3)) (.lit (.i 0))))]) (.br (.eq (.fld (.tok 0) 0) (.lit (.i 2))) (.leaf [(.and (.and (.eq (.fld (.tok 0) 1) (.lit (.i 0))) (.le (.slen (.fld (.tok 0) 2)) (.lit (.i 100)))) (.eq (.len (.fld (.tok 0) 3)) (.lit (.i 0))))]) (.br (.eq (.fld (.tok 0) 0) (.lit (.i 3))) (.leaf [(.and (.and (.and (.eq (.fld (.tok 0) 1) (.lit (.i 0))) (.le (.slen (.fld (.tok 0) 2)) (.lit (.i 100)))) (.le (.lit (.i 1)) (.len (.fld (.tok 0) 3)))) (.le (.len (.fld (.tok 0) 3)) (.lit (.i 8))))]) (.leaf [(.lit (.b .false))])))))
theorem qoa:CdZ [] qss q25 Try.f103 q95:=fun cd h=>by injection h with h;subst h;kernel_rfl
theorem qql{g:GfZ}(h:HgZ q95 q25 [] g):FOk q25 g:=yl (qoa) .nil rfl rfl qma (by decide) h
def ju:Ct:=⟨80,[.val (.st 23)],[(.bool,false)],[],none,[],[]⟩
theorem qbq:EnZ ju:=fun _ _=>by kernel_rfl
def qou:Ann:=⟨[0,1,2,3,6,11,20],[(4,⟨[(2,.bool,false),(3,.int .i64,false)],[],[7,8,9,10,11,14,15,16,17,18,19,20,12,13],[]⟩)]⟩
def q7d:Tree:=(.need [(.ok 0 [(.tok 0)])] (.br (.not (.call 0 0 [(.tok 0)])) (.leaf [(.lit (.b .false))]) (.loop 4 1 [(.lit (.b .false)),(.lit (.i 0))] (.br (.lt (.tok 2) (.len (.fld (.tok 0) 3))) (.need [(.le (.lit (.i 0)) (.tok 2)),(.lt (.tok 2) (.len (.fld (.tok 0) 3))),(.ok 1 [(.get (.fld (.tok 0) 3) (.tok 2))])] (.br (.not (.call 1 0 [(.get (.fld (.tok 0) 3) (.tok 2))])) (.leaf [(.lit (.b .false))]) (.need [(.rng .i64 (.add (.tok 2) (.lit (.i 1))))] (.back 4 [(.tok 1),(.add (.tok 2) (.lit (.i 1)))])))) (.leaf [(.lit (.b .true))])))))
theorem qmn(g0 g1:GfZ):CdZ [(q25,g0),(ju,g1)] qou ju Try.f80 q7d:=fun cd h=>by injection h with h;subst h;kernel_rfl
theorem qpl{g0 g1 g:GfZ}(h0:FOk q25 g0)(h1:FOk ju g1)(h:HgZ q7d ju [(q25,g0),(ju,g1)] g):FOk ju g:=yl (qmn g0 g1) (.cons h0 (.cons h1 .nil)) rfl rfl qbq (by decide) h
def ze:Ct:=⟨54,[.val (.st 23)],[(.bool,false)],[],none,[],[]⟩
theorem qje:EnZ ze:=fun _ _=>by kernel_rfl
def qnr:Ann:=⟨[0,1,2],[]⟩
def q73:Tree:=(.need [(.ok 0 [(.tok 0)]),(.imp (.le (.call 0 0 [(.tok 0)]) (.lit (.i 2000))) (.ok 1 [(.tok 0)]))] (.leaf [(.and (.le (.call 0 0 [(.tok 0)]) (.lit (.i 2000))) (.call 1 0 [(.tok 0)]))]))
theorem qn2(g0 g1:GfZ):CdZ [(yj,g0),(ju,g1)] qnr ze Try.f54 q73:=fun cd h=>by injection h with h;subst h;kernel_rfl
theorem qo4{g0 g1 g:GfZ}(h0:FOk yj g0)(h1:FOk ju g1)(h:HgZ q73 ze [(yj,g0),(ju,g1)] g):FOk ze g:=yl (qn2 g0 g1) (.cons h0 (.cons h1 .nil)) rfl rfl qje (by decide) h
def je:Ct:=⟨87,[.val (.st 23),.val (.str),.val (.int .i64)],[(.bool,false)],[],none,[],[]⟩
theorem qrd:EnZ je:=fun _ _=>by kernel_rfl
def qzj:Ann:=⟨[0,1,2,3,6],[]⟩
def qcj:Tree:=(.leaf [(.and (.and (.or (.eq (.fld (.tok 0) 0) (.lit (.i 2))) (.eq (.fld (.tok 0) 0) (.lit (.i 3)))) (.eq (.fld (.tok 0) 2) (.tok 1))) (.eq (.len (.fld (.tok 0) 3)) (.tok 2)))])
theorem qul:CdZ [] qzj je Try.f87 qcj:=fun cd h=>by injection h with h;subst h;kernel_rfl
theorem qxx{g:GfZ}(h:HgZ qcj je [] g):FOk je g:=yl (qul) .nil rfl rfl qrd (by decide) h
def q1j:Ct:=⟨81,[.val (.st 23)],[(.bool,false)],[],none,[],[]⟩
theorem qj8:EnZ q1j:=fun _ _=>by kernel_rfl
def qoh:Ann:=⟨[0,1,2],[]⟩
def q76:Tree:=(.need [(.ok 0 [(.tok 0),(.lit (.s ⟨#[44]⟩)),(.lit (.i 2))]),(.imp (.not (.call 0 0 [(.tok 0),(.lit (.s ⟨#[44]⟩)),(.lit (.i 2))])) (.ok 0 [(.tok 0),(.lit (.s ⟨#[59]⟩)),(.lit (.i 2))])),(.imp (.not (.or (.call 0 0 [(.tok 0),(.lit (.s ⟨#[44]⟩)),(.lit (.i 2))]) (.call 0 0 [(.tok 0),(.lit (.s ⟨#[59]⟩)),(.lit (.i 2))]))) (.ok 0 [(.tok 0),(.lit (.s ⟨#[45,62]⟩)),(.lit (.i 2))]))] (.leaf [(.or (.or (.call 0 0 [(.tok 0),(.lit (.s ⟨#[44]⟩)),(.lit (.i 2))]) (.call 0 0 [(.tok 0),(.lit (.s ⟨#[59]⟩)),(.lit (.i 2))])) (.call 0 0 [(.tok 0),(.lit (.s ⟨#[45,62]⟩)),(.lit (.i 2))]))]))
theorem qmo(g0:GfZ):CdZ [(je,g0)] qoh q1j Try.f81 q76:=fun cd h=>by injection h with h;subst h;kernel_rfl
theorem qoo{g0 g:GfZ}(h0:FOk je g0)(h:HgZ q76 q1j [(je,g0)] g):FOk q1j g:=yl (qmo g0) (.cons h0 .nil) rfl rfl qj8 (by decide) h
def jh:Ct:=⟨85,[.val (.st 23)],[(.st 23,false)],[],none,[],[]⟩
theorem qan:EnZ jh:=fun _ _=>by kernel_rfl
def qli:Ann:=⟨[0,1,2,3,4,16],[(3,⟨[(4,.int .i64,false)],[3],[12,13,14,15,16,19,20,21,22,23,24,25,26,27,28,29,17,18],[]⟩)]⟩
def q69:Tree:=(.loop 3 1 [(.lit (.i 0)),(.set (.set (.set (.lit (.a [(.i 0),(.i 0),(.s ⟨#[]⟩),(.r [])])) 0 (.fld (.tok 0) 0)) 1 (.fld (.tok 0) 1)) 2 (.fld (.tok 0) 2))] (.br (.lt (.tok 1) (.len (.fld (.tok 0) 3))) (.need [(.le (.add (.len (.fld (.tok 2) 3)) (.lit (.i 1))) (.lit (.i 2513169434843))),(.ok 0 [(.get (.fld (.tok 0) 3) (.tok 1))]),(.le (.lit (.i 0)) (.tok 1)),(.lt (.tok 1) (.len (.fld (.tok 0) 3)))] (.need [(.rng .i64 (.add (.tok 1) (.lit (.i 1))))] (.back 3 [(.add (.tok 1) (.lit (.i 1))),(.set (.tok 2) 3 (.app (.fld (.tok 2) 3) (.row [(.call 0 0 [(.get (.fld (.tok 0) 3) (.tok 1))])])))]))) (.leaf [(.tok 2)])))
theorem qio(g0:GfZ):CdZ [(jh,g0)] qli jh Try.f85 q69:=fun cd h=>by injection h with h;subst h;kernel_rfl
theorem qm1{g0 g:GfZ}(h0:FOk jh g0)(h:HgZ q69 jh [(jh,g0)] g):FOk jh g:=yl (qio g0) (.cons h0 .nil) rfl rfl qan (by decide) h
def yb:Ct:=⟨59,[.val (.st 23)],[(.st 23,false)],[],none,[],[]⟩
theorem qj1:EnZ yb:=fun _ _=>by kernel_rfl
def qnl:Ann:=⟨[0,1,2,5],[]⟩
def q7v:Tree:=(.need [(.ok 0 [(.tok 0)])] (.br (.not (.call 0 0 [(.tok 0)])) (.leaf [(.lit (.a [(.i 0),(.i 0),(.s ⟨#[]⟩),(.r [])]))]) (.need [(.ok 1 [(.tok 0)])] (.leaf [(.call 1 0 [(.tok 0)])]))))
theorem qm3(g0 g1:GfZ):CdZ [(ze,g0),(jh,g1)] qnl yb Try.f59 q7v:=fun cd h=>by injection h with h;subst h;kernel_rfl
theorem qol{g0 g1 g:GfZ}(h0:FOk ze g0)(h1:FOk jh g1)(h:HgZ q7v yb [(ze,g0),(jh,g1)] g):FOk yb g:=yl (qm3 g0 g1) (.cons h0 (.cons h1 .nil)) rfl rfl qj1 (by decide) h
def yf:Ct:=⟨55,[.val (.st 23)],[(.st 23,false),(.bool,false)],[],none,[],[]⟩
theorem q9j:EnZ yf:=fun _ _=>by kernel_rfl
def qiw:Ann:=⟨[0,1,2,3,4,5,6,7,10,16,20],[]⟩
def q5s:Tree:=(.br (.eq (.fld (.tok 0) 0) (.lit (.i 0))) (.leaf [(.set (.set (.set (.lit (.a [(.i 0),(.i 0),(.s ⟨#[]⟩),(.r [])])) 0 (.lit (.i 3))) 2 (.lit (.s ⟨#[99,97,108,108]⟩))) 3 (.row [(.tok 0)])),(.lit (.b .true))]) (.br (.eq (.fld (.tok 0) 0) (.lit (.i 1))) (.leaf [(.lit (.a [(.i 0),(.i 0),(.s ⟨#[]⟩),(.r [])])),(.lit (.b .false))]) (.need [(.ok 0 [(.tok 0)])] (.br (.not (.call 0 0 [(.tok 0)])) (.need [(.ok 1 [(.tok 0)])] (.leaf [(.call 1 0 [(.tok 0)]),(.lit (.b .true))])) (.need [(.lit (.b .true)),(.lt (.lit (.i 0)) (.len (.fld (.tok 0) 3))),(.ok 2 [(.get (.fld (.tok 0) 3) (.lit (.i 0)))])] (.need [(.lit (.b .true)),(.lt (.lit (.i 1)) (.len (.fld (.tok 0) 3))),(.ok 2 [(.get (.fld (.tok 0) 3) (.lit (.i 1)))])] (.leaf [(.set (.set (.set (.lit (.a [(.i 0),(.i 0),(.s ⟨#[]⟩),(.r [])])) 0 (.lit (.i 3))) 2 (.fld (.tok 0) 2)) 3 (.row [(.call 2 0 [(.get (.fld (.tok 0) 3) (.lit (.i 0)))]),(.call 2 0 [(.get (.fld (.tok 0) 3) (.lit (.i 1)))])])),(.and (.call 2 1 [(.get (.fld (.tok 0) 3) (.lit (.i 0)))]) (.call 2 1 [(.get (.fld (.tok 0) 3) (.lit (.i 1)))]))])))))))
theorem qhx(g0 g1 g2:GfZ):CdZ [(q1j,g0),(yb,g1),(yf,g2)] qiw yf Try.f55 q5s:=fun cd h=>by injection h with h;subst h;kernel_rfl
theorem qim{g0 g1 g2 g:GfZ}(h0:FOk q1j g0)(h1:FOk yb g1)(h2:FOk yf g2)(h:HgZ q5s yf [(q1j,g0),(yb,g1),(yf,g2)] g):FOk yf g:=yl (qhx g0 g1 g2) (.cons h0 (.cons h1 (.cons h2 .nil))) rfl rfl q9j (by decide) h
def yo:Ct:=⟨65,[.val (.st 23),.val (.st 23)],[(.bool,false)],[],none,[],[]⟩
theorem q70:EnZ yo:=fun _ _=>by kernel_rfl
def qgr:Ann:=⟨[0,1,2,3,4,5,33,38,52],[(4,⟨[(4,.bool,false),(5,.int .i64,false)],[],[34,35,36,37,38,41,42,43,44,45,46,47,48,49,50,51,52,39,40],[]⟩)]⟩
def q4o:Tree:=(.br (.or (.or (.or (.not (.eq (.fld (.tok 0) 0) (.fld (.tok 1) 0))) (.not (.eq (.fld (.tok 0) 1) (.fld (.tok 1) 1)))) (.not (.eq (.fld (.tok 0) 2) (.fld (.tok 1) 2)))) (.not (.eq (.len (.fld (.tok 0) 3)) (.len (.fld (.tok 1) 3))))) (.leaf [(.lit (.b .false))]) (.loop 4 2 [(.lit (.b .false)),(.lit (.i 0))] (.br (.lt (.tok 3) (.len (.fld (.tok 0) 3))) (.need [(.ok 0 [(.get (.fld (.tok 0) 3) (.tok 3)),(.get (.fld (.tok 1) 3) (.tok 3))]),(.le (.lit (.i 0)) (.tok 3)),(.lt (.tok 3) (.len (.fld (.tok 1) 3))),(.le (.lit (.i 0)) (.tok 3)),(.lt (.tok 3) (.len (.fld (.tok 0) 3)))] (.br (.not (.call 0 0 [(.get (.fld (.tok 0) 3) (.tok 3)),(.get (.fld (.tok 1) 3) (.tok 3))])) (.leaf [(.lit (.b .false))]) (.need [(.rng .i64 (.add (.tok 3) (.lit (.i 1))))] (.back 4 [(.tok 2),(.add (.tok 3) (.lit (.i 1)))])))) (.leaf [(.lit (.b .true))]))))
theorem qf9(g0:GfZ):CdZ [(yo,g0)] qgr yo Try.f65 q4o:=fun cd h=>by injection h with h;subst h;kernel_rfl
theorem qga{g0 g:GfZ}(h0:FOk yo g0)(h:HgZ q4o yo [(yo,g0)] g):FOk yo g:=yl (qf9 g0) (.cons h0 .nil) rfl rfl q70 (by decide) h
def q01:Ct:=⟨31,[.val (.st 23),.val (.st 23)],[(.bool,false)],[],none,[],[]⟩
theorem ql9:EnZ q01:=fun _ _=>by kernel_rfl
def qrb:Ann:=⟨[0,1,2,3,4],[]⟩
def q9f:Tree:=(.need [(.ok 0 [(.tok 0)]),(.imp (.call 0 0 [(.tok 0)]) (.ok 0 [(.tok 1)])),(.imp (.and (.call 0 0 [(.tok 0)]) (.call 0 0 [(.tok 1)])) (.ok 1 [(.tok 0),(.tok 1)]))] (.leaf [(.and (.and (.call 0 0 [(.tok 0)]) (.call 0 0 [(.tok 1)])) (.call 1 0 [(.tok 0),(.tok 1)]))]))
theorem qon(g0 g1:GfZ):CdZ [(ze,g0),(yo,g1)] qrb q01 Try.f31 q9f:=fun cd h=>by injection h with h;subst h;kernel_rfl
theorem qr4{g0 g1 g:GfZ}(h0:FOk ze g0)(h1:FOk yo g1)(h:HgZ q9f q01 [(ze,g0),(yo,g1)] g):FOk q01 g:=yl (qon g0 g1) (.cons h0 (.cons h1 .nil)) rfl rfl ql9 (by decide) h
def zx:Ct:=⟨84,[.val (.row 2),.val (.int .i64)],[(.int .i64,false)],[],none,[],[]⟩
theorem qep:EnZ zx:=fun _ _=>by kernel_rfl
def qhu:Ann:=⟨[0,1,4,5,9,17],[(2,⟨[(4,.int .i64,false),(5,.int .i64,false)],[],[6,7,8,9,12,13,14,15,16,17,18,10,11],[]⟩)]⟩
def q55:Tree:=(.loop 2 2 [(.lit (.i 0)),(.lit (.i 0))] (.br (.lt (.tok 3) (.len (.tok 0))) (.need [(.le (.lit (.i 0)) (.tok 3)),(.lt (.tok 3) (.len (.tok 0)))] (.br (.eq (.get (.tok 0) (.tok 3)) (.tok 1)) (.leaf [(.tok 3)]) (.need [(.rng .i64 (.add (.tok 3) (.lit (.i 1))))] (.back 2 [(.tok 2),(.add (.tok 3) (.lit (.i 1)))])))) (.leaf [(.lit (.i (-1)))])))
theorem qgp:CdZ [] qhu zx Try.f84 q55:=fun cd h=>by injection h with h;subst h;kernel_rfl
theorem qh9{g:GfZ}(h:HgZ q55 zx [] g):FOk zx g:=yl (qgp) .nil rfl rfl qep (by decide) h
def jk:Ct:=⟨58,[.own (.row 2),.val (.st 23)],[(.row 2,true)],[],none,[],[]⟩
theorem qd6:EnZ jk:=fun _ _=>by kernel_rfl
def qsf:Ann:=⟨[0,1,3,4,5,15,25],[(4,⟨[(0,.row 2,false),(5,.int .i64,false)],[],[21,22,23,24,25,28,29,30,31,32,33,34,26,27],[]⟩)]⟩
def q44:Tree:=(.need [(.imp (.eq (.fld (.tok 1) 0) (.lit (.i 0))) (.ok 0 [(.tok 0),(.fld (.tok 1) 1)]))] (.br (.and (.eq (.fld (.tok 1) 0) (.lit (.i 0))) (.lt (.call 0 0 [(.tok 0),(.fld (.tok 1) 1)]) (.lit (.i 0)))) (.need [(.le (.add (.len (.tok 0)) (.lit (.i 1))) (.lit (.i 17592186043904)))] (.loop 4 2 [(.app (.tok 0) (.row [(.fld (.tok 1) 1)])),(.lit (.i 0))] (.br (.lt (.tok 3) (.len (.fld (.tok 1) 3))) (.need [(.le (.lit (.i 0)) (.tok 3)),(.lt (.tok 3) (.len (.fld (.tok 1) 3))),(.ok 1 [(.tok 2),(.get (.fld (.tok 1) 3) (.tok 3))])] (.need [(.rng .i64 (.add (.tok 3) (.lit (.i 1))))] (.back 4 [(.call 1 0 [(.tok 2),(.get (.fld (.tok 1) 3) (.tok 3))]),(.add (.tok 3) (.lit (.i 1)))]))) (.leaf [(.tok 2)])))) (.loop 4 2 [(.tok 0),(.lit (.i 0))] (.br (.lt (.tok 3) (.len (.fld (.tok 1) 3))) (.need [(.le (.lit (.i 0)) (.tok 3)),(.lt (.tok 3) (.len (.fld (.tok 1) 3))),(.ok 1 [(.tok 2),(.get (.fld (.tok 1) 3) (.tok 3))])] (.need [(.rng .i64 (.add (.tok 3) (.lit (.i 1))))] (.back 4 [(.call 1 0 [(.tok 2),(.get (.fld (.tok 1) 3) (.tok 3))]),(.add (.tok 3) (.lit (.i 1)))]))) (.leaf [(.tok 2)])))))
theorem qp7(g0 g1:GfZ):CdZ [(zx,g0),(jk,g1)] qsf jk Try.f58 q44:=fun cd h=>by injection h with h;subst h;kernel_rfl
theorem qti{g0 g1 g:GfZ}(h0:FOk zx g0)(h1:FOk jk g1)(h:HgZ q44 jk [(zx,g0),(jk,g1)] g):FOk jk g:=yl (qp7 g0 g1) (.cons h0 (.cons h1 .nil)) rfl rfl qd6 (by decide) h
def zu:Ct:=⟨23,[.val (.row 24)],[(.row 2,true)],[],none,[],[]⟩
theorem qge:EnZ zu:=fun _ _=>by kernel_rfl
def qik:Ann:=⟨[0,2,3,4,8],[(3,⟨[(3,.row 2,false),(4,.int .i64,false)],[],[5,6,7,8,11,12,13,14,15,16,9,10],[]⟩)]⟩
def q5o:Tree:=(.loop 3 1 [(.lit (.r [])),(.lit (.i 0))] (.br (.lt (.tok 2) (.len (.tok 0))) (.need [(.le (.lit (.i 0)) (.tok 2)),(.lt (.tok 2) (.len (.tok 0))),(.ok 0 [(.tok 1),(.get (.tok 0) (.tok 2))])] (.need [(.rng .i64 (.add (.tok 2) (.lit (.i 1))))] (.back 3 [(.call 0 0 [(.tok 1),(.get (.tok 0) (.tok 2))]),(.add (.tok 2) (.lit (.i 1)))]))) (.leaf [(.tok 1)])))
theorem qhc(g0:GfZ):CdZ [(jk,g0)] qik zu Try.f23 q5o:=fun cd h=>by injection h with h;subst h;kernel_rfl
theorem qkd{g0 g:GfZ}(h0:FOk jk g0)(h:HgZ q5o zu [(jk,g0)] g):FOk zu g:=yl (qhc g0) (.cons h0 .nil) rfl rfl qge (by decide) h
def yw:Ct:=⟨83,[.val (.row 2),.val (.st 23)],[(.st 23,false)],[],none,[],[]⟩
theorem qay:EnZ yw:=fun _ _=>by kernel_rfl
def qm4:Ann:=⟨[0,1,3,4,5,6,16,26],[(5,⟨[(6,.int .i64,false)],[5],[22,23,24,25,26,29,30,31,32,33,34,35,36,37,38,39,40,27,28],[]⟩)]⟩
def q2x:Tree:=
 let a:X:=.set (.set (.set (.lit (.a [(.i 0),(.i 0),(.s ⟨#[]⟩),(.r [])])) 0 (.fld (.tok 1) 0)) 1 (.fld (.tok 1) 1)) 2 (.fld (.tok 1) 2)
 let b:X:=.lt (.tok 2) (.len (.fld (.tok 1) 3))
 let c:X:=.set (.tok 3) 3 (.app (.fld (.tok 3) 3) (.row [(.call 1 0 [(.tok 0),(.get (.fld (.tok 1) 3) (.tok 2))])]))
 let d:X:=.add (.tok 2) (.lit (.i 1))
 let e:X:=.le (.add (.len (.fld (.tok 3) 3)) (.lit (.i 1))) (.lit (.i 2513169434843))
 let f:X:=.ok 1 [(.tok 0),(.get (.fld (.tok 1) 3) (.tok 2))]
 let g:X:=.lit (.i 0)
 (.br (.eq (.fld (.tok 1) 0) g) (.need [(.ok 0 [(.tok 0),(.fld (.tok 1) 1)])] (.loop 5 2 [g,(.set a 1 (.call 0 0 [(.tok 0),(.fld (.tok 1) 1)]))] (.br b (.need [e,f,(.le g (.tok 2)),b] (.need [(.rng .i64 d)] (.back 5 [d,c]))) (.leaf [(.tok 3)])))) (.loop 5 2 [g,a] (.br b (.need [e,f,(.le g (.tok 2)),b] (.need [(.rng .i64 d)] (.back 5 [d,c]))) (.leaf [(.tok 3)]))))
theorem qiz(g0 g1:GfZ):CdZ [(zx,g0),(yw,g1)] qm4 yw Try.f83 q2x:=fun cd h=>by injection h with h;subst h;kernel_rfl
theorem qlk{g0 g1 g:GfZ}(h0:FOk zx g0)(h1:FOk yw g1)(h:HgZ q2x yw [(zx,g0),(yw,g1)] g):FOk yw g:=yl (qiz g0 g1) (.cons h0 (.cons h1 .nil)) rfl rfl qay (by decide) h
def q06:Ct:=⟨57,[.val (.row 24)],[(.row 24,false)],[],none,[],[]⟩
theorem qf1:EnZ q06:=fun _ _=>by kernel_rfl
def qhs:Ann:=⟨[0,2,3,4,5,11],[(4,⟨[(4,.row 24,false),(5,.int .i64,false)],[],[8,9,10,11,14,15,16,17,18,19,20,21,22,12,13],[113]⟩)]⟩
def q56:Tree:=(.need [(.ok 0 [(.tok 0)])] (.loop 4 1 [(.lit (.r [])),(.lit (.i 0))] (.br (.lt (.tok 2) (.len (.tok 0))) (.need [(.le (.lit (.i 0)) (.tok 2)),(.lt (.tok 2) (.len (.tok 0))),(.ok 1 [(.call 0 0 [(.tok 0)]),(.get (.tok 0) (.tok 2))]),(.le (.add (.len (.tok 1)) (.lit (.i 1))) (.lit (.i 2513169434843)))] (.need [(.rng .i64 (.add (.tok 2) (.lit (.i 1))))] (.back 4 [(.app (.tok 1) (.row [(.call 1 0 [(.call 0 0 [(.tok 0)]),(.get (.tok 0) (.tok 2))])])),(.add (.tok 2) (.lit (.i 1)))]))) (.leaf [(.tok 1)]))))
theorem qgi(g0 g1:GfZ):CdZ [(zu,g0),(yw,g1)] qhs q06 Try.f57 q56:=fun cd h=>by injection h with h;subst h;kernel_rfl
theorem qhr{g0 g1 g:GfZ}(h0:FOk zu g0)(h1:FOk yw g1)(h:HgZ q56 q06 [(zu,g0),(yw,g1)] g):FOk q06 g:=yl (qgi g0 g1) (.cons h0 (.cons h1 .nil)) rfl rfl qf1 (by decide) h
def jd:Ct:=⟨10,[.val (.row 24),.val (.row 24)],[(.bool,false)],[],none,[],[]⟩
theorem qgc:EnZ jd:=fun _ _=>by kernel_rfl
def qiu:Ann:=⟨[0,1,4,5,10,14,26],[(4,⟨[(4,.bool,false),(5,.int .i64,false)],[],[11,12,13,14,17,18,19,20,21,22,23,24,25,26,15,16],[]⟩)]⟩
def q5n:Tree:=(.br (.not (.eq (.len (.tok 0)) (.len (.tok 1)))) (.leaf [(.lit (.b .false))]) (.loop 4 2 [(.lit (.b .false)),(.lit (.i 0))] (.br (.lt (.tok 3) (.len (.tok 0))) (.need [(.ok 0 [(.get (.tok 0) (.tok 3)),(.get (.tok 1) (.tok 3))]),(.le (.lit (.i 0)) (.tok 3)),(.lt (.tok 3) (.len (.tok 1))),(.le (.lit (.i 0)) (.tok 3)),(.lt (.tok 3) (.len (.tok 0)))] (.br (.not (.call 0 0 [(.get (.tok 0) (.tok 3)),(.get (.tok 1) (.tok 3))])) (.leaf [(.lit (.b .false))]) (.need [(.rng .i64 (.add (.tok 3) (.lit (.i 1))))] (.back 4 [(.tok 2),(.add (.tok 3) (.lit (.i 1)))])))) (.leaf [(.lit (.b .true))]))))
theorem qi9(g0:GfZ):CdZ [(q01,g0)] qiu jd Try.f10 q5n:=fun cd h=>by injection h with h;subst h;kernel_rfl
theorem qj3{g0 g:GfZ}(h0:FOk q01 g0)(h:HgZ q5n jd [(q01,g0)] g):FOk jd g:=yl (qi9 g0) (.cons h0 .nil) rfl rfl qgc (by decide) h
def q1e:Ct:=⟨21,[.val (.st 25)],[(.bool,false)],[],none,[],[]⟩
theorem qji:EnZ q1e:=fun _ _=>by kernel_rfl
def qnt:Ann:=⟨[0,1,2,3,4,5,27,52],[]⟩
def q3c:Tree:=
 let a:X:=.fld (.tok 0) 1
 let b:X:=.fld (.tok 0) 0
 let c:X:=.or (.not (.call 1 1 [a])) (.not (.call 2 0 [(.call 1 0 [a]),a]))
 let e:X:=.row [b,a]
 let f:X:=.add (.call 3 0 [b]) (.call 3 0 [a])
 let d:X:=.le (.len (.call 4 0 [e])) (.lit (.i 64))
 (.need [(.ok 0 [b]),(.imp (.not (.not (.call 0 0 [b]))) (.ok 0 [a]))] (.br (.or (.or (.not (.call 0 0 [b])) (.not (.call 0 0 [a]))) (.and (.not (.eq (.fld b 0) (.lit (.i 2)))) (.not (.eq (.fld b 0) (.lit (.i 3)))))) (.leaf [(.lit (.b .false))]) (.need [(.ok 1 [a])] (.need [(.imp (.not c) (.rng .i64 f)),(.imp (.not c) (.ok 3 [a])),(.imp (.not c) (.ok 3 [b])),(.imp (.not c) (.ok 3 [b])),(.imp (.not (.not (.call 1 1 [a]))) (.ok 2 [(.call 1 0 [a]),a]))] (.br (.or c (.lt (.lit (.i 2000)) f)) (.leaf [(.lit (.b .false))]) (.need [(.ok 4 [e]),(.imp d (.ok 5 [e])),(.imp d (.ok 6 [(.call 5 0 [e]),e]))] (.leaf [(.and d (.call 6 0 [(.call 5 0 [e]),e]))])))))))
theorem qkt(g0 g1 g2 g3 g4 g5 g6:GfZ):CdZ [(ze,g0),(yf,g1),(q01,g2),(yj,g3),(zu,g4),(q06,g5),(jd,g6)] qnt q1e Try.f21 q3c:=fun cd h=>by injection h with h;subst h;kernel_rfl
theorem qo8{g0 g1 g2 g3 g4 g5 g6 g:GfZ}(h0:FOk ze g0)(h1:FOk yf g1)(h2:FOk q01 g2)(h3:FOk yj g3)(h4:FOk zu g4)(h5:FOk q06 g5)(h6:FOk jd g6)(h:HgZ q3c q1e [(ze,g0),(yf,g1),(q01,g2),(yj,g3),(zu,g4),(q06,g5),(jd,g6)] g):FOk q1e g:=yl (qkt g0 g1 g2 g3 g4 g5 g6) (.cons h0 (.cons h1 (.cons h2 (.cons h3 (.cons h4 (.cons h5 (.cons h6 .nil))))))) rfl rfl qji (by decide) h
def q1f:Ct:=⟨22,[.val (.row 2)],[(.int .i64,false)],[],none,[],[]⟩
theorem qk8:EnZ q1f:=fun _ _=>by kernel_rfl
def qnq:Ann:=⟨[0,2,3,4,8],[(3,⟨[(3,.int .i64,false),(4,.int .i64,false)],[],[5,6,7,8,11,12,13,14,15,16,17,9,10],[]⟩)]⟩
def q7b:Tree:=(.loop 3 1 [(.lit (.i 0)),(.lit (.i 0))] (.br (.lt (.tok 2) (.len (.tok 0))) (.need [(.le (.lit (.i 0)) (.tok 2)),(.lt (.tok 2) (.len (.tok 0))),(.rng .i64 (.add (.get (.tok 0) (.tok 2)) (.lit (.i 1))))] (.need [(.rng .i64 (.add (.tok 2) (.lit (.i 1))))] (.back 3 [(.ite (.lt (.tok 1) (.add (.get (.tok 0) (.tok 2)) (.lit (.i 1)))) (.add (.get (.tok 0) (.tok 2)) (.lit (.i 1))) (.tok 1)),(.add (.tok 2) (.lit (.i 1)))]))) (.leaf [(.tok 1)])))
theorem qn0:CdZ [] qnq q1f Try.f22 q7b:=fun cd h=>by injection h with h;subst h;kernel_rfl
theorem qo6{g:GfZ}(h:HgZ q7b q1f [] g):FOk q1f g:=yl (qn0) .nil rfl rfl qk8 (by decide) h
def jj:Ct:=⟨24,[.val (.row 24)],[(.row 24,false)],[],none,[],[]⟩
theorem qht:EnZ jj:=fun _ _=>by kernel_rfl
def qlh:Ann:=⟨[0,2,3,4,8],[(3,⟨[(3,.row 24,false),(4,.int .i64,false)],[],[5,6,7,8,11,12,13,14,15,16,17,18,9,10],[]⟩)]⟩
def q6b:Tree:=(.loop 3 1 [(.lit (.r [])),(.lit (.i 0))] (.br (.lt (.tok 2) (.len (.tok 0))) (.need [(.le (.lit (.i 0)) (.tok 2)),(.lt (.tok 2) (.len (.tok 0))),(.ok 0 [(.get (.tok 0) (.tok 2))]),(.le (.add (.len (.tok 1)) (.lit (.i 1))) (.lit (.i 2513169434843)))] (.need [(.rng .i64 (.add (.tok 2) (.lit (.i 1))))] (.back 3 [(.app (.tok 1) (.row [(.call 0 0 [(.get (.tok 0) (.tok 2))])])),(.add (.tok 2) (.lit (.i 1)))]))) (.leaf [(.tok 1)])))
theorem qjm(g0:GfZ):CdZ [(yb,g0)] qlh jj Try.f24 q6b:=fun cd h=>by injection h with h;subst h;kernel_rfl
theorem qmb{g0 g:GfZ}(h0:FOk yb g0)(h:HgZ q6b jj [(yb,g0)] g):FOk jj g:=yl (qjm g0) (.cons h0 .nil) rfl rfl qht (by decide) h
def q0e:Ct:=⟨86,[.val (.st 23)],[(.bool,false)],[],none,[],[]⟩
theorem qcz:EnZ q0e:=fun _ _=>by kernel_rfl
def qrw:Ann:=⟨[0,1,2,8,22],[]⟩
def q96:Tree:=
 let c:X:=.lit (.i 2)
 let e:X:=.tok 0
 let f:X:=.lit (.s ⟨#[44]⟩)
 let g:X:=.lit (.i 0)
 let h:X:=.lit (.b .true)
 let j:X:=.lit (.s ⟨#[45,62]⟩)
 let k:X:=.lit (.s ⟨#[59]⟩)
 let l:X:=.lit (.s ⟨#[33]⟩)
 let a:X:=.fld e 3
 let b:X:=.call 1 0 [(.get a g)]
 let d:X:=.get a (.lit (.i 1))
 let i:X:=.lt (.lit (.i 1)) (.len a)
 (.need [(.ok 0 [e,f,c]),(.imp (.not (.call 0 0 [e,f,c])) (.ok 0 [e,k,c]))] (.br (.or (.call 0 0 [e,f,c]) (.call 0 0 [e,k,c])) (.need [h,(.lt g (.len a)),(.ok 1 [(.get a g)]),(.imp (.not b) h),(.imp (.not b) i),(.imp (.not b) (.ok 1 [d]))] (.leaf [(.or b (.call 1 0 [d]))])) (.need [(.ok 0 [e,j,c])] (.br (.call 0 0 [e,j,c]) (.need [h,i,(.ok 1 [d])] (.leaf [(.call 1 0 [d])])) (.need [(.ok 0 [e,l,g])] (.leaf [(.call 0 0 [e,l,g])]))))))
theorem qpm(g0 g1:GfZ):CdZ [(je,g0),(q0e,g1)] qrw q0e Try.f86 q96:=fun cd h=>by injection h with h;subst h;kernel_rfl
theorem qsa{g0 g1 g:GfZ}(h0:FOk je g0)(h1:FOk q0e g1)(h:HgZ q96 q0e [(je,g0),(q0e,g1)] g):FOk q0e g:=yl (qpm g0 g1) (.cons h0 (.cons h1 .nil)) rfl rfl qcz (by decide) h
def q0g:Ct:=⟨60,[.val (.st 23)],[(.bool,false)],[],none,[],[]⟩
theorem qlz:EnZ q0g:=fun _ _=>by kernel_rfl
def qtw:Ann:=⟨[0,1,2],[]⟩
def q97:Tree:=(.need [(.ok 0 [(.tok 0)]),(.imp (.call 0 0 [(.tok 0)]) (.ok 1 [(.tok 0)]))] (.leaf [(.and (.call 0 0 [(.tok 0)]) (.call 1 0 [(.tok 0)]))]))
theorem qo5(g0 g1:GfZ):CdZ [(ze,g0),(q0e,g1)] qtw q0g Try.f60 q97:=fun cd h=>by injection h with h;subst h;kernel_rfl
theorem qqe{g0 g1 g:GfZ}(h0:FOk ze g0)(h1:FOk q0e g1)(h:HgZ q97 q0g [(ze,g0),(q0e,g1)] g):FOk q0g g:=yl (qo5 g0 g1) (.cons h0 (.cons h1 .nil)) rfl rfl qlz (by decide) h
def q08:Ct:=⟨63,[.val (.int .i64),.val (.int .i64)],[(.st 41,false)],[],none,[],[]⟩
theorem qrs:EnZ q08:=fun _ _=>by kernel_rfl
def qxh:Ann:=⟨[0,1,4],[]⟩
def qc8:Tree:=(.leaf [(.set (.set (.lit (.a [(.i 0),(.a [(.s ⟨#[]⟩),(.i 0),(.i 0)]),(.r []),(.i 0)])) 0 (.tok 0)) 3 (.tok 1))])
theorem qvo:CdZ [] qxh q08 Try.f63 qc8:=fun cd h=>by injection h with h;subst h;kernel_rfl
theorem qy3{g:GfZ}(h:HgZ qc8 q08 [] g):FOk q08 g:=yl (qvo) .nil rfl rfl qrs (by decide) h
def qz:Ct:=⟨62,[.ref (.st 60) true],[(.int .i64,false)],[],none,[],[]⟩
theorem q6t:EnZ qz:=fun _ _=>by kernel_rfl
def q8d:Ann:=⟨[0,2],[]⟩
def q17:Tree:=(.need [(.rng .i64 (.add (.fld (.tok 0) 0) (.lit (.i 1))))] (.need [(.rng .i64 (.sub (.fld (.set (.tok 0) 0 (.add (.fld (.tok 0) 0) (.lit (.i 1)))) 0) (.lit (.i 1))))] (.leaf [(.sub (.fld (.set (.tok 0) 0 (.add (.fld (.tok 0) 0) (.lit (.i 1)))) 0) (.lit (.i 1))),(.set (.tok 0) 0 (.add (.fld (.tok 0) 0) (.lit (.i 1))))])))
theorem q7k:CdZ [] q8d qz Try.f62 q17:=fun cd h=>by injection h with h;subst h;kernel_rfl
theorem q8l{g:GfZ}(h:HgZ q17 qz [] g):FOk qz g:=yl (q7k) .nil rfl rfl q6t (by decide) h
def q1i:Ct:=⟨108,[.val (.st 23)],[(.bool,false)],[],none,[],[]⟩
theorem qkk:EnZ q1i:=fun _ _=>by kernel_rfl
def qp8:Ann:=⟨[0,1,2],[]⟩
def q7z:Tree:=(.need [(.ok 0 [(.tok 0)])] (.leaf [(.le (.call 0 0 [(.tok 0)]) (.lit (.i 2000)))]))
theorem qls(g0:GfZ):CdZ [(yj,g0)] qp8 q1i Try.f108 q7z:=fun cd h=>by injection h with h;subst h;kernel_rfl
theorem qoi{g0 g:GfZ}(h0:FOk yj g0)(h:HgZ q7z q1i [(yj,g0)] g):FOk q1i g:=yl (qls g0) (.cons h0 .nil) rfl rfl qkk (by decide) h
def q24:Ct:=⟨107,[.val (.st 23)],[(.st 23,false),(.bool,false)],[],none,[],[]⟩
theorem qln:EnZ q24:=fun _ _=>by kernel_rfl
def qsx:Ann:=⟨[0,1,2,3,4,5,8,21],[]⟩
def q8t:Tree:=(.need [(.ok 0 [(.tok 0)])] (.br (.not (.call 0 0 [(.tok 0)])) (.leaf [(.lit (.a [(.i 0),(.i 0),(.s ⟨#[]⟩),(.r [])])),(.lit (.b .false))]) (.need [(.ok 1 [(.tok 0)])] (.need [(.imp (.not (.not (.call 1 1 [(.tok 0)]))) (.ok 2 [(.call 1 0 [(.tok 0)])]))] (.br (.or (.not (.call 1 1 [(.tok 0)])) (.not (.call 2 0 [(.call 1 0 [(.tok 0)])]))) (.leaf [(.lit (.a [(.i 0),(.i 0),(.s ⟨#[]⟩),(.r [])])),(.lit (.b .false))]) (.leaf [(.call 1 0 [(.tok 0)]),(.lit (.b .true))]))))))
theorem qpd(g0 g1 g2:GfZ):CdZ [(ze,g0),(yf,g1),(q1i,g2)] qsx q24 Try.f107 q8t:=fun cd h=>by injection h with h;subst h;kernel_rfl
theorem qqs{g0 g1 g2 g:GfZ}(h0:FOk ze g0)(h1:FOk yf g1)(h2:FOk q1i g2)(h:HgZ q8t q24 [(ze,g0),(yf,g1),(q1i,g2)] g):FOk q24 g:=yl (qpd g0 g1 g2) (.cons h0 (.cons h1 (.cons h2 .nil))) rfl rfl qln (by decide) h
def q1c:Ct:=⟨104,[.val (.st 23)],[(.st 23,false)],[],none,[],[]⟩
theorem qjc:EnZ q1c:=fun _ _=>by kernel_rfl
def qoe:Ann:=⟨[0,1,2,3,4,10],[]⟩
def q7j:Tree:=(.need [(.ok 0 [(.tok 0)])] (.br (.call 0 1 [(.tok 0)]) (.leaf [(.call 0 0 [(.tok 0)])]) (.leaf [(.set (.set (.set (.lit (.a [(.i 0),(.i 0),(.s ⟨#[]⟩),(.r [])])) 0 (.lit (.i 3))) 2 (.lit (.s ⟨#[99,97,108,108]⟩))) 3 (.row [(.tok 0)]))])))
theorem qmf(g0:GfZ):CdZ [(q24,g0)] qoe q1c Try.f104 q7j:=fun cd h=>by injection h with h;subst h;kernel_rfl
theorem qp5{g0 g:GfZ}(h0:FOk q24 g0)(h:HgZ q7j q1c [(q24,g0)] g):FOk q1c g:=yl (qmf g0) (.cons h0 .nil) rfl rfl qjc (by decide) h
def q1h:Ct:=⟨89,[.val (.st 23)],[(.bool,false)],[],none,[],[]⟩
theorem qk3:EnZ q1h:=fun _ _=>by kernel_rfl
def qof:Ann:=⟨[0,1,2,3,8,9,17],[]⟩
def q72:Tree:=
 let b:X:=.fld (.tok 0) 2
 let j:X:=.lit (.b .true)
 let k:X:=.len (.fld (.tok 0) 3)
 let a:X:=.eq b (.lit (.s ⟨#[]⟩))
 let d:X:=.not (.eq k (.lit (.i 3)))
 let e:X:=.lt (.lit (.i 0)) (.slen b)
 let f:X:=.eq b (.lit (.s ⟨#[102,105,110,100,97,108,108]⟩))
 let h:X:=.eq b (.lit (.s ⟨#[98,97,103,111,102]⟩))
 let i:X:=.eq b (.lit (.s ⟨#[99,97,116,99,104]⟩))
 let c:X:=.or a (.not (.eq (.sget b (.lit (.i 0))) (.lit (.i 36))))
 let g:X:=.not a
 (.br (.eq b (.lit (.s ⟨#[99,97,108,108]⟩))) (.leaf [(.or (.lt k (.lit (.i 1))) (.lt (.lit (.i 8)) k))]) (.br i (.br i (.leaf [d]) (.need [(.imp g j),(.imp g e)] (.leaf [c]))) (.br f (.br f (.leaf [d]) (.need [(.imp g j),(.imp g e)] (.leaf [c]))) (.br h (.br h (.leaf [d]) (.need [(.imp g j),(.imp g e)] (.leaf [c]))) (.br (.eq b (.lit (.s ⟨#[115,101,116,111,102]⟩))) (.leaf [d]) (.need [(.imp g j),(.imp g e)] (.leaf [c])))))))
theorem ql0:CdZ [] qof q1h Try.f89 q72:=fun cd h=>by injection h with h;subst h;kernel_rfl
theorem qo7{g:GfZ}(h:HgZ q72 q1h [] g):FOk q1h g:=yl (ql0) .nil rfl rfl qk3 (by decide) h
def q1n:Ct:=⟨90,[.val (.st 23)],[(.st 41,false)],[],none,[],[]⟩
theorem qix:EnZ q1n:=fun _ _=>by kernel_rfl
def qot:Ann:=⟨[0,1,2],[]⟩
def q7g:Tree:=(.need [(.ok 0 [(.tok 0)]),(.ok 0 [(.tok 0)])] (.leaf [(.set (.set (.set (.lit (.a [(.i 0),(.a [(.s ⟨#[]⟩),(.i 0),(.i 0)]),(.r []),(.i 0)])) 0 (.lit (.i 1))) 1 (.set (.set (.lit (.a [(.s ⟨#[]⟩),(.i 0),(.i 0)])) 0 (.fld (.tok 0) 2)) 1 (.len (.fld (.tok 0) 3)))) 2 (.fld (.call 0 0 [(.tok 0)]) 3))]))
theorem ql2(g0:GfZ):CdZ [(yb,g0)] qot q1n Try.f90 q7g:=fun cd h=>by injection h with h;subst h;kernel_rfl
theorem qp1{g0 g:GfZ}(h0:FOk yb g0)(h:HgZ q7g q1n [(yb,g0)] g):FOk q1n g:=yl (ql2 g0) (.cons h0 .nil) rfl rfl qix (by decide) h
def q26:Ct:=⟨91,[.val (.int .i64),.val (.st 23),.val (.st 23)],[(.st 41,false)],[],none,[],[]⟩
theorem ql5:EnZ q26:=fun _ _=>by kernel_rfl
def qra:Ann:=⟨[0,1,2,4,5,6],[]⟩
def q9h:Tree:=(.need [(.ok 0 [(.tok 2)])] (.leaf [(.set (.set (.set (.lit (.a [(.i 0),(.a [(.s ⟨#[]⟩),(.i 0),(.i 0)]),(.r []),(.i 0)])) 0 (.lit (.i 1))) 1 (.set (.set (.lit (.a [(.s ⟨#[]⟩),(.i 0),(.i 0)])) 1 (.lit (.i 2))) 2 (.tok 0))) 2 (.row [(.tok 1),(.call 0 0 [(.tok 2)])]))]))
theorem qps(g0:GfZ):CdZ [(yb,g0)] qra q26 Try.f91 q9h:=fun cd h=>by injection h with h;subst h;kernel_rfl
theorem qtk{g0 g:GfZ}(h0:FOk yb g0)(h:HgZ q9h q26 [(yb,g0)] g):FOk q26 g:=yl (qps g0) (.cons h0 .nil) rfl rfl ql5 (by decide) h
def q1l:Ct:=⟨34,[.val (.row 24),.val (.int .i64)],[(.int .i64,false),(.bool,false)],[],none,[],[]⟩
theorem qk6:EnZ q1l:=fun _ _=>by kernel_rfl
def qno:Ann:=⟨[0,1,4,5,6,10,18,28],[(2,⟨[(4,.int .i64,false),(5,.bool,false),(1,.int .i64,false),(6,.int .i64,false)],[],[7,8,9,10,13,14,15,16,17,18,19,20,21,22,23,24,25,26,27,28,29,11,12],[]⟩)]⟩
def q7l:Tree:=(.loop 2 2 [(.lit (.i 0)),(.lit (.b .false)),(.tok 1),(.lit (.i 0))] (.br (.lt (.tok 5) (.len (.tok 0))) (.need [(.le (.lit (.i 0)) (.tok 5)),(.lt (.tok 5) (.len (.tok 0))),(.ok 0 [(.get (.tok 0) (.tok 5))])] (.br (.not (.call 0 0 [(.get (.tok 0) (.tok 5))])) (.leaf [(.tok 4),(.lit (.b .false))]) (.need [(.le (.lit (.i 0)) (.tok 5)),(.lt (.tok 5) (.len (.tok 0))),(.ok 1 [(.get (.tok 0) (.tok 5))]),(.rng .i64 (.add (.tok 4) (.call 1 0 [(.get (.tok 0) (.tok 5))])))] (.br (.lt (.lit (.i 131072)) (.add (.tok 4) (.call 1 0 [(.get (.tok 0) (.tok 5))]))) (.leaf [(.add (.tok 4) (.call 1 0 [(.get (.tok 0) (.tok 5))])),(.lit (.b .false))]) (.need [(.rng .i64 (.add (.tok 5) (.lit (.i 1))))] (.back 2 [(.tok 2),(.tok 3),(.add (.tok 4) (.call 1 0 [(.get (.tok 0) (.tok 5))])),(.add (.tok 5) (.lit (.i 1)))])))))) (.leaf [(.tok 4),(.lit (.b .true))])))
theorem qkp(g0 g1:GfZ):CdZ [(ze,g0),(yj,g1)] qno q1l Try.f34 q7l:=fun cd h=>by injection h with h;subst h;kernel_rfl
theorem qos{g0 g1 g:GfZ}(h0:FOk ze g0)(h1:FOk yj g1)(h:HgZ q7l q1l [(ze,g0),(yj,g1)] g):FOk q1l g:=yl (qkp g0 g1) (.cons h0 (.cons h1 .nil)) rfl rfl qk6 (by decide) h
def jx:Ct:=⟨35,[.val (.st 34)],[(.bool,false)],[],none,[],[]⟩
theorem qef:EnZ jx:=fun _ _=>by kernel_rfl
def qgb:Ann:=⟨[0,1,2,5],[]⟩
def q4m:Tree:=(.br (.eq (.fld (.tok 0) 2) (.lit (.i 0))) (.leaf [(.and (.and (.le (.slen (.fld (.tok 0) 0)) (.lit (.i 100))) (.le (.lit (.i 0)) (.fld (.tok 0) 1))) (.le (.fld (.tok 0) 1) (.lit (.i 8))))]) (.leaf [(.and (.and (.and (.and (.eq (.fld (.tok 0) 0) (.lit (.s ⟨#[]⟩))) (.le (.lit (.i 1)) (.fld (.tok 0) 2))) (.le (.fld (.tok 0) 2) (.lit (.i 1099511627776)))) (.le (.lit (.i 0)) (.fld (.tok 0) 1))) (.le (.fld (.tok 0) 1) (.lit (.i 4096))))]))
theorem qfb:CdZ [] qgb jx Try.f35 q4m:=fun cd h=>by injection h with h;subst h;kernel_rfl
theorem qgj{g:GfZ}(h:HgZ q4m jx [] g):FOk jx g:=yl (qfb) .nil rfl rfl qef (by decide) h
def jz:Ct:=⟨14,[.val (.st 37)],[(.bool,false)],[],none,[],[]⟩
theorem qj7:EnZ jz:=fun _ _=>by kernel_rfl
def qpr:Ann:=⟨[0,1,2,3,4,5,6,7,30,35,44,45,64,73,74,105,106,122],[(6,⟨[(2,.bool,false),(3,.int .i64,false),(4,.bool,false),(5,.bool,false),(6,.int .i64,false)],[],[31,32,33,34,35,38,39,40,41,42,7,43,44,46,45,47,48,49,50,51,52,53,54,55,56,57,58,59,60,61,62,63,64,66,67,68,69,65,70,71,72,73,75,74,76,77,78,79,80,81,82,83,84,85,86,87,88,89,90,91,92,93,94,95,96,97,98,99,100,101,102,103,104,105,107,106,108,109,110,111,112,113,114,115,116,117,118,119,120,121,122,36,37],[]⟩)]⟩
def q80:Tree:=
 let c:X:=.add (.tok 5) (.lit (.i 1))
 let e:X:=.lit (.b .false)
 let i:X:=.tok 2
 let j:X:=.tok 0
 let k:X:=.lit (.i 0)
 let l:X:=.tok 1
 let o:X:=.tok 3
 let p:X:=.tok 4
 let a:X:=.get (.fld j 2) (.tok 5)
 let f:X:=.call 0 1 [(.fld j 1),k]
 let h:X:=.rng .i64 c
 let q:X:=.lt (.tok 5) (.len (.fld j 2))
 let g:X:=.fld a 0
 let n:X:=.fld a 2
 let b:X:=.or (.or (.or (.or (.lt (.fld a 3) k) (.lt (.lit (.i 1099511627776)) (.fld a 3))) (.not (.eq (.fld a 1) (.lit (.a [(.s ⟨#[]⟩),(.i 0),(.i 0)]))))) (.not (.eq (.len n) k))) (.and (.eq g (.lit (.i 2))) p)
 let d:X:=.or (.or (.not (.eq (.fld a 3) k)) (.not (.eq (.fld a 1) (.lit (.a [(.s ⟨#[]⟩),(.i 0),(.i 0)]))))) (.not (.eq (.len n) k))
 let m:X:=.eq g (.lit (.i 5))
 (.need [(.ok 0 [(.fld j 1),k])] (.need [(.imp (.not (.not f)) (.ok 1 [(.fld j 0)]))] (.br (.or (.or (.not f) (.not (.call 1 0 [(.fld j 0)]))) (.not (.eq (.len (.fld j 1)) (.fld (.fld j 0) 1)))) (.leaf [e]) (.loop 6 1 [e,(.call 0 0 [(.fld j 1),k]),f,e,k] (.br q (.need [(.le k (.tok 5)),q] (.br (.eq g (.lit (.i 1))) (.need [(.ok 1 [(.fld a 1)])] (.br (.or (.or (.not (.call 1 0 [(.fld a 1)])) (.not (.eq (.len n) (.fld (.fld a 1) 1)))) (.not (.eq (.fld a 3) k))) (.leaf [e]) (.need [(.ok 0 [n,i])] (.br (.not (.call 0 1 [n,i])) (.leaf [e]) (.need [h] (.back 6 [l,(.call 0 0 [n,i]),(.call 0 1 [n,i]),(.lit (.b .true)),c])))))) (.br (.eq g (.lit (.i 2))) (.br (.eq g (.lit (.i 2))) (.br b (.leaf [e]) (.need [h] (.back 6 [l,i,o,p,c]))) (.br m (.br d (.leaf [e]) (.need [h] (.back 6 [l,i,o,p,c]))) (.leaf [e]))) (.br (.eq g (.lit (.i 3))) (.br (.eq g (.lit (.i 3))) (.br b (.leaf [e]) (.need [h] (.back 6 [l,i,o,p,c]))) (.br m (.br d (.leaf [e]) (.need [h] (.back 6 [l,i,o,p,c]))) (.leaf [e]))) (.br (.eq g (.lit (.i 4))) (.br b (.leaf [e]) (.need [h] (.back 6 [l,i,o,p,c]))) (.br m (.br d (.leaf [e]) (.need [h] (.back 6 [l,i,o,p,c]))) (.leaf [e]))))))) (.leaf [(.lit (.b .true))]))))))
theorem qkv(g0 g1:GfZ):CdZ [(q1l,g0),(jx,g1)] qpr jz Try.f14 q80:=fun cd h=>by injection h with h;subst h;kernel_rfl
theorem qph{g0 g1 g:GfZ}(h0:FOk q1l g0)(h1:FOk jx g1)(h:HgZ q80 jz [(q1l,g0),(jx,g1)] g):FOk jz g:=yl (qkv g0 g1) (.cons h0 (.cons h1 .nil)) rfl rfl qj7 (by decide) h
def y4:Ct:=⟨26,[.rref (.st 60),.val (.st 37)],[(.row 38,false),(.bool,false)],[],none,[],[]⟩
theorem q7s:EnZ y4:=fun _ _=>by kernel_rfl
def q9e:Ann:=⟨[0,1,3,4,5,6,7,8,17,32,40],[(3,⟨[(6,.row 38,false),(7,.int .i64,false)],[],[11,12,13,14,15,16,17,20,21,22,23,24,25,26,27,28,18,19],[]⟩),
 (7,⟨[(4,.row 38,false),(5,.bool,false),(8,.int .i64,false)],[],[29,30,31,32,35,36,37,38,39,40,33,34],[]⟩)]⟩
def q1m:Tree:=(.loop 3 2 [(.row [(.tok 1)]),(.lit (.i 0))] (.br (.lt (.tok 3) (.len (.fld (.tok 0) 2))) (.need [(.le (.lit (.i 0)) (.tok 3)),(.lt (.tok 3) (.len (.fld (.tok 0) 2))),(.le (.add (.len (.tok 2)) (.len (.get (.fld (.tok 0) 2) (.tok 3)))) (.lit (.i 1759218604390)))] (.need [(.rng .i64 (.add (.tok 3) (.lit (.i 1))))] (.back 3 [(.app (.tok 2) (.get (.fld (.tok 0) 2) (.tok 3))),(.add (.tok 3) (.lit (.i 1)))]))) (.loop 7 4 [(.lit (.r [])),(.lit (.b .false)),(.lit (.i 0))] (.br (.lt (.tok 6) (.len (.tok 2))) (.need [(.le (.lit (.i 0)) (.tok 6)),(.lt (.tok 6) (.len (.tok 2))),(.ok 0 [(.get (.tok 2) (.tok 6))])] (.br (.not (.call 0 0 [(.get (.tok 2) (.tok 6))])) (.leaf [(.lit (.r [])),(.lit (.b .false))]) (.need [(.rng .i64 (.add (.tok 6) (.lit (.i 1))))] (.back 7 [(.tok 4),(.tok 5),(.add (.tok 6) (.lit (.i 1)))])))) (.leaf [(.tok 2),(.lit (.b .true))])))))
theorem q8f(g0:GfZ):CdZ [(jz,g0)] q9e y4 Try.f26 q1m:=fun cd h=>by injection h with h;subst h;kernel_rfl
theorem q9a{g0 g:GfZ}(h0:FOk jz g0)(h:HgZ q1m y4 [(jz,g0)] g):FOk y4 g:=yl (q8f g0) (.cons h0 .nil) rfl rfl q7s (by decide) h
def q1k:Ct:=⟨40,[.val (.st 37),.val (.st 37)],[(.bool,false)],[],none,[],[]⟩
theorem qk1:EnZ q1k:=fun _ _=>by kernel_rfl
def qpa:Ann:=⟨[0,1,2,3,4,5,6,7,29,34,73],[(4,⟨[(4,.bool,false),(5,.int .i64,false)],[],[30,31,32,33,34,37,38,39,40,41,42,43,44,45,46,6,7,47,48,49,50,51,52,53,54,55,56,57,58,59,60,61,62,63,64,65,66,67,68,69,70,71,72,73,35,36],[]⟩)]⟩
def q78:Tree:=
 let b:X:=.tok 3
 let c:X:=.fld (.tok 0) 2
 let d:X:=.tok 1
 let f:X:=.lit (.b .false)
 let h:X:=.lit (.i 0)
 let e:X:=.not (.eq (.fld (.tok 0) 0) (.fld d 0))
 let g:X:=.fld d 2
 let a:X:=.or (.or (.not (.eq (.fld (.get c b) 0) (.fld (.get g b) 0))) (.not (.eq (.fld (.get c b) 1) (.fld (.get g b) 1)))) (.not (.eq (.fld (.get c b) 3) (.fld (.get g b) 3)))
 (.need [(.imp (.not e) (.ok 0 [(.fld (.tok 0) 1),(.fld d 1)]))] (.br (.or (.or e (.not (.call 0 0 [(.fld (.tok 0) 1),(.fld d 1)]))) (.not (.eq (.len c) (.len g)))) (.leaf [f]) (.loop 4 2 [f,h] (.br (.lt b (.len c)) (.need [(.le h b),(.lt b (.len g)),(.le h b),(.lt b (.len c))] (.need [(.imp (.not a) (.ok 0 [(.fld (.get c b) 2),(.fld (.get g b) 2)]))] (.br (.or a (.not (.call 0 0 [(.fld (.get c b) 2),(.fld (.get g b) 2)]))) (.leaf [f]) (.need [(.rng .i64 (.add b (.lit (.i 1))))] (.back 4 [(.tok 2),(.add b (.lit (.i 1)))]))))) (.leaf [(.lit (.b .true))])))))
theorem qlb(g0:GfZ):CdZ [(jd,g0)] qpa q1k Try.f40 q78:=fun cd h=>by injection h with h;subst h;kernel_rfl
theorem qow{g0 g:GfZ}(h0:FOk jd g0)(h:HgZ q78 q1k [(jd,g0)] g):FOk q1k g:=yl (qlb g0) (.cons h0 .nil) rfl rfl qk1 (by decide) h
def q23:Ct:=⟨16,[.val (.st 37),.val (.st 37)],[(.bool,false)],[],none,[],[]⟩
theorem qly:EnZ q23:=fun _ _=>by kernel_rfl
def qr8:Ann:=⟨[0,1,2,3,4],[]⟩
def q8y:Tree:=(.need [(.ok 0 [(.tok 0)]),(.imp (.call 0 0 [(.tok 0)]) (.ok 0 [(.tok 1)])),(.imp (.and (.call 0 0 [(.tok 0)]) (.call 0 0 [(.tok 1)])) (.ok 1 [(.tok 0),(.tok 1)]))] (.leaf [(.and (.and (.call 0 0 [(.tok 0)]) (.call 0 0 [(.tok 1)])) (.call 1 0 [(.tok 0),(.tok 1)]))]))
theorem qoy(g0 g1:GfZ):CdZ [(jz,g0),(q1k,g1)] qr8 q23 Try.f16 q8y:=fun cd h=>by injection h with h;subst h;kernel_rfl
theorem qt1{g0 g1 g:GfZ}(h0:FOk jz g0)(h1:FOk q1k g1)(h:HgZ q8y q23 [(jz,g0),(q1k,g1)] g):FOk q23 g:=yl (qoy g0 g1) (.cons h0 (.cons h1 .nil)) rfl rfl qly (by decide) h
def q0m:Ct:=⟨8,[.val (.row 38),.val (.row 38)],[(.bool,false)],[],none,[],[]⟩
theorem qgl:EnZ q0m:=fun _ _=>by kernel_rfl
def qkf:Ann:=⟨[0,1,4,5,10,14,26],[(4,⟨[(4,.bool,false),(5,.int .i64,false)],[],[11,12,13,14,17,18,19,20,21,22,23,24,25,26,15,16],[]⟩)]⟩
def q5m:Tree:=(.br (.not (.eq (.len (.tok 0)) (.len (.tok 1)))) (.leaf [(.lit (.b .false))]) (.loop 4 2 [(.lit (.b .false)),(.lit (.i 0))] (.br (.lt (.tok 3) (.len (.tok 0))) (.need [(.ok 0 [(.get (.tok 0) (.tok 3)),(.get (.tok 1) (.tok 3))]),(.le (.lit (.i 0)) (.tok 3)),(.lt (.tok 3) (.len (.tok 1))),(.le (.lit (.i 0)) (.tok 3)),(.lt (.tok 3) (.len (.tok 0)))] (.br (.not (.call 0 0 [(.get (.tok 0) (.tok 3)),(.get (.tok 1) (.tok 3))])) (.leaf [(.lit (.b .false))]) (.need [(.rng .i64 (.add (.tok 3) (.lit (.i 1))))] (.back 4 [(.tok 2),(.add (.tok 3) (.lit (.i 1)))])))) (.leaf [(.lit (.b .true))]))))
theorem qhi(g0:GfZ):CdZ [(q23,g0)] qkf q0m Try.f8 q5m:=fun cd h=>by injection h with h;subst h;kernel_rfl
theorem qj4{g0 g:GfZ}(h0:FOk q23 g0)(h:HgZ q5m q0m [(q23,g0)] g):FOk q0m g:=yl (qhi g0) (.cons h0 .nil) rfl rfl qgl (by decide) h
def q7o:Ct:=⟨27,[.val (.str)],[(.st 23,false)],[],none,[],[]⟩
theorem qvu:EnZ q7o:=fun _ _=>by kernel_rfl
def z1i:Ann:=⟨[0,2],[]⟩
def qdc:Tree:=(.leaf [(.set (.set (.lit (.a [(.i 0),(.i 0),(.s ⟨#[]⟩),(.r [])])) 0 (.lit (.i 2))) 2 (.tok 0))])
theorem qxk:CdZ [] z1i q7o Try.f27 qdc:=fun cd h=>by injection h with h;subst h;kernel_rfl
theorem z11{g:GfZ}(h:HgZ qdc q7o [] g):FOk q7o g:=yl (qxk) .nil rfl rfl qvu (by decide) h
def q74:Ct:=⟨28,[.val (.str),.val (.row 24)],[(.st 23,false)],[],none,[],[]⟩
theorem quq:EnZ q74:=fun _ _=>by kernel_rfl
def z20:Ann:=⟨[0,1,4],[]⟩
def qdl:Tree:=(.leaf [(.set (.set (.set (.lit (.a [(.i 0),(.i 0),(.s ⟨#[]⟩),(.r [])])) 0 (.lit (.i 3))) 2 (.tok 0)) 3 (.tok 1))])
theorem qyo:CdZ [] z20 q74 Try.f28 qdl:=fun cd h=>by injection h with h;subst h;kernel_rfl
theorem z1x{g:GfZ}(h:HgZ qdl q74 [] g):FOk q74 g:=yl (qyo) .nil rfl rfl quq (by decide) h
def q7m:Ct:=⟨29,[.val (.int .i64)],[(.st 23,false)],[],none,[],[]⟩
theorem qh4:EnZ q7m:=fun _ _=>by kernel_rfl
def z1v:Ann:=⟨[0,2],[]⟩
def qdi:Tree:=(.leaf [(.set (.lit (.a [(.i 0),(.i 0),(.s ⟨#[]⟩),(.r [])])) 1 (.tok 0))])
theorem qxs:CdZ [] z1v q7m Try.f29 qdi:=fun cd h=>by injection h with h;subst h;kernel_rfl
theorem z1p{g:GfZ}(h:HgZ qdi q7m [] g):FOk q7m g:=yl (qxs) .nil rfl rfl qh4 (by decide) h
def q0f:Ct:=⟨36,[.val (.row 24),.val (.row 24),.fn 37 []],[(.bool,false)],[],none,[],[]⟩
theorem q9l:EnZ q0f:=fun _ _=>by kernel_rfl
def qbh:Ann:=⟨[0,1,2,6,7,8,9,14,15,16,17,18,30],[(4,⟨[(6,.bool,false),(17,.int .i64,false)],[],[18,19,20,21,8,7,22,23,24,25,9,26,27,28,29,30,31],[]⟩)]⟩
def q2c:Tree:=(.br (.not (.eq (.len (.tok 0)) (.len (.tok 1)))) (.leaf [(.lit (.b .false))]) (.loop 4 2 [(.lit (.b .false)),(.lit (.i 0))] (.br (.lt (.tok 3) (.len (.tok 0))) (.need [(.le (.lit (.i 0)) (.tok 3)),(.lt (.tok 3) (.len (.tok 0)))] (.need [(.le (.lit (.i 0)) (.tok 3)),(.lt (.tok 3) (.len (.tok 1)))] (.need [(.ok 0 [(.get (.tok 0) (.tok 3)),(.get (.tok 1) (.tok 3))])] (.br (.not (.call 0 0 [(.get (.tok 0) (.tok 3)),(.get (.tok 1) (.tok 3))])) (.leaf [(.lit (.b .false))]) (.need [(.rng .i64 (.add (.tok 3) (.lit (.i 1))))] (.back 4 [(.tok 2),(.add (.tok 3) (.lit (.i 1)))])))))) (.leaf [(.lit (.b .true))]))))
theorem qae(g0:GfZ):CdZ [(jn,g0)] qbh q0f Try.f36 q2c:=fun cd h=>by injection h with h;subst h;kernel_rfl
theorem qbg{g0 g:GfZ}(h0:FOk jn g0)(h:HgZ q2c q0f [(jn,g0)] g):FOk q0f g:=yl (qae g0) (.cons h0 .nil) rfl rfl q9l (by decide) h
abbrev i64(n:Int):Prop:= -9223372036854775808≤n∧n≤9223372036854775807
theorem wfI{d:D}(h:Wf d (.int .i64)):∃n,d=.i n∧i64 n:=by
 obtain⟨n,rfl,hn⟩:=h.int;exact⟨n,rfl,z85.1 hn⟩
inductive Te where
 |mk(k n:Int)(s:ByteArray)(l:List Te)
instance:Inhabited Te:=⟨.mk 0 0 ⟨#[]⟩ []⟩
def Te.k:Te→Int|.mk k _ _ _=>k
def Te.n:Te→Int|.mk _ n _ _=>n
def Te.s:Te→ByteArray|.mk _ _ s _=>s
def Te.l:Te→List Te|.mk _ _ _ l=>l
mutual
theorem Te.ind0{P:Te→Prop}(h:∀k n s l,(∀t∈l,P t)→P (.mk k n s l)):∀t,P t
 |.mk k n s l=>h k n s l (Te.inds h l)
theorem Te.inds{P:Te→Prop}(h:∀k n s l,(∀t∈l,P t)→P (.mk k n s l)):∀(l:List Te),∀t∈l,P t
 |[],_,ht=>by cases ht
 |u::l,t,ht=>by
  exact(List.mem_cons.1 ht).elim (fun e=>e▸Te.ind0 h u) fun h'=>Te.inds h l t h'
end
mutual
def eT:Te→D
 |.mk k n s l=>.a [.i k,.i n,.s s,.r (eTs l)]
def eTs:List Te→List D
 |[]=>[]
 |t::l=>eT t::eTs l
end
theorem z4e:∀l,eTs l=l.map eT
 |[]=>rfl
 |t::l=>by rw[eTs,z4e l,List.map_cons]
theorem q6c(k n:Int)(s:ByteArray)(l:List Te):eT (.mk k n s l)=.a [.i k,.i n,.s s,.r (l.map eT)]:=by rw[eT,z4e]
mutual
def dT:D→Te
 |.a [.i k,.i n,.s s,.r l]=>.mk k n s (dTs l)
 |_=>.mk 0 0 ⟨#[]⟩ []
def dTs:List D→List Te
 |[]=>[]
 |d::l=>dT d::dTs l
end
mutual
theorem z9:∀t,dT (eT t)=t
 |.mk k n s l=>by simp only[eT,dT,z6b l]
theorem z6b:∀l,dTs (eTs l)=l
 |[]=>rfl
 |t::l=>by simp only[eTs,dTs,z9 t,z6b l]
end
theorem zia{t u:Te}(h:eT t=eT u):t=u:=by rw[←z9 t,h,z9 u]
theorem zgn(t u:Te):(eT t=eT u)=(t=u):=propext ⟨zia,fun h=>h▸rfl⟩
theorem zai(t:Te):(eT t).fld 0=.i t.k:=by cases t;rfl
theorem z8l(t:Te):(eT t).fld 1=.i t.n:=by cases t;rfl
theorem z9i(t:Te):(eT t).fld 2=.s t.s:=by cases t;rfl
theorem zhz(t:Te):(eT t).fld 3=.r (t.l.map eT):=by cases t;rw[q6c];rfl
theorem qjr(k n:Int)(s:ByteArray)(l:List Te)(x:Te):D.a ((eT (.mk k n s l)).fs.set 3 (.r (l.map eT++[eT x])))=eT (.mk k n s (l++[x])):=by
 rw[q6c,q6c];simp[D.fs]
def zT:Te:=.mk 0 0 ⟨#[]⟩ []
theorem zk1:D.a [.i 0,.i 0,.s ⟨#[]⟩,.r []]=eT zT:=rfl
theorem gnT:type_of% (uA @z9 (uA @zai (uA @z8l (uA @z9i (uA @zhz (uA @zgn @zk1)))))):=uA @z9 (uA @zai (uA @z8l (uA @z9i (uA @zhz (uA @zgn @zk1)))))
mutual
def szT:Te→Nat
 |.mk _ _ _ l=>q28 l+1
def q28:List Te→Nat
 |[]=>0
 |t::l=>szT t+q28 l
end
theorem qg5(t:Te):1≤szT t:=by cases t;rw[szT];omega
theorem qu4{t:Te}:∀{l:List Te},t∈l→szT t≤q28 l
 |u::l,h=>by
  rcases List.mem_cons.1 h with rfl|h
  ·rw[q28];omega
  ·have:=qu4 h;rw[q28];omega
theorem zfn{t u:Te}(h:u∈t.l):szT u<szT t:=by
 cases t;have:=qu4 h;rw[szT];exact Nat.lt_succ_of_le this
theorem qd7:∀(l m:List Te),q28 (l++m)=q28 l+q28 m
 |[],m=>by simp[q28]
 |t::l,m=>by rw[List.cons_append,q28,q28,qd7 l m];omega
theorem qg0{l:List Te}{k:Nat}(h:k<l.length):q28 (l.take (k+1))=q28 (l.take k)+szT (l.getD k default):=by
 rw[jr h,qd7];simp[q28]
theorem z0u(t:Te):szT t=q28 t.l+1:=by cases t;rw[szT];rfl
mutual
def okT:Te→Prop
 |.mk k n s l=>i64 k∧i64 n∧s.size≤LIM∧l.length≤2513169434843∧ze7 l
def ze7:List Te→Prop
 |[]=>True
 |t::l=>okT t∧ze7 l
end
theorem z0l:∀{l:List Te},ze7 l↔∀t∈l,okT t
 |[]=>⟨fun _ t h=>(by cases h),fun _=>trivial⟩
 |t::l=>by rw[ze7,z0l];simp
theorem z8h{k n:Int}{s:ByteArray}{l:List Te}:okT (.mk k n s l)↔i64 k∧i64 n∧s.size≤LIM∧l.length≤2513169434843∧∀t∈l,okT t:=by rw[okT,z0l]
theorem okT.l{t:Te}(h:okT t):t.l.length≤2513169434843:=by cases t;exact(z8h.1 h).2.2.2.1
theorem z6d(d:D):(Wf d q48→∃t,d=eT t∧okT t)∧(Wf d qc2→∃l:List Te,d=.r (l.map eT)∧l.length≤2513169434843∧∀t∈l,okT t):=by
 have noS:∀{d:D},Wf d q48→∃l,d=.a l:=fun h=>let ⟨l,e,_⟩:=h.st_of (fs:=[.int .i64,.int .i64,.str,qc2]) rfl;⟨l,e⟩
 have noR:∀{d:D},Wf d qc2→∃l,d=.r l:=fun h=>let ⟨l,e,_⟩:=h.row_of (te:=q48) rfl;⟨l,e⟩
 induction d using D.ind with
 |hu=>exact⟨fun h=>(by obtain⟨_,e⟩:=noS h;cases e),fun h=>(by obtain⟨_,e⟩:=noR h;cases e)⟩
 |hi n=>exact⟨fun h=>(by obtain⟨_,e⟩:=noS h;cases e),fun h=>(by obtain⟨_,e⟩:=noR h;cases e)⟩
 |hb n=>exact⟨fun h=>(by obtain⟨_,e⟩:=noS h;cases e),fun h=>(by obtain⟨_,e⟩:=noR h;cases e)⟩
 |hs n=>exact⟨fun h=>(by obtain⟨_,e⟩:=noS h;cases e),fun h=>(by obtain⟨_,e⟩:=noR h;cases e)⟩
 |hm n=>exact⟨fun h=>(by obtain⟨_,e⟩:=noS h;cases e),fun h=>(by obtain⟨_,e⟩:=noR h;cases e)⟩
 |ha l ih=>
  refine⟨fun h=>?_,fun h=>(by obtain⟨_,e⟩:=noR h;cases e)⟩;obtain⟨ds,e,hl⟩:=h.st_of (fs:=[.int .i64,.int .i64,.str,qc2]) rfl;injection e with e;subst e;obtain⟨d0,r,rfl,h0,hl⟩:=q62 hl;obtain⟨d1,r,rfl,h1,hl⟩:=q62 hl;obtain⟨d2,d3,rfl,h2,h3⟩:=z0y hl;obtain⟨k,rfl,hk⟩:=wfI h0;obtain⟨n,rfl,hn⟩:=wfI h1;obtain⟨s,rfl,hs⟩:=h2.str;obtain⟨ts,rfl,h4,h5⟩:=(ih d3 (by simp)).2 h3;exact⟨.mk k n s ts,(q6c _ _ _ _).symm,z8h.2 ⟨hk,hn,hs,h4,h5⟩⟩
 |hr l ih=>
  refine⟨fun h=>(by obtain⟨_,e⟩:=noS h;cases e),fun h=>?_⟩;obtain⟨l',e,h1,h2⟩:=h.row_of (te:=q48) rfl;injection e with e;subst e;obtain⟨m,rfl,h3⟩:=qi3 (e:=eT) (P:=okT) fun x hx=>(ih x hx).1 (h2 x hx);have e:LM q48=2513169434843:=by kernel_rfl
  rw[e,List.length_map] at h1;exact⟨m,rfl,h1,h3⟩
theorem wfT{d:D}(h:Wf d q48):∃t,d=eT t∧okT t:=(z6d d).1 h
theorem qib{d:D}(h:Wf d qc2):∃l:List Te,d=.r (l.map eT)∧l.length≤2513169434843∧∀t∈l,okT t:=(z6d d).2 h
def qbt(t:Te):Bool:=
 if t.k=0 then decide (0≤t.n)&&(decide (t.n≤1099511627776)&&(decide (t.s=⟨#[]⟩)&&decide ((t.l.length:Int)=0)))
 else if t.k=1 then decide (t.s=⟨#[]⟩)&&decide ((t.l.length:Int)=0)
 else if t.k=2 then decide (t.n=0)&&(decide ((t.s.size:Int)≤100)&&decide ((t.l.length:Int)=0))
 else if t.k=3 then decide (t.n=0)&&(decide ((t.s.size:Int)≤100)&&(decide (1≤(t.l.length:Int))&&decide ((t.l.length:Int)≤8)))
 else false
mutual
def j4:Te→Bool
 |.mk k n s l=>qbt (.mk k n s l)&&q36 l
def q36:List Te→Bool
 |[]=>true
 |t::l=>j4 t&&q36 l
end
theorem q5w:∀{l:List Te},q36 l=true↔∀t∈l,j4 t=true
 |[]=>⟨fun _ t h=>(by cases h),fun _=>rfl⟩
 |t::l=>by rw[q36,gnB,q5w];simp
theorem qhp(t:Te):j4 t=(qbt t&&(List.range t.l.length).all fun i=>j4 (t.l.getD i default)):=by
 cases t with
 |mk k n s l=>
  rw[j4]
  congr 1
  rw[Bool.eq_iff_iff,q5w,List.all_eq_true];refine⟨fun h i hi=>h _ (qr5 (List.mem_range.1 hi)),fun h t ht=>?_⟩;obtain⟨i,hi,rfl⟩:=List.getElem_of_mem ht;have:=h i (List.mem_range.2 hi);rwa [show(Te.mk k n s l).l.getD i default=l[i] by simp[Te.l,gnG,gnK hi]] at this
def zb(t:Te):Bool:=decide (szT t≤2000)&&j4 t
mutual
def idT:Te→Te→Bool
 |.mk k n s l,.mk k' n' s' l'=>decide (k=k')&&(decide (n=n')&&(decide (s=s')&&z3k l l'))
def z3k:List Te→List Te→Bool
 |[],[]=>true
 |t::l,u::m=>idT t u&&z3k l m
 |_,_=>false
end
mutual
theorem qfv:∀(t u:Te),idT t u=true↔t=u
 |.mk k n s l,.mk k' n' s' l'=>by simp[idT,z0m l l']
theorem z0m:∀(l m:List Te),z3k l m=true↔l=m
 |[],[]=>by simp[z3k]
 |t::l,u::m=>by simp[z3k,qfv t u,z0m l m]
 |[],_::_=>by simp[z3k]
 |_::_,[]=>by simp[z3k]
end
instance:DecidableEq Te:=fun t u=>if h:idT t u=true then .isTrue ((qfv t u).1 h) else .isFalse fun e=>h ((qfv t u).2 e)
end Go.Proofs.Ytbmaffphliignaa
