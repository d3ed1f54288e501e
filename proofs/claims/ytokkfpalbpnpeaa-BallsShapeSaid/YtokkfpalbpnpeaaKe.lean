/-
 Lemmas of the walk and plain laws, put together. No condition.
-/
import Derived.Test.YtokkfpalbpnpeaaKd
namespace Go.Proofs.Ytokkfpalbpnpeaa
open Go.RowKit
set_option linter.unusedVariables false
set_option linter.unusedSimpArgs false
set_option maxRecDepth 100000
open _root_.And renaming intro→uA
open _root_.Option.some renaming injEq→uB
open _root_.Option renaming ite_none_right_eq_some→uC,isSome_some→uW,getD_some→uZ
open _root_.List renaming getD_cons_zero→uD,map_cons→uF,map_nil→uG,take_length→uI,length_cons→uJ,length_nil→uL,length_map→uM,mem_cons→uO,cons_append→uQ,all_eq_true→uR,mem_range→uS,getElem?_cons_zero→uT,getElem?_cons_succ→uU,take_append_drop→uV,take_succ_cons→uX,getD_cons_succ→uY,length_take→kB,nil_append→kC,map_append→kE,take_zero→kI,map_map→kK,length→kM
open _root_.Go.Proofs.Try renaming prog→uE,f3→kN
open _root_.Bool renaming and_assoc→uH,and_eq_false_iff→uN,eq_false_iff→uP,eq_iff_iff→kG,and_true→kJ,or_true→kL
open _root_.Nat renaming zero_le→uK,lt_of_lt_of_le→kA,not_lt_zero→kH
abbrev q7t:Ty:=.row 24
abbrev zk:Ty:=.st 23
abbrev GfZ:=List D→Option (List D)
def EnZ(ct:Ct):Prop:=∀(args:Array Value)(w:World),(callFunc ct.f args).run uE w=.ok (.enter ct.f args) w
def CdZ(T:Tbl)(a:Ann)(ct:Ct)(f:Func)(t:Tree):Prop:=∀cd,f.body=some cd→qgu uE T a ct f cd=t
def HgZ(t:Tree)(ct:Ct)(T:Tbl)(g:GfZ):Prop:=∀ds outs,WfA ct.ars ds→g ds=some outs→t.go (qx T) (fun o=>o=outs) ds fun _ _=>False
theorem yx{ct:Ct}{g:GfZ}{T:Tbl}{a:Ann}{f:Func}{t:Tree}{cd:Code}(hc:CdZ T a ct f t)(htb:ym T)(hf:uE.funcs[ct.f]? =some f)(hb:f.body=some cd)(he:EnZ ct)(hd:ct.ar.length≤f.ntmps)(h:HgZ t ct T g)(hnp:qew T=true:=by rfl)(hkp:ct.kp=[]:=by rfl)(hfl:ct.fl=[]:=by rfl)(hsp:spB T=false:=by rfl):FOk ct g:=
 qyw a f cd htb hf hb he hd (fun ds outs hw hg=>by rw[hc cd hb];exact h ds outs hw hg) hnp hkp hfl hsp
def ze:Ct:=⟨31,[.val (.st 23),.val (.int .i64)],[(.int .i64,false)],[],none,[],[]⟩
theorem q3a:EnZ ze:=fun _ _=>by kernel_rfl
def qbe:Ann:=⟨[0,1,2,4,5,6,16],[(3,⟨[(5,.int .i64,false),(6,.int .i64,false)],[],[7,8,9,10,11,12,13,14,15,16,19,20,21,22,23,24,25,26,27,28,29,17,18],[]⟩)]⟩
def q1n:Tree:=(.loop 3 2 [(.lit (.i 1)),(.lit (.i 0))] (.br (.and (.lt (.tok 3) (.len (.fld (.tok 0) 3))) (.lt (.tok 2) (.tok 1))) (.need [(.le (.lit (.i 0)) (.tok 3)),(.lt (.tok 3) (.len (.fld (.tok 0) 3))),(.rng .i64 (.sub (.tok 1) (.tok 2))),(.ok 0 [(.get (.fld (.tok 0) 3) (.tok 3)),(.sub (.tok 1) (.tok 2))]),(.rng .i64 (.add (.tok 2) (.call 0 0 [(.get (.fld (.tok 0) 3) (.tok 3)),(.sub (.tok 1) (.tok 2))])))] (.need [(.rng .i64 (.add (.tok 3) (.lit (.i 1))))] (.back 3 [(.add (.tok 2) (.call 0 0 [(.get (.fld (.tok 0) 3) (.tok 3)),(.sub (.tok 1) (.tok 2))])),(.add (.tok 3) (.lit (.i 1)))]))) (.leaf [(.tok 2)])))
theorem q96(g0:GfZ):CdZ [(ze,g0)] qbe ze Try.f31 q1n:=fun cd h=>by injection h with h;subst h;kernel_rfl
theorem qb4{g0 g:GfZ}(h0:FOk ze g0)(h:HgZ q1n ze [(ze,g0)] g):FOk ze g:=yx (q96 g0) (.cons h0 .nil) rfl rfl q3a (by decide) h
def y8:Ct:=⟨15,[.val (.st 23)],[(.int .i64,false)],[],none,[],[]⟩
theorem qai:EnZ y8:=fun _ _=>by kernel_rfl
def qe3:Ann:=⟨[0,1,2],[]⟩
def q24:Tree:=(.need [(.ok 0 [(.tok 0),(.lit (.i 2001))])] (.leaf [(.call 0 0 [(.tok 0),(.lit (.i 2001))])]))
theorem qav(g0:GfZ):CdZ [(ze,g0)] qe3 y8 Try.f15 q24:=fun cd h=>by injection h with h;subst h;kernel_rfl
theorem qe6{g0 g:GfZ}(h0:FOk ze g0)(h:HgZ q24 y8 [(ze,g0)] g):FOk y8 g:=yx (qav g0) (.cons h0 .nil) rfl rfl qai (by decide) h
def yk:Ct:=⟨32,[.val (.st 23)],[(.bool,false)],[],none,[],[]⟩
theorem q9b:EnZ yk:=fun _ _=>by kernel_rfl
def qe0:Ann:=⟨[0,1,2,4,5,26,37,54],[]⟩
def q2d:Tree:=(.br (.eq (.fld (.tok 0) 0) (.lit (.i 0))) (.leaf [(.and (.and (.and (.le (.lit (.i 0)) (.fld (.tok 0) 1)) (.le (.fld (.tok 0) 1) (.lit (.i 1099511627776)))) (.eq (.fld (.tok 0) 2) (.lit (.s ⟨#[]⟩)))) (.eq (.len (.fld (.tok 0) 3)) (.lit (.i 0))))]) (.br (.eq (.fld (.tok 0) 0) (.lit (.i 1))) (.leaf [(.and (.eq (.fld (.tok 0) 2) (.lit (.s ⟨#[]⟩))) (.eq (.len (.fld (.tok 0) 3)) (.lit (.i 0))))]) (.br (.eq (.fld (.tok 0) 0) (.lit (.i 2))) (.leaf [(.and (.and (.eq (.fld (.tok 0) 1) (.lit (.i 0))) (.le (.slen (.fld (.tok 0) 2)) (.lit (.i 100)))) (.eq (.len (.fld (.tok 0) 3)) (.lit (.i 0))))]) (.br (.eq (.fld (.tok 0) 0) (.lit (.i 3))) (.leaf [(.and (.and (.and (.eq (.fld (.tok 0) 1) (.lit (.i 0))) (.le (.slen (.fld (.tok 0) 2)) (.lit (.i 100)))) (.le (.lit (.i 1)) (.len (.fld (.tok 0) 3)))) (.le (.len (.fld (.tok 0) 3)) (.lit (.i 8))))]) (.leaf [(.lit (.b .false))])))))
theorem qbc:CdZ [] qe0 yk Try.f32 q2d:=fun cd h=>by injection h with h;subst h;kernel_rfl
theorem qd0{g:GfZ}(h:HgZ q2d yk [] g):FOk yk g:=yx (qbc) .nil rfl rfl q9b (by decide) h
def zb:Ct:=⟨17,[.val (.st 23)],[(.bool,false)],[],none,[],[]⟩
theorem q3c:EnZ zb:=fun _ _=>by kernel_rfl
def qbu:Ann:=⟨[0,1,2,3,6,11,20],[(4,⟨[(2,.bool,false),(3,.int .i64,false)],[],[7,8,9,10,11,14,15,16,17,18,19,20,12,13],[]⟩)]⟩
def q1d:Tree:=(.need [(.ok 0 [(.tok 0)])] (.br (.not (.call 0 0 [(.tok 0)])) (.leaf [(.lit (.b .false))]) (.loop 4 1 [(.lit (.b .false)),(.lit (.i 0))] (.br (.lt (.tok 2) (.len (.fld (.tok 0) 3))) (.need [(.le (.lit (.i 0)) (.tok 2)),(.lt (.tok 2) (.len (.fld (.tok 0) 3))),(.ok 1 [(.get (.fld (.tok 0) 3) (.tok 2))])] (.br (.not (.call 1 0 [(.get (.fld (.tok 0) 3) (.tok 2))])) (.leaf [(.lit (.b .false))]) (.need [(.rng .i64 (.add (.tok 2) (.lit (.i 1))))] (.back 4 [(.tok 1),(.add (.tok 2) (.lit (.i 1)))])))) (.leaf [(.lit (.b .true))])))))
theorem q9s(g0 g1:GfZ):CdZ [(yk,g0),(zb,g1)] qbu zb Try.f17 q1d:=fun cd h=>by injection h with h;subst h;kernel_rfl
theorem qb2{g0 g1 g:GfZ}(h0:FOk yk g0)(h1:FOk zb g1)(h:HgZ q1d zb [(yk,g0),(zb,g1)] g):FOk zb g:=yx (q9s g0 g1) (.cons h0 (.cons h1 .nil)) rfl rfl q3c (by decide) h
def z5:Ct:=⟨4,[.val (.st 23)],[(.bool,false)],[],none,[],[]⟩
theorem q8r:EnZ z5:=fun _ _=>by kernel_rfl
def qb8:Ann:=⟨[0,1,2],[]⟩
def q1i:Tree:=(.need [(.ok 0 [(.tok 0)]),(.imp (.le (.call 0 0 [(.tok 0)]) (.lit (.i 2000))) (.ok 1 [(.tok 0)]))] (.leaf [(.and (.le (.call 0 0 [(.tok 0)]) (.lit (.i 2000))) (.call 1 0 [(.tok 0)]))]))
theorem q9q(g0 g1:GfZ):CdZ [(y8,g0),(zb,g1)] qb8 z5 Try.f4 q1i:=fun cd h=>by injection h with h;subst h;kernel_rfl
theorem qb5{g0 g1 g:GfZ}(h0:FOk y8 g0)(h1:FOk zb g1)(h:HgZ q1i z5 [(y8,g0),(zb,g1)] g):FOk z5 g:=yx (q9q g0 g1) (.cons h0 (.cons h1 .nil)) rfl rfl q8r (by decide) h
def yf:Ct:=⟨14,[.val (.str)],[(.st 23,false)],[],none,[],[]⟩
theorem qfm:EnZ yf:=fun _ _=>by kernel_rfl
def qk3:Ann:=⟨[0,2],[]⟩
def q4e:Tree:=(.leaf [(.set (.set (.lit (.a [(.i 0),(.i 0),(.s ⟨#[]⟩),(.r [])])) 0 (.lit (.i 2))) 2 (.tok 0))])
theorem qhm:CdZ [] qk3 yf Try.f14 q4e:=fun cd h=>by injection h with h;subst h;kernel_rfl
theorem qiu{g:GfZ}(h:HgZ q4e yf [] g):FOk yf g:=yx (qhm) .nil rfl rfl qfm (by decide) h
def jx:Ct:=⟨19,[.val (.int .i64)],[(.st 23,false)],[],none,[],[]⟩
theorem qf6:EnZ jx:=fun _ _=>by kernel_rfl
def qj5:Ann:=⟨[0,2],[]⟩
def q44:Tree:=(.leaf [(.set (.set (.lit (.a [(.i 0),(.i 0),(.s ⟨#[]⟩),(.r [])])) 0 (.lit (.i 1))) 1 (.tok 0))])
theorem qhs:CdZ [] qj5 jx Try.f19 q44:=fun cd h=>by injection h with h;subst h;kernel_rfl
theorem qjq{g:GfZ}(h:HgZ q44 jx [] g):FOk jx g:=yx (qhs) .nil rfl rfl qf6 (by decide) h
def yq:Ct:=⟨18,[.val (.str),.val (.row 24)],[(.st 23,false)],[],none,[],[]⟩
theorem qfl:EnZ yq:=fun _ _=>by kernel_rfl
def qk0:Ann:=⟨[0,1,4],[]⟩
def q4d:Tree:=(.leaf [(.set (.set (.set (.lit (.a [(.i 0),(.i 0),(.s ⟨#[]⟩),(.r [])])) 0 (.lit (.i 3))) 2 (.tok 0)) 3 (.tok 1))])
theorem qij:CdZ [] qk0 yq Try.f18 q4d:=fun cd h=>by injection h with h;subst h;kernel_rfl
theorem qja{g:GfZ}(h:HgZ q4d yq [] g):FOk yq g:=yx (qij) .nil rfl rfl qfl (by decide) h
def zg:Ct:=⟨47,[.val (.st 23),.ref (.int .i64) true,.cell 58 3],[],[(.cell 2,.fn 47 [1,2])],none,[],[]⟩
theorem q38:EnZ zg:=fun _ _=>by kernel_rfl
def qb3:Ann:=⟨[0,1,2,3,4,15],[(3,⟨[(4,.int .i64,false)],[1],[7,8,9,10,11,12,13,14,15,18,19,20,21,22,23,24,16,17],[]⟩)]⟩
def q1c:Tree:=(.need [(.rng .i64 (.sub (.tok 1) (.lit (.i 1))))] (.loop 3 2 [(.lit (.i 0)),(.sub (.tok 1) (.lit (.i 1)))] (.br (.and (.lt (.tok 2) (.len (.fld (.tok 0) 3))) (.lt (.lit (.i 0)) (.tok 3))) (.need [(.ok 0 [(.get (.fld (.tok 0) 3) (.tok 2)),(.tok 3)]),(.le (.lit (.i 0)) (.tok 2)),(.lt (.tok 2) (.len (.fld (.tok 0) 3)))] (.need [(.rng .i64 (.add (.tok 2) (.lit (.i 1))))] (.back 3 [(.add (.tok 2) (.lit (.i 1))),(.call 0 0 [(.get (.fld (.tok 0) 3) (.tok 2)),(.tok 3)])]))) (.leaf [(.tok 3)]))))
theorem q9k(g0:GfZ):CdZ [(zg,g0)] qb3 zg Try.f47 q1c:=fun cd h=>by injection h with h;subst h;kernel_rfl
theorem qbl{g0 g:GfZ}(h0:FOk zg g0)(h:HgZ q1c zg [(zg,g0)] g):FOk zg g:=yx (q9k g0) (.cons h0 .nil) rfl rfl q38 (by decide) h
def zs:Ct:=⟨40,[.val (.st 23)],[(.int .i64,false)],[],none,[],[]⟩
theorem qbn:EnZ zs:=fun _ _=>by kernel_rfl
def qfc:Ann:=⟨[0,1,2,3,4],[]⟩
def q30:Tree:=(.need [(.ok 0 [(.tok 0),(.lit (.i 2001))])] (.need [(.rng .i64 (.sub (.lit (.i 2001)) (.call 0 0 [(.tok 0),(.lit (.i 2001))])))] (.leaf [(.sub (.lit (.i 2001)) (.call 0 0 [(.tok 0),(.lit (.i 2001))]))])))
theorem qd7(g0:GfZ):CdZ [(zg,g0)] qfc zs Try.f40 q30:=fun cd h=>by injection h with h;subst h;kernel_rfl
theorem qf7{g0 g:GfZ}(h0:FOk zg g0)(h:HgZ q30 zs [(zg,g0)] g):FOk zs g:=yx (qd7 g0) (.cons h0 .nil) rfl rfl qbn (by decide) h
def z9:Ct:=⟨41,[.val (.st 23)],[(.bool,false)],[],none,[],[]⟩
theorem q4n:EnZ z9:=fun _ _=>by kernel_rfl
def qf9:Ann:=⟨[0,1,2,3,4,6,7,28,39,56,86],[(12,⟨[(3,.bool,false),(4,.int .i64,false)],[],[79,80,81,82,83,84,85,86,89,90,91,92,93,94,87,88],[]⟩)]⟩
def q2y:Tree:=
 let b:X:=.add (.tok 2) (.lit (.i 1))
 let c:X:=.lit (.i 0)
 let j:X:=.tok 0
 let o:X:=.tok 1
 let a:X:=.fld j 3
 let f:X:=.and (.eq (.fld j 1) c) (.le (.slen (.fld j 2)) (.lit (.i 100)))
 let h:X:=.le c (.tok 2)
 let k:X:=.rng .i64 b
 let m:X:=.eq (.fld j 2) (.lit (.s ⟨#[]⟩))
 let p:X:=.fld j 0
 let d:X:=.lt (.tok 2) (.len a)
 let e:X:=.get a (.tok 2)
 let n:X:=.eq (.len a) c
 let g:X:=.and d o
 let i:X:=.call 0 0 [e]
 let l:X:=.ok 0 [e]
 (.br (.eq p c) (.loop 12 1 [(.and (.and (.and (.le c (.fld j 1)) (.le (.fld j 1) (.lit (.i 1099511627776)))) m) n),c] (.br g (.need [h,d,l] (.need [k] (.back 12 [i,b]))) (.leaf [o]))) (.br (.eq p (.lit (.i 1))) (.loop 12 1 [(.and m n),c] (.br g (.need [h,d,l] (.need [k] (.back 12 [i,b]))) (.leaf [o]))) (.br (.eq p (.lit (.i 2))) (.loop 12 1 [(.and f n),c] (.br g (.need [h,d,l] (.need [k] (.back 12 [i,b]))) (.leaf [o]))) (.br (.eq p (.lit (.i 3))) (.loop 12 1 [(.and (.and f (.lt c (.len a))) (.le (.len a) (.lit (.i 8)))),c] (.br g (.need [h,d,l] (.need [k] (.back 12 [i,b]))) (.leaf [o]))) (.loop 12 1 [(.lit (.b .false)),c] (.br g (.need [h,d,l] (.need [k] (.back 12 [i,b]))) (.leaf [o])))))))
theorem qdl(g0:GfZ):CdZ [(z9,g0)] qf9 z9 Try.f41 q2y:=fun cd h=>by injection h with h;subst h;kernel_rfl
theorem qf3{g0 g:GfZ}(h0:FOk z9 g0)(h:HgZ q2y z9 [(z9,g0)] g):FOk z9 g:=yx (qdl g0) (.cons h0 .nil) rfl rfl q4n (by decide) h
def qk:Ct:=⟨28,[.val (.st 23)],[(.bool,false)],[],none,[],[]⟩
theorem q9w:EnZ qk:=fun _ _=>by kernel_rfl
def qej:Ann:=⟨[0,1,2],[]⟩
def q2f:Tree:=(.need [(.ok 0 [(.tok 0)]),(.imp (.le (.call 0 0 [(.tok 0)]) (.lit (.i 2000))) (.ok 1 [(.tok 0)]))] (.leaf [(.and (.le (.call 0 0 [(.tok 0)]) (.lit (.i 2000))) (.call 1 0 [(.tok 0)]))]))
theorem qbt(g0 g1:GfZ):CdZ [(zs,g0),(z9,g1)] qej qk Try.f28 q2f:=fun cd h=>by injection h with h;subst h;kernel_rfl
theorem qe9{g0 g1 g:GfZ}(h0:FOk zs g0)(h1:FOk z9 g1)(h:HgZ q2f qk [(zs,g0),(z9,g1)] g):FOk qk g:=yx (qbt g0 g1) (.cons h0 (.cons h1 .nil)) rfl rfl q9w (by decide) h
def j1:Ct:=⟨43,[.val (.st 23)],[(.st 23,false)],[],none,[],[]⟩
theorem q5n:EnZ j1:=fun _ _=>by kernel_rfl
def q6u:Ann:=⟨[0,1,2],[]⟩
def q0b:Tree:=(.leaf [(.tok 0)])
theorem q6b:CdZ [] q6u j1 Try.f43 q0b:=fun cd h=>by injection h with h;subst h;kernel_rfl
theorem q6w{g:GfZ}(h:HgZ q0b j1 [] g):FOk j1 g:=yx (q6b) .nil rfl rfl q5n (by decide) h
def zm:Ct:=⟨42,[.old (.st 23),.fn 43 []],[(.st 23,false)],[],none,[],[]⟩
theorem q3r:EnZ zm:=fun _ _=>by kernel_rfl
def jk:Ct:=⟨43,[.old (.st 23)],[(.st 23,false)],[],none,[],[]⟩
theorem q7c:EnZ jk:=fun _ _=>by kernel_rfl
def qdx:Ann:=⟨[0,1,2,4,5,7,10,22,23,24,25],[(5,⟨[(24,.int .i64,false)],[5],[25,26,27,7,28,29,30,31,32,33,34,35,36],[]⟩)]⟩
def q28:Tree:=(.br (.eq (.fld (.tok 0) 0) (.lit (.i 0))) (.need [(.ok 0 [(.tok 0)])] (.leaf [(.call 0 0 [(.tok 0)])])) (.loop 5 1 [(.lit (.i 0)),(.set (.set (.set (.lit (.a [(.i 0),(.i 0),(.s ⟨#[]⟩),(.r [])])) 0 (.fld (.tok 0) 0)) 1 (.fld (.tok 0) 1)) 2 (.fld (.tok 0) 2))] (.br (.lt (.tok 1) (.len (.fld (.tok 0) 3))) (.need [(.le (.lit (.i 0)) (.tok 1)),(.lt (.tok 1) (.len (.fld (.tok 0) 3)))] (.need [(.le (.add (.len (.fld (.tok 2) 3)) (.lit (.i 1))) (.lit (.i 2513169434843))),(.ok 1 [(.get (.fld (.tok 0) 3) (.tok 1))])] (.need [(.rng .i64 (.add (.tok 1) (.lit (.i 1))))] (.back 5 [(.add (.tok 1) (.lit (.i 1))),(.set (.tok 2) 3 (.app (.fld (.tok 2) 3) (.row [(.call 1 0 [(.get (.fld (.tok 0) 3) (.tok 1))])])))])))) (.leaf [(.tok 2)]))))
theorem qb9(g0 g1:GfZ):CdZ [(jk,g0),(zm,g1)] qdx zm Try.f42 q28:=fun cd h=>by injection h with h;subst h;kernel_rfl
theorem qdn{g0 g1 g:GfZ}(h0:FOk jk g0)(h1:FOk zm g1)(h:HgZ q28 zm [(jk,g0),(zm,g1)] g):FOk zm g:=yx (qb9 g0 g1) (.cons h0 (.cons h1 .nil)) rfl rfl q3r (by decide) h
def qp:Ct:=⟨29,[.old (.st 23)],[(.st 23,false)],[],none,[],[]⟩
theorem q9x:EnZ qp:=fun _ _=>by kernel_rfl
def qcy:Ann:=⟨[0,1,2,5],[]⟩
def q27:Tree:=(.need [(.ok 0 [(.tok 0)])] (.br (.not (.call 0 0 [(.tok 0)])) (.leaf [(.lit (.a [(.i 0),(.i 0),(.s ⟨#[]⟩),(.r [])]))]) (.need [(.ok 1 [(.tok 0)])] (.leaf [(.call 1 0 [(.tok 0)])]))))
theorem qbb(g0 g1:GfZ):CdZ [(qk,g0),(zm,g1)] qcy qp Try.f29 q27:=fun cd h=>by injection h with h;subst h;kernel_rfl
theorem qcu{g0 g1 g:GfZ}(h0:FOk qk g0)(h1:FOk zm g1)(h:HgZ q27 qp [(qk,g0),(zm,g1)] g):FOk qp g:=yx (qbb g0 g1) (.cons h0 (.cons h1 .nil)) rfl rfl q9x (by decide) h
def qv:Ct:=⟨39,[.val (.str)],[(.st 23,false)],[],none,[],[]⟩
theorem qaw:EnZ qv:=fun _ _=>by kernel_rfl
def qf2:Ann:=⟨[0,2],[]⟩
def q2q:Tree:=(.need [(.ok 0 [(.set (.set (.lit (.a [(.i 0),(.i 0),(.s ⟨#[]⟩),(.r [])])) 0 (.lit (.i 2))) 2 (.tok 0))])] (.leaf [(.call 0 0 [(.set (.set (.lit (.a [(.i 0),(.i 0),(.s ⟨#[]⟩),(.r [])])) 0 (.lit (.i 2))) 2 (.tok 0))])]))
theorem qez(g0:GfZ):CdZ [(qp,g0)] qf2 qv Try.f39 q2q:=fun cd h=>by injection h with h;subst h;kernel_rfl
theorem qf1{g0 g:GfZ}(h0:FOk qp g0)(h:HgZ q2q qv [(qp,g0)] g):FOk qv g:=yx (qez g0) (.cons h0 .nil) rfl rfl qaw (by decide) h
def yb:Ct:=⟨46,[.val .str,.old (.row 24)],[(.st 23,false)],[],none,[],[]⟩
theorem q8k:EnZ yb:=fun _ _=>by kernel_rfl
def qbh:Ann:=⟨[0,1,4,7],[]⟩
def q1p:Tree:=(.br (.eq (.len (.tok 1)) (.lit (.i 0))) (.need [(.ok 0 [(.tok 0)])] (.leaf [(.call 0 0 [(.tok 0)])])) (.need [(.ok 1 [(.set (.set (.set (.lit (.a [(.i 0),(.i 0),(.s ⟨#[]⟩),(.r [])])) 0 (.lit (.i 3))) 2 (.tok 0)) 3 (.tok 1))])] (.leaf [(.call 1 0 [(.set (.set (.set (.lit (.a [(.i 0),(.i 0),(.s ⟨#[]⟩),(.r [])])) 0 (.lit (.i 3))) 2 (.tok 0)) 3 (.tok 1))])])))
theorem q93(g0 g1:GfZ):CdZ [(qv,g0),(qp,g1)] qbh yb Try.f46 q1p:=fun cd h=>by injection h with h;subst h;kernel_rfl
theorem qbr{g0 g1 g:GfZ}(h0:FOk qv g0)(h1:FOk qp g1)(h:HgZ q1p yb [(qv,g0),(qp,g1)] g):FOk yb g:=yx (q93 g0 g1) (.cons h0 (.cons h1 .nil)) rfl rfl q8k (by decide) h
def ql:Ct:=⟨37,[.val .str,.old (.row 24)],[(.st 23,false)],[],none,[],[]⟩
theorem q8j:EnZ ql:=fun _ _=>by kernel_rfl
def qbs:Ann:=⟨[0,1,4],[]⟩
def q1m:Tree:=(.need [(.ok 0 [(.tok 0),(.tok 1)]),(.ok 1 [(.lit (.s ⟨#[91,93]⟩))]),(.ok 0 [(.lit (.s ⟨#[101,114,114,111,114]⟩)),(.row [(.call 0 0 [(.tok 0),(.tok 1)]),(.call 1 0 [(.lit (.s ⟨#[91,93]⟩))])])])] (.leaf [(.call 0 0 [(.lit (.s ⟨#[101,114,114,111,114]⟩)),(.row [(.call 0 0 [(.tok 0),(.tok 1)]),(.call 1 0 [(.lit (.s ⟨#[91,93]⟩))])])])]))
theorem qad(g0 g1:GfZ):CdZ [(yb,g0),(qv,g1)] qbs ql Try.f37 q1m:=fun cd h=>by injection h with h;subst h;kernel_rfl
theorem qbz{g0 g1 g:GfZ}(h0:FOk yb g0)(h1:FOk qv g1)(h:HgZ q1m ql [(yb,g0),(qv,g1)] g):FOk ql g:=yx (qad g0 g1) (.cons h0 (.cons h1 .nil)) rfl rfl q8j (by decide) h
def qf:Ct:=⟨27,[.old (.st 23),.val .str,.val (.row 9)],[(.st 23,false)],[],none,[],[]⟩
theorem q7x:EnZ qf:=fun _ _=>by kernel_rfl
def qaz:Ann:=⟨[0,1,2,3,6,7,9,12,14,15,16,17,22,36],[(5,⟨[(7,.row 24,false),(16,.int .i64,false)],[6],[17,18,19,9,20,21,22,23,24,25,26,27,28,29],[]⟩)]⟩
def jc:Tree:=
 let a:X:=.le (.add (.len (.tok 3)) (.lit (.i 1))) (.lit (.i 2513169434843))
 let b:X:=.lit (.a [(.i 0),(.i 0),(.s ⟨#[]⟩),(.r [])])
 let c:X:=.add (.lit (.i 3)) (.len (.tok 2))
 let d:X:=.app (.tok 3) (.row [(.call 1 0 [(.lit (.s ⟨#[46,46,46]⟩))])])
 let e:X:=.tok 4
 let f:X:=.tok 0
 let g:X:=.get (.tok 2) e
 let h:X:=.app (.tok 3) (.row [f])
 let i:X:=.add c (.call 2 0 [f])
 let j:X:=.lt e (.len (.tok 2))
 (.need [(.ok 0 [f])] (.br (.not (.call 0 0 [f])) (.leaf [b]) (.loop 5 3 [(.lit (.r [])),(.lit (.i 0)),b] (.br j (.need [(.le (.lit (.i 0)) e),j] (.br (.lt (.lit (.i 100)) (.slen g)) (.leaf [b]) (.need [(.ok 1 [g]),a] (.need [(.rng .i64 (.add e (.lit (.i 1))))] (.back 5 [(.app (.tok 3) (.row [(.call 1 0 [g])])),(.add e (.lit (.i 1))),(.tok 5)]))))) (.need [(.rng .i64 c),(.ok 2 [f]),(.rng .i64 i)] (.br (.lt (.lit (.i 2000)) i) (.need [(.ok 1 [(.lit (.s ⟨#[46,46,46]⟩))])] (.need [a,(.ok 3 [(.tok 1),d])] (.leaf [(.call 3 0 [(.tok 1),d])]))) (.need [a,(.ok 3 [(.tok 1),h])] (.leaf [(.call 3 0 [(.tok 1),h])]))))))))
theorem q9f(g0 g1 g2 g3:GfZ):CdZ [(qk,g0),(qv,g1),(zs,g2),(ql,g3)] qaz qf Try.f27 jc:=fun cd h=>by injection h with h;subst h;kernel_rfl
theorem q2g{g0 g1 g2 g3 g:GfZ}(h0:FOk qk g0)(h1:FOk qv g1)(h2:FOk zs g2)(h3:FOk ql g3)(h:HgZ jc qf [(qk,g0),(qv,g1),(zs,g2),(ql,g3)] g):FOk qf g:=yx (q9f g0 g1 g2 g3) (.cons h0 (.cons h1 (.cons h2 (.cons h3 .nil)))) rfl rfl q7x (by decide) h
def qw:Ct:=⟨11,[.val .str,.val .str,.old (.st 23)],[(.st 23,false)],[],none,[],[]⟩
theorem q4b:EnZ qw:=fun _ _=>by kernel_rfl
def q5s:Ann:=⟨[0,1,2,5,6],[]⟩
def yt:Tree:=(.need [(.ok 0 [(.tok 2),(.lit (.s ⟨#[112,101,114,109,105,115,115,105,111,110,95,101,114,114,111,114]⟩)),(.row [(.tok 0),(.tok 1)])])] (.leaf [(.call 0 0 [(.tok 2),(.lit (.s ⟨#[112,101,114,109,105,115,115,105,111,110,95,101,114,114,111,114]⟩)),(.row [(.tok 0),(.tok 1)])])]))
theorem q4o(g0:GfZ):CdZ [(qf,g0)] q5s qw Try.f11 yt:=fun cd h=>by injection h with h;subst h;kernel_rfl
theorem q21{g0 g:GfZ}(h0:FOk qf g0)(h:HgZ yt qw [(qf,g0)] g):FOk qw g:=yx (q4o g0) (.cons h0 .nil) rfl rfl q4b (by decide) h
def jf:Ct:=⟨16,[.val (.int .i64)],[(.st 23,false)],[],none,[],[]⟩
theorem qf5:EnZ jf:=fun _ _=>by kernel_rfl
def qjp:Ann:=⟨[0,2],[]⟩
def q41:Tree:=(.leaf [(.set (.lit (.a [(.i 0),(.i 0),(.s ⟨#[]⟩),(.r [])])) 1 (.tok 0))])
theorem qih:CdZ [] qjp jf Try.f16 q41:=fun cd h=>by injection h with h;subst h;kernel_rfl
theorem qkc{g:GfZ}(h:HgZ q41 jf [] g):FOk jf g:=yx (qih) .nil rfl rfl qf5 (by decide) h
def zp:Ct:=⟨12,[.old (.st 23)],[(.st 23,false),(.bool,false)],[],none,[],[]⟩
theorem q7d:EnZ zp:=fun _ _=>by kernel_rfl
def q92:Ann:=⟨[0,1,2,3,22],[]⟩
def q0u:Tree:=(.need [(.ok 0 [(.tok 0)])] (.br (.or (.or (.or (.not (.call 0 0 [(.tok 0)])) (.not (.eq (.fld (.tok 0) 0) (.lit (.i 3))))) (.not (.eq (.fld (.tok 0) 2) (.lit (.s ⟨#[101,114,114,111,114]⟩))))) (.not (.eq (.len (.fld (.tok 0) 3)) (.lit (.i 2))))) (.leaf [(.lit (.a [(.i 0),(.i 0),(.s ⟨#[]⟩),(.r [])])),(.lit (.b .false))]) (.need [(.lit (.b .true)),(.lt (.lit (.i 0)) (.len (.fld (.tok 0) 3))),(.ok 1 [(.get (.fld (.tok 0) 3) (.lit (.i 0)))])] (.leaf [(.call 1 0 [(.get (.fld (.tok 0) 3) (.lit (.i 0)))]),(.lit (.b .true))]))))
theorem q7w(g0 g1:GfZ):CdZ [(qk,g0),(qp,g1)] q92 zp Try.f12 q0u:=fun cd h=>by injection h with h;subst h;kernel_rfl
theorem qaf{g0 g1 g:GfZ}(h0:FOk qk g0)(h1:FOk qp g1)(h:HgZ q0u zp [(qk,g0),(qp,g1)] g):FOk zp g:=yx (q7w g0 g1) (.cons h0 (.cons h1 .nil)) rfl rfl q7d (by decide) h
def z6:Ct:=⟨36,[],[(.st 23,false)],[],none,[],[]⟩
theorem qa7:EnZ z6:=fun _ _=>by kernel_rfl
def qcv:Ann:=⟨[0],[]⟩
def q26:Tree:=(.need [(.ok 0 [(.lit (.s ⟨#[105,110,115,116,97,110,116,105,97,116,105,111,110,95,101,114,114,111,114]⟩)),(.lit (.r []))])] (.leaf [(.call 0 0 [(.lit (.s ⟨#[105,110,115,116,97,110,116,105,97,116,105,111,110,95,101,114,114,111,114]⟩)),(.lit (.r []))])]))
theorem qbm(g0:GfZ):CdZ [(ql,g0)] qcv z6 Try.f36 q26:=fun cd h=>by injection h with h;subst h;kernel_rfl
theorem qeh{g0 g:GfZ}(h0:FOk ql g0)(h:HgZ q26 z6 [(ql,g0)] g):FOk z6 g:=yx (qbm g0) (.cons h0 .nil) rfl rfl qa7 (by decide) h
def qy:Ct:=⟨33,[.val (.st 23)],[(.st 23,false),(.bool,false)],[],none,[],[]⟩
theorem q7u:EnZ qy:=fun _ _=>by kernel_rfl
def qbx:Ann:=⟨[0,1,2,3,6,10],[]⟩
def q1f:Tree:=(.need [(.ok 0 [(.tok 0)])] (.br (.not (.call 0 0 [(.tok 0)])) (.leaf [(.lit (.a [(.i 0),(.i 0),(.s ⟨#[]⟩),(.r [])])),(.lit (.b .false))]) (.br (.eq (.fld (.tok 0) 0) (.lit (.i 0))) (.need [(.ok 1 [])] (.leaf [(.call 1 0 []),(.lit (.b .false))])) (.leaf [(.lit (.a [(.i 0),(.i 0),(.s ⟨#[]⟩),(.r [])])),(.lit (.b .true))]))))
theorem qac(g0 g1:GfZ):CdZ [(qk,g0),(z6,g1)] qbx qy Try.f33 q1f:=fun cd h=>by injection h with h;subst h;kernel_rfl
theorem qbd{g0 g1 g:GfZ}(h0:FOk qk g0)(h1:FOk z6 g1)(h:HgZ q1f qy [(qk,g0),(z6,g1)] g):FOk qy g:=yx (qac g0 g1) (.cons h0 (.cons h1 .nil)) rfl rfl q7u (by decide) h
def qn:Ct:=⟨8,[.val .str,.old (.st 23)],[(.st 23,false)],[],none,[],[]⟩
theorem qag:EnZ qn:=fun _ _=>by kernel_rfl
def qdr:Ann:=⟨[0,1,3,4],[]⟩
def q0g:Tree:=(.need [(.ok 0 [(.tok 1),(.lit (.s ⟨#[116,121,112,101,95,101,114,114,111,114]⟩)),(.row [(.tok 0)])])] (.leaf [(.call 0 0 [(.tok 1),(.lit (.s ⟨#[116,121,112,101,95,101,114,114,111,114]⟩)),(.row [(.tok 0)])])]))
theorem qbw(g0:GfZ):CdZ [(qf,g0)] qdr qn Try.f8 q0g:=fun cd h=>by injection h with h;subst h;kernel_rfl
theorem q54{g0 g:GfZ}(h0:FOk qf g0)(h:HgZ q0g qn [(qf,g0)] g):FOk qn g:=yx (qbw g0) (.cons h0 .nil) rfl rfl qag (by decide) h
def zo:Ct:=⟨20,[.val (.st 23)],[(.str,false),(.st 23,false),(.bool,false)],[],none,[],[]⟩
theorem qa4:EnZ zo:=fun _ _=>by kernel_rfl
def qd3:Ann:=⟨[0,1,2,3,4,11,15],[]⟩
def q2a:Tree:=(.need [(.ok 0 [(.tok 0)])] (.br (.not (.call 0 1 [(.tok 0)])) (.leaf [(.lit (.s ⟨#[]⟩)),(.call 0 0 [(.tok 0)]),(.lit (.b .false))]) (.br (.not (.eq (.fld (.tok 0) 0) (.lit (.i 2)))) (.need [(.ok 1 [(.lit (.s ⟨#[97,116,111,109]⟩)),(.tok 0)])] (.leaf [(.lit (.s ⟨#[]⟩)),(.call 1 0 [(.lit (.s ⟨#[97,116,111,109]⟩)),(.tok 0)]),(.lit (.b .false))])) (.leaf [(.fld (.tok 0) 2),(.lit (.a [(.i 0),(.i 0),(.s ⟨#[]⟩),(.r [])])),(.lit (.b .true))]))))
theorem qb0(g0 g1:GfZ):CdZ [(qy,g0),(qn,g1)] qd3 zo Try.f20 q2a:=fun cd h=>by injection h with h;subst h;kernel_rfl
theorem qe5{g0 g1 g:GfZ}(h0:FOk qy g0)(h1:FOk qn g1)(h:HgZ q2a zo [(qy,g0),(qn,g1)] g):FOk zo g:=yx (qb0 g0 g1) (.cons h0 (.cons h1 .nil)) rfl rfl qa4 (by decide) h
def zx:Ct:=⟨34,[.val (.st 23)],[(.int .i64,false),(.st 23,false),(.bool,false)],[],none,[],[]⟩
theorem qbf:EnZ zx:=fun _ _=>by kernel_rfl
def qfh:Ann:=⟨[0,1,2,3,4,11,15],[]⟩
def q2t:Tree:=(.need [(.ok 0 [(.tok 0)])] (.br (.not (.call 0 1 [(.tok 0)])) (.leaf [(.lit (.i 0)),(.call 0 0 [(.tok 0)]),(.lit (.b .false))]) (.br (.not (.eq (.fld (.tok 0) 0) (.lit (.i 1)))) (.need [(.ok 1 [(.lit (.s ⟨#[105,110,116,101,103,101,114]⟩)),(.tok 0)])] (.leaf [(.lit (.i 0)),(.call 1 0 [(.lit (.s ⟨#[105,110,116,101,103,101,114]⟩)),(.tok 0)]),(.lit (.b .false))])) (.leaf [(.fld (.tok 0) 1),(.lit (.a [(.i 0),(.i 0),(.s ⟨#[]⟩),(.r [])])),(.lit (.b .true))]))))
theorem qcx(g0 g1:GfZ):CdZ [(qy,g0),(qn,g1)] qfh zx Try.f34 q2t:=fun cd h=>by injection h with h;subst h;kernel_rfl
theorem qfi{g0 g1 g:GfZ}(h0:FOk qy g0)(h1:FOk qn g1)(h:HgZ q2t zx [(qy,g0),(qn,g1)] g):FOk zx g:=yx (qcx g0 g1) (.cons h0 (.cons h1 .nil)) rfl rfl qbf (by decide) h
def y9:Ct:=⟨45,[.val (.str),.val (.str)],[(.st 23,false)],[],none,[],[]⟩
theorem q8l:EnZ y9:=fun _ _=>by kernel_rfl
def qby:Ann:=⟨[0,1,4,7],[]⟩
def q1k:Tree:=(.br (.lt (.lit (.i 100)) (.slen (.tok 1))) (.leaf [(.lit (.a [(.i 0),(.i 0),(.s ⟨#[]⟩),(.r [])]))]) (.need [(.ok 0 [(.tok 1)]),(.ok 1 [(.tok 0),(.row [(.call 0 0 [(.tok 1)])])])] (.leaf [(.call 1 0 [(.tok 0),(.row [(.call 0 0 [(.tok 1)])])])])))
theorem qam(g0 g1:GfZ):CdZ [(qv,g0),(ql,g1)] qby y9 Try.f45 q1k:=fun cd h=>by injection h with h;subst h;kernel_rfl
theorem qbp{g0 g1 g:GfZ}(h0:FOk qv g0)(h1:FOk ql g1)(h:HgZ q1k y9 [(qv,g0),(ql,g1)] g):FOk y9 g:=yx (qam g0 g1) (.cons h0 (.cons h1 .nil)) rfl rfl q8l (by decide) h
def qi:Ct:=⟨35,[.val (.str)],[(.st 23,false)],[],none,[],[]⟩
theorem q2v:EnZ qi:=fun _ _=>by kernel_rfl
def q3o:Ann:=⟨[0,2],[]⟩
def yv:Tree:=(.need [(.ok 0 [(.lit (.s ⟨#[114,101,112,114,101,115,101,110,116,97,116,105,111,110,95,101,114,114,111,114]⟩)),(.tok 0)])] (.leaf [(.call 0 0 [(.lit (.s ⟨#[114,101,112,114,101,115,101,110,116,97,116,105,111,110,95,101,114,114,111,114]⟩)),(.tok 0)])]))
theorem q37(g0:GfZ):CdZ [(y9,g0)] q3o qi Try.f35 yv:=fun cd h=>by injection h with h;subst h;kernel_rfl
theorem q3l{g0 g:GfZ}(h0:FOk y9 g0)(h:HgZ yv qi [(y9,g0)] g):FOk qi g:=yx (q37 g0) (.cons h0 .nil) rfl rfl q2v (by decide) h
def yo:Ct:=⟨21,[.val (.st 23)],[(.int .i64,false),(.st 23,false),(.bool,false)],[],none,[],[]⟩
theorem qa1:EnZ yo:=fun _ _=>by kernel_rfl
def qdw:Ann:=⟨[0,1,2,3,4,5,13,20],[]⟩
def q23:Tree:=(.need [(.ok 0 [(.tok 0)])] (.br (.not (.call 0 2 [(.tok 0)])) (.leaf [(.lit (.i 0)),(.call 0 1 [(.tok 0)]),(.lit (.b .false))]) (.br (.or (.lt (.call 0 0 [(.tok 0)]) (.lit (.i 0))) (.lt (.lit (.i 255)) (.call 0 0 [(.tok 0)]))) (.need [(.ok 1 [(.lit (.s ⟨#[99,104,97,114,97,99,116,101,114,95,99,111,100,101]⟩))])] (.leaf [(.lit (.i 0)),(.call 1 0 [(.lit (.s ⟨#[99,104,97,114,97,99,116,101,114,95,99,111,100,101]⟩))]),(.lit (.b .false))])) (.leaf [(.call 0 0 [(.tok 0)]),(.lit (.a [(.i 0),(.i 0),(.s ⟨#[]⟩),(.r [])])),(.lit (.b .true))]))))
theorem qax(g0 g1:GfZ):CdZ [(zx,g0),(qi,g1)] qdw yo Try.f21 q23:=fun cd h=>by injection h with h;subst h;kernel_rfl
theorem qdk{g0 g1 g:GfZ}(h0:FOk zx g0)(h1:FOk qi g1)(h:HgZ q23 yo [(zx,g0),(qi,g1)] g):FOk yo g:=yx (qax g0 g1) (.cons h0 (.cons h1 .nil)) rfl rfl qa1 (by decide) h
def yj:Ct:=⟨22,[.val (.st 23)],[(.row 24,false),(.st 23,false),(.bool,false)],[],none,[],[]⟩
theorem q8x:EnZ yj:=fun _ _=>by kernel_rfl
def qee:Ann:=⟨[0,1,2,3,4,5,8,11,38,43],[(4,⟨[(2,.row 24,false)],[5],[12,13,14,15,16,17,18,19,20,21,22,23,24,25,11,26,27,28,29,30,31,32,33,34,35,36,37],[]⟩)]⟩
def q2b:Tree:=
 let a:X:=.fld (.tok 2) 3
 let b:X:=.lit (.a [(.i 0),(.i 0),(.s ⟨#[]⟩),(.r [])])
 let c:X:=.lit (.r [])
 let d:X:=.lit (.s ⟨#[108,105,115,116]⟩)
 let e:X:=.lit (.i 0)
 let f:X:=.lit (.b .false)
 let g:X:=.fld (.tok 2) 0
 let h:X:=.lit (.b .true)
 let i:X:=.tok 0
 let j:X:=.lit (.i 1)
 (.need [(.ok 0 [i])] (.br (.not (.call 0 0 [i])) (.leaf [c,b,f]) (.loop 4 1 [c,i] (.br (.and (.and (.eq g (.lit (.i 3))) (.eq (.fld (.tok 2) 2) (.lit (.s ⟨#[46]⟩)))) (.eq (.len a) (.lit (.i 2)))) (.need [h,(.lt e (.len a)),(.ok 1 [(.get a e)]),(.le (.add (.len (.tok 1)) j) (.lit (.i 2513169434843)))] (.need [h,(.lt j (.len a))] (.back 4 [(.app (.tok 1) (.row [(.call 1 0 [(.get a e)])])),(.get a j)]))) (.br (.eq g e) (.need [(.ok 2 [])] (.leaf [c,(.call 2 0 []),f])) (.br (.and (.eq g (.lit (.i 2))) (.eq (.fld (.tok 2) 2) (.lit (.s ⟨#[91,93]⟩)))) (.leaf [(.tok 1),b,h]) (.need [(.ok 3 [d,i])] (.leaf [c,(.call 3 0 [d,i]),f]))))))))
theorem qba(g0 g1 g2 g3:GfZ):CdZ [(qk,g0),(qp,g1),(z6,g2),(qn,g3)] qee yj Try.f22 q2b:=fun cd h=>by injection h with h;subst h;kernel_rfl
theorem qep{g0 g1 g2 g3 g:GfZ}(h0:FOk qk g0)(h1:FOk qp g1)(h2:FOk z6 g2)(h3:FOk qn g3)(h:HgZ q2b yj [(qk,g0),(qp,g1),(z6,g2),(qn,g3)] g):FOk yj g:=yx (qba g0 g1 g2 g3) (.cons h0 (.cons h1 (.cons h2 (.cons h3 .nil)))) rfl rfl q8x (by decide) h
def zh:Ct:=⟨9,[.val .str,.old (.st 23)],[(.st 23,false)],[],none,[],[]⟩
theorem q6r:EnZ zh:=fun _ _=>by kernel_rfl
def q9o:Ann:=⟨[0,1,3,4],[]⟩
def jt:Tree:=(.need [(.ok 0 [(.tok 1),(.lit (.s ⟨#[100,111,109,97,105,110,95,101,114,114,111,114]⟩)),(.row [(.tok 0)])])] (.leaf [(.call 0 0 [(.tok 1),(.lit (.s ⟨#[100,111,109,97,105,110,95,101,114,114,111,114]⟩)),(.row [(.tok 0)])])]))
theorem q85(g0:GfZ):CdZ [(qf,g0)] q9o zh Try.f9 jt:=fun cd h=>by injection h with h;subst h;kernel_rfl
theorem q3x{g0 g:GfZ}(h0:FOk qf g0)(h:HgZ jt zh [(qf,g0)] g):FOk zh g:=yx (q85 g0) (.cons h0 .nil) rfl rfl q6r (by decide) h
def zf:Ct:=⟨23,[.val (.st 23)],[(.str,false),(.int .i64,false),(.st 23,false),(.bool,false)],[],none,[],[]⟩
theorem q4r:EnZ zf:=fun _ _=>by kernel_rfl
def q6h:Ann:=⟨[0,1,2,3,4,5,6,7,8,15,30,48,57,66,69,73],[]⟩
def q01:Tree:=
 let b:X:=.lit (.i 0)
 let c:X:=.lit (.s ⟨#[]⟩)
 let e:X:=.lit (.s ⟨#[112,114,101,100,105,99,97,116,101,95,105,110,100,105,99,97,116,111,114]⟩)
 let f:X:=.lit (.s ⟨#[110,111,116,95,108,101,115,115,95,116,104,97,110,95,122,101,114,111]⟩)
 let g:X:=.lit (.b .false)
 let h:X:=.lit (.s ⟨#[109,97,120,95,97,114,105,116,121]⟩)
 let i:X:=.tok 0
 let k:X:=.lit (.b .true)
 let d:X:=.fld i 3
 let a:X:=.get d (.lit (.i 1))
 let j:X:=.get d b
 let l:X:=.call 4 0 [a]
 (.need [(.ok 0 [i])] (.br (.not (.call 0 1 [i])) (.leaf [c,b,(.call 0 0 [i]),g]) (.br (.or (.or (.not (.eq (.fld i 0) (.lit (.i 3)))) (.not (.eq (.fld i 2) (.lit (.s ⟨#[47]⟩))))) (.not (.eq (.len d) (.lit (.i 2))))) (.need [(.ok 1 [e,i])] (.leaf [c,b,(.call 1 0 [e,i]),g])) (.need [k,(.lt (.lit (.i 1)) (.len d)),k,(.lt b (.len d))] (.br (.or (.eq (.fld j 0) b) (.eq (.fld a 0) b)) (.need [(.ok 2 [])] (.leaf [c,b,(.call 2 0 []),g])) (.need [(.ok 3 [j])] (.br (.not (.call 3 2 [j])) (.leaf [c,b,(.call 3 1 [j]),g]) (.need [(.ok 4 [a])] (.br (.not (.call 4 2 [a])) (.leaf [c,b,(.call 4 1 [a]),g]) (.br (.lt l b) (.need [(.ok 5 [f,a])] (.leaf [c,b,(.call 5 0 [f,a]),g])) (.br (.lt (.lit (.i 8)) l) (.need [(.ok 6 [h])] (.leaf [c,b,(.call 6 0 [h]),g])) (.leaf [(.call 3 0 [j]),l,(.lit (.a [(.i 0),(.i 0),(.s ⟨#[]⟩),(.r [])])),k]))))))))))))
theorem q5g(g0 g1 g2 g3 g4 g5 g6:GfZ):CdZ [(qy,g0),(qn,g1),(z6,g2),(zo,g3),(zx,g4),(zh,g5),(qi,g6)] q6h zf Try.f23 q01:=fun cd h=>by injection h with h;subst h;kernel_rfl
theorem q69{g0 g1 g2 g3 g4 g5 g6 g:GfZ}(h0:FOk qy g0)(h1:FOk qn g1)(h2:FOk z6 g2)(h3:FOk zo g3)(h4:FOk zx g4)(h5:FOk zh g5)(h6:FOk qi g6)(h:HgZ q01 zf [(qy,g0),(qn,g1),(z6,g2),(zo,g3),(zx,g4),(zh,g5),(qi,g6)] g):FOk zf g:=yx (q5g g0 g1 g2 g3 g4 g5 g6) (.cons h0 (.cons h1 (.cons h2 (.cons h3 (.cons h4 (.cons h5 (.cons h6 .nil))))))) rfl rfl q4r (by decide) h
def y2:Ct:=⟨24,[.val (.st 23)],[(.st 23,false)],[],none,[],[]⟩
theorem q7b:EnZ y2:=fun _ _=>by kernel_rfl
def q9h:Ann:=⟨[0,1,2],[]⟩
def q0w:Tree:=(.need [(.ok 1 [(.lit (.s ⟨#[101,114,114,111,114]⟩)),(.row [(.tok 0),(.call 0 0 [(.lit (.s ⟨#[91,93]⟩))])])]),(.ok 0 [(.lit (.s ⟨#[91,93]⟩))])] (.leaf [(.call 1 0 [(.lit (.s ⟨#[101,114,114,111,114]⟩)),(.row [(.tok 0),(.call 0 0 [(.lit (.s ⟨#[91,93]⟩))])])])]))
theorem q8g(g0 g1:GfZ):CdZ [(yf,g0),(yq,g1)] q9h y2 Try.f24 q0w:=fun cd h=>by injection h with h;subst h;kernel_rfl
theorem q8w{g0 g1 g:GfZ}(h0:FOk yf g0)(h1:FOk yq g1)(h:HgZ q0w y2 [(yf,g0),(yq,g1)] g):FOk y2 g:=yx (q8g g0 g1) (.cons h0 (.cons h1 .nil)) rfl rfl q7b (by decide) h
def qt:Ct:=⟨44,[.val (.st 23),.val (.st 23)],[(.bool,false)],[],none,[],[]⟩
theorem q19:EnZ qt:=fun _ _=>by kernel_rfl
def q6f:Ann:=⟨[0,1,2,3,4,5,33,38,52],[(4,⟨[(4,.bool,false),(5,.int .i64,false)],[],[34,35,36,37,38,41,42,43,44,45,46,47,48,49,50,51,52,39,40],[]⟩)]⟩
def jy:Tree:=(.br (.or (.or (.or (.not (.eq (.fld (.tok 0) 0) (.fld (.tok 1) 0))) (.not (.eq (.fld (.tok 0) 1) (.fld (.tok 1) 1)))) (.not (.eq (.fld (.tok 0) 2) (.fld (.tok 1) 2)))) (.not (.eq (.len (.fld (.tok 0) 3)) (.len (.fld (.tok 1) 3))))) (.leaf [(.lit (.b .false))]) (.loop 4 2 [(.lit (.b .false)),(.lit (.i 0))] (.br (.lt (.tok 3) (.len (.fld (.tok 0) 3))) (.need [(.ok 0 [(.get (.fld (.tok 0) 3) (.tok 3)),(.get (.fld (.tok 1) 3) (.tok 3))]),(.le (.lit (.i 0)) (.tok 3)),(.lt (.tok 3) (.len (.fld (.tok 1) 3))),(.le (.lit (.i 0)) (.tok 3)),(.lt (.tok 3) (.len (.fld (.tok 0) 3)))] (.br (.not (.call 0 0 [(.get (.fld (.tok 0) 3) (.tok 3)),(.get (.fld (.tok 1) 3) (.tok 3))])) (.leaf [(.lit (.b .false))]) (.need [(.rng .i64 (.add (.tok 3) (.lit (.i 1))))] (.back 4 [(.tok 2),(.add (.tok 3) (.lit (.i 1)))])))) (.leaf [(.lit (.b .true))]))))
theorem q4w(g0:GfZ):CdZ [(qt,g0)] q6f qt Try.f44 jy:=fun cd h=>by injection h with h;subst h;kernel_rfl
theorem q6a{g0 g:GfZ}(h0:FOk qt g0)(h:HgZ jy qt [(qt,g0)] g):FOk qt g:=yx (q4w g0) (.cons h0 .nil) rfl rfl q19 (by decide) h
def yl:Ct:=⟨30,[.val (.st 23),.val (.st 23)],[(.bool,false)],[],none,[],[]⟩
theorem q95:EnZ yl:=fun _ _=>by kernel_rfl
def qe4:Ann:=⟨[0,1,2,3,4],[]⟩
def q2c:Tree:=(.need [(.ok 0 [(.tok 0)]),(.imp (.call 0 0 [(.tok 0)]) (.ok 0 [(.tok 1)])),(.imp (.and (.call 0 0 [(.tok 0)]) (.call 0 0 [(.tok 1)])) (.ok 1 [(.tok 0),(.tok 1)]))] (.leaf [(.and (.and (.call 0 0 [(.tok 0)]) (.call 0 0 [(.tok 1)])) (.call 1 0 [(.tok 0),(.tok 1)]))]))
theorem qbo(g0 g1:GfZ):CdZ [(z5,g0),(qt,g1)] qe4 yl Try.f30 q2c:=fun cd h=>by injection h with h;subst h;kernel_rfl
theorem qen{g0 g1 g:GfZ}(h0:FOk z5 g0)(h1:FOk qt g1)(h:HgZ q2c yl [(z5,g0),(qt,g1)] g):FOk yl g:=yx (qbo g0 g1) (.cons h0 (.cons h1 .nil)) rfl rfl q95 (by decide) h
def zw:Ct:=⟨13,[.val (.st 23),.val (.st 23)],[(.bool,false)],[],none,[],[]⟩
theorem q9g:EnZ zw:=fun _ _=>by kernel_rfl
def qem:Ann:=⟨[0,1,2,3,4],[]⟩
def q29:Tree:=(.need [(.ok 0 [(.tok 0),(.tok 1)])] (.leaf [(.call 0 0 [(.tok 0),(.tok 1)])]))
theorem qbq(g0:GfZ):CdZ [(yl,g0)] qem zw Try.f13 q29:=fun cd h=>by injection h with h;subst h;kernel_rfl
theorem qcq{g0 g:GfZ}(h0:FOk yl g0)(h:HgZ q29 zw [(yl,g0)] g):FOk zw g:=yx (qbq g0) (.cons h0 .nil) rfl rfl q9g (by decide) h
def yz:Ct:=⟨38,[.val (.int .i64)],[(.st 23,false)],[],none,[],[]⟩
theorem qev:EnZ yz:=fun _ _=>by kernel_rfl
def qi2:Ann:=⟨[0,2],[]⟩
def q1u:Tree:=(.leaf [(.set (.set (.lit (.a [(.i 0),(.i 0),(.s ⟨#[]⟩),(.r [])])) 0 (.lit (.i 1))) 1 (.tok 0))])
theorem qfk:CdZ [] qi2 yz Try.f38 q1u:=fun cd h=>by injection h with h;subst h;kernel_rfl
theorem qhb{g:GfZ}(h:HgZ q1u yz [] g):FOk yz g:=yx (qfk) .nil rfl rfl qev (by decide) h
def zz:Ct:=⟨25,[.val (.int .i64)],[(.st 23,false)],[],none,[],[]⟩
theorem q6s:EnZ zz:=fun _ _=>by kernel_rfl
def q9i:Ann:=⟨[0,2,4],[]⟩
def q17:Tree:=(.br (.lt (.tok 0) (.lit (.i 0))) (.leaf [(.lit (.a [(.i 0),(.i 0),(.s ⟨#[]⟩),(.r [])]))]) (.need [(.ok 0 [(.tok 0)]),(.ok 1 [(.lit (.s ⟨#[115,121,110,116,97,120,95,101,114,114,111,114]⟩)),(.row [(.call 0 0 [(.tok 0)])])])] (.leaf [(.call 1 0 [(.lit (.s ⟨#[115,121,110,116,97,120,95,101,114,114,111,114]⟩)),(.row [(.call 0 0 [(.tok 0)])])])])))
theorem q7s(g0 g1:GfZ):CdZ [(yz,g0),(ql,g1)] q9i zz Try.f25 q17:=fun cd h=>by injection h with h;subst h;kernel_rfl
theorem qao{g0 g1 g:GfZ}(h0:FOk yz g0)(h1:FOk ql g1)(h:HgZ q17 zz [(yz,g0),(ql,g1)] g):FOk zz g:=yx (q7s g0 g1) (.cons h0 (.cons h1 .nil)) rfl rfl q6s (by decide) h
def z7:Ct:=⟨26,[.val (.st 23)],[(.st 23,false)],[],none,[],[]⟩
theorem q33:EnZ z7:=fun _ _=>by kernel_rfl
def qah:Ann:=⟨[0,1,2,3,4,16],[(3,⟨[(4,.int .i64,false)],[3],[12,13,14,15,16,19,20,21,22,23,24,25,26,27,28,29,17,18],[]⟩)]⟩
def q16:Tree:=(.loop 3 1 [(.lit (.i 0)),(.set (.set (.set (.lit (.a [(.i 0),(.i 0),(.s ⟨#[]⟩),(.r [])])) 0 (.fld (.tok 0) 0)) 1 (.fld (.tok 0) 1)) 2 (.fld (.tok 0) 2))] (.br (.lt (.tok 1) (.len (.fld (.tok 0) 3))) (.need [(.le (.add (.len (.fld (.tok 2) 3)) (.lit (.i 1))) (.lit (.i 2513169434843))),(.ok 0 [(.get (.fld (.tok 0) 3) (.tok 1))]),(.le (.lit (.i 0)) (.tok 1)),(.lt (.tok 1) (.len (.fld (.tok 0) 3)))] (.need [(.rng .i64 (.add (.tok 1) (.lit (.i 1))))] (.back 3 [(.add (.tok 1) (.lit (.i 1))),(.set (.tok 2) 3 (.app (.fld (.tok 2) 3) (.row [(.call 0 0 [(.get (.fld (.tok 0) 3) (.tok 1))])])))]))) (.leaf [(.tok 2)])))
theorem q7r(g0:GfZ):CdZ [(z7,g0)] qah z7 Try.f26 q16:=fun cd h=>by injection h with h;subst h;kernel_rfl
theorem q98{g0 g:GfZ}(h0:FOk z7 g0)(h:HgZ q16 z7 [(z7,g0)] g):FOk z7 g:=yx (q7r g0) (.cons h0 .nil) rfl rfl q33 (by decide) h
def jb:Ct:=⟨6,[.val (.st 23)],[(.st 23,false)],[],none,[],[]⟩
theorem q8b:EnZ jb:=fun _ _=>by kernel_rfl
def qc1:Ann:=⟨[0,1,2,5],[]⟩
def q1o:Tree:=(.need [(.ok 0 [(.tok 0)])] (.br (.not (.call 0 0 [(.tok 0)])) (.leaf [(.lit (.a [(.i 0),(.i 0),(.s ⟨#[]⟩),(.r [])]))]) (.need [(.ok 1 [(.tok 0)])] (.leaf [(.call 1 0 [(.tok 0)])]))))
theorem q9e(g0 g1:GfZ):CdZ [(z5,g0),(z7,g1)] qc1 jb Try.f6 q1o:=fun cd h=>by injection h with h;subst h;kernel_rfl
theorem qc0{g0 g1 g:GfZ}(h0:FOk z5 g0)(h1:FOk z7 g1)(h:HgZ q1o jb [(z5,g0),(z7,g1)] g):FOk jb g:=yx (q9e g0 g1) (.cons h0 (.cons h1 .nil)) rfl rfl q8b (by decide) h
def yw:Ct:=⟨7,[.old (.st 23)],[(.st 23,false)],[],none,[],[]⟩
theorem q75:EnZ yw:=fun _ _=>by kernel_rfl
def q9c:Ann:=⟨[0,1,2],[]⟩
def q0s:Tree:=(.need [(.ok 0 [(.tok 0),(.lit (.s ⟨#[117,110,105,110,115,116,97,110,116,105,97,116,105,111,110,95,101,114,114,111,114]⟩)),(.lit (.r []))])] (.leaf [(.call 0 0 [(.tok 0),(.lit (.s ⟨#[117,110,105,110,115,116,97,110,116,105,97,116,105,111,110,95,101,114,114,111,114]⟩)),(.lit (.r []))])]))
theorem q7y(g0:GfZ):CdZ [(qf,g0)] q9c yw Try.f7 q0s:=fun cd h=>by injection h with h;subst h;kernel_rfl
theorem qa9{g0 g:GfZ}(h0:FOk qf g0)(h:HgZ q0s yw [(qf,g0)] g):FOk yw g:=yx (q7y g0) (.cons h0 .nil) rfl rfl q75 (by decide) h
def y5:Ct:=⟨10,[.val .str,.old (.st 23)],[(.st 23,false)],[],none,[],[]⟩
theorem q4p:EnZ y5:=fun _ _=>by kernel_rfl
def q6c:Ann:=⟨[0,1,3,4],[]⟩
def q00:Tree:=(.need [(.ok 0 [(.tok 1),(.lit (.s ⟨#[101,120,105,115,116,101,110,99,101,95,101,114,114,111,114]⟩)),(.row [(.tok 0)])])] (.leaf [(.call 0 0 [(.tok 1),(.lit (.s ⟨#[101,120,105,115,116,101,110,99,101,95,101,114,114,111,114]⟩)),(.row [(.tok 0)])])]))
theorem q57(g0:GfZ):CdZ [(qf,g0)] q6c y5 Try.f10 q00:=fun cd h=>by injection h with h;subst h;kernel_rfl
theorem q6e{g0 g:GfZ}(h0:FOk qf g0)(h:HgZ q00 y5 [(qf,g0)] g):FOk y5 g:=yx (q57 g0) (.cons h0 .nil) rfl rfl q4p (by decide) h
def j8:Ct:=⟨5,[],[(.bool,false)],[],none,[],[]⟩
theorem q3h:EnZ j8:=fun _ _=>by kernel_rfl
def qb1:Ann:=⟨[0,1,2,3,4,5,6,8,9,11,12,14,15,16,17,18,19],[]⟩
def q3u:Tree:=
 let n:X:=.lit (.s ⟨#[105,110,115,116,97,110,116,105,97,116,105,111,110,95,101,114,114,111,114]⟩)
 let o:X:=.lit (.s ⟨#[112,101,114,109,105,115,115,105,111,110,95,101,114,114,111,114]⟩)
 let p:X:=.lit (.s ⟨#[115,116,97,116,105,99,95,112,114,111,99,101,100,117,114,101]⟩)
 let r:X:=.lit (.s ⟨#[116,121,112,101,95,101,114,114,111,114]⟩)
 let s:X:=.lit (.i 3)
 let t:X:=.call 4 0 [(.lit (.i 0))]
 let u:X:=.lit (.s ⟨#[109,111,100,105,102,121]⟩)
 let v:X:=.lit (.s ⟨#[47]⟩)
 let w:X:=.lit (.s ⟨#[97]⟩)
 let x:X:=.lit (.s ⟨#[99,104,97,114,97,99,116,101,114,95,99,111,100,101]⟩)
 let z:X:=.lit (.s ⟨#[102]⟩)
 let a1:X:=.ok 4 [(.lit (.i 0))]
 let b1:X:=.lit (.s ⟨#[46]⟩)
 let c1:X:=.lit (.s ⟨#[97,98,99]⟩)
 let d1:X:=.call 1 0 [(.lit (.i 256))]
 let e:X:=.call 2 0 [(.lit (.s ⟨#[114,101,112,114,101,115,101,110,116,97,116,105,111,110,95,101,114,114,111,114]⟩)),(.row [(.call 0 0 [x])])]
 let h:X:=.call 2 0 [(.lit (.s ⟨#[101,114,114,111,114]⟩)),(.row [(.call 0 0 [w]),t])]
 let j:X:=.call 2 0 [v,(.row [(.call 0 0 [z]),(.call 1 0 [(.lit (.i 2))])])]
 let k:X:=.row [(.call 0 0 [w]),(.call 2 0 [b1,(.row [(.call 0 0 [(.lit (.s ⟨#[98]⟩))]),t])])]
 let m:X:=.row [(.call 0 0 [z]),(.call 1 0 [(.lit (.i 1))])]
 let e1:X:=.call 1 0 [s]
 let g:X:=.row [(.call 0 0 [u]),(.call 0 0 [p]),(.call 2 0 [v,m])]
 let i:X:=.call 2 0 [(.lit (.s ⟨#[115,121,110,116,97,120,95,101,114,114,111,114]⟩)),(.row [e1])]
 let q:X:=.row [(.call 0 0 [(.lit (.s ⟨#[97,116,111,109]⟩))]),e1]
 let c:X:=.call 11 0 [(.call 3 0 [u,p,(.call 2 0 [v,m])]),(.call 10 0 [(.call 2 0 [o,g])])]
 let y:X:=.and (.and c (.call 11 0 [(.call 12 0 [s]),(.call 10 0 [i])])) (.call 5 1 [h])
 let a:X:=.and (.and y (.call 11 0 [(.call 5 0 [h]),(.call 0 0 [w])])) (.eq (.call 6 0 [(.call 0 0 [c1])]) c1)
 let f:X:=.and (.and a (.call 11 0 [(.call 6 1 [(.call 0 0 [c1])]),t])) (.call 6 2 [(.call 0 0 [c1])])
 let b:X:=.and (.and f (.call 11 0 [(.call 6 1 [e1]),(.call 10 0 [(.call 2 0 [r,q])])])) (.not (.call 6 2 [e1]))
 let l:X:=.and (.and b (.call 11 0 [(.call 7 1 [d1]),(.call 10 0 [e])])) (.not (.call 7 2 [d1]))
 let d:X:=.and (.and (.and (.and l (.call 11 0 [(.call 8 1 [(.call 2 0 [b1,k])]),(.call 10 0 [(.call 0 0 [n])])])) (.not (.call 8 2 [(.call 2 0 [b1,k])]))) (.eq (.call 9 0 [j]) z)) (.eq (.call 9 1 [j]) (.lit (.i 2)))
 (.need [(.ok 0 [z]),(.ok 1 [(.lit (.i 1))]),(.ok 2 [v,m]),(.ok 3 [u,p,(.call 2 0 [v,m])])] (.need [(.ok 0 [w]),a1,(.ok 2 [(.lit (.s ⟨#[101,114,114,111,114]⟩)),(.row [(.call 0 0 [w]),t])]),(.ok 5 [h])] (.need [(.ok 0 [c1]),(.ok 6 [(.call 0 0 [c1])])] (.need [(.ok 1 [s]),(.ok 6 [e1])] (.need [(.ok 1 [(.lit (.i 256))]),(.ok 7 [d1])] (.need [(.ok 0 [w]),(.ok 0 [(.lit (.s ⟨#[98]⟩))]),a1,(.ok 2 [b1,(.row [(.call 0 0 [(.lit (.s ⟨#[98]⟩))]),t])]),(.ok 2 [b1,k]),(.ok 8 [(.call 2 0 [b1,k])])] (.need [(.ok 0 [z]),(.ok 1 [(.lit (.i 2))]),(.ok 2 [v,(.row [(.call 0 0 [z]),(.call 1 0 [(.lit (.i 2))])])]),(.ok 9 [j])] (.need [(.imp d (.ok 11 [(.call 9 2 [j]),t])),(.imp d a1),(.imp l (.ok 11 [(.call 8 1 [(.call 2 0 [b1,k])]),(.call 10 0 [(.call 0 0 [n])])])),(.imp l (.ok 10 [(.call 0 0 [n])])),(.imp l (.ok 0 [n])),(.imp b (.ok 11 [(.call 7 1 [d1]),(.call 10 0 [e])])),(.imp b (.ok 10 [e])),(.imp b (.ok 2 [(.lit (.s ⟨#[114,101,112,114,101,115,101,110,116,97,116,105,111,110,95,101,114,114,111,114]⟩)),(.row [(.call 0 0 [x])])])),(.imp b (.ok 0 [x])),(.imp f (.ok 11 [(.call 6 1 [e1]),(.call 10 0 [(.call 2 0 [r,q])])])),(.imp f (.ok 10 [(.call 2 0 [r,q])])),(.imp f (.ok 2 [r,q])),(.imp f (.ok 1 [s])),(.imp f (.ok 0 [(.lit (.s ⟨#[97,116,111,109]⟩))])),(.imp a (.ok 11 [(.call 6 1 [(.call 0 0 [c1])]),t])),(.imp a a1),(.imp y (.ok 11 [(.call 5 0 [h]),(.call 0 0 [w])])),(.imp y (.ok 0 [w])),(.imp c (.ok 11 [(.call 12 0 [s]),(.call 10 0 [i])])),(.imp c (.ok 10 [i])),(.imp c (.ok 2 [(.lit (.s ⟨#[115,121,110,116,97,120,95,101,114,114,111,114]⟩)),(.row [e1])])),(.imp c (.ok 1 [s])),(.imp c (.ok 12 [s])),(.ok 11 [(.call 3 0 [u,p,(.call 2 0 [v,m])]),(.call 10 0 [(.call 2 0 [o,g])])]),(.ok 10 [(.call 2 0 [o,g])]),(.ok 2 [o,g]),(.ok 2 [v,m]),(.ok 1 [(.lit (.i 1))]),(.ok 0 [z]),(.ok 0 [p]),(.ok 0 [u])] (.leaf [(.and (.and d (.call 11 0 [(.call 9 2 [j]),t])) (.call 9 3 [j]))])))))))))
theorem qak(g0 g1 g2 g3 g4 g5 g6 g7 g8 g9 g10 g11 g12:GfZ):CdZ [(yf,g0),(jx,g1),(yq,g2),(qw,g3),(jf,g4),(zp,g5),(zo,g6),(yo,g7),(yj,g8),(zf,g9),(y2,g10),(zw,g11),(zz,g12)] qb1 j8 Try.f5 q3u:=fun cd h=>by injection h with h;subst h;kernel_rfl
theorem qbv{g0 g1 g2 g3 g4 g5 g6 g7 g8 g9 g10 g11 g12 g:GfZ}(h0:FOk yf g0)(h1:FOk jx g1)(h2:FOk yq g2)(h3:FOk qw g3)(h4:FOk jf g4)(h5:FOk zp g5)(h6:FOk zo g6)(h7:FOk yo g7)(h8:FOk yj g8)(h9:FOk zf g9)(h10:FOk y2 g10)(h11:FOk zw g11)(h12:FOk zz g12)(h:HgZ q3u j8 [(yf,g0),(jx,g1),(yq,g2),(qw,g3),(jf,g4),(zp,g5),(zo,g6),(yo,g7),(yj,g8),(zf,g9),(y2,g10),(zw,g11),(zz,g12)] g):FOk j8 g:=yx (qak g0 g1 g2 g3 g4 g5 g6 g7 g8 g9 g10 g11 g12) (.cons h0 (.cons h1 (.cons h2 (.cons h3 (.cons h4 (.cons h5 (.cons h6 (.cons h7 (.cons h8 (.cons h9 (.cons h10 (.cons h11 (.cons h12 .nil))))))))))))) rfl rfl q3h (by decide) h
def z8:Ct:=⟨3,[.val (.str),.val (.str),.val (.st 23)],[(.bool,false)],[],none,[],[]⟩
theorem q48:EnZ z8:=fun _ _=>by kernel_rfl
section
def q22(F:Fence)(n:Nat)(P:Program)(Q:Exit→Act→World→Prop):List Code→(Act→World→Prop)→Act→World→Prop
 |[],K=>K
 |x::xs,K=>fun a w=>x.wpIn F n P (Exit.then (q22 F n P Q xs K) Q) a w
def seqs:List Code→Code→Code
 |[],y=>y
 |x::xs,y=>.seq x (seqs xs y)
theorem q7i{F:Fence}{n:Nat}{P:Program}{Q:Exit→Act→World→Prop}:∀(xs:List Code){y:Code}{a:Act}{w:World},q22 F n P Q xs (fun a w=>y.wpIn F n P Q a w) a w→(seqs xs y).wpIn F n P Q a w
 |[],y,a,w,h=>h
 | x :: xs, y, a, w, h => wpIn_seq (wpIn_mono h fun e a w hq => by
   cases e with
   |normal=>exact q7i xs hq
   |_=>exact hq)
theorem q9y{F:Fence}{n:Nat}{P:Program}{Q:Exit→Act→World→Prop}:∀(xs ys:List Code){K:Act→World→Prop}{a:Act}{w:World},q22 F n P Q (xs++ys) K a w→q22 F n P Q xs (q22 F n P Q ys K) a w
 |[],ys,K,a,w,h=>h
 | x :: xs, ys, K, a, w, h => wpIn_mono h fun e a w hq => by
   cases e with
   |normal=>exact q9y xs ys hq
   |_=>exact hq
theorem q7k{F:Fence}{n:Nat}{P:Program}{Q Q':Exit→Act→World→Prop}(hQ:∀e a w,e≠.normal→Q e a w→Q' e a w):∀(xs:List Code){K K':Act→World→Prop}(hK:∀a w,K a w→K' a w){a:Act}{w:World},q22 F n P Q xs K a w→q22 F n P Q' xs K' a w
 |[],K,K',hK,a,w,h=>hK _ _ h
 | x :: xs, K, K', hK, a, w, h => wpIn_mono h fun e a w hq => by
   cases e with
   |normal=>exact q7k hQ xs hK hq
   |exit i=>exact hQ _ _ _ (by simp) hq
   |ret=>exact hQ _ _ _ (by simp) hq
   |goto i=>exact hQ _ _ _ (by simp) hq
   |panic ch=>exact hQ _ _ _ (by simp) hq
   |outgrown=>exact hQ _ _ _ (by simp) hq
section
variable{c:Cx}{p:qe}{w w0:World}{S0:Nat→Prop}{a:Act}{σ σ':St}{d:List Deferred}{z:Nat}{tbl:Tbl}
theorem q52(ro:Option Nat)(nn:Nat)(htb:ym tbl)(hfm:(∀te,c.F.mx te≤flM tbl te)∧(spB tbl=true→c.A.k=true))(hnp:qew tbl=true){ann:Ann}{R:List D→Prop}{Q:Exit→Act→World→Prop}{K:Act→World→Prop}:∀(xs:List Code){n:Nat}{σ:St}{k:Nat→ResD→St→Tree}{l:List D}{B:Nat→List D→Prop}{p:qe}{w:World}{a:Act},
  (q3y uE tbl ann c.lo z xs n σ k).go (qx tbl) R l B→l.length=n→Bs c.A c.F w0 S0 p w→SF (c.at (qx tbl) l) σ p w a→a.defers=d→a.tmps.size=z→
  (∀n' r σ' l' B' p' w' a',l'.length=n'→l'.take n=l→(k n' r σ').go (qx tbl) R l' B'→Bs c.A c.F w0 S0 p' w'→SF (c.at (qx tbl) l') σ' p' w' a'→a'.defers=d→a'.tmps.size=z→Exit.then K Q r.exit' a' w')→q22 (FR ro) nn uE Q xs K a w
 |[],n,σ,k,l,B,p,w,a,h,hl,hb,hf,hd,hz,hk=>hk n .normal σ l B p w a hl (by rw[←hl];exact uI) h hb hf hd hz
 | x :: xs, n, σ, k, l, B, p, w, a, h, hl, hb, hf, hd, hz, hk => by
  refine qrt ro nn htb hfm x h hl hb hf hd hz (qv4 hnp) (qvd hnp) fun n' r σ' l' B' p' w' a' hl' hpre _ hgo hb' hf' hd' hz'=>?_;have hnn:n≤n':=by
   have:=congrArg kM hpre;simp at this;omega
  cases r with
  |normal=>exact q52 ro nn htb hfm hnp xs hgo hl' hb' hf' hd' hz' fun n2 r2 σ2 l2 B2 p2 w2 a2 h1 h2=>hk n2 r2 σ2 l2 B2 p2 w2 a2 h1 (by rw[←hpre,←h2,List.take_take,Nat.min_eq_left hnn])
  |ret=>exact hk n' .ret σ' l' B' p' w' a' hl' hpre hgo hb' hf' hd' hz'
  |exit i=>exact hk n' (.exit i) σ' l' B' p' w' a' hl' hpre hgo hb' hf' hd' hz'
def ql9(ts ms:List Item)(kill:List Nat)(σk:St):Nat→ResD→St→Tree:=fun _ r σ=>match r with
 |.normal=>(match conv ts ms (σ.drop kill) with
  |some (σc,va,vb)=>if covers σc σk then .leaf (va++vb) else .bad 1
  |none=>.need (qmc (σ.drop kill) ts ms) (.bad 2))
 |.ret=>.leaf []
 |.exit i=>.leaf [.lit (.i (Int.ofNat i))]
theorem qva{ts ms:List Item}{kill:List Nat}{σk σc:St}{va vb:List X}{l:List D}(h:conv ts ms (σ.drop kill)=some (σc,va,vb))(hcov:covers σc σk=true)(hb:Bs c.A c.F w0 S0 p w)(hf:SF (c.at (qx tbl) l) σ p w a):
  ∃p',Bs c.A c.F w0 S0 p' w∧SF (c.at (qx tbl) l) σk p' w a∧ItT c.snap c.A p' w a ts (X.evs (evl (qx tbl) l) va)∧ItM c.A p' w ms (X.evs (evl (qx tbl) l) vb):=by
 have hf2:=SF.un (c:=c.at (qx tbl) l) (q:=q4x kill σ) hb.inj hb.pa hf;have hb2:=hb.un (q4x kill σ);change SF _ (σ.drop kill) _ _ _ at hf2;unfold conv at h
 split at h
 ·rename_i hrb;split at h
  ·rename_i wa wb hwa hwb;simp only[gnS] at h;obtain⟨rfl,rfl,rfl⟩:=h;obtain⟨p3,hb3,hf3⟩:=qhd (c:=c.at (qx tbl) l) hrb hb2 hf2;exact⟨p3,hb3,q1l hcov hf3,qjz hf3 hwa,qj0 hf3 hwb⟩
  ·cases h
 ·cases h
theorem qrz{ts ms:List Item}{σ σc:St}{va vb:List X}(h:conv ts ms σ=some (σc,va,vb)):va.length=ts.length∧vb.length=ms.length:=by
 unfold conv at h
 split at h
 ·split at h
  ·rename_i wa wb hwa hwb;simp only[gnS] at h;obtain⟨-,rfl,rfl⟩:=h;exact⟨q8i hwa,q8i hwb⟩
  ·cases h
 ·cases h
end
theorem qma{c:Cx}{p':qe}{w' w0:World}{S0:Nat→Prop}{a':Act}{σ':St}{tbl:Tbl}{ts ms:List Item}{kill:List Nat}{σk:St}{n n':Nat}{R:List D→Prop}{l l':List D}{B':Nat→List D→Prop}(hgo:(ql9 ts ms kill σk n' .normal σ').go (qx tbl) R l' B')(hpre:l'.take n=l)(hl:l.length=n)(hb':Bs c.A c.F w0 S0 p' w')(hf':SF (c.at (qx tbl) l') σ' p' w' a'):
  ∃st p2,R st∧st.length=ts.length+ms.length∧Bs c.A c.F w0 S0 p2 w'∧SF (c.at (qx tbl) (l++st)) (qju ts ms n (q8f ts ms kill n σk)) p2 w' a':=by
 simp only[ql9] at hgo;split at hgo
 ·rename_i σc va vb hcv;split at hgo
  ·rename_i hcov;obtain⟨p2,hb2,hf2,h1,h2⟩:=qva (c:=c) hcv hcov hb' hf';obtain⟨q1,q2⟩:=qrz hcv;have hR:R (X.evs (evl (qx tbl) l') (va++vb)):=hgo;rw[qc9] at hR;have hnl:n≤l'.length:=by
    have:=congrArg kM hpre;simp at this;omega
   refine⟨_,p2,hR,by simp[qh8,q1,q2],hb2,?_⟩;refine qo3 (c:=c.at (qx tbl) l') (c':=c.at (qx tbl) (l++_)) rfl rfl ⟨rfl,rfl,rfl⟩ (fun k hk=>?_) (fun i hi=>?_) (qio hf2) h1 h2
   ·show l'.getD k .u=(l++_).getD k .u
    simp only[gnG];rw[List.getElem?_append_left (by omega),←hpre,List.getElem?_take_of_lt hk]
   ·show(l++_).getD (n+i) .u=_
    simp only[gnG];rw[List.getElem?_append_right (by omega)]
    congr 2
    omega
  ·exact hgo.elim
 ·exact hgo.2.elim
def toN(ts ms:List Item)(kill:List Nat)(σk:St):Nat→ResD→St→Tree:=fun n r σ=>match r with
 |.normal=>ql9 ts ms kill σk n .normal σ
 |_=>.bad 1
theorem q4f{c:Cx}{p:qe}{w w0:World}{S0:Nat→Prop}{a:Act}{σ:St}{d:List Deferred}{z:Nat}{tbl:Tbl}(ro:Option Nat)(nn:Nat)(htb:ym tbl)(hfm:(∀te,c.F.mx te≤flM tbl te)∧(spB tbl=true→c.A.k=true))(hnp:qew tbl=true){ann:Ann}{R:List D→Prop}{Q:Exit→Act→World→Prop}{K:Act→World→Prop}(xs:List Code){n:Nat}{ts ms:List Item}{kill:List Nat}{σk:St}{l:List D}{B:Nat→List D→Prop}
  (h:(q3y uE tbl ann c.lo z xs n σ (toN ts ms kill σk)).go (qx tbl) R l B)(hl:l.length=n)(hb:Bs c.A c.F w0 S0 p w)(hf:SF (c.at (qx tbl) l) σ p w a)(hd:a.defers=d)(hz:a.tmps.size=z)
  (hk:∀st p' w' a',R st→st.length=ts.length+ms.length→Bs c.A c.F w0 S0 p' w'→SF (c.at (qx tbl) (l++st)) (qju ts ms n (q8f ts ms kill n σk)) p' w' a'→a'.defers=d→a'.tmps.size=z→K a' w'):q22 (FR ro) nn uE Q xs K a w:=by
 refine q52 ro nn htb hfm hnp xs h hl hb hf hd hz fun n' r σ' l' B' p' w' a' hl' hpre hgo hb' hf' hd' hz'=>?_;cases r with
 |ret=>exact hgo.elim
 |exit i=>exact hgo.elim
 |normal=>
  obtain⟨st,p2,hR,hst,hb2,hf2⟩:=qma (c:=c) (n':=n') hgo hpre hl hb' hf';exact hk st p2 w' a' hR hst hb2 hf2 hd' hz'
theorem qr7{ct:Ct}{tbl:Tbl}(fn:Func)(cd:Code)(hf:uE.funcs[ct.f]? =some fn)(hb:fn.body=some cd)(hsz:ct.ar.length≤fn.ntmps)
  (hen:∀args w,(callFunc ct.f args).run uE w=.ok (.enter ct.f args) w){g:List D→Option (List D)}
  (h:∀ds outs,WfA ct.ars ds→g ds=some outs→∀(c:Cx)(p:qe)(w:World)(a:Act)(Q:Exit→Act→World→Prop),c.lo=ct.ar.length→(∀te,c.F.mx te=0)→c.A.k=false→ds.length=q1w ct.ars→Bs c.A c.F w (pinned p) p w→SF (c.at (qx tbl) ds) (qkn ct) p w a→a.defers=[]→a.tmps.size=fn.ntmps→
   (∀n' r σ' l' B' p' w' a',l'.length=n'→(qip ct fn.results.toList n' r σ').go (qx tbl) (fun o=>o=outs) l' B'→Bs c.A c.F w (pinned p) p' w'→SF (c.at (qx tbl) l') σ' p' w' a'→a'.defers=[]→a'.tmps.size=fn.ntmps→Q r.exit' a' w')→
   cd.wpIn (FR none) 0 uE Q a w)(hkp:ct.kp=[]:=by rfl)(hfl:ct.fl=[]:=by rfl):FOk ct g:=by
 refine⟨hen,fun A F p w vs us ds outs hg hfl0 hfo hpre hvl hargs=>calls_of_wp hf hb ?_,fun h=>absurd hkp h⟩;obtain⟨hwf,hdl,-⟩:=hargs.wf;rw[all_map] at hwf hdl;obtain⟨hb0,hsf⟩:=qg9 (tbl:=tbl) hsz hfo hpre hvl hargs;refine(wpIn_wide (n:=0)).1 ?_;refine h ds outs hwf hg (cxA tbl ct A F p vs us ds) p w _ _ rfl (hfl0.zero hfl) hpre.sp hdl hb0 hsf rfl (by simp;omega) fun n' r σ' l' B' p' w' a' hl' hgo' hb' hf' hd' hz'=>?_;have fin':∀xs,fin ct fn.results.toList σ'=some xs→X.evs (evl (qx tbl) l') xs=outs→a'.defers=[]∧∃v,(results fn a'.tmps).run uE w'=.ok v w'∧((∃T,ct.pn=some T∧outs=[.u]∧Ending.returned v=.panicked (q55 T)∧But (pinned p) w w')∨∃rs p',Ending.returned v=.returned (qfe rs)∧Bs A F w (pinned p) p' w'∧qcr A p' w' ct.rs ct.ar.length rs (outs.take ct.rs.length)∧q35 (vs++us) A p p' w' ct.all (outs.drop ct.rs.length)):=by
  intro xs hfin hout;obtain⟨rs,p2,h1,h2,h3,h4⟩:=qn3 (c:=cxA tbl ct A F p vs us ds) rfl rfl (fun _ _=>rfl) hargs hvl hb' hf' hfin;rw[hout] at h3 h4;exact⟨hd',_,h1,.inr ⟨rs,p2,rfl,h2,h3,h4⟩⟩
 cases r with
 |exit i=>exact hgo'.elim
 | normal =>
  simp only[qip] at hgo';split at hgo'
  ·rename_i xs hx;exact fin' xs hx hgo'
  ·exact hgo'.elim
 | ret =>
  simp only[qip] at hgo';split at hgo'
  ·rename_i xs hx;exact fin' xs hx hgo'
  ·exact hgo'.elim
def Dat(P:Nat→Prop)(w:World)(v:Value)(d:D)(t:Ty):Prop:=∃b o cs,v=.pointer (some ⟨b,o,none⟩)∧(P b∧b<w.heap.size)∧w.rangeAt b o cs∧0<cs.length∧Rd w (fun b=>P b∧b<w.heap.size) d t cs
theorem Dat.kept{P:Nat→Prop}{w w':World}{S:Nat→Prop}{v:Value}{d:D}{t:Ty}(h:Dat P w v d t)(hb:But S w w')(hS:∀b,P b→b<w.heap.size→¬S b):Dat P w' v d t:=by
 obtain⟨b,o,cs,e,h1,h2,h3,h4⟩:=h;have hk:Kp (fun b=>P b∧b<w.heap.size) (fun b=>P b∧b<w'.heap.size) w w':=fun b o hb' ho=>⟨(hb.block b hb'.2 (hS b hb'.1 hb'.2)).trans ho,hb'.1,kA hb'.2 hb.size⟩;obtain⟨h5,h6⟩:=hk.range h1 h2 h3;exact⟨b,o,cs,e,h6,h5,h3,Rd.keeps hk _ h4⟩
theorem Dat.mono{P P':Nat→Prop}{w:World}{v:Value}{d:D}{t:Ty}(hP:∀b,P b→b<w.heap.size→P' b)(h:Dat P w v d t):Dat P' w v d t:=by
 obtain⟨b,o,cs,e,h1,h2,h3,h4⟩:=h;exact⟨b,o,cs,e,⟨hP b h1.1 h1.2,h1.2⟩,h2,h3,h4.mono fun b _ hb=>⟨hP b hb.1 hb.2,hb.2⟩⟩
theorem Dat.rd{P:Nat→Prop}{w:World}{v:Value}{x:X}{t:Ty}{c:Cx}{p:qe}{dep:List Nat}(h:Dat P w v (x.ev c.v) t)(hP:∀b,P b→b<w.heap.size→FFD c.A p dep b):(AV.rd x t dep none).pd c p w v:=by
 obtain⟨b,o,cs,e,h1,h2,h3,h4⟩:=h;exact⟨b,o,cs,e,hP b h1.1 h1.2,h2,h3,h4.mono fun b _ hb=>hP b hb.1 hb.2,trivial⟩
def Lie(P:Nat→Prop)(w:World)(v:Value)(d:D)(t:Ty):Prop:=∃cs,z4 t cs v∧Rd w (fun b=>P b∧b<w.heap.size) d t cs
theorem Lie.kept{P:Nat→Prop}{w w':World}{S:Nat→Prop}{v:Value}{d:D}{t:Ty}(h:Lie P w v d t)(hb:But S w w')(hS:∀b,P b→b<w.heap.size→¬S b):Lie P w' v d t:=by
 obtain⟨cs,e,h4⟩:=h;have hk:Kp (fun b=>P b∧b<w.heap.size) (fun b=>P b∧b<w'.heap.size) w w':=fun b o hb' ho=>⟨(hb.block b hb'.2 (hS b hb'.1 hb'.2)).trans ho,hb'.1,kA hb'.2 hb.size⟩;exact⟨cs,e,Rd.keeps hk _ h4⟩
theorem Lie.v{P:Nat→Prop}{w:World}{v:Value}{x:X}{t:Ty}{c:Cx}{p:qe}{dep:List Nat}(h:Lie P w v (x.ev c.v) t)(hP:∀b,P b→b<w.heap.size→FFD c.A p dep b):(AV.v x t [] dep).pd c p w v:=by
 obtain⟨cs,e,h4⟩:=h;exact⟨cs,e,Con.of_rd (h4.mono fun b _ hb=>hP b hb.1 hb.2)⟩
theorem qww{P:Nat→Prop}{w:World}{d:D}{t:Ty}{cs:List Value}(h:Rd w P d t cs):Rd w (fun b=>P b∧b<w.heap.size) d t cs:=Rd.keeps (fun b o hb ho=>⟨ho,hb,zd ho⟩) _ h
theorem qsc{A:Bk}{F:Flr}{w0 w:World}{S0:Nat→Prop}{p:qe}{dep:List Nat}(hb:Bs A F w0 S0 p w)(hd:q0d∉dep){b:Nat}(h:FFD A p dep b):A b:=by
 rcases h with⟨h,-⟩|⟨x,-,e⟩|⟨h,-⟩
 ·exact h
 ·exact hb.pa x b e
 ·exact absurd h hd
theorem SF.dat{c:Cx}{σ:St}{p:qe}{w w0:World}{S0:Nat→Prop}{a:Act}{A:Bk}{F:Flr}(hf:SF c σ p w a)(hb:Bs A F w0 S0 p w)(hA:c.A=A){k t0:Nat}{t:Ty}{x:X}{path:List Nat}(ht:lkA σ.t t0=some (.ref k path 0 t))(hm:lkA σ.m k=some ⟨x,t,[],[]⟩)(h0:0<t.w):∃v,a.tmps[t0]? =some v∧Dat (fun b=>A b) w v (x.ev c.v) t:=by
 subst hA;obtain⟨v,h1,g,hg,rfl,-⟩:=hf.t _ _ ht;obtain⟨g',cs,T,hg',hh,hty,hc⟩:=hf.m _ _ hm;obtain rfl:=gnI (hg.symm.trans hg');have hr:=hc.rd (dep':=[]) (fun x hx=>hx) (fun x hx=>by cases hx);refine⟨_,h1,g,0,cs.toList,rfl,⟨hb.pa _ _ hg,hb.bd _ _ hg⟩,fun j v hj=>?_,by rw[(Rd.len _ hr).1];exact h0,(qww hr).mono fun b _ hb'=>⟨qsc hb (by simp) hb'.1,hb'.2⟩⟩;rw[Nat.zero_add,cell_of_row w g _ cs T (0,0) hh,←Array.getElem?_toList];exact hj
theorem SF.lie{c:Cx}{σ:St}{p:qe}{w w0:World}{S0:Nat→Prop}{a:Act}{A:Bk}{F:Flr}(hf:SF c σ p w a)(hb:Bs A F w0 S0 p w)(hA:c.A=A){t0:Nat}{t:Ty}{x:X}{dep:List Nat}(hd:q0d∉dep)(ht:lkA σ.t t0=some (.v x t [] dep)):∃v,a.tmps[t0]? =some v∧Lie (fun b=>A b) w v (x.ev c.v) t:=by
 subst hA;obtain⟨v,h1,cs,h2,hc⟩:=hf.t _ _ ht;have hr:=hc.rd (dep':=dep) (fun x hx=>hx) (fun x hx=>by cases hx);exact⟨v,h1,cs,h2,(qww hr).mono fun b _ hb'=>⟨qsc hb hd hb'.1,hb'.2⟩⟩
def noP:qe:=fun _=>none
theorem Bs.anew{A A':Bk}{F:Flr}{w0 w:World}{S0 S':Nat→Prop}{p:qe}(hn:∀b,w.heap.size≤b→A' b)(hsp:A'.k=true→∀b,A' b→S' b∨w.heap.size≤b)(huf:Unf S' w):Bs A' .no w S' noP w:=
 ⟨fun x y b h=>(by cases h),fun x b h=>(by cases h),But.refl _ _,fun x b h=>(by cases h),fun b hb=>⟨hn b hb,trivial⟩,fun x b h=>(by cases h),fun x b h=>(by cases h),Flo.no,hsp,fun b cs T f hb hc=>by
  rcases hb with hb|hb
  ·exact huf b cs T f hb hc
  ·have:=zd hc;omega⟩
theorem q53{b:Nat}:q3n noP b:=fun x h=>by cases h
end
section
theorem q5h(n:Int):(D.i n).int=n:=rfl
theorem qoz(x:Bool):(D.b x).tt=x:=by cases x<;>rfl
theorem qj8(l:List D):(D.r l).rs=l:=rfl
theorem qz5(l:List D):(D.a l).fs=l:=rfl
theorem q5l(x:ByteArray):(D.s x).str=x:=rfl
theorem qn6(m n:Int):(D.i m=D.i n)=(m=n):=by simp
theorem qwt(m n:Bool):(D.b m=D.b n)=(m=n):=by simp
theorem qw9(m n:ByteArray):(D.s m=D.s n)=(m=n):=by simp
theorem qhf{S:Nat→List D→Option (List D)}{R:List D→Prop}{ns:List X}{t:Tree}{l:List D}{B:Nat→List D→Prop}:(Tree.need ns t).go S R l B=(q45 (evl S l) ns∧t.go S R l B):=rfl
theorem q5f{S:Nat→List D→Option (List D)}{R:List D→Prop}{x:X}{t e:Tree}{l:List D}{B:Nat→List D→Prop}:(Tree.br x t e).go S R l B=(((x.ev (evl S l)).tt=true→t.go S R l B)∧((x.ev (evl S l)).tt=false→e.go S R l B)):=rfl
theorem qnr{S:Nat→List D→Option (List D)}{R:List D→Prop}{xs:List X}{l:List D}{B:Nat→List D→Prop}:(Tree.leaf xs).go S R l B=R (X.evs (evl S l) xs):=rfl
theorem qnz{S:Nat→List D→Option (List D)}{R:List D→Prop}{id:Nat}{xs:List X}{l:List D}{B:Nat→List D→Prop}:(Tree.back id xs).go S R l B=B id (X.evs (evl S l) xs):=rfl
theorem q15{S:Nat→List D→Option (List D)}{R:List D→Prop}{id n:Nat}{init:List X}{body:Tree}{l:List D}{B:Nat→List D→Prop}:(Tree.loop id n init body).go S R l B=∃(I:List D→Prop)(μ:List D→Nat),I (X.evs (evl S l) init)∧
   ∀st,st.length=init.length→I st→body.go S R (l.take n++st) (q46 B id fun st'=>I st'∧μ st'<μ st):=rfl
theorem qmn{n:Int}:yy .i64 n=true↔-9223372036854775808≤n∧n≤9223372036854775807:=by simp[yy]
theorem gnA:type_of% (uA @uD.{0} (uA @uY.{0} (uA @uT.{0} (uA @uU.{0} (uA @qoz (uA @q5h (uA @q5l (uA @qj8 (uA @uW.{0} (uA @uZ.{0} (uA @decide_eq_true_eq (uA @decide_eq_false_iff_not (uA @uM.{0,0} (uA @qn6 (uA @qwt (uA @qw9 (uA @qmn (uA @uX.{0} (uA @kI.{0} (uA @kC.{0} (uA @uQ.{0} (uA @decide_true (uA @decide_false (uA @kL (uA @true_and @and_true))))))))))))))))))))))))):=uA @uD.{0} (uA @uY.{0} (uA @uT.{0} (uA @uU.{0} (uA @qoz (uA @q5h (uA @q5l (uA @qj8 (uA @uW.{0} (uA @uZ.{0} (uA @decide_eq_true_eq (uA @decide_eq_false_iff_not (uA @uM.{0,0} (uA @qn6 (uA @qwt (uA @qw9 (uA @qmn (uA @uX.{0} (uA @kI.{0} (uA @kC.{0} (uA @uQ.{0} (uA @decide_true (uA @decide_false (uA @kL (uA @true_and @and_true))))))))))))))))))))))))
theorem gnZ:type_of% (uA @qhf (uA @q5f (uA @qnr (uA @qnz (uA @q45.eq_1 (uA @q45.eq_2 (uA @X.says.eq_1 (uA @X.ev.eq_1 (uA @X.ev.eq_2 (uA @X.ev.eq_3 (uA @X.ev.eq_4 (uA @X.ev.eq_5 (uA @X.ev.eq_6 (uA @X.ev.eq_7 (uA @X.ev.eq_8 (uA @X.ev.eq_9 (uA @X.ev.eq_10 (uA @X.ev.eq_11 (uA @X.ev.eq_12 (uA @X.ev.eq_13 (uA @X.ev.eq_14 (uA @X.ev.eq_15 (uA @X.ev.eq_16 (uA @X.ev.eq_17 (uA @X.ev.eq_18 (uA @X.ev.eq_19 (uA @X.ev.eq_20 (uA @X.ev.eq_21 (uA @X.ev.eq_22 (uA @X.ev.eq_23 (uA @X.ev.eq_24 (uA @X.ev.eq_25 (uA @X.ev.eq_26 (uA @X.ev.eq_27 (uA @X.ev.eq_28 (uA @X.ev.eq_29 (uA @X.evs.eq_1 (uA @X.evs.eq_2 (uA @evl.eq_1 (uA @qx.eq_1 @gnA)))))))))))))))))))))))))))))))))))))))):=uA @qhf (uA @q5f (uA @qnr (uA @qnz (uA @q45.eq_1 (uA @q45.eq_2 (uA @X.says.eq_1 (uA @X.ev.eq_1 (uA @X.ev.eq_2 (uA @X.ev.eq_3 (uA @X.ev.eq_4 (uA @X.ev.eq_5 (uA @X.ev.eq_6 (uA @X.ev.eq_7 (uA @X.ev.eq_8 (uA @X.ev.eq_9 (uA @X.ev.eq_10 (uA @X.ev.eq_11 (uA @X.ev.eq_12 (uA @X.ev.eq_13 (uA @X.ev.eq_14 (uA @X.ev.eq_15 (uA @X.ev.eq_16 (uA @X.ev.eq_17 (uA @X.ev.eq_18 (uA @X.ev.eq_19 (uA @X.ev.eq_20 (uA @X.ev.eq_21 (uA @X.ev.eq_22 (uA @X.ev.eq_23 (uA @X.ev.eq_24 (uA @X.ev.eq_25 (uA @X.ev.eq_26 (uA @X.ev.eq_27 (uA @X.ev.eq_28 (uA @X.ev.eq_29 (uA @X.evs.eq_1 (uA @X.evs.eq_2 (uA @evl.eq_1 (uA @qx.eq_1 @gnA)))))))))))))))))))))))))))))))))))))))
section
variable{α:Type}[Inhabited α]
theorem get_map(e:α→D){l:List α}{i:Nat}(h:i<l.length):(l.map e).getD i .u=e (l.getD i default):=by
 simp[gnG,h]
theorem qde(e:α→D){l:List α}{i:Nat}(h:i<l.length):(D.r (l.map e)).get (i:Int)=e (l.getD i default):=get_map e (by simpa using h)
omit [Inhabited α] in
theorem qyz{e:α→D}{P:α→Prop}{l:List D}(h:∀x∈l,∃a,x=e a∧P a):∃m:List α,l=m.map e∧∀a∈m,P a:=by
 induction l with
 |nil=>exact⟨[],rfl,fun a ha=>by cases ha⟩
 |cons x l ih=>
  obtain⟨a,rfl,ha⟩:=h x List.mem_cons_self;obtain⟨m,rfl,hm⟩:=ih fun y hy=>h y (List.mem_cons_of_mem _ hy);refine⟨a::m,rfl,fun b hb=>?_⟩;rcases uO.1 hb with rfl|hb
  ·exact ha
  ·exact hm b hb
theorem q8t{l:List α}{i:Nat}(h:i<l.length):l.getD i default∈l:=by
 rw[gnG,gnK h];exact List.getElem_mem h
theorem q5y{l:List α}{k:Nat}(h:k<l.length):l.take (k+1)=l.take k++[l.getD k default]:=by
 rw[List.take_add_one,gnK h];simp[gnG,h]
end
theorem q9p{P:Nat→Prop}{k:Nat}(h:∀j,j<k→P j)(hk:P k):∀j,j<k+1→P j:=fun j hj=>by
 rcases Nat.lt_succ_iff_lt_or_eq.1 hj with h1|h1
 ·exact h j h1
 ·exact h1▸hk
theorem z0t{ds:List D}{t u:Ty}(h:WfL ds [t,u]):∃a b,ds=[a,b]∧Wf a t∧Wf b u:=by
 match ds,h with
 |[],h=>cases h
 |[a],h=>obtain⟨t,ts,e,h1,h2⟩:=h;rw[h2] at e;cases e
 |[a,b],h=>
  obtain⟨t,ts,e,h1,t2,ts2,e2,h2,-⟩:=h;injection e with e e';subst e e';injection e2 with e2 e2';subst e2;exact⟨a,b,rfl,h1,h2⟩
 |a::b::c::l,h=>obtain⟨t,ts,e,h1,t2,ts2,e2,h2,t3,ts3,e3,-⟩:=h;subst e2 e3;cases e
theorem qka{ds:List D}{t:Ty}{ts:List Ty}(h:WfL ds (t::ts)):∃a r,ds=a::r∧Wf a t∧WfL r ts:=by
 match ds,h with
 |[],h=>cases h
 |a::r,h=>
  obtain⟨t,ts,e,h1,h2⟩:=h;injection e with e e';subst e e';exact⟨a,r,rfl,h1,h2⟩
theorem Wf.st_of{d:D}{S:TypeId}{fs:List Ty}(h:Wf d (.st S))(hf:flds S=some fs):∃ds,d=.a ds∧WfL ds fs:=by
 obtain⟨ds,fs',rfl,hf',hl⟩:=h.st;rw[hf] at hf';injection hf' with hf';subst hf';exact⟨ds,rfl,hl⟩
theorem Wf.row_of{d:D}{E:TypeId}{te:Ty}(h:Wf d (.row E))(hE:qc E=some te)(hn:qds E=false:=by rfl):∃l,d=.r l∧l.length≤LM te∧∀x∈l,Wf x te:=by
 obtain⟨l,te',rfl,hE',h1,h2⟩:=h.row hn;rw[hE] at hE';injection hE' with hE';subst hE';exact⟨l,rfl,h1,h2⟩
end
abbrev i64(n:Int):Prop:= -9223372036854775808≤n∧n≤9223372036854775807
theorem wfI{d:D}(h:Wf d (.int .i64)):∃n,d=.i n∧i64 n:=by
 obtain⟨n,rfl,hn⟩:=h.int;exact⟨n,rfl,qmn.1 hn⟩
inductive Te where
 |mk(k n:Int)(s:ByteArray)(l:List Te)
instance:Inhabited Te:=⟨.mk 0 0 ⟨#[]⟩ []⟩
def Te.k:Te→Int|.mk k _ _ _=>k
def Te.n:Te→Int|.mk _ n _ _=>n
def Te.s:Te→ByteArray|.mk _ _ s _=>s
def Te.l:Te→List Te|.mk _ _ _ l=>l
mutual
theorem Te.ind0{P:Te→Prop}(h:∀k n s l,(∀t∈l,P t)→P (.mk k n s l)):∀t,P t
 |.mk k n s l=>h k n s l (Te.inds h l)
theorem Te.inds{P:Te→Prop}(h:∀k n s l,(∀t∈l,P t)→P (.mk k n s l)):∀(l:List Te),∀t∈l,P t
 |[],_,ht=>by cases ht
 |u::l,t,ht=>by
  exact(uO.1 ht).elim (fun e=>e▸Te.ind0 h u) fun h'=>Te.inds h l t h'
end
mutual
def eT:Te→D
 |.mk k n s l=>.a [.i k,.i n,.s s,.r (eTs l)]
def eTs:List Te→List D
 |[]=>[]
 |t::l=>eT t::eTs l
end
theorem qnn:∀l,eTs l=l.map eT
 |[]=>rfl
 |t::l=>by rw[eTs,qnn l,uF]
theorem q81(k n:Int)(s:ByteArray)(l:List Te):eT (.mk k n s l)=.a [.i k,.i n,.s s,.r (l.map eT)]:=by rw[eT,qnn]
mutual
def dT:D→Te
 |.a [.i k,.i n,.s s,.r l]=>.mk k n s (dTs l)
 |_=>.mk 0 0 ⟨#[]⟩ []
def dTs:List D→List Te
 |[]=>[]
 |d::l=>dT d::dTs l
end
mutual
theorem zi:∀t,dT (eT t)=t
 |.mk k n s l=>by simp only[eT,dT,qmu l]
theorem qmu:∀l,dTs (eTs l)=l
 |[]=>rfl
 |t::l=>by simp only[eTs,dTs,zi t,qmu l]
end
theorem qyy{t u:Te}(h:eT t=eT u):t=u:=by rw[←zi t,h,zi u]
theorem qwp(t u:Te):(eT t=eT u)=(t=u):=propext ⟨qyy,fun h=>h▸rfl⟩
theorem qv7(t:Te):(eT t).fld 0=.i t.k:=by cases t;rfl
theorem qvf(t:Te):(eT t).fld 1=.i t.n:=by cases t;rfl
theorem quf(t:Te):(eT t).fld 2=.s t.s:=by cases t;rfl
theorem qzg(t:Te):(eT t).fld 3=.r (t.l.map eT):=by cases t;rw[q81];rfl
theorem z0s(t:Te):D.a [.i t.k,.i t.n,.s t.s,.r (t.l.map eT)]=eT t:=by cases t;rw[q81];rfl
theorem qmi(k n:Int)(s:ByteArray)(l:List Te)(x:Te):D.a ((eT (.mk k n s l)).fs.set 3 (.r (l.map eT++[eT x])))=eT (.mk k n s (l++[x])):=by
 rw[q81,q81];simp[D.fs]
def zT:Te:=.mk 0 0 ⟨#[]⟩ []
theorem z06:D.a [.i 0,.i 0,.s ⟨#[]⟩,.r []]=eT zT:=rfl
theorem gnT:type_of% (uA @zi (uA @qv7 (uA @qvf (uA @quf (uA @qzg (uA @qwp @z06)))))):=uA @zi (uA @qv7 (uA @qvf (uA @quf (uA @qzg (uA @qwp @z06)))))
mutual
def szT:Te→Nat
 |.mk _ _ _ l=>q0k l+1
def q0k:List Te→Nat
 |[]=>0
 |t::l=>szT t+q0k l
end
theorem qjv{t:Te}:∀{l:List Te},t∈l→szT t≤q0k l
 |u::l,h=>by
  rcases uO.1 h with rfl|h
  ·rw[q0k];omega
  ·have:=qjv h;rw[q0k];omega
theorem qvu{t u:Te}(h:u∈t.l):szT u<szT t:=by
 cases t;have:=qjv h;rw[szT];exact Nat.lt_succ_of_le this
theorem q5j:∀(l m:List Te),q0k (l++m)=q0k l+q0k m
 |[],m=>by simp[q0k]
 |t::l,m=>by rw[uQ,q0k,q0k,q5j l m];omega
theorem qgj{l:List Te}{k:Nat}(h:k<l.length):q0k (l.take (k+1))=q0k (l.take k)+szT (l.getD k default):=by
 rw[q5y h,q5j];simp[q0k]
theorem qw7(t:Te):szT t=q0k t.l+1:=by cases t;rw[szT];rfl
mutual
def okT:Te→Prop
 |.mk k n s l=>i64 k∧i64 n∧s.size≤LIM∧l.length≤2513169434843∧qvn l
def qvn:List Te→Prop
 |[]=>True
 |t::l=>okT t∧qvn l
end
theorem qk2:∀{l:List Te},qvn l↔∀t∈l,okT t
 |[]=>⟨fun _ t h=>(by cases h),fun _=>trivial⟩
 |t::l=>by rw[qvn,qk2];simp
theorem qs5{k n:Int}{s:ByteArray}{l:List Te}:okT (.mk k n s l)↔i64 k∧i64 n∧s.size≤LIM∧l.length≤2513169434843∧∀t∈l,okT t:=by rw[okT,qk2]
theorem okT.l{t:Te}(h:okT t):t.l.length≤2513169434843:=by cases t;exact(qs5.1 h).2.2.2.1
theorem qmo(d:D):(Wf d zk→∃t,d=eT t∧okT t)∧(Wf d q7t→∃l:List Te,d=.r (l.map eT)∧l.length≤2513169434843∧∀t∈l,okT t):=by
 have noS:∀{d:D},Wf d zk→∃l,d=.a l:=fun h=>let ⟨l,e,_⟩:=h.st_of (fs:=[.int .i64,.int .i64,.str,q7t]) rfl;⟨l,e⟩
 have noR:∀{d:D},Wf d q7t→∃l,d=.r l:=fun h=>let ⟨l,e,_⟩:=h.row_of (te:=zk) rfl;⟨l,e⟩
 induction d using D.ind with
 |hu=>exact⟨fun h=>(by obtain⟨_,e⟩:=noS h;cases e),fun h=>(by obtain⟨_,e⟩:=noR h;cases e)⟩
 |hi n=>exact⟨fun h=>(by obtain⟨_,e⟩:=noS h;cases e),fun h=>(by obtain⟨_,e⟩:=noR h;cases e)⟩
 |hb n=>exact⟨fun h=>(by obtain⟨_,e⟩:=noS h;cases e),fun h=>(by obtain⟨_,e⟩:=noR h;cases e)⟩
 |hs n=>exact⟨fun h=>(by obtain⟨_,e⟩:=noS h;cases e),fun h=>(by obtain⟨_,e⟩:=noR h;cases e)⟩
 |hm n=>exact⟨fun h=>(by obtain⟨_,e⟩:=noS h;cases e),fun h=>(by obtain⟨_,e⟩:=noR h;cases e)⟩
 |ha l ih=>
  refine⟨fun h=>?_,fun h=>(by obtain⟨_,e⟩:=noR h;cases e)⟩;obtain⟨ds,e,hl⟩:=h.st_of (fs:=[.int .i64,.int .i64,.str,q7t]) rfl;injection e with e;subst e;obtain⟨d0,r,rfl,h0,hl⟩:=qka hl;obtain⟨d1,r,rfl,h1,hl⟩:=qka hl;obtain⟨d2,d3,rfl,h2,h3⟩:=z0t hl;obtain⟨k,rfl,hk⟩:=wfI h0;obtain⟨n,rfl,hn⟩:=wfI h1;obtain⟨s,rfl,hs⟩:=h2.str;obtain⟨ts,rfl,h4,h5⟩:=(ih d3 (by simp)).2 h3;exact⟨.mk k n s ts,(q81 _ _ _ _).symm,qs5.2 ⟨hk,hn,hs,h4,h5⟩⟩
 |hr l ih=>
  refine⟨fun h=>(by obtain⟨_,e⟩:=noS h;cases e),fun h=>?_⟩;obtain⟨l',e,h1,h2⟩:=h.row_of (te:=zk) rfl;injection e with e;subst e;obtain⟨m,rfl,h3⟩:=qyz (e:=eT) (P:=okT) fun x hx=>(ih x hx).1 (h2 x hx);have e:LM zk=2513169434843:=by kernel_rfl
  rw[e,uM] at h1;exact⟨m,rfl,h1,h3⟩
theorem wfT{d:D}(h:Wf d zk):∃t,d=eT t∧okT t:=(qmo d).1 h
theorem qyf{d:D}(h:Wf d q7t):∃l:List Te,d=.r (l.map eT)∧l.length≤2513169434843∧∀t∈l,okT t:=(qmo d).2 h
def q39(t:Te):Bool:=
 if t.k=0 then decide (0≤t.n)&&(decide (t.n≤1099511627776)&&(decide (t.s=⟨#[]⟩)&&decide ((t.l.length:Int)=0)))
 else if t.k=1 then decide (t.s=⟨#[]⟩)&&decide ((t.l.length:Int)=0)
 else if t.k=2 then decide (t.n=0)&&(decide ((t.s.size:Int)≤100)&&decide ((t.l.length:Int)=0))
 else if t.k=3 then decide (t.n=0)&&(decide ((t.s.size:Int)≤100)&&(decide (1≤(t.l.length:Int))&&decide ((t.l.length:Int)≤8)))
 else false
mutual
def zj:Te→Bool
 |.mk k n s l=>q39 (.mk k n s l)&&q64 l
def q64:List Te→Bool
 |[]=>true
 |t::l=>zj t&&q64 l
end
theorem q5i:∀{l:List Te},q64 l=true↔∀t∈l,zj t=true
 |[]=>⟨fun _ t h=>(by cases h),fun _=>rfl⟩
 |t::l=>by rw[q64,gnB,q5i];simp
theorem q47(t:Te):zj t=(q39 t&&(List.range t.l.length).all fun i=>zj (t.l.getD i default)):=by
 cases t with
 |mk k n s l=>
  rw[zj]
  congr 1
  rw[kG,q5i,uR];refine⟨fun h i hi=>h _ (q8t (uS.1 hi)),fun h t ht=>?_⟩;obtain⟨i,hi,rfl⟩:=List.getElem_of_mem ht;have:=h i (uS.2 hi);rwa [show(Te.mk k n s l).l.getD i default=l[i] by simp[Te.l,gnG,gnK hi]] at this
def qq(t:Te):Bool:=decide (szT t≤2000)&&zj t
mutual
def idT:Te→Te→Bool
 |.mk k n s l,.mk k' n' s' l'=>decide (k=k')&&(decide (n=n')&&(decide (s=s')&&ql3 l l'))
def ql3:List Te→List Te→Bool
 |[],[]=>true
 |t::l,u::m=>idT t u&&ql3 l m
 |_,_=>false
end
mutual
theorem q43:∀(t u:Te),idT t u=true↔t=u
 |.mk k n s l,.mk k' n' s' l'=>by simp[idT,qk8 l l']
theorem qk8:∀(l m:List Te),ql3 l m=true↔l=m
 |[],[]=>by simp[ql3]
 |t::l,u::m=>by simp[ql3,q43 t u,qk8 l m]
 |[],_::_=>by simp[ql3]
 |_::_,[]=>by simp[ql3]
end
instance:DecidableEq Te:=fun t u=>if h:idT t u=true then .isTrue ((q43 t u).1 h) else .isFalse fun e=>h ((q43 t u).2 e)
def mT(ds:List D):Nat:=szT (dT (ds.getD 0 .u))
def qu6:List D→Option (List D)
 |[t,m]=>if 1≤m.int then some [.i (min (szT (dT t):Int) m.int)] else none
 |_=>none
def gTi(f:Te→Int):List D→Option (List D)
 |[t]=>some [.i (f (dT t))]
 |_=>none
def gTb(f:Te→Bool):List D→Option (List D)
 |[t]=>some [.b (f (dT t))]
 |_=>none
def gTT(f:Te→Te):List D→Option (List D)
 |[t]=>some [eT (f (dT t))]
 |_=>none
def q6g(f:Te→Te→Bool):List D→Option (List D)
 |[t,v]=>some [.b (f (dT t) (dT v))]
 |_=>none
theorem qzq(k n:Int)(s:ByteArray)(l:List Te):(Te.mk k n s l).l=l:=rfl
theorem q6j{l:List Te}{k:Nat}(h:k<l.length):(D.r (l.map eT)).get (k:Int)=eT (l.getD k default):=qde eT h
theorem q59{t:Te}{k:Nat}(h:k<t.l.length):szT (t.l.getD k default)<szT t:=qvu (q8t h)
theorem qer:FOk ze qu6:=q4a (m:=mT) q3a fun N ih=>qb4 ih fun ds outs hw hg=>by
 obtain⟨d,r,rfl,hd,e,r',rfl,he,rfl⟩:=hw;obtain⟨t,rfl,ht⟩:=wfT hd;obtain⟨m,rfl,hm⟩:=wfI he;simp only[q2u,mT,qu6,uD,zi,q5h,uC,uB] at hg;obtain⟨hsz,h1,rfl⟩:=hg;have hl:=ht.l;rw[q1n,q15];refine⟨fun st=>∃k:Nat,k≤t.l.length∧st=[.i (min ((q0k (t.l.take k):Int)+1) m),.i k],fun st=>t.l.length - (st.getD 1 .u).int.toNat,⟨0,uK _,by simp[X.evs,X.ev,q0k];omega⟩,?_⟩;rintro st - ⟨k,hk,rfl⟩;rw[q5f];refine⟨fun hlt=>?_,fun hlt=>?_⟩
 ·simp only[gnZ,gnT,gnB] at hlt;obtain⟨hkl,hlm⟩:=hlt;have hkl':k<t.l.length:=by omega
  have ha:=q59 hkl';have hs:=qgj hkl';have hmn:1≤m - min ((q0k (t.l.take k):Int)+1) m:=by omega
  simp only[gnZ,gnT,q6j hkl',q2u,mT,qu6,if_pos hmn,if_pos (show szT (t.l.getD k default)<N by omega)];refine⟨⟨by omega,by omega,by omega,by omega⟩,⟨by omega,by omega⟩,?_⟩;rw[q46,if_pos rfl];refine⟨⟨k+1,by omega,?_⟩,?_⟩
  ·rw[hs];simp;omega
  ·simp[D.int];omega
 ·simp only[gnZ,gnT,uN] at hlt;simp only[gnZ,gnT];have hz:=qw7 t;have:min ((q0k (t.l.take k):Int)+1) m=min (szT t:Int) m:=by
   rcases hlt with h|h
   ·have:k=t.l.length:=by omega
    subst this;rw[uI];omega
   ·have h2:=q5j (t.l.take k) (t.l.drop k);rw[uV] at h2;omega
  rw[this]
theorem q6k:FOk y8 (gTi fun t=>min (szT t:Int) 2001):=qe6 qer fun ds outs hw hg=>by
 obtain⟨d,r,rfl,hd,rfl⟩:=hw;obtain⟨t,rfl,ht⟩:=wfT hd;simp only[gTi,zi,uB] at hg;subst hg;simp[q24,gnZ,gnT,qu6]
theorem qfj:FOk yk (gTb q39):=qd0 fun ds outs hw hg=>by
 obtain⟨d,r,rfl,hd,rfl⟩:=hw;obtain⟨t,rfl,ht⟩:=wfT hd;simp only[gTb,zi,uB] at hg;subst hg;simp only[q2d,gnZ,gnT,q39];by_cases h0:t.k=0
 ·simp[h0,uH]
 ·by_cases h1:t.k=1
  ·simp[h1]
  ·by_cases h2:t.k=2
   ·simp[h2,uH]
   ·by_cases h3:t.k=3
    ·simp[h3,uH]
    ·simp[h0,h1,h2,h3]
theorem q5u(t:Te):zj t=true↔q39 t=true∧∀j,j<t.l.length→zj (t.l.getD j default)=true:=by
 rw[q47,gnB,uR];simp
theorem qel:FOk zb (gTb zj):=q4a (m:=mT) q3c fun N ih=>qb2 qfj ih fun ds outs hw hg=>by
 obtain⟨d,r,rfl,hd,rfl⟩:=hw;obtain⟨t,rfl,ht⟩:=wfT hd;simp only[q2u,mT,gTb,uD,zi,q5h,uC,uB] at hg;obtain⟨hsz,rfl⟩:=hg;have hl:=ht.l;simp only[q1d,gnZ,gnT,gTb];refine⟨fun hn=>?_,fun hn=>?_⟩
 ·rw[q47,show q39 t=false by simpa using hn];rfl
 have hn:q39 t=true:=by simpa using hn
 rw[q15];refine⟨fun st=>∃k:Nat,k≤t.l.length∧st=[.b false,.i k]∧∀j,j<k→zj (t.l.getD j default)=true,fun st=>t.l.length - (st.getD 1 .u).int.toNat,⟨0,uK _,rfl,fun j hj=>absurd hj (kH _)⟩,?_⟩;rintro st - ⟨k,hk,rfl,hP⟩;rw[q5f];refine⟨fun hlt=>?_,fun hlt=>?_⟩
 ·simp only[gnZ,gnT] at hlt;have hkl':k<t.l.length:=by omega
  have ha:=q59 hkl';simp only[gnZ,gnT,q6j hkl',q2u,mT,gTb,if_pos (show szT (t.l.getD k default)<N by omega)];refine⟨⟨by omega,by omega⟩,fun hx=>?_,fun hx=>⟨⟨by omega,by omega⟩,?_⟩⟩
  ·have:zj t=false:=by
    cases hh:zj t with
    |false=>rfl
    |true=>rw[((q5u t).1 hh).2 k hkl'] at hx;cases hx
   rw[this]
  ·rw[q46,if_pos rfl];refine⟨⟨k+1,by omega,by simp,q9p hP (by simpa using hx)⟩,?_⟩;simp[D.int];omega
 ·simp only[gnZ,gnT] at hlt⊢;have:k=t.l.length:=by omega
  subst this;rw[(q5u t).2 ⟨hn,hP⟩]
theorem q0y:FOk z5 (gTb qq):=qb5 q6k qel fun ds outs hw hg=>by
 obtain⟨d,r,rfl,hd,rfl⟩:=hw;obtain⟨t,rfl,ht⟩:=wfT hd;simp only[gTb,zi,uB] at hg;subst hg;have e:decide (min (szT t:Int) 2001≤2000)=decide (szT t≤2000):=by rw[decide_eq_decide];omega
 simp[q1i,gnZ,gnT,gTi,gTb,qq,e]
theorem qdj{t u:Te}:idT t u=true↔t.k=u.k∧t.n=u.n∧t.s=u.s∧t.l.length=u.l.length∧∀j,j<t.l.length→idT (t.l.getD j default) (u.l.getD j default)=true:=by
 rw[q43];cases t with
 | mk k n s l =>
  cases u with
  | mk k' n' s' l' =>
   simp only[Te.k,Te.n,Te.s,Te.l,Te.mk.injEq,q43];refine⟨?_,?_⟩
   ·rintro⟨rfl,rfl,rfl,rfl⟩;exact⟨rfl,rfl,rfl,rfl,fun _ _=>rfl⟩
   ·rintro⟨rfl,rfl,rfl,h1,h2⟩;refine⟨rfl,rfl,rfl,List.ext_getElem h1 fun i hi hi'=>?_⟩;have:=h2 i hi;simpa[gnG,gnK hi,gnK hi'] using this
theorem q74:FOk qt (q6g idT):=q4a (m:=mT) q19 fun N ih=>q6a ih fun ds outs hw hg=>by
 obtain⟨d,r,rfl,hd,e,r',rfl,he,rfl⟩:=hw;obtain⟨t,rfl,ht⟩:=wfT hd;obtain⟨u,rfl,hu⟩:=wfT he;simp only[q2u,mT,q6g,uD,zi,q5h,uC,uB] at hg;obtain⟨hsz,rfl⟩:=hg;have hl:=ht.l;have no:(¬idT t u=true)→[D.b false]=[D.b (idT t u)]:=fun h=>by rw[uP.2 h]
 simp only[jy,gnZ,gnT,q6g];refine⟨fun hn=>no fun h=>?_,fun hn=>?_⟩
 ·obtain⟨e1,e2,e3,e4,-⟩:=qdj.1 h;simp[e1,e2,e3,e4] at hn
 simp only[Bool.or_eq_false_iff,Bool.not_eq_false',gnD] at hn;obtain⟨⟨⟨e1,e2⟩,e3⟩,e4⟩:=hn;have e4:t.l.length=u.l.length:=by omega
 rw[q15];refine⟨fun st=>∃k:Nat,k≤t.l.length∧st=[.b false,.i k]∧∀j,j<k→idT (t.l.getD j default) (u.l.getD j default)=true,fun st=>t.l.length - (st.getD 1 .u).int.toNat,⟨0,uK _,rfl,fun j hj=>absurd hj (kH _)⟩,?_⟩;rintro st - ⟨k,hk,rfl,hP⟩;rw[q5f];refine⟨fun hlt=>?_,fun hlt=>?_⟩
 ·simp only[gnZ,gnT] at hlt;have hkl':k<t.l.length:=by omega
  have hku':k<u.l.length:=by omega
  have ha:=q59 hkl';simp only[gnZ,gnT,q6j hkl',q6j hku',q2u,mT,q6g,if_pos (show szT (t.l.getD k default)<N by omega)];refine⟨⟨by omega,by omega,by omega,by omega⟩,fun hx=>no fun h=>?_,fun hx=>⟨⟨by omega,by omega⟩,?_⟩⟩
  ·rw[(qdj.1 h).2.2.2.2 k hkl'] at hx;cases hx
  ·rw[q46,if_pos rfl];refine⟨⟨k+1,by omega,by simp,q9p hP (by simpa using hx)⟩,?_⟩;simp[D.int];omega
 ·simp only[gnZ,gnT] at hlt⊢;have:k=t.l.length:=by omega
  subst this;rw[qdj.2 ⟨e1,e2,e3,e4,hP⟩]
def q5t(t u:Te):Bool:=qq t&&(qq u&&idT t u)
theorem qfb:FOk yl (q6g q5t):=qen q0y q74 fun ds outs hw hg=>by
 obtain⟨d,r,rfl,hd,e,r',rfl,he,rfl⟩:=hw;obtain⟨t,rfl,ht⟩:=wfT hd;obtain⟨u,rfl,hu⟩:=wfT he;simp only[q6g,zi,uB] at hg;subst hg;simp[q2c,gnZ,gnT,gTb,q6g,q5t,uH]
def quk:List D→Option (List D)
 |[t,m]=>if 1≤m.int then some [.i (m.int - min (szT (dT t):Int) m.int)] else none
 |_=>none
theorem qd9:FOk zg quk:=q4a (m:=mT) q38 fun N ih=>qbl ih fun ds outs hw hg=>by
 obtain⟨d,r,rfl,hd,e,r',rfl,he,rfl⟩:=hw;obtain⟨t,rfl,ht⟩:=wfT hd;obtain⟨m,rfl,hm⟩:=wfI he;simp only[q2u,mT,quk,uD,zi,q5h,uC,uB] at hg;obtain⟨hsz,h1,rfl⟩:=hg;have hl:=ht.l;rw[q1c,qhf];refine⟨by simp only[gnZ,gnT];omega,?_⟩;rw[q15];refine⟨fun st=>∃k:Nat,k≤t.l.length∧st=[.i k,.i (m - min ((q0k (t.l.take k):Int)+1) m)],fun st=>t.l.length - (st.getD 0 .u).int.toNat,⟨0,uK _,by simp[X.evs,X.ev,q0k,evl,D.int];omega⟩,?_⟩;rintro st - ⟨k,hk,rfl⟩;rw[q5f];refine⟨fun hlt=>?_,fun hlt=>?_⟩
 ·simp only[gnZ,gnT,gnB] at hlt;obtain⟨hkl,hlm⟩:=hlt;have hkl':k<t.l.length:=by omega
  have ha:=q59 hkl';have hs:=qgj hkl';have hmn:1≤m - min ((q0k (t.l.take k):Int)+1) m:=by omega
  simp only[gnZ,gnT,q6j hkl',q2u,mT,quk,if_pos hmn,if_pos (show szT (t.l.getD k default)<N by omega)];refine⟨⟨by omega,by omega⟩,⟨by omega,by omega⟩,?_⟩;rw[q46,if_pos rfl];refine⟨⟨k+1,by omega,?_⟩,?_⟩
  ·rw[hs];simp;omega
  ·simp[D.int];omega
 ·simp only[gnZ,gnT,uN] at hlt;simp only[gnZ,gnT];have hz:=qw7 t;have:m - min ((q0k (t.l.take k):Int)+1) m=m - min (szT t:Int) m:=by
   rcases hlt with h|h
   ·have:k=t.l.length:=by omega
    subst this;rw[uI];omega
   ·have h2:=q5j (t.l.take k) (t.l.drop k);rw[uV] at h2;omega
  rw[this]
theorem q2m:FOk zs (gTi fun t=>min (szT t:Int) 2001):=qf7 qd9 fun ds outs hw hg=>by
 obtain⟨d,r,rfl,hd,rfl⟩:=hw;obtain⟨t,rfl,ht⟩:=wfT hd;simp only[gTi,zi,uB] at hg;subst hg;simp[q30,gnZ,gnT,quk];omega
theorem qif:FOk z9 (gTb zj):=q4a (m:=mT) q4n fun N ih=>qf3 ih fun ds outs hw hg=>by
 obtain⟨d,r,rfl,hd,rfl⟩:=hw;obtain⟨t,rfl,ht⟩:=wfT hd;simp only[q2u,mT,gTb,uD,zi,q5h,uC,uB] at hg;obtain⟨hsz,rfl⟩:=hg;have hl:=ht.l;have key:∀(x:X),x.ev (evl (qx [(z9,q2u mT N (gTb zj))]) [eT t])=.b (q39 t)→Tree.go (qx [(z9,q2u mT N (gTb zj))]) (fun o=>o=[D.b (zj t)]) (.loop 12 1 [x,(.lit (.i 0))] (.br (.and (.lt (.tok 2) (.len (.fld (.tok 0) 3))) (.tok 1)) (.need [(.le (.lit (.i 0)) (.tok 2)),(.lt (.tok 2) (.len (.fld (.tok 0) 3))),(.ok 0 [(.get (.fld (.tok 0) 3) (.tok 2))])] (.need [(.rng .i64 (.add (.tok 2) (.lit (.i 1))))] (.back 12 [(.call 0 0 [(.get (.fld (.tok 0) 3) (.tok 2))]),(.add (.tok 2) (.lit (.i 1)))]))) (.leaf [(.tok 1)]))) [eT t] fun _ _=>False:=by
  intro x hx;rw[q15];refine⟨fun st=>∃(k:Nat)(v:Bool),k≤t.l.length∧st=[.b v,.i k]∧(v=true↔q39 t=true∧∀j,j<k→zj (t.l.getD j default)=true),fun st=>t.l.length - (st.getD 1 .u).int.toNat,⟨0,q39 t,uK _,by simp only[X.evs,hx,X.ev];rfl,by simp⟩,?_⟩;rintro st - ⟨k,v,hk,rfl,hv⟩;rw[q5f];refine⟨fun hlt=>?_,fun hlt=>?_⟩
  ·simp only[gnZ,gnT,gnB] at hlt;obtain⟨hlt,rfl⟩:=hlt;have hkl':k<t.l.length:=by omega
   have ha:=q59 hkl';simp only[gnZ,gnT,q6j hkl',q2u,mT,gTb,if_pos (show szT (t.l.getD k default)<N by omega)];refine⟨⟨by omega,by omega⟩,⟨by omega,by omega⟩,?_⟩;rw[q46,if_pos rfl];have hv':=hv.1 rfl;refine⟨⟨k+1,_,by omega,rfl,⟨fun h=>⟨hv'.1,q9p hv'.2 h⟩,fun h=>h.2 k (Nat.lt_succ_self _)⟩⟩,?_⟩;simp[D.int];omega
  ·simp only[gnZ,gnT,uN] at hlt;simp only[gnZ,gnT];rw[show v=zj t from ?_];cases hvv:v with
   | false =>
    cases hh:zj t with
    |false=>rfl
    |true=>
     have h2:=(q5u t).1 hh;rw[hv.2 ⟨h2.1,fun j hj=>h2.2 j (by omega)⟩] at hvv;cases hvv
   | true =>
    have:k=t.l.length:=by
     rcases hlt with h|h
     ·omega
     ·rw[hvv] at h;cases h
    subst this;exact((q5u t).2 (hv.1 hvv)).symm
 rw[q2y];simp only[q5f];have e0:∀z:Int,(X.eq (.fld (.tok 0) 0) (.lit (.i z))).ev (evl (qx [(z9,q2u mT N (gTb zj))]) [eT t])=.b (decide (t.k=z)):=fun z=>by
  simp only[gnZ,gnT]
 simp only[e0,qoz,gnD,decide_eq_false_iff_not];refine⟨fun h=>key _ ?_,fun h0=>⟨fun h=>key _ ?_,fun h1=>⟨fun h=>key _ ?_,fun h2=>⟨fun h=>key _ ?_,fun h3=>key _ ?_⟩⟩⟩⟩
 all_goals simp only[gnZ,gnT,q39]
 ·simp[h,uH]
 ·simp[h,uH]
 ·simp[h,uH]
 ·have e8:decide (0<(t.l.length:Int))=decide (1≤(t.l.length:Int)):=rfl;rw[e8];simp[h,uH]
 ·simp[h0,h1,h2,h3]
theorem j4:FOk qk (gTb qq):=qe9 q2m qif fun ds outs hw hg=>by
 obtain⟨d,r,rfl,hd,rfl⟩:=hw;obtain⟨t,rfl,ht⟩:=wfT hd;simp only[gTb,zi,uB] at hg;subst hg;have e:decide (min (szT t:Int) 2001≤2000)=decide (szT t≤2000):=by rw[decide_eq_decide];omega
 simp[q2f,gnZ,gnT,gTi,gTb,qq,e]
theorem q9d:FOk j1 (gTT id):=q6w fun ds outs hw hg=>by
 obtain⟨d,r,rfl,hd,rfl⟩:=hw;obtain⟨t,rfl,ht⟩:=wfT hd;simp only[gTT,zi,uB] at hg;subst hg;simp only[q0b,gnZ,gnT,id]
def gV0:List D→Option (List D)
 |[t]=>if(dT t).l=[] then some [eT (dT t)] else none
 |_=>none
theorem qbi:FOk jk gV0:=⟨q7c,fun A F p w vs us ds outs hg hfl hfo hpre hvl hargs=>by
 obtain⟨v,r,d,ds',e1,rfl,⟨cs,hp,hr⟩,hrest⟩:=hargs;obtain⟨e3,rfl⟩:=hrest;obtain⟨t,rfl,ht⟩:=wfT ⟨w,_,cs,hr⟩;simp only[gV0,zi,uC,uB] at hg;obtain⟨h0,rfl⟩:=hg;have hn:noRow (eT t)=true:=by
  rw[←z0s,h0];rfl
 have hr':Rd w (FFD A p []) (eT t) zk cs:=Rd.noRow _ hr hn;exact q9d.call A F p w vs us [eT t] [eT t] (by simp only[gTT,zi,id]) hfl hfo hpre hvl ⟨v,r,eT t,[],e1,rfl,⟨cs,hp,hr'⟩,e3,rfl⟩,fun h=>absurd rfl h⟩
def gVV:List D→Option (List D)
 |[t]=>if zj (dT t)=true then some [eT (dT t)] else none
 |_=>none
theorem qq2{t:Te}(h:zj t=true){k:Nat}(hk:k<t.l.length):zj (t.l.getD k default)=true:=by
 rw[q47,gnB,uR] at h;exact h.2 k (uS.2 hk)
theorem qok{t:Te}(h:zj t=true)(h0:t.k=0):t.l=[]:=by
 rw[q47,gnB] at h;have h1:=h.1;unfold q39 at h1;rw[if_pos h0] at h1;simp only[gnB,gnD] at h1;exact List.eq_nil_of_length_eq_zero (by omega)
theorem qff:FOk zm gVV:=q4a (m:=mT) q3r fun N ih=>qdn qbi ih fun ds outs hw hg=>by
 obtain⟨d,r,rfl,hd,rfl⟩:=hw;obtain⟨t,rfl,ht⟩:=wfT hd;simp only[q2u,mT,gVV,uD,zi,q5h,uC,uB] at hg;obtain⟨hsz,hnd,rfl⟩:=hg;have hl:=ht.l;rw[q28,q5f];refine⟨fun h=>?_,fun h=>?_⟩
 ·simp only[gnZ,gnT] at h;have h0:=qok hnd (by simpa using h);simp only[gnZ,gnT,gV0,h0,if_true]
 rw[q15];refine⟨fun st=>∃k:Nat,k≤t.l.length∧st=[.i k,eT (.mk t.k t.n t.s (t.l.take k))],fun st=>t.l.length - (st.getD 0 .u).int.toNat,⟨0,uK _,by simp only[X.evs,X.ev,evl,uD,qv7,qvf,quf,q81];rfl⟩,?_⟩;rintro st - ⟨k,hk,rfl⟩;rw[q5f];refine⟨fun hlt=>?_,fun hlt=>?_⟩
 ·simp only[gnZ,gnT] at hlt;have hkl':k<t.l.length:=by omega
  have ha:=q59 hkl';have hna:=qq2 hnd hkl';simp only[gnZ,gnT,q6j hkl',q2u,mT,gVV,if_pos (show szT (t.l.getD k default)<N by omega),if_pos hna,id,qzq,kB];refine⟨⟨by omega,by omega⟩,by omega,⟨by omega,by omega⟩,?_⟩;rw[q46,if_pos rfl];refine⟨⟨k+1,by omega,?_⟩,?_⟩
  ·rw[q5y hkl',qmi];rfl
  ·simp[D.int];omega
 ·simp only[gnZ,gnT] at hlt⊢;have:k=t.l.length:=by omega
  subst this;rw[uI];cases t;rfl
theorem q6m:FOk qp (gTT fun t=>if qq t then t else zT):=qcu j4 qff fun ds outs hw hg=>by
 obtain⟨d,r,rfl,hd,rfl⟩:=hw;obtain⟨t,rfl,ht⟩:=wfT hd;simp only[gTT,zi,uB] at hg;subst hg;simp only[q27,gnZ,gnT,gTb,gTT,id];cases hv:qq t with
 |false=>simp
 | true =>
  have hn:zj t=true:=by
   simp only[qq,gnB] at hv;exact hv.2
  simp[gVV,hn,zi]
def gSt(f:ByteArray→Te):List D→Option (List D)
 |[s]=>some [eT (f s.str)]
 |_=>none
def q0t(s:ByteArray):Te:=if s.size≤100 then .mk 2 0 s [] else zT
theorem q83{s:ByteArray}(h:s.size≤100):q0t s=.mk 2 0 s []:=if_pos h
theorem q03:FOk qv (gSt q0t):=qf1 q6m fun ds outs hw hg=>by
 obtain⟨d,r,rfl,hd,rfl⟩:=hw;obtain⟨s,rfl,hs⟩:=hd.str;simp only[gSt,q5l,uB] at hg;subst hg;have e:D.a ((D.a ([D.i 0,.i 0,.s ⟨#[]⟩,.r []].set 0 (.i 2))).fs.set 2 (.s s))=eT (.mk 2 0 s []):=rfl;simp only[q2q,gnZ,gnT,gTT,qz5];have e2:D.a (((eT zT).fs.set 0 (.i 2)).set 2 (.s s))=eT (.mk 2 0 s []):=rfl;simp only[e2];have:qq (.mk 2 0 s [])=decide (s.size≤100):=by
  rw[kG];simp[qq,szT,q0k,zj,q64,q39,Te.k,Te.n,Te.s,Te.l];exact Iff.trans decide_eq_true_iff (Int.ofNat_le (n:=100))
 simp only[zi,this,q0t,gnD]
section
section
variable{f g:Int→Int}
theorem qkb(k n:Int)(s:ByteArray)(l:List Te):q39 (.mk k n s l)=if k=0 then decide (0≤n)&&(decide (n≤1099511627776)&&(decide (s=⟨#[]⟩)&&decide ((l.length:Int)=0)))
 else if k=1 then decide (s=⟨#[]⟩)&&decide ((l.length:Int)=0)
 else if k=2 then decide (n=0)&&(decide ((s.size:Int)≤100)&&decide ((l.length:Int)=0))
 else if k=3 then decide (n=0)&&(decide ((s.size:Int)≤100)&&(decide (1≤(l.length:Int))&&decide ((l.length:Int)≤8)))
 else false:=rfl
end
end
def q31(t:Te):Te:=if qq t then t else zT
theorem q2p:FOk qp (gTT q31):=q6m
def qjw(s:ByteArray)(l:List Te):Te:=if l.length=0 then q0t s else q31 (.mk 3 0 s l)
def gSL(f:ByteArray→List Te→Te):List D→Option (List D)
 |[s,l]=>some [eT (f s.str (l.rs.map dT))]
 |_=>none
theorem qcn(l:List Te):(l.map eT).map dT=l:=by
 rw[kK];have:dT ∘ eT=id:=funext zi;rw[this,List.map_id]
theorem qdo:FOk yb (gSL qjw):=qbr q03 q2p fun ds outs hw hg=>by
 obtain⟨d,r,rfl,hd,e,r',rfl,he,rfl⟩:=hw;obtain⟨s,rfl,hs⟩:=hd.str;obtain⟨l,rfl,hl,-⟩:=qyf he;simp only[gSL,q5l,qj8,qcn,uB] at hg;subst hg;have e:D.a (((D.a [.i 0,.i 0,.s ⟨#[]⟩,.r []]).fs.set 0 (.i 3)).set 2 (.s s)|>.set 3 (.r (l.map eT)))=eT (.mk 3 0 s l):=by rw[q81];rfl
 have e2:D.a (((eT zT).fs.set 0 (.i 3)).set 2 (.s s)|>.set 3 (.r (l.map eT)))=eT (.mk 3 0 s l):=e;simp only[q1p,gnZ,gnT,gSt,gTT,qz5,qjw,e,e2];refine⟨fun h=>?_,fun h=>?_⟩
 ·rw[if_pos (by omega)]
 ·rw[if_neg (by omega)]
theorem qbg:FOk z7 (gTT id):=q4a (m:=mT) q33 fun N ih=>q98 ih fun ds outs hw hg=>by
 obtain⟨d,r,rfl,hd,rfl⟩:=hw;obtain⟨t,rfl,ht⟩:=wfT hd;simp only[q2u,mT,gTT,uD,zi,q5h,uC,uB] at hg;obtain⟨hsz,rfl⟩:=hg;have hl:=ht.l;rw[q16,q15];refine⟨fun st=>∃k:Nat,k≤t.l.length∧st=[.i k,eT (.mk t.k t.n t.s (t.l.take k))],fun st=>t.l.length - (st.getD 0 .u).int.toNat,⟨0,uK _,by simp only[X.evs,X.ev,evl,uD,qv7,qvf,quf,q81];rfl⟩,?_⟩;rintro st - ⟨k,hk,rfl⟩;rw[q5f];refine⟨fun hlt=>?_,fun hlt=>?_⟩
 ·simp only[gnZ,gnT] at hlt;have hkl':k<t.l.length:=by omega
  have ha:=q59 hkl';simp only[gnZ,gnT,q6j hkl',q2u,mT,gTT,if_pos (show szT (t.l.getD k default)<N by omega),id,qzq,kB];refine⟨⟨by omega,by omega,by omega⟩,⟨by omega,by omega⟩,?_⟩;rw[q46,if_pos rfl];refine⟨⟨k+1,by omega,?_⟩,?_⟩
  ·rw[q5y hkl',qmi];rfl
  ·simp[D.int];omega
 ·simp only[gnZ,gnT] at hlt⊢;have:k=t.l.length:=by omega
  subst this;rw[uI];cases t;rfl
theorem qcl:FOk jb (gTT q31):=qc0 q0y qbg fun ds outs hw hg=>by
 obtain⟨d,r,rfl,hd,rfl⟩:=hw;obtain⟨t,rfl,ht⟩:=wfT hd;simp only[gTT,zi,uB] at hg;subst hg;simp only[q1o,gnZ,gnT,gTb,gTT,id,q31];cases qq t<;>simp
abbrev qjb:ByteArray:=⟨#[101,114,114,111,114]⟩
abbrev q7o:ByteArray:=⟨#[91,93]⟩
abbrev qz7:ByteArray:=⟨#[105,110,115,116,97,110,116,105,97,116,105,111,110,95,101,114,114,111,114]⟩
abbrev q6n:ByteArray:=⟨#[116,121,112,101,95,101,114,114,111,114]⟩
abbrev q5p:ByteArray:=⟨#[46,46,46]⟩
abbrev j2(s:ByteArray):Te:=.mk 2 0 s []
theorem q0h{t:Te}:qq t=true↔szT t≤2000∧zj t=true:=by simp[qq]
theorem q4g{s:ByteArray}(h:s.size≤100):qq (j2 s)=true:=by
 rw[q0h];refine⟨by simp[szT,q0k],?_⟩;rw[zj,q64,kJ,qkb];have h':(s.size:Int)≤100:=by omega
 simp[h']
theorem qo9{s:ByteArray}{l:List Te}(hs:s.size≤100)(h1:1≤l.length)(h2:l.length≤8)(h:∀t∈l,zj t=true):zj (.mk 3 0 s l)=true:=by
 rw[zj,q5i.2 h,kJ,qkb];have h':(s.size:Int)≤100:=by omega
 have h3:(1:Int)≤l.length:=by omega
 have h4:(l.length:Int)≤8:=by omega
 simp[h',h3,h4]
theorem qgr{s:ByteArray}{l:List Te}(hs:s.size≤100)(h1:1≤l.length)(h2:l.length≤8)(h:∀t∈l,zj t=true)(hz:q0k l+1≤2000):qq (.mk 3 0 s l)=true:=
 q0h.2 ⟨by rw[szT];exact hz,qo9 hs h1 h2 h⟩
theorem q66{t:Te}(h:qq t=true):q31 t=t:=if_pos h
def q4i(s:ByteArray)(l:List Te):Te:=qjw qjb [qjw s l,q0t q7o]
theorem ja:FOk ql (gSL q4i):=qbz qdo q03 fun ds outs hw hg=>by
 obtain⟨d,r,rfl,hd,e,r',rfl,he,rfl⟩:=hw;obtain⟨s,rfl,hs⟩:=hd.str;obtain⟨l,rfl,hl,-⟩:=qyf he;simp only[gSL,q5l,qj8,qcn,uB] at hg;subst hg;simp only[q1m,gnZ,gnT,gSL,gSt,qcn,uF,uG,q4i]
def gAb(f:Te→ByteArray→ByteArray→Te):List D→Option (List D)
 |[t,.s c,.r [.s n]]=>if n.size≤100 then some [eT (f (dT t) c n)] else none
 |_=>none
def qze(t:Te):Te:=if 2000<4+min (szT t:Int) 2001 then j2 q5p else t
def q49(t:Te)(c n:ByteArray):Te:=if qq t then q4i c [q0t n,qze t] else zT
theorem q4s:FOk qf (gAb q49):=q2g j4 q03 q2m ja fun ds outs hw hg=>by
 obtain⟨d,r,rfl,hd,e,r',rfl,he,e2,r2,rfl,he2,rfl⟩:=hw;obtain⟨t,rfl,ht⟩:=wfT hd;unfold gAb at hg;split at hg
 ·rename_i t' c n heq;simp only[List.cons.injEq,and_true] at heq;obtain⟨rfl,rfl,rfl⟩:=heq;simp only[zi,uC,uB] at hg;obtain⟨hn,rfl⟩:=hg;have hn':¬(100:Int)<n.size:=by omega
  simp only[jc,gnZ,gnT,gTb,q49];refine⟨fun h=>by
   have h:qq t=false:=by simpa using h
   rw[h];rfl,fun h=>?_⟩
  have h:qq t=true:=by simpa using h
  rw[if_pos h,q15];refine⟨fun st=>st=[.r [],.i 0,eT zT]∨st=[.r [eT (q0t n)],.i 1,eT zT],fun st=>1 - (st.getD 1 .u).int.toNat,.inl rfl,?_⟩;rintro st - (rfl|rfl)
  ·have g0:(D.r [D.s n]).get 0=.s n:=rfl;have l0:((D.r [D.s n]).rs.length:Int)=1:=rfl;simp only[gnZ,gnT,g0,hn',gSt,uJ,uL];refine⟨fun _=>⟨⟨by omega,by omega⟩,fun hh=>?_,fun _=>?_⟩,fun hh=>by omega⟩
   ·cases hh
   ·refine⟨by omega,⟨by omega,by omega⟩,?_⟩;rw[q46,if_pos rfl];refine⟨.inr rfl,?_⟩;simp[D.int]
  ·have l0:((D.r [D.s n]).rs.length:Int)=1:=rfl;have l1:((D.r [eT (q0t n)]).rs.length:Int)=1:=rfl;have ha:q0t q5p=j2 q5p:=q83 (by decide);simp only[gnZ,gnT,gSt,gTi,gSL,qj8,uF,uG,kE,uJ,uL,qze,ha];refine⟨fun hh=>by omega,fun _=>⟨⟨⟨by omega,by omega⟩,by omega,by omega⟩,fun h2=>⟨by omega,?_⟩,fun h2=>⟨by omega,?_⟩⟩⟩
   ·rw[if_pos (by omega)]
   ·rw[if_neg (by omega)]
 ·cases hg
def qkj:Te:=q4i qz7 []
theorem q3m:FOk z6 (fun _=>some [eT qkj]):=qeh ja fun ds outs hw hg=>by
 obtain rfl:ds=[]:=hw;simp only[uB] at hg;subst hg;simp only[q26,gnZ,gnT,gSL,qj8,uG,qkj]
abbrev qwz:ByteArray:=⟨#[97,116,111,109]⟩
abbrev qiw:ByteArray:=⟨#[105,110,116,101,103,101,114]⟩
abbrev qqv:ByteArray:=⟨#[108,105,115,116]⟩
abbrev qzp:ByteArray:=⟨#[99,104,97,114,97,99,116,101,114,95,99,111,100,101]⟩
abbrev qwh:ByteArray:=⟨#[112,114,101,100,105,99,97,116,101,95,105,110,100,105,99,97,116,111,114]⟩
abbrev qx1:ByteArray:=⟨#[110,111,116,95,108,101,115,115,95,116,104,97,110,95,122,101,114,111]⟩
abbrev qza:ByteArray:=⟨#[109,97,120,95,97,114,105,116,121]⟩
abbrev q42:ByteArray:=⟨#[100,111,109,97,105,110,95,101,114,114,111,114]⟩
abbrev qrk:ByteArray:=⟨#[114,101,112,114,101,115,101,110,116,97,116,105,111,110,95,101,114,114,111,114]⟩
abbrev qzo:ByteArray:=⟨#[46]⟩
abbrev qt0:ByteArray:=⟨#[47]⟩
abbrev s0:ByteArray:=⟨#[]⟩
theorem q8c:D.a [.i 0,.i 0,.s ⟨#[]⟩,.r []]=eT zT:=rfl
def qp7(c:ByteArray):List D→Option (List D)
 |[.s k,t]=>if k.size≤100 then some [eT (q49 (dT t) c k)] else none
 |_=>none
theorem q8e:FOk qn (qp7 q6n):=q54 q4s fun ds outs hw hg=>by
 obtain⟨d,r,rfl,hd,e,r',rfl,he,rfl⟩:=hw;obtain⟨s,rfl,hs⟩:=hd.str;obtain⟨t,rfl,ht⟩:=wfT he;simp only[qp7,zi,uC,uB] at hg;obtain⟨hk,rfl⟩:=hg;simp only[q0g,gnZ,gnT,gAb,if_pos hk]
theorem qb7:FOk zh (qp7 q42):=q3x q4s fun ds outs hw hg=>by
 obtain⟨d,r,rfl,hd,e,r',rfl,he,rfl⟩:=hw;obtain⟨s,rfl,hs⟩:=hd.str;obtain⟨t,rfl,ht⟩:=wfT he;simp only[qp7,zi,uC,uB] at hg;obtain⟨hk,rfl⟩:=hg;simp only[jt,gnZ,gnT,gAb,if_pos hk]
def qcw(c n:ByteArray):Te:=if 100<n.size then zT else q4i c [q0t n]
def gNm:List D→Option (List D)
 |[.s c,.s n]=>some [eT (qcw c n)]
 |_=>none
theorem qe2:FOk y9 gNm:=qbp q03 ja fun ds outs hw hg=>by
 obtain⟨d,r,rfl,hd,e,r',rfl,he,rfl⟩:=hw;obtain⟨c,rfl,hc⟩:=hd.str;obtain⟨n,rfl,hn⟩:=he.str;simp only[gNm,uB] at hg;subst hg;simp only[q1k,gnZ,gnT,gSt,gSL,uF,uG,qcw];refine⟨fun h=>?_,fun h=>?_⟩
 ·rw[if_pos (by omega)]
 ·rw[if_neg (by omega)]
def qtp:List D→Option (List D)
 |[.s n]=>some [eT (qcw qrk n)]
 |_=>none
theorem q0o:FOk qi qtp:=q3l qe2 fun ds outs hw hg=>by
 obtain⟨d,r,rfl,hd,rfl⟩:=hw;obtain⟨n,rfl,hn⟩:=hd.str;simp only[qtp,uB] at hg;subst hg;simp only[yv,gnZ,gnT,gNm]
def q2x(t:Te):Te×Bool:=if qq t=false then(zT,false) else if t.k=0 then(qkj,false) else(zT,true)
def gTB(f:Te→Te×Bool):List D→Option (List D)
 |[t]=>some [eT (f (dT t)).1,.b (f (dT t)).2]
 |_=>none
theorem q2z:FOk qy (gTB q2x):=qbd j4 q3m fun ds outs hw hg=>by
 obtain⟨d,r,rfl,hd,rfl⟩:=hw;obtain⟨t,rfl,ht⟩:=wfT hd;simp only[gTB,zi,uB] at hg;subst hg;simp only[q1f,gnZ,gnT,gTb,q2x];cases hv:qq t with
 |false=>simp[q8c]
 |true=>
  by_cases h0:t.k=0
  ·simp[h0]
  ·simp[h0,q8c]
def qfw(t:Te):ByteArray×Te×Bool:=if(q2x t).2=false then(s0,(q2x t).1,false) else if t.k≠2 then(s0,q49 t q6n qwz,false) else(t.s,zT,true)
def qyl(f:Te→ByteArray×Te×Bool):List D→Option (List D)
 |[t]=>some [.s (f (dT t)).1,eT (f (dT t)).2.1,.b (f (dT t)).2.2]
 |_=>none
def qp2(f:Te→Int×Te×Bool):List D→Option (List D)
 |[t]=>some [.i (f (dT t)).1,eT (f (dT t)).2.1,.b (f (dT t)).2.2]
 |_=>none
theorem qfy{k:ByteArray}(hk:k.size≤100)(t:Te)(c:ByteArray):qp7 c [.s k,eT t]=some [eT (q49 t c k)]:=by
 simp only[qp7,zi,if_pos hk]
theorem q6o:FOk zo (qyl qfw):=qe5 q2z q8e fun ds outs hw hg=>by
 obtain⟨d,r,rfl,hd,rfl⟩:=hw;obtain⟨t,rfl,ht⟩:=wfT hd;simp only[qyl,zi,uB] at hg;subst hg;simp only[q2a,gnZ,gnT,gTB,qfy (k:=qwz) (by decide),qfw];cases hb:(q2x t).2 with
 |false=>simp
 |true=>
  by_cases h2:t.k=2
  ·simp[h2,q8c]
  ·simp[h2]
def q40(t:Te):Int×Te×Bool:=if(q2x t).2=false then(0,(q2x t).1,false) else if t.k≠1 then(0,q49 t q6n qiw,false) else(t.n,zT,true)
theorem q82:FOk zx (qp2 q40):=qfi q2z q8e fun ds outs hw hg=>by
 obtain⟨d,r,rfl,hd,rfl⟩:=hw;obtain⟨t,rfl,ht⟩:=wfT hd;simp only[qp2,zi,uB] at hg;subst hg;simp only[q2t,gnZ,gnT,gTB,qfy (k:=qiw) (by decide),q40];cases hb:(q2x t).2 with
 |false=>simp
 |true=>
  by_cases h2:t.k=1
  ·simp[h2,q8c]
  ·simp[h2]
def qwy(t:Te):Int×Te×Bool:=if(q40 t).2.2=false then(0,(q40 t).2.1,false) else if(q40 t).1<0∨255<(q40 t).1 then(0,qcw qrk qzp,false) else((q40 t).1,zT,true)
theorem qfa:FOk yo (qp2 qwy):=qdk q82 q0o fun ds outs hw hg=>by
 obtain⟨d,r,rfl,hd,rfl⟩:=hw;obtain⟨t,rfl,ht⟩:=wfT hd;simp only[qp2,zi,uB] at hg;subst hg;simp only[q23,gnZ,gnT,qp2,qtp,qwy];cases hb:(q40 t).2.2 with
 |false=>simp
 | true =>
  by_cases h2:(q40 t).1<0∨255<(q40 t).1
  ·rw[if_pos h2];rcases h2 with h2|h2
   ·simp[h2]
   ·have h3:¬(q40 t).1<0:=by omega
    simp[h2,h3]
  ·simp[h2,q8c]
def qmj(t:Te):Prop:=t.k=3∧t.s=qt0∧t.l.length=2
instance(t:Te):Decidable (qmj t):=inferInstanceAs (Decidable (_∧_))
def qqm(t:Te):ByteArray×Int×Te×Bool:=
 if(q2x t).2=false then(s0,0,(q2x t).1,false)
 else if ¬qmj t then(s0,0,q49 t q6n qwh,false)
 else if(t.l.getD 0 default).k=0∨(t.l.getD 1 default).k=0 then(s0,0,qkj,false)
 else if(qfw (t.l.getD 0 default)).2.2=false then(s0,0,(qfw (t.l.getD 0 default)).2.1,false)
 else if(q40 (t.l.getD 1 default)).2.2=false then(s0,0,(q40 (t.l.getD 1 default)).2.1,false)
 else if(q40 (t.l.getD 1 default)).1<0 then(s0,0,q49 (t.l.getD 1 default) q42 qx1,false)
 else if 8<(q40 (t.l.getD 1 default)).1 then(s0,0,qcw qrk qza,false)
 else((qfw (t.l.getD 0 default)).1,(q40 (t.l.getD 1 default)).1,zT,true)
def z0h:List D→Option (List D)
 |[t]=>some [.s (qqm (dT t)).1,.i (qqm (dT t)).2.1,eT (qqm (dT t)).2.2.1,.b (qqm (dT t)).2.2.2]
 |_=>none
theorem q79:FOk zf z0h:=q69 q2z q8e q3m q6o q82 qb7 q0o fun ds outs hw hg=>by
 obtain⟨d,r,rfl,hd,rfl⟩:=hw;obtain⟨t,rfl,ht⟩:=wfT hd;simp only[z0h,zi,uB] at hg;subst hg;unfold qqm;simp only[q01,gnZ,gnT,gTB,qfy (k:=qwh) (by decide)];cases hb:(q2x t).2 with
 |false=>simp
 | true =>
  by_cases hi:qmj t
  ·obtain⟨h3,hs,hl⟩:=hi;have g0:(D.r (t.l.map eT)).get 0=eT (t.l.getD 0 default):=qde (i:=0) eT (by omega);have g1:(D.r (t.l.map eT)).get 1=eT (t.l.getD 1 default):=qde (i:=1) eT (by omega);have hl':(t.l.length:Int)=2:=by omega
   have hi:qmj t:=⟨h3,hs,hl⟩;simp only[gnZ,gnT,h3,hs,hl',hi,g0,g1,qyl,qp2,qtp,qfy (k:=qx1) (by decide)];generalize t.l.getD 0 default=u;generalize t.l.getD 1 default=v;by_cases hv:u.k=0∨v.k=0
   ·rcases hv with q|q<;>simp[q]
   ·have hu0:¬u.k=0:=fun q=>hv (.inl q);have hv0:¬v.k=0:=fun q=>hv (.inr q);cases ha:(qfw u).2.2 with
    |false=>simp[hu0,hv0,ha]
    | true =>
     cases hn:(q40 v).2.2 with
     |false=>simp[hu0,hv0,ha,hn]
     | true =>
      by_cases hlt:(q40 v).1<0
      ·simp[hu0,hv0,ha,hn,hlt]
      ·by_cases hgt:8<(q40 v).1
       ·simp[hu0,hv0,ha,hn,hlt,hgt]
       ·simp[hu0,hv0,ha,hn,hlt,hgt,q8c]
  ·have hc:((!decide (t.k=3)|| !decide (t.s=qt0))|| !decide ((t.l.length:Int)=2))=true:=by
    refine Classical.byContradiction fun q=>hi ?_;simp at q;exact⟨q.1.1,q.1.2,by omega⟩
   simp[hi,hc]
def qf0(t:Te):Prop:=t.k=3∧t.s=qzo∧t.l.length=2
instance(t:Te):Decidable (qf0 t):=inferInstanceAs (Decidable (_∧_))
def qeb:Nat→Te→Te
 |0,t=>t
 |k+1,t=>if qf0 t then qeb k (t.l.getD 1 default) else t
def elN:Nat→Te→List Te
 |0,_=>[]
 |k+1,t=>if qf0 t then q31 (t.l.getD 0 default)::elN k (t.l.getD 1 default) else[]
def qms(t:Te):List Te×Te×Bool:=
 if qq t=false then([],zT,false)
 else if(qeb (szT t) t).k=0 then([],qkj,false)
 else if(qeb (szT t) t).k=2∧(qeb (szT t) t).s=q7o then(elN (szT t) t,zT,true)
 else([],q49 t q6n qqv,false)
def z0i:List D→Option (List D)
 |[t]=>some [.r ((qms (dT t)).1.map eT),eT (qms (dT t)).2.1,.b (qms (dT t)).2.2]
 |_=>none
theorem qy5(t:Te):1≤szT t:=by
 cases t;rw[szT];omega
theorem qf8:FOk yj z0i:=qep j4 q2p q3m q8e fun ds outs hw hg=>by
 obtain⟨d,r,rfl,hd,rfl⟩:=hw;obtain⟨t,rfl,ht⟩:=wfT hd;simp only[z0i,zi,uB] at hg;subst hg;unfold qms;simp only[q2b,gnZ,gnT,gTb,qfy (k:=qqv) (by decide)];cases hv:qq t with
 |false=>simp[q8c]
 | true =>
  have hz:=(q0h.1 hv).1;simp only[gnZ,gnT,Bool.true_eq_false,false_implies,true_implies,Bool.not_true,if_false,reduceCtorEq];rw[q15];refine⟨fun st=>∃(acc:List Te)(r:Te)(m:Nat),st=[.r (acc.map eT),eT r]∧szT r≤m∧acc.length+szT r≤2000∧qeb m r=qeb (szT t) t∧acc++elN m r=elN (szT t) t,fun st=>szT (dT (st.getD 1 .u)),⟨[],t,szT t,rfl,Nat.le_refl _,by simpa using hz,rfl,rfl⟩,?_⟩;rintro st - ⟨acc,r,m,rfl,hm,hlen,htl,hel⟩;have hp:=qy5 r;obtain⟨m,rfl⟩:∃k,m=k+1:=⟨m - 1,by omega⟩;rw[qeb] at htl;rw[elN] at hel;by_cases hc:qf0 r
  ·obtain⟨h3,hs,hl⟩:=hc;have hc:qf0 r:=⟨h3,hs,hl⟩;rw[if_pos hc] at htl hel;have g0:(D.r (r.l.map eT)).get 0=eT (r.l.getD 0 default):=qde (i:=0) eT (by omega);have g1:(D.r (r.l.map eT)).get 1=eT (r.l.getD 1 default):=qde (i:=1) eT (by omega);have hl':(r.l.length:Int)=2:=by omega
   have hsz:=q59 (t:=r) (k:=1) (by omega);simp only[gnZ,gnT,h3,hs,hl',g0,g1,gTT,Int.reduceLT,Int.reduceLE];refine⟨fun _=>⟨by omega,?_⟩,fun h=>by simp at h⟩;rw[q46,if_pos rfl];refine⟨⟨acc++[q31 (r.l.getD 0 default)],r.l.getD 1 default,m,by simp,by omega,by rw[List.length_append,List.length_singleton];omega,htl,by rw[List.append_assoc];exact hel⟩,?_⟩;simpa[zi] using hsz
  ·rw[if_neg hc] at htl hel;rw[←htl,←hel,List.append_nil];have hcb:((decide (r.k=3)&&decide (r.s=qzo))&&decide ((r.l.length:Int)=2))=false:=by
    rw[uP];intro q;simp at q;exact hc ⟨q.1.1,q.1.2,by omega⟩
   simp only[gnZ,gnT,hcb];by_cases h0:r.k=0
   ·simp[h0]
   ·by_cases h2:r.k=2∧r.s=q7o
    ·simp[h2.1,h2.2,q8c]
    ·have hcn:(decide (r.k=2)&&decide (r.s=q7o))=false:=by
      rw[uP];intro q;simp at q;exact h2 q
     simp[h0,h2,hcn,qfy (k:=qqv) (by decide)]
def q78(b:Te):Bool:=qq b&&(decide (b.k=3)&&(decide (b.s=qjb)&&decide (b.l.length=2)))
def qu2(b:Te):Te:=if q78 b then q31 (b.l.getD 0 default) else zT
def qge:List D→Option (List D)
 |[b]=>some [eT (qu2 (dT b)),.b (q78 (dT b))]
 |_=>none
theorem q4l:FOk zp qge:=qaf j4 q2p fun ds outs hw hg=>by
 obtain⟨d,r,rfl,hd,rfl⟩:=hw;obtain⟨b,rfl,hb⟩:=wfT hd;simp only[qge,zi,uB] at hg;subst hg;simp only[q0u,gnZ,gnT,gTb,qu2];have e:(decide ((b.l.length:Int)=2))=decide (b.l.length=2):=decide_eq_decide.2 (by omega);cases hf:q78 b with
 | false =>
  have hc:(((!qq b|| !decide (b.k=3))|| !decide (b.s=qjb))|| !decide ((b.l.length:Int)=2))=true:=by
   rw[e];unfold q78 at hf;revert hf;cases qq b<;>cases decide (b.k=3)<;>cases decide (b.s=qjb)<;>cases decide (b.l.length=2)<;>simp
  simp only[hc];simp[q8c]
 |true=>
  have hf':=hf;unfold q78 at hf';simp only[gnB,gnD] at hf';obtain⟨hv,h3,hs,hl⟩:=hf';have g0:(D.r (b.l.map eT)).get 0=eT (b.l.getD 0 default):=qde (i:=0) eT (by omega);simp only[hv,h3,hs,hl,g0,gTT,gnZ,gnT];simp
def qp9(f:Int→Te):List D→Option (List D)
 |[n]=>some [eT (f n.int)]
 |_=>none
theorem qdv:FOk jf (qp9 fun n=>.mk 0 n ⟨#[]⟩ []):=qkc fun ds outs hw hg=>by
 obtain⟨d,r,rfl,hd,rfl⟩:=hw;obtain⟨n,rfl,hn⟩:=wfI hd;simp only[qp9,q5h,uB] at hg;subst hg;simp only[q41,gnZ,gnT];rfl
theorem qln:FOk jx (qp9 fun n=>.mk 1 n ⟨#[]⟩ []):=qjq fun ds outs hw hg=>by
 obtain⟨d,r,rfl,hd,rfl⟩:=hw;obtain⟨n,rfl,hn⟩:=wfI hd;simp only[qp9,q5h,uB] at hg;subst hg;simp only[q44,gnZ,gnT];rfl
def qky(f:ByteArray→Te):List D→Option (List D)
 |[s]=>some [eT (f s.str)]
 |_=>none
theorem q7g:FOk yf (qky j2):=qiu fun ds outs hw hg=>by
 obtain⟨d,r,rfl,hd,rfl⟩:=hw;obtain⟨s,rfl,hs⟩:=hd.str;simp only[qky,q5l,uB] at hg;subst hg;simp only[q4e,gnZ,gnT];rfl
theorem qcz:FOk yq (gSL fun s l=>.mk 3 0 s l):=qja fun ds outs hw hg=>by
 obtain⟨d,r,rfl,hd,e,r',rfl,he,rfl⟩:=hw;obtain⟨s,rfl,hs⟩:=hd.str;obtain⟨l,rfl,hl,-⟩:=qyf he;simp only[gSL,q5l,qj8,qcn,uB] at hg;subst hg;simp only[q4d,gnZ,gnT,q81];rfl
def qzm(t:Te):Te:=.mk 3 0 qjb [t,j2 q7o]
theorem qay:FOk y2 (gTT qzm):=q8w q7g qcz fun ds outs hw hg=>by
 obtain⟨d,r,rfl,hd,rfl⟩:=hw;obtain⟨t,rfl,ht⟩:=wfT hd;simp only[gTT,zi,uB] at hg;subst hg;simp only[q0w,gnZ,gnT,qky,gSL,uF,uG,qzm]
theorem q3k:FOk zw (q6g q5t):=qcq qfb fun ds outs hw hg=>by
 obtain⟨d,r,rfl,hd,e,r',rfl,he,rfl⟩:=hw;obtain⟨t,rfl,ht⟩:=wfT hd;obtain⟨u,rfl,hu⟩:=wfT he;simp only[q6g,zi,uB] at hg;subst hg;simp only[q29,gnZ,gnT,q6g]
def qk6:List D→Option (List D):=qpa [(qk,gTb qq),(qv,gSt q0t),(zs,gTi fun t=>min (szT t:Int) 2001),(ql,gSL q4i)] 12 jc
theorem qoc:FOk qf qk6:=q2g j4 q03 q2m ja fun ds outs hw hg=>q8p hg
def qxn:List D→Option (List D):=qpa [(qf,qk6)] 12 yt
theorem qul:FOk qw qxn:=q21 qoc fun ds outs hw hg=>q8p hg
theorem qiz:FOk yz (qpa [] 12 q1u):=qhb fun ds outs hw hg=>q8p hg
def z01:List D→Option (List D):=qpa [(yz,qpa [] 12 q1u),(ql,gSL q4i)] 12 q17
theorem qxi:FOk zz z01:=qao qiz ja fun ds outs hw hg=>q8p hg
def qg3:List D→Option (List D):=fun _=>some [.b true]
theorem qd8:FOk j8 qg3:=qbv q7g qln qcz qul qdv q4l q6o qfa qf8 q79 qay q3k qxi fun ds outs hw hg=>by
 obtain rfl:ds=[]:=hw;simp only[qg3,uB] at hg;subst hg;exact q8p (fuel:=12) (by kernel_rfl)
abbrev qcd:ByteArray:=⟨#[117,110,105,110,115,116,97,110,116,105,97,116,105,111,110,95,101,114,114,111,114]⟩
abbrev qdc:ByteArray:=⟨#[101,120,105,115,116,101,110,99,101,95,101,114,114,111,114]⟩
abbrev qnf:ByteArray:=⟨#[112,101,114,109,105,115,115,105,111,110,95,101,114,114,111,114]⟩
def q2i(k:Nat)(t:Te):Te:=if(2000:Int)<3+k+min (szT t:Int) 2001 then j2 q5p else t
def q25(t:Te)(c:ByteArray)(l:List ByteArray):Te:=if qq t then q4i c (l.map q0t++[q2i l.length t]) else zT
def qt4(l:List ByteArray):Prop:=l.length≤8∧∀n∈l,n.size≤100
instance(l:List ByteArray):Decidable (qt4 l):=inferInstanceAs (Decidable (_∧_))
def qm7:List D→Option (List D)
 |[t,.s c,.r l]=>if qt4 (l.map D.str)∧l=(l.map D.str).map .s then some [eT (q25 (dT t) c (l.map D.str))] else none
 |_=>none
theorem qw6{l:List ByteArray}{k:Nat}(h:k<l.length):(D.r (l.map D.s)).get (k:Int)=.s (l.getD k default):=qde D.s h
theorem jj:FOk qf qm7:=q2g j4 q03 q2m ja fun ds outs hw hg=>by
 obtain⟨d,r,rfl,hd,e,r',rfl,he,e2,r2,rfl,he2,rfl⟩:=hw;obtain⟨t,rfl,ht⟩:=wfT hd;unfold qm7 at hg;split at hg
 ·rename_i t' c l0 heq;simp only[List.cons.injEq,and_true] at heq;obtain⟨rfl,rfl,rfl⟩:=heq;simp only[zi,uC,uB] at hg;obtain⟨⟨hn,hl⟩,rfl⟩:=hg;generalize l0.map D.str=l at hn hl⊢;subst hl;obtain⟨hl8,hn⟩:=hn;simp only[jc,gnZ,gnT,gTb,q25];refine⟨fun h=>by
   have h:qq t=false:=by simpa using h
   rw[h];rfl,fun h=>?_⟩
  have h:qq t=true:=by simpa using h
  rw[if_pos h,q15];refine⟨fun st=>∃k,k≤l.length∧st=[.r ((l.take k).map fun n=>eT (q0t n)),.i k,eT zT],fun st=>l.length - (st.getD 1 .u).int.toNat,⟨0,by omega,rfl⟩,?_⟩;rintro st - ⟨k,hk,rfl⟩;have ll:((l.map D.s).length:Int)=l.length:=by rw[uM]
  have lk:(((l.take k).map fun n=>eT (q0t n)).length:Int)=k:=by simp;omega
  by_cases hkl:k<l.length
  ·have g0:=qw6 hkl;have hs:(l.getD k default).size≤100:=hn _ (q8t hkl);have hn':¬(100:Int)<(l.getD k default).size:=by omega
   simp only[gnZ,gnT,g0,hn',gSt,uJ,uL];refine⟨fun _=>⟨⟨by omega,by omega⟩,fun hh=>(by cases hh),fun _=>?_⟩,fun hh=>by omega⟩;refine⟨by simp;omega,⟨by omega,by omega⟩,?_⟩;rw[q46,if_pos rfl];refine⟨⟨k+1,by omega,?_⟩,?_⟩
   ·rw[q5y hkl];simp[D.rs]
   ·simp[D.int];omega
  ·obtain rfl:k=l.length:=by omega
   have ha:q0t q5p=j2 q5p:=q83 (by decide);have hm:(l.map fun n=>eT (q0t n))=(l.map q0t).map eT:=by rw[kK];rfl
   simp only[gnZ,gnT,gSt,gTi,gSL,qj8,uF,uG,kE,uJ,uL,q2i,ha,uI,hm,qcn];refine⟨fun hh=>by omega,fun _=>⟨⟨⟨by omega,by omega⟩,by omega,by omega⟩,fun h2=>⟨by omega,?_⟩,fun h2=>⟨by omega,?_⟩⟩⟩
   ·rw[if_pos (by omega)]
   ·rw[if_neg (by omega)]
 ·cases hg
def gUn:List D→Option (List D)
 |[t]=>some [eT (q25 (dT t) qcd [])]
 |_=>none
theorem qla:FOk yw gUn:=qa9 jj fun ds outs hw hg=>by
 obtain⟨d,r,rfl,hd,rfl⟩:=hw;obtain⟨t,rfl,ht⟩:=wfT hd;simp only[gUn,zi,uB] at hg;subst hg;have ho:qt4 []:=⟨by simp,by simp⟩;simp only[q0s,gnZ,gnT,qm7,if_pos ho,uG]
def gKi(c:ByteArray):List D→Option (List D)
 |[n,t]=>if n.str.size≤100 then some [eT (q25 (dT t) c [n.str])] else none
 |_=>none
theorem qxz{n:ByteArray}(h:n.size≤100):qt4 [n]:=⟨by simp,by simpa using h⟩
theorem qru:FOk qn (gKi q6n):=q54 jj fun ds outs hw hg=>by
 obtain⟨d,r,rfl,hd,e,r',rfl,he,rfl⟩:=hw;obtain⟨s,rfl,hs⟩:=hd.str;obtain⟨t,rfl,ht⟩:=wfT he;simp only[gKi,zi,q5l,uC,uB] at hg;obtain⟨hk,rfl⟩:=hg;simp only[q0g,gnZ,gnT,qm7,uF,uG,if_pos (qxz hk)]
theorem qkx:FOk zh (gKi q42):=q3x jj fun ds outs hw hg=>by
 obtain⟨d,r,rfl,hd,e,r',rfl,he,rfl⟩:=hw;obtain⟨s,rfl,hs⟩:=hd.str;obtain⟨t,rfl,ht⟩:=wfT he;simp only[gKi,zi,q5l,uC,uB] at hg;obtain⟨hk,rfl⟩:=hg;simp only[jt,gnZ,gnT,qm7,uF,uG,if_pos (qxz hk)]
theorem qou:FOk y5 (gKi qdc):=q6e jj fun ds outs hw hg=>by
 obtain⟨d,r,rfl,hd,e,r',rfl,he,rfl⟩:=hw;obtain⟨s,rfl,hs⟩:=hd.str;obtain⟨t,rfl,ht⟩:=wfT he;simp only[gKi,zi,q5l,uC,uB] at hg;obtain⟨hk,rfl⟩:=hg;simp only[q00,gnZ,gnT,qm7,uF,uG,if_pos (qxz hk)]
def gPe:List D→Option (List D)
 |[a,k,t]=>if a.str.size≤100∧k.str.size≤100 then some [eT (q25 (dT t) qnf [a.str,k.str])] else none
 |_=>none
theorem z0u{a n:ByteArray}(h:a.size≤100∧n.size≤100):qt4 [a,n]:=⟨by simp,by simpa using h⟩
theorem qsa:FOk qw gPe:=q21 jj fun ds outs hw hg=>by
 obtain⟨d,r,rfl,hd,e,r',rfl,he,e2,r2,rfl,he2,rfl⟩:=hw;obtain⟨s,rfl,hs⟩:=hd.str;obtain⟨s2,rfl,hs2⟩:=he.str;obtain⟨t,rfl,ht⟩:=wfT he2;simp only[gPe,zi,q5l,uC,uB] at hg;obtain⟨hk,rfl⟩:=hg;simp only[yt,gnZ,gnT,qm7,uF,uG,if_pos (z0u hk)]
theorem qnk{t:Te}{k:Nat}(h:qq t=true)(hk:k≤8):szT (q2i k t)+k+3≤2000∧zj (q2i k t)=true∧qq (q2i k t)=true:=by
 obtain⟨h1,h2⟩:=q0h.1 h;unfold q2i;split
 ·refine⟨?_,(q0h.1 (q4g (s:=q5p) (by decide))).2,q4g (by decide)⟩;have:szT (j2 q5p)=1:=by kernel_rfl
  omega
 ·rename_i hh;exact⟨by omega,h2,h⟩
def q2e(c:ByteArray)(l:List ByteArray)(t:Te):Te:=.mk 3 0 c (l.map j2++[q2i l.length t])
def q1a(c:ByteArray)(l:List ByteArray)(t:Te):Te:=.mk 3 0 qjb [q2e c l t,j2 q7o]
theorem qlr(l:List ByteArray):q0k (l.map j2)=l.length:=by
 induction l with
 |nil=>rfl
 |cons a l ih=>simp only[uF,q0k,szT,ih,uJ];omega
theorem q3t{c:ByteArray}{l:List ByteArray}{t:Te}(hc:c.size≤100)(hl:l.length≤7)(hn:∀n∈l,n.size≤100)(h:qq t=true):qq (q2e c l t)=true∧qq (q1a c l t)=true∧q25 t c l=q1a c l t:=by
 obtain⟨h1,h2,h3⟩:=qnk (k:=l.length) h (by omega);have v1:∀x∈l.map j2++[q2i l.length t],zj x=true:=fun x hx=>by
  rcases List.mem_append.1 hx with hx|hx
  ·obtain⟨n,hm,rfl⟩:=List.mem_map.1 hx;exact(q0h.1 (q4g (hn n hm))).2
  ·obtain rfl:=List.mem_singleton.1 hx;exact h2
 have z1:q0k (l.map j2++[q2i l.length t])=l.length+szT (q2i l.length t):=by
  rw[q5j,qlr];simp only[q0k];omega
 have v2:qq (q2e c l t)=true:=qgr hc (by simp) (by simp;omega) v1 (by rw[z1];omega);have hz:szT (q2e c l t)=l.length+szT (q2i l.length t)+1:=by
  unfold q2e;rw[szT,z1]
 have zn:szT (j2 q7o)=1:=by kernel_rfl
 have v3:qq (q1a c l t)=true:=qgr (by decide) (by simp) (by simp) (fun x hx=>by
  simp only[uO,List.not_mem_nil,or_false] at hx;rcases hx with rfl|rfl
  ·exact(q0h.1 v2).2
  ·kernel_rfl) (by simp only[q0k,hz];omega)
 refine⟨v2,v3,?_⟩;have a1:l.map q0t=l.map j2:=List.map_congr_left fun n hm=>q83 (hn n hm);have a2:q0t q7o=j2 q7o:=q83 (by decide);unfold q25 q4i qjw;rw[if_pos h,a1,a2,if_neg (by simp),if_neg (by simp)]
 show q31 (Te.mk 3 0 qjb [q31 (q2e c l t),j2 q7o])=_
 rw[q66 v2];exact q66 v3
section
open Go.RowKit Go.Shelf
def sqL:Code→Code
 |.seq x _=>x
 |c=>c
def sqR:Code→Code
 |.seq _ y=>y
 |c=>c
def bkC:Code→Code
 |.block _ c=>c
 |c=>c
def lpC:Code→Code
 |.loop c=>c
 |c=>c
noncomputable def shC:Code:=match kN.body with
 |some c=>c
 |none=>.skip
noncomputable def qt5:List Code:=[sqL shC,sqL (sqR shC),sqL (sqR (sqR shC)),sqL (sqL (sqR (sqR (sqR shC))))]
noncomputable def q7m:Code:=lpC (bkC (sqR (sqL (sqR (sqR (sqR shC))))))
noncomputable def shZ:Code:=sqR (sqR (sqR (sqR shC)))
noncomputable def shH:List Code:=[sqL q7m]
noncomputable def shB:Code:=bkC (sqL (sqR q7m))
noncomputable def shF:List Code:=[sqR (sqR q7m)]
noncomputable def qsz:List Code:=[sqL shB,sqL (sqR shB),sqL (sqR (sqR shB))]
noncomputable def qki:Code:=sqR (sqR (sqR shB))
noncomputable def qps:List Code:=[sqL qki,sqL (sqR qki),sqL (sqR (sqR qki)),sqL (sqR (sqR (sqR qki))),sqL (sqR (sqR (sqR (sqR qki)))),sqL (sqR (sqR (sqR (sqR (sqR qki))))),sqL (sqR (sqR (sqR (sqR (sqR (sqR qki))))))]
noncomputable def qmm:Code:=sqR (sqR (sqR (sqR (sqR (sqR (sqR qki))))))
noncomputable def qte:List Code:=[sqL qmm]
noncomputable def qra:List Code:=[sqL (sqR qmm)]
noncomputable def ql5:List Code:=[sqL (sqR (sqR qmm))]
noncomputable def qgn:Code:=sqR (sqR (sqR qmm))
def q1t:Ann:=⟨[0,1,5,6,7,8,9,10,11,12,13,14,15,16,29,34,110,123,127,141,171,184,192],[(16,⟨[(14,.int .i64,false)],[],[124,125,126,127,130,131,132,133,134,135,136,137,138,139,140,141,128,129],[]⟩)]⟩
abbrev ql8:Ty:=.row 9
def qa5:Tbl:=[(z5,gTb qq),(j8,qg3),(jb,gTT q31)]
def qsx:Tbl:=[(yw,gUn),(qn,gKi q6n),(zh,gKi q42),(y5,gKi qdc),(qw,gPe)]
def qqn:Tbl:=[(zp,qge),(z5,gTb qq),(zw,q6g q5t),(yf,qky j2),(y8,gTi fun t=>min (szT t:Int) 2001)]
def qs9:Ct:=⟨5,[.val (.st 4242424244)],[],[],none,[],[]⟩
def qrs:Tbl:=[(jf,qp9 fun n=>.mk 0 n ⟨#[]⟩ []),(qs9,fun _=>none)]
def qs7:Tbl:=[(qs9,fun _=>none)]
def qr9:Tbl:=[(zw,q6g q5t)]
abbrev snN(t:Nat):Nat×AV:=(t,.sn t .any)
def kD(n:Nat)(t:Nat)(r:ResD)(σ:St)(σk:St)(ms:List Item):Tree:=match r with
 |.normal=>ql9 [] ms [] σk n .normal σ
 |_=>.bad 1
abbrev qzu:List Item:=[(5,zk,[],[]),(7,zk,[],[])]
def qzx:St:=⟨[(0,.v (.tok 0) .str [] []),(1,.v (.tok 1) .str [] []),(5,.ref 5 [] 0 zk),(7,.ref 7 [] 0 zk)],[]⟩
noncomputable def qzb:Nat→ResD→St→Tree:=fun n r σ=>match r with
 |.normal=>.bad 1
 |r=>qip z8 kN.results.toList n r σ
def qyp:Tree:=(.need [(.imp (.not (.or (.lt (.lit (.i 100)) (.slen (.tok 0))) (.lt (.lit (.i 100)) (.slen (.tok 1))))) (.ok 0 [(.tok 2)]))] (.br (.or (.or (.lt (.lit (.i 100)) (.slen (.tok 0))) (.lt (.lit (.i 100)) (.slen (.tok 1)))) (.not (.call 0 0 [(.tok 2)]))) (.need [(.ok 1 [])] (.leaf [(.call 1 0 [])])) (.need [(.ok 2 [(.tok 2)])] (.bad 1))))
theorem qtq:q3y uE qa5 q1t 3 194 qt5 3 (qkn z8) qzb=qyp:=by kernel_rfl
def qz0:Tree:=(.need [(.imp (.not (.or (.lt (.lit (.i 100)) (.slen (.tok 0))) (.lt (.lit (.i 100)) (.slen (.tok 1))))) (.ok 0 [(.tok 2)]))] (.br (.or (.or (.lt (.lit (.i 100)) (.slen (.tok 0))) (.lt (.lit (.i 100)) (.slen (.tok 1)))) (.not (.call 0 0 [(.tok 2)]))) (.need [(.ok 1 [])] (.bad 1)) (.need [(.ok 2 [(.tok 2)])] (.leaf [(.lit (.i 0)),(.tok 2),(.call 2 0 [(.tok 2)])]))))
theorem qvl:q3y uE qa5 q1t 3 194 qt5 3 (qkn z8) (toN [(8,.int .i64,[],[])] qzu [] qzx)=qz0:=by kernel_rfl
def qi6:St:=⟨[snN 0,snN 1,snN 5,snN 7,(8,.sn 8 (.v (.tok 0) (.int .i64) [] []))],[]⟩
def qxa:Nat→ResD→St→Tree:=fun n r σ=>match r with
 |.normal=>.need [.lt (.tok 0) (.lit (.i 5))] (ql9 [] [] [] qi6 n .normal σ)
 |.exit 0=>.need [.not (.lt (.tok 0) (.lit (.i 5)))] (ql9 [] [] [] qi6 n .normal σ)
 |_=>.bad 1
def qye:Tree:=(.br (.lt (.tok 0) (.lit (.i 5))) (.need [(.lt (.tok 0) (.lit (.i 5)))] (.leaf [])) (.need [(.not (.lt (.tok 0) (.lit (.i 5))))] (.leaf [])))
theorem qtj:q3y uE [] q1t 3 194 shH 1 qi6 qxa=qye:=by kernel_rfl
def qyv:Tree:=(.need [(.rng .i64 (.add (.tok 0) (.lit (.i 1))))] (.leaf [(.add (.tok 0) (.lit (.i 1)))]))
theorem quy:q3y uE [] q1t 3 194 shF 1 qi6 (toN [(8,.int .i64,[],[])] [] [] ⟨[snN 0,snN 1,snN 5,snN 7],[]⟩)=qyv:=by kernel_rfl
def qvk:St:=⟨[(0,.sn 0 (.v (.tok 0) .str [] [])),(1,.sn 1 (.v (.tok 1) .str [] [])),(5,.sn 5 (.rd (.tok 2) zk [q0d] none)),snN 7,(8,.sn 8 (.v (.tok 3) (.int .i64) [] []))],[]⟩
abbrev qy2:List Item:=[(9,.str,[],[]),(11,ql8,[],[945,977,1009,1057])]
abbrev qxt:List Item:=[(10,zk,[],[])]
def qsp:St:=⟨qvk.t++[(10,.ref 10 [] 0 zk)],[]⟩
def qz2:Tree:=
 let a:X:=.tok 0
 let b:X:=.tok 2
 let c:X:=.tok 3
 let d:X:=.le (.lit (.i 0)) c
 let e:X:=.lt c (.lit (.i 5))
 let f:X:=.ok 4 [(.tok 1),a,b]
 (.need [d,e] (.need [d,e,f,f,(.ok 3 [a,b]),(.ok 2 [a,b]),(.ok 2 [a,b]),(.ok 1 [a,b]),(.ok 0 [b]),(.ok 0 [b])] (.need [d,e] (.leaf [(.get (.row [(.lit (.s ⟨#[117,110,105,110,115,116,97,110,116,105,97,116,105,111,110,95,101,114,114,111,114]⟩)),(.lit (.s ⟨#[116,121,112,101,95,101,114,114,111,114]⟩)),(.lit (.s ⟨#[100,111,109,97,105,110,95,101,114,114,111,114]⟩)),(.lit (.s ⟨#[101,120,105,115,116,101,110,99,101,95,101,114,114,111,114]⟩)),(.lit (.s ⟨#[112,101,114,109,105,115,115,105,111,110,95,101,114,114,111,114]⟩))]) c),(.get (.row [(.lit (.r [])),(.row [a]),(.row [a]),(.row [a]),(.row [(.tok 1),a])]) c),(.get (.row [(.call 0 0 [b]),(.call 1 0 [a,b]),(.call 2 0 [a,b]),(.call 3 0 [a,b]),(.call 4 0 [(.tok 1),a,b])]) c)]))))
theorem qv8:q3y uE qsx q1t 3 194 qsz 4 qvk (toN qy2 qxt [] qsp)=qz2:=by kernel_rfl
def qxk:St:=⟨[snN 0,snN 1,(5,.sn 5 (.rd (.tok 3) zk [q0d] none)),snN 7,snN 8,(9,.v (.tok 0) .str [] []),(10,.sn 10 (.rd (.tok 2) zk [q0d] none)),(11,.sn 11 (.v (.tok 1) ql8 [] [q0d]))],[]⟩
abbrev qxc:List Item:=[(15,zk,[],[])]
def qqs:St:=⟨[snN 0,snN 1,(5,.sn 5 (.rd (.tok 3) zk [q0d] none)),snN 7,snN 8,(10,.sn 10 (.rd (.tok 2) zk [q0d] none)),(11,.sn 11 (.v (.tok 1) ql8 [] [q0d])),(15,.ref 15 [] 0 zk)],[]⟩
def qxo:Tree:=
 let d:X:=.fld (.call 0 0 [(.tok 2)]) 3
 let e:X:=.len (.tok 1)
 let f:X:=.lit (.s ⟨#[91,93]⟩)
 let g:X:=.fld (.tok 2) 3
 let h:X:=.lit (.s ⟨#[46,46,46]⟩)
 let i:X:=.lit (.i 1)
 let j:X:=.tok 4
 let k:X:=.lit (.i 0)
 let m:X:=.not (.eq (.fld (.call 0 0 [(.tok 2)]) 2) (.tok 0))
 let o:X:=.lit (.b .true)
 let p:X:=.add (.call 4 0 [(.tok 3)]) (.lit (.i 3))
 let a:X:=.or (.or (.or (.not (.call 0 1 [(.tok 2)])) (.not (.call 1 0 [(.tok 2)]))) (.not (.eq (.fld (.tok 2) 2) (.lit (.s ⟨#[101,114,114,111,114]⟩))))) (.not (.eq (.len g) (.lit (.i 2))))
 let c:X:=.lt (.lit (.i 2000)) (.add p e)
 let q:X:=.get (.tok 1) j
 let s:X:=.get d e
 let b:X:=.or a (.not (.call 2 0 [(.get g k),(.call 0 0 [(.tok 2)])]))
 let l:X:=.and c (.not (.call 2 0 [s,(.call 3 0 [h])]))
 let r:X:=.not a
 let n:X:=.not b
 (.need [(.ok 0 [(.tok 2)])] (.need [(.imp n (.ok 2 [(.get g i),(.call 3 0 [f])])),(.imp n (.ok 3 [f])),(.imp n o),(.imp n (.lt i (.len g))),(.imp n (.ok 3 [f])),(.imp n o),(.imp n (.lt i (.len g))),(.imp n (.ok 3 [f])),(.imp r (.ok 2 [(.get g k),(.call 0 0 [(.tok 2)])])),(.imp r o),(.imp r (.lt k (.len g))),(.imp r o),(.imp r (.lt k (.len g))),(.imp (.not (.not (.call 0 1 [(.tok 2)]))) (.ok 1 [(.tok 2)]))] (.br (.or b (.not (.call 2 0 [(.get g i),(.call 3 0 [f])]))) (.bad 1) (.need [(.imp (.not m) (.rng .i64 (.add e i)))] (.br (.or m (.not (.eq (.len d) (.add e i)))) (.bad 1) (.loop 16 4 [k] (.br (.lt j e) (.need [(.ok 2 [(.get d j),(.call 3 0 [q])]),(.ok 3 [q]),(.le k j),(.lt j e),(.le k j),(.lt j (.len d))] (.br (.not (.call 2 0 [(.get d j),(.call 3 0 [q])])) (.bad 1) (.need [(.rng .i64 (.add j i))] (.back 16 [(.add j i)])))) (.need [(.le k e),(.lt e (.len d))] (.need [(.ok 4 [(.tok 3)]),(.rng .i64 p),(.rng .i64 (.add p e))] (.need [(.imp (.and (.not l) (.not c)) (.ok 2 [s,(.tok 3)])),(.imp c (.ok 2 [s,(.call 3 0 [h])])),(.imp c (.ok 3 [h]))] (.br (.or l (.and (.not c) (.not (.call 2 0 [s,(.tok 3)])))) (.bad 1) (.leaf [s]))))))))))))
theorem qvm:q3y uE qqn q1t 3 194 qps 4 qxk (toN [] qxc [] qqs)=qxo:=by kernel_rfl
def qyr:St:=⟨[snN 0,snN 1,snN 5,snN 7,snN 8,(10,.rd (.tok 0) zk [] none),(11,.v (.tok 1) ql8 [] []),snN 15],[]⟩
def qqp:St:=⟨[snN 0,snN 1,snN 5,snN 7,snN 8,snN 15],[]⟩
def qz4:Tree:=(.need [(.le (.lit (.i 0)) (.len (.tok 1))),(.lt (.len (.tok 1)) (.len (.fld (.get (.fld (.tok 0) 3) (.lit (.i 0))) 3))),(.ok 0 [(.lit (.i 0))]),(.lit (.b .true)),(.lt (.lit (.i 0)) (.len (.fld (.tok 0) 3)))] (.leaf []))
theorem quv:q3y uE qrs q1t 3 194 qte 2 qyr (toN [] [] [] qqp)=qz4:=by kernel_rfl
def qyi:St:=⟨[snN 0,snN 1,snN 5,snN 7,snN 8,(15,.rd (.tok 0) zk [] none)],[]⟩
def qss:St:=⟨[snN 0,snN 1,snN 5,snN 7,snN 8],[]⟩
def qxf:Tree:=(.br (.lt (.lit (.i 0)) (.len (.fld (.tok 0) 3))) (.need [(.lit (.b .true)),(.lt (.lit (.i 0)) (.len (.fld (.tok 0) 3)))] (.leaf [])) (.leaf []))
theorem qtn:q3y uE qs7 q1t 3 194 qra 1 qyi (toN [] [] [] qss)=qxf:=by kernel_rfl
def qp4:St:=⟨[snN 0,snN 1,(5,.sn 5 (.rd (.tok 0) zk [] none)),(7,.sn 7 (.rd (.tok 1) zk [] none)),snN 8],[]⟩
def qxh:Tree:=(.need [(.ok 0 [(.tok 0),(.tok 1)])] (.br (.not (.call 0 0 [(.tok 0),(.tok 1)])) (.bad 1) (.leaf [])))
theorem qvo:q3y uE qr9 q1t 3 194 (ql5++[qgn]) 2 qp4 (toN [] [] [] qp4)=qxh:=by kernel_rfl
noncomputable def z07:Nat→ResD→St→Tree:=fun n r σ=>qip z8 kN.results.toList n r σ
def qz1:Tree:=(.need [(.ok 1 [])] (.leaf [(.call 1 0 [])]))
theorem qu5:q3y uE qa5 q1t 3 194 [shZ] 0 ⟨[],[]⟩ z07=qz1:=by kernel_rfl
end
end Go.Proofs.Ytokkfpalbpnpeaa
