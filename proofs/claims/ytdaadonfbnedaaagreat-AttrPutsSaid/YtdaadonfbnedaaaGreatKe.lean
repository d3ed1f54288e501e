/-
 Lemmas of the walk and plain laws, put together. No condition.
-/
import Derived.Test.YtdaadonfbnedaaaGreatKd
namespace Go.Proofs.YtdaadonfbnedaaaGreat
open Go.RowKit
set_option linter.unusedVariables false
set_option linter.unusedSimpArgs false
set_option maxRecDepth 100000
open _root_.And renaming intro→uA
open _root_.Option.some renaming injEq→uB
open _root_.List renaming length_map→uC,range→uD,getElem?_cons_zero→uH,getElem?_cons_succ→uI,take_succ_cons→uM,getD_cons_zero→uN,getD_cons_succ→uO,cons_append→uU,nil_append→uV,take_zero→uW,mem_cons→uZ,Pairwise→kA
open _root_.Nat renaming le_refl→uE,not_lt_zero→uF,zero_le→uL
open _root_.Option renaming ite_none_right_eq_some→uG,isSome_some→uK,getD_some→uP
open _root_.Bool renaming or_true→uJ,not_eq_false'→uQ,not_eq_true'→uR,and_false→uX,and_assoc→uY
open _root_.Go.Proofs.Tryz renaming prog→uT,f103→kB,f102→kC,f68→kD,f65→kE
abbrev yb:Ty:=.row 29
abbrev qni:Ty:=.row 87
abbrev z3x:Ty:=.row 71
abbrev q4y:Ty:=.row 73
abbrev qb:Ty:=.st 26
abbrev qm:Ty:=.st 28
abbrev yr:Ty:=.int .i64
abbrev qla:Ty:=.row 54
abbrev qmg:Ty:=.st 53
abbrev q2n:Ty:=.st 70
abbrev yq:Ty:=.st 72
abbrev ye:Ty:=.st 86
abbrev za6:Ty:=.row 102
abbrev qnf:Ty:=.st 101
abbrev GfZ:=List D→Option (List D)
def EnZ(ct:Ct):Prop:=∀(args:Array Value)(w:World),(callFunc ct.f args).run uT w=.ok (.enter ct.f args) w
def CdZ(T:Tbl)(a:Ann)(ct:Ct)(f:Func)(t:Tree):Prop:=∀cd,f.body=some cd→qfa uT T a ct f cd=t
def HgZ(t:Tree)(ct:Ct)(T:Tbl)(g:GfZ):Prop:=∀ds outs,WfA ct.ars ds→g ds=some outs→t.go (qe T) (fun o=>o=outs) ds fun _ _=>False
variable{g:GfZ}
theorem yd{ct:Ct}{T:Tbl}{a:Ann}{f:Func}{t:Tree}{cd:Code}(hc:CdZ T a ct f t)(htb:q0r T)(hf:uT.funcs[ct.f]? =some f)(hb:f.body=some cd)(he:EnZ ct)(hd:ct.ar.length≤f.ntmps)(h:HgZ t ct T g)(hnp:qa3 T=true:=by rfl)(hkp:ct.kp=[]:=by rfl)(hfl:ct.fl=[]:=by rfl):FOk ct g:=
 zin a f cd htb hf hb he hd (fun ds outs hw hg=>by rw[hc cd hb];exact h ds outs hw hg) hnp hkp hfl
def q1w:Ct:=⟨67,[.val (.int .i64)],[(.st 26,true),(.int .i64,false)],[],none,[],[]⟩
theorem qp7:EnZ q1w:=fun _ _=>by kernel_rfl
def qxl:Ann:=⟨[0,2,3,9],[]⟩
def qb7:Tree:=(.br (.or (.lt (.tok 0) (.lit (.i 1))) (.lt (.lit (.i 1048576)) (.tok 0))) (.leaf [(.lit (.a [(.r []),(.r []),(.r []),(.r []),(.i 0),(.i 0)])),(.lit (.i 1))]) (.leaf [(.set (.lit (.a [(.r []),(.r []),(.r []),(.r []),(.i 0),(.i 0)])) 5 (.tok 0)),(.lit (.i 0))]))
theorem qwv:CdZ [] qxl q1w Tryz.f67 qb7:=fun cd h=>by injection h with h;subst h;kernel_rfl
theorem qzf(h:HgZ qb7 q1w [] g):FOk q1w g:=yd (qwv) .nil rfl rfl qp7 (by decide) h
def z4:Ct:=⟨68,[.ref (.st 26) true],[(.st 28,false),(.int .i64,false)],[],none,[],[(0,0,.st 28),(0,1,.st 86),(0,2,.st 70),(0,3,.st 72)]⟩
theorem q2y:EnZ z4:=fun _ _=>by kernel_rfl
def qee:Ann:=⟨[0,2,3,5,16],[]⟩
def q7w:Tree:=(.br (.le (.fld (.tok 0) 5) (.len (.fld (.tok 0) 0))) (.leaf [(.lit (.a [(.i 0),(.i 0)])),(.lit (.i 13)),(.tok 0)]) (.need [(.le (.add (.len (.fld (.tok 0) 0)) (.lit (.i 1))) (.lit (.i 8796093021952))),(.le (.call 0 0 []) (.len (.fld (.tok 0) 0)))] (.leaf [(.mk [(.lit (.i 0)),(.len (.fld (.tok 0) 0))]),(.lit (.i 0)),(.set (.tok 0) 0 (.app (.fld (.tok 0) 0) (.row [(.mk [(.lit (.i 0)),(.len (.fld (.tok 0) 0))])])))])))
theorem qmj(m0 m1 m2 m3:Int):CdZ [(jz z4.f (.st 28),fun _=>some [.i m0]),(jz z4.f (.st 86),fun _=>some [.i m1]),(jz z4.f (.st 70),fun _=>some [.i m2]),(jz z4.f (.st 72),fun _=>some [.i m3])] qee z4 kD q7w:=fun cd h=>by injection h with h;subst h;kernel_rfl
theorem qq0{g:List D→Option (List D)}(h:∀ds outs,WfA z4.ars ds→g ds=some outs→q7w.go (qe [(jz z4.f (.st 28),fun _=>some [.i (((ds.getD 0 .u).fld 0).rs.length:Nat)]),(jz z4.f (.st 86),fun _=>some [.i (((ds.getD 0 .u).fld 1).rs.length:Nat)]),(jz z4.f (.st 70),fun _=>some [.i (((ds.getD 0 .u).fld 2).rs.length:Nat)]),(jz z4.f (.st 72),fun _=>some [.i (((ds.getD 0 .u).fld 3).rs.length:Nat)])]) (fun o=>o=outs) ds fun _ _=>False):FOk z4 g:=
 FOk.of_at q2y fun ds outs hw hg=>z3s qee kD _ (.cons (q1x _ q2y _ _) (.cons (q1x _ q2y _ _) (.cons (q1x _ q2y _ _) (.cons (q1x _ q2y _ _) .nil)))) rfl rfl (by decide) (by rw[qmj _ _ _ _ _ rfl];exact h ds outs hw hg) rfl (FlF.of fun k j te hm=>by
  rw[show z4.fl=[(0,0,.st 28),(0,1,.st 86),(0,2,.st 70),(0,3,.st 72)] from rfl] at hm
  simp only[gnM] at hm
  rcases hm with⟨rfl,rfl,rfl⟩|⟨rfl,rfl,rfl⟩|⟨rfl,rfl,rfl⟩|⟨rfl,rfl,rfl⟩<;>exact⟨by decide,uE _⟩)
def q0y:Ct:=⟨26,[.val (.int .i64)],[(.st 28,false)],[],none,[],[]⟩
theorem qem:EnZ q0y:=fun _ _=>by kernel_rfl
def qyc:Ann:=⟨[0,2],[]⟩
def qb9:Tree:=(.leaf [(.mk [(.lit (.i 1)),(.tok 0)])])
theorem qw3:CdZ [] qyc q0y Tryz.f26 qb9:=fun cd h=>by injection h with h;subst h;kernel_rfl
theorem qy7(h:HgZ qb9 q0y [] g):FOk q0y g:=yd (qw3) .nil rfl rfl qem (by decide) h
def jc:Ct:=⟨70,[.val (.st 26),.val (.int .i64)],[(.int .i64,false)],[],none,[],[]⟩
theorem ql3:EnZ jc:=fun _ _=>by kernel_rfl
def qrn:Ann:=⟨[0,1,2,4,13],[]⟩
def q8i:Tree:=(.br (.or (.lt (.tok 1) (.lit (.i 0))) (.le (.len (.fld (.tok 0) 1)) (.tok 1))) (.leaf [(.lit (.i (-1)))]) (.need [(.le (.lit (.i 0)) (.tok 1)),(.lt (.tok 1) (.len (.fld (.tok 0) 1)))] (.leaf [(.fld (.get (.fld (.tok 0) 1) (.tok 1)) 1)])))
theorem qnp:CdZ [] qrn jc Tryz.f70 q8i:=fun cd h=>by injection h with h;subst h;kernel_rfl
theorem qr5(h:HgZ q8i jc [] g):FOk jc g:=yd (qnp) .nil rfl rfl ql3 (by decide) h
def ja:Ct:=⟨71,[.val (.st 26),.val (.int .i64)],[(.int .i64,false)],[],none,[],[]⟩
theorem qql:EnZ ja:=fun _ _=>by kernel_rfl
def qxy:Ann:=⟨[0,1,2,4,13],[]⟩
def qbb:Tree:=(.br (.or (.lt (.tok 1) (.lit (.i 0))) (.le (.len (.fld (.tok 0) 0)) (.tok 1))) (.leaf [(.lit (.i (-1)))]) (.need [(.le (.lit (.i 0)) (.tok 1)),(.lt (.tok 1) (.len (.fld (.tok 0) 0)))] (.leaf [(.fld (.get (.fld (.tok 0) 0) (.tok 1)) 0)])))
theorem quu:CdZ [] qxy ja Tryz.f71 qbb:=fun cd h=>by injection h with h;subst h;kernel_rfl
theorem qyd(h:HgZ qbb ja [] g):FOk ja g:=yd (quu) .nil rfl rfl qql (by decide) h
def qf:Ct:=⟨42,[.val (.st 26),.val (.st 28)],[(.bool,false)],[],none,[],[]⟩
theorem qew:EnZ qf:=fun _ _=>by kernel_rfl
def qi2:Ann:=⟨[0,1,2,3,4,5,7,8,10,17,29,36],[]⟩
def q48:Tree:=(.br (.eq (.fld (.tok 1) 0) (.lit (.i 1))) (.leaf [(.lit (.b .true))]) (.br (.eq (.fld (.tok 1) 0) (.lit (.i 2))) (.need [(.ok 0 [(.tok 0),(.fld (.tok 1) 1)])] (.leaf [(.eq (.call 0 0 [(.tok 0),(.fld (.tok 1) 1)]) (.lit (.i 0)))])) (.br (.eq (.fld (.tok 1) 0) (.lit (.i 0))) (.need [(.ok 1 [(.tok 0),(.fld (.tok 1) 1)])] (.leaf [(.and (.le (.lit (.i 0)) (.call 1 0 [(.tok 0),(.fld (.tok 1) 1)])) (.not (.eq (.call 1 0 [(.tok 0),(.fld (.tok 1) 1)]) (.lit (.i 4)))))])) (.br (.eq (.fld (.tok 1) 0) (.lit (.i 3))) (.need [(.ok 1 [(.tok 0),(.fld (.tok 1) 1)])] (.leaf [(.eq (.call 1 0 [(.tok 0),(.fld (.tok 1) 1)]) (.lit (.i 4)))])) (.br (.eq (.fld (.tok 1) 0) (.lit (.i 5))) (.need [(.ok 1 [(.tok 0),(.fld (.tok 1) 1)])] (.leaf [(.eq (.call 1 0 [(.tok 0),(.fld (.tok 1) 1)]) (.lit (.i 5)))])) (.leaf [(.lit (.b .false))]))))))
theorem qgq(g0 g1:GfZ):CdZ [(jc,g0),(ja,g1)] qi2 qf Tryz.f42 q48:=fun cd h=>by injection h with h;subst h;kernel_rfl
variable{g0 g1:GfZ}
theorem qhz(h0:FOk jc g0)(h1:FOk ja g1)(h:HgZ q48 qf [(jc,g0),(ja,g1)] g):FOk qf g:=yd (qgq g0 g1) (.cons h0 (.cons h1 .nil)) rfl rfl qew (by decide) h
def zm:Ct:=⟨53,[.val (.st 26),.val (.st 28)],[(.st 28,false)],[],none,[],[]⟩
theorem qlf:EnZ zm:=fun _ _=>by kernel_rfl
def qpl:Ann:=⟨[0,1,2,3,4,8,12,13,14,34],[(4,⟨[(13,.int .i64,false)],[3],[14,15,16,17,18,19,20,21,22,23,24,25,26,27,28,29,30,31,32,33,34,35,36,37,38,39,40,41],[]⟩)]⟩
def q52:Tree:=
 let b:X:=.fld (.tok 3) 1
 let c:X:=.fld (.tok 0) 0
 let d:X:=.lit (.i 0)
 let f:X:=.add (.tok 2) (.lit (.i 1))
 let a:X:=.or (.not (.eq (.fld (.tok 3) 0) d)) (.lt (.call 1 0 [(.tok 0),b]) d)
 let e:X:=.lt b (.len c)
 (.need [(.ok 0 [(.tok 0),(.tok 1)])] (.br (.not (.call 0 0 [(.tok 0),(.tok 1)])) (.leaf [(.lit (.a [(.i 0),(.i 0)]))]) (.loop 4 2 [d,(.tok 1)] (.br (.lt (.tok 2) (.len c)) (.need [(.imp (.not a) (.le d b)),(.imp (.not a) e),(.imp (.not a) (.le d b)),(.imp (.not a) e),(.imp (.not (.not (.eq (.fld (.tok 3) 0) d))) (.ok 1 [(.tok 0),b]))] (.br (.or a (.eq (.get c b) (.tok 3))) (.leaf [(.tok 3)]) (.need [(.le d b),e] (.need [(.rng .i64 f)] (.back 4 [f,(.get c b)]))))) (.leaf [(.tok 3)])))))
theorem qmk(g0 g1:GfZ):CdZ [(qf,g0),(ja,g1)] qpl zm Tryz.f53 q52:=fun cd h=>by injection h with h;subst h;kernel_rfl
theorem qen(h0:FOk qf g0)(h1:FOk ja g1)(h:HgZ q52 zm [(qf,g0),(ja,g1)] g):FOk zm g:=yd (qmk g0 g1) (.cons h0 (.cons h1 .nil)) rfl rfl qlf (by decide) h
def q0b:Ct:=⟨55,[.val (.st 26),.val (.int .i64)],[(.bool,false)],[],none,[],[]⟩
theorem qyh:EnZ q0b:=fun _ _=>by kernel_rfl
def z7z:Ann:=⟨[0,1,2,4],[]⟩
def qdt:Tree:=(.leaf [(.and (.le (.lit (.i 0)) (.tok 1)) (.lt (.tok 1) (.len (.fld (.tok 0) 0))))])
theorem z4f:CdZ [] z7z q0b Tryz.f55 qdt:=fun cd h=>by injection h with h;subst h;kernel_rfl
theorem z6d(h:HgZ qdt q0b [] g):FOk q0b g:=yd (z4f) .nil rfl rfl qyh (by decide) h
def qn:Ct:=⟨32,[.val (.st 26),.val (.st 28)],[(.st 28,false),(.bool,false)],[],none,[],[]⟩
theorem qhq:EnZ qn:=fun _ _=>by kernel_rfl
def qli:Ann:=⟨[0,1,2,3,4,5,9,15,16,23],[]⟩
def q6d:Tree:=(.need [(.ok 0 [(.tok 0),(.tok 1)])] (.br (.not (.call 0 0 [(.tok 0),(.tok 1)])) (.leaf [(.lit (.a [(.i 0),(.i 0)])),(.lit (.b .false))]) (.need [(.ok 1 [(.tok 0),(.tok 1)])] (.br (.eq (.fld (.call 1 0 [(.tok 0),(.tok 1)]) 0) (.lit (.i 0))) (.need [(.ok 2 [(.tok 0),(.fld (.call 1 0 [(.tok 0),(.tok 1)]) 1)])] (.leaf [(.call 1 0 [(.tok 0),(.tok 1)]),(.call 2 0 [(.tok 0),(.fld (.call 1 0 [(.tok 0),(.tok 1)]) 1)])])) (.br (.eq (.fld (.call 1 0 [(.tok 0),(.tok 1)]) 0) (.lit (.i 5))) (.need [(.imp (.call 2 0 [(.tok 0),(.fld (.call 1 0 [(.tok 0),(.tok 1)]) 1)]) (.ok 2 [(.tok 0),(.add (.fld (.call 1 0 [(.tok 0),(.tok 1)]) 1) (.lit (.i 2)))])),(.imp (.call 2 0 [(.tok 0),(.fld (.call 1 0 [(.tok 0),(.tok 1)]) 1)]) (.rng .i64 (.add (.fld (.call 1 0 [(.tok 0),(.tok 1)]) 1) (.lit (.i 2))))),(.ok 2 [(.tok 0),(.fld (.call 1 0 [(.tok 0),(.tok 1)]) 1)])] (.leaf [(.call 1 0 [(.tok 0),(.tok 1)]),(.and (.call 2 0 [(.tok 0),(.fld (.call 1 0 [(.tok 0),(.tok 1)]) 1)]) (.call 2 0 [(.tok 0),(.add (.fld (.call 1 0 [(.tok 0),(.tok 1)]) 1) (.lit (.i 2)))]))])) (.leaf [(.lit (.a [(.i 0),(.i 0)])),(.lit (.b .false))]))))))
theorem qj2(g0 g1 g2:GfZ):CdZ [(qf,g0),(zm,g1),(q0b,g2)] qli qn Tryz.f32 q6d:=fun cd h=>by injection h with h;subst h;kernel_rfl
variable{g2:GfZ}
theorem qk2(h0:FOk qf g0)(h1:FOk zm g1)(h2:FOk q0b g2)(h:HgZ q6d qn [(qf,g0),(zm,g1),(q0b,g2)] g):FOk qn g:=yd (qj2 g0 g1 g2) (.cons h0 (.cons h1 (.cons h2 .nil))) rfl rfl qhq (by decide) h
def qz:Ct:=⟨41,[.val (.st 26),.val (.st 28)],[(.bool,false)],[],none,[],[]⟩
theorem qhy:EnZ qz:=fun _ _=>by kernel_rfl
def qkm:Ann:=⟨[0,1,2,3,4,5,14,15],[]⟩
def q67:Tree:=
 let a:X:=.add (.fld (.tok 1) 1) (.lit (.i 2))
 let f:X:=.lit (.b .true)
 let b:X:=.get (.fld (.tok 0) 0) a
 let d:X:=.rng .i64 a
 let c:X:=.eq b (.mk [(.lit (.i 0)),a])
 let e:X:=.fld b 0
 (.need [d,(.le (.lit (.i 0)) a),(.lt a (.len (.fld (.tok 0) 0)))] (.br (.eq e (.lit (.i 1))) (.br (.eq e (.lit (.i 1))) (.leaf [f]) (.need [d] (.leaf [c]))) (.br (.eq e (.lit (.i 2))) (.br (.eq e (.lit (.i 2))) (.leaf [f]) (.need [d] (.leaf [c]))) (.br (.eq e (.lit (.i 3))) (.leaf [f]) (.need [d] (.leaf [c]))))))
theorem qj7:CdZ [] qkm qz Tryz.f41 q67:=fun cd h=>by injection h with h;subst h;kernel_rfl
theorem qkw(h:HgZ q67 qz [] g):FOk qz g:=yd (qj7) .nil rfl rfl qhy (by decide) h
def jg:Ct:=⟨127,[.val (.st 53),.ref (.int .i64) true,.cell 146 3],[],[(.cell 2,.fn 127 [1,2])],none,[],[]⟩
theorem qcb:EnZ jg:=fun _ _=>by kernel_rfl
def qqc:Ann:=⟨[0,1,2,3,4,15],[(3,⟨[(4,.int .i64,false)],[1],[7,8,9,10,11,12,13,14,15,18,19,20,21,22,23,24,16,17],[]⟩)]⟩
def q8e:Tree:=(.need [(.rng .i64 (.sub (.tok 1) (.lit (.i 1))))] (.loop 3 2 [(.lit (.i 0)),(.sub (.tok 1) (.lit (.i 1)))] (.br (.and (.lt (.tok 2) (.len (.fld (.tok 0) 3))) (.lt (.lit (.i 0)) (.tok 3))) (.need [(.ok 0 [(.get (.fld (.tok 0) 3) (.tok 2)),(.tok 3)]),(.le (.lit (.i 0)) (.tok 2)),(.lt (.tok 2) (.len (.fld (.tok 0) 3)))] (.need [(.rng .i64 (.add (.tok 2) (.lit (.i 1))))] (.back 3 [(.add (.tok 2) (.lit (.i 1))),(.call 0 0 [(.get (.fld (.tok 0) 3) (.tok 2)),(.tok 3)])]))) (.leaf [(.tok 3)]))))
theorem qmu(g0:GfZ):CdZ [(jg,g0)] qqc jg Tryz.f127 q8e:=fun cd h=>by injection h with h;subst h;kernel_rfl
theorem qr3(h0:FOk jg g0)(h:HgZ q8e jg [(jg,g0)] g):FOk jg g:=yd (qmu g0) (.cons h0 .nil) rfl rfl qcb (by decide) h
def q09:Ct:=⟨114,[.val (.st 53)],[(.int .i64,false)],[],none,[],[]⟩
theorem qri:EnZ q09:=fun _ _=>by kernel_rfl
def qyw:Ann:=⟨[0,1,2,3,4],[]⟩
def qba:Tree:=(.need [(.ok 0 [(.tok 0),(.lit (.i 2001))])] (.need [(.rng .i64 (.sub (.lit (.i 2001)) (.call 0 0 [(.tok 0),(.lit (.i 2001))])))] (.leaf [(.sub (.lit (.i 2001)) (.call 0 0 [(.tok 0),(.lit (.i 2001))]))])))
theorem qtc(g0:GfZ):CdZ [(jg,g0)] qyw q09 Tryz.f114 qba:=fun cd h=>by injection h with h;subst h;kernel_rfl
theorem qxm(h0:FOk jg g0)(h:HgZ qba q09 [(jg,g0)] g):FOk q09 g:=yd (qtc g0) (.cons h0 .nil) rfl rfl qri (by decide) h
def yg:Ct:=⟨115,[.val (.st 53)],[(.bool,false)],[],none,[],[]⟩
theorem qec:EnZ yg:=fun _ _=>by kernel_rfl
def qyn:Ann:=⟨[0,1,2,3,4,6,7,28,39,56,86],[(12,⟨[(3,.bool,false),(4,.int .i64,false)],[],[79,80,81,82,83,84,85,86,89,90,91,92,93,94,87,88],[]⟩)]⟩
def qar:Tree:=
 let b:X:=.add (.tok 2) (.lit (.i 1))
 let c:X:=.lit (.i 0)
 let j:X:=.tok 0
 let o:X:=.tok 1
 let a:X:=.fld j 3
 let f:X:=.and (.eq (.fld j 1) c) (.le (.slen (.fld j 2)) (.lit (.i 100)))
 let h:X:=.le c (.tok 2)
 let k:X:=.rng .i64 b
 let m:X:=.eq (.fld j 2) (.lit (.s ⟨#[]⟩))
 let p:X:=.fld j 0
 let d:X:=.lt (.tok 2) (.len a)
 let e:X:=.get a (.tok 2)
 let n:X:=.eq (.len a) c
 let g:X:=.and d o
 let i:X:=.call 0 0 [e]
 let l:X:=.ok 0 [e]
 (.br (.eq p c) (.loop 12 1 [(.and (.and (.and (.le c (.fld j 1)) (.le (.fld j 1) (.lit (.i 1099511627776)))) m) n),c] (.br g (.need [h,d,l] (.need [k] (.back 12 [i,b]))) (.leaf [o]))) (.br (.eq p (.lit (.i 1))) (.loop 12 1 [(.and m n),c] (.br g (.need [h,d,l] (.need [k] (.back 12 [i,b]))) (.leaf [o]))) (.br (.eq p (.lit (.i 2))) (.loop 12 1 [(.and f n),c] (.br g (.need [h,d,l] (.need [k] (.back 12 [i,b]))) (.leaf [o]))) (.br (.eq p (.lit (.i 3))) (.loop 12 1 [(.and (.and f (.lt c (.len a))) (.le (.len a) (.lit (.i 8)))),c] (.br g (.need [h,d,l] (.need [k] (.back 12 [i,b]))) (.leaf [o]))) (.loop 12 1 [(.lit (.b .false)),c] (.br g (.need [h,d,l] (.need [k] (.back 12 [i,b]))) (.leaf [o])))))))
theorem qvu(g0:GfZ):CdZ [(yg,g0)] qyn yg Tryz.f115 qar:=fun cd h=>by injection h with h;subst h;kernel_rfl
theorem qxf(h0:FOk yg g0)(h:HgZ qar yg [(yg,g0)] g):FOk yg g:=yd (qvu g0) (.cons h0 .nil) rfl rfl qec (by decide) h
def yz:Ct:=⟨98,[.val (.st 53)],[(.bool,false)],[],none,[],[]⟩
theorem qmd:EnZ yz:=fun _ _=>by kernel_rfl
def qtf:Ann:=⟨[0,1,2],[]⟩
def q9w:Tree:=(.need [(.ok 0 [(.tok 0)]),(.imp (.le (.call 0 0 [(.tok 0)]) (.lit (.i 2000))) (.ok 1 [(.tok 0)]))] (.leaf [(.and (.le (.call 0 0 [(.tok 0)]) (.lit (.i 2000))) (.call 1 0 [(.tok 0)]))]))
theorem qrh(g0 g1:GfZ):CdZ [(q09,g0),(yg,g1)] qtf yz Tryz.f98 q9w:=fun cd h=>by injection h with h;subst h;kernel_rfl
theorem qv2(h0:FOk q09 g0)(h1:FOk yg g1)(h:HgZ q9w yz [(q09,g0),(yg,g1)] g):FOk yz g:=yd (qrh g0 g1) (.cons h0 (.cons h1 .nil)) rfl rfl qmd (by decide) h
def q0n:Ct:=⟨113,[.val (.st 53)],[(.st 53,false)],[],none,[],[]⟩
theorem qjh:EnZ q0n:=fun _ _=>by kernel_rfl
def qo9:Ann:=⟨[0,1,2],[]⟩
def q6z:Tree:=(.leaf [(.tok 0)])
theorem qk4:CdZ [] qo9 q0n Tryz.f113 q6z:=fun cd h=>by injection h with h;subst h;kernel_rfl
theorem qnz(h:HgZ q6z q0n [] g):FOk q0n g:=yd (qk4) .nil rfl rfl qjh (by decide) h
def q07:Ct:=⟨112,[.val (.st 53),.fn 113 []],[(.st 53,false)],[],none,[],[]⟩
theorem qd6:EnZ q07:=fun _ _=>by kernel_rfl
def qtm:Ann:=⟨[0,1,2,4,5,7,10,22,23,24,25],[(5,⟨[(24,.int .i64,false)],[5],[25,26,27,7,28,29,30,31,32,33,34,35,36],[]⟩)]⟩
def q9m:Tree:=(.br (.eq (.fld (.tok 0) 0) (.lit (.i 0))) (.need [(.ok 0 [(.tok 0)])] (.leaf [(.call 0 0 [(.tok 0)])])) (.loop 5 1 [(.lit (.i 0)),(.set (.set (.set (.lit (.a [(.i 0),(.i 0),(.s ⟨#[]⟩),(.r [])])) 0 (.fld (.tok 0) 0)) 1 (.fld (.tok 0) 1)) 2 (.fld (.tok 0) 2))] (.br (.lt (.tok 1) (.len (.fld (.tok 0) 3))) (.need [(.le (.lit (.i 0)) (.tok 1)),(.lt (.tok 1) (.len (.fld (.tok 0) 3)))] (.need [(.le (.add (.len (.fld (.tok 2) 3)) (.lit (.i 1))) (.lit (.i 2513169434843))),(.ok 1 [(.get (.fld (.tok 0) 3) (.tok 1))])] (.need [(.rng .i64 (.add (.tok 1) (.lit (.i 1))))] (.back 5 [(.add (.tok 1) (.lit (.i 1))),(.set (.tok 2) 3 (.app (.fld (.tok 2) 3) (.row [(.call 1 0 [(.get (.fld (.tok 0) 3) (.tok 1))])])))])))) (.leaf [(.tok 2)]))))
theorem qpb(g0 g1:GfZ):CdZ [(q0n,g0),(q07,g1)] qtm q07 Tryz.f112 q9m:=fun cd h=>by injection h with h;subst h;kernel_rfl
theorem qt8(h0:FOk q0n g0)(h1:FOk q07 g1)(h:HgZ q9m q07 [(q0n,g0),(q07,g1)] g):FOk q07 g:=yd (qpb g0 g1) (.cons h0 (.cons h1 .nil)) rfl rfl qd6 (by decide) h
def yo:Ct:=⟨74,[.val (.st 53)],[(.st 53,false)],[],none,[],[]⟩
theorem qnr:EnZ yo:=fun _ _=>by kernel_rfl
def qsx:Ann:=⟨[0,1,2,5],[]⟩
def q9k:Tree:=(.need [(.ok 0 [(.tok 0)])] (.br (.not (.call 0 0 [(.tok 0)])) (.leaf [(.lit (.a [(.i 0),(.i 0),(.s ⟨#[]⟩),(.r [])]))]) (.need [(.ok 1 [(.tok 0)])] (.leaf [(.call 1 0 [(.tok 0)])]))))
theorem qre(g0 g1:GfZ):CdZ [(yz,g0),(q07,g1)] qsx yo Tryz.f74 q9k:=fun cd h=>by injection h with h;subst h;kernel_rfl
theorem qw9(h0:FOk yz g0)(h1:FOk q07 g1)(h:HgZ q9k yo [(yz,g0),(q07,g1)] g):FOk yo g:=yd (qre g0 g1) (.cons h0 (.cons h1 .nil)) rfl rfl qnr (by decide) h
def yf:Ct:=⟨30,[.val (.str)],[(.st 53,false)],[],none,[],[]⟩
theorem qq3:EnZ yf:=fun _ _=>by kernel_rfl
def qze:Ann:=⟨[0,2],[]⟩
def qbn:Tree:=(.need [(.ok 0 [(.set (.set (.lit (.a [(.i 0),(.i 0),(.s ⟨#[]⟩),(.r [])])) 0 (.lit (.i 2))) 2 (.tok 0))])] (.leaf [(.call 0 0 [(.set (.set (.lit (.a [(.i 0),(.i 0),(.s ⟨#[]⟩),(.r [])])) 0 (.lit (.i 2))) 2 (.tok 0))])]))
theorem qwh(g0:GfZ):CdZ [(yo,g0)] qze yf Tryz.f30 qbn:=fun cd h=>by injection h with h;subst h;kernel_rfl
theorem qyv(h0:FOk yo g0)(h:HgZ qbn yf [(yo,g0)] g):FOk yf g:=yd (qwh g0) (.cons h0 .nil) rfl rfl qq3 (by decide) h
def q1d:Ct:=⟨97,[.val (.int .i64)],[(.bool,false)],[],none,[],[]⟩
theorem qlb:EnZ q1d:=fun _ _=>by kernel_rfl
def qpz:Ann:=⟨[0,2],[]⟩
def q82:Tree:=(.leaf [(.and (.le (.lit (.i 0)) (.tok 0)) (.le (.tok 0) (.lit (.i 1099511627776))))])
theorem qo8:CdZ [] qpz q1d Tryz.f97 q82:=fun cd h=>by injection h with h;subst h;kernel_rfl
theorem qqg(h:HgZ q82 q1d [] g):FOk q1d g:=yd (qo8) .nil rfl rfl qlb (by decide) h
def q2a:Ct:=⟨64,[.val (.int .i64)],[(.st 53,false)],[],none,[],[]⟩
theorem qx7:EnZ q2a:=fun _ _=>by kernel_rfl
def z24:Ann:=⟨[0,2,5],[]⟩
def qcw:Tree:=(.need [(.ok 0 [(.tok 0)])] (.br (.not (.call 0 0 [(.tok 0)])) (.leaf [(.lit (.a [(.i 0),(.i 0),(.s ⟨#[]⟩),(.r [])]))]) (.leaf [(.set (.lit (.a [(.i 0),(.i 0),(.s ⟨#[]⟩),(.r [])])) 1 (.tok 0))])))
theorem qz9(g0:GfZ):CdZ [(q1d,g0)] z24 q2a Tryz.f64 qcw:=fun cd h=>by injection h with h;subst h;kernel_rfl
theorem z4g(h0:FOk q1d g0)(h:HgZ qcw q2a [(q1d,g0)] g):FOk q2a g:=yd (qz9 g0) (.cons h0 .nil) rfl rfl qx7 (by decide) h
def jk:Ct:=⟨29,[.val (.str),.val (.row 54)],[(.st 53,false)],[],none,[],[]⟩
theorem qld:EnZ jk:=fun _ _=>by kernel_rfl
def qrk:Ann:=⟨[0,1,4,7],[]⟩
def q7z:Tree:=(.br (.eq (.len (.tok 1)) (.lit (.i 0))) (.need [(.ok 0 [(.tok 0)])] (.leaf [(.call 0 0 [(.tok 0)])])) (.need [(.ok 1 [(.set (.set (.set (.lit (.a [(.i 0),(.i 0),(.s ⟨#[]⟩),(.r [])])) 0 (.lit (.i 3))) 2 (.tok 0)) 3 (.tok 1))])] (.leaf [(.call 1 0 [(.set (.set (.set (.lit (.a [(.i 0),(.i 0),(.s ⟨#[]⟩),(.r [])])) 0 (.lit (.i 3))) 2 (.tok 0)) 3 (.tok 1))])])))
theorem qoj(g0 g1:GfZ):CdZ [(yf,g0),(yo,g1)] qrk jk Tryz.f29 q7z:=fun cd h=>by injection h with h;subst h;kernel_rfl
theorem qqr(h0:FOk yf g0)(h1:FOk yo g1)(h:HgZ q7z jk [(yf,g0),(yo,g1)] g):FOk jk g:=yd (qoj g0 g1) (.cons h0 (.cons h1 .nil)) rfl rfl qld (by decide) h
def q0x:Ct:=⟨83,[.val (.row 54),.val (.st 53)],[(.st 53,false)],[],none,[],[]⟩
theorem qr8:EnZ q0x:=fun _ _=>by kernel_rfl
def qy2:Ann:=⟨[0,1,3,4,5,7,8,9,17,21,22,23,24,38,47],[(5,⟨[(5,.int .i64,false),(23,.int .i64,false)],[4],[24,25,26,7,27,28,29,30,31,32,33,34,35,36,37,38,39,40],[]⟩),
 (13,⟨[(9,.int .i64,false)],[8],[46,47,50,51,52,53,54,55,56,57,48,49],[]⟩)]⟩
def q79:Tree:=
 let b:X:=.lit (.a [(.i 0),(.i 0),(.s ⟨#[]⟩),(.r [])])
 let c:X:=.len (.tok 0)
 let d:X:=.lit (.i 1)
 let e:X:=.tok 3
 let g:X:=.lit (.i 2000)
 let h:X:=.tok 5
 let i:X:=.lit (.i 0)
 let j:X:=.tok 1
 let k:X:=.get (.tok 0) e
 let a:X:=.add d (.call 1 0 [k])
 let f:X:=.add (.tok 2) a
 (.need [(.imp (.not (.lt g c)) (.ok 0 [j]))] (.br (.or (.lt g c) (.not (.call 0 0 [j]))) (.leaf [b]) (.need [(.ok 1 [j])] (.loop 5 2 [(.call 1 0 [j]),i,b] (.br (.lt e c) (.need [(.le i e),(.lt e c)] (.need [(.ok 1 [k]),(.rng .i64 a),(.rng .i64 f)] (.need [(.imp (.not (.lt g f)) (.ok 2 [k]))] (.br (.or (.lt g f) (.not (.call 2 0 [k]))) (.leaf [b]) (.need [(.rng .i64 (.add e d))] (.back 5 [f,(.add e d),(.tok 4)])))))) (.need [(.ok 3 [j])] (.need [(.rng .i64 (.sub c d))] (.loop 13 5 [(.sub c d),(.call 3 0 [j])] (.br (.le i h) (.need [(.ok 3 [(.get (.tok 0) h)]),(.le i h),(.lt h c)] (.need [(.rng .i64 (.sub h d))] (.back 13 [(.sub h d),(.set (.set (.set b 0 (.lit (.i 3))) 2 (.lit (.s ⟨#[46]⟩))) 3 (.row [(.call 3 0 [(.get (.tok 0) h)]),(.tok 6)]))]))) (.leaf [(.tok 6)]))))))))))
theorem qtd(g0 g1 g2 g3:GfZ):CdZ [(yz,g0),(q09,g1),(yg,g2),(yo,g3)] qy2 q0x Tryz.f83 q79:=fun cd h=>by injection h with h;subst h;kernel_rfl
variable{g3:GfZ}
theorem qib(h0:FOk yz g0)(h1:FOk q09 g1)(h2:FOk yg g2)(h3:FOk yo g3)(h:HgZ q79 q0x [(yz,g0),(q09,g1),(yg,g2),(yo,g3)] g):FOk q0x g:=yd (qtd g0 g1 g2 g3) (.cons h0 (.cons h1 (.cons h2 (.cons h3 .nil)))) rfl rfl qr8 (by decide) h
def ym:Ct:=⟨119,[.rref (.st 26),.val (.st 86)],[(.int .i64,false)],[],none,[],[]⟩
theorem qm9:EnZ ym:=fun _ _=>by kernel_rfl
def qwz:Ann:=⟨[0,1,3,4,5,10,11,12,22],[(2,⟨[(4,.int .i64,false),(11,.int .i64,false)],[],[12,13,5,14,15,16,17,18,19,20,21,22,23,24],[]⟩)]⟩
def q9j:Tree:=(.loop 2 2 [(.lit (.i 0)),(.lit (.i 0))] (.br (.lt (.tok 3) (.len (.fld (.tok 0) 1))) (.need [(.le (.lit (.i 0)) (.tok 3)),(.lt (.tok 3) (.len (.fld (.tok 0) 1)))] (.br (.eq (.get (.fld (.tok 0) 1) (.tok 3)) (.tok 1)) (.leaf [(.tok 3)]) (.need [(.rng .i64 (.add (.tok 3) (.lit (.i 1))))] (.back 2 [(.tok 2),(.add (.tok 3) (.lit (.i 1)))])))) (.leaf [(.lit (.i (-1)))])))
theorem qqo:CdZ [] qwz ym Tryz.f119 q9j:=fun cd h=>by injection h with h;subst h;kernel_rfl
theorem qtl(h:HgZ q9j ym [] g):FOk ym g:=yd (qqo) .nil rfl rfl qm9 (by decide) h
def zi:Ct:=⟨103,[.ref (.st 26) true,.val (.str),.val (.int .i64)],[(.int .i64,false),(.int .i64,false)],[],none,[],[(0,0,.st 28),(0,1,.st 86),(0,2,.st 70),(0,3,.st 72)]⟩
theorem q2j:EnZ zi:=fun _ _=>by kernel_rfl
def qda:Ann:=⟨[0,1,2,6,7,8,9,24,32,39],[]⟩
def q7c:Tree:=(.br (.or (.or (.lt (.lit (.i 100)) (.slen (.tok 1))) (.lt (.tok 2) (.lit (.i 0)))) (.lt (.lit (.i 8)) (.tok 2))) (.leaf [(.lit (.i 0)),(.lit (.i 1)),(.tok 0)]) (.need [(.ok 4 [(.tok 0),(.mk [(.tok 1),(.tok 2)])])] (.br (.le (.lit (.i 0)) (.call 4 0 [(.tok 0),(.mk [(.tok 1),(.tok 2)])])) (.leaf [(.call 4 0 [(.tok 0),(.mk [(.tok 1),(.tok 2)])]),(.lit (.i 0)),(.tok 0)]) (.br (.le (.lit (.i 1048576)) (.len (.fld (.tok 0) 1))) (.leaf [(.lit (.i 0)),(.lit (.i 13)),(.tok 0)]) (.need [(.le (.add (.len (.fld (.tok 0) 1)) (.lit (.i 1))) (.lit (.i 5864062014634))),(.le (.call 1 0 []) (.len (.fld (.tok 0) 1)))] (.need [(.rng .i64 (.sub (.len (.fld (.set (.tok 0) 1 (.app (.fld (.tok 0) 1) (.row [(.mk [(.tok 1),(.tok 2)])]))) 1)) (.lit (.i 1))))] (.leaf [(.sub (.len (.fld (.set (.tok 0) 1 (.app (.fld (.tok 0) 1) (.row [(.mk [(.tok 1),(.tok 2)])]))) 1)) (.lit (.i 1))),(.lit (.i 0)),(.set (.tok 0) 1 (.app (.fld (.tok 0) 1) (.row [(.mk [(.tok 1),(.tok 2)])])))])))))))
theorem qjz(m0 m1 m2 m3:Int)(g0:GfZ):CdZ [(jz zi.f (.st 28),fun _=>some [.i m0]),(jz zi.f (.st 86),fun _=>some [.i m1]),(jz zi.f (.st 70),fun _=>some [.i m2]),(jz zi.f (.st 72),fun _=>some [.i m3]),(ym,g0)] qda zi kB q7c:=fun cd h=>by injection h with h;subst h;kernel_rfl
theorem qoh{g0:List D→Option (List D)}{g:List D→Option (List D)}(h0:FOk ym g0)(h:∀ds outs,WfA zi.ars ds→g ds=some outs→q7c.go (qe [(jz zi.f (.st 28),fun _=>some [.i (((ds.getD 0 .u).fld 0).rs.length:Nat)]),(jz zi.f (.st 86),fun _=>some [.i (((ds.getD 0 .u).fld 1).rs.length:Nat)]),(jz zi.f (.st 70),fun _=>some [.i (((ds.getD 0 .u).fld 2).rs.length:Nat)]),(jz zi.f (.st 72),fun _=>some [.i (((ds.getD 0 .u).fld 3).rs.length:Nat)]),(ym,g0)]) (fun o=>o=outs) ds fun _ _=>False):FOk zi g:=
 FOk.of_at q2j fun ds outs hw hg=>z3s qda kB _ (.cons (q1x _ q2j _ _) (.cons (q1x _ q2j _ _) (.cons (q1x _ q2j _ _) (.cons (q1x _ q2j _ _) (.cons h0 .nil))))) rfl rfl (by decide) (by rw[qjz _ _ _ _ g0 _ rfl];exact h ds outs hw hg) rfl (FlF.of fun k j te hm=>by
  rw[show zi.fl=[(0,0,.st 28),(0,1,.st 86),(0,2,.st 70),(0,3,.st 72)] from rfl] at hm
  simp only[gnM] at hm
  rcases hm with⟨rfl,rfl,rfl⟩|⟨rfl,rfl,rfl⟩|⟨rfl,rfl,rfl⟩|⟨rfl,rfl,rfl⟩<;>exact⟨by decide,uE _⟩)
def jh:Ct:=⟨92,[.val (.int .i64)],[(.bool,false)],[],none,[],[]⟩
theorem qey:EnZ jh:=fun _ _=>by kernel_rfl
def qhs:Ann:=⟨[0,2],[]⟩
def q4h:Tree:=(.leaf [(.not (.eq (.tok 0) (.tok 0)))])
theorem qfq:CdZ [] qhs jh Tryz.f92 q4h:=fun cd h=>by injection h with h;subst h;kernel_rfl
theorem qhk(h:HgZ q4h jh [] g):FOk jh g:=yd (qfq) .nil rfl rfl qey (by decide) h
def zj:Ct:=⟨57,[.val (.int .i64),.val (.int .i64)],[(.int .i64,false)],[],none,[],[]⟩
theorem qd8:EnZ zj:=fun _ _=>by kernel_rfl
def qet:Ann:=⟨[0,1,4,5,6,11,12,13,16,19],[]⟩
def q3n:Tree:=(.need [(.ok 0 [(.tok 0)])] (.need [(.ok 0 [(.tok 1)])] (.br (.call 0 0 [(.tok 0)]) (.br (.call 0 0 [(.tok 1)]) (.leaf [(.lit (.i 0))]) (.leaf [(.lit (.i (-1)))])) (.br (.call 0 0 [(.tok 1)]) (.leaf [(.lit (.i 1))]) (.br (.lt (.tok 0) (.tok 1)) (.leaf [(.lit (.i (-1)))]) (.br (.lt (.tok 1) (.tok 0)) (.leaf [(.lit (.i 1))]) (.leaf [(.lit (.i 0))])))))))
theorem qdu(g0:GfZ):CdZ [(jh,g0)] qet zj Tryz.f57 q3n:=fun cd h=>by injection h with h;subst h;kernel_rfl
theorem qev(h0:FOk jh g0)(h:HgZ q3n zj [(jh,g0)] g):FOk zj g:=yd (qdu g0) (.cons h0 .nil) rfl rfl qd8 (by decide) h
def q18:Ct:=⟨105,[.val (.st 101),.val (.int .i64)],[(.int .i64,false)],[],none,[],[]⟩
theorem qk7:EnZ q18:=fun _ _=>by kernel_rfl
def qq6:Ann:=⟨[0,1,2,4],[]⟩
def q8c:Tree:=(.need [(.ok 0 [(.fld (.tok 0) 0),(.tok 1)])] (.leaf [(.call 0 0 [(.fld (.tok 0) 0),(.tok 1)])]))
theorem qnn(g0:GfZ):CdZ [(zj,g0)] qq6 q18 Tryz.f105 q8c:=fun cd h=>by injection h with h;subst h;kernel_rfl
theorem qqw(h0:FOk zj g0)(h:HgZ q8c q18 [(zj,g0)] g):FOk q18 g:=yd (qnn g0) (.cons h0 .nil) rfl rfl qk7 (by decide) h
def qo:Ct:=⟨104,[.val (.row 102),.val (.int .i64),.fn 105 []],[(.int .i64,false),(.bool,false)],[],none,[],[]⟩
theorem q4v:EnZ qo:=fun _ _=>by kernel_rfl
def q5l:Ann:=⟨[0,1,2,6,7,8,9,10,11,17,31],[(3,⟨[(9,.int .i64,false),(10,.int .i64,false)],[],[15,16,17,18,19,20,21,22,23,11,24,25,26,27,28,29,30,31,32,33,34],[]⟩)]⟩
def q00:Tree:=
 let c:X:=.tok 2
 let d:X:=.lit (.i 0)
 let e:X:=.tok 0
 let a:X:=.fn 8 [(.add c (.tok 3)),(.lit (.i 1))]
 let b:X:=.lt c (.len e)
 (.loop 3 2 [d,(.len e)] (.br (.lt c (.tok 3)) (.need [(.rng .i64 (.add c (.tok 3))),(.rng .u64 (.add c (.tok 3))),(.rng .u64 a),(.rng .i64 a)] (.need [(.le d a),(.lt a (.len e)),(.ok 0 [(.get e a),(.tok 1)])] (.br (.lt (.call 0 0 [(.get e a),(.tok 1)]) d) (.need [(.rng .i64 (.add a (.lit (.i 1))))] (.back 3 [(.add a (.lit (.i 1))),(.tok 3)])) (.back 3 [c,a])))) (.need [(.imp b (.le d c)),(.imp b b),(.imp b (.ok 0 [(.get e c),(.tok 1)]))] (.leaf [c,(.and b (.eq (.call 0 0 [(.get e c),(.tok 1)]) d))]))))
theorem q5d(g0:GfZ):CdZ [(q18,g0)] q5l qo Tryz.f104 q00:=fun cd h=>by injection h with h;subst h;kernel_rfl
theorem q5n(h0:FOk q18 g0)(h:HgZ q00 qo [(q18,g0)] g):FOk qo g:=yd (q5d g0) (.cons h0 .nil) rfl rfl q4v (by decide) h
def q23:Ct:=⟨106,[.val (.st 28)],[(.st 28,false)],[],none,[],[]⟩
theorem qoa:EnZ q23:=fun _ _=>by kernel_rfl
def qvz:Ann:=⟨[0,1,2,5],[]⟩
def q9n:Tree:=(.br (.eq (.fld (.tok 0) 0) (.lit (.i 5))) (.leaf [(.set (.tok 0) 0 (.lit (.i 0)))]) (.leaf [(.tok 0)]))
theorem qq7:CdZ [] qvz q23 Tryz.f106 q9n:=fun cd h=>by injection h with h;subst h;kernel_rfl
theorem qvl(h:HgZ q9n q23 [] g):FOk q23 g:=yd (qq7) .nil rfl rfl qoa (by decide) h
def qh:Ct:=⟨107,[.own (.row 102),.val (.int .i64),.own (.row 102)],[(.row 102,true)],[],none,[],[(999,0,.st 28),(999,1,.st 86),(999,2,.st 70),(999,3,.st 72)]⟩
theorem jf:EnZ qh:=fun _ _=>by kernel_rfl
def q56:Ann:=⟨[0,1,2,6,7,8,9,16,22,31,68],[]⟩
def q4d:Tree:=(.need [(.le (.lit (.i 0)) (.tok 1)),(.le (.tok 1) (.len (.tok 0)))] (.br (.eq (.len (.tok 2)) (.lit (.i 0))) (.leaf [(.tok 0)]) (.br (.eq (.tok 1) (.len (.tok 0))) (.need [(.le (.add (.len (.tok 0)) (.len (.tok 2))) (.lit (.i 5864062014634)))] (.leaf [(.app (.tok 0) (.tok 2))])) (.bad 8004))))
theorem qbt(m0 m1 m2 m3:Int):CdZ [(jz qh.f (.st 28),fun _=>some [.i m0]),(jz qh.f (.st 86),fun _=>some [.i m1]),(jz qh.f (.st 70),fun _=>some [.i m2]),(jz qh.f (.st 72),fun _=>some [.i m3])] q56 qh Tryz.f107 q4d:=fun cd h=>by injection h with h;subst h;kernel_rfl
def z8:Ct:=⟨102,[.val (.st 53),.val (.int .i64),.cell 41 5,.ref (.row 102) true,.cell 132 6],[(.st 28,false)],[(.cell 2,.ref (.st 26) true),(.cell 4,.fn 102 [2,3,4])],none,[],[(3,0,.st 28),(3,1,.st 86),(3,2,.st 70),(3,3,.st 72)]⟩
theorem q1k:EnZ z8:=fun _ _=>by kernel_rfl
def qeg:Ann:=⟨[0,1,2,3,4,5,7,8,10,11,12,13,15,16,17,18,19,21,22,27,38,47,57,110,111,112,113],[(21,⟨[(112,.int .i64,false)],[3,100000],[113,114,115,116,17,16,117,118,119,120,18,121,122,123,124,19,125,126,127,128,129,130,131,132],[]⟩)]⟩
def q2g:Tree:=
 let e:X:=.fld (.tok 0) 3
 let f:X:=.tok 3
 let g:X:=.lit (.i 0)
 let h:X:=.lit (.b .true)
 let j:X:=.fld (.tok 0) 1
 let k:X:=.tok 2
 let l:X:=.call 0 0 []
 let p:X:=.lit (.i 1)
 let q:X:=.tok 4
 let r:X:=.tok 6
 let s:X:=.fld (.tok 0) 2
 let y:X:=.fld (.tok 0) 0
 let z:X:=.lit (.i 8796093021952)
 let d:X:=.call 6 0 [k,j]
 let m:X:=.le (.call 1 0 []) (.len (.fld f 1))
 let n:X:=.le (.call 2 0 []) (.len (.fld f 2))
 let o:X:=.le (.call 3 0 []) (.len (.fld f 3))
 let t:X:=.le l (.len (.fld f 0))
 let v:X:=.len e
 let w:X:=.row [(.mk [j,(.mk [g,(.tok 1)])])]
 let x:X:=.row [(.mk [j,(.call 8 0 [f])])]
 let a:X:=.call 5 2 [f,s,v]
 let c:X:=.set a 0 (.app (.fld a 0) (.row [(.mk [(.lit (.i 4)),(.call 5 0 [f,s,v])])]))
 let u:X:=.len (.fld a 0)
 let b:X:=.add (.add u p) q
 let i:X:=.call 4 2 [(.get e q),b,(.tok 5),r]
 (.br (.eq y p) (.leaf [(.mk [p,j]),k,f]) (.br (.eq y (.lit (.i 2))) (.need [(.ok 5 [f,s,g]),t,m,n,o] (.leaf [(.mk [(.lit (.i 2)),(.call 5 0 [f,s,g])]),k,(.call 5 2 [f,s,g])])) (.br (.eq y g) (.need [(.ok 6 [k,j])] (.br (.call 6 1 [k,j]) (.need [(.le g d),(.lt d (.len k)),(.ok 7 [(.fld (.get k d) 1)])] (.leaf [(.call 7 0 [(.fld (.get k d) 1)]),k,f])) (.br (.lt (.tok 1) g) (.need [(.ok 8 [f]),t,m,n,o] (.need [(.ok 9 [k,d,x]),h,h,h,h] (.leaf [(.call 8 0 [f]),(.call 9 0 [k,d,x]),(.call 8 2 [f])]))) (.need [(.ok 9 [k,d,w]),h,h,h,h] (.leaf [(.mk [g,(.tok 1)]),(.call 9 0 [k,d,w]),f]))))) (.need [(.ok 5 [f,s,v]),t,m,n,o] (.need [(.le (.add u p) z),(.le l u)] (.need [(.le g v),(.le v (.lit (.i 16777216))),(.le (.add (.len (.fld c 0)) v) z),(.le l (.len (.fld c 0)))] (.loop 21 4 [g,k,(.set c 0 (.app (.fld c 0) (.rep v (.lit (.a [(.i 0),(.i 0)])))))] (.br (.lt q v) (.need [(.le g q),(.lt q v)] (.need [(.rng .i64 (.add u p)),(.rng .i64 b)] (.need [(.ok 4 [(.get e q),b,(.tok 5),r]),(.le l (.len (.fld r 0))),(.le (.call 1 0 []) (.len (.fld r 1))),(.le (.call 2 0 []) (.len (.fld r 2))),(.le (.call 3 0 []) (.len (.fld r 3)))] (.need [(.le l b),(.le g b),(.lt b (.len (.fld i 0)))] (.need [(.rng .i64 (.add q p))] (.back 21 [(.add q p),(.call 4 1 [(.get e q),b,(.tok 5),r]),(.set i 0 (.put (.fld i 0) b (.call 4 0 [(.get e q),b,(.tok 5),r])))])))))) (.leaf [(.mk [(.lit (.i 3)),u]),(.tok 5),r])))))))))
theorem qns(m0 m1 m2 m3:Int)(g0 g1 g2 g3 g4 g5:GfZ):CdZ [(jz z8.f (.st 28),fun _=>some [.i m0]),(jz z8.f (.st 86),fun _=>some [.i m1]),(jz z8.f (.st 70),fun _=>some [.i m2]),(jz z8.f (.st 72),fun _=>some [.i m3]),(z8,g0),(zi,g1),(qo,g2),(q23,g3),(z4,g4),(qh,g5)] qeg z8 kC q2g:=fun cd h=>by injection h with h;subst h;kernel_rfl
theorem qpv{g0 g1 g2 g3 g4 g5:List D→Option (List D)}{g:List D→Option (List D)}(h0:FOk z8 g0)(h1:FOk zi g1)(h2:FOk qo g2)(h3:FOk q23 g3)(h4:FOk z4 g4)(h5:FOk qh g5)(h:∀ds outs,WfA z8.ars ds→g ds=some outs→q2g.go (qe [(jz z8.f (.st 28),fun _=>some [.i (((ds.getD 3 .u).fld 0).rs.length:Nat)]),(jz z8.f (.st 86),fun _=>some [.i (((ds.getD 3 .u).fld 1).rs.length:Nat)]),(jz z8.f (.st 70),fun _=>some [.i (((ds.getD 3 .u).fld 2).rs.length:Nat)]),(jz z8.f (.st 72),fun _=>some [.i (((ds.getD 3 .u).fld 3).rs.length:Nat)]),(z8,g0),(zi,g1),(qo,g2),(q23,g3),(z4,g4),(qh,g5)]) (fun o=>o=outs) ds fun _ _=>False):FOk z8 g:=
 FOk.of_at q1k fun ds outs hw hg=>z3s qeg kC _ (.cons (q1x _ q1k _ _) (.cons (q1x _ q1k _ _) (.cons (q1x _ q1k _ _) (.cons (q1x _ q1k _ _) (.cons h0 (.cons h1 (.cons h2 (.cons h3 (.cons h4 (.cons h5 .nil)))))))))) rfl rfl (by decide) (by rw[qns _ _ _ _ g0 g1 g2 g3 g4 g5 _ rfl];exact h ds outs hw hg) rfl (FlF.of fun k j te hm=>by
  rw[show z8.fl=[(3,0,.st 28),(3,1,.st 86),(3,2,.st 70),(3,3,.st 72)] from rfl] at hm
  simp only[gnM] at hm
  rcases hm with⟨rfl,rfl,rfl⟩|⟨rfl,rfl,rfl⟩|⟨rfl,rfl,rfl⟩|⟨rfl,rfl,rfl⟩<;>exact⟨by decide,uE _⟩)
def jl:Ct:=⟨99,[.val (.st 26),.val (.row 102)],[(.bool,false)],[],none,[],[]⟩
theorem qer:EnZ jl:=fun _ _=>by kernel_rfl
def qi6:Ann:=⟨[0,1,2,4,5,6,7,8,9,10,43],[(2,⟨[(4,.bool,false),(9,.int .i64,false)],[],[10,11,12,13,6,5,14,15,16,17,18,19,20,21,22,23,24,25,26,27,28,29,30,31,32,33,34,35,36,37,38,39,40,41,42,43,44],[]⟩)]⟩
def q4f:Tree:=
 let d:X:=.tok 3
 let e:X:=.len (.tok 1)
 let f:X:=.lit (.i 0)
 let a:X:=.and (.not (.or (.lt (.fld (.get (.tok 1) d) 0) f) (.lt (.lit (.i 1099511627776)) (.fld (.get (.tok 1) d) 0)))) (.lt f d)
 let c:X:=.sub d (.lit (.i 1))
 let g:X:=.fld (.get (.tok 1) d) 1
 let b:X:=.or (.or (.lt (.fld (.get (.tok 1) d) 0) f) (.lt (.lit (.i 1099511627776)) (.fld (.get (.tok 1) d) 0))) (.and (.lt f d) (.le (.fld (.get (.tok 1) d) 0) (.fld (.get (.tok 1) c) 0)))
 let h:X:=.rng .i64 c
 (.loop 2 2 [(.lit (.b .false)),f] (.br (.lt d e) (.need [(.le f d),(.lt d e)] (.need [(.imp (.not b) (.ok 0 [(.tok 0),g])),(.imp a (.le f c)),(.imp a (.lt c e)),(.imp a (.le f c)),(.imp a (.lt c e)),(.imp a h),(.imp a h),(.imp a h)] (.br (.or b (.not (.call 0 0 [(.tok 0),g]))) (.leaf [(.lit (.b .false))]) (.need [(.rng .i64 (.add d (.lit (.i 1))))] (.back 2 [(.tok 2),(.add d (.lit (.i 1)))]))))) (.leaf [(.lit (.b .true))])))
theorem qg4(g0:GfZ):CdZ [(qf,g0)] qi6 jl Tryz.f99 q4f:=fun cd h=>by injection h with h;subst h;kernel_rfl
theorem qho(h0:FOk qf g0)(h:HgZ q4f jl [(qf,g0)] g):FOk jl g:=yd (qg4 g0) (.cons h0 .nil) rfl rfl qer (by decide) h
def zr:Ct:=⟨118,[.val (.st 53),.ref (.map 87 4) true,.cell 41 5,.ref (.int .i64) true,.cell 146 6],[],[(.cell 2,.rref (.st 26)),(.cell 4,.fn 118 [1,2,3,4])],none,[],[]⟩
theorem qbp:EnZ zr:=fun _ _=>by kernel_rfl
def qnd:Ann:=⟨[0,1,2,3,4,5,6,8,16,32,37,45,46,47,48],[(8,⟨[(47,.int .i64,false)],[1,3],[48,49,50,8,51,52,53,54],[]⟩)]⟩
def q7d:Tree:=
 let a:X:=.fld (.tok 0) 3
 let b:X:=.tok 4
 let f:X:=.lit (.i 1)
 let h:X:=.lit (.i 0)
 let k:X:=.eq (.fld (.tok 0) 0) (.lit (.i 3))
 let n:X:=.tok 1
 let s:X:=.tok 5
 let t:X:=.tok 6
 let c:X:=.call 0 0 [(.get a b),s,t,(.tok 3)]
 let d:X:=.call 0 1 [(.get a b),s,t,(.tok 3)]
 let e:X:=.ok 0 [(.get a b),s,t,(.tok 3)]
 let g:X:=.len a
 let o:X:=.add b f
 let r:X:=.le h b
 let i:X:=.mk [(.fld (.tok 0) 2),g]
 let j:X:=.add (.tok 2) (.add g f)
 let l:X:=.rng .i64 o
 let m:X:=.lt b g
 let p:X:=.rng .i64 (.add g f)
 let q:X:=.not (.fn 0 [n,i,(.lit (.b .false))])
 let u:X:=.fn 2 [n,i,(.lit (.b .true))]
 let v:X:=.rng .i64 j
 (.br (.or (.eq (.fld (.tok 0) 0) (.lit (.i 2))) k) (.need [(.imp q (.ok 1 [(.tok 3),i]))] (.br (.and q (.lt (.call 1 0 [(.tok 3),i]) h)) (.br k (.need [p,v] (.loop 8 4 [h,u,j] (.br m (.need [r,m] (.need [e] (.need [l] (.back 8 [o,c,d])))) (.leaf [s,t])))) (.loop 8 4 [h,u,(.tok 2)] (.br m (.need [r,m] (.need [e] (.need [l] (.back 8 [o,c,d])))) (.leaf [s,t])))) (.br k (.need [p,v] (.loop 8 4 [h,n,j] (.br m (.need [r,m] (.need [e] (.need [l] (.back 8 [o,c,d])))) (.leaf [s,t])))) (.loop 8 4 [h,n,(.tok 2)] (.br m (.need [r,m] (.need [e] (.need [l] (.back 8 [o,c,d])))) (.leaf [s,t])))))) (.br k (.need [p,v] (.loop 8 4 [h,n,j] (.br m (.need [r,m] (.need [e] (.need [l] (.back 8 [o,c,d])))) (.leaf [s,t])))) (.loop 8 4 [h,n,(.tok 2)] (.br m (.need [r,m] (.need [e] (.need [l] (.back 8 [o,c,d])))) (.leaf [s,t])))))
theorem qlp(g0 g1:GfZ):CdZ [(zr,g0),(ym,g1)] qnd zr Tryz.f118 q7d:=fun cd h=>by injection h with h;subst h;kernel_rfl
theorem qo2(h0:FOk zr g0)(h1:FOk ym g1)(h:HgZ q7d zr [(zr,g0),(ym,g1)] g):FOk zr g:=yd (qlp g0 g1) (.cons h0 (.cons h1 .nil)) rfl rfl qbp (by decide) h
def q2b:Ct:=⟨100,[.rref (.st 26),.val (.st 53),.val (.row 102)],[(.bool,false)],[],none,[],[]⟩
theorem qny:EnZ q2b:=fun _ _=>by kernel_rfl
def qup:Ann:=⟨[0,1,2,3,4,6,7,9,10,11,14,23],[]⟩
def q9h:Tree:=
 let a:X:=.le (.call 0 1 [(.tok 1),(.lit (.mp [])),(.lit (.i 0)),(.tok 0)]) (.fn 18 [(.fld (.tok 0) 5),(.len (.fld (.tok 0) 0))])
 let b:X:=.fn 3 [(.call 0 0 [(.tok 1),(.lit (.mp [])),(.lit (.i 0)),(.tok 0)])]
 let c:X:=.le (.call 0 1 [(.tok 1),(.lit (.mp [])),(.lit (.i 1)),(.tok 0)]) (.fn 18 [(.fld (.tok 0) 5),(.len (.fld (.tok 0) 0))])
 let d:X:=.fn 3 [(.call 0 0 [(.tok 1),(.lit (.mp [])),(.lit (.i 1)),(.tok 0)])]
 let e:X:=.sub (.lit (.i 1048576)) (.len (.fld (.tok 0) 1))
 let g:X:=.ok 0 [(.tok 1),(.lit (.mp [])),(.lit (.i 0)),(.tok 0)]
 let f:X:=.rng .i64 b
 let h:X:=.rng .i64 d
 let i:X:=.rng .i64 e
 (.br (.eq (.fld (.tok 1) 0) (.lit (.i 0))) (.need [(.ok 1 [(.tok 2),(.fld (.tok 1) 1)])] (.br (.not (.call 1 1 [(.tok 2),(.fld (.tok 1) 1)])) (.need [(.rng .i64 (.lit (.i 1)))] (.need [(.ok 0 [(.tok 1),(.lit (.mp [])),(.lit (.i 1)),(.tok 0)])] (.need [(.imp c h),(.imp c h),(.imp c i),(.imp c h),(.imp c h)] (.leaf [(.and c (.le d e))])))) (.need [g] (.need [(.imp a f),(.imp a f),(.imp a i),(.imp a f),(.imp a f)] (.leaf [(.and a (.le b e))]))))) (.need [g] (.need [(.imp a f),(.imp a f),(.imp a i),(.imp a f),(.imp a f)] (.leaf [(.and a (.le b e))]))))
theorem qqq(g0 g1:GfZ):CdZ [(zr,g0),(qo,g1)] qup q2b Tryz.f100 q9h:=fun cd h=>by injection h with h;subst h;kernel_rfl
theorem qvm(h0:FOk zr g0)(h1:FOk qo g1)(h:HgZ q9h q2b [(zr,g0),(qo,g1)] g):FOk q2b g:=yd (qqq g0 g1) (.cons h0 (.cons h1 .nil)) rfl rfl qny (by decide) h
def yk:Ct:=⟨101,[.val (.row 102)],[(.row 102,true)],[],none,[],[]⟩
theorem qbo:EnZ yk:=fun _ _=>by kernel_rfl
def qcl:Ann:=⟨[0,2,4],[]⟩
def q58:Tree:=(.amb (.tok 0) .false (.leaf [(.lit (.r []))]) (.need [(.le (.add (.lit (.i 0)) (.len (.tok 0))) (.lit (.i 5864062014634)))] (.leaf [(.app (.row []) (.tok 0))])))
theorem qbu:CdZ [] qcl yk Tryz.f101 q58:=fun cd h=>by injection h with h;subst h;kernel_rfl
theorem qcg(h:HgZ q58 yk [] g):FOk yk g:=yd (qbu) .nil rfl rfl qbo (by decide) h
def zy:Ct:=⟨65,[.ref (.st 26) true,.val (.st 53),.val (.row 102)],[(.st 28,false),(.row 102,true),(.int .i64,false)],[],none,[],[(0,0,.st 28),(0,1,.st 86),(0,2,.st 70),(0,3,.st 72)]⟩
theorem q3w:EnZ zy:=fun _ _=>by kernel_rfl
def qij:Ann:=⟨[0,1,2,3,4,6,7,8,9,24,30],[]⟩
def qbf:Tree:=(.need [(.ok 5 [(.tok 1)]),(.imp (.not (.not (.call 5 0 [(.tok 1)]))) (.ok 6 [(.tok 0),(.tok 2)]))] (.br (.or (.not (.call 5 0 [(.tok 1)])) (.not (.call 6 0 [(.tok 0),(.tok 2)]))) (.leaf [(.lit (.a [(.i 0),(.i 0)])),(.lit (.r [])),(.lit (.i 1)),(.tok 0)]) (.need [(.ok 7 [(.tok 0),(.tok 1),(.tok 2)])] (.br (.not (.call 7 0 [(.tok 0),(.tok 1),(.tok 2)])) (.leaf [(.lit (.a [(.i 0),(.i 0)])),(.lit (.r [])),(.lit (.i 13)),(.tok 0)]) (.need [(.ok 8 [(.tok 2)])] (.need [(.ok 4 [(.tok 1),(.lit (.i (-1))),(.call 8 0 [(.tok 2)]),(.tok 0)]),(.le (.call 0 0 []) (.len (.fld (.tok 0) 0))),(.le (.call 1 0 []) (.len (.fld (.tok 0) 1))),(.le (.call 2 0 []) (.len (.fld (.tok 0) 2))),(.le (.call 3 0 []) (.len (.fld (.tok 0) 3)))] (.leaf [(.call 4 0 [(.tok 1),(.lit (.i (-1))),(.call 8 0 [(.tok 2)]),(.tok 0)]),(.call 4 1 [(.tok 1),(.lit (.i (-1))),(.call 8 0 [(.tok 2)]),(.tok 0)]),(.lit (.i 0)),(.call 4 2 [(.tok 1),(.lit (.i (-1))),(.call 8 0 [(.tok 2)]),(.tok 0)])])))))))
theorem qsv(m0 m1 m2 m3:Int)(g0 g1 g2 g3 g4:GfZ):CdZ [(jz zy.f (.st 28),fun _=>some [.i m0]),(jz zy.f (.st 86),fun _=>some [.i m1]),(jz zy.f (.st 70),fun _=>some [.i m2]),(jz zy.f (.st 72),fun _=>some [.i m3]),(z8,g0),(yz,g1),(jl,g2),(q2b,g3),(yk,g4)] qij zy kE qbf:=fun cd h=>by injection h with h;subst h;kernel_rfl
theorem qyu{g0 g1 g2 g3 g4:List D→Option (List D)}{g:List D→Option (List D)}(h0:FOk z8 g0)(h1:FOk yz g1)(h2:FOk jl g2)(h3:FOk q2b g3)(h4:FOk yk g4)(h:∀ds outs,WfA zy.ars ds→g ds=some outs→qbf.go (qe [(jz zy.f (.st 28),fun _=>some [.i (((ds.getD 0 .u).fld 0).rs.length:Nat)]),(jz zy.f (.st 86),fun _=>some [.i (((ds.getD 0 .u).fld 1).rs.length:Nat)]),(jz zy.f (.st 70),fun _=>some [.i (((ds.getD 0 .u).fld 2).rs.length:Nat)]),(jz zy.f (.st 72),fun _=>some [.i (((ds.getD 0 .u).fld 3).rs.length:Nat)]),(z8,g0),(yz,g1),(jl,g2),(q2b,g3),(yk,g4)]) (fun o=>o=outs) ds fun _ _=>False):FOk zy g:=
 FOk.of_at q3w fun ds outs hw hg=>z3s qij kE _ (.cons (q1x _ q3w _ _) (.cons (q1x _ q3w _ _) (.cons (q1x _ q3w _ _) (.cons (q1x _ q3w _ _) (.cons h0 (.cons h1 (.cons h2 (.cons h3 (.cons h4 .nil))))))))) rfl rfl (by decide) (by rw[qsv _ _ _ _ g0 g1 g2 g3 g4 _ rfl];exact h ds outs hw hg) rfl (FlF.of fun k j te hm=>by
  rw[show zy.fl=[(0,0,.st 28),(0,1,.st 86),(0,2,.st 70),(0,3,.st 72)] from rfl] at hm
  simp only[gnM] at hm
  rcases hm with⟨rfl,rfl,rfl⟩|⟨rfl,rfl,rfl⟩|⟨rfl,rfl,rfl⟩|⟨rfl,rfl,rfl⟩<;>exact⟨by decide,uE _⟩)
def q1e:Ct:=⟨76,[.val (.st 65),.rref (.str)],[(.bool,false)],[],none,[],[]⟩
theorem qkn:EnZ q1e:=fun _ _=>by kernel_rfl
def qpm:Ann:=⟨[0,1,2,3],[]⟩
def q83:Tree:=(.leaf [(.eq (.fld (.tok 0) 0) (.tok 1))])
theorem qnb:CdZ [] qpm q1e Tryz.f76 q83:=fun cd h=>by injection h with h;subst h;kernel_rfl
theorem qr2(h:HgZ q83 q1e [] g):FOk q1e g:=yd (qnb) .nil rfl rfl qkn (by decide) h
def ze:Ct:=⟨75,[.val (.row 66),.fn 76 [2]],[(.int .i64,false)],[(.cap 1 0,.rref (.str))],none,[],[]⟩
theorem q6u:EnZ ze:=fun _ _=>by kernel_rfl
def q8g:Ann:=⟨[0,1,4,5,7,8,9,16],[(2,⟨[(4,.int .i64,false),(8,.int .i64,false)],[],[9,10,5,11,12,13,14,15,16,17,18],[]⟩)]⟩
def q0p:Tree:=(.loop 2 2 [(.lit (.i 0)),(.lit (.i 0))] (.br (.lt (.tok 3) (.len (.tok 0))) (.need [(.le (.lit (.i 0)) (.tok 3)),(.lt (.tok 3) (.len (.tok 0))),(.ok 0 [(.get (.tok 0) (.tok 3)),(.tok 1)])] (.br (.call 0 0 [(.get (.tok 0) (.tok 3)),(.tok 1)]) (.leaf [(.tok 3)]) (.need [(.rng .i64 (.add (.tok 3) (.lit (.i 1))))] (.back 2 [(.tok 2),(.add (.tok 3) (.lit (.i 1)))])))) (.leaf [(.lit (.i (-1)))])))
theorem q7l(g0:GfZ):CdZ [(q1e,g0)] q8g ze Tryz.f75 q0p:=fun cd h=>by injection h with h;subst h;kernel_rfl
theorem q8f(h0:FOk q1e g0)(h:HgZ q0p ze [(q1e,g0)] g):FOk ze g:=yd (q7l g0) (.cons h0 .nil) rfl rfl q6u (by decide) h
def zh:Ct:=⟨34,[.val (.row 66),.val (.str)],[(.int .i64,false)],[],none,[],[]⟩
theorem qqp:EnZ zh:=fun _ _=>by kernel_rfl
def qxz:Ann:=⟨[0,1,3,4],[]⟩
def qbj:Tree:=(.need [(.ok 0 [(.tok 0),(.tok 1)])] (.leaf [(.call 0 0 [(.tok 0),(.tok 1)])]))
theorem qua(g0:GfZ):CdZ [(ze,g0)] qxz zh Tryz.f34 qbj:=fun cd h=>by injection h with h;subst h;kernel_rfl
theorem qzh(h0:FOk ze g0)(h:HgZ qbj zh [(ze,g0)] g):FOk zh g:=yd (qua g0) (.cons h0 .nil) rfl rfl qqp (by decide) h
def j7:Ct:=⟨44,[.ref (.st 26) true,.val (.row 66)],[(.st 28,false),(.int .i64,false)],[],none,[],[]⟩
theorem qo4:EnZ j7:=fun _ _=>by kernel_rfl
def qu0:Ann:=⟨[0,1,4,5,6,7,8,9,10,11,12,13],[(4,⟨[(6,.row 54,false),(7,.row 102,false),(12,.int .i64,false)],[],[13,14,15,16,9,8,17,18,19,20,21,22,23,24,25,26,27,28,29,30,31,32,33,34],[]⟩)]⟩
def q61:Tree:=
 let b:X:=.tok 4
 let d:X:=.lit (.i 1)
 let e:X:=.tok 3
 let f:X:=.lit (.s ⟨#[91,93]⟩)
 let h:X:=.lit (.s ⟨#[45]⟩)
 let a:X:=.call 3 0 [(.tok 2),(.call 0 0 [f])]
 let c:X:=.row [(.call 0 0 [(.fld (.get (.tok 1) b) 0)]),(.call 1 0 [b])]
 let g:X:=.lt b (.len (.tok 1))
 (.loop 4 2 [(.lit (.r [])),(.lit (.r [])),(.lit (.i 0))] (.br g (.need [(.le (.lit (.i 0)) b),g] (.need [(.ok 0 [(.fld (.get (.tok 1) b) 0)]),(.ok 1 [b]),(.ok 2 [h,c]),(.le (.add (.len (.tok 2)) d) (.lit (.i 2513169434843)))] (.need [(.le (.add (.len e) d) (.lit (.i 5864062014634)))] (.need [(.rng .i64 (.add b d))] (.back 4 [(.app (.tok 2) (.row [(.call 2 0 [h,c])])),(.app e (.row [(.mk [b,(.fld (.get (.tok 1) b) 1)])])),(.add b d)]))))) (.need [(.ok 0 [f]),(.ok 3 [(.tok 2),(.call 0 0 [f])]),(.ok 4 [(.tok 0),a,e])] (.leaf [(.call 4 0 [(.tok 0),a,e]),(.call 4 2 [(.tok 0),a,e]),(.call 4 3 [(.tok 0),a,e])]))))
theorem qpa(g0 g1 g2 g3 g4:GfZ):CdZ [(yf,g0),(q2a,g1),(jk,g2),(q0x,g3),(zy,g4)] qu0 j7 Tryz.f44 q61:=fun cd h=>by injection h with h;subst h;kernel_rfl
theorem qfi{g4:GfZ}(h0:FOk yf g0)(h1:FOk q2a g1)(h2:FOk jk g2)(h3:FOk q0x g3)(h4:FOk zy g4)(h:HgZ q61 j7 [(yf,g0),(q2a,g1),(jk,g2),(q0x,g3),(zy,g4)] g):FOk j7 g:=yd (qpa g0 g1 g2 g3 g4) (.cons h0 (.cons h1 (.cons h2 (.cons h3 (.cons h4 .nil))))) rfl rfl qo4 (by decide) h
def q19:Ct:=⟨84,[.rref (.st 26),.val (.int .i64)],[(.bool,false)],[],none,[],[]⟩
theorem qtz:EnZ q19:=fun _ _=>by kernel_rfl
def z1r:Ann:=⟨[0,1,4],[]⟩
def qci:Tree:=(.leaf [(.and (.le (.lit (.i 0)) (.tok 1)) (.lt (.tok 1) (.len (.fld (.tok 0) 0))))])
theorem qzg:CdZ [] z1r q19 Tryz.f84 qci:=fun cd h=>by injection h with h;subst h;kernel_rfl
theorem z53(h:HgZ qci q19 [] g):FOk q19 g:=yd (qzg) .nil rfl rfl qtz (by decide) h
def q02:Ct:=⟨85,[.rref (.st 26),.val (.int .i64)],[(.bool,false)],[],none,[],[]⟩
theorem qfk:EnZ q02:=fun _ _=>by kernel_rfl
def qjl:Ann:=⟨[0,1,4,5,14,15,21,23],[]⟩
def q5b:Tree:=
 let a:X:=.sub (.tok 1) (.lit (.i 2))
 let b:X:=.le (.lit (.i 2)) (.tok 1)
 let c:X:=.fld (.get (.fld (.tok 0) 0) (.tok 1)) 0
 let e:X:=.len (.fld (.tok 0) 0)
 let f:X:=.lit (.i 0)
 let g:X:=.lit (.b .false)
 let d:X:=.and b (.eq (.fld (.get (.fld (.tok 0) 0) a) 0) (.lit (.i 5)))
 let h:X:=.rng .i64 a
 (.need [(.le f (.tok 1)),(.lt (.tok 1) e)] (.br (.eq c f) (.leaf [(.eq (.get (.fld (.tok 0) 0) (.tok 1)) (.mk [f,(.tok 1)]))]) (.br (.eq c (.lit (.i 5))) (.leaf [(.lit (.b .true))]) (.br (.eq c (.lit (.i 1))) (.br (.eq c (.lit (.i 1))) (.need [(.imp b h),(.imp b (.le f a)),(.imp b (.lt a e))] (.leaf [d])) (.leaf [g])) (.br (.eq c (.lit (.i 2))) (.br (.eq c (.lit (.i 2))) (.need [(.imp b h),(.imp b (.le f a)),(.imp b (.lt a e))] (.leaf [d])) (.leaf [g])) (.br (.eq c (.lit (.i 3))) (.need [(.imp b h),(.imp b (.le f a)),(.imp b (.lt a e))] (.leaf [d])) (.leaf [g])))))))
theorem qhg:CdZ [] qjl q02 Tryz.f85 q5b:=fun cd h=>by injection h with h;subst h;kernel_rfl
theorem qjr(h:HgZ q5b q02 [] g):FOk q02 g:=yd (qhg) .nil rfl rfl qfk (by decide) h
def q25:Ct:=⟨87,[.val (.st 28)],[(.st 28,false)],[],none,[],[]⟩
theorem qnc:EnZ q25:=fun _ _=>by kernel_rfl
def quq:Ann:=⟨[0,1,2,5],[]⟩
def q9c:Tree:=(.br (.eq (.fld (.tok 0) 0) (.lit (.i 5))) (.leaf [(.set (.tok 0) 0 (.lit (.i 0)))]) (.leaf [(.tok 0)]))
theorem qrb:CdZ [] quq q25 Tryz.f87 q9c:=fun cd h=>by injection h with h;subst h;kernel_rfl
theorem qva(h:HgZ q9c q25 [] g):FOk q25 g:=yd (qrb) .nil rfl rfl qnc (by decide) h
def q1c:Ct:=⟨86,[.rref (.st 26),.val (.st 28),.val (.int .i64)],[(.bool,false)],[],none,[],[]⟩
theorem qkx:EnZ q1c:=fun _ _=>by kernel_rfl
def qqj:Ann:=⟨[0,1,2,4,6,7,13,14,15,25,29,40],[(2,⟨[(6,.bool,false),(14,.int .i64,false)],[4],[15,16,17,18,19,20,21,22,23,24,25,26,27,28,29,30,31,32,33,34,35,36,37,7,38,39,40,41,42],[]⟩)]⟩
def q8m:Tree:=(.need [(.rng .i64 (.add (.len (.fld (.tok 0) 0)) (.lit (.i 1))))] (.loop 2 3 [(.lit (.b .false)),(.lit (.i 0)),(.tok 1)] (.br (.lt (.tok 4) (.add (.len (.fld (.tok 0) 0)) (.lit (.i 1)))) (.need [(.imp (.not (.not (.eq (.fld (.tok 5) 0) (.lit (.i 0))))) (.ok 0 [(.tok 0),(.fld (.tok 5) 1)]))] (.br (.or (.not (.eq (.fld (.tok 5) 0) (.lit (.i 0)))) (.not (.call 0 0 [(.tok 0),(.fld (.tok 5) 1)]))) (.leaf [(.lit (.b .false))]) (.br (.eq (.fld (.tok 5) 1) (.tok 2)) (.leaf [(.lit (.b .true))]) (.need [(.le (.lit (.i 0)) (.fld (.tok 5) 1)),(.lt (.fld (.tok 5) 1) (.len (.fld (.tok 0) 0)))] (.br (.eq (.get (.fld (.tok 0) 0) (.fld (.tok 5) 1)) (.tok 5)) (.leaf [(.lit (.b .false))]) (.need [(.rng .i64 (.add (.tok 4) (.lit (.i 1))))] (.back 2 [(.tok 3),(.add (.tok 4) (.lit (.i 1))),(.get (.fld (.tok 0) 0) (.fld (.tok 5) 1))]))))))) (.leaf [(.lit (.b .false))]))))
theorem qng(g0:GfZ):CdZ [(q19,g0)] qqj q1c Tryz.f86 q8m:=fun cd h=>by injection h with h;subst h;kernel_rfl
theorem qqn(h0:FOk q19 g0)(h:HgZ q8m q1c [(q19,g0)] g):FOk q1c g:=yd (qng g0) (.cons h0 .nil) rfl rfl qkx (by decide) h
def zs:Ct:=⟨45,[.ref (.st 26) true,.val (.int .i64),.val (.st 28)],[(.int .i64,false)],[],none,[],[]⟩
theorem qr1:EnZ zs:=fun _ _=>by kernel_rfl
def qxx:Ann:=⟨[0,1,2,5,6,35],[]⟩
def qaz:Tree:=
 let c:X:=.tok 0
 let d:X:=.tok 1
 let e:X:=.tok 2
 let h:X:=.lit (.i 0)
 let b:X:=.set c 2 (.app (.fld c 2) (.row [(.mk [d,(.get (.fld c 0) d)])]))
 let f:X:=.call 3 0 [e]
 let g:X:=.not (.call 0 0 [c,d])
 let a:X:=.or (.or g (.not (.call 1 0 [c,e]))) (.not (.call 2 0 [c,d]))
 (.need [(.imp (.not a) (.ok 4 [c,f,d])),(.imp (.not a) (.ok 3 [e])),(.imp (.not a) (.ok 3 [e])),(.imp (.not (.or g (.not (.call 1 0 [c,e])))) (.ok 2 [c,d])),(.imp (.not g) (.ok 1 [c,e])),(.ok 0 [c,d])] (.br (.or a (.call 4 0 [c,f,d])) (.leaf [(.lit (.i 1)),c]) (.need [(.le h d),(.lt d (.len (.fld c 0))),(.le (.add (.len (.fld c 2)) (.lit (.i 1))) (.lit (.i 5864062014634)))] (.need [(.ok 3 [e]),(.le h d),(.lt d (.len (.fld b 0)))] (.leaf [h,(.set b 0 (.put (.fld b 0) d f))])))))
theorem qx5(g0 g1 g2 g3 g4:GfZ):CdZ [(q19,g0),(qf,g1),(q02,g2),(q25,g3),(q1c,g4)] qxx zs Tryz.f45 qaz:=fun cd h=>by injection h with h;subst h;kernel_rfl
theorem qyy{g4:GfZ}(h0:FOk q19 g0)(h1:FOk qf g1)(h2:FOk q02 g2)(h3:FOk q25 g3)(h4:FOk q1c g4)(h:HgZ qaz zs [(q19,g0),(qf,g1),(q02,g2),(q25,g3),(q1c,g4)] g):FOk zs g:=yd (qx5 g0 g1 g2 g3 g4) (.cons h0 (.cons h1 (.cons h2 (.cons h3 (.cons h4 .nil))))) rfl rfl qr1 (by decide) h
def q14:Ct:=⟨91,[.val (.st 28)],[(.st 28,false)],[],none,[],[]⟩
theorem qr6:EnZ q14:=fun _ _=>by kernel_rfl
def qys:Ann:=⟨[0,1,2,5],[]⟩
def qaw:Tree:=(.br (.eq (.fld (.tok 0) 0) (.lit (.i 5))) (.leaf [(.set (.tok 0) 0 (.lit (.i 0)))]) (.leaf [(.tok 0)]))
theorem qug:CdZ [] qys q14 Tryz.f91 qaw:=fun cd h=>by injection h with h;subst h;kernel_rfl
theorem qyl(h:HgZ qaw q14 [] g):FOk q14 g:=yd (qug) .nil rfl rfl qr6 (by decide) h
def q0w:Ct:=⟨54,[.ref (.st 26) true,.val (.st 28),.val (.st 28)],[(.int .i64,false)],[],none,[],[]⟩
theorem qpn:EnZ q0w:=fun _ _=>by kernel_rfl
def qya:Ann:=⟨[0,1,2,4,5,6,7,8,37],[]⟩
def q70:Tree:=(.need [(.ok 0 [(.tok 2)]),(.ok 0 [(.tok 2)]),(.le (.lit (.i 0)) (.add (.fld (.tok 1) 1) (.lit (.i 2)))),(.lt (.add (.fld (.tok 1) 1) (.lit (.i 2))) (.len (.fld (.tok 0) 0))),(.rng .i64 (.add (.fld (.tok 1) 1) (.lit (.i 2)))),(.le (.lit (.i 0)) (.add (.fld (.tok 1) 1) (.lit (.i 1)))),(.lt (.add (.fld (.tok 1) 1) (.lit (.i 1))) (.len (.fld (.tok 0) 0))),(.rng .i64 (.add (.fld (.tok 1) 1) (.lit (.i 1))))] (.need [(.ok 1 [(.tok 0),(.fld (.tok 1) 1),(.tok 2)])] (.br (.not (.eq (.call 1 0 [(.tok 0),(.fld (.tok 1) 1),(.tok 2)]) (.lit (.i 0)))) (.leaf [(.call 1 0 [(.tok 0),(.fld (.tok 1) 1),(.tok 2)]),(.call 1 1 [(.tok 0),(.fld (.tok 1) 1),(.tok 2)])]) (.need [(.le (.add (.len (.fld (.call 1 1 [(.tok 0),(.fld (.tok 1) 1),(.tok 2)]) 3)) (.lit (.i 1))) (.lit (.i 3518437208780)))] (.leaf [(.lit (.i 0)),(.set (.call 1 1 [(.tok 0),(.fld (.tok 1) 1),(.tok 2)]) 3 (.app (.fld (.call 1 1 [(.tok 0),(.fld (.tok 1) 1),(.tok 2)]) 3) (.row [(.mk [(.fld (.get (.fld (.tok 0) 0) (.add (.fld (.tok 1) 1) (.lit (.i 1)))) 1),(.get (.fld (.tok 0) 0) (.add (.fld (.tok 1) 1) (.lit (.i 2)))),(.call 0 0 [(.tok 2)])])])))])))))
theorem qvn(g0 g1:GfZ):CdZ [(q14,g0),(zs,g1)] qya q0w Tryz.f54 q70:=fun cd h=>by injection h with h;subst h;kernel_rfl
theorem qin(h0:FOk q14 g0)(h1:FOk zs g1)(h:HgZ q70 q0w [(q14,g0),(zs,g1)] g):FOk q0w g:=yd (qvn g0 g1) (.cons h0 (.cons h1 .nil)) rfl rfl qpn (by decide) h
def q17:Ct:=⟨56,[.val (.row 3)],[(.int .i64,false)],[],none,[],[]⟩
theorem qnx:EnZ q17:=fun _ _=>by kernel_rfl
def qxb:Ann:=⟨[0,2,3,5,6,7,8,9,14],[(3,⟨[(2,.int .i64,false),(8,.int .i64,false)],[],[9,10,11,5,12,13,14,15,16],[]⟩)]⟩
def q9v:Tree:=(.loop 3 1 [(.lit (.i 0)),(.lit (.i 0))] (.br (.lt (.tok 2) (.len (.tok 0))) (.need [(.le (.lit (.i 0)) (.tok 2)),(.lt (.tok 2) (.len (.tok 0)))] (.br (.not (.eq (.get (.tok 0) (.tok 2)) (.lit (.i 0)))) (.leaf [(.get (.tok 0) (.tok 2))]) (.need [(.rng .i64 (.add (.tok 2) (.lit (.i 1))))] (.back 3 [(.tok 1),(.add (.tok 2) (.lit (.i 1)))])))) (.leaf [(.lit (.i 0))])))
theorem qrg:CdZ [] qxb q17 Tryz.f56 q9v:=fun cd h=>by injection h with h;subst h;kernel_rfl
theorem qvr(h:HgZ q9v q17 [] g):FOk q17 g:=yd (qrg) .nil rfl rfl qnx (by decide) h
def q4t:Ct:=⟨21,[.ref (.st 26) true,.val (.st 28),.val (.st 28)],[(.int .i64,false)],[],none,[],[]⟩
theorem qqd:EnZ q4t:=fun _ _=>by kernel_rfl
def qyz:Ann:=⟨[0,1,2,4,5,6,7,8,9,11,34,40,44,53,61,107],[]⟩
def qaq:Tree:=
 let c:X:=.tok 0
 let f:X:=.lit (.i 1)
 let k:X:=.lit (.i 0)
 let a:X:=.call 2 0 [c,(.tok 2)]
 let b:X:=.call 0 0 [c,(.tok 1)]
 let l:X:=.fld c 0
 let d:X:=.fld a 1
 let g:X:=.or (.not (.call 0 1 [c,(.tok 1)])) (.not (.eq (.fld b 0) (.lit (.i 5))))
 let j:X:=.add (.fld b 1) f
 let h:X:=.not (.call 5 0 [c,d])
 let i:X:=.add d (.lit (.i 2))
 let m:X:=.add d f
 let e:X:=.row [(.call 6 0 [(.fld (.get l j) 1),(.fld (.get l m) 1)]),(.call 6 0 [(.fld b 1),d])]
 (.need [(.ok 0 [c,(.tok 1)]),(.ok 0 [c,(.tok 1)])] (.need [(.imp (.not g) (.ok 1 [c,(.tok 2)]))] (.br (.or g (.not (.call 1 0 [c,(.tok 2)]))) (.leaf [f,c]) (.need [(.ok 2 [c,(.tok 2)]),(.ok 2 [c,(.tok 2)])] (.br (.eq a b) (.leaf [k,c]) (.br (.eq (.fld a 0) k) (.need [(.ok 3 [c,d,b])] (.leaf [(.call 3 0 [c,d,b]),(.call 3 1 [c,d,b])])) (.br (.not (.eq (.fld a 0) (.lit (.i 5)))) (.need [(.ok 4 [c,b,a])] (.leaf [(.call 4 0 [c,b,a]),(.call 4 1 [c,b,a])])) (.need [(.imp (.not h) (.ok 5 [c,i])),(.imp (.not h) (.rng .i64 i)),(.imp (.not h) (.rng .i64 i)),(.ok 5 [c,d])] (.br (.or h (.not (.call 5 0 [c,i]))) (.leaf [f,c]) (.need [(.ok 7 [e]),(.ok 6 [(.fld b 1),d]),(.ok 6 [(.fld (.get l j) 1),(.fld (.get l m) 1)]),(.le k m),(.lt m (.len l)),(.rng .i64 m),(.le k j),(.lt j (.len l)),(.rng .i64 j)] (.br (.lt k (.call 7 0 [e])) (.need [(.ok 4 [c,b,a])] (.leaf [(.call 4 0 [c,b,a]),(.call 4 1 [c,b,a])])) (.need [(.ok 4 [c,a,b])] (.leaf [(.call 4 0 [c,a,b]),(.call 4 1 [c,a,b])])))))))))))))
theorem qu2(g0 g1 g2 g3 g4 g5 g6 g7:GfZ):CdZ [(qn,g0),(qf,g1),(zm,g2),(zs,g3),(q0w,g4),(q0b,g5),(zj,g6),(q17,g7)] qyz q4t Tryz.f21 qaq:=fun cd h=>by injection h with h;subst h;kernel_rfl
theorem qye{g4 g5 g6 g7:GfZ}(h0:FOk qn g0)(h1:FOk qf g1)(h2:FOk zm g2)(h3:FOk zs g3)(h4:FOk q0w g4)(h5:FOk q0b g5)(h6:FOk zj g6)(h7:FOk q17 g7)(h:HgZ qaq q4t [(qn,g0),(qf,g1),(zm,g2),(zs,g3),(q0w,g4),(q0b,g5),(zj,g6),(q17,g7)] g):FOk q4t g:=yd (qu2 g0 g1 g2 g3 g4 g5 g6 g7) (.cons h0 (.cons h1 (.cons h2 (.cons h3 (.cons h4 (.cons h5 (.cons h6 (.cons h7 .nil)))))))) rfl rfl qqd (by decide) h
def q0g:Ct:=⟨60,[.val (.row 73)],[(.row 73,true)],[],none,[],[]⟩
theorem qd3:EnZ q0g:=fun _ _=>by kernel_rfl
def qes:Ann:=⟨[0,2,4],[]⟩
def q7f:Tree:=(.amb (.tok 0) .false (.leaf [(.lit (.r []))]) (.need [(.le (.add (.lit (.i 0)) (.len (.tok 0))) (.lit (.i 3518437208780)))] (.leaf [(.app (.row []) (.tok 0))])))
theorem qdv:CdZ [] qes q0g Tryz.f60 q7f:=fun cd h=>by injection h with h;subst h;kernel_rfl
theorem qex(h:HgZ q7f q0g [] g):FOk q0g g:=yd (qdv) .nil rfl rfl qd3 (by decide) h
def q24:Ct:=⟨31,[.val (.int .i64)],[(.st 53,false)],[],none,[],[]⟩
theorem qwn:EnZ q24:=fun _ _=>by kernel_rfl
def z32:Ann:=⟨[0,2],[]⟩
def qcv:Tree:=(.leaf [(.set (.set (.lit (.a [(.i 0),(.i 0),(.s ⟨#[]⟩),(.r [])])) 0 (.lit (.i 1))) 1 (.tok 0))])
theorem qy5:CdZ [] z32 q24 Tryz.f31 qcv:=fun cd h=>by injection h with h;subst h;kernel_rfl
theorem z25(h:HgZ qcv q24 [] g):FOk q24 g:=yd (qy5) .nil rfl rfl qwn (by decide) h
def j4:Ct:=⟨69,[.val (.st 28),.ref (.int .i64) true,.rref (.st 26),.cell 106 4],[(.st 53,false)],[(.cell 3,.fn 69 [1,2,3])],none,[],[]⟩
theorem qcc:EnZ j4:=fun _ _=>by kernel_rfl
def qpi:Ann:=⟨[0,1,2,3,4,5,6,7,8,12,17,24,43,99],[(13,⟨[(8,.int .i64,false)],[1,7],[83,84,85,86,87,88,89,90,91,92,93,94,95,96,97,98,99,102,103,104,105,106,107,108,109,110,111,112,113,100,101],[]⟩)]⟩
def q80:Tree:=
 let c:X:=.tok 2
 let f:X:=.lit (.i 0)
 let g:X:=.lit (.a [(.i 0),(.i 0),(.s ⟨#[]⟩),(.r [])])
 let j:X:=.tok 3
 let k:X:=.lit (.i 1)
 let n:X:=.tok 4
 let a:X:=.fld (.call 1 0 [c,(.tok 0)]) 1
 let e:X:=.sub (.tok 1) k
 let h:X:=.fld (.call 1 0 [c,(.tok 0)]) 0
 let l:X:=.fld c 0
 let m:X:=.fld c 1
 let b:X:=.and (.eq h (.lit (.i 3))) (.eq (.call 5 0 [c,a]) (.lit (.i 4)))
 let d:X:=.fld (.get l a) 1
 let i:X:=.add a (.fld (.get m d) 1)
 (.need [(.rng .i64 e)] (.br (.lt e f) (.leaf [g,e]) (.need [(.ok 1 [c,(.tok 0)])] (.br (.eq h k) (.need [(.ok 2 [a])] (.leaf [(.call 2 0 [a]),e])) (.need [(.imp (.eq h (.lit (.i 2))) (.ok 3 [c,a]))] (.br (.and (.eq h (.lit (.i 2))) (.le f (.call 3 0 [c,a]))) (.need [(.le f a),(.lt a (.len m)),(.ok 4 [(.fld (.get m a) 0)])] (.leaf [(.call 4 0 [(.fld (.get m a) 0)]),e])) (.need [(.imp b (.ok 3 [c,d])),(.imp b (.le f a)),(.imp b (.lt a (.len l))),(.imp (.eq h (.lit (.i 3))) (.ok 5 [c,a]))] (.br (.and b (.le f (.call 3 0 [c,d]))) (.need [(.le f d),(.lt d (.len m)),(.le f a),(.lt a (.len l))] (.need [(.rng .i64 (.add a k))] (.loop 13 3 [(.add a k),e,(.set (.set g 0 (.lit (.i 3))) 2 (.fld (.get m d) 0))] (.need [(.rng .i64 i),(.imp (.le j i) (.ok 5 [c,j]))] (.br (.and (.and (.le j i) (.le f (.call 5 0 [c,j]))) (.le f n)) (.need [(.le (.add (.len (.fld (.tok 5) 3)) k) (.lit (.i 2513169434843))),(.ok 0 [(.get l j),n,c]),(.le f j),(.lt j (.len l))] (.need [(.rng .i64 (.add j k))] (.back 13 [(.add j k),(.call 0 1 [(.get l j),n,c]),(.set (.tok 5) 3 (.app (.fld (.tok 5) 3) (.row [(.call 0 0 [(.get l j),n,c])])))]))) (.leaf [(.tok 5),n])))))) (.leaf [(.set (.set g 0 f) 1 a),e])))))))))
theorem qoc(g0 g1 g2 g3 g4 g5:GfZ):CdZ [(j4,g0),(zm,g1),(q24,g2),(jc,g3),(yf,g4),(ja,g5)] qpi j4 Tryz.f69 q80:=fun cd h=>by injection h with h;subst h;kernel_rfl
theorem qpd{g4 g5:GfZ}(h0:FOk j4 g0)(h1:FOk zm g1)(h2:FOk q24 g2)(h3:FOk jc g3)(h4:FOk yf g4)(h5:FOk ja g5)(h:HgZ q80 j4 [(j4,g0),(zm,g1),(q24,g2),(jc,g3),(yf,g4),(ja,g5)] g):FOk j4 g:=yd (qoc g0 g1 g2 g3 g4 g5) (.cons h0 (.cons h1 (.cons h2 (.cons h3 (.cons h4 (.cons h5 .nil)))))) rfl rfl qcc (by decide) h
def q4m:Ct:=⟨27,[.val (.st 26),.val (.st 28)],[(.st 53,false),(.int .i64,false)],[],none,[],[]⟩
theorem qqe:EnZ q4m:=fun _ _=>by kernel_rfl
def qza:Ann:=⟨[0,1,2,3,4,5,6,7,11,18],[]⟩
def qau:Tree:=(.need [(.ok 1 [(.tok 0),(.tok 1)])] (.br (.not (.call 1 0 [(.tok 0),(.tok 1)])) (.leaf [(.lit (.a [(.i 0),(.i 0),(.s ⟨#[]⟩),(.r [])])),(.lit (.i 1))]) (.need [(.ok 0 [(.tok 1),(.lit (.i 2000)),(.tok 0)])] (.br (.lt (.call 0 1 [(.tok 1),(.lit (.i 2000)),(.tok 0)]) (.lit (.i 0))) (.leaf [(.lit (.a [(.i 0),(.i 0),(.s ⟨#[]⟩),(.r [])])),(.lit (.i 2))]) (.leaf [(.call 0 0 [(.tok 1),(.lit (.i 2000)),(.tok 0)]),(.lit (.i 0))])))))
theorem qvi(g0 g1:GfZ):CdZ [(j4,g0),(qf,g1)] qza q4m Tryz.f27 qau:=fun cd h=>by injection h with h;subst h;kernel_rfl
theorem qxk(h0:FOk j4 g0)(h1:FOk qf g1)(h:HgZ qau q4m [(j4,g0),(qf,g1)] g):FOk q4m g:=yd (qvi g0 g1) (.cons h0 (.cons h1 .nil)) rfl rfl qqe (by decide) h
def yv:Ct:=⟨125,[.val (.st 53),.val (.int .i64)],[(.int .i64,false)],[],none,[],[]⟩
theorem q77:EnZ yv:=fun _ _=>by kernel_rfl
def qqa:Ann:=⟨[0,1,2,4,5,6,16],[(3,⟨[(5,.int .i64,false),(6,.int .i64,false)],[],[7,8,9,10,11,12,13,14,15,16,19,20,21,22,23,24,25,26,27,28,29,17,18],[]⟩)]⟩
def q4z:Tree:=(.loop 3 2 [(.lit (.i 1)),(.lit (.i 0))] (.br (.and (.lt (.tok 3) (.len (.fld (.tok 0) 3))) (.lt (.tok 2) (.tok 1))) (.need [(.le (.lit (.i 0)) (.tok 3)),(.lt (.tok 3) (.len (.fld (.tok 0) 3))),(.rng .i64 (.sub (.tok 1) (.tok 2))),(.ok 0 [(.get (.fld (.tok 0) 3) (.tok 3)),(.sub (.tok 1) (.tok 2))]),(.rng .i64 (.add (.tok 2) (.call 0 0 [(.get (.fld (.tok 0) 3) (.tok 3)),(.sub (.tok 1) (.tok 2))])))] (.need [(.rng .i64 (.add (.tok 3) (.lit (.i 1))))] (.back 3 [(.add (.tok 2) (.call 0 0 [(.get (.fld (.tok 0) 3) (.tok 3)),(.sub (.tok 1) (.tok 2))])),(.add (.tok 3) (.lit (.i 1)))]))) (.leaf [(.tok 2)])))
theorem qmm(g0:GfZ):CdZ [(yv,g0)] qqa yv Tryz.f125 q4z:=fun cd h=>by injection h with h;subst h;kernel_rfl
theorem qe9(h0:FOk yv g0)(h:HgZ q4z yv [(yv,g0)] g):FOk yv g:=yd (qmm g0) (.cons h0 .nil) rfl rfl q77 (by decide) h
def q0j:Ct:=⟨110,[.val (.st 53)],[(.int .i64,false)],[],none,[],[]⟩
theorem qo0:EnZ q0j:=fun _ _=>by kernel_rfl
def qth:Ann:=⟨[0,1,2],[]⟩
def q62:Tree:=(.need [(.ok 0 [(.tok 0),(.lit (.i 2001))])] (.leaf [(.call 0 0 [(.tok 0),(.lit (.i 2001))])]))
theorem qpq(g0:GfZ):CdZ [(yv,g0)] qth q0j Tryz.f110 q62:=fun cd h=>by injection h with h;subst h;kernel_rfl
theorem qgo(h0:FOk yv g0)(h:HgZ q62 q0j [(yv,g0)] g):FOk q0j g:=yd (qpq g0) (.cons h0 .nil) rfl rfl qo0 (by decide) h
def q0k:Ct:=⟨126,[.val (.st 53)],[(.bool,false)],[],none,[],[]⟩
theorem qnt:EnZ q0k:=fun _ _=>by kernel_rfl
def qwo:Ann:=⟨[0,1,2,4,5,26,37,54],[]⟩
def q5w:Tree:=(.br (.eq (.fld (.tok 0) 0) (.lit (.i 0))) (.leaf [(.and (.and (.and (.le (.lit (.i 0)) (.fld (.tok 0) 1)) (.le (.fld (.tok 0) 1) (.lit (.i 1099511627776)))) (.eq (.fld (.tok 0) 2) (.lit (.s ⟨#[]⟩)))) (.eq (.len (.fld (.tok 0) 3)) (.lit (.i 0))))]) (.br (.eq (.fld (.tok 0) 0) (.lit (.i 1))) (.leaf [(.and (.eq (.fld (.tok 0) 2) (.lit (.s ⟨#[]⟩))) (.eq (.len (.fld (.tok 0) 3)) (.lit (.i 0))))]) (.br (.eq (.fld (.tok 0) 0) (.lit (.i 2))) (.leaf [(.and (.and (.eq (.fld (.tok 0) 1) (.lit (.i 0))) (.le (.slen (.fld (.tok 0) 2)) (.lit (.i 100)))) (.eq (.len (.fld (.tok 0) 3)) (.lit (.i 0))))]) (.br (.eq (.fld (.tok 0) 0) (.lit (.i 3))) (.leaf [(.and (.and (.and (.eq (.fld (.tok 0) 1) (.lit (.i 0))) (.le (.slen (.fld (.tok 0) 2)) (.lit (.i 100)))) (.le (.lit (.i 1)) (.len (.fld (.tok 0) 3)))) (.le (.len (.fld (.tok 0) 3)) (.lit (.i 8))))]) (.leaf [(.lit (.b .false))])))))
theorem qqh:CdZ [] qwo q0k Tryz.f126 q5w:=fun cd h=>by injection h with h;subst h;kernel_rfl
theorem qfh(h:HgZ q5w q0k [] g):FOk q0k g:=yd (qqh) .nil rfl rfl qnt (by decide) h
def yu:Ct:=⟨111,[.val (.st 53)],[(.bool,false)],[],none,[],[]⟩
theorem q7b:EnZ yu:=fun _ _=>by kernel_rfl
def qq2:Ann:=⟨[0,1,2,3,6,11,20],[(4,⟨[(2,.bool,false),(3,.int .i64,false)],[],[7,8,9,10,11,14,15,16,17,18,19,20,12,13],[]⟩)]⟩
def q4u:Tree:=(.need [(.ok 0 [(.tok 0)])] (.br (.not (.call 0 0 [(.tok 0)])) (.leaf [(.lit (.b .false))]) (.loop 4 1 [(.lit (.b .false)),(.lit (.i 0))] (.br (.lt (.tok 2) (.len (.fld (.tok 0) 3))) (.need [(.le (.lit (.i 0)) (.tok 2)),(.lt (.tok 2) (.len (.fld (.tok 0) 3))),(.ok 1 [(.get (.fld (.tok 0) 3) (.tok 2))])] (.br (.not (.call 1 0 [(.get (.fld (.tok 0) 3) (.tok 2))])) (.leaf [(.lit (.b .false))]) (.need [(.rng .i64 (.add (.tok 2) (.lit (.i 1))))] (.back 4 [(.tok 1),(.add (.tok 2) (.lit (.i 1)))])))) (.leaf [(.lit (.b .true))])))))
theorem qn4(g0 g1:GfZ):CdZ [(q0k,g0),(yu,g1)] qq2 yu Tryz.f111 q4u:=fun cd h=>by injection h with h;subst h;kernel_rfl
theorem qei(h0:FOk q0k g0)(h1:FOk yu g1)(h:HgZ q4u yu [(q0k,g0),(yu,g1)] g):FOk yu g:=yd (qn4 g0 g1) (.cons h0 (.cons h1 .nil)) rfl rfl q7b (by decide) h
def j5:Ct:=⟨72,[.val (.st 53)],[(.bool,false)],[],none,[],[]⟩
theorem qlc:EnZ j5:=fun _ _=>by kernel_rfl
def qpc:Ann:=⟨[0,1,2],[]⟩
def q51:Tree:=(.need [(.ok 0 [(.tok 0)]),(.imp (.le (.call 0 0 [(.tok 0)]) (.lit (.i 2000))) (.ok 1 [(.tok 0)]))] (.leaf [(.and (.le (.call 0 0 [(.tok 0)]) (.lit (.i 2000))) (.call 1 0 [(.tok 0)]))]))
theorem qna(g0 g1:GfZ):CdZ [(q0j,g0),(yu,g1)] qpc j5 Tryz.f72 q51:=fun cd h=>by injection h with h;subst h;kernel_rfl
theorem qed(h0:FOk q0j g0)(h1:FOk yu g1)(h:HgZ q51 j5 [(q0j,g0),(yu,g1)] g):FOk j5 g:=yd (qna g0 g1) (.cons h0 (.cons h1 .nil)) rfl rfl qlc (by decide) h
def zq:Ct:=⟨73,[.val (.st 53),.val (.st 53)],[(.bool,false)],[],none,[],[]⟩
theorem q7p:EnZ zq:=fun _ _=>by kernel_rfl
def qhh:Ann:=⟨[0,1,2,3,4,5,33,38,52],[(4,⟨[(4,.bool,false),(5,.int .i64,false)],[],[34,35,36,37,38,41,42,43,44,45,46,47,48,49,50,51,52,39,40],[]⟩)]⟩
def q4e:Tree:=(.br (.or (.or (.or (.not (.eq (.fld (.tok 0) 0) (.fld (.tok 1) 0))) (.not (.eq (.fld (.tok 0) 1) (.fld (.tok 1) 1)))) (.not (.eq (.fld (.tok 0) 2) (.fld (.tok 1) 2)))) (.not (.eq (.len (.fld (.tok 0) 3)) (.len (.fld (.tok 1) 3))))) (.leaf [(.lit (.b .false))]) (.loop 4 2 [(.lit (.b .false)),(.lit (.i 0))] (.br (.lt (.tok 3) (.len (.fld (.tok 0) 3))) (.need [(.ok 0 [(.get (.fld (.tok 0) 3) (.tok 3)),(.get (.fld (.tok 1) 3) (.tok 3))]),(.le (.lit (.i 0)) (.tok 3)),(.lt (.tok 3) (.len (.fld (.tok 1) 3))),(.le (.lit (.i 0)) (.tok 3)),(.lt (.tok 3) (.len (.fld (.tok 0) 3)))] (.br (.not (.call 0 0 [(.get (.fld (.tok 0) 3) (.tok 3)),(.get (.fld (.tok 1) 3) (.tok 3))])) (.leaf [(.lit (.b .false))]) (.need [(.rng .i64 (.add (.tok 3) (.lit (.i 1))))] (.back 4 [(.tok 2),(.add (.tok 3) (.lit (.i 1)))])))) (.leaf [(.lit (.b .true))]))))
theorem qfw(g0:GfZ):CdZ [(zq,g0)] qhh zq Tryz.f73 q4e:=fun cd h=>by injection h with h;subst h;kernel_rfl
theorem qhl(h0:FOk zq g0)(h:HgZ q4e zq [(zq,g0)] g):FOk zq g:=yd (qfw g0) (.cons h0 .nil) rfl rfl q7p (by decide) h
def q3x:Ct:=⟨28,[.val (.st 53),.val (.st 53)],[(.bool,false)],[],none,[],[]⟩
theorem qn2:EnZ q3x:=fun _ _=>by kernel_rfl
def qsp:Ann:=⟨[0,1,2,3,4],[]⟩
def q9p:Tree:=(.need [(.ok 0 [(.tok 0)]),(.imp (.call 0 0 [(.tok 0)]) (.ok 0 [(.tok 1)])),(.imp (.and (.call 0 0 [(.tok 0)]) (.call 0 0 [(.tok 1)])) (.ok 1 [(.tok 0),(.tok 1)]))] (.leaf [(.and (.and (.call 0 0 [(.tok 0)]) (.call 0 0 [(.tok 1)])) (.call 1 0 [(.tok 0),(.tok 1)]))]))
theorem qpo(g0 g1:GfZ):CdZ [(j5,g0),(zq,g1)] qsp q3x Tryz.f28 q9p:=fun cd h=>by injection h with h;subst h;kernel_rfl
theorem qtk(h0:FOk j5 g0)(h1:FOk zq g1)(h:HgZ q9p q3x [(j5,g0),(zq,g1)] g):FOk q3x g:=yd (qpo g0 g1) (.cons h0 (.cons h1 .nil)) rfl rfl qn2 (by decide) h
def jv:Ct:=⟨35,[.val (.row 87)],[(.bool,false)],[],none,[],[]⟩
theorem qi1:EnZ jv:=fun _ _=>by kernel_rfl
def qk5:Ann:=⟨[0,2,3,4,7,12,46],[(5,⟨[(2,.bool,false),(4,.int .i64,false),(3,.map 87 3,false)],[],[9,10,11,12,15,16,17,18,19,20,21,22,23,24,25,26,27,28,29,30,31,32,33,34,35,36,37,38,39,40,41,42,43,44,45,46,47,48,49,50,51,13,14,8],[]⟩)]⟩
def q66:Tree:=
 let b:X:=.lt (.tok 2) (.len (.tok 0))
 let c:X:=.get (.tok 0) (.tok 2)
 let d:X:=.le (.lit (.i 0)) (.tok 2)
 let g:X:=.lit (.i 1)
 let h:X:=.lit (.b .false)
 let a:X:=.or (.lt (.lit (.i 100)) (.slen (.fld c 0))) (.lt (.fld c 1) (.lit (.i 0)))
 let f:X:=.not (.lt (.lit (.i 100)) (.slen (.fld c 0)))
 let e:X:=.or a (.lt (.lit (.i 8)) (.fld c 1))
 (.br (.lt (.lit (.i 1048576)) (.len (.tok 0))) (.leaf [h]) (.loop 5 1 [h,(.lit (.i 0)),(.lit (.mp []))] (.br b (.need [d,b,(.imp f d),(.imp f b),(.imp (.not a) d),(.imp (.not a) b),(.imp (.not e) d),(.imp (.not e) b)] (.br (.or e (.eq (.fn 0 [(.tok 3),c,(.lit (.i 0))]) g)) (.leaf [h]) (.need [d,b] (.need [(.rng .i64 (.add (.tok 2) g))] (.back 5 [(.tok 1),(.add (.tok 2) g),(.fn 2 [(.tok 3),c,g])]))))) (.leaf [(.lit (.b .true))]))))
theorem qjb:CdZ [] qk5 jv Tryz.f35 q66:=fun cd h=>by injection h with h;subst h;kernel_rfl
theorem qly(h:HgZ q66 jv [] g):FOk jv g:=yd (qjb) .nil rfl rfl qi1 (by decide) h
def jo:Ct:=⟨77,[.val (.st 26),.val (.int .i64)],[(.int .i64,false)],[],none,[],[]⟩
theorem qkr:EnZ jo:=fun _ _=>by kernel_rfl
def qrf:Ann:=⟨[0,1,2,4,13],[]⟩
def q7x:Tree:=(.br (.or (.lt (.tok 1) (.lit (.i 0))) (.le (.len (.fld (.tok 0) 1)) (.tok 1))) (.leaf [(.lit (.i (-1)))]) (.need [(.le (.lit (.i 0)) (.tok 1)),(.lt (.tok 1) (.len (.fld (.tok 0) 1)))] (.leaf [(.fld (.get (.fld (.tok 0) 1) (.tok 1)) 1)])))
theorem qnk:CdZ [] qrf jo Tryz.f77 q7x:=fun cd h=>by injection h with h;subst h;kernel_rfl
theorem qpe(h:HgZ q7x jo [] g):FOk jo g:=yd (qnk) .nil rfl rfl qkr (by decide) h
def z3:Ct:=⟨78,[.val (.st 26),.val (.int .i64)],[(.bool,false)],[],none,[],[]⟩
theorem qj8:EnZ z3:=fun _ _=>by kernel_rfl
def qoi:Ann:=⟨[0,1,2,4],[]⟩
def q6s:Tree:=(.leaf [(.and (.le (.lit (.i 0)) (.tok 1)) (.lt (.tok 1) (.len (.fld (.tok 0) 0))))])
theorem qkj:CdZ [] qoi z3 Tryz.f78 q6s:=fun cd h=>by injection h with h;subst h;kernel_rfl
theorem qme(h:HgZ q6s z3 [] g):FOk z3 g:=yd (qkj) .nil rfl rfl qj8 (by decide) h
def zx:Ct:=⟨79,[.val (.st 26),.val (.int .i64)],[(.int .i64,false)],[],none,[],[]⟩
theorem qpk:EnZ zx:=fun _ _=>by kernel_rfl
def qy3:Ann:=⟨[0,1,2,4,8],[]⟩
def qbc:Tree:=(.need [(.ok 0 [(.tok 0),(.tok 1)])] (.br (.not (.call 0 0 [(.tok 0),(.tok 1)])) (.leaf [(.lit (.i (-1)))]) (.need [(.le (.lit (.i 0)) (.tok 1)),(.lt (.tok 1) (.len (.fld (.tok 0) 0)))] (.leaf [(.fld (.get (.fld (.tok 0) 0) (.tok 1)) 0)]))))
theorem qu5(g0:GfZ):CdZ [(z3,g0)] qy3 zx Tryz.f79 qbc:=fun cd h=>by injection h with h;subst h;kernel_rfl
theorem qxo(h0:FOk z3 g0)(h:HgZ qbc zx [(z3,g0)] g):FOk zx g:=yd (qu5 g0) (.cons h0 .nil) rfl rfl qpk (by decide) h
def qg:Ct:=⟨38,[.val (.st 26),.val (.st 28)],[(.bool,false)],[],none,[],[]⟩
theorem qeu:EnZ qg:=fun _ _=>by kernel_rfl
def qi7:Ann:=⟨[0,1,2,3,4,6,7,20,22,29,36],[]⟩
def q4l:Tree:=(.br (.eq (.fld (.tok 1) 0) (.lit (.i 0))) (.need [(.ok 0 [(.tok 0),(.fld (.tok 1) 1)]),(.imp (.call 0 0 [(.tok 0),(.fld (.tok 1) 1)]) (.ok 1 [(.tok 0),(.fld (.tok 1) 1)]))] (.leaf [(.and (.call 0 0 [(.tok 0),(.fld (.tok 1) 1)]) (.not (.eq (.call 1 0 [(.tok 0),(.fld (.tok 1) 1)]) (.lit (.i 4)))))])) (.br (.eq (.fld (.tok 1) 0) (.lit (.i 1))) (.leaf [(.lit (.b .true))]) (.br (.eq (.fld (.tok 1) 0) (.lit (.i 2))) (.need [(.ok 2 [(.tok 0),(.fld (.tok 1) 1)])] (.leaf [(.eq (.call 2 0 [(.tok 0),(.fld (.tok 1) 1)]) (.lit (.i 0)))])) (.br (.eq (.fld (.tok 1) 0) (.lit (.i 3))) (.need [(.ok 1 [(.tok 0),(.fld (.tok 1) 1)])] (.leaf [(.eq (.call 1 0 [(.tok 0),(.fld (.tok 1) 1)]) (.lit (.i 4)))])) (.br (.eq (.fld (.tok 1) 0) (.lit (.i 5))) (.need [(.ok 1 [(.tok 0),(.fld (.tok 1) 1)])] (.leaf [(.eq (.call 1 0 [(.tok 0),(.fld (.tok 1) 1)]) (.lit (.i 5)))])) (.leaf [(.lit (.b .false))]))))))
theorem qf3(g0 g1 g2:GfZ):CdZ [(z3,g0),(zx,g1),(jo,g2)] qi7 qg Tryz.f38 q4l:=fun cd h=>by injection h with h;subst h;kernel_rfl
theorem qhr(h0:FOk z3 g0)(h1:FOk zx g1)(h2:FOk jo g2)(h:HgZ q4l qg [(z3,g0),(zx,g1),(jo,g2)] g):FOk qg g:=yd (qf3 g0 g1 g2) (.cons h0 (.cons h1 (.cons h2 .nil))) rfl rfl qeu (by decide) h
def q29:Ct:=⟨80,[.val (.st 26),.val (.int .i64)],[(.bool,false)],[],none,[],[]⟩
theorem qog:EnZ q29:=fun _ _=>by kernel_rfl
def qut:Ann:=⟨[0,1,2,4,5,10,26],[(2,⟨[(4,.bool,false),(1,.int .i64,false),(5,.int .i64,false)],[],[6,7,8,9,10,13,14,15,16,17,18,19,20,21,22,23,24,25,26,27,28,29,30,31,32,11,12],[]⟩)]⟩
def q9e:Tree:=(.loop 2 2 [(.lit (.b .false)),(.tok 1),(.lit (.i 0))] (.br (.le (.tok 4) (.len (.fld (.tok 0) 0))) (.need [(.ok 0 [(.tok 0),(.tok 3)]),(.imp (.not (.not (.eq (.call 0 0 [(.tok 0),(.tok 3)]) (.lit (.i 0))))) (.le (.lit (.i 0)) (.tok 3))),(.imp (.not (.not (.eq (.call 0 0 [(.tok 0),(.tok 3)]) (.lit (.i 0))))) (.lt (.tok 3) (.len (.fld (.tok 0) 0))))] (.br (.or (.not (.eq (.call 0 0 [(.tok 0),(.tok 3)]) (.lit (.i 0)))) (.eq (.fld (.get (.fld (.tok 0) 0) (.tok 3)) 1) (.tok 3))) (.leaf [(.lit (.b .true))]) (.need [(.le (.lit (.i 0)) (.tok 3)),(.lt (.tok 3) (.len (.fld (.tok 0) 0)))] (.need [(.rng .i64 (.add (.tok 4) (.lit (.i 1))))] (.back 2 [(.tok 2),(.fld (.get (.fld (.tok 0) 0) (.tok 3)) 1),(.add (.tok 4) (.lit (.i 1)))]))))) (.leaf [(.lit (.b .false))])))
theorem qrm(g0:GfZ):CdZ [(zx,g0)] qut q29 Tryz.f80 q9e:=fun cd h=>by injection h with h;subst h;kernel_rfl
theorem qsj(h0:FOk zx g0)(h:HgZ q9e q29 [(zx,g0)] g):FOk q29 g:=yd (qrm g0) (.cons h0 .nil) rfl rfl qog (by decide) h
def jn:Ct:=⟨81,[.val (.st 26),.val (.int .i64)],[(.bool,false)],[],none,[],[]⟩
theorem ql8:EnZ jn:=fun _ _=>by kernel_rfl
def qrp:Ann:=⟨[0,1,2,4,5],[]⟩
def q89:Tree:=
 let b:X:=.add (.tok 1) (.lit (.i 1))
 let c:X:=.add (.tok 1) (.lit (.i 2))
 let e:X:=.tok 0
 let d:X:=.eq (.call 0 0 [e,b]) (.lit (.i 1))
 let f:X:=.rng .i64 b
 let g:X:=.lt b (.len (.fld e 0))
 let h:X:=.le (.lit (.i 0)) b
 let i:X:=.call 0 0 [e,c]
 let a:X:=.and d (.le (.lit (.i 1)) (.fld (.get (.fld e 0) b) 1))
 (.need [(.rng .i64 c),(.ok 0 [e,c])] (.need [(.imp a h),(.imp a g),(.imp a f),(.imp a h),(.imp a g),(.imp a f),(.imp a f),(.imp a f),(.imp d h),(.imp d g),(.imp d f),(.ok 0 [e,b]),f] (.leaf [(.and (.and (.and (.and a (.le (.fld (.get (.fld e 0) b) 1) (.fld e 4))) (.le (.lit (.i 0)) i)) (.not (.eq i (.lit (.i 4))))) (.not (.eq i (.lit (.i 5)))))])))
theorem qo3(g0:GfZ):CdZ [(zx,g0)] qrp jn Tryz.f81 q89:=fun cd h=>by injection h with h;subst h;kernel_rfl
theorem qpx(h0:FOk zx g0)(h:HgZ q89 jn [(zx,g0)] g):FOk jn g:=yd (qo3 g0) (.cons h0 .nil) rfl rfl ql8 (by decide) h
def q0v:Ct:=⟨36,[.val (.st 26),.val (.int .i64)],[(.bool,false)],[],none,[],[]⟩
theorem qms:EnZ q0v:=fun _ _=>by kernel_rfl
def qvh:Ann:=⟨[0,1,2,4,5,6,7,15,29,32,40,50],[(7,⟨[(4,.bool,false),(7,.int .i64,false)],[],[30,31,32,35,36,37,38,39,40,33,34],[]⟩)]⟩
def q9o:Tree:=
 let c:X:=.tok 1
 let d:X:=.tok 0
 let e:X:=.lit (.i 1)
 let f:X:=.lit (.b .false)
 let h:X:=.tok 3
 let a:X:=.get (.fld d 0) c
 let b:X:=.call 0 0 [d,(.fld a 1)]
 let g:X:=.not (.eq (.fld a 0) (.lit (.i 5)))
 let i:X:=.not (.call 3 0 [d,a])
 (.need [(.le (.lit (.i 0)) c),(.lt c (.len (.fld d 0)))] (.br (.eq (.fld a 0) (.lit (.i 4))) (.need [(.ok 0 [d,(.fld a 1)])] (.need [(.imp (.not (.lt b e)) (.rng .i64 (.add c b))),(.imp (.not (.lt b e)) (.ok 1 [d,(.add c b)]))] (.br (.or (.lt b e) (.not (.call 1 0 [d,(.add c b)]))) (.leaf [f]) (.loop 7 2 [f,e] (.br (.le h b) (.need [(.rng .i64 (.add c h)),(.ok 2 [d,(.add c h)])] (.br (.eq (.call 2 0 [d,(.add c h)]) (.lit (.i 4))) (.leaf [f]) (.need [(.rng .i64 (.add h e))] (.back 7 [(.tok 2),(.add h e)])))) (.leaf [(.lit (.b .true))])))))) (.need [(.ok 3 [d,a]),(.imp (.not i) (.ok 4 [d,c]))] (.br (.or i (.not (.call 4 0 [d,c]))) (.leaf [f]) (.need [(.imp (.and (.not g) (.eq (.fld a 1) c)) (.ok 5 [d,c]))] (.leaf [(.or g (.and (.eq (.fld a 1) c) (.call 5 0 [d,c])))]))))))
theorem qpj(g0 g1 g2 g3 g4 g5:GfZ):CdZ [(jo,g0),(z3,g1),(zx,g2),(qg,g3),(q29,g4),(jn,g5)] qvh q0v Tryz.f36 q9o:=fun cd h=>by injection h with h;subst h;kernel_rfl
theorem qvp{g4 g5:GfZ}(h0:FOk jo g0)(h1:FOk z3 g1)(h2:FOk zx g2)(h3:FOk qg g3)(h4:FOk q29 g4)(h5:FOk jn g5)(h:HgZ q9o q0v [(jo,g0),(z3,g1),(zx,g2),(qg,g3),(q29,g4),(jn,g5)] g):FOk q0v g:=yd (qpj g0 g1 g2 g3 g4 g5) (.cons h0 (.cons h1 (.cons h2 (.cons h3 (.cons h4 (.cons h5 .nil)))))) rfl rfl qms (by decide) h
def q1u:Ct:=⟨37,[.val (.st 26),.val (.st 70)],[(.bool,false)],[],none,[],[]⟩
theorem qr7:EnZ q1u:=fun _ _=>by kernel_rfl
def qyx:Ann:=⟨[0,1,2,3,4,5,11,14,15,22,41],[]⟩
def qbl:Tree:=
 let a:X:=.fld (.tok 1) 1
 let b:X:=.fld (.tok 1) 0
 let d:X:=.tok 0
 let f:X:=.lit (.b .false)
 let g:X:=.lit (.i 1)
 let c:X:=.and (.eq (.fld a 1) b) (.call 1 0 [d,b])
 let e:X:=.fld a 0
 let h:X:=.call 3 0 [d,a]
 let i:X:=.ok 3 [d,a]
 (.need [(.ok 0 [d,b])] (.br (.not (.call 0 0 [d,b])) (.leaf [f]) (.br (.eq e (.lit (.i 0))) (.leaf [(.eq (.fld a 1) b)]) (.br (.eq e (.lit (.i 5))) (.need [(.imp (.eq (.fld a 1) b) (.ok 1 [d,b])),(.imp c (.rng .i64 (.sub b g))),(.imp c (.ok 2 [d,(.sub b g)]))] (.leaf [(.and c (.not (.eq (.call 2 0 [d,(.sub b g)]) (.lit (.i 5)))))])) (.br (.eq e g) (.br (.eq e g) (.need [i] (.leaf [h])) (.leaf [f])) (.br (.eq e (.lit (.i 2))) (.br (.eq e (.lit (.i 2))) (.need [i] (.leaf [h])) (.leaf [f])) (.br (.eq e (.lit (.i 3))) (.need [i] (.leaf [h])) (.leaf [f]))))))))
theorem qx2(g0 g1 g2 g3:GfZ):CdZ [(z3,g0),(jn,g1),(zx,g2),(qg,g3)] qyx q1u Tryz.f37 qbl:=fun cd h=>by injection h with h;subst h;kernel_rfl
theorem qzc(h0:FOk z3 g0)(h1:FOk jn g1)(h2:FOk zx g2)(h3:FOk qg g3)(h:HgZ qbl q1u [(z3,g0),(jn,g1),(zx,g2),(qg,g3)] g):FOk q1u g:=yd (qx2 g0 g1 g2 g3) (.cons h0 (.cons h1 (.cons h2 (.cons h3 .nil)))) rfl rfl qr7 (by decide) h
def q1b:Ct:=⟨11,[.val (.st 26)],[(.bool,false)],[],none,[],[]⟩
theorem qlh:EnZ q1b:=fun _ _=>by kernel_rfl
def qqu:Ann:=⟨[0,1,2,3,4,5,6,33,38,44,49,59,64,95],[(4,⟨[(2,.bool,false),(3,.int .i64,false)],[],[34,35,36,37,38,41,42,43,44,39,40],[]⟩),
 (9,⟨[(2,.bool,false),(4,.int .i64,false)],[],[45,46,47,48,49,52,53,54,55,56,57,58,59,50,51],[]⟩),
 (14,⟨[(2,.bool,false),(5,.int .i64,false)],[],[60,61,62,63,64,67,68,69,70,71,6,72,73,74,75,76,77,78,79,80,81,82,83,84,85,86,87,88,89,90,91,92,93,94,95,65,66],[]⟩)]⟩
def q7u:Tree:=
 let b:X:=.tok 0
 let e:X:=.lit (.b .false)
 let f:X:=.lit (.i 1)
 let g:X:=.lit (.i 0)
 let h:X:=.tok 4
 let k:X:=.tok 2
 let a:X:=.get (.fld b 3) (.tok 6)
 let c:X:=.or (.or (.or (.lt (.fld b 5) f) (.lt (.lit (.i 1048576)) (.fld b 5))) (.lt (.fld b 5) (.len (.fld b 0)))) (.lt (.fld b 4) g)
 let j:X:=.lt (.tok 6) (.len (.fld b 3))
 let l:X:=.fld b 2
 let d:X:=.or (.lt (.fld a 0) f) (.lt (.fld b 4) (.fld a 0))
 let i:X:=.or d (.not (.call 3 0 [b,(.fld a 1)]))
 (.need [(.imp (.not c) (.ok 0 [(.fld b 1)]))] (.br (.or c (.not (.call 0 0 [(.fld b 1)]))) (.leaf [e]) (.loop 4 1 [e,g] (.br (.lt k (.len (.fld b 0))) (.need [(.ok 1 [b,k])] (.br (.not (.call 1 0 [b,k])) (.leaf [e]) (.need [(.rng .i64 (.add k f))] (.back 4 [(.tok 1),(.add k f)])))) (.loop 9 3 [(.tok 1),g] (.br (.lt h (.len l)) (.need [(.ok 2 [b,(.get l h)]),(.le g h),(.lt h (.len l))] (.br (.not (.call 2 0 [b,(.get l h)])) (.leaf [e]) (.need [(.rng .i64 (.add h f))] (.back 9 [(.tok 3),(.add h f)])))) (.loop 14 5 [(.tok 3),g] (.br j (.need [(.le g (.tok 6)),j] (.need [(.imp (.not d) (.ok 3 [b,(.fld a 1)])),(.imp (.not i) (.ok 3 [b,(.fld a 2)]))] (.br (.or i (.not (.call 3 0 [b,(.fld a 2)]))) (.leaf [e]) (.need [(.rng .i64 (.add (.tok 6) f))] (.back 14 [(.tok 5),(.add (.tok 6) f)]))))) (.leaf [(.lit (.b .true))])))))))))
theorem qmp(g0 g1 g2 g3:GfZ):CdZ [(jv,g0),(q0v,g1),(q1u,g2),(qg,g3)] qqu q1b Tryz.f11 q7u:=fun cd h=>by injection h with h;subst h;kernel_rfl
theorem qq4(h0:FOk jv g0)(h1:FOk q0v g1)(h2:FOk q1u g2)(h3:FOk qg g3)(h:HgZ q7u q1b [(jv,g0),(q0v,g1),(q1u,g2),(qg,g3)] g):FOk q1b g:=yd (qmp g0 g1 g2 g3) (.cons h0 (.cons h1 (.cons h2 (.cons h3 .nil)))) rfl rfl qlh (by decide) h
def jj:Ct:=⟨58,[.val (.st 26),.val (.st 28)],[(.st 28,false)],[],none,[],[]⟩
theorem qkv:EnZ jj:=fun _ _=>by kernel_rfl
def qps:Ann:=⟨[0,1,2,3,4,5,9,36],[(4,⟨[(5,.int .i64,false)],[3],[11,12,13,14,15,16,17,18,19,20,21,22,23,24,25,26,27,28,29,30,31,32,33,34,35,36,39,40,41,42,43,44,37,38],[]⟩)]⟩
def q8a:Tree:=
 let b:X:=.fld (.tok 3) 1
 let c:X:=.fld (.tok 0) 0
 let d:X:=.lit (.i 0)
 let f:X:=.add (.tok 2) (.lit (.i 1))
 let a:X:=.and (.and (.le (.tok 2) (.len c)) (.eq (.fld (.tok 3) 0) d)) (.call 1 0 [(.tok 0),b])
 let e:X:=.lt b (.len c)
 (.need [(.ok 0 [(.tok 0),(.tok 1)])] (.br (.not (.call 0 0 [(.tok 0),(.tok 1)])) (.leaf [(.lit (.a [(.i 0),(.i 0)]))]) (.loop 4 2 [d,(.tok 1)] (.need [(.imp a (.le d b)),(.imp a e),(.imp a (.le d b)),(.imp a e),(.imp (.and (.le (.tok 2) (.len c)) (.eq (.fld (.tok 3) 0) d)) (.ok 1 [(.tok 0),b]))] (.br (.and a (.not (.eq (.get c b) (.tok 3)))) (.need [(.le d b),e] (.need [(.rng .i64 f)] (.back 4 [f,(.get c b)]))) (.leaf [(.tok 3)]))))))
theorem qn8(g0 g1:GfZ):CdZ [(qg,g0),(z3,g1)] qps jj Tryz.f58 q8a:=fun cd h=>by injection h with h;subst h;kernel_rfl
theorem qqf(h0:FOk qg g0)(h1:FOk z3 g1)(h:HgZ q8a jj [(qg,g0),(z3,g1)] g):FOk jj g:=yd (qn8 g0 g1) (.cons h0 (.cons h1 .nil)) rfl rfl qkv (by decide) h
def zp:Ct:=⟨47,[.val (.st 26),.val (.st 28)],[(.st 28,false),(.bool,false)],[],none,[],[]⟩
theorem qf7:EnZ zp:=fun _ _=>by kernel_rfl
def qix:Ann:=⟨[0,1,2,3,4,5,6],[]⟩
def q5h:Tree:=(.need [(.ok 0 [(.tok 0),(.tok 1)])] (.need [(.ok 1 [(.tok 0),(.tok 1)])] (.leaf [(.call 0 0 [(.tok 0),(.tok 1)]),(.and (.call 1 0 [(.tok 0),(.tok 1)]) (.or (.eq (.fld (.call 0 0 [(.tok 0),(.tok 1)]) 0) (.lit (.i 0))) (.eq (.fld (.call 0 0 [(.tok 0),(.tok 1)]) 0) (.lit (.i 5)))))])))
theorem qht(g0 g1:GfZ):CdZ [(jj,g0),(qg,g1)] qix zp Tryz.f47 q5h:=fun cd h=>by injection h with h;subst h;kernel_rfl
theorem qj5(h0:FOk jj g0)(h1:FOk qg g1)(h:HgZ q5h zp [(jj,g0),(qg,g1)] g):FOk zp g:=yd (qht g0 g1) (.cons h0 (.cons h1 .nil)) rfl rfl qf7 (by decide) h
def q0c:Ct:=⟨88,[.val (.st 26),.val (.st 28),.val (.str),.val (.int .i64)],[(.bool,false)],[],none,[],[]⟩
theorem qi3:EnZ q0c:=fun _ _=>by kernel_rfl
def qlz:Ann:=⟨[0,1,2,3,4,5,8],[]⟩
def q3p:Tree:=
 let a:X:=.eq (.fld (.tok 1) 0) (.lit (.i 3))
 let b:X:=.fld (.tok 1) 1
 let f:X:=.fld (.tok 0) 1
 let c:X:=.lt b (.len (.fld (.tok 0) 0))
 let d:X:=.fld (.get (.fld (.tok 0) 0) b) 1
 let e:X:=.le (.lit (.i 0)) b
 (.need [(.imp a (.le (.lit (.i 0)) d)),(.imp a (.lt d (.len f))),(.imp a (.le (.lit (.i 0)) d)),(.imp a (.lt d (.len f))),(.imp a e),(.imp a c),(.imp a e),(.imp a c),(.imp a e),(.imp a c),(.imp a e),(.imp a c),(.imp a e),(.imp a c),(.imp a e),(.imp a c),(.imp a e),(.imp a c)] (.leaf [(.and a (.eq (.get f d) (.mk [(.tok 2),(.tok 3)])))]))
theorem qj4:CdZ [] qlz q0c Tryz.f88 q3p:=fun cd h=>by injection h with h;subst h;kernel_rfl
theorem qkg(h:HgZ q3p q0c [] g):FOk q0c g:=yd (qj4) .nil rfl rfl qi3 (by decide) h
def zn:Ct:=⟨40,[.val (.row 9),.val (.str)],[(.int .i64,false)],[],none,[],[]⟩
theorem qga:EnZ zn:=fun _ _=>by kernel_rfl
def qjc:Ann:=⟨[0,1,4,5,9,17],[(2,⟨[(4,.int .i64,false),(5,.int .i64,false)],[],[6,7,8,9,12,13,14,15,16,17,18,10,11],[]⟩)]⟩
def q5j:Tree:=(.loop 2 2 [(.lit (.i 0)),(.lit (.i 0))] (.br (.lt (.tok 3) (.len (.tok 0))) (.need [(.le (.lit (.i 0)) (.tok 3)),(.lt (.tok 3) (.len (.tok 0)))] (.br (.eq (.get (.tok 0) (.tok 3)) (.tok 1)) (.leaf [(.tok 3)]) (.need [(.rng .i64 (.add (.tok 3) (.lit (.i 1))))] (.back 2 [(.tok 2),(.add (.tok 3) (.lit (.i 1)))])))) (.leaf [(.lit (.i (-1)))])))
theorem qi4:CdZ [] qjc zn Tryz.f40 q5j:=fun cd h=>by injection h with h;subst h;kernel_rfl
theorem qjm(h:HgZ q5j zn [] g):FOk zn g:=yd (qi4) .nil rfl rfl qga (by decide) h
def j9:Ct:=⟨89,[.val (.st 28)],[(.st 28,false)],[],none,[],[]⟩
theorem qmv:EnZ j9:=fun _ _=>by kernel_rfl
def qw4:Ann:=⟨[0,1,2,5],[]⟩
def q9i:Tree:=(.br (.eq (.fld (.tok 0) 0) (.lit (.i 5))) (.leaf [(.mk [(.lit (.i 0)),(.fld (.tok 0) 1)])]) (.leaf [(.tok 0)]))
theorem qrl:CdZ [] qw4 j9 Tryz.f89 q9i:=fun cd h=>by injection h with h;subst h;kernel_rfl
theorem qwj(h:HgZ q9i j9 [] g):FOk j9 g:=yd (qrl) .nil rfl rfl qmv (by decide) h
def y8:Ct:=⟨49,[.val (.st 26),.val (.st 28)],[(.row 9,true),(.row 29,true)],[],none,[],[]⟩
theorem qdi:EnZ y8:=fun _ _=>by kernel_rfl
def qgb:Ann:=⟨[0,1,2,3,4,5,6,7,8,9,10,11,19,25,38,50,61],[(5,⟨[(6,.row 9,false),(7,.row 29,false),(8,.int .i64,false)],[3],[15,16,17,18,19,22,23,24,25,26,27,28,29,30,31,32,33,34,9,35,36,37,38,39,40,41,42,43,44,45,46,47,10,48,49,50,51,52,53,54,55,56,57,11,58,59,60,61,62,63,64,65,66,67,68,69,70,71,72,73,74,75,76,77,78,79,80,81,82,83,84,85,86,87,20,21],[]⟩)]⟩
def q3z:Tree:=
 let d:X:=.tok 0
 let e:X:=.lit (.i 1)
 let i:X:=.lit (.i 0)
 let l:X:=.tok 2
 let m:X:=.lit (.i 2)
 let o:X:=.tok 3
 let s:X:=.lit (.i 8796093021952)
 let t:X:=.lit (.s ⟨#[46]⟩)
 let v:X:=.lit (.s ⟨#[45]⟩)
 let c:X:=.add (.fld (.tok 5) 1) m
 let g:X:=.fld d 0
 let h:X:=.add (.fld (.tok 5) 1) e
 let n:X:=.add (.tok 4) e
 let a:X:=.call 0 0 [d,(.get g h)]
 let p:X:=.len g
 let q:X:=.get g c
 let u:X:=.ok 0 [d,(.get g h)]
 let f:X:=.add (.fld a 1) m
 let j:X:=.add (.fld a 1) e
 let b:X:=.call 0 0 [d,(.get g j)]
 let r:X:=.call 0 0 [d,(.get g f)]
 let w:X:=.ok 0 [d,(.get g j)]
 let k:X:=.fld (.get (.fld d 1) (.fld b 1)) 0
 (.need [(.ok 0 [d,(.tok 1)])] (.loop 5 2 [(.lit (.r [])),(.lit (.r [])),i,(.call 0 0 [d,(.tok 1)])] (.br (.lt (.tok 4) p) (.need [(.ok 1 [d,(.tok 5),t,m])] (.br (.not (.call 1 0 [d,(.tok 5),t,m])) (.leaf [l,o]) (.need [u,u,(.le i h),(.lt h p),(.rng .i64 h)] (.need [(.ok 1 [d,a,v,m])] (.br (.not (.call 1 0 [d,a,v,m])) (.leaf [l,o]) (.need [w,w,(.le i j),(.lt j p),(.rng .i64 j)] (.br (.not (.eq (.fld b 0) m)) (.leaf [l,o]) (.need [(.le i (.fld b 1)),(.lt (.fld b 1) (.len (.fld d 1)))] (.need [(.ok 2 [l,k])] (.br (.lt (.call 2 0 [l,k]) i) (.need [(.le (.add (.len l) e) s)] (.need [(.le (.add (.len o) e) s),(.ok 3 [r]),(.ok 0 [d,(.get g f)]),(.le i f),(.lt f p),(.rng .i64 f)] (.need [(.ok 0 [d,q]),(.le i c),(.lt c p),(.rng .i64 c)] (.need [(.rng .i64 n)] (.back 5 [(.app l (.row [k])),(.app o (.row [(.call 3 0 [r])])),n,(.call 0 0 [d,q])]))))) (.need [(.ok 0 [d,q]),(.le i c),(.lt c p),(.rng .i64 c)] (.need [(.rng .i64 n)] (.back 5 [l,o,n,(.call 0 0 [d,q])]))))))))))))) (.leaf [l,o]))))
theorem qez(g0 g1 g2 g3:GfZ):CdZ [(jj,g0),(q0c,g1),(zn,g2),(j9,g3)] qgb y8 Tryz.f49 q3z:=fun cd h=>by injection h with h;subst h;kernel_rfl
theorem qgl(h0:FOk jj g0)(h1:FOk q0c g1)(h2:FOk zn g2)(h3:FOk j9 g3)(h:HgZ q3z y8 [(jj,g0),(q0c,g1),(zn,g2),(j9,g3)] g):FOk y8 g:=yd (qez g0 g1 g2 g3) (.cons h0 (.cons h1 (.cons h2 (.cons h3 .nil)))) rfl rfl qdi (by decide) h
def q26:Ct:=⟨39,[.val (.st 26),.val (.st 28)],[(.row 9,false),(.row 29,false)],[],none,[],[]⟩
theorem qoe:EnZ q26:=fun _ _=>by kernel_rfl
def qt4:Ann:=⟨[0,1,2,3,4,5,6,7,20],[]⟩
def q9q:Tree:=(.need [(.ok 0 [(.tok 0),(.tok 1)])] (.br (.or (.not (.call 0 1 [(.tok 0),(.tok 1)])) (.not (.eq (.fld (.call 0 0 [(.tok 0),(.tok 1)]) 0) (.lit (.i 5))))) (.leaf [(.lit (.r [])),(.lit (.r []))]) (.need [(.ok 1 [(.tok 0),(.get (.fld (.tok 0) 0) (.add (.fld (.call 0 0 [(.tok 0),(.tok 1)]) 1) (.lit (.i 2))))]),(.le (.lit (.i 0)) (.add (.fld (.call 0 0 [(.tok 0),(.tok 1)]) 1) (.lit (.i 2)))),(.lt (.add (.fld (.call 0 0 [(.tok 0),(.tok 1)]) 1) (.lit (.i 2))) (.len (.fld (.tok 0) 0))),(.rng .i64 (.add (.fld (.call 0 0 [(.tok 0),(.tok 1)]) 1) (.lit (.i 2))))] (.leaf [(.call 1 0 [(.tok 0),(.get (.fld (.tok 0) 0) (.add (.fld (.call 0 0 [(.tok 0),(.tok 1)]) 1) (.lit (.i 2))))]),(.call 1 1 [(.tok 0),(.get (.fld (.tok 0) 0) (.add (.fld (.call 0 0 [(.tok 0),(.tok 1)]) 1) (.lit (.i 2))))])]))))
theorem qqi(g0 g1:GfZ):CdZ [(zp,g0),(y8,g1)] qt4 q26 Tryz.f39 q9q:=fun cd h=>by injection h with h;subst h;kernel_rfl
theorem qv1(h0:FOk zp g0)(h1:FOk y8 g1)(h:HgZ q9q q26 [(zp,g0),(y8,g1)] g):FOk q26 g:=yd (qqi g0 g1) (.cons h0 (.cons h1 .nil)) rfl rfl qoe (by decide) h
def zo:Ct:=⟨48,[.val (.st 26),.val (.int .i64)],[(.bool,false)],[],none,[],[]⟩
theorem qf6:EnZ zo:=fun _ _=>by kernel_rfl
def qjq:Ann:=⟨[0,1,2,4,5,18],[]⟩
def q5g:Tree:=(.need [(.le (.lit (.i 0)) (.tok 1)),(.lt (.tok 1) (.len (.fld (.tok 0) 0)))] (.br (.or (.eq (.fld (.get (.fld (.tok 0) 0) (.tok 1)) 0) (.lit (.i 0))) (.eq (.fld (.get (.fld (.tok 0) 0) (.tok 1)) 0) (.lit (.i 5)))) (.leaf [(.eq (.fld (.get (.fld (.tok 0) 0) (.tok 1)) 1) (.tok 1))]) (.need [(.imp (.le (.lit (.i 2)) (.tok 1)) (.rng .i64 (.sub (.tok 1) (.lit (.i 2))))),(.imp (.le (.lit (.i 2)) (.tok 1)) (.le (.lit (.i 0)) (.sub (.tok 1) (.lit (.i 2))))),(.imp (.le (.lit (.i 2)) (.tok 1)) (.lt (.sub (.tok 1) (.lit (.i 2))) (.len (.fld (.tok 0) 0))))] (.leaf [(.and (.and (.le (.lit (.i 2)) (.tok 1)) (.eq (.fld (.get (.fld (.tok 0) 0) (.sub (.tok 1) (.lit (.i 2)))) 0) (.lit (.i 5)))) (.not (.eq (.fld (.get (.fld (.tok 0) 0) (.tok 1)) 0) (.lit (.i 4)))))]))))
theorem qi8:CdZ [] qjq zo Tryz.f48 q5g:=fun cd h=>by injection h with h;subst h;kernel_rfl
theorem qj1(h:HgZ q5g zo [] g):FOk zo g:=yd (qi8) .nil rfl rfl qf6 (by decide) h
def q1a:Ct:=⟨90,[.val (.st 26),.val (.st 28),.val (.int .i64)],[(.bool,false)],[],none,[],[]⟩
theorem qlm:EnZ q1a:=fun _ _=>by kernel_rfl
def qq1:Ann:=⟨[0,1,2,3,4,6,7,30,36],[(2,⟨[(6,.bool,false),(7,.int .i64,false)],[4],[8,9,10,11,12,13,14,15,16,17,18,19,20,21,22,23,24,25,26,27,28,29,30,33,34,35,36,37,38,39,40,41,42,31,32],[]⟩)]⟩
def q81:Tree:=(.loop 2 3 [(.lit (.b .false)),(.lit (.i 0)),(.tok 1)] (.br (.and (.and (.and (.le (.tok 4) (.len (.fld (.tok 0) 0))) (.eq (.fld (.tok 5) 0) (.lit (.i 0)))) (.le (.lit (.i 0)) (.fld (.tok 5) 1))) (.lt (.fld (.tok 5) 1) (.len (.fld (.tok 0) 0)))) (.br (.eq (.fld (.tok 5) 1) (.tok 2)) (.leaf [(.lit (.b .true))]) (.need [(.le (.lit (.i 0)) (.fld (.tok 5) 1)),(.lt (.fld (.tok 5) 1) (.len (.fld (.tok 0) 0)))] (.need [(.rng .i64 (.add (.tok 4) (.lit (.i 1))))] (.back 2 [(.tok 3),(.add (.tok 4) (.lit (.i 1))),(.get (.fld (.tok 0) 0) (.fld (.tok 5) 1))])))) (.leaf [(.lit (.b .false))])))
theorem qmz:CdZ [] qq1 q1a Tryz.f90 q81:=fun cd h=>by injection h with h;subst h;kernel_rfl
theorem qr4(h:HgZ q81 q1a [] g):FOk q1a g:=yd (qmz) .nil rfl rfl qlm (by decide) h
def q0l:Ct:=⟨51,[.ref (.st 26) true,.val (.int .i64),.val (.st 28)],[(.int .i64,false)],[],none,[],[]⟩
theorem qqx:EnZ q0l:=fun _ _=>by kernel_rfl
def qxc:Ann:=⟨[0,1,2,5,6,46],[]⟩
def qax:Tree:=
 let c:X:=.tok 1
 let d:X:=.tok 0
 let e:X:=.tok 2
 let i:X:=.lit (.i 0)
 let b:X:=.set d 2 (.app (.fld d 2) (.row [(.mk [c,(.get (.fld d 0) c)])]))
 let f:X:=.or (.lt c i) (.le (.len (.fld d 0)) c)
 let g:X:=.ok 2 [e]
 let h:X:=.call 2 0 [e]
 let a:X:=.or (.or f (.not (.call 0 0 [d,e]))) (.not (.call 1 0 [d,c]))
 (.need [(.imp (.not a) (.ok 3 [d,h,c])),(.imp (.not a) g),(.imp (.not a) g),(.imp (.not a) g),(.imp (.not (.or f (.not (.call 0 0 [d,e])))) (.ok 1 [d,c])),(.imp (.not f) (.ok 0 [d,e]))] (.br (.or a (.call 3 0 [d,h,c])) (.leaf [(.lit (.i 1)),d]) (.need [(.le i c),(.lt c (.len (.fld d 0))),(.le (.add (.len (.fld d 2)) (.lit (.i 1))) (.lit (.i 5864062014634)))] (.need [g,(.le i c),(.lt c (.len (.fld b 0)))] (.leaf [i,(.set b 0 (.put (.fld b 0) c h))])))))
theorem qsq(g0 g1 g2 g3:GfZ):CdZ [(qg,g0),(zo,g1),(j9,g2),(q1a,g3)] qxc q0l Tryz.f51 qax:=fun cd h=>by injection h with h;subst h;kernel_rfl
theorem qz2(h0:FOk qg g0)(h1:FOk zo g1)(h2:FOk j9 g2)(h3:FOk q1a g3)(h:HgZ qax q0l [(qg,g0),(zo,g1),(j9,g2),(q1a,g3)] g):FOk q0l g:=yd (qsq g0 g1 g2 g3) (.cons h0 (.cons h1 (.cons h2 (.cons h3 .nil)))) rfl rfl qqx (by decide) h
def zt:Ct:=⟨15,[.val (.st 26)],[(.st 26,true)],[],none,[],[]⟩
theorem ql6:EnZ zt:=fun _ _=>by kernel_rfl
def qro:Ann:=⟨[0,1,2,3],[]⟩
def q7q:Tree:=(.need [(.le (.len (.fld (.tok 0) 0)) (.lit (.i 8796093021952)))] (.need [(.le (.len (.fld (.tok 0) 1)) (.lit (.i 5864062014634)))] (.need [(.le (.len (.fld (.tok 0) 2)) (.lit (.i 5864062014634)))] (.need [(.le (.len (.fld (.tok 0) 3)) (.lit (.i 3518437208780)))] (.leaf [(.set (.set (.set (.set (.tok 0) 0 (.app (.lit (.r [])) (.fld (.tok 0) 0))) 1 (.app (.lit (.r [])) (.fld (.tok 0) 1))) 2 (.app (.lit (.r [])) (.fld (.tok 0) 2))) 3 (.app (.lit (.r [])) (.fld (.tok 0) 3)))])))))
theorem qol:CdZ [] qro zt Tryz.f15 q7q:=fun cd h=>by injection h with h;subst h;kernel_rfl
theorem qra(h:HgZ q7q zt [] g):FOk zt g:=yd (qol) .nil rfl rfl ql6 (by decide) h
def q21:Ct:=⟨20,[.val (.st 26),.val (.st 26)],[(.bool,false)],[],none,[],[]⟩
theorem qnm:EnZ q21:=fun _ _=>by kernel_rfl
def qxa:Ann:=⟨[0,1,2,3,4,5,6,7,8,56,61,74,79,92,97,110,115,128],[(4,⟨[(4,.bool,false),(5,.int .i64,false)],[],[57,58,59,60,61,64,65,66,67,68,69,70,71,72,73,74,62,63],[]⟩),
 (9,⟨[(4,.bool,false),(6,.int .i64,false)],[],[75,76,77,78,79,82,83,84,85,86,87,88,89,90,91,92,80,81],[]⟩),
 (14,⟨[(4,.bool,false),(7,.int .i64,false)],[],[93,94,95,96,97,100,101,102,103,104,105,106,107,108,109,110,98,99],[]⟩),
 (19,⟨[(4,.bool,false),(8,.int .i64,false)],[],[111,112,113,114,115,118,119,120,121,122,123,124,125,126,127,128,116,117],[]⟩)]⟩
def q9g:Tree:=
 let a:X:=.lit (.i 0)
 let b:X:=.tok 0
 let c:X:=.tok 1
 let d:X:=.lit (.b .false)
 let e:X:=.lit (.i 1)
 let f:X:=.tok 3
 let g:X:=.tok 5
 let h:X:=.tok 7
 let i:X:=.tok 9
 let j:X:=.len (.fld b 0)
 let k:X:=.len (.fld b 1)
 let l:X:=.len (.fld b 2)
 let m:X:=.len (.fld b 3)
 (.br (.or (.or (.or (.or (.or (.not (.eq j (.len (.fld c 0)))) (.not (.eq k (.len (.fld c 1))))) (.not (.eq l (.len (.fld c 2))))) (.not (.eq m (.len (.fld c 3))))) (.not (.eq (.fld b 4) (.fld c 4)))) (.not (.eq (.fld b 5) (.fld c 5)))) (.leaf [d]) (.loop 4 2 [d,a] (.br (.lt f j) (.need [(.le a f),(.lt f (.len (.fld c 0))),(.le a f),(.lt f j)] (.br (.not (.eq (.get (.fld b 0) f) (.get (.fld c 0) f))) (.leaf [d]) (.need [(.rng .i64 (.add f e))] (.back 4 [(.tok 2),(.add f e)])))) (.loop 9 4 [(.tok 2),a] (.br (.lt g k) (.need [(.le a g),(.lt g (.len (.fld c 1))),(.le a g),(.lt g k)] (.br (.not (.eq (.get (.fld b 1) g) (.get (.fld c 1) g))) (.leaf [d]) (.need [(.rng .i64 (.add g e))] (.back 9 [(.tok 4),(.add g e)])))) (.loop 14 6 [(.tok 4),a] (.br (.lt h l) (.need [(.le a h),(.lt h (.len (.fld c 2))),(.le a h),(.lt h l)] (.br (.not (.eq (.get (.fld b 2) h) (.get (.fld c 2) h))) (.leaf [d]) (.need [(.rng .i64 (.add h e))] (.back 14 [(.tok 6),(.add h e)])))) (.loop 19 8 [(.tok 6),a] (.br (.lt i m) (.need [(.le a i),(.lt i (.len (.fld c 3))),(.le a i),(.lt i m)] (.br (.not (.eq (.get (.fld b 3) i) (.get (.fld c 3) i))) (.leaf [d]) (.need [(.rng .i64 (.add i e))] (.back 19 [(.tok 8),(.add i e)])))) (.leaf [(.lit (.b .true))]))))))))))
theorem qq5:CdZ [] qxa q21 Tryz.f20 q9g:=fun cd h=>by injection h with h;subst h;kernel_rfl
theorem qtv(h:HgZ q9g q21 [] g):FOk q21 g:=yd (qq5) .nil rfl rfl qnm (by decide) h
def q1h:Ct:=⟨7,[.val (.st 26)],[(.bool,false)],[],none,[],[]⟩
theorem ql0:EnZ q1h:=fun _ _=>by kernel_rfl
def qqk:Ann:=⟨[0,1,2],[]⟩
def q7y:Tree:=(.leaf [(.and (.and (.and (.le (.len (.fld (.tok 0) 0)) (.lit (.i 300))) (.le (.len (.fld (.tok 0) 1)) (.lit (.i 100)))) (.le (.len (.fld (.tok 0) 2)) (.lit (.i 300)))) (.le (.len (.fld (.tok 0) 3)) (.lit (.i 50))))])
theorem qok:CdZ [] qqk q1h Tryz.f7 q7y:=fun cd h=>by injection h with h;subst h;kernel_rfl
theorem qph(h:HgZ q7y q1h [] g):FOk q1h g:=yd (qok) .nil rfl rfl ql0 (by decide) h
structure Ce where
 t:Int
 n:Int
structure Un where
 at':Int
 old:Ce
structure Wk where
 ser:Int
 att:Ce
 val:Ce
structure Sy where
 name:ByteArray
 ar:Int
structure So where
 cs:List Ce
 ys:List Sy
 tr:List Un
 wk:List Wk
 ser:Int
 mx:Int
instance:Inhabited Ce:=⟨⟨0,0⟩⟩
instance:Inhabited Un:=⟨⟨0,default⟩⟩
instance:Inhabited Wk:=⟨⟨0,default,default⟩⟩
instance:Inhabited Sy:=⟨⟨⟨#[]⟩,0⟩⟩
def eC(c:Ce):D:=.a [.i c.t,.i c.n]
def eU(u:Un):D:=.a [.i u.at',eC u.old]
def eW(w:Wk):D:=.a [.i w.ser,eC w.att,eC w.val]
def eY(y:Sy):D:=.a [.s y.name,.i y.ar]
def eS(s:So):D:=.a [.r (s.cs.map eC),.r (s.ys.map eY),.r (s.tr.map eU),.r (s.wk.map eW),.i s.ser,.i s.mx]
def dC(d:D):Ce:=⟨(d.fld 0).int,(d.fld 1).int⟩
def dU(d:D):Un:=⟨(d.fld 0).int,dC (d.fld 1)⟩
def dW(d:D):Wk:=⟨(d.fld 0).int,dC (d.fld 1),dC (d.fld 2)⟩
def dY(d:D):Sy:=⟨(d.fld 0).str,(d.fld 1).int⟩
def dS(d:D):So:=⟨(d.fld 0).rs.map dC,(d.fld 1).rs.map dY,(d.fld 2).rs.map dU,(d.fld 3).rs.map dW,(d.fld 4).int,(d.fld 5).int⟩
theorem yt(c:Ce):dC (eC c)=c:=rfl
theorem z0y(c:Un):dU (eU c)=c:=rfl
theorem z7w(c:Wk):dW (eW c)=c:=rfl
theorem qwk(c:Sy):dY (eY c)=c:=rfl
theorem map_id'{α:Type}{e:α→D}{d:D→α}(h:∀a,d (e a)=a)(l:List α):(l.map e).map d=l:=by
 rw[List.map_map]
 have:d ∘ e=id:=funext h
 rw[this,List.map_id]
theorem qy(s:So):dS (eS s)=s:=by
 show So.mk ((s.cs.map eC).map dC) ((s.ys.map eY).map dY) ((s.tr.map eU).map dU) ((s.wk.map eW).map dW) s.ser s.mx=s
 rw[map_id' yt,map_id' qwk,map_id' z0y,map_id' z7w]
theorem z4n{a b:Ce}(h:eC a=eC b):a=b:=by rw[←yt a,h,yt b]
theorem z9k{a b:Un}(h:eU a=eU b):a=b:=by rw[←z0y a,h,z0y b]
theorem z9n{a b:Wk}(h:eW a=eW b):a=b:=by rw[←z7w a,h,z7w b]
theorem qv9{a b:Sy}(h:eY a=eY b):a=b:=by rw[←qwk a,h,qwk b]
theorem zad{a b:So}(h:eS a=eS b):a=b:=by rw[←qy a,h,qy b]
theorem zc1(a b:Ce):(eC a=eC b)=(a=b):=propext ⟨z4n,fun h=>h▸rfl⟩
theorem zoz(a b:Un):(eU a=eU b)=(a=b):=propext ⟨z9k,fun h=>h▸rfl⟩
theorem zoq(a b:Wk):(eW a=eW b)=(a=b):=propext ⟨z9n,fun h=>h▸rfl⟩
theorem z10(a b:Sy):(eY a=eY b)=(a=b):=propext ⟨qv9,fun h=>h▸rfl⟩
theorem zhg(a b:So):(eS a=eS b)=(a=b):=propext ⟨zad,fun h=>h▸rfl⟩
instance:DecidableEq Ce:=fun a b=>if h:eC a=eC b then .isTrue (z4n h) else .isFalse fun e=>h (e▸rfl)
instance:DecidableEq Un:=fun a b=>if h:eU a=eU b then .isTrue (z9k h) else .isFalse fun e=>h (e▸rfl)
instance:DecidableEq Wk:=fun a b=>if h:eW a=eW b then .isTrue (z9n h) else .isFalse fun e=>h (e▸rfl)
instance:DecidableEq Sy:=fun a b=>if h:eY a=eY b then .isTrue (qv9 h) else .isFalse fun e=>h (e▸rfl)
instance:DecidableEq So:=fun a b=>if h:eS a=eS b then .isTrue (zad h) else .isFalse fun e=>h (e▸rfl)
theorem Ce.ext'{a b:Ce}(h1:a.t=b.t)(h2:a.n=b.n):a=b:=by
 cases a;cases b;cases h1;cases h2;rfl
theorem qnj(c:Ce):(eC c).fld 0=.i c.t:=rfl
theorem qxi(c:Ce):(eC c).fld 1=.i c.n:=rfl
theorem ztn(c:Un):(eU c).fld 0=.i c.at':=rfl
theorem zt4(c:Un):(eU c).fld 1=eC c.old:=rfl
theorem zut(c:Wk):(eW c).fld 0=.i c.ser:=rfl
theorem ztk(c:Wk):(eW c).fld 1=eC c.att:=rfl
theorem zna(c:Wk):(eW c).fld 2=eC c.val:=rfl
theorem zek(c:Sy):(eY c).fld 0=.s c.name:=rfl
theorem zaw(c:Sy):(eY c).fld 1=.i c.ar:=rfl
theorem qf0(s:So):(eS s).fld 0=.r (s.cs.map eC):=rfl
theorem z9d(s:So):(eS s).fld 1=.r (s.ys.map eY):=rfl
theorem z3w(s:So):(eS s).fld 2=.r (s.tr.map eU):=rfl
theorem qxs(s:So):(eS s).fld 3=.r (s.wk.map eW):=rfl
theorem zr1(s:So):(eS s).fld 4=.i s.ser:=rfl
theorem zqy(s:So):(eS s).fld 5=.i s.mx:=rfl
theorem gnA:type_of% (uA @uN.{0} (uA @uO.{0} (uA @uH.{0} (uA @uI.{0} (uA @q5i (uA @yh (uA @q1z (uA @q35 (uA @uK.{0} (uA @uP.{0} (uA @decide_eq_true_eq (uA @decide_eq_false_iff_not (uA @qy (uA @yt (uA @z0y (uA @z7w (uA @qwk (uA @qnj (uA @qxi (uA @ztn (uA @zt4 (uA @zut (uA @ztk (uA @zna (uA @zek (uA @zaw (uA @qf0 (uA @z9d (uA @z3w (uA @qxs (uA @zr1 (uA @zqy (uA @uC.{0,0} (uA @qim (uA @zp4 (uA @zi2 (uA @zc1 (uA @zoz (uA @zoq (uA @z10 (uA @zhg (uA @q6k (uA @uM.{0} (uA @uW.{0} (uA @uV.{0} (uA @uU.{0} (uA @decide_true (uA @decide_false (uA @uJ (uA @true_and @and_true)))))))))))))))))))))))))))))))))))))))))))))))))):=uA @uN.{0} (uA @uO.{0} (uA @uH.{0} (uA @uI.{0} (uA @q5i (uA @yh (uA @q1z (uA @q35 (uA @uK.{0} (uA @uP.{0} (uA @decide_eq_true_eq (uA @decide_eq_false_iff_not (uA @qy (uA @yt (uA @z0y (uA @z7w (uA @qwk (uA @qnj (uA @qxi (uA @ztn (uA @zt4 (uA @zut (uA @ztk (uA @zna (uA @zek (uA @zaw (uA @qf0 (uA @z9d (uA @z3w (uA @qxs (uA @zr1 (uA @zqy (uA @uC.{0,0} (uA @qim (uA @zp4 (uA @zi2 (uA @zc1 (uA @zoz (uA @zoq (uA @z10 (uA @zhg (uA @q6k (uA @uM.{0} (uA @uW.{0} (uA @uV.{0} (uA @uU.{0} (uA @decide_true (uA @decide_false (uA @uJ (uA @true_and @and_true)))))))))))))))))))))))))))))))))))))))))))))))))
theorem gnZ:type_of% (uA @qj (uA @zd (uA @q4n (uA @z3g (uA @q06.eq_1 (uA @q06.eq_2 (uA @X.says.eq_1 (uA @X.ev.eq_1 (uA @X.ev.eq_2 (uA @X.ev.eq_3 (uA @X.ev.eq_4 (uA @X.ev.eq_5 (uA @X.ev.eq_6 (uA @X.ev.eq_7 (uA @X.ev.eq_8 (uA @X.ev.eq_9 (uA @X.ev.eq_10 (uA @X.ev.eq_11 (uA @X.ev.eq_12 (uA @X.ev.eq_13 (uA @X.ev.eq_14 (uA @X.ev.eq_15 (uA @X.ev.eq_16 (uA @X.ev.eq_17 (uA @X.ev.eq_18 (uA @X.ev.eq_19 (uA @X.ev.eq_20 (uA @X.ev.eq_21 (uA @X.ev.eq_22 (uA @X.ev.eq_23 (uA @X.ev.eq_24 (uA @X.ev.eq_25 (uA @X.ev.eq_26 (uA @X.ev.eq_27 (uA @X.ev.eq_28 (uA @X.ev.eq_29 (uA @X.evs.eq_1 (uA @X.evs.eq_2 (uA @evl.eq_1 (uA @qe.eq_1 @gnA)))))))))))))))))))))))))))))))))))))))):=uA @qj (uA @zd (uA @q4n (uA @z3g (uA @q06.eq_1 (uA @q06.eq_2 (uA @X.says.eq_1 (uA @X.ev.eq_1 (uA @X.ev.eq_2 (uA @X.ev.eq_3 (uA @X.ev.eq_4 (uA @X.ev.eq_5 (uA @X.ev.eq_6 (uA @X.ev.eq_7 (uA @X.ev.eq_8 (uA @X.ev.eq_9 (uA @X.ev.eq_10 (uA @X.ev.eq_11 (uA @X.ev.eq_12 (uA @X.ev.eq_13 (uA @X.ev.eq_14 (uA @X.ev.eq_15 (uA @X.ev.eq_16 (uA @X.ev.eq_17 (uA @X.ev.eq_18 (uA @X.ev.eq_19 (uA @X.ev.eq_20 (uA @X.ev.eq_21 (uA @X.ev.eq_22 (uA @X.ev.eq_23 (uA @X.ev.eq_24 (uA @X.ev.eq_25 (uA @X.ev.eq_26 (uA @X.ev.eq_27 (uA @X.ev.eq_28 (uA @X.ev.eq_29 (uA @X.evs.eq_1 (uA @X.evs.eq_2 (uA @evl.eq_1 (uA @qe.eq_1 @gnA)))))))))))))))))))))))))))))))))))))))
theorem zph(c:Ce)(n:Int):D.a ((eC c).fs.set 0 (.i n))=eC {c with t:=n}:=rfl
theorem q3t(t n:Int):D.a [.i t,.i n]=eC ⟨t,n⟩:=rfl
abbrev i64(n:Int):Prop:= -9223372036854775808≤n∧n≤9223372036854775807
def Ce.ok(c:Ce):Prop:=i64 c.t∧i64 c.n
def Un.ok(c:Un):Prop:=i64 c.at'∧c.old.ok
def Wk.ok(c:Wk):Prop:=i64 c.ser∧c.att.ok∧c.val.ok
def Sy.ok(c:Sy):Prop:=c.name.size≤LIM∧i64 c.ar
structure So.ok(s:So):Prop where
 cs:s.cs.length≤8796093021952∧∀c∈s.cs,c.ok
 ys:s.ys.length≤5864062014634∧∀c∈s.ys,c.ok
 tr:s.tr.length≤5864062014634∧∀c∈s.tr,c.ok
 wk:s.wk.length≤3518437208780∧∀c∈s.wk,c.ok
 ser:i64 s.ser
 mx:i64 s.mx
variable{d:D}
theorem wfI(h:Wf d (.int .i64)):∃n,d=.i n∧i64 n:=by
 obtain⟨n,rfl,hn⟩:=h.int
 exact⟨n,rfl,q6k.1 hn⟩
theorem wfC(h:Wf d qm):∃c,d=eC c∧c.ok:=by
 obtain⟨ds,rfl,hl⟩:=h.st_of (fs:=[.int .i64,.int .i64]) rfl
 obtain⟨a,b,rfl,ha,hb⟩:=z7s hl
 obtain⟨x,rfl,hx⟩:=wfI ha
 obtain⟨y,rfl,hy⟩:=wfI hb
 exact⟨⟨x,y⟩,rfl,hx,hy⟩
theorem wfU(h:Wf d q2n):∃c,d=eU c∧c.ok:=by
 obtain⟨ds,rfl,hl⟩:=h.st_of (fs:=[.int .i64,qm]) rfl
 obtain⟨a,b,rfl,ha,hb⟩:=z7s hl
 obtain⟨x,rfl,hx⟩:=wfI ha
 obtain⟨y,rfl,hy⟩:=wfC hb
 exact⟨⟨x,y⟩,rfl,hx,hy⟩
theorem wfW(h:Wf d yq):∃c,d=eW c∧c.ok:=by
 obtain⟨ds,rfl,hl⟩:=h.st_of (fs:=[.int .i64,qm,qm]) rfl
 obtain⟨a,r,rfl,ha,hr⟩:=qbk hl
 obtain⟨b,c,rfl,hb,hc⟩:=z7s hr
 obtain⟨x,rfl,hx⟩:=wfI ha
 obtain⟨y,rfl,hy⟩:=wfC hb
 obtain⟨z,rfl,hz⟩:=wfC hc
 exact⟨⟨x,y,z⟩,rfl,hx,hy,hz⟩
theorem wfY(h:Wf d ye):∃c,d=eY c∧c.ok:=by
 obtain⟨ds,rfl,hl⟩:=h.st_of (fs:=[.str,.int .i64]) rfl
 obtain⟨a,b,rfl,ha,hb⟩:=z7s hl
 obtain⟨x,rfl,hx⟩:=ha.str
 obtain⟨y,rfl,hy⟩:=wfI hb
 exact⟨⟨x,y⟩,rfl,hx,hy⟩
theorem zt5(h:Wf d yb):∃l:List Ce,d=.r (l.map eC)∧l.length≤8796093021952∧∀c∈l,c.ok:=by
 obtain⟨l,rfl,h1,h2⟩:=h.row_of (te:=qm) rfl
 obtain⟨m,rfl,h3⟩:=qdx (e:=eC) (P:=Ce.ok) fun x hx=>wfC (h2 x hx)
 have e:LM qm=8796093021952:=by kernel_rfl
 rw[e,uC] at h1
 exact⟨m,rfl,h1,h3⟩
theorem zwe(h:Wf d z3x):∃l:List Un,d=.r (l.map eU)∧l.length≤5864062014634∧∀c∈l,c.ok:=by
 obtain⟨l,rfl,h1,h2⟩:=h.row_of (te:=q2n) rfl
 obtain⟨m,rfl,h3⟩:=qdx (e:=eU) (P:=Un.ok) fun x hx=>wfU (h2 x hx)
 have e:LM q2n=5864062014634:=by kernel_rfl
 rw[e,uC] at h1
 exact⟨m,rfl,h1,h3⟩
theorem zw8(h:Wf d q4y):∃l:List Wk,d=.r (l.map eW)∧l.length≤3518437208780∧∀c∈l,c.ok:=by
 obtain⟨l,rfl,h1,h2⟩:=h.row_of (te:=yq) rfl
 obtain⟨m,rfl,h3⟩:=qdx (e:=eW) (P:=Wk.ok) fun x hx=>wfW (h2 x hx)
 have e:LM yq=3518437208780:=by kernel_rfl
 rw[e,uC] at h1
 exact⟨m,rfl,h1,h3⟩
theorem zu9(h:Wf d qni):∃l:List Sy,d=.r (l.map eY)∧l.length≤5864062014634∧∀c∈l,c.ok:=by
 obtain⟨l,rfl,h1,h2⟩:=h.row_of (te:=ye) rfl
 obtain⟨m,rfl,h3⟩:=qdx (e:=eY) (P:=Sy.ok) fun x hx=>wfY (h2 x hx)
 have e:LM ye=5864062014634:=by kernel_rfl
 rw[e,uC] at h1
 exact⟨m,rfl,h1,h3⟩
theorem wfS(h:Wf d qb):∃s,d=eS s∧s.ok:=by
 obtain⟨ds,rfl,hl⟩:=h.st_of (fs:=[yb,qni,z3x,q4y,.int .i64,.int .i64]) rfl
 obtain⟨d0,r,rfl,h0,hl⟩:=qbk hl
 obtain⟨d1,r,rfl,h1,hl⟩:=qbk hl
 obtain⟨d2,r,rfl,h2,hl⟩:=qbk hl
 obtain⟨d3,r,rfl,h3,hl⟩:=qbk hl
 obtain⟨d4,d5,rfl,h4,h5⟩:=z7s hl
 obtain⟨cs,rfl,q0⟩:=zt5 h0
 obtain⟨ys,rfl,q1⟩:=zu9 h1
 obtain⟨tr,rfl,q2⟩:=zwe h2
 obtain⟨wk,rfl,q3⟩:=zw8 h3
 obtain⟨x,rfl,q4⟩:=wfI h4
 obtain⟨y,rfl,q5⟩:=wfI h5
 exact⟨⟨cs,ys,tr,wk,x,y⟩,rfl,q0,q1,q2,q3,q4,q5⟩
def q4w:Ct:=⟨95,[.val (.st 26),.val (.st 28),.val (.str)],[(.st 28,false),(.st 28,false),(.bool,false)],[],none,[],[]⟩
theorem qp8:EnZ q4w:=fun _ _=>by kernel_rfl
def qyg:Ann:=⟨[0,1,2,3,4,6,7,8,9,37,65],[]⟩
def qat:Tree:=
 let a:X:=.fld (.tok 1) 1
 let f:X:=.fld (.tok 0) 0
 let g:X:=.lit (.a [(.i 0),(.i 0)])
 let j:X:=.lit (.i 0)
 let b:X:=.or (.not (.eq (.fld (.tok 1) 0) (.lit (.i 3)))) (.not (.call 0 0 [(.tok 0),a]))
 let c:X:=.fld (.get f a) 1
 let d:X:=.add a (.lit (.i 2))
 let i:X:=.add a (.lit (.i 1))
 let e:X:=.or (.lt c j) (.le (.len (.fld (.tok 0) 1)) c)
 let h:X:=.or b (.not (.call 0 0 [(.tok 0),d]))
 (.need [(.imp (.not (.not (.eq (.fld (.tok 1) 0) (.lit (.i 3))))) (.ok 0 [(.tok 0),a])),(.imp (.not b) (.rng .i64 d)),(.imp (.not b) (.ok 0 [(.tok 0),d])),(.imp (.not h) (.le j a)),(.imp (.not h) (.lt a (.len f)))] (.br (.or h (.not (.eq (.fld (.get f a) 0) (.lit (.i 4))))) (.leaf [g,g,(.lit (.b .false))]) (.need [(.le j a),(.lt a (.len f))] (.need [(.imp (.not e) (.le j c)),(.imp (.not e) (.lt c (.len (.fld (.tok 0) 1))))] (.br (.or e (.not (.eq (.get (.fld (.tok 0) 1) c) (.mk [(.tok 2),(.lit (.i 2))])))) (.leaf [g,g,(.lit (.b .false))]) (.need [(.le j d),(.lt d (.len f)),(.rng .i64 d),(.le j i),(.lt i (.len f)),(.rng .i64 i)] (.leaf [(.get f i),(.get f d),(.lit (.b .true))])))))))
theorem qwm(g0:GfZ):CdZ [(q0b,g0)] qyg q4w Tryz.f95 qat:=fun cd h=>by injection h with h;subst h;kernel_rfl
theorem qy6(h0:FOk q0b g0)(h:HgZ qat q4w [(q0b,g0)] g):FOk q4w g:=yd (qwm g0) (.cons h0 .nil) rfl rfl qp8 (by decide) h
def q4q:Ct:=⟨96,[.val (.st 26),.val (.st 28)],[(.str,false),(.bool,false)],[],none,[],[]⟩
theorem qrc:EnZ q4q:=fun _ _=>by kernel_rfl
def qz4:Ann:=⟨[0,1,2,3,4,5,21],[]⟩
def qb6:Tree:=(.br (.or (.or (.not (.eq (.fld (.tok 1) 0) (.lit (.i 2)))) (.lt (.fld (.tok 1) 1) (.lit (.i 0)))) (.le (.len (.fld (.tok 0) 1)) (.fld (.tok 1) 1))) (.leaf [(.lit (.s ⟨#[]⟩)),(.lit (.b .false))]) (.need [(.le (.lit (.i 0)) (.fld (.tok 1) 1)),(.lt (.fld (.tok 1) 1) (.len (.fld (.tok 0) 1)))] (.leaf [(.fld (.get (.fld (.tok 0) 1) (.fld (.tok 1) 1)) 0),(.lit (.b .true))])))
theorem quy:CdZ [] qz4 q4q Tryz.f96 qb6:=fun cd h=>by injection h with h;subst h;kernel_rfl
theorem qzn(h:HgZ qb6 q4q [] g):FOk q4q g:=yd (quy) .nil rfl rfl qrc (by decide) h
def jr:Ct:=⟨62,[.val (.st 72),.val (.st 72)],[(.int .i64,false)],[],none,[],[]⟩
theorem q6a:EnZ jr:=fun _ _=>by kernel_rfl
def qv:Ct:=⟨116,[.val (.row 73),.val (.int .i64),.val (.int .i64),.fn 62 []],[],[],none,[],[]⟩
theorem q49:EnZ qv:=fun _ _=>by kernel_rfl
def q5e:Ann:=⟨[0,1,2,3,8,9,14,34],[(1,⟨[(8,.int .i64,false),(0,.row 73,false)],[],[12,13,14,17,9,18,19,20,21,22,23,24,25,26,27,28,29,30,31,32,33,34,37,38,39,40,41,42,43,44,45,46,47,48,49,50,51,52,35,36,15,16],[]⟩),
 (4,⟨[(9,.int .i64,false),(0,.row 73,false)],[],[18,19,20,21,22,23,24,25,26,27,28,29,30,31,32,33,34,37,38,39,40,41,42,43,44,45,46,47,48,49,50,51,52,35,36],[]⟩)]⟩
def jy:Tree:=
 let a:X:=.lt (.tok 1) (.tok 5)
 let d:X:=.le (.lit (.i 0)) (.tok 5)
 let h:X:=.lit (.i 1)
 let i:X:=.tok 6
 let b:X:=.sub (.tok 5) h
 let c:X:=.lt (.tok 5) (.len i)
 let e:X:=.rng .i64 b
 let f:X:=.lt b (.len i)
 let g:X:=.le (.lit (.i 0)) b
 (.need [(.rng .i64 (.add (.tok 1) h))] (.loop 1 3 [(.add (.tok 1) h),(.tok 0)] (.br (.lt (.tok 3) (.tok 2)) (.loop 4 5 [(.tok 3),(.tok 4)] (.need [(.imp a (.ok 0 [(.get i (.tok 5)),(.get i b)])),(.imp a g),(.imp a f),(.imp a d),(.imp a c),(.imp a d),(.imp a c),(.imp a g),(.imp a f),(.imp a g),(.imp a f),(.imp a e),(.imp a e),(.imp a e),(.imp a d),(.imp a c),(.imp a d),(.imp a c),(.imp a d),(.imp a c),(.imp a e),(.imp a e),(.imp a e),(.imp a e),(.imp a e),(.imp a d),(.imp a c),(.imp a d),(.imp a c),(.imp a g),(.imp a f),(.imp a d),(.imp a c),(.imp a e)] (.br (.and a (.lt (.call 0 0 [(.get i (.tok 5)),(.get i b)]) (.lit (.i 0)))) (.bad 6015) (.need [(.rng .i64 (.add (.tok 3) h))] (.back 1 [(.add (.tok 3) h),i]))))) (.leaf []))))
theorem q4p(g0:GfZ):CdZ [(jr,g0)] q5e qv Tryz.f116 jy:=fun cd h=>by injection h with h;subst h;kernel_rfl
theorem q5f(h0:FOk jr g0)(h:HgZ jy qv [(jr,g0)] g):FOk qv g:=yd (q4p g0) (.cons h0 .nil) rfl rfl q49 (by decide) h
def zk:Ct:=⟨93,[.val (.row 73),.val (.int .i64),.fn 62 []],[],[],none,[],[]⟩
theorem q7m:EnZ zk:=fun _ _=>by kernel_rfl
def q8v:Ann:=⟨[0,1,2,6,7,8,9,13,30,35,54],[(2,⟨[(7,.int .i64,false),(8,.int .i64,false)],[],[11,12,13,14,15,16,17,18,19,20,21,22],[]⟩),
 (7,⟨[(7,.int .i64,false),(8,.int .i64,false),(6,.int .i64,false)],[],[28,29,30,31,32,33,34,35,36,37,38,39,40,41,42,43,44,45,46,47,48,49,50,51,9,52,53,54,55,56,57,58,59,60,61,62],[]⟩),
 (9,⟨[(7,.int .i64,false),(8,.int .i64,false)],[],[33,34,35,36,37,38,39,40,41,42,43,44,45,46,47,48],[]⟩)]⟩
def q0u:Tree:=(.loop 2 2 [(.lit (.i 0)),(.lit (.i 20))] (.br (.le (.tok 3) (.tok 1)) (.need [(.ok 1 [(.tok 0),(.tok 2),(.tok 3)])] (.need [(.rng .i64 (.add (.tok 3) (.lit (.i 20))))] (.back 2 [(.tok 3),(.add (.tok 3) (.lit (.i 20)))]))) (.need [(.ok 1 [(.tok 0),(.tok 2),(.tok 1)])] (.loop 7 4 [(.tok 2),(.tok 3),(.lit (.i 20))] (.br (.lt (.tok 6) (.tok 1)) (.need [(.rng .i64 (.mul (.lit (.i 2)) (.tok 6)))] (.loop 9 7 [(.lit (.i 0)),(.mul (.lit (.i 2)) (.tok 6))] (.br (.le (.tok 8) (.tok 1)) (.bad 10007) (.need [(.rng .i64 (.add (.tok 7) (.tok 6)))] (.br (.lt (.add (.tok 7) (.tok 6)) (.tok 1)) (.bad 15005) (.need [(.rng .i64 (.mul (.tok 6) (.lit (.i 2))))] (.back 7 [(.tok 7),(.tok 8),(.mul (.tok 6) (.lit (.i 2)))]))))))) (.leaf []))))))
theorem q7t(g0 g1:GfZ):CdZ [(jr,g0),(qv,g1)] q8v zk Tryz.f93 q0u:=fun cd h=>by injection h with h;subst h;kernel_rfl
theorem q8u(h0:FOk jr g0)(h1:FOk qv g1)(h:HgZ q0u zk [(jr,g0),(qv,g1)] g):FOk zk g:=yd (q7t g0 g1) (.cons h0 (.cons h1 .nil)) rfl rfl q7m (by decide) h
def yi:Ct:=⟨61,[.val (.row 73),.fn 62 []],[],[],none,[],[]⟩
theorem q7h:EnZ yi:=fun _ _=>by kernel_rfl
def q85:Ann:=⟨[0,1],[]⟩
def q0o:Tree:=(.need [(.ok 1 [(.tok 0),(.len (.tok 0))])] (.leaf []))
theorem q7k(g0 g1:GfZ):CdZ [(jr,g0),(zk,g1)] q85 yi Tryz.f61 q0o:=fun cd h=>by injection h with h;subst h;kernel_rfl
theorem q88(h0:FOk jr g0)(h1:FOk zk g1)(h:HgZ q0o yi [(jr,g0),(zk,g1)] g):FOk yi g:=yd (q7k g0 g1) (.cons h0 (.cons h1 .nil)) rfl rfl q7h (by decide) h
def cellAt(s:So)(i:Int):Ce:=s.cs.getD i.toNat default
def inS(s:So)(i:Int):Bool:=decide (0≤i)&&decide (i<s.cs.length)
def q37(s:So)(i:Int):Int:=if inS s i then(cellAt s i).t else -1
def arS(s:So)(n:Int):Int:=if 0≤n∧n<s.ys.length then(s.ys.getD n.toNat default).ar else -1
def vcR(s:So)(c:Ce):Bool:=if c.t=0 then inS s c.n&& !decide (q37 s c.n=4) else if c.t=1 then true else if c.t=2 then decide (arS s c.n=0) else if c.t=3 then decide (q37 s c.n=4) else if c.t=5 then decide (q37 s c.n=5) else false
def vcP(s:So)(c:Ce):Bool:=if c.t=0 then decide (0≤q37 s c.n)&& !decide (q37 s c.n=4) else if c.t=1 then true else if c.t=2 then decide (arS s c.n=0) else if c.t=3 then decide (q37 s c.n=4) else if c.t=5 then decide (q37 s c.n=5) else false
def qcs(s:So)(i:Int):Bool:=decide (q37 s (i+1)=1)&&(decide (1≤(cellAt s (i+1)).n)&&(decide ((cellAt s (i+1)).n≤s.ser)&&(decide (0≤q37 s (i+2))&&(!decide (q37 s (i+2)=4)&& !decide (q37 s (i+2)=5)))))
def qaf(f:So→Int→Int):List D→Option (List D)
 |[s,i]=>some [.i (f (dS s) i.int)]
 |_=>none
def qcp(f:So→Int→Bool):List D→Option (List D)
 |[s,i]=>some [.b (f (dS s) i.int)]
 |_=>none
def q6q(q:So→Int→Bool)(f:So→Int→Bool):List D→Option (List D)
 |[s,i]=>if q (dS s) i.int then some [.b (f (dS s) i.int)] else none
 |_=>none
def q65(f:So→Ce→Bool):List D→Option (List D)
 |[s,c]=>some [.b (f (dS s) (dC c))]
 |_=>none
def zmb(f:So→Un→Bool):List D→Option (List D)
 |[s,c]=>some [.b (f (dS s) (dU c))]
 |_=>none
def gSb(f:So→Bool):List D→Option (List D)
 |[s]=>some [.b (f (dS s))]
 |_=>none
variable{i:Int}
theorem ql{s:So}:inS s i=true↔0≤i∧i<s.cs.length:=by simp[inS]
theorem zb{s:So}(h:inS s i=true):(D.r (s.cs.map eC)).get i=eC (cellAt s i):=z0b eC (ql.1 h).1 (ql.1 h).2
theorem q1l{s:So}(h:inS s i=true):q37 s i=(cellAt s i).t:=if_pos h
theorem q6w{s:So}(h:inS s i=false):q37 s i= -1:=if_neg (by rw[h];decide)
theorem q3s:FOk z3 (qcp inS):=qme fun ds outs hw hg=>by
 obtain⟨d,r,rfl,hd,e,r',rfl,he,rfl⟩:=hw
 obtain⟨s,rfl,hs⟩:=wfS hd
 obtain⟨i,rfl,hi⟩:=wfI he
 simp only[qcp,qy,yh,uB] at hg
 subst hg
 simp only[q6s,Tree.go,q06,X.says,X.ev,X.evs,evl,qe,gnA,inS]
theorem q7i:FOk zx (qaf q37):=qxo q3s fun ds outs hw hg=>by
 obtain⟨d,r,rfl,hd,e,r',rfl,he,rfl⟩:=hw
 obtain⟨s,rfl,hs⟩:=wfS hd
 obtain⟨i,rfl,hi⟩:=wfI he
 simp only[qaf,qy,yh,uB] at hg
 subst hg
 simp only[qbc,Tree.go,q06,X.says,X.ev,X.evs,evl,qe,gnA,qcp,true_and]
 cases h:inS s i with
 |false=>simp[q6w h]
 |true=>
  have h':=ql.1 h
  simp[zb h,qnj,q1l h,h']
theorem qab:FOk ja (qaf q37):=qyd fun ds outs hw hg=>by
 obtain⟨d,r,rfl,hd,e,r',rfl,he,rfl⟩:=hw
 obtain⟨s,rfl,hs⟩:=wfS hd
 obtain⟨i,rfl,hi⟩:=wfI he
 simp only[qaf,qy,yh,uB] at hg
 subst hg
 simp only[qbb,Tree.go,q06,X.says,X.ev,X.evs,evl,qe,gnA,true_and]
 cases h:inS s i with
 |false=>
  have h':¬(0≤i∧i<s.cs.length):=fun q=>by rw[ql.2 q] at h;cases h
  have h2:i<0∨(s.cs.length:Int)≤i:=by omega
  simp[q6w h]
  omega
 |true=>
  have h':=ql.1 h
  have h1:¬i<0:=by omega
  have h2:¬(s.cs.length:Int)≤i:=by omega
  simp[zb h,qnj,q1l h,h',h1,h2]
theorem z3p{s:So}(h:0≤i∧i<s.ys.length):(D.r (s.ys.map eY)).get i=eY (s.ys.getD i.toNat default):=z0b eY h.1 h.2
theorem qfn:FOk jo (qaf arS):=qpe fun ds outs hw hg=>by
 obtain⟨d,r,rfl,hd,e,r',rfl,he,rfl⟩:=hw
 obtain⟨s,rfl,hs⟩:=wfS hd
 obtain⟨i,rfl,hi⟩:=wfI he
 simp only[qaf,qy,yh,uB] at hg
 subst hg
 simp only[q7x,Tree.go,q06,X.says,X.ev,X.evs,evl,qe,gnA,true_and]
 by_cases h:0≤i∧i<s.ys.length
 ·have h1:¬i<0:=by omega
  have h2:¬(s.ys.length:Int)≤i:=by omega
  simp[z3p h,zaw,arS,h,h1,h2]
 ·simp[arS,h]
theorem qfo:FOk jc (qaf arS):=qr5 fun ds outs hw hg=>by
 obtain⟨d,r,rfl,hd,e,r',rfl,he,rfl⟩:=hw
 obtain⟨s,rfl,hs⟩:=wfS hd
 obtain⟨i,rfl,hi⟩:=wfI he
 simp only[qaf,qy,yh,uB] at hg
 subst hg
 simp only[q8i,Tree.go,q06,X.says,X.ev,X.evs,evl,qe,gnA,true_and]
 by_cases h:0≤i∧i<s.ys.length
 ·have h1:¬i<0:=by omega
  have h2:¬(s.ys.length:Int)≤i:=by omega
  simp[z3p h,zaw,arS,h,h1,h2]
 ·simp[arS,h]
theorem ji:FOk qg (q65 vcR):=qhr q3s q7i qfn fun ds outs hw hg=>by
 obtain⟨d,r,rfl,hd,e,r',rfl,he,rfl⟩:=hw
 obtain⟨s,rfl,hs⟩:=wfS hd
 obtain⟨c,rfl,hc⟩:=wfC he
 simp only[q65,qy,yt,uB] at hg
 subst hg
 simp only[q4l,Tree.go,q06,X.says,X.ev,X.evs,evl,qe,gnA,qcp,qaf,vcR,true_and]
 by_cases h0:c.t=0
 ·simp[h0]
 ·by_cases h1:c.t=1
  ·simp[h1]
  ·by_cases h2:c.t=2
   ·simp[h2]
   ·by_cases h3:c.t=3
    ·simp[h3]
    ·by_cases h5:c.t=5
     ·simp[h5]
     ·simp[h0,h1,h2,h3,h5]
theorem yy:FOk qf (q65 vcP):=qhz qfo qab fun ds outs hw hg=>by
 obtain⟨d,r,rfl,hd,e,r',rfl,he,rfl⟩:=hw
 obtain⟨s,rfl,hs⟩:=wfS hd
 obtain⟨c,rfl,hc⟩:=wfC he
 simp only[q65,qy,yt,uB] at hg
 subst hg
 simp only[q48,Tree.go,q06,X.says,X.ev,X.evs,evl,qe,gnA,qaf,vcP,true_and]
 by_cases h0:c.t=0
 ·simp[h0]
 ·by_cases h1:c.t=1
  ·simp[h1]
  ·by_cases h2:c.t=2
   ·simp[h2]
   ·by_cases h3:c.t=3
    ·simp[h3]
    ·by_cases h5:c.t=5
     ·simp[h5]
     ·simp[h0,h1,h2,h3,h5]
theorem tag_in{s:So}(h:q37 s i=1):inS s i=true:=by
 cases hi:inS s i with
 |true=>rfl
 |false=>rw[q6w hi] at h;cases h
theorem qff:FOk jn (q6q inS qcs):=qpx q7i fun ds outs hw hg=>by
 obtain⟨d,r,rfl,hd,e,r',rfl,he,rfl⟩:=hw
 obtain⟨s,rfl,hs⟩:=wfS hd
 obtain⟨i,rfl,hi⟩:=wfI he
 simp only[q6q,qy,yh,uG,uB] at hg
 obtain⟨hin,rfl⟩:=hg
 have h1:=ql.1 hin
 have hl:=hs.cs.1
 have r1:i64 (i+1):=⟨by omega,by omega⟩
 have r2:i64 (i+2):=⟨by omega,by omega⟩
 simp only[q89,Tree.go,q06,X.says,X.ev,X.evs,evl,qe,gnA,qaf,true_and,qcs,r1,r2]
 by_cases ht:q37 s (i+1)=1
 ·have h2:=tag_in ht
  have h3:=ql.1 h2
  simp[ht,zb h2,qxi,h3.1,h3.2,yh,uY,q6k,r1.1,r1.2]
 ·simp[ht]
theorem qj6{k k' v:D}:∀{l:List D},mfind k (mset k' v l)=if k'=k then some v else mfind k l
 |[]=>by simp[mset,mfind,D.fld,D.fs]
 | p :: l => by
  unfold mset
  split
  ·rename_i h
   by_cases hk:k'=k
   ·simp[mfind,D.fld,D.fs,hk]
   ·have:¬(p.fld 0=k):=fun e=>hk (h.symm.trans e)
    simp[mfind,D.fld,D.fs,hk,this]
    intro e
    exact absurd e this
  ·rename_i h
   unfold mfind
   by_cases hk:p.fld 0=k
   ·have:¬(k'=k):=fun e=>h (hk.trans e.symm)
    simp[hk,this]
   ·simp only[if_neg hk]
    exact qj6
def okY(y:Sy):Bool:=decide (y.name.size≤100)&&(decide (0≤y.ar)&&decide (y.ar≤8))
def qep(l:List Sy)(k:Nat):Bool:=okY (l.getD k default)&& !decide (l.getD k default∈l.take k)
def q91(l:List Sy):Bool:=decide (l.length≤1048576)&&(uD l.length).all (qep l)
def zgf(f:List Sy→Bool):List D→Option (List D)
 |[l]=>some [.b (f (l.rs.map dY))]
 |_=>none
def qtx(x:D)(l:List Sy)(k:Nat)(L:List D):Prop:=∀y,mfind (eY y) L=if y∈l.take k then some x else none
theorem qtx.nil{x:D}{l:List Sy}:qtx x l 0 []:=fun y=>by simp[mfind]
theorem qtx.put{x:D}{l:List Sy}{k:Nat}{L:List D}(h:qtx x l k L)(hk:k<l.length):qtx x l (k+1) (mset (eY (l.getD k default)) x L):=fun y=>by
 rw[qj6,qah hk,h y]
 generalize l.getD k default=z
 by_cases hy:y=z
 ·subst hy;simp
 ·have:¬(z=y):=fun e=>hy e.symm
  simp[z10,this,hy]
theorem qob:FOk jv (zgf q91):=qly fun ds outs hw hg=>by
 obtain⟨d,r,rfl,hd,rfl⟩:=hw
 obtain⟨l,rfl,hl,hok⟩:=zu9 hd
 simp only[zgf,q35,map_id' qwk,uB] at hg
 subst hg
 simp only[q66,Tree.go,q06,X.says,X.ev,X.evs,evl,qe,gnA,q91]
 refine⟨fun h=>?_,fun h=>?_⟩
 ·have:¬(l.length≤1048576):=by omega
  simp[this]
 ·have h0:l.length≤1048576:=by omega
  refine⟨fun st=>∃(k:Nat)(L:List D),k≤l.length∧st=[.b false,.i k,.mp L]∧(∀j,j<k→qep l j=true)∧qtx (.i 1) l k L,fun st=>l.length - (st.getD 1 .u).int.toNat,⟨0,[],uL _,rfl,(fun j hj=>absurd hj (uF _)),qtx.nil⟩,?_⟩
  rintro st - ⟨k,L,hk,rfl,hP,hL⟩
  simp only[Tree.go,q06,X.says,X.ev,X.evs,evl,qe,gnA]
  refine⟨fun hlt=>?_,fun hlt=>?_⟩
  ·have hkl:k<l.length:=by omega
   have hp:(0:Int)≤k:=by omega
   simp only[hlt,hp,q3k eY hkl,zek,zaw,q1z,yh,true_and,uJ,decide_true,and_true,Int.toNat_natCast,fnD,zbt,hL (l.getD k default)]
   have hr:i64 ((k:Int)+1):=⟨by omega,by omega⟩
   have e:(if l.getD k default∈l.take k then some (D.i 1) else none).getD (.i 0)=.i (if l.getD k default∈l.take k then 1 else 0):=by split<;>rfl
   rw[e]
   refine⟨fun hb=>?_,fun hb=>⟨hr,?_⟩⟩
   ·have:qep l k=false:=by
     simp only[qep,okY]
     generalize l.getD k default=z at hb⊢
     by_cases hm:z∈l.take k
     ·simp[hm]
     ·simp[hm] at hb⊢
      intro h1 h2
      omega
    rw[qaa hkl this]
    simp
   ·have hs:qep l k=true:=by
     simp only[qep,okY]
     generalize l.getD k default=z at hb⊢
     by_cases hm:z∈l.take k
     ·simp[hm] at hb
     ·simp[hm] at hb⊢
      omega
    rw[q2r,if_pos rfl]
    refine⟨⟨k+1,_,hkl,?_,q2u hP hs,hL.put hkl⟩,?_⟩
    ·simp
    ·simp[D.int]
     omega
  ·have:k=l.length:=by omega
   subst this
   rw[q8t hP]
   simp[h0]
theorem z5h{s:So}(h:q91 s.ys=true)(n:Int): -1≤arS s n∧arS s n≤8:=by
 unfold arS
 split
 ·rename_i hn
  simp only[q91,gnB] at h
  have:=qul h.2 (k:=n.toNat) (by omega)
  simp only[qep,okY,gnB,gnD] at this
  omega
 ·omega
def q3h(s:So):Nat→Int→Bool
 |0,_=>false
 |k+1,n=>if q37 s n=0∧¬(cellAt s n).n=n then q3h s k (cellAt s n).n else true
def qoz(s:So)(n:Int):Bool:=q3h s (s.cs.length+1) n
theorem qe6{s:So}{t:Int}(ht:t≠-1)(h:q37 s i=t):inS s i=true:=by
 cases hi:inS s i with
 |true=>rfl
 |false=>rw[q6w hi] at h;exact absurd h.symm ht
theorem qxt:FOk q29 (qcp qoz):=qsj q7i fun ds outs hw hg=>by
 obtain⟨d,r,rfl,hd,e,r',rfl,he,rfl⟩:=hw
 obtain⟨s,rfl,hs⟩:=wfS hd
 obtain⟨i,rfl,hi⟩:=wfI he
 simp only[qcp,qy,yh,uB] at hg
 subst hg
 have hl:=hs.cs.1
 simp only[q9e,Tree.go,q06,X.says,X.ev,X.evs,evl,qe,gnA,qaf]
 refine⟨fun st=>∃(k:Nat)(m:Int),k≤s.cs.length+1∧st=[.b false,.i m,.i k]∧q3h s (s.cs.length+1 - k) m=qoz s i,fun st=>s.cs.length+1 - (st.getD 2 .u).int.toNat,⟨0,i,uL _,rfl,rfl⟩,?_⟩
 rintro st - ⟨k,m,hk,rfl,hP⟩
 simp only[Tree.go,q06,X.says,X.ev,X.evs,evl,qe,gnA,qaf]
 refine⟨fun hlt=>?_,fun hlt=>?_⟩
 ·have hkl:k≤s.cs.length:=by omega
  have hr:i64 ((k:Int)+1):=⟨by omega,by omega⟩
  obtain⟨n,hn⟩:∃n,s.cs.length+1 - k=n+1:=⟨s.cs.length - k,by omega⟩
  rw[hn] at hP
  unfold q3h at hP
  have hn2:s.cs.length+1 - (k+1)=n:=by omega
  by_cases ht:q37 s m=0
  ·have hin:=qe6 (by decide) ht
   have h3:=ql.1 hin
   simp only[ht,zb hin,qxi,h3.1,h3.2,yh,qim,hr] at hP⊢
   refine⟨by simp,fun hx=>?_,fun hx=>?_⟩
   ·have:(cellAt s m).n=m:=by simpa using hx
    rw[if_neg (by simp[this])] at hP
    simp[←hP]
   ·have hx':¬(cellAt s m).n=m:=by simpa using hx
    rw[if_pos ⟨trivial,hx'⟩] at hP
    refine⟨⟨trivial,trivial⟩,⟨trivial,trivial⟩,?_⟩
    rw[q2r,if_pos rfl]
    refine⟨⟨k+1,(cellAt s m).n,by omega,by simp,by rw[hn2];exact hP⟩,?_⟩
    simp[D.int]
    omega
  ·rw[if_neg (by simp[ht])] at hP
   simp[ht,←hP]
 ·have:k=s.cs.length+1:=by omega
  subst this
  rw[Nat.sub_self] at hP
  simp[←hP,q3h]
def q5t(s:So)(i:Int):Bool:=
 if(cellAt s i).t=4 then decide (1≤arS s (cellAt s i).n)&&(inS s (i+arS s (cellAt s i).n)&&(uD (arS s (cellAt s i).n).toNat).all fun j=> !decide (q37 s (i+((j:Int)+1))=4))
 else vcR s (cellAt s i)&&(qoz s i&&(!decide ((cellAt s i).t=5)||(decide ((cellAt s i).n=i)&&qcs s i)))
def z60(s:So)(i:Int):Bool:=inS s i&&q91 s.ys
theorem qz1:FOk q0v (q6q z60 q5t):=qvp qfn q3s q7i ji qxt qff fun ds outs hw hg=>by
 obtain⟨d,r,rfl,hd,e,r',rfl,he,rfl⟩:=hw
 obtain⟨s,rfl,hs⟩:=wfS hd
 obtain⟨i,rfl,hi⟩:=wfI he
 simp only[q6q,qy,yh,uG,uB,z60,gnB] at hg
 obtain⟨⟨hin,hy⟩,rfl⟩:=hg
 have h1:=ql.1 hin
 have hl:=hs.cs.1
 obtain⟨ha,hb⟩:=z5h hy (cellAt s i).n
 simp only[q9o,Tree.go,q06,X.says,X.ev,X.evs,evl,qe,gnA,qaf,qcp,q65,q6q,zb hin,h1.1,h1.2,hin,if_true]
 unfold q5t
 generalize arS s (cellAt s i).n=K at ha hb⊢
 refine⟨fun h4=>?_,fun h4=>?_⟩
 ·have hr:i64 (i+K):=⟨by omega,by omega⟩
  simp only[h4,hr,if_true]
  refine⟨by simp[q6k,hr.1,hr.2],fun hx=>?_,fun hx=>?_⟩
  ·have hx':K<1∨inS s (i+K)=false:=by simpa using hx
   rcases hx' with hx|hx
   ·have:¬(1≤K):=by omega
    simp[this]
   ·simp[hx]
  ·have hx':1≤K∧inS s (i+K)=true:=by simpa using hx
   obtain⟨hk,hin2⟩:=hx'
   simp only[hk,hin2]
   refine⟨fun st=>∃(j:Nat),(j:Int)≤K∧st=[.b false,.i ((j:Int)+1)]∧∀m:Nat,m<j→(!decide (q37 s (i+((m:Int)+1))=4))=true,fun st=>K.toNat+1 - (st.getD 1 .u).int.toNat,⟨0,by omega,by simp,fun m hm=>absurd hm (uF _)⟩,?_⟩
   rintro st - ⟨j,hj,rfl,hP⟩
   simp only[Tree.go,q06,X.says,X.ev,X.evs,evl,qe,gnA,qaf]
   refine⟨fun hlt=>?_,fun hlt=>?_⟩
   ·have hr2:i64 (i+((j:Int)+1)):=⟨by omega,by omega⟩
    have hr3:i64 (((j:Int)+1)+1):=⟨by omega,by omega⟩
    refine⟨hr2,fun hx=>?_,fun hx=>⟨hr3,?_⟩⟩
    ·rw[qaa (k:=j) (by omega) (by simp[hx])]
     simp
    ·rw[q2r,if_pos rfl]
     refine⟨⟨j+1,by omega,by simp,q2u hP (by simp[hx])⟩,?_⟩
     simp[D.int]
     omega
   ·have:j=K.toNat:=by omega
    subst this
    rw[q8t hP]
    simp
 ·simp only[h4,if_false]
  refine⟨fun hx=>?_,fun hx=>?_⟩
  ·have hx':vcR s (cellAt s i)=false∨qoz s i=false:=by simpa using hx
   rcases hx' with hx|hx<;>simp[hx]
  ·have hx':vcR s (cellAt s i)=true∧qoz s i=true:=by simpa using hx
   simp[hx'.1,hx'.2]
def zs4(vc:So→Ce→Bool)(rg:So→Int→Bool)(s:So)(u:Un):Bool:=
 rg s u.at'&&if u.old.t=0 then decide (u.old.n=u.at') else if u.old.t=5 then decide (u.old.n=u.at')&&(qcs s u.at'&& !decide (q37 s (u.at' - 1)=5)) else if u.old.t=1∨u.old.t=2∨u.old.t=3 then vc s u.old else false
def qtr:So→Un→Bool:=zs4 vcR inS
theorem z2o:FOk q1u (zmb qtr):=qzc q3s qff q7i ji fun ds outs hw hg=>by
 obtain⟨d,r,rfl,hd,e,r',rfl,he,rfl⟩:=hw
 obtain⟨s,rfl,hs⟩:=wfS hd
 obtain⟨u,rfl,hu⟩:=wfU he
 simp only[zmb,qy,z0y,uB] at hg
 subst hg
 have hl:=hs.cs.1
 simp only[qbl,Tree.go,q06,X.says,X.ev,X.evs,evl,qe,gnA,qaf,qcp,q65,q6q,qtr,zs4]
 cases hin:inS s u.at' with
 |false=>simp
 | true =>
  have h1:=ql.1 hin
  have hr:i64 (u.at' - 1):=⟨by omega,by omega⟩
  simp only[hr,if_true]
  by_cases h0:u.old.t=0
  ·simp[h0]
  ·by_cases h5:u.old.t=5
   ·simp[h5,uY,q5i,q6k,hr.1,hr.2]
   ·by_cases h2:u.old.t=1
    ·simp[h2]
    ·by_cases h3:u.old.t=2
     ·simp[h3]
     ·by_cases h4:u.old.t=3
      ·simp[h4]
      ·simp[h0,h5,h2,h3,h4]
section
section
variable{s:So}
def Ns(s:So)(n:Int):Prop:=q37 s n=0∧¬(cellAt s n).n=n
abbrev nx(s:So)(n:Int):Int:=(cellAt s n).n
theorem q4k{k:Nat}{n:Int}(h:Ns s n):q3h s (k+1) n=q3h s k (nx s n):=if_pos h
theorem q92{k:Nat}{n:Int}(h:¬Ns s n):q3h s (k+1) n=true:=if_neg h
theorem Ns.inS{n:Int}(h:Ns s n):inS s n=true:=qe6 (by decide) h.1
theorem zif{k:Nat}:∀{n:Int},q3h s k n=true→q3h s (k+1) n=true:=by
 induction k with
 |zero=>intro n h;cases h
 | succ k ih =>
  intro n h
  by_cases hn:Ns s n
  ·rw[q4k hn] at h⊢
   exact ih h
  ·exact q92 hn
theorem qgh{k j:Nat}(hk:k≤j){n:Int}(h:q3h s k n=true):q3h s j n=true:=by
 obtain⟨d,rfl⟩:=Nat.exists_eq_add_of_le hk
 clear hk
 induction d with
 |zero=>exact h
 |succ d ih=>exact zif ih
def En(s:So)(n:Int):Prop:=∃k,q3h s k n=true
theorem En.st{n:Int}(h:¬Ns s n):En s n:=⟨1,q92 h⟩
theorem qvd:∀(n:Nat)(l:List Nat),l.Nodup→(∀x∈l,x<n)→l.length≤n
 |0,[],_,_=>uE _
 |0,x::l,_,h=>absurd (h x List.mem_cons_self) (uF _)
 | n + 1, l, hn, h => by
  have h1:=qvd n (l.erase n) (hn.erase n) fun x hx=>by
   have h2:=(hn.mem_erase_iff).1 hx
   have:=h x h2.2
   have:=h2.1
   omega
  have h2:=List.length_erase (a:=n) (l:=l)
  split at h2<;>omega
theorem qzp:∀(k:Nat)(n:Int),q3h s (k+1) n=true→q3h s k n=false→∃l:List Int,l.length=k∧l.Nodup∧(∀x∈l,inS s x=true)∧∀x∈l,∃j,j≤k∧q3h s (j+1) x=true
 |0,n,_,_=>⟨[],rfl,List.nodup_nil,(fun x hx=>by cases hx),fun x hx=>by cases hx⟩
 | k + 1, n, h1, h2 => by
  have hn:Ns s n:=Classical.byContradiction fun hn=>by rw[q92 hn] at h2;cases h2
  rw[q4k hn] at h1 h2
  obtain⟨l,e1,e2,e3,e4⟩:=qzp k _ h1 h2
  refine⟨n::l,by simp[e1],?_,fun x hx=>?_,fun x hx=>?_⟩
  ·refine List.nodup_cons.2 ⟨fun hm=>?_,e2⟩
   obtain⟨j,hj,he⟩:=e4 n hm
   rw[q4k hn] at he
   rw[qgh hj he] at h2
   cases h2
  ·rcases uZ.1 hx with rfl|hx
   ·exact hn.inS
   ·exact e3 x hx
  ·rcases uZ.1 hx with rfl|hx
   ·exact⟨k+1,uE _,by rw[q4k hn];exact h1⟩
   ·obtain⟨j,hj,he⟩:=e4 x hx
    exact⟨j,by omega,he⟩
theorem En.ends{n:Int}(h:En s n):qoz s n=true:=by
 obtain⟨k,hk⟩:=h
 induction k with
 |zero=>cases hk
 | succ k ih =>
  cases hk':q3h s k n with
  |true=>exact ih hk'
  | false =>
   obtain⟨l,e1,e2,e3,-⟩:=qzp k n hk hk'
   have h1:=qvd s.cs.length (l.map Int.toNat) ?_ ?_
   ·rw[uC,e1] at h1
    exact qgh (by omega) hk
   ·refine kA.map _ (fun a b h=>h) ?_
    refine kA.imp_of_mem (R:=fun a b=>a≠b) (fun{a b}ha hb hab e=>hab ?_) e2
    have h1:=ql.1 (e3 a ha)
    have h2:=ql.1 (e3 b hb)
    omega
   ·intro x hx
    obtain⟨a,ha,rfl⟩:=List.mem_map.1 hx
    have h1:=ql.1 (e3 a ha)
    omega
end
end
instance{s:So}{n:Int}:Decidable (Ns s n):=inferInstanceAs (Decidable (_∧_))
theorem qbx{S:Nat→List D→Option (List D)}{R:List D→Prop}{id n:Nat}{x0:X}{body:Tree}{l:List D}{B:Nat→List D→Prop}{v0:D}(N:Nat)(P:Nat→Bool)(h0:x0.ev (evl S l)=v0)
  (h:∀(k:Nat)(B':Nat→List D→Prop),k≤N→(∀j,j<k→P j=true)→(k<N→P k=true→B' id [v0,.i ((k:Int)+1)])→(∀j,j≠id→B' j=B j)→body.go S R (l.take n++[v0,.i k]) B'):(Tree.loop id n [x0,.lit (.i 0)] body).go S R l B:=by
 rw[j3]
 refine⟨fun st=>∃k:Nat,k≤N∧st=[v0,.i k]∧∀j,j<k→P j=true,fun st=>N - (st.getD 1 .u).int.toNat,⟨0,uL _,by simp[X.evs,X.ev,h0],fun j hj=>absurd hj (uF _)⟩,?_⟩
 rintro st - ⟨k,hk,rfl,hP⟩
 refine h k _ hk hP (fun hlt hp=>?_) fun j hj=>by rw[q2r,if_neg hj]
 rw[q2r,if_pos rfl]
 refine⟨⟨k+1,hlt,by simp,q2u hP hp⟩,?_⟩
 simp[D.int]
 omega
def wkB(vc:So→Ce→Bool)(s:So)(w:Wk):Bool:=decide (1≤w.ser)&&(decide (w.ser≤s.ser)&&(vc s w.att&&vc s w.val))
def qgf(s:So):Bool:=decide (1≤s.mx)&&(decide (s.mx≤1048576)&&(decide ((s.cs.length:Int)≤s.mx)&&(decide (0≤s.ser)&&q91 s.ys)))
def qw(s:So):Bool:=qgf s&&((uD s.cs.length).all (fun i=>q5t s (i:Nat))&&((uD s.tr.length).all (fun i=>qtr s (s.tr.getD i default))&&(uD s.wk.length).all fun i=>wkB vcR s (s.wk.getD i default)))
theorem zrp{s:So}{n:Int}(h:0≤q37 s n):inS s n=true:=by
 cases hi:inS s n with
 |true=>rfl
 |false=>rw[q6w hi] at h;omega
theorem quc:FOk q1b (gSb qw):=qq4 qob qz1 z2o ji fun ds outs hw hg=>by
 obtain⟨d,r,rfl,hd,rfl⟩:=hw
 obtain⟨s,rfl,hs⟩:=wfS hd
 simp only[gSb,qy,uB] at hg
 subst hg
 have hl:=hs.cs.1
 have hl2:=hs.tr.1
 have hl3:=hs.wk.1
 have hsy:zgf q91 [D.r (s.ys.map eY)]=some [.b (q91 s.ys)]:=by simp[zgf,q35,map_id' qwk]
 rw[q7u,qj]
 refine⟨by simp only[gnZ,hsy],?_⟩
 rw[zd]
 have hcond:(X.ev (evl (qe [(jv,zgf q91),(q0v,q6q z60 q5t),(q1u,zmb qtr),(qg,q65 vcR)]) [eS s]) (.or (.or (.or (.or (.lt (.fld (.tok 0) 5) (.lit (.i 1))) (.lt (.lit (.i 1048576)) (.fld (.tok 0) 5))) (.lt (.fld (.tok 0) 5) (.len (.fld (.tok 0) 0)))) (.lt (.fld (.tok 0) 4) (.lit (.i 0)))) (.not (.call 0 0 [(.fld (.tok 0) 1)])))).tt= !qgf s:=by
  simp only[gnZ,hsy,qgf]
  by_cases h1:s.mx<1
  ·have:¬1≤s.mx:=by omega
   simp[h1,this]
  ·by_cases h2:1048576<s.mx
   ·have:¬s.mx≤1048576:=by omega
    simp[h2,this]
   ·by_cases h3:s.mx<s.cs.length
    ·have:¬(s.cs.length:Int)≤s.mx:=by omega
     simp[h3,this]
    ·by_cases h4:s.ser<0
     ·have:¬0≤s.ser:=by omega
      simp[h4,this]
     ·have a1:1≤s.mx:=by omega
      have a2:s.mx≤1048576:=by omega
      have a3:(s.cs.length:Int)≤s.mx:=by omega
      have a4:0≤s.ser:=by omega
      simp[h1,h2,h3,h4,a1,a2,a3,a4]
 refine⟨fun hx=>?_,fun hx=>?_⟩
 ·have hh:qgf s=false:=by
   have:=hcond.symm.trans hx
   simpa using this
  simp[q4n,X.evs,X.ev,qw,hh]
 have hh:qgf s=true:=by
  have:=hcond.symm.trans hx
  simpa using this
 have hsy2:q91 s.ys=true:=by
  simp only[qgf,gnB] at hh
  exact hh.2.2.2.2
 refine qbx s.cs.length (fun i=>q5t s (i:Nat)) (v0:=.b false) rfl fun k B' hk hP hB _=>?_
 rw[zd]
 refine⟨fun hlt=>?_,fun hlt=>?_⟩
 ·have hkl:k<s.cs.length:=by simpa[X.ev,evl,qf0,D.int,D.rs,D.tt] using hlt
  have hin:inS s (k:Nat)=true:=ql.2 ⟨by omega,by omega⟩
  have hQ:z60 s (k:Nat)=true:=by simp[z60,hin,hsy2]
  simp only[gnZ,q6q,hQ,if_true]
  refine⟨fun hb=>?_,fun hb=>⟨⟨by omega,by omega⟩,?_⟩⟩
  ·have:q5t s (k:Nat)=false:=by simpa using hb
   have:=qaa (P:=fun i=>q5t s (i:Nat)) hkl this
   simp[qw,this]
  ·exact hB hkl (by simpa using hb)
 have hc:(uD s.cs.length).all (fun i=>q5t s (i:Nat))=true:=by
  have:k=s.cs.length:=by
   have:¬(k<s.cs.length):=by simpa[X.ev,evl,qf0,D.int,D.rs,D.tt] using hlt
   omega
  subst this
  exact q8t hP
 refine qbx s.tr.length (fun i=>qtr s (s.tr.getD i default)) (v0:=.b false) rfl fun k B' hk hP hB _=>?_
 rw[zd]
 refine⟨fun hlt=>?_,fun hlt=>?_⟩
 ·have hkl:k<s.tr.length:=by simpa[X.ev,evl,z3w,D.int,D.rs,D.tt] using hlt
  simp only[gnZ,zmb,q3k eU hkl]
  refine⟨⟨by omega,by omega⟩,fun hb=>?_,fun hb=>⟨⟨by omega,by omega⟩,?_⟩⟩
  ·have:qtr s (s.tr.getD k default)=false:=by simpa only[uR] using hb
   have:=qaa (P:=fun i=>qtr s (s.tr.getD i default)) hkl this
   simp only[qw,this,Bool.false_and,uX]
  ·exact hB hkl (by simpa only[uQ] using hb)
 have hc2:(uD s.tr.length).all (fun i=>qtr s (s.tr.getD i default))=true:=by
  have:k=s.tr.length:=by
   have:¬(k<s.tr.length):=by simpa[X.ev,evl,z3w,D.int,D.rs,D.tt] using hlt
   omega
  subst this
  exact q8t hP
 refine qbx s.wk.length (fun i=>wkB vcR s (s.wk.getD i default)) (v0:=.b false) rfl fun k B' hk hP hB _=>?_
 rw[zd]
 refine⟨fun hlt=>?_,fun hlt=>?_⟩
 ·have hkl:k<s.wk.length:=by simpa[X.ev,evl,qxs,D.int,D.rs,D.tt] using hlt
  simp only[gnZ,q65,q3k eW hkl]
  have hw:((decide ((s.wk.getD k default).ser<1)||decide (s.ser<(s.wk.getD k default).ser)|| !vcR s (s.wk.getD k default).att|| !vcR s (s.wk.getD k default).val))= !wkB vcR s (s.wk.getD k default):=by
   generalize s.wk.getD k default=w
   simp only[wkB]
   by_cases h1:w.ser<1
   ·have:¬1≤w.ser:=by omega
    simp[h1,this]
   ·by_cases h2:s.ser<w.ser
    ·have:¬w.ser≤s.ser:=by omega
     simp[h2,this]
    ·have a1:1≤w.ser:=by omega
     have a2:w.ser≤s.ser:=by omega
     simp[h1,h2,a1,a2]
  refine⟨⟨by omega,by omega⟩,fun hb=>?_,fun hb=>⟨⟨by omega,by omega⟩,?_⟩⟩
  ·rw[hw] at hb
   have:=qaa (P:=fun i=>wkB vcR s (s.wk.getD i default)) hkl (by simpa only[uR] using hb)
   simp only[qw,this,uX]
  ·rw[hw] at hb
   exact hB hkl (by simpa only[uQ] using hb)
 have hc3:(uD s.wk.length).all (fun i=>wkB vcR s (s.wk.getD i default))=true:=by
  have:k=s.wk.length:=by
   have:¬(k<s.wk.length):=by simpa[X.ev,evl,qxs,D.int,D.rs,D.tt] using hlt
   omega
  subst this
  exact q8t hP
 simp only[q4n,X.evs,X.ev,qw,hh,hc,hc2,hc3,Bool.and_true]
end Go.Proofs.YtdaadonfbnedaaaGreat
