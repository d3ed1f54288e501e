/-
 Lemmas of the walk and plain laws, put together. No condition.
-/
import Derived.StillTailTactics
import Derived.TacticsInMore
import Derived.Test.YtdaadonfbnedaaaGreatKd
namespace Go.Proofs.YtdaadonfbnedaaaGreat
open Go.RowKit
set_option linter.unusedVariables false
set_option linter.unusedSimpArgs false
set_option maxRecDepth 100000
open _root_.Go.Proofs.Tryz renaming prog→uA,ntmps82→uM,func82→uP,f103→uQ,f102→uR,f68→uT,f65→uU
open _root_.Nat renaming le_refl→uB,reduceSub→uN,reduceAdd→uO
open _root_.Array renaming replicate_zero→uC,replicate_succ→uD
open _root_.List renaming append_toArray→uE,size_toArray→uF,push_toArray→uG,getElem_take→uH,length_cons→uI,cons_append→uJ,nil_append→uK,length_nil→uL
abbrev zk:Ty:=.row 29
abbrev qnl:Ty:=.row 87
abbrev z2k:Ty:=.row 71
abbrev q35:Ty:=.row 73
abbrev qd:Ty:=.st 26
abbrev qk:Ty:=.st 28
abbrev y7:Ty:=.int .i64
abbrev qlb:Ty:=.row 54
abbrev qo8:Ty:=.st 53
abbrev q2f:Ty:=.st 70
abbrev yo:Ty:=.st 72
abbrev yd:Ty:=.st 86
abbrev z8b:Ty:=.row 102
abbrev qn2:Ty:=.st 101
abbrev GfZ:=List D→Option (List D)
def EnZ(ct:Ct):Prop:=∀(args:Array Value)(w:World),(callFunc ct.f args).run uA w=.ok (.enter ct.f args) w
def CdZ(T:Tbl)(a:Ann)(ct:Ct)(f:Func)(t:Tree):Prop:=∀cd,f.body=some cd→qgg uA T a ct f cd=t
def HgZ(t:Tree)(ct:Ct)(T:Tbl)(g:GfZ):Prop:=∀ds outs,WfA ct.ars ds→g ds=some outs→t.go (qb T) (fun o=>o=outs) ds fun _ _=>False
variable{g:GfZ}
theorem ym{ct:Ct}{T:Tbl}{a:Ann}{f:Func}{t:Tree}{cd:Code}(hc:CdZ T a ct f t)(htb:q0i T)(hf:uA.funcs[ct.f]? =some f)(hb:f.body=some cd)(he:EnZ ct)(hd:ct.ar.length≤f.ntmps)(h:HgZ t ct T g)(hnp:q76 T=true:=by rfl)(hkp:ct.kp=[]:=by rfl)(hfl:ct.fl=[]:=by rfl):FOk ct g:=
 zgq a f cd htb hf hb he hd (fun ds outs hw hg=>by rw[hc cd hb];exact h ds outs hw hg) hnp hkp hfl
def q20:Ct:=⟨67,[.val (.int .i64)],[(.st 26,true),(.int .i64,false)],[],none,[],[]⟩
theorem qpg:EnZ q20:=fun _ _=>by kernel_rfl
def qz3:Ann:=⟨[0,2,3,9],[]⟩
def qb7:Tree:=(.br (.or (.lt (.tok 0) (.lit (.i 1))) (.lt (.lit (.i 1048576)) (.tok 0))) (.leaf [(.lit (.a [(.r []),(.r []),(.r []),(.r []),(.i 0),(.i 0)])),(.lit (.i 1))]) (.leaf [(.set (.lit (.a [(.r []),(.r []),(.r []),(.r []),(.i 0),(.i 0)])) 5 (.tok 0)),(.lit (.i 0))]))
theorem qwo:CdZ [] qz3 q20 Tryz.f67 qb7:=fun cd h=>by injection h with h;subst h;kernel_rfl
theorem qys(h:HgZ qb7 q20 [] g):FOk q20 g:=ym (qwo) .nil rfl rfl qpg (by decide) h
def z7:Ct:=⟨68,[.ref (.st 26) true],[(.st 28,false),(.int .i64,false)],[],none,[],[(0,0,.st 28),(0,1,.st 86),(0,2,.st 70),(0,3,.st 72)]⟩
theorem q2y:EnZ z7:=fun _ _=>by kernel_rfl
def qe9:Ann:=⟨[0,2,3,5,16],[]⟩
def q80:Tree:=(.br (.le (.fld (.tok 0) 5) (.len (.fld (.tok 0) 0))) (.leaf [(.lit (.a [(.i 0),(.i 0)])),(.lit (.i 13)),(.tok 0)]) (.need [(.le (.add (.len (.fld (.tok 0) 0)) (.lit (.i 1))) (.lit (.i 8796093021952))),(.le (.call 0 0 []) (.len (.fld (.tok 0) 0)))] (.leaf [(.mk [(.lit (.i 0)),(.len (.fld (.tok 0) 0))]),(.lit (.i 0)),(.set (.tok 0) 0 (.app (.fld (.tok 0) 0) (.row [(.mk [(.lit (.i 0)),(.len (.fld (.tok 0) 0))])])))])))
theorem qmh(m0 m1 m2 m3:Int):CdZ [(ju z7.f (.st 28),fun _=>some [.i m0]),(ju z7.f (.st 86),fun _=>some [.i m1]),(ju z7.f (.st 70),fun _=>some [.i m2]),(ju z7.f (.st 72),fun _=>some [.i m3])] qe9 z7 uT q80:=fun cd h=>by injection h with h;subst h;kernel_rfl
theorem qpi{g:List D→Option (List D)}(h:∀ds outs,WfA z7.ars ds→g ds=some outs→q80.go (qb [(ju z7.f (.st 28),fun _=>some [.i (((ds.getD 0 .u).fld 0).rs.length:Nat)]),(ju z7.f (.st 86),fun _=>some [.i (((ds.getD 0 .u).fld 1).rs.length:Nat)]),(ju z7.f (.st 70),fun _=>some [.i (((ds.getD 0 .u).fld 2).rs.length:Nat)]),(ju z7.f (.st 72),fun _=>some [.i (((ds.getD 0 .u).fld 3).rs.length:Nat)])]) (fun o=>o=outs) ds fun _ _=>False):FOk z7 g:=
 FOk.of_at q2y fun ds outs hw hg=>z1i qe9 uT _ (.cons (q1w _ q2y _ _) (.cons (q1w _ q2y _ _) (.cons (q1w _ q2y _ _) (.cons (q1w _ q2y _ _) .nil)))) rfl rfl (by decide) (by rw[qmh _ _ _ _ _ rfl];exact h ds outs hw hg) rfl (FlF.of fun k j te hm=>by
  rw[show z7.fl=[(0,0,.st 28),(0,1,.st 86),(0,2,.st 70),(0,3,.st 72)] from rfl] at hm;simp only[gnM] at hm;rcases hm with⟨rfl,rfl,rfl⟩|⟨rfl,rfl,rfl⟩|⟨rfl,rfl,rfl⟩|⟨rfl,rfl,rfl⟩<;>exact⟨by decide,uB _⟩)
def q15:Ct:=⟨26,[.val (.int .i64)],[(.st 28,false)],[],none,[],[]⟩
theorem qe8:EnZ q15:=fun _ _=>by kernel_rfl
def qyd:Ann:=⟨[0,2],[]⟩
def qbh:Tree:=(.leaf [(.mk [(.lit (.i 1)),(.tok 0)])])
theorem qv3:CdZ [] qyd q15 Tryz.f26 qbh:=fun cd h=>by injection h with h;subst h;kernel_rfl
theorem qyx(h:HgZ qbh q15 [] g):FOk q15 g:=ym (qv3) .nil rfl rfl qe8 (by decide) h
def jc:Ct:=⟨70,[.val (.st 26),.val (.int .i64)],[(.int .i64,false)],[],none,[],[]⟩
theorem ql8:EnZ jc:=fun _ _=>by kernel_rfl
def qq8:Ann:=⟨[0,1,2,4,13],[]⟩
def q7o:Tree:=(.br (.or (.lt (.tok 1) (.lit (.i 0))) (.le (.len (.fld (.tok 0) 1)) (.tok 1))) (.leaf [(.lit (.i (-1)))]) (.need [(.le (.lit (.i 0)) (.tok 1)),(.lt (.tok 1) (.len (.fld (.tok 0) 1)))] (.leaf [(.fld (.get (.fld (.tok 0) 1) (.tok 1)) 1)])))
theorem qo5:CdZ [] qq8 jc Tryz.f70 q7o:=fun cd h=>by injection h with h;subst h;kernel_rfl
theorem qqc(h:HgZ q7o jc [] g):FOk jc g:=ym (qo5) .nil rfl rfl ql8 (by decide) h
def ja:Ct:=⟨71,[.val (.st 26),.val (.int .i64)],[(.int .i64,false)],[],none,[],[]⟩
theorem qq5:EnZ ja:=fun _ _=>by kernel_rfl
def qyj:Ann:=⟨[0,1,2,4,13],[]⟩
def qau:Tree:=(.br (.or (.lt (.tok 1) (.lit (.i 0))) (.le (.len (.fld (.tok 0) 0)) (.tok 1))) (.leaf [(.lit (.i (-1)))]) (.need [(.le (.lit (.i 0)) (.tok 1)),(.lt (.tok 1) (.len (.fld (.tok 0) 0)))] (.leaf [(.fld (.get (.fld (.tok 0) 0) (.tok 1)) 0)])))
theorem qsm:CdZ [] qyj ja Tryz.f71 qau:=fun cd h=>by injection h with h;subst h;kernel_rfl
theorem qxy(h:HgZ qau ja [] g):FOk ja g:=ym (qsm) .nil rfl rfl qq5 (by decide) h
def qh:Ct:=⟨42,[.val (.st 26),.val (.st 28)],[(.bool,false)],[],none,[],[]⟩
theorem qer:EnZ qh:=fun _ _=>by kernel_rfl
def qhe:Ann:=⟨[0,1,2,3,4,5,7,8,10,17,29,36],[]⟩
def q4d:Tree:=(.br (.eq (.fld (.tok 1) 0) (.lit (.i 1))) (.leaf [(.lit (.b .true))]) (.br (.eq (.fld (.tok 1) 0) (.lit (.i 2))) (.need [(.ok 0 [(.tok 0),(.fld (.tok 1) 1)])] (.leaf [(.eq (.call 0 0 [(.tok 0),(.fld (.tok 1) 1)]) (.lit (.i 0)))])) (.br (.eq (.fld (.tok 1) 0) (.lit (.i 0))) (.need [(.ok 1 [(.tok 0),(.fld (.tok 1) 1)])] (.leaf [(.and (.le (.lit (.i 0)) (.call 1 0 [(.tok 0),(.fld (.tok 1) 1)])) (.not (.eq (.call 1 0 [(.tok 0),(.fld (.tok 1) 1)]) (.lit (.i 4)))))])) (.br (.eq (.fld (.tok 1) 0) (.lit (.i 3))) (.need [(.ok 1 [(.tok 0),(.fld (.tok 1) 1)])] (.leaf [(.eq (.call 1 0 [(.tok 0),(.fld (.tok 1) 1)]) (.lit (.i 4)))])) (.br (.eq (.fld (.tok 1) 0) (.lit (.i 5))) (.need [(.ok 1 [(.tok 0),(.fld (.tok 1) 1)])] (.leaf [(.eq (.call 1 0 [(.tok 0),(.fld (.tok 1) 1)]) (.lit (.i 5)))])) (.leaf [(.lit (.b .false))]))))))
theorem qfk(g0 g1:GfZ):CdZ [(jc,g0),(ja,g1)] qhe qh Tryz.f42 q4d:=fun cd h=>by injection h with h;subst h;kernel_rfl
variable{g0 g1:GfZ}
theorem qhd(h0:FOk jc g0)(h1:FOk ja g1)(h:HgZ q4d qh [(jc,g0),(ja,g1)] g):FOk qh g:=ym (qfk g0 g1) (.cons h0 (.cons h1 .nil)) rfl rfl qer (by decide) h
def zj:Ct:=⟨53,[.val (.st 26),.val (.st 28)],[(.st 28,false)],[],none,[],[]⟩
theorem qln:EnZ zj:=fun _ _=>by kernel_rfl
def qqd:Ann:=⟨[0,1,2,3,4,8,12,13,14,34],[(4,⟨[(13,.int .i64,false)],[3],[14,15,16,17,18,19,20,21,22,23,24,25,26,27,28,29,30,31,32,33,34,35,36,37,38,39,40,41],[]⟩)]⟩
def q4r:Tree:=
 let b:X:=.fld (.tok 3) 1
 let c:X:=.fld (.tok 0) 0
 let d:X:=.lit (.i 0)
 let f:X:=.add (.tok 2) (.lit (.i 1))
 let a:X:=.or (.not (.eq (.fld (.tok 3) 0) d)) (.lt (.call 1 0 [(.tok 0),b]) d)
 let e:X:=.lt b (.len c)
 (.need [(.ok 0 [(.tok 0),(.tok 1)])] (.br (.not (.call 0 0 [(.tok 0),(.tok 1)])) (.leaf [(.lit (.a [(.i 0),(.i 0)]))]) (.loop 4 2 [d,(.tok 1)] (.br (.lt (.tok 2) (.len c)) (.need [(.imp (.not a) (.le d b)),(.imp (.not a) e),(.imp (.not a) (.le d b)),(.imp (.not a) e),(.imp (.not (.not (.eq (.fld (.tok 3) 0) d))) (.ok 1 [(.tok 0),b]))] (.br (.or a (.eq (.get c b) (.tok 3))) (.leaf [(.tok 3)]) (.need [(.le d b),e] (.need [(.rng .i64 f)] (.back 4 [f,(.get c b)]))))) (.leaf [(.tok 3)])))))
theorem qn4(g0 g1:GfZ):CdZ [(qh,g0),(ja,g1)] qqd zj Tryz.f53 q4r:=fun cd h=>by injection h with h;subst h;kernel_rfl
theorem qek(h0:FOk qh g0)(h1:FOk ja g1)(h:HgZ q4r zj [(qh,g0),(ja,g1)] g):FOk zj g:=ym (qn4 g0 g1) (.cons h0 (.cons h1 .nil)) rfl rfl qln (by decide) h
def q07:Ct:=⟨55,[.val (.st 26),.val (.int .i64)],[(.bool,false)],[],none,[],[]⟩
theorem qxw:EnZ q07:=fun _ _=>by kernel_rfl
def z7c:Ann:=⟨[0,1,2,4],[]⟩
def qe3:Tree:=(.leaf [(.and (.le (.lit (.i 0)) (.tok 1)) (.lt (.tok 1) (.len (.fld (.tok 0) 0))))])
theorem z1j:CdZ [] z7c q07 Tryz.f55 qe3:=fun cd h=>by injection h with h;subst h;kernel_rfl
theorem z6y(h:HgZ qe3 q07 [] g):FOk q07 g:=ym (z1j) .nil rfl rfl qxw (by decide) h
def qu:Ct:=⟨32,[.val (.st 26),.val (.st 28)],[(.st 28,false),(.bool,false)],[],none,[],[]⟩
theorem qhu:EnZ qu:=fun _ _=>by kernel_rfl
def qky:Ann:=⟨[0,1,2,3,4,5,9,15,16,23],[]⟩
def q5m:Tree:=(.need [(.ok 0 [(.tok 0),(.tok 1)])] (.br (.not (.call 0 0 [(.tok 0),(.tok 1)])) (.leaf [(.lit (.a [(.i 0),(.i 0)])),(.lit (.b .false))]) (.need [(.ok 1 [(.tok 0),(.tok 1)])] (.br (.eq (.fld (.call 1 0 [(.tok 0),(.tok 1)]) 0) (.lit (.i 0))) (.need [(.ok 2 [(.tok 0),(.fld (.call 1 0 [(.tok 0),(.tok 1)]) 1)])] (.leaf [(.call 1 0 [(.tok 0),(.tok 1)]),(.call 2 0 [(.tok 0),(.fld (.call 1 0 [(.tok 0),(.tok 1)]) 1)])])) (.br (.eq (.fld (.call 1 0 [(.tok 0),(.tok 1)]) 0) (.lit (.i 5))) (.need [(.imp (.call 2 0 [(.tok 0),(.fld (.call 1 0 [(.tok 0),(.tok 1)]) 1)]) (.ok 2 [(.tok 0),(.add (.fld (.call 1 0 [(.tok 0),(.tok 1)]) 1) (.lit (.i 2)))])),(.imp (.call 2 0 [(.tok 0),(.fld (.call 1 0 [(.tok 0),(.tok 1)]) 1)]) (.rng .i64 (.add (.fld (.call 1 0 [(.tok 0),(.tok 1)]) 1) (.lit (.i 2))))),(.ok 2 [(.tok 0),(.fld (.call 1 0 [(.tok 0),(.tok 1)]) 1)])] (.leaf [(.call 1 0 [(.tok 0),(.tok 1)]),(.and (.call 2 0 [(.tok 0),(.fld (.call 1 0 [(.tok 0),(.tok 1)]) 1)]) (.call 2 0 [(.tok 0),(.add (.fld (.call 1 0 [(.tok 0),(.tok 1)]) 1) (.lit (.i 2)))]))])) (.leaf [(.lit (.a [(.i 0),(.i 0)])),(.lit (.b .false))]))))))
theorem qj7(g0 g1 g2:GfZ):CdZ [(qh,g0),(zj,g1),(q07,g2)] qky qu Tryz.f32 q5m:=fun cd h=>by injection h with h;subst h;kernel_rfl
variable{g2:GfZ}
theorem ql9(h0:FOk qh g0)(h1:FOk zj g1)(h2:FOk q07 g2)(h:HgZ q5m qu [(qh,g0),(zj,g1),(q07,g2)] g):FOk qu g:=ym (qj7 g0 g1 g2) (.cons h0 (.cons h1 (.cons h2 .nil))) rfl rfl qhu (by decide) h
def y9:Ct:=⟨41,[.val (.st 26),.val (.st 28)],[(.bool,false)],[],none,[],[]⟩
theorem qhg:EnZ y9:=fun _ _=>by kernel_rfl
def qkp:Ann:=⟨[0,1,2,3,4,5,14,15],[]⟩
def q5r:Tree:=
 let a:X:=.add (.fld (.tok 1) 1) (.lit (.i 2))
 let f:X:=.lit (.b .true)
 let b:X:=.get (.fld (.tok 0) 0) a
 let d:X:=.rng .i64 a
 let c:X:=.eq b (.mk [(.lit (.i 0)),a])
 let e:X:=.fld b 0
 (.need [d,(.le (.lit (.i 0)) a),(.lt a (.len (.fld (.tok 0) 0)))] (.br (.eq e (.lit (.i 1))) (.br (.eq e (.lit (.i 1))) (.leaf [f]) (.need [d] (.leaf [c]))) (.br (.eq e (.lit (.i 2))) (.br (.eq e (.lit (.i 2))) (.leaf [f]) (.need [d] (.leaf [c]))) (.br (.eq e (.lit (.i 3))) (.leaf [f]) (.need [d] (.leaf [c]))))))
theorem qih:CdZ [] qkp y9 Tryz.f41 q5r:=fun cd h=>by injection h with h;subst h;kernel_rfl
theorem qla(h:HgZ q5r y9 [] g):FOk y9 g:=ym (qih) .nil rfl rfl qhg (by decide) h
def jj:Ct:=⟨127,[.val (.st 53),.ref (.int .i64) true,.cell 146 3],[],[(.cell 2,.fn 127 [1,2])],none,[],[]⟩
theorem qbw:EnZ jj:=fun _ _=>by kernel_rfl
def qqb:Ann:=⟨[0,1,2,3,4,15],[(3,⟨[(4,.int .i64,false)],[1],[7,8,9,10,11,12,13,14,15,18,19,20,21,22,23,24,16,17],[]⟩)]⟩
def q89:Tree:=(.need [(.rng .i64 (.sub (.tok 1) (.lit (.i 1))))] (.loop 3 2 [(.lit (.i 0)),(.sub (.tok 1) (.lit (.i 1)))] (.br (.and (.lt (.tok 2) (.len (.fld (.tok 0) 3))) (.lt (.lit (.i 0)) (.tok 3))) (.need [(.ok 0 [(.get (.fld (.tok 0) 3) (.tok 2)),(.tok 3)]),(.le (.lit (.i 0)) (.tok 2)),(.lt (.tok 2) (.len (.fld (.tok 0) 3)))] (.need [(.rng .i64 (.add (.tok 2) (.lit (.i 1))))] (.back 3 [(.add (.tok 2) (.lit (.i 1))),(.call 0 0 [(.get (.fld (.tok 0) 3) (.tok 2)),(.tok 3)])]))) (.leaf [(.tok 3)]))))
theorem qof(g0:GfZ):CdZ [(jj,g0)] qqb jj Tryz.f127 q89:=fun cd h=>by injection h with h;subst h;kernel_rfl
theorem qqi(h0:FOk jj g0)(h:HgZ q89 jj [(jj,g0)] g):FOk jj g:=ym (qof g0) (.cons h0 .nil) rfl rfl qbw (by decide) h
def q05:Ct:=⟨114,[.val (.st 53)],[(.int .i64,false)],[],none,[],[]⟩
theorem qrm:EnZ q05:=fun _ _=>by kernel_rfl
def qyq:Ann:=⟨[0,1,2,3,4],[]⟩
def qbj:Tree:=(.need [(.ok 0 [(.tok 0),(.lit (.i 2001))])] (.need [(.rng .i64 (.sub (.lit (.i 2001)) (.call 0 0 [(.tok 0),(.lit (.i 2001))])))] (.leaf [(.sub (.lit (.i 2001)) (.call 0 0 [(.tok 0),(.lit (.i 2001))]))])))
theorem quj(g0:GfZ):CdZ [(jj,g0)] qyq q05 Tryz.f114 qbj:=fun cd h=>by injection h with h;subst h;kernel_rfl
theorem qy8(h0:FOk jj g0)(h:HgZ qbj q05 [(jj,g0)] g):FOk q05 g:=ym (quj g0) (.cons h0 .nil) rfl rfl qrm (by decide) h
def yf:Ct:=⟨115,[.val (.st 53)],[(.bool,false)],[],none,[],[]⟩
theorem qef:EnZ yf:=fun _ _=>by kernel_rfl
def qyk:Ann:=⟨[0,1,2,3,4,6,7,28,39,56,86],[(12,⟨[(3,.bool,false),(4,.int .i64,false)],[],[79,80,81,82,83,84,85,86,89,90,91,92,93,94,87,88],[]⟩)]⟩
def qb0:Tree:=
 let b:X:=.add (.tok 2) (.lit (.i 1))
 let c:X:=.lit (.i 0)
 let j:X:=.tok 0
 let o:X:=.tok 1
 let a:X:=.fld j 3
 let f:X:=.and (.eq (.fld j 1) c) (.le (.slen (.fld j 2)) (.lit (.i 100)))
 let h:X:=.le c (.tok 2)
 let k:X:=.rng .i64 b
 let m:X:=.eq (.fld j 2) (.lit (.s ⟨#[]⟩))
 let p:X:=.fld j 0
 let d:X:=.lt (.tok 2) (.len a)
 let e:X:=.get a (.tok 2)
 let n:X:=.eq (.len a) c
 let g:X:=.and d o
 let i:X:=.call 0 0 [e]
 let l:X:=.ok 0 [e]
 (.br (.eq p c) (.loop 12 1 [(.and (.and (.and (.le c (.fld j 1)) (.le (.fld j 1) (.lit (.i 1099511627776)))) m) n),c] (.br g (.need [h,d,l] (.need [k] (.back 12 [i,b]))) (.leaf [o]))) (.br (.eq p (.lit (.i 1))) (.loop 12 1 [(.and m n),c] (.br g (.need [h,d,l] (.need [k] (.back 12 [i,b]))) (.leaf [o]))) (.br (.eq p (.lit (.i 2))) (.loop 12 1 [(.and f n),c] (.br g (.need [h,d,l] (.need [k] (.back 12 [i,b]))) (.leaf [o]))) (.br (.eq p (.lit (.i 3))) (.loop 12 1 [(.and (.and f (.lt c (.len a))) (.le (.len a) (.lit (.i 8)))),c] (.br g (.need [h,d,l] (.need [k] (.back 12 [i,b]))) (.leaf [o]))) (.loop 12 1 [(.lit (.b .false)),c] (.br g (.need [h,d,l] (.need [k] (.back 12 [i,b]))) (.leaf [o])))))))
theorem qum(g0:GfZ):CdZ [(yf,g0)] qyk yf Tryz.f115 qb0:=fun cd h=>by injection h with h;subst h;kernel_rfl
theorem qx7(h0:FOk yf g0)(h:HgZ qb0 yf [(yf,g0)] g):FOk yf g:=ym (qum g0) (.cons h0 .nil) rfl rfl qef (by decide) h
def yx:Ct:=⟨98,[.val (.st 53)],[(.bool,false)],[],none,[],[]⟩
theorem qo9:EnZ yx:=fun _ _=>by kernel_rfl
def qw7:Ann:=⟨[0,1,2],[]⟩
def q9o:Tree:=(.need [(.ok 0 [(.tok 0)]),(.imp (.le (.call 0 0 [(.tok 0)]) (.lit (.i 2000))) (.ok 1 [(.tok 0)]))] (.leaf [(.and (.le (.call 0 0 [(.tok 0)]) (.lit (.i 2000))) (.call 1 0 [(.tok 0)]))]))
theorem qre(g0 g1:GfZ):CdZ [(q05,g0),(yf,g1)] qw7 yx Tryz.f98 q9o:=fun cd h=>by injection h with h;subst h;kernel_rfl
theorem qtj(h0:FOk q05 g0)(h1:FOk yf g1)(h:HgZ q9o yx [(q05,g0),(yf,g1)] g):FOk yx g:=ym (qre g0 g1) (.cons h0 (.cons h1 .nil)) rfl rfl qo9 (by decide) h
def q0o:Ct:=⟨113,[.val (.st 53)],[(.st 53,false)],[],none,[],[]⟩
theorem qid:EnZ q0o:=fun _ _=>by kernel_rfl
def qmt:Ann:=⟨[0,1,2],[]⟩
def q6q:Tree:=(.leaf [(.tok 0)])
theorem qjw:CdZ [] qmt q0o Tryz.f113 q6q:=fun cd h=>by injection h with h;subst h;kernel_rfl
theorem qmd(h:HgZ q6q q0o [] g):FOk q0o g:=ym (qjw) .nil rfl rfl qid (by decide) h
def q02:Ct:=⟨112,[.val (.st 53),.fn 113 []],[(.st 53,false)],[],none,[],[]⟩
theorem qd9:EnZ q02:=fun _ _=>by kernel_rfl
def qvy:Ann:=⟨[0,1,2,4,5,7,10,22,23,24,25],[(5,⟨[(24,.int .i64,false)],[5],[25,26,27,7,28,29,30,31,32,33,34,35,36],[]⟩)]⟩
def q9r:Tree:=(.br (.eq (.fld (.tok 0) 0) (.lit (.i 0))) (.need [(.ok 0 [(.tok 0)])] (.leaf [(.call 0 0 [(.tok 0)])])) (.loop 5 1 [(.lit (.i 0)),(.set (.set (.set (.lit (.a [(.i 0),(.i 0),(.s ⟨#[]⟩),(.r [])])) 0 (.fld (.tok 0) 0)) 1 (.fld (.tok 0) 1)) 2 (.fld (.tok 0) 2))] (.br (.lt (.tok 1) (.len (.fld (.tok 0) 3))) (.need [(.le (.lit (.i 0)) (.tok 1)),(.lt (.tok 1) (.len (.fld (.tok 0) 3)))] (.need [(.le (.add (.len (.fld (.tok 2) 3)) (.lit (.i 1))) (.lit (.i 2513169434843))),(.ok 1 [(.get (.fld (.tok 0) 3) (.tok 1))])] (.need [(.rng .i64 (.add (.tok 1) (.lit (.i 1))))] (.back 5 [(.add (.tok 1) (.lit (.i 1))),(.set (.tok 2) 3 (.app (.fld (.tok 2) 3) (.row [(.call 1 0 [(.get (.fld (.tok 0) 3) (.tok 1))])])))])))) (.leaf [(.tok 2)]))))
theorem qqq(g0 g1:GfZ):CdZ [(q0o,g0),(q02,g1)] qvy q02 Tryz.f112 q9r:=fun cd h=>by injection h with h;subst h;kernel_rfl
theorem qw5(h0:FOk q0o g0)(h1:FOk q02 g1)(h:HgZ q9r q02 [(q0o,g0),(q02,g1)] g):FOk q02 g:=ym (qqq g0 g1) (.cons h0 (.cons h1 .nil)) rfl rfl qd9 (by decide) h
def yi:Ct:=⟨74,[.val (.st 53)],[(.st 53,false)],[],none,[],[]⟩
theorem qny:EnZ yi:=fun _ _=>by kernel_rfl
def qu6:Ann:=⟨[0,1,2,5],[]⟩
def q9p:Tree:=(.need [(.ok 0 [(.tok 0)])] (.br (.not (.call 0 0 [(.tok 0)])) (.leaf [(.lit (.a [(.i 0),(.i 0),(.s ⟨#[]⟩),(.r [])]))]) (.need [(.ok 1 [(.tok 0)])] (.leaf [(.call 1 0 [(.tok 0)])]))))
theorem qpb(g0 g1:GfZ):CdZ [(yx,g0),(q02,g1)] qu6 yi Tryz.f74 q9p:=fun cd h=>by injection h with h;subst h;kernel_rfl
theorem qte(h0:FOk yx g0)(h1:FOk q02 g1)(h:HgZ q9p yi [(yx,g0),(q02,g1)] g):FOk yi g:=ym (qpb g0 g1) (.cons h0 (.cons h1 .nil)) rfl rfl qny (by decide) h
def zo:Ct:=⟨30,[.val (.str)],[(.st 53,false)],[],none,[],[]⟩
theorem qqe:EnZ zo:=fun _ _=>by kernel_rfl
def qxz:Ann:=⟨[0,2],[]⟩
def qao:Tree:=(.need [(.ok 0 [(.set (.set (.lit (.a [(.i 0),(.i 0),(.s ⟨#[]⟩),(.r [])])) 0 (.lit (.i 2))) 2 (.tok 0))])] (.leaf [(.call 0 0 [(.set (.set (.lit (.a [(.i 0),(.i 0),(.s ⟨#[]⟩),(.r [])])) 0 (.lit (.i 2))) 2 (.tok 0))])]))
theorem qv9(g0:GfZ):CdZ [(yi,g0)] qxz zo Tryz.f30 qao:=fun cd h=>by injection h with h;subst h;kernel_rfl
theorem qx1(h0:FOk yi g0)(h:HgZ qao zo [(yi,g0)] g):FOk zo g:=ym (qv9 g0) (.cons h0 .nil) rfl rfl qqe (by decide) h
def q1h:Ct:=⟨97,[.val (.int .i64)],[(.bool,false)],[],none,[],[]⟩
theorem qlx:EnZ q1h:=fun _ _=>by kernel_rfl
def qpn:Ann:=⟨[0,2],[]⟩
def q7q:Tree:=(.leaf [(.and (.le (.lit (.i 0)) (.tok 0)) (.le (.tok 0) (.lit (.i 1099511627776))))])
theorem qn9:CdZ [] qpn q1h Tryz.f97 q7q:=fun cd h=>by injection h with h;subst h;kernel_rfl
theorem qq3(h:HgZ q7q q1h [] g):FOk q1h g:=ym (qn9) .nil rfl rfl qlx (by decide) h
def q0b:Ct:=⟨64,[.val (.int .i64)],[(.st 53,false)],[],none,[],[]⟩
theorem qsg:EnZ q0b:=fun _ _=>by kernel_rfl
def z4f:Ann:=⟨[0,2,5],[]⟩
def qcm:Tree:=(.need [(.ok 0 [(.tok 0)])] (.br (.not (.call 0 0 [(.tok 0)])) (.leaf [(.lit (.a [(.i 0),(.i 0),(.s ⟨#[]⟩),(.r [])]))]) (.leaf [(.set (.lit (.a [(.i 0),(.i 0),(.s ⟨#[]⟩),(.r [])])) 1 (.tok 0))])))
theorem qxd(g0:GfZ):CdZ [(q1h,g0)] z4f q0b Tryz.f64 qcm:=fun cd h=>by injection h with h;subst h;kernel_rfl
theorem z43(h0:FOk q1h g0)(h:HgZ qcm q0b [(q1h,g0)] g):FOk q0b g:=ym (qxd g0) (.cons h0 .nil) rfl rfl qsg (by decide) h
def yp:Ct:=⟨29,[.val (.str),.val (.row 54)],[(.st 53,false)],[],none,[],[]⟩
theorem qjv:EnZ yp:=fun _ _=>by kernel_rfl
def qpl:Ann:=⟨[0,1,4,7],[]⟩
def q8e:Tree:=(.br (.eq (.len (.tok 1)) (.lit (.i 0))) (.need [(.ok 0 [(.tok 0)])] (.leaf [(.call 0 0 [(.tok 0)])])) (.need [(.ok 1 [(.set (.set (.set (.lit (.a [(.i 0),(.i 0),(.s ⟨#[]⟩),(.r [])])) 0 (.lit (.i 3))) 2 (.tok 0)) 3 (.tok 1))])] (.leaf [(.call 1 0 [(.set (.set (.set (.lit (.a [(.i 0),(.i 0),(.s ⟨#[]⟩),(.r [])])) 0 (.lit (.i 3))) 2 (.tok 0)) 3 (.tok 1))])])))
theorem qnu(g0 g1:GfZ):CdZ [(zo,g0),(yi,g1)] qpl yp Tryz.f29 q8e:=fun cd h=>by injection h with h;subst h;kernel_rfl
theorem qpp(h0:FOk zo g0)(h1:FOk yi g1)(h:HgZ q8e yp [(zo,g0),(yi,g1)] g):FOk yp g:=ym (qnu g0 g1) (.cons h0 (.cons h1 .nil)) rfl rfl qjv (by decide) h
def q1z:Ct:=⟨83,[.val (.row 54),.val (.st 53)],[(.st 53,false)],[],none,[],[]⟩
theorem qqg:EnZ q1z:=fun _ _=>by kernel_rfl
def qz2:Ann:=⟨[0,1,3,4,5,7,8,9,17,21,22,23,24,38,47],[(5,⟨[(5,.int .i64,false),(23,.int .i64,false)],[4],[24,25,26,7,27,28,29,30,31,32,33,34,35,36,37,38,39,40],[]⟩),
 (13,⟨[(9,.int .i64,false)],[8],[46,47,50,51,52,53,54,55,56,57,48,49],[]⟩)]⟩
def qb2:Tree:=
 let b:X:=.lit (.a [(.i 0),(.i 0),(.s ⟨#[]⟩),(.r [])])
 let c:X:=.len (.tok 0)
 let d:X:=.lit (.i 1)
 let e:X:=.tok 3
 let g:X:=.lit (.i 2000)
 let h:X:=.tok 5
 let i:X:=.lit (.i 0)
 let j:X:=.tok 1
 let k:X:=.get (.tok 0) e
 let a:X:=.add d (.call 1 0 [k])
 let f:X:=.add (.tok 2) a
 (.need [(.imp (.not (.lt g c)) (.ok 0 [j]))] (.br (.or (.lt g c) (.not (.call 0 0 [j]))) (.leaf [b]) (.need [(.ok 1 [j])] (.loop 5 2 [(.call 1 0 [j]),i,b] (.br (.lt e c) (.need [(.le i e),(.lt e c)] (.need [(.ok 1 [k]),(.rng .i64 a),(.rng .i64 f)] (.need [(.imp (.not (.lt g f)) (.ok 2 [k]))] (.br (.or (.lt g f) (.not (.call 2 0 [k]))) (.leaf [b]) (.need [(.rng .i64 (.add e d))] (.back 5 [f,(.add e d),(.tok 4)])))))) (.need [(.ok 3 [j])] (.need [(.rng .i64 (.sub c d))] (.loop 13 5 [(.sub c d),(.call 3 0 [j])] (.br (.le i h) (.need [(.ok 3 [(.get (.tok 0) h)]),(.le i h),(.lt h c)] (.need [(.rng .i64 (.sub h d))] (.back 13 [(.sub h d),(.set (.set (.set b 0 (.lit (.i 3))) 2 (.lit (.s ⟨#[46]⟩))) 3 (.row [(.call 3 0 [(.get (.tok 0) h)]),(.tok 6)]))]))) (.leaf [(.tok 6)]))))))))))
theorem qv5(g0 g1 g2 g3:GfZ):CdZ [(yx,g0),(q05,g1),(yf,g2),(yi,g3)] qz2 q1z Tryz.f83 qb2:=fun cd h=>by injection h with h;subst h;kernel_rfl
variable{g3:GfZ}
theorem qxm(h0:FOk yx g0)(h1:FOk q05 g1)(h2:FOk yf g2)(h3:FOk yi g3)(h:HgZ qb2 q1z [(yx,g0),(q05,g1),(yf,g2),(yi,g3)] g):FOk q1z g:=ym (qv5 g0 g1 g2 g3) (.cons h0 (.cons h1 (.cons h2 (.cons h3 .nil)))) rfl rfl qqg (by decide) h
def yj:Ct:=⟨119,[.rref (.st 26),.val (.st 86)],[(.int .i64,false)],[],none,[],[]⟩
theorem qnt:EnZ yj:=fun _ _=>by kernel_rfl
def qwn:Ann:=⟨[0,1,3,4,5,10,11,12,22],[(2,⟨[(4,.int .i64,false),(11,.int .i64,false)],[],[12,13,5,14,15,16,17,18,19,20,21,22,23,24],[]⟩)]⟩
def q9q:Tree:=(.loop 2 2 [(.lit (.i 0)),(.lit (.i 0))] (.br (.lt (.tok 3) (.len (.fld (.tok 0) 1))) (.need [(.le (.lit (.i 0)) (.tok 3)),(.lt (.tok 3) (.len (.fld (.tok 0) 1)))] (.br (.eq (.get (.fld (.tok 0) 1) (.tok 3)) (.tok 1)) (.leaf [(.tok 3)]) (.need [(.rng .i64 (.add (.tok 3) (.lit (.i 1))))] (.back 2 [(.tok 2),(.add (.tok 3) (.lit (.i 1)))])))) (.leaf [(.lit (.i (-1)))])))
theorem qpd:CdZ [] qwn yj Tryz.f119 q9q:=fun cd h=>by injection h with h;subst h;kernel_rfl
theorem qwy(h:HgZ q9q yj [] g):FOk yj g:=ym (qpd) .nil rfl rfl qnt (by decide) h
def zh:Ct:=⟨103,[.ref (.st 26) true,.val (.str),.val (.int .i64)],[(.int .i64,false),(.int .i64,false)],[],none,[],[(0,0,.st 28),(0,1,.st 86),(0,2,.st 70),(0,3,.st 72)]⟩
theorem q2n:EnZ zh:=fun _ _=>by kernel_rfl
def qcr:Ann:=⟨[0,1,2,6,7,8,9,24,32,39],[]⟩
def q6s:Tree:=(.br (.or (.or (.lt (.lit (.i 100)) (.slen (.tok 1))) (.lt (.tok 2) (.lit (.i 0)))) (.lt (.lit (.i 8)) (.tok 2))) (.leaf [(.lit (.i 0)),(.lit (.i 1)),(.tok 0)]) (.need [(.ok 4 [(.tok 0),(.mk [(.tok 1),(.tok 2)])])] (.br (.le (.lit (.i 0)) (.call 4 0 [(.tok 0),(.mk [(.tok 1),(.tok 2)])])) (.leaf [(.call 4 0 [(.tok 0),(.mk [(.tok 1),(.tok 2)])]),(.lit (.i 0)),(.tok 0)]) (.br (.le (.lit (.i 1048576)) (.len (.fld (.tok 0) 1))) (.leaf [(.lit (.i 0)),(.lit (.i 13)),(.tok 0)]) (.need [(.le (.add (.len (.fld (.tok 0) 1)) (.lit (.i 1))) (.lit (.i 5864062014634))),(.le (.call 1 0 []) (.len (.fld (.tok 0) 1)))] (.need [(.rng .i64 (.sub (.len (.fld (.set (.tok 0) 1 (.app (.fld (.tok 0) 1) (.row [(.mk [(.tok 1),(.tok 2)])]))) 1)) (.lit (.i 1))))] (.leaf [(.sub (.len (.fld (.set (.tok 0) 1 (.app (.fld (.tok 0) 1) (.row [(.mk [(.tok 1),(.tok 2)])]))) 1)) (.lit (.i 1))),(.lit (.i 0)),(.set (.tok 0) 1 (.app (.fld (.tok 0) 1) (.row [(.mk [(.tok 1),(.tok 2)])])))])))))))
theorem qkn(m0 m1 m2 m3:Int)(g0:GfZ):CdZ [(ju zh.f (.st 28),fun _=>some [.i m0]),(ju zh.f (.st 86),fun _=>some [.i m1]),(ju zh.f (.st 70),fun _=>some [.i m2]),(ju zh.f (.st 72),fun _=>some [.i m3]),(yj,g0)] qcr zh uQ q6s:=fun cd h=>by injection h with h;subst h;kernel_rfl
theorem qnd{g0:List D→Option (List D)}{g:List D→Option (List D)}(h0:FOk yj g0)(h:∀ds outs,WfA zh.ars ds→g ds=some outs→q6s.go (qb [(ju zh.f (.st 28),fun _=>some [.i (((ds.getD 0 .u).fld 0).rs.length:Nat)]),(ju zh.f (.st 86),fun _=>some [.i (((ds.getD 0 .u).fld 1).rs.length:Nat)]),(ju zh.f (.st 70),fun _=>some [.i (((ds.getD 0 .u).fld 2).rs.length:Nat)]),(ju zh.f (.st 72),fun _=>some [.i (((ds.getD 0 .u).fld 3).rs.length:Nat)]),(yj,g0)]) (fun o=>o=outs) ds fun _ _=>False):FOk zh g:=
 FOk.of_at q2n fun ds outs hw hg=>z1i qcr uQ _ (.cons (q1w _ q2n _ _) (.cons (q1w _ q2n _ _) (.cons (q1w _ q2n _ _) (.cons (q1w _ q2n _ _) (.cons h0 .nil))))) rfl rfl (by decide) (by rw[qkn _ _ _ _ g0 _ rfl];exact h ds outs hw hg) rfl (FlF.of fun k j te hm=>by
  rw[show zh.fl=[(0,0,.st 28),(0,1,.st 86),(0,2,.st 70),(0,3,.st 72)] from rfl] at hm;simp only[gnM] at hm;rcases hm with⟨rfl,rfl,rfl⟩|⟨rfl,rfl,rfl⟩|⟨rfl,rfl,rfl⟩|⟨rfl,rfl,rfl⟩<;>exact⟨by decide,uB _⟩)
def jo:Ct:=⟨92,[.val (.int .i64)],[(.bool,false)],[],none,[],[]⟩
theorem qeu:EnZ jo:=fun _ _=>by kernel_rfl
def qhs:Ann:=⟨[0,2],[]⟩
def q4a:Tree:=(.leaf [(.not (.eq (.tok 0) (.tok 0)))])
theorem qg6:CdZ [] qhs jo Tryz.f92 q4a:=fun cd h=>by injection h with h;subst h;kernel_rfl
theorem qh7(h:HgZ q4a jo [] g):FOk jo g:=ym (qg6) .nil rfl rfl qeu (by decide) h
def qx:Ct:=⟨57,[.val (.int .i64),.val (.int .i64)],[(.int .i64,false)],[],none,[],[]⟩
theorem qd8:EnZ qx:=fun _ _=>by kernel_rfl
def qew:Ann:=⟨[0,1,4,5,6,11,12,13,16,19],[]⟩
def q3n:Tree:=(.need [(.ok 0 [(.tok 0)])] (.need [(.ok 0 [(.tok 1)])] (.br (.call 0 0 [(.tok 0)]) (.br (.call 0 0 [(.tok 1)]) (.leaf [(.lit (.i 0))]) (.leaf [(.lit (.i (-1)))])) (.br (.call 0 0 [(.tok 1)]) (.leaf [(.lit (.i 1))]) (.br (.lt (.tok 0) (.tok 1)) (.leaf [(.lit (.i (-1)))]) (.br (.lt (.tok 1) (.tok 0)) (.leaf [(.lit (.i 1))]) (.leaf [(.lit (.i 0))])))))))
theorem qdy(g0:GfZ):CdZ [(jo,g0)] qew qx Tryz.f57 q3n:=fun cd h=>by injection h with h;subst h;kernel_rfl
theorem qf0(h0:FOk jo g0)(h:HgZ q3n qx [(jo,g0)] g):FOk qx g:=ym (qdy g0) (.cons h0 .nil) rfl rfl qd8 (by decide) h
def q1c:Ct:=⟨105,[.val (.st 101),.val (.int .i64)],[(.int .i64,false)],[],none,[],[]⟩
theorem qjy:EnZ q1c:=fun _ _=>by kernel_rfl
def qr8:Ann:=⟨[0,1,2,4],[]⟩
def q8d:Tree:=(.need [(.ok 0 [(.fld (.tok 0) 0),(.tok 1)])] (.leaf [(.call 0 0 [(.fld (.tok 0) 0),(.tok 1)])]))
theorem qmj(g0:GfZ):CdZ [(qx,g0)] qr8 q1c Tryz.f105 q8d:=fun cd h=>by injection h with h;subst h;kernel_rfl
theorem qrk(h0:FOk qx g0)(h:HgZ q8d q1c [(qx,g0)] g):FOk q1c g:=ym (qmj g0) (.cons h0 .nil) rfl rfl qjy (by decide) h
def qm:Ct:=⟨104,[.val (.row 102),.val (.int .i64),.fn 105 []],[(.int .i64,false),(.bool,false)],[],none,[],[]⟩
theorem q4w:EnZ qm:=fun _ _=>by kernel_rfl
def q5a:Ann:=⟨[0,1,2,6,7,8,9,10,11,17,31],[(3,⟨[(9,.int .i64,false),(10,.int .i64,false)],[],[15,16,17,18,19,20,21,22,23,11,24,25,26,27,28,29,30,31,32,33,34],[]⟩)]⟩
def jx:Tree:=
 let c:X:=.tok 2
 let d:X:=.lit (.i 0)
 let e:X:=.tok 0
 let a:X:=.fn 8 [(.add c (.tok 3)),(.lit (.i 1))]
 let b:X:=.lt c (.len e)
 (.loop 3 2 [d,(.len e)] (.br (.lt c (.tok 3)) (.need [(.rng .i64 (.add c (.tok 3))),(.rng .u64 (.add c (.tok 3))),(.rng .u64 a),(.rng .i64 a)] (.need [(.le d a),(.lt a (.len e)),(.ok 0 [(.get e a),(.tok 1)])] (.br (.lt (.call 0 0 [(.get e a),(.tok 1)]) d) (.need [(.rng .i64 (.add a (.lit (.i 1))))] (.back 3 [(.add a (.lit (.i 1))),(.tok 3)])) (.back 3 [c,a])))) (.need [(.imp b (.le d c)),(.imp b b),(.imp b (.ok 0 [(.get e c),(.tok 1)]))] (.leaf [c,(.and b (.eq (.call 0 0 [(.get e c),(.tok 1)]) d))]))))
theorem q54(g0:GfZ):CdZ [(q1c,g0)] q5a qm Tryz.f104 jx:=fun cd h=>by injection h with h;subst h;kernel_rfl
theorem q5c(h0:FOk q1c g0)(h:HgZ jx qm [(q1c,g0)] g):FOk qm g:=ym (q54 g0) (.cons h0 .nil) rfl rfl q4w (by decide) h
def q25:Ct:=⟨106,[.val (.st 28)],[(.st 28,false)],[],none,[],[]⟩
theorem qm2:EnZ q25:=fun _ _=>by kernel_rfl
def qtw:Ann:=⟨[0,1,2,5],[]⟩
def q9a:Tree:=(.br (.eq (.fld (.tok 0) 0) (.lit (.i 5))) (.leaf [(.set (.tok 0) 0 (.lit (.i 0)))]) (.leaf [(.tok 0)]))
theorem qpz:CdZ [] qtw q25 Tryz.f106 q9a:=fun cd h=>by injection h with h;subst h;kernel_rfl
theorem qt0(h:HgZ q9a q25 [] g):FOk q25 g:=ym (qpz) .nil rfl rfl qm2 (by decide) h
def qf:Ct:=⟨107,[.own (.row 102),.val (.int .i64),.own (.row 102)],[(.row 102,true)],[],none,[],[(999,0,.st 28),(999,1,.st 86),(999,2,.st 70),(999,3,.st 72)]⟩
theorem jh:EnZ qf:=fun _ _=>by kernel_rfl
def q52:Ann:=⟨[0,1,2,6,7,8,9,16,22,31,68],[]⟩
def q47:Tree:=(.need [(.le (.lit (.i 0)) (.tok 1)),(.le (.tok 1) (.len (.tok 0)))] (.br (.eq (.len (.tok 2)) (.lit (.i 0))) (.leaf [(.tok 0)]) (.br (.eq (.tok 1) (.len (.tok 0))) (.need [(.le (.add (.len (.tok 0)) (.len (.tok 2))) (.lit (.i 5864062014634)))] (.leaf [(.app (.tok 0) (.tok 2))])) (.bad 8004))))
theorem qbk(m0 m1 m2 m3:Int):CdZ [(ju qf.f (.st 28),fun _=>some [.i m0]),(ju qf.f (.st 86),fun _=>some [.i m1]),(ju qf.f (.st 70),fun _=>some [.i m2]),(ju qf.f (.st 72),fun _=>some [.i m3])] q52 qf Tryz.f107 q47:=fun cd h=>by injection h with h;subst h;kernel_rfl
def zd:Ct:=⟨102,[.val (.st 53),.val (.int .i64),.cell 41 5,.ref (.row 102) true,.cell 132 6],[(.st 28,false)],[(.cell 2,.ref (.st 26) true),(.cell 4,.fn 102 [2,3,4])],none,[],[(3,0,.st 28),(3,1,.st 86),(3,2,.st 70),(3,3,.st 72)]⟩
theorem q1n:EnZ zd:=fun _ _=>by kernel_rfl
def qen:Ann:=⟨[0,1,2,3,4,5,7,8,10,11,12,13,15,16,17,18,19,21,22,27,38,47,57,110,111,112,113],[(21,⟨[(112,.int .i64,false)],[3,100000],[113,114,115,116,17,16,117,118,119,120,18,121,122,123,124,19,125,126,127,128,129,130,131,132],[]⟩)]⟩
def q2c:Tree:=
 let e:X:=.fld (.tok 0) 3
 let f:X:=.tok 3
 let g:X:=.lit (.i 0)
 let h:X:=.lit (.b .true)
 let j:X:=.fld (.tok 0) 1
 let k:X:=.tok 2
 let l:X:=.call 0 0 []
 let p:X:=.lit (.i 1)
 let q:X:=.tok 4
 let r:X:=.tok 6
 let s:X:=.fld (.tok 0) 2
 let y:X:=.fld (.tok 0) 0
 let z:X:=.lit (.i 8796093021952)
 let d:X:=.call 6 0 [k,j]
 let m:X:=.le (.call 1 0 []) (.len (.fld f 1))
 let n:X:=.le (.call 2 0 []) (.len (.fld f 2))
 let o:X:=.le (.call 3 0 []) (.len (.fld f 3))
 let t:X:=.le l (.len (.fld f 0))
 let v:X:=.len e
 let w:X:=.row [(.mk [j,(.mk [g,(.tok 1)])])]
 let x:X:=.row [(.mk [j,(.call 8 0 [f])])]
 let a:X:=.call 5 2 [f,s,v]
 let c:X:=.set a 0 (.app (.fld a 0) (.row [(.mk [(.lit (.i 4)),(.call 5 0 [f,s,v])])]))
 let u:X:=.len (.fld a 0)
 let b:X:=.add (.add u p) q
 let i:X:=.call 4 2 [(.get e q),b,(.tok 5),r]
 (.br (.eq y p) (.leaf [(.mk [p,j]),k,f]) (.br (.eq y (.lit (.i 2))) (.need [(.ok 5 [f,s,g]),t,m,n,o] (.leaf [(.mk [(.lit (.i 2)),(.call 5 0 [f,s,g])]),k,(.call 5 2 [f,s,g])])) (.br (.eq y g) (.need [(.ok 6 [k,j])] (.br (.call 6 1 [k,j]) (.need [(.le g d),(.lt d (.len k)),(.ok 7 [(.fld (.get k d) 1)])] (.leaf [(.call 7 0 [(.fld (.get k d) 1)]),k,f])) (.br (.lt (.tok 1) g) (.need [(.ok 8 [f]),t,m,n,o] (.need [(.ok 9 [k,d,x]),h,h,h,h] (.leaf [(.call 8 0 [f]),(.call 9 0 [k,d,x]),(.call 8 2 [f])]))) (.need [(.ok 9 [k,d,w]),h,h,h,h] (.leaf [(.mk [g,(.tok 1)]),(.call 9 0 [k,d,w]),f]))))) (.need [(.ok 5 [f,s,v]),t,m,n,o] (.need [(.le (.add u p) z),(.le l u)] (.need [(.le g v),(.le v (.lit (.i 16777216))),(.le (.add (.len (.fld c 0)) v) z),(.le l (.len (.fld c 0)))] (.loop 21 4 [g,k,(.set c 0 (.app (.fld c 0) (.rep v (.lit (.a [(.i 0),(.i 0)])))))] (.br (.lt q v) (.need [(.le g q),(.lt q v)] (.need [(.rng .i64 (.add u p)),(.rng .i64 b)] (.need [(.ok 4 [(.get e q),b,(.tok 5),r]),(.le l (.len (.fld r 0))),(.le (.call 1 0 []) (.len (.fld r 1))),(.le (.call 2 0 []) (.len (.fld r 2))),(.le (.call 3 0 []) (.len (.fld r 3)))] (.need [(.le l b),(.le g b),(.lt b (.len (.fld i 0)))] (.need [(.rng .i64 (.add q p))] (.back 21 [(.add q p),(.call 4 1 [(.get e q),b,(.tok 5),r]),(.set i 0 (.put (.fld i 0) b (.call 4 0 [(.get e q),b,(.tok 5),r])))])))))) (.leaf [(.mk [(.lit (.i 3)),u]),(.tok 5),r])))))))))
theorem qme(m0 m1 m2 m3:Int)(g0 g1 g2 g3 g4 g5:GfZ):CdZ [(ju zd.f (.st 28),fun _=>some [.i m0]),(ju zd.f (.st 86),fun _=>some [.i m1]),(ju zd.f (.st 70),fun _=>some [.i m2]),(ju zd.f (.st 72),fun _=>some [.i m3]),(zd,g0),(zh,g1),(qm,g2),(q25,g3),(z7,g4),(qf,g5)] qen zd uR q2c:=fun cd h=>by injection h with h;subst h;kernel_rfl
theorem qr1{g0 g1 g2 g3 g4 g5:List D→Option (List D)}{g:List D→Option (List D)}(h0:FOk zd g0)(h1:FOk zh g1)(h2:FOk qm g2)(h3:FOk q25 g3)(h4:FOk z7 g4)(h5:FOk qf g5)(h:∀ds outs,WfA zd.ars ds→g ds=some outs→q2c.go (qb [(ju zd.f (.st 28),fun _=>some [.i (((ds.getD 3 .u).fld 0).rs.length:Nat)]),(ju zd.f (.st 86),fun _=>some [.i (((ds.getD 3 .u).fld 1).rs.length:Nat)]),(ju zd.f (.st 70),fun _=>some [.i (((ds.getD 3 .u).fld 2).rs.length:Nat)]),(ju zd.f (.st 72),fun _=>some [.i (((ds.getD 3 .u).fld 3).rs.length:Nat)]),(zd,g0),(zh,g1),(qm,g2),(q25,g3),(z7,g4),(qf,g5)]) (fun o=>o=outs) ds fun _ _=>False):FOk zd g:=
 FOk.of_at q1n fun ds outs hw hg=>z1i qen uR _ (.cons (q1w _ q1n _ _) (.cons (q1w _ q1n _ _) (.cons (q1w _ q1n _ _) (.cons (q1w _ q1n _ _) (.cons h0 (.cons h1 (.cons h2 (.cons h3 (.cons h4 (.cons h5 .nil)))))))))) rfl rfl (by decide) (by rw[qme _ _ _ _ g0 g1 g2 g3 g4 g5 _ rfl];exact h ds outs hw hg) rfl (FlF.of fun k j te hm=>by
  rw[show zd.fl=[(3,0,.st 28),(3,1,.st 86),(3,2,.st 70),(3,3,.st 72)] from rfl] at hm;simp only[gnM] at hm;rcases hm with⟨rfl,rfl,rfl⟩|⟨rfl,rfl,rfl⟩|⟨rfl,rfl,rfl⟩|⟨rfl,rfl,rfl⟩<;>exact⟨by decide,uB _⟩)
def jn:Ct:=⟨99,[.val (.st 26),.val (.row 102)],[(.bool,false)],[],none,[],[]⟩
theorem qex:EnZ jn:=fun _ _=>by kernel_rfl
def qht:Ann:=⟨[0,1,2,4,5,6,7,8,9,10,43],[(2,⟨[(4,.bool,false),(9,.int .i64,false)],[],[10,11,12,13,6,5,14,15,16,17,18,19,20,21,22,23,24,25,26,27,28,29,30,31,32,33,34,35,36,37,38,39,40,41,42,43,44],[]⟩)]⟩
def q45:Tree:=
 let d:X:=.tok 3
 let e:X:=.len (.tok 1)
 let f:X:=.lit (.i 0)
 let a:X:=.and (.not (.or (.lt (.fld (.get (.tok 1) d) 0) f) (.lt (.lit (.i 1099511627776)) (.fld (.get (.tok 1) d) 0)))) (.lt f d)
 let c:X:=.sub d (.lit (.i 1))
 let g:X:=.fld (.get (.tok 1) d) 1
 let b:X:=.or (.or (.lt (.fld (.get (.tok 1) d) 0) f) (.lt (.lit (.i 1099511627776)) (.fld (.get (.tok 1) d) 0))) (.and (.lt f d) (.le (.fld (.get (.tok 1) d) 0) (.fld (.get (.tok 1) c) 0)))
 let h:X:=.rng .i64 c
 (.loop 2 2 [(.lit (.b .false)),f] (.br (.lt d e) (.need [(.le f d),(.lt d e)] (.need [(.imp (.not b) (.ok 0 [(.tok 0),g])),(.imp a (.le f c)),(.imp a (.lt c e)),(.imp a (.le f c)),(.imp a (.lt c e)),(.imp a h),(.imp a h),(.imp a h)] (.br (.or b (.not (.call 0 0 [(.tok 0),g]))) (.leaf [(.lit (.b .false))]) (.need [(.rng .i64 (.add d (.lit (.i 1))))] (.back 2 [(.tok 2),(.add d (.lit (.i 1)))]))))) (.leaf [(.lit (.b .true))])))
theorem qfj(g0:GfZ):CdZ [(qh,g0)] qht jn Tryz.f99 q45:=fun cd h=>by injection h with h;subst h;kernel_rfl
theorem qh5(h0:FOk qh g0)(h:HgZ q45 jn [(qh,g0)] g):FOk jn g:=ym (qfj g0) (.cons h0 .nil) rfl rfl qex (by decide) h
def zm:Ct:=⟨118,[.val (.st 53),.ref (.map 87 4) true,.cell 41 5,.ref (.int .i64) true,.cell 146 6],[],[(.cell 2,.rref (.st 26)),(.cell 4,.fn 118 [1,2,3,4])],none,[],[]⟩
theorem qax:EnZ zm:=fun _ _=>by kernel_rfl
def qn7:Ann:=⟨[0,1,2,3,4,5,6,8,16,32,37,45,46,47,48],[(8,⟨[(47,.int .i64,false)],[1,3],[48,49,50,8,51,52,53,54],[]⟩)]⟩
def q6g:Tree:=
 let a:X:=.fld (.tok 0) 3
 let b:X:=.tok 4
 let f:X:=.lit (.i 1)
 let h:X:=.lit (.i 0)
 let k:X:=.eq (.fld (.tok 0) 0) (.lit (.i 3))
 let n:X:=.tok 1
 let s:X:=.tok 5
 let t:X:=.tok 6
 let c:X:=.call 0 0 [(.get a b),s,t,(.tok 3)]
 let d:X:=.call 0 1 [(.get a b),s,t,(.tok 3)]
 let e:X:=.ok 0 [(.get a b),s,t,(.tok 3)]
 let g:X:=.len a
 let o:X:=.add b f
 let r:X:=.le h b
 let i:X:=.mk [(.fld (.tok 0) 2),g]
 let j:X:=.add (.tok 2) (.add g f)
 let l:X:=.rng .i64 o
 let m:X:=.lt b g
 let p:X:=.rng .i64 (.add g f)
 let q:X:=.not (.fn 0 [n,i,(.lit (.b .false))])
 let u:X:=.fn 2 [n,i,(.lit (.b .true))]
 let v:X:=.rng .i64 j
 (.br (.or (.eq (.fld (.tok 0) 0) (.lit (.i 2))) k) (.need [(.imp q (.ok 1 [(.tok 3),i]))] (.br (.and q (.lt (.call 1 0 [(.tok 3),i]) h)) (.br k (.need [p,v] (.loop 8 4 [h,u,j] (.br m (.need [r,m] (.need [e] (.need [l] (.back 8 [o,c,d])))) (.leaf [s,t])))) (.loop 8 4 [h,u,(.tok 2)] (.br m (.need [r,m] (.need [e] (.need [l] (.back 8 [o,c,d])))) (.leaf [s,t])))) (.br k (.need [p,v] (.loop 8 4 [h,n,j] (.br m (.need [r,m] (.need [e] (.need [l] (.back 8 [o,c,d])))) (.leaf [s,t])))) (.loop 8 4 [h,n,(.tok 2)] (.br m (.need [r,m] (.need [e] (.need [l] (.back 8 [o,c,d])))) (.leaf [s,t])))))) (.br k (.need [p,v] (.loop 8 4 [h,n,j] (.br m (.need [r,m] (.need [e] (.need [l] (.back 8 [o,c,d])))) (.leaf [s,t])))) (.loop 8 4 [h,n,(.tok 2)] (.br m (.need [r,m] (.need [e] (.need [l] (.back 8 [o,c,d])))) (.leaf [s,t])))))
theorem qjq(g0 g1:GfZ):CdZ [(zm,g0),(yj,g1)] qn7 zm Tryz.f118 q6g:=fun cd h=>by injection h with h;subst h;kernel_rfl
theorem qmy(h0:FOk zm g0)(h1:FOk yj g1)(h:HgZ q6g zm [(zm,g0),(yj,g1)] g):FOk zm g:=ym (qjq g0 g1) (.cons h0 (.cons h1 .nil)) rfl rfl qax (by decide) h
def q27:Ct:=⟨100,[.rref (.st 26),.val (.st 53),.val (.row 102)],[(.bool,false)],[],none,[],[]⟩
theorem qo4:EnZ q27:=fun _ _=>by kernel_rfl
def qwi:Ann:=⟨[0,1,2,3,4,6,7,9,10,11,14,23],[]⟩
def q9j:Tree:=
 let a:X:=.le (.call 0 1 [(.tok 1),(.lit (.mp [])),(.lit (.i 0)),(.tok 0)]) (.fn 18 [(.fld (.tok 0) 5),(.len (.fld (.tok 0) 0))])
 let b:X:=.fn 3 [(.call 0 0 [(.tok 1),(.lit (.mp [])),(.lit (.i 0)),(.tok 0)])]
 let c:X:=.le (.call 0 1 [(.tok 1),(.lit (.mp [])),(.lit (.i 1)),(.tok 0)]) (.fn 18 [(.fld (.tok 0) 5),(.len (.fld (.tok 0) 0))])
 let d:X:=.fn 3 [(.call 0 0 [(.tok 1),(.lit (.mp [])),(.lit (.i 1)),(.tok 0)])]
 let e:X:=.sub (.lit (.i 1048576)) (.len (.fld (.tok 0) 1))
 let g:X:=.ok 0 [(.tok 1),(.lit (.mp [])),(.lit (.i 0)),(.tok 0)]
 let f:X:=.rng .i64 b
 let h:X:=.rng .i64 d
 let i:X:=.rng .i64 e
 (.br (.eq (.fld (.tok 1) 0) (.lit (.i 0))) (.need [(.ok 1 [(.tok 2),(.fld (.tok 1) 1)])] (.br (.not (.call 1 1 [(.tok 2),(.fld (.tok 1) 1)])) (.need [(.rng .i64 (.lit (.i 1)))] (.need [(.ok 0 [(.tok 1),(.lit (.mp [])),(.lit (.i 1)),(.tok 0)])] (.need [(.imp c h),(.imp c h),(.imp c i),(.imp c h),(.imp c h)] (.leaf [(.and c (.le d e))])))) (.need [g] (.need [(.imp a f),(.imp a f),(.imp a i),(.imp a f),(.imp a f)] (.leaf [(.and a (.le b e))]))))) (.need [g] (.need [(.imp a f),(.imp a f),(.imp a i),(.imp a f),(.imp a f)] (.leaf [(.and a (.le b e))]))))
theorem qpk(g0 g1:GfZ):CdZ [(zm,g0),(qm,g1)] qwi q27 Tryz.f100 q9j:=fun cd h=>by injection h with h;subst h;kernel_rfl
theorem qsh(h0:FOk zm g0)(h1:FOk qm g1)(h:HgZ q9j q27 [(zm,g0),(qm,g1)] g):FOk q27 g:=ym (qpk g0 g1) (.cons h0 (.cons h1 .nil)) rfl rfl qo4 (by decide) h
def yh:Ct:=⟨101,[.val (.row 102)],[(.row 102,true)],[],none,[],[]⟩
theorem qb3:EnZ yh:=fun _ _=>by kernel_rfl
def qce:Ann:=⟨[0,2,4],[]⟩
def q50:Tree:=(.amb (.tok 0) .false (.leaf [(.lit (.r []))]) (.need [(.le (.add (.lit (.i 0)) (.len (.tok 0))) (.lit (.i 5864062014634)))] (.leaf [(.app (.row []) (.tok 0))])))
theorem qbr:CdZ [] qce yh Tryz.f101 q50:=fun cd h=>by injection h with h;subst h;kernel_rfl
theorem qcd(h:HgZ q50 yh [] g):FOk yh g:=ym (qbr) .nil rfl rfl qb3 (by decide) h
def zx:Ct:=⟨65,[.ref (.st 26) true,.val (.st 53),.val (.row 102)],[(.st 28,false),(.row 102,true),(.int .i64,false)],[],none,[],[(0,0,.st 28),(0,1,.st 86),(0,2,.st 70),(0,3,.st 72)]⟩
theorem q3s:EnZ zx:=fun _ _=>by kernel_rfl
def qi5:Ann:=⟨[0,1,2,3,4,6,7,8,9,24,30],[]⟩
def qbn:Tree:=(.need [(.ok 5 [(.tok 1)]),(.imp (.not (.not (.call 5 0 [(.tok 1)]))) (.ok 6 [(.tok 0),(.tok 2)]))] (.br (.or (.not (.call 5 0 [(.tok 1)])) (.not (.call 6 0 [(.tok 0),(.tok 2)]))) (.leaf [(.lit (.a [(.i 0),(.i 0)])),(.lit (.r [])),(.lit (.i 1)),(.tok 0)]) (.need [(.ok 7 [(.tok 0),(.tok 1),(.tok 2)])] (.br (.not (.call 7 0 [(.tok 0),(.tok 1),(.tok 2)])) (.leaf [(.lit (.a [(.i 0),(.i 0)])),(.lit (.r [])),(.lit (.i 13)),(.tok 0)]) (.need [(.ok 8 [(.tok 2)])] (.need [(.ok 4 [(.tok 1),(.lit (.i (-1))),(.call 8 0 [(.tok 2)]),(.tok 0)]),(.le (.call 0 0 []) (.len (.fld (.tok 0) 0))),(.le (.call 1 0 []) (.len (.fld (.tok 0) 1))),(.le (.call 2 0 []) (.len (.fld (.tok 0) 2))),(.le (.call 3 0 []) (.len (.fld (.tok 0) 3)))] (.leaf [(.call 4 0 [(.tok 1),(.lit (.i (-1))),(.call 8 0 [(.tok 2)]),(.tok 0)]),(.call 4 1 [(.tok 1),(.lit (.i (-1))),(.call 8 0 [(.tok 2)]),(.tok 0)]),(.lit (.i 0)),(.call 4 2 [(.tok 1),(.lit (.i (-1))),(.call 8 0 [(.tok 2)]),(.tok 0)])])))))))
theorem qu3(m0 m1 m2 m3:Int)(g0 g1 g2 g3 g4:GfZ):CdZ [(ju zx.f (.st 28),fun _=>some [.i m0]),(ju zx.f (.st 86),fun _=>some [.i m1]),(ju zx.f (.st 70),fun _=>some [.i m2]),(ju zx.f (.st 72),fun _=>some [.i m3]),(zd,g0),(yx,g1),(jn,g2),(q27,g3),(yh,g4)] qi5 zx uU qbn:=fun cd h=>by injection h with h;subst h;kernel_rfl
theorem qyg{g0 g1 g2 g3 g4:List D→Option (List D)}{g:List D→Option (List D)}(h0:FOk zd g0)(h1:FOk yx g1)(h2:FOk jn g2)(h3:FOk q27 g3)(h4:FOk yh g4)(h:∀ds outs,WfA zx.ars ds→g ds=some outs→qbn.go (qb [(ju zx.f (.st 28),fun _=>some [.i (((ds.getD 0 .u).fld 0).rs.length:Nat)]),(ju zx.f (.st 86),fun _=>some [.i (((ds.getD 0 .u).fld 1).rs.length:Nat)]),(ju zx.f (.st 70),fun _=>some [.i (((ds.getD 0 .u).fld 2).rs.length:Nat)]),(ju zx.f (.st 72),fun _=>some [.i (((ds.getD 0 .u).fld 3).rs.length:Nat)]),(zd,g0),(yx,g1),(jn,g2),(q27,g3),(yh,g4)]) (fun o=>o=outs) ds fun _ _=>False):FOk zx g:=
 FOk.of_at q3s fun ds outs hw hg=>z1i qi5 uU _ (.cons (q1w _ q3s _ _) (.cons (q1w _ q3s _ _) (.cons (q1w _ q3s _ _) (.cons (q1w _ q3s _ _) (.cons h0 (.cons h1 (.cons h2 (.cons h3 (.cons h4 .nil))))))))) rfl rfl (by decide) (by rw[qu3 _ _ _ _ g0 g1 g2 g3 g4 _ rfl];exact h ds outs hw hg) rfl (FlF.of fun k j te hm=>by
  rw[show zx.fl=[(0,0,.st 28),(0,1,.st 86),(0,2,.st 70),(0,3,.st 72)] from rfl] at hm;simp only[gnM] at hm;rcases hm with⟨rfl,rfl,rfl⟩|⟨rfl,rfl,rfl⟩|⟨rfl,rfl,rfl⟩|⟨rfl,rfl,rfl⟩<;>exact⟨by decide,uB _⟩)
def q1j:Ct:=⟨76,[.val (.st 65),.rref (.str)],[(.bool,false)],[],none,[],[]⟩
theorem qkw:EnZ q1j:=fun _ _=>by kernel_rfl
def qp9:Ann:=⟨[0,1,2,3],[]⟩
def q8g:Tree:=(.leaf [(.eq (.fld (.tok 0) 0) (.tok 1))])
theorem qmf:CdZ [] qp9 q1j Tryz.f76 q8g:=fun cd h=>by injection h with h;subst h;kernel_rfl
theorem qpu(h:HgZ q8g q1j [] g):FOk q1j g:=ym (qmf) .nil rfl rfl qkw (by decide) h
def zf:Ct:=⟨75,[.val (.row 66),.fn 76 [2]],[(.int .i64,false)],[(.cap 1 0,.rref (.str))],none,[],[]⟩
theorem q6z:EnZ zf:=fun _ _=>by kernel_rfl
def q8f:Ann:=⟨[0,1,4,5,7,8,9,16],[(2,⟨[(4,.int .i64,false),(8,.int .i64,false)],[],[9,10,5,11,12,13,14,15,16,17,18],[]⟩)]⟩
def q0r:Tree:=(.loop 2 2 [(.lit (.i 0)),(.lit (.i 0))] (.br (.lt (.tok 3) (.len (.tok 0))) (.need [(.le (.lit (.i 0)) (.tok 3)),(.lt (.tok 3) (.len (.tok 0))),(.ok 0 [(.get (.tok 0) (.tok 3)),(.tok 1)])] (.br (.call 0 0 [(.get (.tok 0) (.tok 3)),(.tok 1)]) (.leaf [(.tok 3)]) (.need [(.rng .i64 (.add (.tok 3) (.lit (.i 1))))] (.back 2 [(.tok 2),(.add (.tok 3) (.lit (.i 1)))])))) (.leaf [(.lit (.i (-1)))])))
theorem q7d(g0:GfZ):CdZ [(q1j,g0)] q8f zf Tryz.f75 q0r:=fun cd h=>by injection h with h;subst h;kernel_rfl
theorem q8j(h0:FOk q1j g0)(h:HgZ q0r zf [(q1j,g0)] g):FOk zf g:=ym (q7d g0) (.cons h0 .nil) rfl rfl q6z (by decide) h
def yq:Ct:=⟨34,[.val (.row 66),.val (.str)],[(.int .i64,false)],[],none,[],[]⟩
theorem qqv:EnZ yq:=fun _ _=>by kernel_rfl
def qxn:Ann:=⟨[0,1,3,4],[]⟩
def qbp:Tree:=(.need [(.ok 0 [(.tok 0),(.tok 1)])] (.leaf [(.call 0 0 [(.tok 0),(.tok 1)])]))
theorem quy(g0:GfZ):CdZ [(zf,g0)] qxn yq Tryz.f34 qbp:=fun cd h=>by injection h with h;subst h;kernel_rfl
theorem qy0(h0:FOk zf g0)(h:HgZ qbp yq [(zf,g0)] g):FOk yq g:=ym (quy g0) (.cons h0 .nil) rfl rfl qqv (by decide) h
def jd:Ct:=⟨44,[.ref (.st 26) true,.val (.row 66)],[(.st 28,false),(.int .i64,false)],[],none,[],[]⟩
theorem qnn:EnZ jd:=fun _ _=>by kernel_rfl
def qtv:Ann:=⟨[0,1,4,5,6,7,8,9,10,11,12,13],[(4,⟨[(6,.row 54,false),(7,.row 102,false),(12,.int .i64,false)],[],[13,14,15,16,9,8,17,18,19,20,21,22,23,24,25,26,27,28,29,30,31,32,33,34],[]⟩)]⟩
def q9e:Tree:=
 let b:X:=.tok 4
 let d:X:=.lit (.i 1)
 let e:X:=.tok 3
 let f:X:=.lit (.s ⟨#[91,93]⟩)
 let h:X:=.lit (.s ⟨#[45]⟩)
 let a:X:=.call 3 0 [(.tok 2),(.call 0 0 [f])]
 let c:X:=.row [(.call 0 0 [(.fld (.get (.tok 1) b) 0)]),(.call 1 0 [b])]
 let g:X:=.lt b (.len (.tok 1))
 (.loop 4 2 [(.lit (.r [])),(.lit (.r [])),(.lit (.i 0))] (.br g (.need [(.le (.lit (.i 0)) b),g] (.need [(.ok 0 [(.fld (.get (.tok 1) b) 0)]),(.ok 1 [b]),(.ok 2 [h,c]),(.le (.add (.len (.tok 2)) d) (.lit (.i 2513169434843)))] (.need [(.le (.add (.len e) d) (.lit (.i 5864062014634)))] (.need [(.rng .i64 (.add b d))] (.back 4 [(.app (.tok 2) (.row [(.call 2 0 [h,c])])),(.app e (.row [(.mk [b,(.fld (.get (.tok 1) b) 1)])])),(.add b d)]))))) (.need [(.ok 0 [f]),(.ok 3 [(.tok 2),(.call 0 0 [f])]),(.ok 4 [(.tok 0),a,e])] (.leaf [(.call 4 0 [(.tok 0),a,e]),(.call 4 2 [(.tok 0),a,e]),(.call 4 3 [(.tok 0),a,e])]))))
theorem qrb(g0 g1 g2 g3 g4:GfZ):CdZ [(zo,g0),(q0b,g1),(yp,g2),(q1z,g3),(zx,g4)] qtv jd Tryz.f44 q9e:=fun cd h=>by injection h with h;subst h;kernel_rfl
theorem qu2{g4:GfZ}(h0:FOk zo g0)(h1:FOk q0b g1)(h2:FOk yp g2)(h3:FOk q1z g3)(h4:FOk zx g4)(h:HgZ q9e jd [(zo,g0),(q0b,g1),(yp,g2),(q1z,g3),(zx,g4)] g):FOk jd g:=ym (qrb g0 g1 g2 g3 g4) (.cons h0 (.cons h1 (.cons h2 (.cons h3 (.cons h4 .nil))))) rfl rfl qnn (by decide) h
def q1f:Ct:=⟨84,[.rref (.st 26),.val (.int .i64)],[(.bool,false)],[],none,[],[]⟩
theorem qui:EnZ q1f:=fun _ _=>by kernel_rfl
def z4j:Ann:=⟨[0,1,4],[]⟩
def qcc:Tree:=(.leaf [(.and (.le (.lit (.i 0)) (.tok 1)) (.lt (.tok 1) (.len (.fld (.tok 0) 0))))])
theorem qy9:CdZ [] z4j q1f Tryz.f84 qcc:=fun cd h=>by injection h with h;subst h;kernel_rfl
theorem z2z(h:HgZ qcc q1f [] g):FOk q1f g:=ym (qy9) .nil rfl rfl qui (by decide) h
def jz:Ct:=⟨85,[.rref (.st 26),.val (.int .i64)],[(.bool,false)],[],none,[],[]⟩
theorem qgk:EnZ jz:=fun _ _=>by kernel_rfl
def qjg:Ann:=⟨[0,1,4,5,14,15,21,23],[]⟩
def q56:Tree:=
 let a:X:=.sub (.tok 1) (.lit (.i 2))
 let b:X:=.le (.lit (.i 2)) (.tok 1)
 let c:X:=.fld (.get (.fld (.tok 0) 0) (.tok 1)) 0
 let e:X:=.len (.fld (.tok 0) 0)
 let f:X:=.lit (.i 0)
 let g:X:=.lit (.b .false)
 let d:X:=.and b (.eq (.fld (.get (.fld (.tok 0) 0) a) 0) (.lit (.i 5)))
 let h:X:=.rng .i64 a
 (.need [(.le f (.tok 1)),(.lt (.tok 1) e)] (.br (.eq c f) (.leaf [(.eq (.get (.fld (.tok 0) 0) (.tok 1)) (.mk [f,(.tok 1)]))]) (.br (.eq c (.lit (.i 5))) (.leaf [(.lit (.b .true))]) (.br (.eq c (.lit (.i 1))) (.br (.eq c (.lit (.i 1))) (.need [(.imp b h),(.imp b (.le f a)),(.imp b (.lt a e))] (.leaf [d])) (.leaf [g])) (.br (.eq c (.lit (.i 2))) (.br (.eq c (.lit (.i 2))) (.need [(.imp b h),(.imp b (.le f a)),(.imp b (.lt a e))] (.leaf [d])) (.leaf [g])) (.br (.eq c (.lit (.i 3))) (.need [(.imp b h),(.imp b (.le f a)),(.imp b (.lt a e))] (.leaf [d])) (.leaf [g])))))))
theorem qhq:CdZ [] qjg jz Tryz.f85 q56:=fun cd h=>by injection h with h;subst h;kernel_rfl
theorem qj6(h:HgZ q56 jz [] g):FOk jz g:=ym (qhq) .nil rfl rfl qgk (by decide) h
def q22:Ct:=⟨87,[.val (.st 28)],[(.st 28,false)],[],none,[],[]⟩
theorem qn0:EnZ q22:=fun _ _=>by kernel_rfl
def qua:Ann:=⟨[0,1,2,5],[]⟩
def q9k:Tree:=(.br (.eq (.fld (.tok 0) 0) (.lit (.i 5))) (.leaf [(.set (.tok 0) 0 (.lit (.i 0)))]) (.leaf [(.tok 0)]))
theorem qr5:CdZ [] qua q22 Tryz.f87 q9k:=fun cd h=>by injection h with h;subst h;kernel_rfl
theorem quq(h:HgZ q9k q22 [] g):FOk q22 g:=ym (qr5) .nil rfl rfl qn0 (by decide) h
def q1g:Ct:=⟨86,[.rref (.st 26),.val (.st 28),.val (.int .i64)],[(.bool,false)],[],none,[],[]⟩
theorem qll:EnZ q1g:=fun _ _=>by kernel_rfl
def qqs:Ann:=⟨[0,1,2,4,6,7,13,14,15,25,29,40],[(2,⟨[(6,.bool,false),(14,.int .i64,false)],[4],[15,16,17,18,19,20,21,22,23,24,25,26,27,28,29,30,31,32,33,34,35,36,37,7,38,39,40,41,42],[]⟩)]⟩
def q83:Tree:=(.need [(.rng .i64 (.add (.len (.fld (.tok 0) 0)) (.lit (.i 1))))] (.loop 2 3 [(.lit (.b .false)),(.lit (.i 0)),(.tok 1)] (.br (.lt (.tok 4) (.add (.len (.fld (.tok 0) 0)) (.lit (.i 1)))) (.need [(.imp (.not (.not (.eq (.fld (.tok 5) 0) (.lit (.i 0))))) (.ok 0 [(.tok 0),(.fld (.tok 5) 1)]))] (.br (.or (.not (.eq (.fld (.tok 5) 0) (.lit (.i 0)))) (.not (.call 0 0 [(.tok 0),(.fld (.tok 5) 1)]))) (.leaf [(.lit (.b .false))]) (.br (.eq (.fld (.tok 5) 1) (.tok 2)) (.leaf [(.lit (.b .true))]) (.need [(.le (.lit (.i 0)) (.fld (.tok 5) 1)),(.lt (.fld (.tok 5) 1) (.len (.fld (.tok 0) 0)))] (.br (.eq (.get (.fld (.tok 0) 0) (.fld (.tok 5) 1)) (.tok 5)) (.leaf [(.lit (.b .false))]) (.need [(.rng .i64 (.add (.tok 4) (.lit (.i 1))))] (.back 2 [(.tok 3),(.add (.tok 4) (.lit (.i 1))),(.get (.fld (.tok 0) 0) (.fld (.tok 5) 1))]))))))) (.leaf [(.lit (.b .false))]))))
theorem qo7(g0:GfZ):CdZ [(q1f,g0)] qqs q1g Tryz.f86 q83:=fun cd h=>by injection h with h;subst h;kernel_rfl
theorem qqx(h0:FOk q1f g0)(h:HgZ q83 q1g [(q1f,g0)] g):FOk q1g g:=ym (qo7 g0) (.cons h0 .nil) rfl rfl qll (by decide) h
def zn:Ct:=⟨45,[.ref (.st 26) true,.val (.int .i64),.val (.st 28)],[(.int .i64,false)],[],none,[],[]⟩
theorem qrj:EnZ zn:=fun _ _=>by kernel_rfl
def qy3:Ann:=⟨[0,1,2,5,6,35],[]⟩
def qb8:Tree:=
 let c:X:=.tok 0
 let d:X:=.tok 1
 let e:X:=.tok 2
 let h:X:=.lit (.i 0)
 let b:X:=.set c 2 (.app (.fld c 2) (.row [(.mk [d,(.get (.fld c 0) d)])]))
 let f:X:=.call 3 0 [e]
 let g:X:=.not (.call 0 0 [c,d])
 let a:X:=.or (.or g (.not (.call 1 0 [c,e]))) (.not (.call 2 0 [c,d]))
 (.need [(.imp (.not a) (.ok 4 [c,f,d])),(.imp (.not a) (.ok 3 [e])),(.imp (.not a) (.ok 3 [e])),(.imp (.not (.or g (.not (.call 1 0 [c,e])))) (.ok 2 [c,d])),(.imp (.not g) (.ok 1 [c,e])),(.ok 0 [c,d])] (.br (.or a (.call 4 0 [c,f,d])) (.leaf [(.lit (.i 1)),c]) (.need [(.le h d),(.lt d (.len (.fld c 0))),(.le (.add (.len (.fld c 2)) (.lit (.i 1))) (.lit (.i 5864062014634)))] (.need [(.ok 3 [e]),(.le h d),(.lt d (.len (.fld b 0)))] (.leaf [h,(.set b 0 (.put (.fld b 0) d f))])))))
theorem qtu(g0 g1 g2 g3 g4:GfZ):CdZ [(q1f,g0),(qh,g1),(jz,g2),(q22,g3),(q1g,g4)] qy3 zn Tryz.f45 qb8:=fun cd h=>by injection h with h;subst h;kernel_rfl
theorem qyb{g4:GfZ}(h0:FOk q1f g0)(h1:FOk qh g1)(h2:FOk jz g2)(h3:FOk q22 g3)(h4:FOk q1g g4)(h:HgZ qb8 zn [(q1f,g0),(qh,g1),(jz,g2),(q22,g3),(q1g,g4)] g):FOk zn g:=ym (qtu g0 g1 g2 g3 g4) (.cons h0 (.cons h1 (.cons h2 (.cons h3 (.cons h4 .nil))))) rfl rfl qrj (by decide) h
def q14:Ct:=⟨91,[.val (.st 28)],[(.st 28,false)],[],none,[],[]⟩
theorem qqp:EnZ q14:=fun _ _=>by kernel_rfl
def qy6:Ann:=⟨[0,1,2,5],[]⟩
def qaz:Tree:=(.br (.eq (.fld (.tok 0) 0) (.lit (.i 5))) (.leaf [(.set (.tok 0) 0 (.lit (.i 0)))]) (.leaf [(.tok 0)]))
theorem qtn:CdZ [] qy6 q14 Tryz.f91 qaz:=fun cd h=>by injection h with h;subst h;kernel_rfl
theorem qyo(h:HgZ qaz q14 [] g):FOk q14 g:=ym (qtn) .nil rfl rfl qqp (by decide) h
def q17:Ct:=⟨54,[.ref (.st 26) true,.val (.st 28),.val (.st 28)],[(.int .i64,false)],[],none,[],[]⟩
theorem qra:EnZ q17:=fun _ _=>by kernel_rfl
def qxv:Ann:=⟨[0,1,2,4,5,6,7,8,37],[]⟩
def q6e:Tree:=(.need [(.ok 0 [(.tok 2)]),(.ok 0 [(.tok 2)]),(.le (.lit (.i 0)) (.add (.fld (.tok 1) 1) (.lit (.i 2)))),(.lt (.add (.fld (.tok 1) 1) (.lit (.i 2))) (.len (.fld (.tok 0) 0))),(.rng .i64 (.add (.fld (.tok 1) 1) (.lit (.i 2)))),(.le (.lit (.i 0)) (.add (.fld (.tok 1) 1) (.lit (.i 1)))),(.lt (.add (.fld (.tok 1) 1) (.lit (.i 1))) (.len (.fld (.tok 0) 0))),(.rng .i64 (.add (.fld (.tok 1) 1) (.lit (.i 1))))] (.need [(.ok 1 [(.tok 0),(.fld (.tok 1) 1),(.tok 2)])] (.br (.not (.eq (.call 1 0 [(.tok 0),(.fld (.tok 1) 1),(.tok 2)]) (.lit (.i 0)))) (.leaf [(.call 1 0 [(.tok 0),(.fld (.tok 1) 1),(.tok 2)]),(.call 1 1 [(.tok 0),(.fld (.tok 1) 1),(.tok 2)])]) (.need [(.le (.add (.len (.fld (.call 1 1 [(.tok 0),(.fld (.tok 1) 1),(.tok 2)]) 3)) (.lit (.i 1))) (.lit (.i 3518437208780)))] (.leaf [(.lit (.i 0)),(.set (.call 1 1 [(.tok 0),(.fld (.tok 1) 1),(.tok 2)]) 3 (.app (.fld (.call 1 1 [(.tok 0),(.fld (.tok 1) 1),(.tok 2)]) 3) (.row [(.mk [(.fld (.get (.fld (.tok 0) 0) (.add (.fld (.tok 1) 1) (.lit (.i 1)))) 1),(.get (.fld (.tok 0) 0) (.add (.fld (.tok 1) 1) (.lit (.i 2)))),(.call 0 0 [(.tok 2)])])])))])))))
theorem qvd(g0 g1:GfZ):CdZ [(q14,g0),(zn,g1)] qxv q17 Tryz.f54 q6e:=fun cd h=>by injection h with h;subst h;kernel_rfl
theorem qhw(h0:FOk q14 g0)(h1:FOk zn g1)(h:HgZ q6e q17 [(q14,g0),(zn,g1)] g):FOk q17 g:=ym (qvd g0 g1) (.cons h0 (.cons h1 .nil)) rfl rfl qra (by decide) h
def q16:Ct:=⟨56,[.val (.row 3)],[(.int .i64,false)],[],none,[],[]⟩
theorem qmz:EnZ q16:=fun _ _=>by kernel_rfl
def qw1:Ann:=⟨[0,2,3,5,6,7,8,9,14],[(3,⟨[(2,.int .i64,false),(8,.int .i64,false)],[],[9,10,11,5,12,13,14,15,16],[]⟩)]⟩
def q9s:Tree:=(.loop 3 1 [(.lit (.i 0)),(.lit (.i 0))] (.br (.lt (.tok 2) (.len (.tok 0))) (.need [(.le (.lit (.i 0)) (.tok 2)),(.lt (.tok 2) (.len (.tok 0)))] (.br (.not (.eq (.get (.tok 0) (.tok 2)) (.lit (.i 0)))) (.leaf [(.get (.tok 0) (.tok 2))]) (.need [(.rng .i64 (.add (.tok 2) (.lit (.i 1))))] (.back 3 [(.tok 1),(.add (.tok 2) (.lit (.i 1)))])))) (.leaf [(.lit (.i 0))])))
theorem qql:CdZ [] qw1 q16 Tryz.f56 q9s:=fun cd h=>by injection h with h;subst h;kernel_rfl
theorem qv4(h:HgZ q9s q16 [] g):FOk q16 g:=ym (qql) .nil rfl rfl qmz (by decide) h
def q4n:Ct:=⟨21,[.ref (.st 26) true,.val (.st 28),.val (.st 28)],[(.int .i64,false)],[],none,[],[]⟩
theorem qqo:EnZ q4n:=fun _ _=>by kernel_rfl
def qx8:Ann:=⟨[0,1,2,4,5,6,7,8,9,11,34,40,44,53,61,107],[]⟩
def qbi:Tree:=
 let c:X:=.tok 0
 let f:X:=.lit (.i 1)
 let k:X:=.lit (.i 0)
 let a:X:=.call 2 0 [c,(.tok 2)]
 let b:X:=.call 0 0 [c,(.tok 1)]
 let l:X:=.fld c 0
 let d:X:=.fld a 1
 let g:X:=.or (.not (.call 0 1 [c,(.tok 1)])) (.not (.eq (.fld b 0) (.lit (.i 5))))
 let j:X:=.add (.fld b 1) f
 let h:X:=.not (.call 5 0 [c,d])
 let i:X:=.add d (.lit (.i 2))
 let m:X:=.add d f
 let e:X:=.row [(.call 6 0 [(.fld (.get l j) 1),(.fld (.get l m) 1)]),(.call 6 0 [(.fld b 1),d])]
 (.need [(.ok 0 [c,(.tok 1)]),(.ok 0 [c,(.tok 1)])] (.need [(.imp (.not g) (.ok 1 [c,(.tok 2)]))] (.br (.or g (.not (.call 1 0 [c,(.tok 2)]))) (.leaf [f,c]) (.need [(.ok 2 [c,(.tok 2)]),(.ok 2 [c,(.tok 2)])] (.br (.eq a b) (.leaf [k,c]) (.br (.eq (.fld a 0) k) (.need [(.ok 3 [c,d,b])] (.leaf [(.call 3 0 [c,d,b]),(.call 3 1 [c,d,b])])) (.br (.not (.eq (.fld a 0) (.lit (.i 5)))) (.need [(.ok 4 [c,b,a])] (.leaf [(.call 4 0 [c,b,a]),(.call 4 1 [c,b,a])])) (.need [(.imp (.not h) (.ok 5 [c,i])),(.imp (.not h) (.rng .i64 i)),(.imp (.not h) (.rng .i64 i)),(.ok 5 [c,d])] (.br (.or h (.not (.call 5 0 [c,i]))) (.leaf [f,c]) (.need [(.ok 7 [e]),(.ok 6 [(.fld b 1),d]),(.ok 6 [(.fld (.get l j) 1),(.fld (.get l m) 1)]),(.le k m),(.lt m (.len l)),(.rng .i64 m),(.le k j),(.lt j (.len l)),(.rng .i64 j)] (.br (.lt k (.call 7 0 [e])) (.need [(.ok 4 [c,b,a])] (.leaf [(.call 4 0 [c,b,a]),(.call 4 1 [c,b,a])])) (.need [(.ok 4 [c,a,b])] (.leaf [(.call 4 0 [c,a,b]),(.call 4 1 [c,a,b])])))))))))))))
theorem qud(g0 g1 g2 g3 g4 g5 g6 g7:GfZ):CdZ [(qu,g0),(qh,g1),(zj,g2),(zn,g3),(q17,g4),(q07,g5),(qx,g6),(q16,g7)] qx8 q4n Tryz.f21 qbi:=fun cd h=>by injection h with h;subst h;kernel_rfl
theorem qxh{g4 g5 g6 g7:GfZ}(h0:FOk qu g0)(h1:FOk qh g1)(h2:FOk zj g2)(h3:FOk zn g3)(h4:FOk q17 g4)(h5:FOk q07 g5)(h6:FOk qx g6)(h7:FOk q16 g7)(h:HgZ qbi q4n [(qu,g0),(qh,g1),(zj,g2),(zn,g3),(q17,g4),(q07,g5),(qx,g6),(q16,g7)] g):FOk q4n g:=ym (qud g0 g1 g2 g3 g4 g5 g6 g7) (.cons h0 (.cons h1 (.cons h2 (.cons h3 (.cons h4 (.cons h5 (.cons h6 (.cons h7 .nil)))))))) rfl rfl qqo (by decide) h
def yv:Ct:=⟨60,[.val (.row 73)],[(.row 73,true)],[],none,[],[]⟩
theorem qd1:EnZ yv:=fun _ _=>by kernel_rfl
def qep:Ann:=⟨[0,2,4],[]⟩
def q75:Tree:=(.amb (.tok 0) .false (.leaf [(.lit (.r []))]) (.need [(.le (.add (.lit (.i 0)) (.len (.tok 0))) (.lit (.i 3518437208780)))] (.leaf [(.app (.row []) (.tok 0))])))
theorem qdw:CdZ [] qep yv Tryz.f60 q75:=fun cd h=>by injection h with h;subst h;kernel_rfl
theorem qez(h:HgZ q75 yv [] g):FOk yv g:=ym (qdw) .nil rfl rfl qd1 (by decide) h
def q21:Ct:=⟨31,[.val (.int .i64)],[(.st 53,false)],[],none,[],[]⟩
theorem qwg:EnZ q21:=fun _ _=>by kernel_rfl
def z1n:Ann:=⟨[0,2],[]⟩
def qcp:Tree:=(.leaf [(.set (.set (.lit (.a [(.i 0),(.i 0),(.s ⟨#[]⟩),(.r [])])) 0 (.lit (.i 1))) 1 (.tok 0))])
theorem qyi:CdZ [] z1n q21 Tryz.f31 qcp:=fun cd h=>by injection h with h;subst h;kernel_rfl
theorem z27(h:HgZ qcp q21 [] g):FOk q21 g:=ym (qyi) .nil rfl rfl qwg (by decide) h
def j6:Ct:=⟨69,[.val (.st 28),.ref (.int .i64) true,.rref (.st 26),.cell 106 4],[(.st 53,false)],[(.cell 3,.fn 69 [1,2,3])],none,[],[]⟩
theorem qc2:EnZ j6:=fun _ _=>by kernel_rfl
def qpm:Ann:=⟨[0,1,2,3,4,5,6,7,8,12,17,24,43,99],[(13,⟨[(8,.int .i64,false)],[1,7],[83,84,85,86,87,88,89,90,91,92,93,94,95,96,97,98,99,102,103,104,105,106,107,108,109,110,111,112,113,100,101],[]⟩)]⟩
def q7v:Tree:=
 let c:X:=.tok 2
 let f:X:=.lit (.i 0)
 let g:X:=.lit (.a [(.i 0),(.i 0),(.s ⟨#[]⟩),(.r [])])
 let j:X:=.tok 3
 let k:X:=.lit (.i 1)
 let n:X:=.tok 4
 let a:X:=.fld (.call 1 0 [c,(.tok 0)]) 1
 let e:X:=.sub (.tok 1) k
 let h:X:=.fld (.call 1 0 [c,(.tok 0)]) 0
 let l:X:=.fld c 0
 let m:X:=.fld c 1
 let b:X:=.and (.eq h (.lit (.i 3))) (.eq (.call 5 0 [c,a]) (.lit (.i 4)))
 let d:X:=.fld (.get l a) 1
 let i:X:=.add a (.fld (.get m d) 1)
 (.need [(.rng .i64 e)] (.br (.lt e f) (.leaf [g,e]) (.need [(.ok 1 [c,(.tok 0)])] (.br (.eq h k) (.need [(.ok 2 [a])] (.leaf [(.call 2 0 [a]),e])) (.need [(.imp (.eq h (.lit (.i 2))) (.ok 3 [c,a]))] (.br (.and (.eq h (.lit (.i 2))) (.le f (.call 3 0 [c,a]))) (.need [(.le f a),(.lt a (.len m)),(.ok 4 [(.fld (.get m a) 0)])] (.leaf [(.call 4 0 [(.fld (.get m a) 0)]),e])) (.need [(.imp b (.ok 3 [c,d])),(.imp b (.le f a)),(.imp b (.lt a (.len l))),(.imp (.eq h (.lit (.i 3))) (.ok 5 [c,a]))] (.br (.and b (.le f (.call 3 0 [c,d]))) (.need [(.le f d),(.lt d (.len m)),(.le f a),(.lt a (.len l))] (.need [(.rng .i64 (.add a k))] (.loop 13 3 [(.add a k),e,(.set (.set g 0 (.lit (.i 3))) 2 (.fld (.get m d) 0))] (.need [(.rng .i64 i),(.imp (.le j i) (.ok 5 [c,j]))] (.br (.and (.and (.le j i) (.le f (.call 5 0 [c,j]))) (.le f n)) (.need [(.le (.add (.len (.fld (.tok 5) 3)) k) (.lit (.i 2513169434843))),(.ok 0 [(.get l j),n,c]),(.le f j),(.lt j (.len l))] (.need [(.rng .i64 (.add j k))] (.back 13 [(.add j k),(.call 0 1 [(.get l j),n,c]),(.set (.tok 5) 3 (.app (.fld (.tok 5) 3) (.row [(.call 0 0 [(.get l j),n,c])])))]))) (.leaf [(.tok 5),n])))))) (.leaf [(.set (.set g 0 f) 1 a),e])))))))))
theorem qn6(g0 g1 g2 g3 g4 g5:GfZ):CdZ [(j6,g0),(zj,g1),(q21,g2),(jc,g3),(zo,g4),(ja,g5)] qpm j6 Tryz.f69 q7v:=fun cd h=>by injection h with h;subst h;kernel_rfl
theorem qph{g4 g5:GfZ}(h0:FOk j6 g0)(h1:FOk zj g1)(h2:FOk q21 g2)(h3:FOk jc g3)(h4:FOk zo g4)(h5:FOk ja g5)(h:HgZ q7v j6 [(j6,g0),(zj,g1),(q21,g2),(jc,g3),(zo,g4),(ja,g5)] g):FOk j6 g:=ym (qn6 g0 g1 g2 g3 g4 g5) (.cons h0 (.cons h1 (.cons h2 (.cons h3 (.cons h4 (.cons h5 .nil)))))) rfl rfl qc2 (by decide) h
def q4k:Ct:=⟨27,[.val (.st 26),.val (.st 28)],[(.st 53,false),(.int .i64,false)],[],none,[],[]⟩
theorem qq9:EnZ q4k:=fun _ _=>by kernel_rfl
def qxc:Ann:=⟨[0,1,2,3,4,5,6,7,11,18],[]⟩
def qaw:Tree:=(.need [(.ok 1 [(.tok 0),(.tok 1)])] (.br (.not (.call 1 0 [(.tok 0),(.tok 1)])) (.leaf [(.lit (.a [(.i 0),(.i 0),(.s ⟨#[]⟩),(.r [])])),(.lit (.i 1))]) (.need [(.ok 0 [(.tok 1),(.lit (.i 2000)),(.tok 0)])] (.br (.lt (.call 0 1 [(.tok 1),(.lit (.i 2000)),(.tok 0)]) (.lit (.i 0))) (.leaf [(.lit (.a [(.i 0),(.i 0),(.s ⟨#[]⟩),(.r [])])),(.lit (.i 2))]) (.leaf [(.call 0 0 [(.tok 1),(.lit (.i 2000)),(.tok 0)]),(.lit (.i 0))])))))
theorem qu9(g0 g1:GfZ):CdZ [(j6,g0),(qh,g1)] qxc q4k Tryz.f27 qaw:=fun cd h=>by injection h with h;subst h;kernel_rfl
theorem qy7(h0:FOk j6 g0)(h1:FOk qh g1)(h:HgZ qaw q4k [(j6,g0),(qh,g1)] g):FOk q4k g:=ym (qu9 g0 g1) (.cons h0 (.cons h1 .nil)) rfl rfl qq9 (by decide) h
def yr:Ct:=⟨125,[.val (.st 53),.val (.int .i64)],[(.int .i64,false)],[],none,[],[]⟩
theorem q6h:EnZ yr:=fun _ _=>by kernel_rfl
def qpw:Ann:=⟨[0,1,2,4,5,6,16],[(3,⟨[(5,.int .i64,false),(6,.int .i64,false)],[],[7,8,9,10,11,12,13,14,15,16,19,20,21,22,23,24,25,26,27,28,29,17,18],[]⟩)]⟩
def q4q:Tree:=(.loop 3 2 [(.lit (.i 1)),(.lit (.i 0))] (.br (.and (.lt (.tok 3) (.len (.fld (.tok 0) 3))) (.lt (.tok 2) (.tok 1))) (.need [(.le (.lit (.i 0)) (.tok 3)),(.lt (.tok 3) (.len (.fld (.tok 0) 3))),(.rng .i64 (.sub (.tok 1) (.tok 2))),(.ok 0 [(.get (.fld (.tok 0) 3) (.tok 3)),(.sub (.tok 1) (.tok 2))]),(.rng .i64 (.add (.tok 2) (.call 0 0 [(.get (.fld (.tok 0) 3) (.tok 3)),(.sub (.tok 1) (.tok 2))])))] (.need [(.rng .i64 (.add (.tok 3) (.lit (.i 1))))] (.back 3 [(.add (.tok 2) (.call 0 0 [(.get (.fld (.tok 0) 3) (.tok 3)),(.sub (.tok 1) (.tok 2))])),(.add (.tok 3) (.lit (.i 1)))]))) (.leaf [(.tok 2)])))
theorem qm1(g0:GfZ):CdZ [(yr,g0)] qpw yr Tryz.f125 q4q:=fun cd h=>by injection h with h;subst h;kernel_rfl
theorem qea(h0:FOk yr g0)(h:HgZ q4q yr [(yr,g0)] g):FOk yr g:=ym (qm1 g0) (.cons h0 .nil) rfl rfl q6h (by decide) h
def q0k:Ct:=⟨110,[.val (.st 53)],[(.int .i64,false)],[],none,[],[]⟩
theorem qm4:EnZ q0k:=fun _ _=>by kernel_rfl
def qw3:Ann:=⟨[0,1,2],[]⟩
def q5h:Tree:=(.need [(.ok 0 [(.tok 0),(.lit (.i 2001))])] (.leaf [(.call 0 0 [(.tok 0),(.lit (.i 2001))])]))
theorem qpy(g0:GfZ):CdZ [(yr,g0)] qw3 q0k Tryz.f110 q5h:=fun cd h=>by injection h with h;subst h;kernel_rfl
theorem qgc(h0:FOk yr g0)(h:HgZ q5h q0k [(yr,g0)] g):FOk q0k g:=ym (qpy g0) (.cons h0 .nil) rfl rfl qm4 (by decide) h
def q0j:Ct:=⟨126,[.val (.st 53)],[(.bool,false)],[],none,[],[]⟩
theorem qn5:EnZ q0j:=fun _ _=>by kernel_rfl
def qtq:Ann:=⟨[0,1,2,4,5,26,37,54],[]⟩
def q5i:Tree:=(.br (.eq (.fld (.tok 0) 0) (.lit (.i 0))) (.leaf [(.and (.and (.and (.le (.lit (.i 0)) (.fld (.tok 0) 1)) (.le (.fld (.tok 0) 1) (.lit (.i 1099511627776)))) (.eq (.fld (.tok 0) 2) (.lit (.s ⟨#[]⟩)))) (.eq (.len (.fld (.tok 0) 3)) (.lit (.i 0))))]) (.br (.eq (.fld (.tok 0) 0) (.lit (.i 1))) (.leaf [(.and (.eq (.fld (.tok 0) 2) (.lit (.s ⟨#[]⟩))) (.eq (.len (.fld (.tok 0) 3)) (.lit (.i 0))))]) (.br (.eq (.fld (.tok 0) 0) (.lit (.i 2))) (.leaf [(.and (.and (.eq (.fld (.tok 0) 1) (.lit (.i 0))) (.le (.slen (.fld (.tok 0) 2)) (.lit (.i 100)))) (.eq (.len (.fld (.tok 0) 3)) (.lit (.i 0))))]) (.br (.eq (.fld (.tok 0) 0) (.lit (.i 3))) (.leaf [(.and (.and (.and (.eq (.fld (.tok 0) 1) (.lit (.i 0))) (.le (.slen (.fld (.tok 0) 2)) (.lit (.i 100)))) (.le (.lit (.i 1)) (.len (.fld (.tok 0) 3)))) (.le (.len (.fld (.tok 0) 3)) (.lit (.i 8))))]) (.leaf [(.lit (.b .false))])))))
theorem qr7:CdZ [] qtq q0j Tryz.f126 q5i:=fun cd h=>by injection h with h;subst h;kernel_rfl
theorem qg4(h:HgZ q5i q0j [] g):FOk q0j g:=ym (qr7) .nil rfl rfl qn5 (by decide) h
def yu:Ct:=⟨111,[.val (.st 53)],[(.bool,false)],[],none,[],[]⟩
theorem q79:EnZ yu:=fun _ _=>by kernel_rfl
def qrd:Ann:=⟨[0,1,2,3,6,11,20],[(4,⟨[(2,.bool,false),(3,.int .i64,false)],[],[7,8,9,10,11,14,15,16,17,18,19,20,12,13],[]⟩)]⟩
def q4t:Tree:=(.need [(.ok 0 [(.tok 0)])] (.br (.not (.call 0 0 [(.tok 0)])) (.leaf [(.lit (.b .false))]) (.loop 4 1 [(.lit (.b .false)),(.lit (.i 0))] (.br (.lt (.tok 2) (.len (.fld (.tok 0) 3))) (.need [(.le (.lit (.i 0)) (.tok 2)),(.lt (.tok 2) (.len (.fld (.tok 0) 3))),(.ok 1 [(.get (.fld (.tok 0) 3) (.tok 2))])] (.br (.not (.call 1 0 [(.get (.fld (.tok 0) 3) (.tok 2))])) (.leaf [(.lit (.b .false))]) (.need [(.rng .i64 (.add (.tok 2) (.lit (.i 1))))] (.back 4 [(.tok 1),(.add (.tok 2) (.lit (.i 1)))])))) (.leaf [(.lit (.b .true))])))))
theorem qnq(g0 g1:GfZ):CdZ [(q0j,g0),(yu,g1)] qrd yu Tryz.f111 q4t:=fun cd h=>by injection h with h;subst h;kernel_rfl
theorem qej(h0:FOk q0j g0)(h1:FOk yu g1)(h:HgZ q4t yu [(q0j,g0),(yu,g1)] g):FOk yu g:=ym (qnq g0 g1) (.cons h0 (.cons h1 .nil)) rfl rfl q79 (by decide) h
def j5:Ct:=⟨72,[.val (.st 53)],[(.bool,false)],[],none,[],[]⟩
theorem qkh:EnZ j5:=fun _ _=>by kernel_rfl
def qqz:Ann:=⟨[0,1,2],[]⟩
def q4x:Tree:=(.need [(.ok 0 [(.tok 0)]),(.imp (.le (.call 0 0 [(.tok 0)]) (.lit (.i 2000))) (.ok 1 [(.tok 0)]))] (.leaf [(.and (.le (.call 0 0 [(.tok 0)]) (.lit (.i 2000))) (.call 1 0 [(.tok 0)]))]))
theorem qo2(g0 g1:GfZ):CdZ [(q0k,g0),(yu,g1)] qqz j5 Tryz.f72 q4x:=fun cd h=>by injection h with h;subst h;kernel_rfl
theorem qei(h0:FOk q0k g0)(h1:FOk yu g1)(h:HgZ q4x j5 [(q0k,g0),(yu,g1)] g):FOk j5 g:=ym (qo2 g0 g1) (.cons h0 (.cons h1 .nil)) rfl rfl qkh (by decide) h
def zl:Ct:=⟨73,[.val (.st 53),.val (.st 53)],[(.bool,false)],[],none,[],[]⟩
theorem q7l:EnZ zl:=fun _ _=>by kernel_rfl
def qhb:Ann:=⟨[0,1,2,3,4,5,33,38,52],[(4,⟨[(4,.bool,false),(5,.int .i64,false)],[],[34,35,36,37,38,41,42,43,44,45,46,47,48,49,50,51,52,39,40],[]⟩)]⟩
def q4e:Tree:=(.br (.or (.or (.or (.not (.eq (.fld (.tok 0) 0) (.fld (.tok 1) 0))) (.not (.eq (.fld (.tok 0) 1) (.fld (.tok 1) 1)))) (.not (.eq (.fld (.tok 0) 2) (.fld (.tok 1) 2)))) (.not (.eq (.len (.fld (.tok 0) 3)) (.len (.fld (.tok 1) 3))))) (.leaf [(.lit (.b .false))]) (.loop 4 2 [(.lit (.b .false)),(.lit (.i 0))] (.br (.lt (.tok 3) (.len (.fld (.tok 0) 3))) (.need [(.ok 0 [(.get (.fld (.tok 0) 3) (.tok 3)),(.get (.fld (.tok 1) 3) (.tok 3))]),(.le (.lit (.i 0)) (.tok 3)),(.lt (.tok 3) (.len (.fld (.tok 1) 3))),(.le (.lit (.i 0)) (.tok 3)),(.lt (.tok 3) (.len (.fld (.tok 0) 3)))] (.br (.not (.call 0 0 [(.get (.fld (.tok 0) 3) (.tok 3)),(.get (.fld (.tok 1) 3) (.tok 3))])) (.leaf [(.lit (.b .false))]) (.need [(.rng .i64 (.add (.tok 3) (.lit (.i 1))))] (.back 4 [(.tok 2),(.add (.tok 3) (.lit (.i 1)))])))) (.leaf [(.lit (.b .true))]))))
theorem qfi(g0:GfZ):CdZ [(zl,g0)] qhb zl Tryz.f73 q4e:=fun cd h=>by injection h with h;subst h;kernel_rfl
theorem qh8(h0:FOk zl g0)(h:HgZ q4e zl [(zl,g0)] g):FOk zl g:=ym (qfi g0) (.cons h0 .nil) rfl rfl q7l (by decide) h
def q3t:Ct:=⟨28,[.val (.st 53),.val (.st 53)],[(.bool,false)],[],none,[],[]⟩
theorem qnk:EnZ q3t:=fun _ _=>by kernel_rfl
def qtg:Ann:=⟨[0,1,2,3,4],[]⟩
def q9n:Tree:=(.need [(.ok 0 [(.tok 0)]),(.imp (.call 0 0 [(.tok 0)]) (.ok 0 [(.tok 1)])),(.imp (.and (.call 0 0 [(.tok 0)]) (.call 0 0 [(.tok 1)])) (.ok 1 [(.tok 0),(.tok 1)]))] (.leaf [(.and (.and (.call 0 0 [(.tok 0)]) (.call 0 0 [(.tok 1)])) (.call 1 0 [(.tok 0),(.tok 1)]))]))
theorem qqj(g0 g1:GfZ):CdZ [(j5,g0),(zl,g1)] qtg q3t Tryz.f28 q9n:=fun cd h=>by injection h with h;subst h;kernel_rfl
theorem qvj(h0:FOk j5 g0)(h1:FOk zl g1)(h:HgZ q9n q3t [(j5,g0),(zl,g1)] g):FOk q3t g:=ym (qqj g0 g1) (.cons h0 (.cons h1 .nil)) rfl rfl qnk (by decide) h
def jr:Ct:=⟨35,[.val (.row 87)],[(.bool,false)],[],none,[],[]⟩
theorem qhm:EnZ jr:=fun _ _=>by kernel_rfl
def ql3:Ann:=⟨[0,2,3,4,7,12,46],[(5,⟨[(2,.bool,false),(4,.int .i64,false),(3,.map 87 3,false)],[],[9,10,11,12,15,16,17,18,19,20,21,22,23,24,25,26,27,28,29,30,31,32,33,34,35,36,37,38,39,40,41,42,43,44,45,46,47,48,49,50,51,13,14,8],[]⟩)]⟩
def q5u:Tree:=
 let b:X:=.lt (.tok 2) (.len (.tok 0))
 let c:X:=.get (.tok 0) (.tok 2)
 let d:X:=.le (.lit (.i 0)) (.tok 2)
 let g:X:=.lit (.i 1)
 let h:X:=.lit (.b .false)
 let a:X:=.or (.lt (.lit (.i 100)) (.slen (.fld c 0))) (.lt (.fld c 1) (.lit (.i 0)))
 let f:X:=.not (.lt (.lit (.i 100)) (.slen (.fld c 0)))
 let e:X:=.or a (.lt (.lit (.i 8)) (.fld c 1))
 (.br (.lt (.lit (.i 1048576)) (.len (.tok 0))) (.leaf [h]) (.loop 5 1 [h,(.lit (.i 0)),(.lit (.mp []))] (.br b (.need [d,b,(.imp f d),(.imp f b),(.imp (.not a) d),(.imp (.not a) b),(.imp (.not e) d),(.imp (.not e) b)] (.br (.or e (.eq (.fn 0 [(.tok 3),c,(.lit (.i 0))]) g)) (.leaf [h]) (.need [d,b] (.need [(.rng .i64 (.add (.tok 2) g))] (.back 5 [(.tok 1),(.add (.tok 2) g),(.fn 2 [(.tok 3),c,g])]))))) (.leaf [(.lit (.b .true))]))))
theorem qjf:CdZ [] ql3 jr Tryz.f35 q5u:=fun cd h=>by injection h with h;subst h;kernel_rfl
theorem qkt(h:HgZ q5u jr [] g):FOk jr g:=ym (qjf) .nil rfl rfl qhm (by decide) h
def jk:Ct:=⟨77,[.val (.st 26),.val (.int .i64)],[(.int .i64,false)],[],none,[],[]⟩
theorem qkl:EnZ jk:=fun _ _=>by kernel_rfl
def qq1:Ann:=⟨[0,1,2,4,13],[]⟩
def q8c:Tree:=(.br (.or (.lt (.tok 1) (.lit (.i 0))) (.le (.len (.fld (.tok 0) 1)) (.tok 1))) (.leaf [(.lit (.i (-1)))]) (.need [(.le (.lit (.i 0)) (.tok 1)),(.lt (.tok 1) (.len (.fld (.tok 0) 1)))] (.leaf [(.fld (.get (.fld (.tok 0) 1) (.tok 1)) 1)])))
theorem qn8:CdZ [] qq1 jk Tryz.f77 q8c:=fun cd h=>by injection h with h;subst h;kernel_rfl
theorem qrg(h:HgZ q8c jk [] g):FOk jk g:=ym (qn8) .nil rfl rfl qkl (by decide) h
def z5:Ct:=⟨78,[.val (.st 26),.val (.int .i64)],[(.bool,false)],[],none,[],[]⟩
theorem qis:EnZ z5:=fun _ _=>by kernel_rfl
def qnz:Ann:=⟨[0,1,2,4],[]⟩
def q6a:Tree:=(.leaf [(.and (.le (.lit (.i 0)) (.tok 1)) (.lt (.tok 1) (.len (.fld (.tok 0) 0))))])
theorem qki:CdZ [] qnz z5 Tryz.f78 q6a:=fun cd h=>by injection h with h;subst h;kernel_rfl
theorem qnp(h:HgZ q6a z5 [] g):FOk z5 g:=ym (qki) .nil rfl rfl qis (by decide) h
def zy:Ct:=⟨79,[.val (.st 26),.val (.int .i64)],[(.int .i64,false)],[],none,[],[]⟩
theorem qrl:EnZ zy:=fun _ _=>by kernel_rfl
def qxs:Ann:=⟨[0,1,2,4,8],[]⟩
def qb4:Tree:=(.need [(.ok 0 [(.tok 0),(.tok 1)])] (.br (.not (.call 0 0 [(.tok 0),(.tok 1)])) (.leaf [(.lit (.i (-1)))]) (.need [(.le (.lit (.i 0)) (.tok 1)),(.lt (.tok 1) (.len (.fld (.tok 0) 0)))] (.leaf [(.fld (.get (.fld (.tok 0) 0) (.tok 1)) 0)]))))
theorem qx0(g0:GfZ):CdZ [(z5,g0)] qxs zy Tryz.f79 qb4:=fun cd h=>by injection h with h;subst h;kernel_rfl
theorem qxo(h0:FOk z5 g0)(h:HgZ qb4 zy [(z5,g0)] g):FOk zy g:=ym (qx0 g0) (.cons h0 .nil) rfl rfl qrl (by decide) h
def qo:Ct:=⟨38,[.val (.st 26),.val (.st 28)],[(.bool,false)],[],none,[],[]⟩
theorem qes:EnZ qo:=fun _ _=>by kernel_rfl
def qhv:Ann:=⟨[0,1,2,3,4,6,7,20,22,29,36],[]⟩
def q49:Tree:=(.br (.eq (.fld (.tok 1) 0) (.lit (.i 0))) (.need [(.ok 0 [(.tok 0),(.fld (.tok 1) 1)]),(.imp (.call 0 0 [(.tok 0),(.fld (.tok 1) 1)]) (.ok 1 [(.tok 0),(.fld (.tok 1) 1)]))] (.leaf [(.and (.call 0 0 [(.tok 0),(.fld (.tok 1) 1)]) (.not (.eq (.call 1 0 [(.tok 0),(.fld (.tok 1) 1)]) (.lit (.i 4)))))])) (.br (.eq (.fld (.tok 1) 0) (.lit (.i 1))) (.leaf [(.lit (.b .true))]) (.br (.eq (.fld (.tok 1) 0) (.lit (.i 2))) (.need [(.ok 2 [(.tok 0),(.fld (.tok 1) 1)])] (.leaf [(.eq (.call 2 0 [(.tok 0),(.fld (.tok 1) 1)]) (.lit (.i 0)))])) (.br (.eq (.fld (.tok 1) 0) (.lit (.i 3))) (.need [(.ok 1 [(.tok 0),(.fld (.tok 1) 1)])] (.leaf [(.eq (.call 1 0 [(.tok 0),(.fld (.tok 1) 1)]) (.lit (.i 4)))])) (.br (.eq (.fld (.tok 1) 0) (.lit (.i 5))) (.need [(.ok 1 [(.tok 0),(.fld (.tok 1) 1)])] (.leaf [(.eq (.call 1 0 [(.tok 0),(.fld (.tok 1) 1)]) (.lit (.i 5)))])) (.leaf [(.lit (.b .false))]))))))
theorem qfz(g0 g1 g2:GfZ):CdZ [(z5,g0),(zy,g1),(jk,g2)] qhv qo Tryz.f38 q49:=fun cd h=>by injection h with h;subst h;kernel_rfl
theorem qhr(h0:FOk z5 g0)(h1:FOk zy g1)(h2:FOk jk g2)(h:HgZ q49 qo [(z5,g0),(zy,g1),(jk,g2)] g):FOk qo g:=ym (qfz g0 g1 g2) (.cons h0 (.cons h1 (.cons h2 .nil))) rfl rfl qes (by decide) h
def q28:Ct:=⟨80,[.val (.st 26),.val (.int .i64)],[(.bool,false)],[],none,[],[]⟩
theorem qmu:EnZ q28:=fun _ _=>by kernel_rfl
def qvw:Ann:=⟨[0,1,2,4,5,10,26],[(2,⟨[(4,.bool,false),(1,.int .i64,false),(5,.int .i64,false)],[],[6,7,8,9,10,13,14,15,16,17,18,19,20,21,22,23,24,25,26,27,28,29,30,31,32,11,12],[]⟩)]⟩
def q9d:Tree:=(.loop 2 2 [(.lit (.b .false)),(.tok 1),(.lit (.i 0))] (.br (.le (.tok 4) (.len (.fld (.tok 0) 0))) (.need [(.ok 0 [(.tok 0),(.tok 3)]),(.imp (.not (.not (.eq (.call 0 0 [(.tok 0),(.tok 3)]) (.lit (.i 0))))) (.le (.lit (.i 0)) (.tok 3))),(.imp (.not (.not (.eq (.call 0 0 [(.tok 0),(.tok 3)]) (.lit (.i 0))))) (.lt (.tok 3) (.len (.fld (.tok 0) 0))))] (.br (.or (.not (.eq (.call 0 0 [(.tok 0),(.tok 3)]) (.lit (.i 0)))) (.eq (.fld (.get (.fld (.tok 0) 0) (.tok 3)) 1) (.tok 3))) (.leaf [(.lit (.b .true))]) (.need [(.le (.lit (.i 0)) (.tok 3)),(.lt (.tok 3) (.len (.fld (.tok 0) 0)))] (.need [(.rng .i64 (.add (.tok 4) (.lit (.i 1))))] (.back 2 [(.tok 2),(.fld (.get (.fld (.tok 0) 0) (.tok 3)) 1),(.add (.tok 4) (.lit (.i 1)))]))))) (.leaf [(.lit (.b .false))])))
theorem qq4(g0:GfZ):CdZ [(zy,g0)] qvw q28 Tryz.f80 q9d:=fun cd h=>by injection h with h;subst h;kernel_rfl
theorem qtd(h0:FOk zy g0)(h:HgZ q9d q28 [(zy,g0)] g):FOk q28 g:=ym (qq4 g0) (.cons h0 .nil) rfl rfl qmu (by decide) h
def jl:Ct:=⟨81,[.val (.st 26),.val (.int .i64)],[(.bool,false)],[],none,[],[]⟩
theorem qlu:EnZ jl:=fun _ _=>by kernel_rfl
def qr4:Ann:=⟨[0,1,2,4,5],[]⟩
def q7z:Tree:=
 let b:X:=.add (.tok 1) (.lit (.i 1))
 let c:X:=.add (.tok 1) (.lit (.i 2))
 let e:X:=.tok 0
 let d:X:=.eq (.call 0 0 [e,b]) (.lit (.i 1))
 let f:X:=.rng .i64 b
 let g:X:=.lt b (.len (.fld e 0))
 let h:X:=.le (.lit (.i 0)) b
 let i:X:=.call 0 0 [e,c]
 let a:X:=.and d (.le (.lit (.i 1)) (.fld (.get (.fld e 0) b) 1))
 (.need [(.rng .i64 c),(.ok 0 [e,c])] (.need [(.imp a h),(.imp a g),(.imp a f),(.imp a h),(.imp a g),(.imp a f),(.imp a f),(.imp a f),(.imp d h),(.imp d g),(.imp d f),(.ok 0 [e,b]),f] (.leaf [(.and (.and (.and (.and a (.le (.fld (.get (.fld e 0) b) 1) (.fld e 4))) (.le (.lit (.i 0)) i)) (.not (.eq i (.lit (.i 4))))) (.not (.eq i (.lit (.i 5)))))])))
theorem qok(g0:GfZ):CdZ [(zy,g0)] qr4 jl Tryz.f81 q7z:=fun cd h=>by injection h with h;subst h;kernel_rfl
theorem qq6(h0:FOk zy g0)(h:HgZ q7z jl [(zy,g0)] g):FOk jl g:=ym (qok g0) (.cons h0 .nil) rfl rfl qlu (by decide) h
def q1a:Ct:=⟨36,[.val (.st 26),.val (.int .i64)],[(.bool,false)],[],none,[],[]⟩
theorem qnm:EnZ q1a:=fun _ _=>by kernel_rfl
def qtx:Ann:=⟨[0,1,2,4,5,6,7,15,29,32,40,50],[(7,⟨[(4,.bool,false),(7,.int .i64,false)],[],[30,31,32,35,36,37,38,39,40,33,34],[]⟩)]⟩
def q9c:Tree:=
 let c:X:=.tok 1
 let d:X:=.tok 0
 let e:X:=.lit (.i 1)
 let f:X:=.lit (.b .false)
 let h:X:=.tok 3
 let a:X:=.get (.fld d 0) c
 let b:X:=.call 0 0 [d,(.fld a 1)]
 let g:X:=.not (.eq (.fld a 0) (.lit (.i 5)))
 let i:X:=.not (.call 3 0 [d,a])
 (.need [(.le (.lit (.i 0)) c),(.lt c (.len (.fld d 0)))] (.br (.eq (.fld a 0) (.lit (.i 4))) (.need [(.ok 0 [d,(.fld a 1)])] (.need [(.imp (.not (.lt b e)) (.rng .i64 (.add c b))),(.imp (.not (.lt b e)) (.ok 1 [d,(.add c b)]))] (.br (.or (.lt b e) (.not (.call 1 0 [d,(.add c b)]))) (.leaf [f]) (.loop 7 2 [f,e] (.br (.le h b) (.need [(.rng .i64 (.add c h)),(.ok 2 [d,(.add c h)])] (.br (.eq (.call 2 0 [d,(.add c h)]) (.lit (.i 4))) (.leaf [f]) (.need [(.rng .i64 (.add h e))] (.back 7 [(.tok 2),(.add h e)])))) (.leaf [(.lit (.b .true))])))))) (.need [(.ok 3 [d,a]),(.imp (.not i) (.ok 4 [d,c]))] (.br (.or i (.not (.call 4 0 [d,c]))) (.leaf [f]) (.need [(.imp (.and (.not g) (.eq (.fld a 1) c)) (.ok 5 [d,c]))] (.leaf [(.or g (.and (.eq (.fld a 1) c) (.call 5 0 [d,c])))]))))))
theorem qpv(g0 g1 g2 g3 g4 g5:GfZ):CdZ [(jk,g0),(z5,g1),(zy,g2),(qo,g3),(q28,g4),(jl,g5)] qtx q1a Tryz.f36 q9c:=fun cd h=>by injection h with h;subst h;kernel_rfl
theorem qtr{g4 g5:GfZ}(h0:FOk jk g0)(h1:FOk z5 g1)(h2:FOk zy g2)(h3:FOk qo g3)(h4:FOk q28 g4)(h5:FOk jl g5)(h:HgZ q9c q1a [(jk,g0),(z5,g1),(zy,g2),(qo,g3),(q28,g4),(jl,g5)] g):FOk q1a g:=ym (qpv g0 g1 g2 g3 g4 g5) (.cons h0 (.cons h1 (.cons h2 (.cons h3 (.cons h4 (.cons h5 .nil)))))) rfl rfl qnm (by decide) h
def q1v:Ct:=⟨37,[.val (.st 26),.val (.st 70)],[(.bool,false)],[],none,[],[]⟩
theorem qpj:EnZ q1v:=fun _ _=>by kernel_rfl
def qyz:Ann:=⟨[0,1,2,3,4,5,11,14,15,22,41],[]⟩
def qbf:Tree:=
 let a:X:=.fld (.tok 1) 1
 let b:X:=.fld (.tok 1) 0
 let d:X:=.tok 0
 let f:X:=.lit (.b .false)
 let g:X:=.lit (.i 1)
 let c:X:=.and (.eq (.fld a 1) b) (.call 1 0 [d,b])
 let e:X:=.fld a 0
 let h:X:=.call 3 0 [d,a]
 let i:X:=.ok 3 [d,a]
 (.need [(.ok 0 [d,b])] (.br (.not (.call 0 0 [d,b])) (.leaf [f]) (.br (.eq e (.lit (.i 0))) (.leaf [(.eq (.fld a 1) b)]) (.br (.eq e (.lit (.i 5))) (.need [(.imp (.eq (.fld a 1) b) (.ok 1 [d,b])),(.imp c (.rng .i64 (.sub b g))),(.imp c (.ok 2 [d,(.sub b g)]))] (.leaf [(.and c (.not (.eq (.call 2 0 [d,(.sub b g)]) (.lit (.i 5)))))])) (.br (.eq e g) (.br (.eq e g) (.need [i] (.leaf [h])) (.leaf [f])) (.br (.eq e (.lit (.i 2))) (.br (.eq e (.lit (.i 2))) (.need [i] (.leaf [h])) (.leaf [f])) (.br (.eq e (.lit (.i 3))) (.need [i] (.leaf [h])) (.leaf [f]))))))))
theorem qt6(g0 g1 g2 g3:GfZ):CdZ [(z5,g0),(jl,g1),(zy,g2),(qo,g3)] qyz q1v Tryz.f37 qbf:=fun cd h=>by injection h with h;subst h;kernel_rfl
theorem qyy(h0:FOk z5 g0)(h1:FOk jl g1)(h2:FOk zy g2)(h3:FOk qo g3)(h:HgZ qbf q1v [(z5,g0),(jl,g1),(zy,g2),(qo,g3)] g):FOk q1v g:=ym (qt6 g0 g1 g2 g3) (.cons h0 (.cons h1 (.cons h2 (.cons h3 .nil)))) rfl rfl qpj (by decide) h
def q1m:Ct:=⟨11,[.val (.st 26)],[(.bool,false)],[],none,[],[]⟩
theorem qlz:EnZ q1m:=fun _ _=>by kernel_rfl
def qqr:Ann:=⟨[0,1,2,3,4,5,6,33,38,44,49,59,64,95],[(4,⟨[(2,.bool,false),(3,.int .i64,false)],[],[34,35,36,37,38,41,42,43,44,39,40],[]⟩),
 (9,⟨[(2,.bool,false),(4,.int .i64,false)],[],[45,46,47,48,49,52,53,54,55,56,57,58,59,50,51],[]⟩),
 (14,⟨[(2,.bool,false),(5,.int .i64,false)],[],[60,61,62,63,64,67,68,69,70,71,6,72,73,74,75,76,77,78,79,80,81,82,83,84,85,86,87,88,89,90,91,92,93,94,95,65,66],[]⟩)]⟩
def q7u:Tree:=
 let b:X:=.tok 0
 let e:X:=.lit (.b .false)
 let f:X:=.lit (.i 1)
 let g:X:=.lit (.i 0)
 let h:X:=.tok 4
 let k:X:=.tok 2
 let a:X:=.get (.fld b 3) (.tok 6)
 let c:X:=.or (.or (.or (.lt (.fld b 5) f) (.lt (.lit (.i 1048576)) (.fld b 5))) (.lt (.fld b 5) (.len (.fld b 0)))) (.lt (.fld b 4) g)
 let j:X:=.lt (.tok 6) (.len (.fld b 3))
 let l:X:=.fld b 2
 let d:X:=.or (.lt (.fld a 0) f) (.lt (.fld b 4) (.fld a 0))
 let i:X:=.or d (.not (.call 3 0 [b,(.fld a 1)]))
 (.need [(.imp (.not c) (.ok 0 [(.fld b 1)]))] (.br (.or c (.not (.call 0 0 [(.fld b 1)]))) (.leaf [e]) (.loop 4 1 [e,g] (.br (.lt k (.len (.fld b 0))) (.need [(.ok 1 [b,k])] (.br (.not (.call 1 0 [b,k])) (.leaf [e]) (.need [(.rng .i64 (.add k f))] (.back 4 [(.tok 1),(.add k f)])))) (.loop 9 3 [(.tok 1),g] (.br (.lt h (.len l)) (.need [(.ok 2 [b,(.get l h)]),(.le g h),(.lt h (.len l))] (.br (.not (.call 2 0 [b,(.get l h)])) (.leaf [e]) (.need [(.rng .i64 (.add h f))] (.back 9 [(.tok 3),(.add h f)])))) (.loop 14 5 [(.tok 3),g] (.br j (.need [(.le g (.tok 6)),j] (.need [(.imp (.not d) (.ok 3 [b,(.fld a 1)])),(.imp (.not i) (.ok 3 [b,(.fld a 2)]))] (.br (.or i (.not (.call 3 0 [b,(.fld a 2)]))) (.leaf [e]) (.need [(.rng .i64 (.add (.tok 6) f))] (.back 14 [(.tok 5),(.add (.tok 6) f)]))))) (.leaf [(.lit (.b .true))])))))))))
theorem qnc(g0 g1 g2 g3:GfZ):CdZ [(jr,g0),(q1a,g1),(q1v,g2),(qo,g3)] qqr q1m Tryz.f11 q7u:=fun cd h=>by injection h with h;subst h;kernel_rfl
theorem qpt(h0:FOk jr g0)(h1:FOk q1a g1)(h2:FOk q1v g2)(h3:FOk qo g3)(h:HgZ q7u q1m [(jr,g0),(q1a,g1),(q1v,g2),(qo,g3)] g):FOk q1m g:=ym (qnc g0 g1 g2 g3) (.cons h0 (.cons h1 (.cons h2 (.cons h3 .nil)))) rfl rfl qlz (by decide) h
def q1d:Ct:=⟨58,[.val (.st 26),.val (.st 28)],[(.st 28,false)],[],none,[],[]⟩
theorem qkr:EnZ q1d:=fun _ _=>by kernel_rfl
def qqu:Ann:=⟨[0,1,2,3,4,5,9,36],[(4,⟨[(5,.int .i64,false)],[3],[11,12,13,14,15,16,17,18,19,20,21,22,23,24,25,26,27,28,29,30,31,32,33,34,35,36,39,40,41,42,43,44,37,38],[]⟩)]⟩
def q7r:Tree:=
 let b:X:=.fld (.tok 3) 1
 let c:X:=.fld (.tok 0) 0
 let d:X:=.lit (.i 0)
 let f:X:=.add (.tok 2) (.lit (.i 1))
 let a:X:=.and (.and (.le (.tok 2) (.len c)) (.eq (.fld (.tok 3) 0) d)) (.call 1 0 [(.tok 0),b])
 let e:X:=.lt b (.len c)
 (.need [(.ok 0 [(.tok 0),(.tok 1)])] (.br (.not (.call 0 0 [(.tok 0),(.tok 1)])) (.leaf [(.lit (.a [(.i 0),(.i 0)]))]) (.loop 4 2 [d,(.tok 1)] (.need [(.imp a (.le d b)),(.imp a e),(.imp a (.le d b)),(.imp a e),(.imp (.and (.le (.tok 2) (.len c)) (.eq (.fld (.tok 3) 0) d)) (.ok 1 [(.tok 0),b]))] (.br (.and a (.not (.eq (.get c b) (.tok 3)))) (.need [(.le d b),e] (.need [(.rng .i64 f)] (.back 4 [f,(.get c b)]))) (.leaf [(.tok 3)]))))))
theorem qmn(g0 g1:GfZ):CdZ [(qo,g0),(z5,g1)] qqu q1d Tryz.f58 q7r:=fun cd h=>by injection h with h;subst h;kernel_rfl
theorem qpc(h0:FOk qo g0)(h1:FOk z5 g1)(h:HgZ q7r q1d [(qo,g0),(z5,g1)] g):FOk q1d g:=ym (qmn g0 g1) (.cons h0 (.cons h1 .nil)) rfl rfl qkr (by decide) h
def q08:Ct:=⟨88,[.val (.st 26),.val (.st 28),.val (.str),.val (.int .i64)],[(.bool,false)],[],none,[],[]⟩
theorem qhf:EnZ q08:=fun _ _=>by kernel_rfl
def qjr:Ann:=⟨[0,1,2,3,4,5,8],[]⟩
def q3i:Tree:=
 let a:X:=.eq (.fld (.tok 1) 0) (.lit (.i 3))
 let b:X:=.fld (.tok 1) 1
 let f:X:=.fld (.tok 0) 1
 let c:X:=.lt b (.len (.fld (.tok 0) 0))
 let d:X:=.fld (.get (.fld (.tok 0) 0) b) 1
 let e:X:=.le (.lit (.i 0)) b
 (.need [(.imp a (.le (.lit (.i 0)) d)),(.imp a (.lt d (.len f))),(.imp a (.le (.lit (.i 0)) d)),(.imp a (.lt d (.len f))),(.imp a e),(.imp a c),(.imp a e),(.imp a c),(.imp a e),(.imp a c),(.imp a e),(.imp a c),(.imp a e),(.imp a c),(.imp a e),(.imp a c),(.imp a e),(.imp a c)] (.leaf [(.and a (.eq (.get f d) (.mk [(.tok 2),(.tok 3)])))]))
theorem qiw:CdZ [] qjr q08 Tryz.f88 q3i:=fun cd h=>by injection h with h;subst h;kernel_rfl
theorem qkx(h:HgZ q3i q08 [] g):FOk q08 g:=ym (qiw) .nil rfl rfl qhf (by decide) h
def q00:Ct:=⟨40,[.val (.row 9),.val (.str)],[(.int .i64,false)],[],none,[],[]⟩
theorem qfu:EnZ q00:=fun _ _=>by kernel_rfl
def qio:Ann:=⟨[0,1,4,5,9,17],[(2,⟨[(4,.int .i64,false),(5,.int .i64,false)],[],[6,7,8,9,12,13,14,15,16,17,18,10,11],[]⟩)]⟩
def q55:Tree:=(.loop 2 2 [(.lit (.i 0)),(.lit (.i 0))] (.br (.lt (.tok 3) (.len (.tok 0))) (.need [(.le (.lit (.i 0)) (.tok 3)),(.lt (.tok 3) (.len (.tok 0)))] (.br (.eq (.get (.tok 0) (.tok 3)) (.tok 1)) (.leaf [(.tok 3)]) (.need [(.rng .i64 (.add (.tok 3) (.lit (.i 1))))] (.back 2 [(.tok 2),(.add (.tok 3) (.lit (.i 1)))])))) (.leaf [(.lit (.i (-1)))])))
theorem qhj:CdZ [] qio q00 Tryz.f40 q55:=fun cd h=>by injection h with h;subst h;kernel_rfl
theorem qie(h:HgZ q55 q00 [] g):FOk q00 g:=ym (qhj) .nil rfl rfl qfu (by decide) h
def q04:Ct:=⟨89,[.val (.st 28)],[(.st 28,false)],[],none,[],[]⟩
theorem qm0:EnZ q04:=fun _ _=>by kernel_rfl
def qwb:Ann:=⟨[0,1,2,5],[]⟩
def q9f:Tree:=(.br (.eq (.fld (.tok 0) 0) (.lit (.i 5))) (.leaf [(.mk [(.lit (.i 0)),(.fld (.tok 0) 1)])]) (.leaf [(.tok 0)]))
theorem qqt:CdZ [] qwb q04 Tryz.f89 q9f:=fun cd h=>by injection h with h;subst h;kernel_rfl
theorem qwa(h:HgZ q9f q04 [] g):FOk q04 g:=ym (qqt) .nil rfl rfl qm0 (by decide) h
def jf:Ct:=⟨49,[.val (.st 26),.val (.st 28)],[(.row 9,true),(.row 29,true)],[],none,[],[]⟩
theorem qdm:EnZ jf:=fun _ _=>by kernel_rfl
def qg1:Ann:=⟨[0,1,2,3,4,5,6,7,8,9,10,11,19,25,38,50,61],[(5,⟨[(6,.row 9,false),(7,.row 29,false),(8,.int .i64,false)],[3],[15,16,17,18,19,22,23,24,25,26,27,28,29,30,31,32,33,34,9,35,36,37,38,39,40,41,42,43,44,45,46,47,10,48,49,50,51,52,53,54,55,56,57,11,58,59,60,61,62,63,64,65,66,67,68,69,70,71,72,73,74,75,76,77,78,79,80,81,82,83,84,85,86,87,20,21],[]⟩)]⟩
def q3u:Tree:=
 let d:X:=.tok 0
 let e:X:=.lit (.i 1)
 let i:X:=.lit (.i 0)
 let l:X:=.tok 2
 let m:X:=.lit (.i 2)
 let o:X:=.tok 3
 let s:X:=.lit (.i 8796093021952)
 let t:X:=.lit (.s ⟨#[46]⟩)
 let v:X:=.lit (.s ⟨#[45]⟩)
 let c:X:=.add (.fld (.tok 5) 1) m
 let g:X:=.fld d 0
 let h:X:=.add (.fld (.tok 5) 1) e
 let n:X:=.add (.tok 4) e
 let a:X:=.call 0 0 [d,(.get g h)]
 let p:X:=.len g
 let q:X:=.get g c
 let u:X:=.ok 0 [d,(.get g h)]
 let f:X:=.add (.fld a 1) m
 let j:X:=.add (.fld a 1) e
 let b:X:=.call 0 0 [d,(.get g j)]
 let r:X:=.call 0 0 [d,(.get g f)]
 let w:X:=.ok 0 [d,(.get g j)]
 let k:X:=.fld (.get (.fld d 1) (.fld b 1)) 0
 (.need [(.ok 0 [d,(.tok 1)])] (.loop 5 2 [(.lit (.r [])),(.lit (.r [])),i,(.call 0 0 [d,(.tok 1)])] (.br (.lt (.tok 4) p) (.need [(.ok 1 [d,(.tok 5),t,m])] (.br (.not (.call 1 0 [d,(.tok 5),t,m])) (.leaf [l,o]) (.need [u,u,(.le i h),(.lt h p),(.rng .i64 h)] (.need [(.ok 1 [d,a,v,m])] (.br (.not (.call 1 0 [d,a,v,m])) (.leaf [l,o]) (.need [w,w,(.le i j),(.lt j p),(.rng .i64 j)] (.br (.not (.eq (.fld b 0) m)) (.leaf [l,o]) (.need [(.le i (.fld b 1)),(.lt (.fld b 1) (.len (.fld d 1)))] (.need [(.ok 2 [l,k])] (.br (.lt (.call 2 0 [l,k]) i) (.need [(.le (.add (.len l) e) s)] (.need [(.le (.add (.len o) e) s),(.ok 3 [r]),(.ok 0 [d,(.get g f)]),(.le i f),(.lt f p),(.rng .i64 f)] (.need [(.ok 0 [d,q]),(.le i c),(.lt c p),(.rng .i64 c)] (.need [(.rng .i64 n)] (.back 5 [(.app l (.row [k])),(.app o (.row [(.call 3 0 [r])])),n,(.call 0 0 [d,q])]))))) (.need [(.ok 0 [d,q]),(.le i c),(.lt c p),(.rng .i64 c)] (.need [(.rng .i64 n)] (.back 5 [l,o,n,(.call 0 0 [d,q])]))))))))))))) (.leaf [l,o]))))
theorem qf1(g0 g1 g2 g3:GfZ):CdZ [(q1d,g0),(q08,g1),(q00,g2),(q04,g3)] qg1 jf Tryz.f49 q3u:=fun cd h=>by injection h with h;subst h;kernel_rfl
theorem qfg(h0:FOk q1d g0)(h1:FOk q08 g1)(h2:FOk q00 g2)(h3:FOk q04 g3)(h:HgZ q3u jf [(q1d,g0),(q08,g1),(q00,g2),(q04,g3)] g):FOk jf g:=ym (qf1 g0 g1 g2 g3) (.cons h0 (.cons h1 (.cons h2 (.cons h3 .nil)))) rfl rfl qdm (by decide) h
def yt:Ct:=⟨15,[.val (.st 26)],[(.st 26,true)],[],none,[],[]⟩
theorem qjx:EnZ yt:=fun _ _=>by kernel_rfl
def qqn:Ann:=⟨[0,1,2,3],[]⟩
def q7n:Tree:=(.need [(.le (.len (.fld (.tok 0) 0)) (.lit (.i 8796093021952)))] (.need [(.le (.len (.fld (.tok 0) 1)) (.lit (.i 5864062014634)))] (.need [(.le (.len (.fld (.tok 0) 2)) (.lit (.i 5864062014634)))] (.need [(.le (.len (.fld (.tok 0) 3)) (.lit (.i 3518437208780)))] (.leaf [(.set (.set (.set (.set (.tok 0) 0 (.app (.lit (.r [])) (.fld (.tok 0) 0))) 1 (.app (.lit (.r [])) (.fld (.tok 0) 1))) 2 (.app (.lit (.r [])) (.fld (.tok 0) 2))) 3 (.app (.lit (.r [])) (.fld (.tok 0) 3)))])))))
theorem qm9:CdZ [] qqn yt Tryz.f15 q7n:=fun cd h=>by injection h with h;subst h;kernel_rfl
theorem qpq(h:HgZ q7n yt [] g):FOk yt g:=ym (qm9) .nil rfl rfl qjx (by decide) h
def q2a:Ct:=⟨20,[.val (.st 26),.val (.st 26)],[(.bool,false)],[],none,[],[]⟩
theorem qml:EnZ q2a:=fun _ _=>by kernel_rfl
def qsv:Ann:=⟨[0,1,2,3,4,5,6,7,8,56,61,74,79,92,97,110,115,128],[(4,⟨[(4,.bool,false),(5,.int .i64,false)],[],[57,58,59,60,61,64,65,66,67,68,69,70,71,72,73,74,62,63],[]⟩),
 (9,⟨[(4,.bool,false),(6,.int .i64,false)],[],[75,76,77,78,79,82,83,84,85,86,87,88,89,90,91,92,80,81],[]⟩),
 (14,⟨[(4,.bool,false),(7,.int .i64,false)],[],[93,94,95,96,97,100,101,102,103,104,105,106,107,108,109,110,98,99],[]⟩),
 (19,⟨[(4,.bool,false),(8,.int .i64,false)],[],[111,112,113,114,115,118,119,120,121,122,123,124,125,126,127,128,116,117],[]⟩)]⟩
def q9t:Tree:=
 let a:X:=.lit (.i 0)
 let b:X:=.tok 0
 let c:X:=.tok 1
 let d:X:=.lit (.b .false)
 let e:X:=.lit (.i 1)
 let f:X:=.tok 3
 let g:X:=.tok 5
 let h:X:=.tok 7
 let i:X:=.tok 9
 let j:X:=.len (.fld b 0)
 let k:X:=.len (.fld b 1)
 let l:X:=.len (.fld b 2)
 let m:X:=.len (.fld b 3)
 (.br (.or (.or (.or (.or (.or (.not (.eq j (.len (.fld c 0)))) (.not (.eq k (.len (.fld c 1))))) (.not (.eq l (.len (.fld c 2))))) (.not (.eq m (.len (.fld c 3))))) (.not (.eq (.fld b 4) (.fld c 4)))) (.not (.eq (.fld b 5) (.fld c 5)))) (.leaf [d]) (.loop 4 2 [d,a] (.br (.lt f j) (.need [(.le a f),(.lt f (.len (.fld c 0))),(.le a f),(.lt f j)] (.br (.not (.eq (.get (.fld b 0) f) (.get (.fld c 0) f))) (.leaf [d]) (.need [(.rng .i64 (.add f e))] (.back 4 [(.tok 2),(.add f e)])))) (.loop 9 4 [(.tok 2),a] (.br (.lt g k) (.need [(.le a g),(.lt g (.len (.fld c 1))),(.le a g),(.lt g k)] (.br (.not (.eq (.get (.fld b 1) g) (.get (.fld c 1) g))) (.leaf [d]) (.need [(.rng .i64 (.add g e))] (.back 9 [(.tok 4),(.add g e)])))) (.loop 14 6 [(.tok 4),a] (.br (.lt h l) (.need [(.le a h),(.lt h (.len (.fld c 2))),(.le a h),(.lt h l)] (.br (.not (.eq (.get (.fld b 2) h) (.get (.fld c 2) h))) (.leaf [d]) (.need [(.rng .i64 (.add h e))] (.back 14 [(.tok 6),(.add h e)])))) (.loop 19 8 [(.tok 6),a] (.br (.lt i m) (.need [(.le a i),(.lt i (.len (.fld c 3))),(.le a i),(.lt i m)] (.br (.not (.eq (.get (.fld b 3) i) (.get (.fld c 3) i))) (.leaf [d]) (.need [(.rng .i64 (.add i e))] (.back 19 [(.tok 8),(.add i e)])))) (.leaf [(.lit (.b .true))]))))))))))
theorem qpo:CdZ [] qsv q2a Tryz.f20 q9t:=fun cd h=>by injection h with h;subst h;kernel_rfl
theorem qv7(h:HgZ q9t q2a [] g):FOk q2a g:=ym (qpo) .nil rfl rfl qml (by decide) h
def q1i:Ct:=⟨7,[.val (.st 26)],[(.bool,false)],[],none,[],[]⟩
theorem qjt:EnZ q1i:=fun _ _=>by kernel_rfl
def qqh:Ann:=⟨[0,1,2],[]⟩
def q8a:Tree:=(.leaf [(.and (.and (.and (.le (.len (.fld (.tok 0) 0)) (.lit (.i 300))) (.le (.len (.fld (.tok 0) 1)) (.lit (.i 100)))) (.le (.len (.fld (.tok 0) 2)) (.lit (.i 300)))) (.le (.len (.fld (.tok 0) 3)) (.lit (.i 50))))])
theorem qnb:CdZ [] qqh q1i Tryz.f7 q8a:=fun cd h=>by injection h with h;subst h;kernel_rfl
theorem qpr(h:HgZ q8a q1i [] g):FOk q1i g:=ym (qnb) .nil rfl rfl qjt (by decide) h
def ze:Ct:=⟨122,[.ref (.st 26) true,.val (.str),.val (.int .i64)],[(.int .i64,false)],[],none,[1],[]⟩
theorem qjn:EnZ ze:=fun _ _=>by kernel_rfl
def q5e:Ct:=⟨130,[.val (.st 26),.val (.str),.val (.int .i64)],[(.int .i64,false)],[],none,[],[]⟩
theorem qn3:EnZ q5e:=fun _ _=>by kernel_rfl
def q4z:Ct:=⟨95,[.val (.st 26),.val (.st 28),.val (.str)],[(.st 28,false),(.st 28,false),(.bool,false)],[],none,[],[]⟩
theorem qrh:EnZ q4z:=fun _ _=>by kernel_rfl
def qyc:Ann:=⟨[0,1,2,3,4,6,7,8,9,37,65],[]⟩
def qaq:Tree:=
 let a:X:=.fld (.tok 1) 1
 let f:X:=.fld (.tok 0) 0
 let g:X:=.lit (.a [(.i 0),(.i 0)])
 let j:X:=.lit (.i 0)
 let b:X:=.or (.not (.eq (.fld (.tok 1) 0) (.lit (.i 3)))) (.not (.call 0 0 [(.tok 0),a]))
 let c:X:=.fld (.get f a) 1
 let d:X:=.add a (.lit (.i 2))
 let i:X:=.add a (.lit (.i 1))
 let e:X:=.or (.lt c j) (.le (.len (.fld (.tok 0) 1)) c)
 let h:X:=.or b (.not (.call 0 0 [(.tok 0),d]))
 (.need [(.imp (.not (.not (.eq (.fld (.tok 1) 0) (.lit (.i 3))))) (.ok 0 [(.tok 0),a])),(.imp (.not b) (.rng .i64 d)),(.imp (.not b) (.ok 0 [(.tok 0),d])),(.imp (.not h) (.le j a)),(.imp (.not h) (.lt a (.len f)))] (.br (.or h (.not (.eq (.fld (.get f a) 0) (.lit (.i 4))))) (.leaf [g,g,(.lit (.b .false))]) (.need [(.le j a),(.lt a (.len f))] (.need [(.imp (.not e) (.le j c)),(.imp (.not e) (.lt c (.len (.fld (.tok 0) 1))))] (.br (.or e (.not (.eq (.get (.fld (.tok 0) 1) c) (.mk [(.tok 2),(.lit (.i 2))])))) (.leaf [g,g,(.lit (.b .false))]) (.need [(.le j d),(.lt d (.len f)),(.rng .i64 d),(.le j i),(.lt i (.len f)),(.rng .i64 i)] (.leaf [(.get f i),(.get f d),(.lit (.b .true))])))))))
theorem qsp(g0:GfZ):CdZ [(q07,g0)] qyc q4z Tryz.f95 qaq:=fun cd h=>by injection h with h;subst h;kernel_rfl
theorem qyu(h0:FOk q07 g0)(h:HgZ qaq q4z [(q07,g0)] g):FOk q4z g:=ym (qsp g0) (.cons h0 .nil) rfl rfl qrh (by decide) h
def q4o:Ct:=⟨96,[.val (.st 26),.val (.st 28)],[(.str,false),(.bool,false)],[],none,[],[]⟩
theorem qqy:EnZ q4o:=fun _ _=>by kernel_rfl
def qyl:Ann:=⟨[0,1,2,3,4,5,21],[]⟩
def qbg:Tree:=(.br (.or (.or (.not (.eq (.fld (.tok 1) 0) (.lit (.i 2)))) (.lt (.fld (.tok 1) 1) (.lit (.i 0)))) (.le (.len (.fld (.tok 0) 1)) (.fld (.tok 1) 1))) (.leaf [(.lit (.s ⟨#[]⟩)),(.lit (.b .false))]) (.need [(.le (.lit (.i 0)) (.fld (.tok 1) 1)),(.lt (.fld (.tok 1) 1) (.len (.fld (.tok 0) 1)))] (.leaf [(.fld (.get (.fld (.tok 0) 1) (.fld (.tok 1) 1)) 0),(.lit (.b .true))])))
theorem qug:CdZ [] qyl q4o Tryz.f96 qbg:=fun cd h=>by injection h with h;subst h;kernel_rfl
theorem qx9(h:HgZ qbg q4o [] g):FOk q4o g:=ym (qug) .nil rfl rfl qqy (by decide) h
def qy:Ct:=⟨62,[.val (.st 72),.val (.st 72)],[(.int .i64,false)],[],none,[],[]⟩
theorem qiq:EnZ qy:=fun _ _=>by kernel_rfl
def qmm:Ann:=⟨[0,1,2,3,4],[]⟩
def q6b:Tree:=(.need [(.ok 0 [(.fld (.tok 0) 0),(.fld (.tok 1) 0)])] (.leaf [(.call 0 0 [(.fld (.tok 0) 0),(.fld (.tok 1) 0)])]))
theorem qkf(g0:GfZ):CdZ [(qx,g0)] qmm qy Tryz.f62 q6b:=fun cd h=>by injection h with h;subst h;kernel_rfl
theorem qmo(h0:FOk qx g0)(h:HgZ q6b qy [(qx,g0)] g):FOk qy g:=ym (qkf g0) (.cons h0 .nil) rfl rfl qiq (by decide) h
def z8:Ct:=⟨131,[.mref (.row 73),.val (.int .i64),.val (.int .i64),.val (.int .i64),.fn 62 []],[],[],none,[],[]⟩
theorem q5w:EnZ z8:=fun _ _=>by kernel_rfl
def q6u:Ann:=⟨[0,1,2,3,4,10,13],[(1,⟨[(10,.int .i64,false),(0,.row 73,false)],[],[11,12,13,16,17,18,19,20,21,22,23,24,25,26,27,28,29,30,31,32,33,34,35,36,37,14,15],[]⟩)]⟩
def q0h:Tree:=(.loop 1 4 [(.lit (.i 0)),(.tok 0)] (.br (.lt (.tok 4) (.tok 3)) (.need [(.le (.lit (.i 0)) (.add (.tok 2) (.tok 4))),(.lt (.add (.tok 2) (.tok 4)) (.len (.tok 5))),(.le (.lit (.i 0)) (.add (.tok 1) (.tok 4))),(.lt (.add (.tok 1) (.tok 4)) (.len (.tok 5))),(.le (.lit (.i 0)) (.add (.tok 1) (.tok 4))),(.lt (.add (.tok 1) (.tok 4)) (.len (.tok 5))),(.rng .i64 (.add (.tok 1) (.tok 4))),(.le (.lit (.i 0)) (.add (.tok 2) (.tok 4))),(.lt (.add (.tok 2) (.tok 4)) (.len (.tok 5))),(.rng .i64 (.add (.tok 2) (.tok 4))),(.rng .i64 (.add (.tok 2) (.tok 4))),(.rng .i64 (.add (.tok 1) (.tok 4)))] (.need [(.rng .i64 (.add (.tok 4) (.lit (.i 1))))] (.back 1 [(.add (.tok 4) (.lit (.i 1))),(.put (.put (.tok 5) (.add (.tok 1) (.tok 4)) (.get (.tok 5) (.add (.tok 2) (.tok 4)))) (.add (.tok 2) (.tok 4)) (.get (.tok 5) (.add (.tok 1) (.tok 4))))]))) (.leaf [(.tok 5)])))
theorem q69:CdZ [] q6u z8 Tryz.f131 q0h:=fun cd h=>by injection h with h;subst h;kernel_rfl
theorem q6v(h:HgZ q0h z8 [] g):FOk z8 g:=ym (q69) .nil rfl rfl q5w (by decide) h
def qr:Ct:=⟨128,[.mref (.row 73),.val (.int .i64),.val (.int .i64),.val (.int .i64),.fn 62 []],[],[],none,[],[]⟩
theorem q7g:EnZ qr:=fun _ _=>by kernel_rfl
def q93:Ann:=⟨[0,1,2,3,4,10,11,20,23],[(2,⟨[(10,.int .i64,false),(11,.int .i64,false),(0,.row 73,false)],[],[18,19,20,21,22,23,24,25,26,27,28,29,30,31,32,33,34,35,36,37,38,39,40,41,42,43,44,45,46,47,48,49,50],[]⟩)]⟩
def q0x:Tree:=(.need [(.rng .i64 (.sub (.tok 2) (.tok 1)))] (.need [(.rng .i64 (.sub (.tok 3) (.tok 2)))] (.loop 2 4 [(.sub (.tok 2) (.tok 1)),(.sub (.tok 3) (.tok 2)),(.tok 0)] (.br (.not (.eq (.tok 4) (.tok 5))) (.br (.lt (.tok 5) (.tok 4)) (.need [(.rng .i64 (.sub (.tok 2) (.tok 4))),(.ok 0 [(.tok 6),(.sub (.tok 2) (.tok 4)),(.tok 2),(.tok 5)])] (.need [(.rng .i64 (.sub (.tok 4) (.tok 5)))] (.back 2 [(.sub (.tok 4) (.tok 5)),(.tok 5),(.call 0 0 [(.tok 6),(.sub (.tok 2) (.tok 4)),(.tok 2),(.tok 5)])]))) (.need [(.rng .i64 (.sub (.tok 2) (.tok 4))),(.rng .i64 (.add (.tok 2) (.tok 5))),(.rng .i64 (.sub (.add (.tok 2) (.tok 5)) (.tok 4))),(.ok 0 [(.tok 6),(.sub (.tok 2) (.tok 4)),(.sub (.add (.tok 2) (.tok 5)) (.tok 4)),(.tok 4)])] (.need [(.rng .i64 (.sub (.tok 5) (.tok 4)))] (.back 2 [(.tok 4),(.sub (.tok 5) (.tok 4)),(.call 0 0 [(.tok 6),(.sub (.tok 2) (.tok 4)),(.sub (.add (.tok 2) (.tok 5)) (.tok 4)),(.tok 4)])])))) (.need [(.rng .i64 (.sub (.tok 2) (.tok 4))),(.ok 0 [(.tok 6),(.sub (.tok 2) (.tok 4)),(.tok 2),(.tok 4)])] (.leaf [(.call 0 0 [(.tok 6),(.sub (.tok 2) (.tok 4)),(.tok 2),(.tok 4)])]))))))
theorem q81(g0:GfZ):CdZ [(z8,g0)] q93 qr Tryz.f128 q0x:=fun cd h=>by injection h with h;subst h;kernel_rfl
theorem q8q(h0:FOk z8 g0)(h:HgZ q0x qr [(z8,g0)] g):FOk qr g:=ym (q81 g0) (.cons h0 .nil) rfl rfl q7g (by decide) h
def qw:Ct:=⟨116,[.mref (.row 73),.val (.int .i64),.val (.int .i64),.fn 62 []],[],[],none,[],[]⟩
theorem q44:EnZ qw:=fun _ _=>by kernel_rfl
def q57:Ann:=⟨[0,1,2,3,8,9,14,34],[(1,⟨[(8,.int .i64,false),(0,.row 73,false)],[],[12,13,14,17,9,18,19,20,21,22,23,24,25,26,27,28,29,30,31,32,33,34,37,38,39,40,41,42,43,44,45,46,47,48,49,50,51,52,35,36,15,16],[]⟩),
 (4,⟨[(9,.int .i64,false),(0,.row 73,false)],[],[18,19,20,21,22,23,24,25,26,27,28,29,30,31,32,33,34,37,38,39,40,41,42,43,44,45,46,47,48,49,50,51,52,35,36],[]⟩)]⟩
def jt:Tree:=
 let b:X:=.lt (.tok 1) (.tok 5)
 let d:X:=.le (.lit (.i 0)) (.tok 5)
 let h:X:=.tok 6
 let i:X:=.lit (.i 1)
 let a:X:=.sub (.tok 5) i
 let c:X:=.lt (.tok 5) (.len h)
 let j:X:=.get h (.tok 5)
 let e:X:=.rng .i64 a
 let f:X:=.lt a (.len h)
 let g:X:=.le (.lit (.i 0)) a
 (.need [(.rng .i64 (.add (.tok 1) i))] (.loop 1 3 [(.add (.tok 1) i),(.tok 0)] (.br (.lt (.tok 3) (.tok 2)) (.loop 4 5 [(.tok 3),(.tok 4)] (.need [(.imp b (.ok 0 [j,(.get h a)])),(.imp b g),(.imp b f),(.imp b d),(.imp b c),(.imp b d),(.imp b c),(.imp b g),(.imp b f),(.imp b g),(.imp b f),(.imp b e),(.imp b e),(.imp b e),(.imp b d),(.imp b c),(.imp b d),(.imp b c),(.imp b d),(.imp b c),(.imp b e),(.imp b e),(.imp b e),(.imp b e),(.imp b e),(.imp b d),(.imp b c),(.imp b d),(.imp b c),(.imp b g),(.imp b f),(.imp b d),(.imp b c),(.imp b e)] (.br (.and b (.lt (.call 0 0 [j,(.get h a)]) (.lit (.i 0)))) (.need [g,f,d,c,d,c,g,f,e,e] (.need [e] (.back 4 [a,(.put (.put h (.tok 5) (.get h a)) a j)]))) (.need [(.rng .i64 (.add (.tok 3) i))] (.back 1 [(.add (.tok 3) i),h]))))) (.leaf [(.tok 4)]))))
theorem q4s(g0:GfZ):CdZ [(qy,g0)] q57 qw Tryz.f116 jt:=fun cd h=>by injection h with h;subst h;kernel_rfl
theorem q59(h0:FOk qy g0)(h:HgZ jt qw [(qy,g0)] g):FOk qw g:=ym (q4s g0) (.cons h0 .nil) rfl rfl q44 (by decide) h
def qi:Ct:=⟨117,[.mref (.row 73),.val (.int .i64),.val (.int .i64),.val (.int .i64),.fn 62 []],[],[],none,[],[]⟩
theorem q2r:EnZ qi:=fun _ _=>by kernel_rfl
def q7e:Ann:=⟨[0,1,2,3,4,10,11,12,13,14,15,16,17,18,19,20,21,22,23,24,28,33,50,58,80,85,103,110,140,151,171,185,199,213],[(3,⟨[(10,.int .i64,false),(11,.int .i64,false)],[],[31,32,33,34,35,36,37,38,39,12,40,41,42,43,44,45,46,47,48,49,50,51,52,53],[]⟩),
 (9,⟨[(13,.int .i64,false),(0,.row 73,false)],[],[55,56,57,58,61,62,63,64,65,66,67,68,69,70,71,72,73,74,75,76,59,60,41,45,93,97,113,115,118,123,159,165,186,200,214],[]⟩),
 (15,⟨[(14,.int .i64,false),(15,.int .i64,false)],[],[83,84,85,86,87,88,89,90,91,16,92,93,94,95,96,97,98,99,100,101,102,103,104,105,106],[]⟩),
 (21,⟨[(17,.int .i64,false),(0,.row 73,false)],[],[108,109,110,113,114,115,116,117,118,119,120,121,122,123,124,125,126,127,128,111,112,41,45,61,63,66,71,93,97,159,165,186,200,214],[]⟩),
 (33,⟨[(20,.int .i64,false),(21,.int .i64,false)],[],[149,150,151,152,153,154,155,156,157,23,158,159,160,161,162,163,164,165,166,167,168,169,170,171,172,173,174],[]⟩)]⟩
def q0l:Tree:=
 let e:X:=.lit (.i 1)
 let f:X:=.tok 4
 let h:X:=.tok 0
 let i:X:=.tok 6
 let j:X:=.lit (.i 0)
 let l:X:=.tok 1
 let m:X:=.tok 2
 let n:X:=.tok 3
 let r:X:=.tok 7
 let x:X:=.tok 5
 let a:X:=.fn 8 [(.add l n),e]
 let q:X:=.add f x
 let s:X:=.add i e
 let t:X:=.sub i e
 let y:X:=.len h
 let z:X:=.len r
 let b:X:=.fn 8 [q,e]
 let p:X:=.call 2 0 [h,l,f,a]
 let u:X:=.and (.lt l f) (.lt f a)
 let b1:X:=.rng .i64 q
 let c1:X:=.rng .u64 q
 let f1:X:=.add a m
 let c:X:=.sub f1 f
 let g:X:=.sub (.sub f1 e) b
 let v:X:=.get h b
 let d1:X:=.rng .u64 b
 let e1:X:=.rng .i64 b
 let g1:X:=.add b e
 let d:X:=.call 1 0 [h,f,m,c]
 let k:X:=.and (.lt a c) (.lt c n)
 let w:X:=.rng .i64 g1
 let a1:X:=.not (.lt (.call 0 0 [(.get h g),v]) j)
 let h1:X:=.and (.lt f m) (.lt m c)
 let o:X:=.call 2 0 [d,l,f,a]
 (.need [(.rng .i64 (.sub m l))] (.br (.eq (.sub m l) e) (.loop 3 4 [m,n] (.br (.lt f x) (.need [b1,c1,d1,e1] (.need [(.ok 0 [v,(.get h l)]),(.le j l),(.lt l y),(.le j b),(.lt b y)] (.br (.lt (.call 0 0 [v,(.get h l)]) j) (.need [w] (.back 3 [g1,x])) (.back 3 [f,b])))) (.loop 9 6 [l,h] (.need [(.rng .i64 (.sub f e))] (.br (.lt i (.sub f e)) (.need [(.le j s),(.lt s z),(.le j i),(.lt i z),(.le j i),(.lt i z),(.le j s),(.lt s z),(.rng .i64 s),(.rng .i64 s)] (.need [(.rng .i64 s)] (.back 9 [s,(.put (.put r i (.get r s)) s (.get r i))]))) (.leaf [r])))))) (.need [(.rng .i64 (.sub n m))] (.br (.eq (.sub n m) e) (.loop 15 4 [l,m] (.br (.lt f x) (.need [b1,c1,d1,e1] (.need [(.ok 0 [(.get h m),v]),(.le j b),(.lt b y),(.le j m),(.lt m y)] (.br (.not (.lt (.call 0 0 [(.get h m),v]) j)) (.need [w] (.back 15 [g1,x])) (.back 15 [f,b])))) (.loop 21 6 [m,h] (.br (.lt f i) (.need [(.le j t),(.lt t z),(.le j i),(.lt i z),(.le j i),(.lt i z),(.le j t),(.lt t z),(.rng .i64 t),(.rng .i64 t)] (.need [(.rng .i64 t)] (.back 21 [t,(.put (.put r i (.get r t)) t (.get r i))]))) (.leaf [r]))))) (.need [(.rng .i64 (.add l n)),(.rng .u64 (.add l n)),(.rng .u64 a),(.rng .i64 a)] (.need [(.rng .i64 f1)] (.br (.lt a m) (.need [(.rng .i64 (.sub f1 n))] (.need [(.rng .i64 (.sub f1 e))] (.loop 33 4 [(.sub f1 n),a] (.br (.lt f x) (.need [b1,c1,d1,e1] (.need [(.ok 0 [(.get h g),v]),(.le j b),(.lt b y),(.le j g),(.lt g y),(.rng .i64 g)] (.br a1 (.need [w] (.back 33 [g1,x])) (.back 33 [f,b])))) (.need [(.rng .i64 c)] (.br h1 (.need [(.ok 1 [h,f,m,c])] (.br u (.need [(.ok 2 [d,l,f,a])] (.br k (.need [(.ok 2 [o,a,c,n])] (.leaf [(.call 2 0 [o,a,c,n])])) (.leaf [o]))) (.br k (.need [(.ok 2 [d,a,c,n])] (.leaf [(.call 2 0 [d,a,c,n])])) (.leaf [d])))) (.br u (.need [(.ok 2 [h,l,f,a])] (.br k (.need [(.ok 2 [p,a,c,n])] (.leaf [(.call 2 0 [p,a,c,n])])) (.leaf [p]))) (.br k (.need [(.ok 2 [h,a,c,n])] (.leaf [(.call 2 0 [h,a,c,n])])) (.leaf [h]))))))))) (.need [(.rng .i64 (.sub f1 e))] (.loop 33 4 [l,m] (.br (.lt f x) (.need [b1,c1,d1,e1] (.need [(.ok 0 [(.get h g),v]),(.le j b),(.lt b y),(.le j g),(.lt g y),(.rng .i64 g)] (.br a1 (.need [w] (.back 33 [g1,x])) (.back 33 [f,b])))) (.need [(.rng .i64 c)] (.br h1 (.need [(.ok 1 [h,f,m,c])] (.br u (.need [(.ok 2 [d,l,f,a])] (.br k (.need [(.ok 2 [o,a,c,n])] (.leaf [(.call 2 0 [o,a,c,n])])) (.leaf [o]))) (.br k (.need [(.ok 2 [d,a,c,n])] (.leaf [(.call 2 0 [d,a,c,n])])) (.leaf [d])))) (.br u (.need [(.ok 2 [h,l,f,a])] (.br k (.need [(.ok 2 [p,a,c,n])] (.leaf [(.call 2 0 [p,a,c,n])])) (.leaf [p]))) (.br k (.need [(.ok 2 [h,a,c,n])] (.leaf [(.call 2 0 [h,a,c,n])])) (.leaf [h])))))))))))))))
theorem q78(g0 g1 g2:GfZ):CdZ [(qy,g0),(qr,g1),(qi,g2)] q7e qi Tryz.f117 q0l:=fun cd h=>by injection h with h;subst h;kernel_rfl
theorem q7j(h0:FOk qy g0)(h1:FOk qr g1)(h2:FOk qi g2)(h:HgZ q0l qi [(qy,g0),(qr,g1),(qi,g2)] g):FOk qi g:=ym (q78 g0 g1 g2) (.cons h0 (.cons h1 (.cons h2 .nil))) rfl rfl q2r (by decide) h
def zg:Ct:=⟨93,[.mref (.row 73),.val (.int .i64),.fn 62 []],[],[],none,[],[]⟩
theorem q7f:EnZ zg:=fun _ _=>by kernel_rfl
def q8z:Ann:=⟨[0,1,2,6,7,8,9,13,30,35,54],[(2,⟨[(7,.int .i64,false),(8,.int .i64,false),(0,.row 73,false)],[],[11,12,13,14,15,16,17,18,19,20,21,22,23,36,55],[]⟩),
 (7,⟨[(7,.int .i64,false),(8,.int .i64,false),(6,.int .i64,false),(0,.row 73,false)],[],[28,29,30,31,32,33,34,35,36,37,38,39,40,41,42,43,44,45,46,47,48,49,50,51,9,52,53,54,55,56,57,58,59,60,61,62,14,23],[]⟩),
 (9,⟨[(7,.int .i64,false),(8,.int .i64,false),(0,.row 73,false)],[],[33,34,35,36,37,38,39,40,41,42,43,44,45,46,47,48,14,23,55],[]⟩)]⟩
def q0w:Tree:=
 let b:X:=.mul (.lit (.i 2)) (.tok 7)
 let c:X:=.mul (.tok 7) (.lit (.i 2))
 let d:X:=.tok 10
 let e:X:=.tok 1
 let f:X:=.tok 3
 let g:X:=.lit (.i 20)
 let h:X:=.tok 9
 let i:X:=.tok 11
 let j:X:=.tok 2
 let a:X:=.add h (.tok 7)
 (.loop 2 2 [(.lit (.i 0)),g,(.tok 0)] (.br (.le f e) (.need [(.ok 1 [(.tok 4),j,f])] (.need [(.rng .i64 (.add f g))] (.back 2 [f,(.add f g),(.call 1 0 [(.tok 4),j,f])]))) (.need [(.ok 1 [(.tok 4),j,e])] (.loop 7 5 [j,f,g,(.call 1 0 [(.tok 4),j,e])] (.br (.lt (.tok 7) e) (.need [(.rng .i64 b)] (.loop 9 9 [(.lit (.i 0)),b,(.tok 8)] (.br (.le d e) (.need [(.rng .i64 a),(.ok 2 [i,h,a,d])] (.need [(.rng .i64 b),(.rng .i64 (.add d b))] (.back 9 [d,(.add d b),(.call 2 0 [i,h,a,d])]))) (.need [(.rng .i64 a)] (.br (.lt a e) (.need [(.ok 2 [i,h,a,e])] (.need [(.rng .i64 c)] (.back 7 [h,d,c,(.call 2 0 [i,h,a,e])]))) (.need [(.rng .i64 c)] (.back 7 [h,d,c,i]))))))) (.leaf [(.tok 8)]))))))
theorem q8i(g0 g1 g2:GfZ):CdZ [(qy,g0),(qw,g1),(qi,g2)] q8z zg Tryz.f93 q0w:=fun cd h=>by injection h with h;subst h;kernel_rfl
theorem q92(h0:FOk qy g0)(h1:FOk qw g1)(h2:FOk qi g2)(h:HgZ q0w zg [(qy,g0),(qw,g1),(qi,g2)] g):FOk zg g:=ym (q8i g0 g1 g2) (.cons h0 (.cons h1 (.cons h2 .nil))) rfl rfl q7f (by decide) h
def z6:Ct:=⟨61,[.mref (.row 73),.fn 62 []],[],[],none,[],[]⟩
theorem q73:EnZ z6:=fun _ _=>by kernel_rfl
def q7w:Ann:=⟨[0,1],[]⟩
def q0q:Tree:=(.need [(.ok 1 [(.tok 0),(.len (.tok 0))])] (.leaf [(.call 1 0 [(.tok 0),(.len (.tok 0))])]))
theorem q7h(g0 g1:GfZ):CdZ [(qy,g0),(zg,g1)] q7w z6 Tryz.f61 q0q:=fun cd h=>by injection h with h;subst h;kernel_rfl
theorem q82(h0:FOk qy g0)(h1:FOk zg g1)(h:HgZ q0q z6 [(qy,g0),(zg,g1)] g):FOk z6 g:=ym (q7h g0 g1) (.cons h0 (.cons h1 .nil)) rfl rfl q73 (by decide) h
def qsw:Ann:=⟨[0,1,2,3,6,7,12,32],[(2,⟨[(6,.int .i64,false),(7,.int .i64,false)],[],[8,9,10,11,12,15,16,17,18,19,20,21,22,23,24,25,26,27,28,29,30,31,32,33,13,14],[]⟩)]⟩
def q9b:Tree:=(.loop 2 3 [(.lit (.i 0)),(.lit (.i 0))] (.br (.lt (.tok 4) (.len (.fld (.tok 0) 1))) (.need [(.le (.lit (.i 0)) (.tok 4)),(.lt (.tok 4) (.len (.fld (.tok 0) 1))),(.imp (.eq (.fld (.get (.fld (.tok 0) 1) (.tok 4)) 0) (.tok 1)) (.le (.lit (.i 0)) (.tok 4))),(.imp (.eq (.fld (.get (.fld (.tok 0) 1) (.tok 4)) 0) (.tok 1)) (.lt (.tok 4) (.len (.fld (.tok 0) 1))))] (.br (.and (.eq (.fld (.get (.fld (.tok 0) 1) (.tok 4)) 0) (.tok 1)) (.eq (.fld (.get (.fld (.tok 0) 1) (.tok 4)) 1) (.tok 2))) (.leaf [(.tok 4)]) (.need [(.rng .i64 (.add (.tok 4) (.lit (.i 1))))] (.back 2 [(.tok 3),(.add (.tok 4) (.lit (.i 1)))])))) (.leaf [(.lit (.i (-1)))])))
theorem qri:CdZ [] qsw q5e Tryz.f130 q9b:=fun cd h=>by injection h with h;subst h;kernel_rfl
theorem quv(h:HgZ q9b q5e [] g):FOk q5e g:=ym (qri) .nil rfl rfl qn3 (by decide) h
def jq:Ct:=⟨108,[.val (.st 26),.val (.row 102)],[(.bool,false)],[],none,[],[]⟩
theorem qeq:EnZ jq:=fun _ _=>by kernel_rfl
def qh9:Ann:=⟨[0,1,2,4,5,9,53],[(2,⟨[(4,.bool,false),(5,.int .i64,false)],[],[6,7,8,9,12,13,14,15,16,17,18,19,20,21,22,23,24,25,26,27,28,29,30,31,32,33,34,35,36,37,38,39,40,41,42,43,44,45,46,47,48,49,50,51,52,53,10,11],[]⟩)]⟩
def q42:Tree:=
 let c:X:=.sub (.tok 3) (.lit (.i 1))
 let d:X:=.lt (.tok 3) (.len (.tok 1))
 let g:X:=.get (.tok 1) (.tok 3)
 let h:X:=.lit (.i 0)
 let j:X:=.add (.tok 3) (.lit (.i 1))
 let a:X:=.and (.not (.or (.lt (.fld g 0) h) (.lt (.lit (.i 1099511627776)) (.fld g 0)))) (.lt h (.tok 3))
 let b:X:=.or (.or (.lt (.fld g 0) h) (.lt (.lit (.i 1099511627776)) (.fld g 0))) (.and (.lt h (.tok 3)) (.le (.fld g 0) (.fld (.get (.tok 1) c) 0)))
 let e:X:=.le h (.tok 3)
 let f:X:=.rng .i64 c
 let i:X:=.lt c (.len (.tok 1))
 let k:X:=.not (.lt (.fld g 0) h)
 (.loop 2 2 [(.lit (.b .false)),h] (.br d (.need [(.imp (.not b) (.ok 0 [(.tok 0),(.fld g 1)])),(.imp (.not b) e),(.imp (.not b) d),(.imp a e),(.imp a d),(.imp a (.le h c)),(.imp a i),(.imp a f),(.imp a e),(.imp a d),(.imp a (.le h c)),(.imp a i),(.imp a f),(.imp a f),(.imp a e),(.imp a d),(.imp a e),(.imp a d),(.imp a (.le h c)),(.imp a i),(.imp a f),(.imp a f),(.imp a f),(.imp a e),(.imp a d),(.imp a f),(.imp k e),(.imp k d),e,d] (.br (.or b (.not (.call 0 0 [(.tok 0),(.fld g 1)]))) (.leaf [(.lit (.b .false))]) (.need [(.rng .i64 j)] (.back 2 [(.tok 2),j])))) (.leaf [(.lit (.b .true))])))
theorem qfr(g0:GfZ):CdZ [(qo,g0)] qh9 jq Tryz.f108 q42:=fun cd h=>by injection h with h;subst h;kernel_rfl
theorem qho(h0:FOk qo g0)(h:HgZ q42 jq [(qo,g0)] g):FOk jq g:=ym (qfr g0) (.cons h0 .nil) rfl rfl qeq (by decide) h
def q3h:Ct:=⟨123,[.val (.row 102),.val (.int .i64)],[(.int .i64,false)],[],none,[],[]⟩
theorem qt8:EnZ q3h:=fun _ _=>by kernel_rfl
def z26:Ann:=⟨[0,1,4,5,9,18],[(2,⟨[(4,.int .i64,false),(5,.int .i64,false)],[],[6,7,8,9,12,13,14,15,16,17,18,19,10,11],[]⟩)]⟩
def qcl:Tree:=(.loop 2 2 [(.lit (.i 0)),(.lit (.i 0))] (.br (.lt (.tok 3) (.len (.tok 0))) (.need [(.le (.lit (.i 0)) (.tok 3)),(.lt (.tok 3) (.len (.tok 0)))] (.br (.eq (.fld (.get (.tok 0) (.tok 3)) 0) (.tok 1)) (.leaf [(.tok 3)]) (.need [(.rng .i64 (.add (.tok 3) (.lit (.i 1))))] (.back 2 [(.tok 2),(.add (.tok 3) (.lit (.i 1)))])))) (.leaf [(.lit (.i (-1)))])))
theorem qxg:CdZ [] z26 q3h Tryz.f123 qcl:=fun cd h=>by injection h with h;subst h;kernel_rfl
theorem z31(h:HgZ qcl q3h [] g):FOk q3h g:=ym (qxg) .nil rfl rfl qt8 (by decide) h
def q24:Ct:=⟨124,[.val (.row 102),.val (.int .i64),.val (.st 28)],[(.row 102,true)],[],none,[],[]⟩
theorem qob:EnZ q24:=fun _ _=>by kernel_rfl
def qu7:Ann:=⟨[0,1,2,5,6,7,8,9,22],[(3,⟨[(7,.row 102,false),(8,.int .i64,false)],[],[10,11,12,13,14,15,16,17,18,19,20,21,22,25,26,27,28,29,30,31,23,24],[]⟩)]⟩
def q9i:Tree:=(.loop 3 3 [(.lit (.r [])),(.lit (.i 0))] (.need [(.imp (.lt (.tok 4) (.len (.tok 0))) (.le (.lit (.i 0)) (.tok 4))),(.imp (.lt (.tok 4) (.len (.tok 0))) (.lt (.tok 4) (.len (.tok 0))))] (.br (.and (.lt (.tok 4) (.len (.tok 0))) (.lt (.fld (.get (.tok 0) (.tok 4)) 0) (.tok 1))) (.need [(.le (.lit (.i 0)) (.tok 4)),(.lt (.tok 4) (.len (.tok 0))),(.le (.add (.len (.tok 3)) (.lit (.i 1))) (.lit (.i 5864062014634)))] (.need [(.rng .i64 (.add (.tok 4) (.lit (.i 1))))] (.back 3 [(.app (.tok 3) (.row [(.get (.tok 0) (.tok 4))])),(.add (.tok 4) (.lit (.i 1)))]))) (.need [(.le (.add (.len (.tok 3)) (.lit (.i 1))) (.lit (.i 5864062014634)))] (.need [(.le (.lit (.i 0)) (.len (.tok 3))),(.le (.len (.tok 3)) (.len (.tok 0))),(.le (.add (.len (.app (.tok 3) (.row [(.mk [(.tok 1),(.tok 2)])]))) (.len (.cut (.tok 0) (.len (.tok 3)) (.len (.tok 0))))) (.lit (.i 5864062014634)))] (.leaf [(.app (.app (.tok 3) (.row [(.mk [(.tok 1),(.tok 2)])])) (.cut (.tok 0) (.len (.tok 3)) (.len (.tok 0))))]))))))
theorem qqk:CdZ [] qu7 q24 Tryz.f124 q9i:=fun cd h=>by injection h with h;subst h;kernel_rfl
theorem qsr(h:HgZ q9i q24 [] g):FOk q24 g:=ym (qqk) .nil rfl rfl qob (by decide) h
def q0n:Ct:=⟨109,[.ref (.st 26) true,.val (.st 53),.val (.row 102)],[(.st 28,false),(.row 102,false)],[],none,[],[]⟩
theorem qeo:EnZ q0n:=fun _ _=>by kernel_rfl
def qxx:Ann:=⟨[0,1,2,4,6,7,8,9,10,11,12,13,14,16,17,23,31,38,105,128],[(17,⟨[(2,.row 102,false),(11,.int .i64,false)],[0],[101,102,103,104,105,108,109,110,111,12,112,113,114,115,116,13,117,118,14,119,120,121,122,123,124,125,126,127,128,129,130,131,132,133,135,136,137,138,134,139,140,141,142,143,144,145,146,147,106,107],[]⟩)]⟩
def q2k:Tree:=
 let d:X:=.lit (.i 0)
 let h:X:=.lit (.i 1)
 let i:X:=.tok 1
 let j:X:=.tok 0
 let k:X:=.tok 3
 let l:X:=.tok 2
 let m:X:=.tok 5
 let n:X:=.lit (.i 8796093021952)
 let c:X:=.get (.fld i 3) (.tok 4)
 let e:X:=.len (.fld i 3)
 let g:X:=.len (.fld j 0)
 let o:X:=.add (.tok 4) h
 let p:X:=.fld i 2
 let t:X:=.fld i 1
 let a:X:=.add (.add g h) (.tok 4)
 let f:X:=.call 1 0 [l,t]
 let q:X:=.call 4 2 [m,c,k]
 let r:X:=.mk [d,g]
 let s:X:=.fld (.call 0 1 [j,p,e]) 0
 let u:X:=.fld c 1
 let b:X:=.set (.call 0 1 [j,p,e]) 0 (.app s (.row [(.mk [(.lit (.i 4)),(.call 0 0 [j,p,e])])]))
 let v:X:=.mk [d,a]
 (.br (.eq (.fld i 0) h) (.leaf [(.mk [h,t]),l,j]) (.br (.eq (.fld i 0) (.lit (.i 2))) (.need [(.ok 0 [j,p,d])] (.leaf [(.mk [(.lit (.i 2)),(.call 0 0 [j,p,d])]),l,(.call 0 1 [j,p,d])])) (.br (.eq (.fld i 0) d) (.need [(.ok 1 [l,t])] (.br (.le d f) (.need [(.le d f),(.lt f (.len l)),(.ok 2 [(.fld (.get l f) 1)])] (.leaf [(.call 2 0 [(.fld (.get l f) 1)]),l,j])) (.need [(.le (.add g h) n)] (.need [(.ok 3 [l,t,r])] (.leaf [r,(.call 3 0 [l,t,r]),(.set j 0 (.app (.fld j 0) (.row [r])))]))))) (.need [(.le (.add (.len s) h) n),(.ok 0 [j,p,e]),(.eq s (.fld j 0))] (.need [(.le d e),(.le e (.lit (.i 16777216))),(.le (.add (.len (.fld b 0)) e) n)] (.loop 17 3 [l,d,(.set b 0 (.app (.fld b 0) (.rep e (.lit (.a [(.i 0),(.i 0)])))))] (.br (.lt (.tok 4) e) (.need [(.rng .i64 (.add g h)),(.rng .i64 a)] (.need [(.le d (.tok 4)),(.lt (.tok 4) e)] (.need [(.imp (.eq (.fld c 0) d) (.ok 1 [k,u]))] (.br (.and (.eq (.fld c 0) d) (.lt (.call 1 0 [k,u]) d)) (.need [(.ok 3 [k,u,v])] (.need [(.le d a),(.lt a (.len (.fld m 0)))] (.need [(.rng .i64 o)] (.back 17 [(.call 3 0 [k,u,v]),o,(.set m 0 (.put (.fld m 0) a v))])))) (.need [(.ok 4 [m,c,k])] (.need [(.le d a),(.lt a (.len (.fld q 0)))] (.need [(.rng .i64 o)] (.back 17 [(.call 4 1 [m,c,k]),o,(.set q 0 (.put (.fld q 0) a (.call 4 0 [m,c,k])))])))))))) (.leaf [(.mk [(.lit (.i 3)),g]),k,m]))))))))
theorem qsn(g0 g1 g2 g3 g4:GfZ):CdZ [(ze,g0),(q3h,g1),(q04,g2),(q24,g3),(q0n,g4)] qxx q0n Tryz.f109 q2k:=fun cd h=>by injection h with h;subst h;kernel_rfl
theorem qxe{g4:GfZ}(h0:FOk ze g0)(h1:FOk q3h g1)(h2:FOk q04 g2)(h3:FOk q24 g3)(h4:FOk q0n g4)(h:HgZ q2k q0n [(ze,g0),(q3h,g1),(q04,g2),(q24,g3),(q0n,g4)] g):FOk q0n g:=ym (qsn g0 g1 g2 g3 g4) (.cons h0 (.cons h1 (.cons h2 (.cons h3 (.cons h4 .nil))))) rfl rfl qeo (by decide) h
def q30:Ct:=⟨66,[.ref (.st 26) true,.val (.st 53),.val (.row 102)],[(.st 28,false),(.row 102,false),(.int .i64,false)],[],none,[],[]⟩
theorem qq0:EnZ q30:=fun _ _=>by kernel_rfl
def qym:Ann:=⟨[0,1,2,4,6,7,8,9,10,11,26,50],[]⟩
def qbe:Tree:=(.need [(.ok 0 [(.tok 1)]),(.imp (.not (.not (.call 0 0 [(.tok 1)]))) (.ok 1 [(.tok 0),(.tok 2)]))] (.br (.or (.not (.call 0 0 [(.tok 1)])) (.not (.call 1 0 [(.tok 0),(.tok 2)]))) (.leaf [(.lit (.a [(.i 0),(.i 0)])),(.lit (.r [])),(.lit (.i 1)),(.tok 0)]) (.need [(.ok 2 [(.tok 0)])] (.need [(.ok 3 [(.call 2 0 [(.tok 0)]),(.tok 1),(.app (.lit (.r [])) (.tok 2))]),(.le (.len (.tok 2)) (.lit (.i 5864062014634))),(.le (.len (.tok 2)) (.lit (.i 5864062014634)))] (.br (.or (.lt (.lit (.i 1048576)) (.len (.fld (.call 3 2 [(.call 2 0 [(.tok 0)]),(.tok 1),(.app (.lit (.r [])) (.tok 2))]) 1))) (.lt (.fld (.call 3 2 [(.call 2 0 [(.tok 0)]),(.tok 1),(.app (.lit (.r [])) (.tok 2))]) 5) (.len (.fld (.call 3 2 [(.call 2 0 [(.tok 0)]),(.tok 1),(.app (.lit (.r [])) (.tok 2))]) 0)))) (.leaf [(.lit (.a [(.i 0),(.i 0)])),(.lit (.r [])),(.lit (.i 13)),(.tok 0)]) (.leaf [(.call 3 0 [(.call 2 0 [(.tok 0)]),(.tok 1),(.app (.lit (.r [])) (.tok 2))]),(.call 3 1 [(.call 2 0 [(.tok 0)]),(.tok 1),(.app (.lit (.r [])) (.tok 2))]),(.lit (.i 0)),(.call 3 2 [(.call 2 0 [(.tok 0)]),(.tok 1),(.app (.lit (.r [])) (.tok 2))])]))))))
theorem qu8(g0 g1 g2 g3:GfZ):CdZ [(j5,g0),(jq,g1),(yt,g2),(q0n,g3)] qym q30 Tryz.f66 qbe:=fun cd h=>by injection h with h;subst h;kernel_rfl
theorem qyw(h0:FOk j5 g0)(h1:FOk jq g1)(h2:FOk yt g2)(h3:FOk q0n g3)(h:HgZ qbe q30 [(j5,g0),(jq,g1),(yt,g2),(q0n,g3)] g):FOk q30 g:=ym (qu8 g0 g1 g2 g3) (.cons h0 (.cons h1 (.cons h2 (.cons h3 .nil)))) rfl rfl qq0 (by decide) h
def yg:Ct:=⟨33,[.val (.st 26),.val (.st 28)],[(.row 66,true)],[],none,[],[]⟩
theorem qvc:EnZ yg:=fun _ _=>by kernel_rfl
def j8:Ct:=⟨46,[.own (.row 66),.val (.int .i64),.val (.int .i64)],[(.row 66,true)],[],none,[],[]⟩
theorem q8x:EnZ j8:=fun _ _=>by kernel_rfl
section
open Go.RowKit Go.Shelf
attribute [local go_sem] Oper.semAt_some
section
variable{A0 A1 A2 A3:Option Addr}{n0 n1 n2 n3 k0 k1 k2 k3:Nat}{x4 x5:Int}
theorem z56(w:World)(s e:Nat)(T:TypeId)(hs:w.heap[s]? =some (.cells #[.slice A0 n0 k0,.slice A1 n1 k1,.slice A2 n2 k2,.slice A3 n3 k3,.int .i64 x4,.int .i64 x5] T (0,0))):Calls uA 43 #[.pointer (some ⟨s,0,none⟩),.pointer (some ⟨e,0,none⟩)] w fun r w'=>r=.returned (.func (.func 82) #[] #[.pointer (some ⟨w.heap.size+1,0,none⟩),.pointer (some ⟨w.heap.size,0,none⟩),.pointer (some ⟨w.heap.size+2,0,none⟩)])∧w'=((w.alloc (.cells #[.pointer (some ⟨s,0,none⟩)] 41)).alloc (.cells #[.pointer (some ⟨e,0,none⟩)] 79)).alloc (.cells #[.slice A0 n0 k0,.slice A1 n1 k1,.slice A2 n2 k2,.slice A3 n3 k3,.int .i64 x4,.int .i64 x5] 27):=by
 have h0:=cell_of_row w s 0 _ T (0,0) hs;have h1:=cell_of_row w s 1 _ T (0,0) hs;have h2:=cell_of_row w s 2 _ T (0,0) hs;have h3:=cell_of_row w s 3 _ T (0,0) hs;have h4:=cell_of_row w s 4 _ T (0,0) hs;have h5:=cell_of_row w s 5 _ T (0,0) hs;have hlt:=qq hs
 go_enter Tryz.func43,Tryz.ntmps43
 go_wp2_with fail
 exact bodyPost_ret (v:=.func (.func 82) #[] #[.pointer (some ⟨w.heap.size+1,0,none⟩),.pointer (some ⟨w.heap.size,0,none⟩),.pointer (some ⟨w.heap.size+2,0,none⟩)]) (by simp[results,Tryz.results43,go_sem]) rfl ⟨rfl,rfl⟩
theorem za2{n:Nat}(w:World)(b3 b2 b5 e:Nat)(u:FrameMode)(h3:w.cell? ⟨b3,0,none⟩=some (.pointer (some ⟨e,0,none⟩)))(he:w.cell? ⟨e,0,none⟩=some (.int .i64 0)):CallsDIn (FR none) n uA 82 #[.pointer (some ⟨b3,0,none⟩),.pointer (some ⟨b2,0,none⟩),.pointer (some ⟨b5,0,none⟩)] u w fun r u' w'=>u'=u∧(r=.returned (.tuple #[])∧w'=w):=by
 refine callsDIn_of_wp (F:=FR none) uP rfl trivial ((wpIn_wide (n:=n)).2 ?_);simp only[uM,uF,uI,uL,uO,uN,uD,uC,uG,uE,uK,uJ]
 go_wp2_with fail
 exact⟨rfl,_,results_none rfl _ _ _,rfl,rfl⟩
variable{m0 m1 m2 m3 l0 l1 l2 l3:Nat}{y4 y5:Int}{B0 B1 B2 B3:Option Addr}
theorem zev{n:Nat}(w:World)(b3 b2 b5 e s:Nat)(u:FrameMode)(E:Int)(h3:w.cell? ⟨b3,0,none⟩=some (.pointer (some ⟨e,0,none⟩)))(he:w.cell? ⟨e,0,none⟩=some (.int .i64 E))(hE:¬E=0)(h2:w.cell? ⟨b2,0,none⟩=some (.pointer (some ⟨s,0,none⟩)))
  (T T':TypeId)(hs:w.heap[s]? =some (.cells #[.slice A0 n0 k0,.slice A1 n1 k1,.slice A2 n2 k2,.slice A3 n3 k3,.int .i64 x4,.int .i64 x5] T (0,0)))(hw:w.heap[b5]? =some (.cells #[.slice B0 l0 m0,.slice B1 l1 m1,.slice B2 l2 m2,.slice B3 l3 m3,.int .i64 y4,.int .i64 y5] T' (0,0)))
  (hn:b3≠s∧b2≠s∧b5≠s)(hl0:l0≤k0)(hl1:l1≤k1)(hl2:l2≤k2):
  CallsDIn (FR none) n uA 82 #[.pointer (some ⟨b3,0,none⟩),.pointer (some ⟨b2,0,none⟩),.pointer (some ⟨b5,0,none⟩)] u w fun r u' w'=>u'=u∧(r=.returned (.tuple #[])∧But (fun b=>b=s) w w'∧w'.heap[s]? =some (.cells #[.slice A0 l0 k0,.slice A1 l1 k1,.slice A2 l2 k2,.slice A3 n3 k3,.int .i64 y4,.int .i64 x5] T (0,0))):=by
 refine callsDIn_of_wp (F:=FR none) uP rfl trivial ((wpIn_wide (n:=n)).2 ?_);simp only[uM,uF,uI,uL,uO,uN,uD,uC,uG,uE,uK,uJ];have s0:=cell_of_row w s 0 _ T (0,0) hs;have f0:=frz hs 0;have w0:=cell_of_row w b5 0 _ T' (0,0) hw
 go_wp2_with fail
 go_still_tail 9,(by kernel_rfl)
 change wpList _ _ _ _ _ w.drew
 go_wp2_with fail
 have hb1:But (fun b=>b=s) w ((w.setCell ⟨s,0,none⟩ (.slice A0 l0 k0)).drew):=((But.refl (fun b=>b=s) w).setCell (p:=⟨s,0,none⟩) (.inl rfl) _).drew;have hs1:((w.setCell ⟨s,0,none⟩ (.slice A0 l0 k0)).drew).heap[s]? =some (.cells #[.slice A0 l0 k0,.slice A1 n1 k1,.slice A2 n2 k2,.slice A3 n3 k3,.int .i64 x4,.int .i64 x5] T (0,0)):=by
  show(w.setCell ⟨s,0,none⟩ (.slice A0 l0 k0)).heap[s]? =_
  have:=ql6 (i:=0) hs (.slice A0 l0 k0);simpa using this
 have hw1:((w.setCell ⟨s,0,none⟩ (.slice A0 l0 k0)).drew).heap[b5]? =some (.cells #[.slice B0 l0 m0,.slice B1 l1 m1,.slice B2 l2 m2,.slice B3 l3 m3,.int .i64 y4,.int .i64 y5] T' (0,0)):=zii hw hn.2.2;have h21:((w.setCell ⟨s,0,none⟩ (.slice A0 l0 k0)).drew).cell? ⟨b2,0,none⟩=some (.pointer (some ⟨s,0,none⟩)):=hb1.cell hn.2.1 h2;clear s0 f0 w0;generalize (w.setCell ⟨s,0,none⟩ (.slice A0 l0 k0)).drew=W1 at *;have s0:W1.cell? ⟨s,1,none⟩=some (.slice A1 n1 k1):=by have:=cell_of_row W1 s 1 _ T (0,0) hs1;simpa using this
 have f0:=frz hs1 1;have w0:W1.cell? ⟨b5,1,none⟩=some (.slice B1 l1 m1):=by have:=cell_of_row W1 b5 1 _ T' (0,0) hw1;simpa using this
 go_still_tail 9,(by kernel_rfl)
 change wpList _ _ _ _ _ W1.drew
 go_wp2_with fail
 have hb2:But (fun b=>b=s) w ((W1.setCell ⟨s,1,none⟩ (.slice A1 l1 k1)).drew):=(hb1.setCell (p:=⟨s,1,none⟩) (.inl rfl) _).drew;have hs2:((W1.setCell ⟨s,1,none⟩ (.slice A1 l1 k1)).drew).heap[s]? =some (.cells #[.slice A0 l0 k0,.slice A1 l1 k1,.slice A2 n2 k2,.slice A3 n3 k3,.int .i64 x4,.int .i64 x5] T (0,0)):=by
  show(W1.setCell ⟨s,1,none⟩ (.slice A1 l1 k1)).heap[s]? =_
  have:=ql6 (i:=1) hs1 (.slice A1 l1 k1);simpa using this
 have hw2:((W1.setCell ⟨s,1,none⟩ (.slice A1 l1 k1)).drew).heap[b5]? =some (.cells #[.slice B0 l0 m0,.slice B1 l1 m1,.slice B2 l2 m2,.slice B3 l3 m3,.int .i64 y4,.int .i64 y5] T' (0,0)):=zii hw1 hn.2.2;have h22:((W1.setCell ⟨s,1,none⟩ (.slice A1 l1 k1)).drew).cell? ⟨b2,0,none⟩=some (.pointer (some ⟨s,0,none⟩)):=hb2.cell hn.2.1 h2;clear s0 f0 w0;generalize (W1.setCell ⟨s,1,none⟩ (.slice A1 l1 k1)).drew=W2 at *;have s0:W2.cell? ⟨s,2,none⟩=some (.slice A2 n2 k2):=by have:=cell_of_row W2 s 2 _ T (0,0) hs2;simpa using this
 have f0:=frz hs2 2;have w0:W2.cell? ⟨b5,2,none⟩=some (.slice B2 l2 m2):=by have:=cell_of_row W2 b5 2 _ T' (0,0) hw2;simpa using this
 go_still_tail 9,(by kernel_rfl)
 have w4:W2.cell? ⟨b5,4,none⟩=some (.int .i64 y4):=by have:=cell_of_row W2 b5 4 _ T' (0,0) hw2;simpa using this
 have s4:W2.cell? ⟨s,4,none⟩=some (.int .i64 x4):=by have:=cell_of_row W2 s 4 _ T (0,0) hs2;simpa using this
 have f4:=frz hs2 4;have q1:¬b5=s:=hn.2.2;have q2:¬b2=s:=hn.2.1;change wpList _ _ _ _ _ W2.drew
 go_wp2_with fail
 refine⟨rfl,_,results_none rfl _ _ _,rfl,((hb2.setCell (p:=⟨s,2,none⟩) (.inl rfl) _).setCell (p:=⟨s,4,none⟩) (.inl rfl) _).drew,?_⟩
 show((W2.setCell ⟨s,2,none⟩ (.slice A2 l2 k2)).setCell ⟨s,4,none⟩ (.int .i64 y4)).heap[s]? =_
 have:=ql6 (i:=4) (ql6 (i:=2) hs2 (.slice A2 l2 k2)) (.int .i64 y4);simpa using this
end
end
variable{o:Option Nat}{d:D}{c1 cs:List Value}{ds:List D}
section
section
variable{A:Nat→Prop}{p:qg}{w:World}{dep:List Nat}
theorem qrv{E:TypeId}(h:Fl A p w dep o d (.row E) c1):∃l B cap,d=.r l∧c1=[.slice B l.length cap]∧l.length≤cap∧∀m,m≤l.length→Fl A p w dep o (.r (l.take m)) (.row E) [.slice B m cap]:=by
 cases o with
 | none =>
  have h:Rd w (FFD A p dep) d (.row E) c1:=h;cases d with
  |r l=>
   obtain⟨E',te,B,cap,e1,hte,rfl,h1,h2,h3,h4⟩:=h;injection e1 with e1;subst e1;refine⟨l,B,cap,rfl,rfl,h1,fun m hm=>?_⟩;have hl:(l.take m).length=m:=by simp;omega
   refine⟨E,te,B,cap,rfl,hte,by rw[hl],by rw[hl];omega,by rw[hl];omega,h3,q0s.2 fun j hj=>?_⟩;rw[uH];exact q0s.1 h4 j (by omega)
  |u=>exact h.elim
  |i n=>obtain⟨k,e,-⟩:=h;cases e
  |b x=>obtain⟨e,-⟩:=h;cases e
  |s x=>obtain⟨e,-⟩:=h;cases e
  |a l=>obtain⟨T,fs,e,-⟩:=h;cases e
  |mp l=>obtain⟨K,V,kt,vt,g,es,clock,e,-⟩:=h;cases e
 | some pin =>
  rcases h with⟨E',te,l,v,e1,hte,rfl,rfl,hv⟩|⟨K,V,kt,vt,l,g,es,clock,e,-⟩
  ·injection e1 with e1;subst e1;rcases hv with⟨rfl,rfl⟩|⟨g,cap,cur,rfl,hg,hh,h1,h2,h3,h4,h5⟩
   ·exact⟨[],none,0,rfl,rfl,uB _,fun m hm=>.inl ⟨E,te,[],_,rfl,hte,by simp,rfl,.inl ⟨by simp at hm;rw[hm],rfl⟩⟩⟩
   ·refine⟨l,some ⟨g,0,none⟩,cap,rfl,rfl,h1,fun m hm=>?_⟩;have hl:(l.take m).length=m:=by simp;omega
    refine .inl ⟨E,te,l.take m,_,rfl,hte,rfl,rfl,.inr ⟨g,cap,cur,by rw[hl],hg,hh,by rw[hl];omega,h2,h3,by rw[hl];omega,fun i hi=>?_⟩⟩;obtain⟨cs,q1,q2⟩:=h5 i (by omega);exact⟨cs,q1,by rw[uH];exact q2⟩
  ·cases e
theorem z36(h:Fl A p w dep o d (.int .i64) c1):∃n,d=.i n∧c1=[.int .i64 n]∧yz .i64 n=true∧∀m,yz .i64 m=true→Fl A p w dep o (.i m) (.int .i64) [.int .i64 m]:=by
 cases o with
 | none =>
  have h:Rd w (FFD A p dep) d (.int .i64) c1:=h;cases d with
  |i n=>
   obtain⟨k,e,rfl,hr⟩:=h;injection e with e;subst e;exact⟨n,rfl,rfl,hr,fun m hm=>⟨.i64,rfl,rfl,hm⟩⟩
  |u=>exact h.elim
  |r l=>obtain⟨E,te,B,cap,e,-⟩:=h;cases e
  |b x=>obtain⟨e,-⟩:=h;cases e
  |s x=>obtain⟨e,-⟩:=h;cases e
  |a l=>obtain⟨T,fs,e,-⟩:=h;cases e
  |mp l=>obtain⟨K,V,kt,vt,g,es,clock,e,-⟩:=h;cases e
 |some pin=>
  rcases h with⟨E',te,l,v,e1,-⟩|⟨K,V,kt,vt,l,g,es,clock,e,-⟩
  ·cases e1
  ·cases e
abbrev qwf:TypeId:=match qd with
 |.st S=>S
 |_=>0
theorem qrt:flds qwf=some [zk,qnl,z2k,q35,.int .i64,.int .i64]:=by kernel_rfl
theorem q5g{own:List (Nat×Nat)}{j:Nat}{t:Ty}{ts:List Ty}(h:Fls A p w dep own j ds (t::ts) cs):∃d ds' c1 c2,ds=d::ds'∧cs=c1++c2∧Fl A p w dep (lkA own j) d t c1∧Fls A p w dep own (j+1) ds' ts c2:=by
 cases ds with
 |nil=>cases h.1
 |cons d ds=>
  obtain⟨t',ts',c1,c2,e,e2,h1,h2⟩:=h;injection e with e1 e1';subst e1 e1';exact⟨d,ds,c1,c2,rfl,e2,h1,h2⟩
theorem zhr{own:List (Nat×Nat)}{j:Nat}(h:Fls A p w dep own j ds [] cs):ds=[]∧cs=[]:=by
 cases ds with
 |nil=>exact⟨rfl,h.2⟩
 |cons d ds=>
  obtain⟨t',ts',c1,c2,e,-⟩:=h;cases e
theorem qij{own:List (Nat×Nat)}(h:Con A p w d qd own dep cs):∃(l0 l1 l2 l3:List D)(B0 B1 B2 B3:Option Addr)(k0 k1 k2 k3:Nat)(x4 x5:Int),d=.a [.r l0,.r l1,.r l2,.r l3,.i x4,.i x5]∧cs=[.slice B0 l0.length k0,.slice B1 l1.length k1,.slice B2 l2.length k2,.slice B3 l3.length k3,.int .i64 x4,.int .i64 x5]∧(l0.length≤k0∧l1.length≤k1∧l2.length≤k2)∧yz .i64 x4=true∧
  ∀m0 m1 m2 y4,m0≤l0.length→m1≤l1.length→m2≤l2.length→yz .i64 y4=true→Con A p w (.a [.r (l0.take m0),.r (l1.take m1),.r (l2.take m2),.r l3,.i y4,.i x5]) qd own dep [.slice B0 m0 k0,.slice B1 m1 k1,.slice B2 m2 k2,.slice B3 l3.length k3,.int .i64 y4,.int .i64 x5]:=by
 have h:Con A p w d (.st qwf) own dep cs:=h;obtain⟨fs,ds,hf,rfl,hl⟩:=h;rw[qrt] at hf;injection hf with hf;subst hf;obtain⟨d0,ds,c0,cs,rfl,rfl,h0,hl⟩:=q5g hl;obtain⟨d1,ds,c1,cs,rfl,rfl,h1,hl⟩:=q5g hl;obtain⟨d2,ds,c2,cs,rfl,rfl,h2,hl⟩:=q5g hl;obtain⟨d3,ds,c3,cs,rfl,rfl,h3,hl⟩:=q5g hl;obtain⟨d4,ds,c4,cs,rfl,rfl,h4,hl⟩:=q5g hl;obtain⟨d5,ds,c5,cs,rfl,rfl,h5,hl⟩:=q5g hl;obtain⟨rfl,rfl⟩:=zhr hl;obtain⟨l0,B0,k0,rfl,rfl,q0,f0⟩:=qrv h0;obtain⟨l1,B1,k1,rfl,rfl,q1,f1⟩:=qrv h1;obtain⟨l2,B2,k2,rfl,rfl,q2,f2⟩:=qrv h2;obtain⟨l3,B3,k3,rfl,rfl,q3,f3⟩:=qrv h3;obtain⟨x4,rfl,rfl,q4,f4⟩:=z36 h4;obtain⟨x5,rfl,rfl,q5,f5⟩:=z36 h5;refine⟨l0,l1,l2,l3,B0,B1,B2,B3,k0,k1,k2,k3,x4,x5,rfl,rfl,⟨q0,q1,q2⟩,q4,fun m0 m1 m2 y4 e0 e1 e2 e4=>?_⟩
 show Con A p w _ (.st qwf) own dep _
 exact⟨_,_,qrt,rfl,_,_,_,_,rfl,rfl,f0 m0 e0,_,_,_,_,rfl,rfl,f1 m1 e1,_,_,_,_,rfl,rfl,f2 m2 e2,_,_,_,_,rfl,rfl,h3,_,_,_,_,rfl,rfl,f4 y4 e4,_,_,_,_,rfl,rfl,h5,rfl,rfl⟩
end
def q72:List D→Option (List D)
 |[e,s,w]=>if e.int=0 then some [s] else if(w.fld 0).rs.length≤(s.fld 0).rs.length∧(w.fld 1).rs.length≤(s.fld 1).rs.length∧(w.fld 2).rs.length≤(s.fld 2).rs.length then some [.a [.r ((s.fld 0).rs.take (w.fld 0).rs.length),.r ((s.fld 1).rs.take (w.fld 1).rs.length),.r ((s.fld 2).rs.take (w.fld 2).rs.length),s.fld 3,w.fld 4,s.fld 5]] else none
 |_=>none
theorem qgm(args:Array Value)(w:World):(callFunc 82 args).run uA w=.ok (.enter 82 args) w:=by kernel_rfl
theorem qt9(args:Array Value)(w:World):(callFunc 43 args).run uA w=.ok (.enter 43 args) w:=by kernel_rfl
def qf4:Ct:={f:=82,ar:=[.val (.st 4242424244)],rs:=[]}
theorem zky{w:World}{P:Nat→Prop}(h:Rd w P d (.st 4242424244) cs):False:=by
 cases d with
 |a l=>
  obtain⟨T,fs,e,hf,-⟩:=h;injection e with e;subst e;cases hf
 |u=>exact h
 |i n=>obtain⟨k,e,-⟩:=h;cases e
 |b x=>cases h.1
 |s x=>cases h.1
 |r l=>obtain⟨E,te,A,cap,e,-⟩:=h;cases e
 |mp l=>obtain⟨K,V,kt,vt,g,es,clock,e,-⟩:=h;cases e
theorem z4l:FOk qf4 q72:=
 ⟨qgm,(fun A F p w vs us ds outs hg _ _ _ hvl hargs=>by
  obtain⟨v,r,d,ds',e1,e2,⟨cs,h1,h2⟩,-⟩:=hargs;exact(zky h2).elim),fun h=>absurd rfl h⟩
end
end Go.Proofs.YtdaadonfbnedaaaGreat
