/-
 Lemmas of the walk and plain laws, put together. No condition.
-/
import Derived.ChangeArms
import Derived.OpenShut
import Derived.ProofKit
import Derived.SizedLaws
import Derived.Test.YtdaadonfbnedaaaGreatRows
import Derived.Test.YtdaadonfbnedaaaGreatKi
namespace Go.Proofs.YtdaadonfbnedaaaGreat
open Go.RowKit
set_option linter.unusedVariables false
set_option linter.unusedSimpArgs false
set_option maxRecDepth 100000
open _root_.Go.Proofs.Tryz renaming prog→uA
open _root_.List renaming mem_append→uB,take→uF,drop→uG,take_of_length_le→uH,mem_singleton→uK,length_append→uL,getElem?_map→uM,length_take→uO,length_drop→uP,mem_cons→uQ,map_take→uR,map_drop→uT,map_set→uU
open _root_.Bool renaming or_eq_true→uC,or_eq_false_iff→uI,not_eq_true'→uN
open _root_.Option.some renaming injEq→uD
open _root_.Option renaming ite_none_right_eq_some→uE
def q31:Ct:=⟨52,[.val (.int .i64)],[(.st 28,false)],[],none,[],[]⟩
theorem qq9:EnZ q31:=fun _ _=>by kernel_rfl
def qzi:Ann:=⟨[0,2],[]⟩
def qb4:Tree:=(.leaf [(.mk [(.lit (.i 5)),(.tok 0)])])
theorem qvo:CdZ [] qzi q31 Tryz.f52 qb4:=fun cd h=>by injection h with h;subst h;kernel_rfl
theorem qyo{g:GfZ}(h:HgZ qb4 q31 [] g):FOk q31 g:=yd (qvo) .nil rfl rfl qq9 (by decide) h
def q20:Ct:=⟨16,[.nilp,.val (.st 28),.val (.str),.val (.st 28)],[(.int .i64,false)],[],none,[],[]⟩
theorem qnh:EnZ q20:=fun _ _=>by kernel_rfl
def q1p:Ct:=⟨44,[.nilp,.val (.row 66)],[(.st 28,false),(.int .i64,false)],[],none,[],[]⟩
theorem qas:EnZ q1p:=fun _ _=>by kernel_rfl
def qv5:Ann:=⟨[0,1,2,3,5,7,8,9,10,11,12,13,14,16,52,62,76,78,86,90,114],[]⟩
def qel:Tree:=(.leaf [(.lit (.i 1))])
theorem qpp(g0 g1 g2 g3 g4 g5 g6:GfZ):CdZ [(qn,g0),(qz,g1),(qf,g2),(zf,g3),(zh,g4),(q1p,g5),(q2o,g6)] qv5 q20 Tryz.f16 qel:=fun cd h=>by injection h with h;subst h;kernel_rfl
theorem quk{g0 g1 g2 g3 g4 g5 g6 g:GfZ}(h0:FOk qn g0)(h1:FOk qz g1)(h2:FOk qf g2)(h3:FOk zf g3)(h4:FOk zh g4)(h5:FOk q1p g5)(h6:FOk q2o g6)(h:HgZ qel q20 [(qn,g0),(qz,g1),(qf,g2),(zf,g3),(zh,g4),(q1p,g5),(q2o,g6)] g):FOk q20 g:=yd (qpp g0 g1 g2 g3 g4 g5 g6) (.cons h0 (.cons h1 (.cons h2 (.cons h3 (.cons h4 (.cons h5 (.cons h6 .nil))))))) rfl rfl qnh (by decide) h
def q27:Ct:=⟨17,[.nilp,.val (.st 28),.val (.str)],[(.int .i64,false)],[],none,[],[]⟩
theorem qo6:EnZ q27:=fun _ _=>by kernel_rfl
def que:Ann:=⟨[0,1,2,4,6,7,8,9,10,11,13,28,38,44,46,58],[]⟩
def qek:Tree:=(.leaf [(.lit (.i 1))])
theorem qr9(g0 g1 g2 g3 g4 g5 g6:GfZ):CdZ [(qn,g0),(zf,g1),(zh,g2),(qz,g3),(zg,g4),(q1p,g5),(q2o,g6)] que q27 Tryz.f17 qek:=fun cd h=>by injection h with h;subst h;kernel_rfl
theorem qx9{g0 g1 g2 g3 g4 g5 g6 g:GfZ}(h0:FOk qn g0)(h1:FOk zf g1)(h2:FOk zh g2)(h3:FOk qz g3)(h4:FOk zg g4)(h5:FOk q1p g5)(h6:FOk q2o g6)(h:HgZ qek q27 [(qn,g0),(zf,g1),(zh,g2),(qz,g3),(zg,g4),(q1p,g5),(q2o,g6)] g):FOk q27 g:=yd (qr9 g0 g1 g2 g3 g4 g5 g6) (.cons h0 (.cons h1 (.cons h2 (.cons h3 (.cons h4 (.cons h5 (.cons h6 .nil))))))) rfl rfl qo6 (by decide) h
def q2x:Ct:=⟨18,[.ref (.st 26) true,.val (.st 28),.val (.str),.val (.st 28)],[(.int .i64,false)],[],none,[],[]⟩
theorem qrd:EnZ q2x:=fun _ _=>by kernel_rfl
def qy8:Ann:=⟨[0,1,2,3,5,7,8,9,10,11,12,13,14,15,16,17,18,20,59,60,81,96,108,110,130],[]⟩
def q6v:Tree:=
 let f:X:=.tok 0
 let i:X:=.lit (.i 1)
 let p:X:=.lit (.i 0)
 let r:X:=.tok 2
 let u:X:=.row [(.tok 3)]
 let w:X:=.lit (.i 3)
 let x:X:=.lit (.i 8796093021952)
 let e1:X:=.lit (.i 1099511627776)
 let i1:X:=.lit (.i 13)
 let h:X:=.eq (.fld (.call 0 0 [f,(.tok 1)]) 0) (.lit (.i 5))
 let o:X:=.fld (.call 0 0 [f,(.tok 1)]) 1
 let q:X:=.call 5 0 [f]
 let s:X:=.not (.call 0 1 [f,(.tok 1)])
 let c1:X:=.row [r]
 let d:X:=.call 6 2 [q,c1,u]
 let e:X:=.add o (.lit (.i 2))
 let h1:X:=.and (.not s) h
 let a:X:=.get (.fld f 0) e
 let z:X:=.len (.fld d 0)
 let b1:X:=.or (.or s (.and h (.not (.call 1 0 [f,e])))) (.lt (.lit (.i 100)) (.slen r))
 let d1:X:=.rng .i64 e
 let g:X:=.call 3 0 [f,a]
 let l:X:=.set (.set d 4 (.add (.fld d 4) i)) 0 (.app (.fld (.set d 4 (.add (.fld d 4) i)) 0) (.row [(.call 8 0 [z]),(.mk [i,(.fld (.set d 4 (.add (.fld d 4) i)) 4)]),(.call 6 0 [q,c1,u])]))
 let t:X:=.call 3 1 [f,a]
 let c:X:=.call 6 2 [q,(.app g c1),(.app t u)]
 let j:X:=.call 6 0 [q,(.app g c1),(.app t u)]
 let a1:X:=.call 4 0 [g,r]
 let g1:X:=.call 6 1 [q,(.app g c1),(.app t u)]
 let b:X:=.call 6 2 [q,g,(.put t a1 (.tok 3))]
 let k:X:=.call 6 0 [q,g,(.put t a1 (.tok 3))]
 let y:X:=.len (.fld c 0)
 let f1:X:=.call 6 1 [q,g,(.put t a1 (.tok 3))]
 let n:X:=.set (.set c 4 (.add (.fld c 4) i)) 0 (.app (.fld (.set c 4 (.add (.fld c 4) i)) 0) (.row [(.call 8 0 [y]),(.mk [i,(.fld (.set c 4 (.add (.fld c 4) i)) 4)]),j]))
 let v:X:=.len (.fld b 0)
 let m:X:=.set (.set b 4 (.add (.fld b 4) i)) 0 (.app (.fld (.set b 4 (.add (.fld b 4) i)) 0) (.row [(.call 8 0 [v]),(.mk [i,(.fld (.set b 4 (.add (.fld b 4) i)) 4)]),k]))
 (.need [(.ok 0 [f,(.tok 1)]),(.ok 0 [f,(.tok 1)])] (.need [(.imp (.not b1) (.ok 2 [f,(.tok 3)])),(.imp h1 (.ok 1 [f,e])),(.imp h1 d1),(.imp h1 d1)] (.br (.or b1 (.not (.call 2 0 [f,(.tok 3)]))) (.leaf [i,f]) (.br h (.need [(.ok 3 [f,a]),(.le p e),(.lt e (.len (.fld f 0))),d1] (.need [(.ok 4 [g,r])] (.br (.le p a1) (.need [(.le p a1),(.lt a1 (.len t))] (.br (.lt (.lit (.i 499)) (.len g)) (.leaf [(.lit (.i 2)),f]) (.need [(.ok 5 [f])] (.need [(.ok 6 [q,g,(.put t a1 (.tok 3))])] (.br (.not (.eq f1 p)) (.leaf [f1,f]) (.br h (.need [d1,(.ok 7 [b,e,k])] (.leaf [p,(.call 7 1 [b,e,k])])) (.need [(.rng .i64 (.add v w))] (.br (.or (.lt (.fld b 5) (.add v w)) (.le e1 (.fld b 4))) (.leaf [i1,f]) (.need [(.rng .i64 (.add (.fld b 4) i))] (.need [(.le (.add (.len (.fld (.set b 4 (.add (.fld b 4) i)) 0)) w) x),(.ok 8 [v]),(.ok 8 [v])] (.need [(.ok 7 [m,o,(.call 8 0 [v])]),(.ok 8 [v])] (.leaf [p,(.call 7 1 [m,o,(.call 8 0 [v])])])))))))))))) (.need [(.le (.add (.len g) i) x)] (.need [(.le (.add (.len t) i) x)] (.br (.lt (.lit (.i 499)) (.len (.app g c1))) (.leaf [(.lit (.i 2)),f]) (.need [(.ok 5 [f])] (.need [(.ok 6 [q,(.app g c1),(.app t u)])] (.br (.not (.eq g1 p)) (.leaf [g1,f]) (.br h (.need [d1,(.ok 7 [c,e,j])] (.leaf [p,(.call 7 1 [c,e,j])])) (.need [(.rng .i64 (.add y w))] (.br (.or (.lt (.fld c 5) (.add y w)) (.le e1 (.fld c 4))) (.leaf [i1,f]) (.need [(.rng .i64 (.add (.fld c 4) i))] (.need [(.le (.add (.len (.fld (.set c 4 (.add (.fld c 4) i)) 0)) w) x),(.ok 8 [y]),(.ok 8 [y])] (.need [(.ok 7 [n,o,(.call 8 0 [y])]),(.ok 8 [y])] (.leaf [p,(.call 7 1 [n,o,(.call 8 0 [y])])])))))))))))))))) (.need [(.ok 4 [(.lit (.r [])),r])] (.br (.le p (.call 4 0 [(.lit (.r [])),r])) (.bad 13004) (.need [(.lit (.b .true))] (.need [(.lit (.b .true))] (.need [(.ok 5 [f])] (.need [(.ok 6 [q,c1,u])] (.br (.not (.eq (.call 6 1 [q,c1,u]) p)) (.leaf [(.call 6 1 [q,c1,u]),f]) (.br h (.need [d1,(.ok 7 [d,e,(.call 6 0 [q,c1,u])])] (.leaf [p,(.call 7 1 [d,e,(.call 6 0 [q,c1,u])])])) (.need [(.rng .i64 (.add z w))] (.br (.or (.lt (.fld d 5) (.add z w)) (.le e1 (.fld d 4))) (.leaf [i1,f]) (.need [(.rng .i64 (.add (.fld d 4) i))] (.need [(.le (.add (.len (.fld (.set d 4 (.add (.fld d 4) i)) 0)) w) x),(.ok 8 [z]),(.ok 8 [z])] (.need [(.ok 7 [l,o,(.call 8 0 [z])]),(.ok 8 [z])] (.leaf [p,(.call 7 1 [l,o,(.call 8 0 [z])])]))))))))))))))))))
theorem qwa(g0 g1 g2 g3 g4 g5 g6 g7 g8:GfZ):CdZ [(zp,g0),(zo,g1),(qg,g2),(y8,g3),(zn,g4),(zt,g5),(jm,g6),(q0l,g7),(q31,g8)] qy8 q2x Tryz.f18 q6v:=fun cd h=>by injection h with h;subst h;kernel_rfl
theorem qy4{g0 g1 g2 g3 g4 g5 g6 g7 g8 g:GfZ}(h0:FOk zp g0)(h1:FOk zo g1)(h2:FOk qg g2)(h3:FOk y8 g3)(h4:FOk zn g4)(h5:FOk zt g5)(h6:FOk jm g6)(h7:FOk q0l g7)(h8:FOk q31 g8)(h:HgZ q6v q2x [(zp,g0),(zo,g1),(qg,g2),(y8,g3),(zn,g4),(zt,g5),(jm,g6),(q0l,g7),(q31,g8)] g):FOk q2x g:=yd (qwa g0 g1 g2 g3 g4 g5 g6 g7 g8) (.cons h0 (.cons h1 (.cons h2 (.cons h3 (.cons h4 (.cons h5 (.cons h6 (.cons h7 (.cons h8 .nil))))))))) rfl rfl qrd (by decide) h
def q34:Ct:=⟨19,[.ref (.st 26) true,.val (.st 28),.val (.str)],[(.int .i64,false)],[],none,[],[]⟩
theorem qqy:EnZ q34:=fun _ _=>by kernel_rfl
def qxw:Ann:=⟨[0,1,2,4,6,7,8,9,10,11,12,13,14,16,31,44,52,82],[]⟩
def qbg:Tree:=
 let e:X:=.lit (.i 0)
 let r:X:=.tok 0
 let b:X:=.call 1 0 [r,(.tok 1)]
 let d:X:=.call 1 1 [r,(.tok 1)]
 let m:X:=.add (.fld (.call 0 0 [r,(.tok 1)]) 1) (.lit (.i 2))
 let q:X:=.call 4 0 [r]
 let a:X:=.call 2 0 [b,(.tok 2)]
 let c:X:=.add a (.lit (.i 1))
 let f:X:=.le (.add e (.len (.cut b e a))) (.lit (.i 8796093021952))
 let n:X:=.le e a
 let o:X:=.le a (.len d)
 let p:X:=.le a (.len b)
 let s:X:=.le (.add e (.len (.cut d e a))) (.lit (.i 8796093021952))
 let g:X:=.le (.add (.len (.app (.row []) (.cut b e a))) (.len (.cut b c (.len b)))) (.lit (.i 8796093021952))
 let h:X:=.app (.app (.row []) (.cut b e a)) (.cut b c (.len b))
 let i:X:=.app (.app (.row []) (.cut d e a)) (.cut d c (.len d))
 let j:X:=.le e c
 let k:X:=.le c (.len d)
 let l:X:=.le c (.len b)
 (.need [(.ok 0 [r,(.tok 1)]),(.ok 0 [r,(.tok 1)])] (.br (.or (.not (.call 0 1 [r,(.tok 1)])) (.lt (.lit (.i 100)) (.slen (.tok 2)))) (.leaf [(.lit (.i 1)),r]) (.need [(.ok 1 [r,(.tok 1)])] (.need [(.ok 2 [b,(.tok 2)])] (.br (.lt a e) (.leaf [e,r]) (.need [(.ok 3 [r,m]),(.rng .i64 m)] (.br (.not (.call 3 0 [r,m])) (.leaf [(.lit (.i 1)),r]) (.need [(.ok 4 [r])] (.need [(.ok 5 [q,h,i]),(.ok 5 [q,h,i]),(.le (.add (.len (.app (.row []) (.cut d e a))) (.len (.cut d c (.len d)))) (.lit (.i 8796093021952))),s,j,k,s,g,g,g,g,j,l,j,k,j,k,j,k,n,o,g,g,g,g,f,f,f,f,f,f,j,l,f,j,l,f,j,l,f,j,l,f,j,k,j,k,j,k,j,k,j,k,n,o,j,k,j,k,n,o,j,k,n,o,g,f,f,f,f,f,n,p,n,p,n,p,n,p,j,l,j,l,j,l,j,l,n,p,j,l,n,p,j,l,n,p,j,l,j,l,j,l,n,p,j,l,n,p,n,o,n,o,n,o,j,l,n,o,j,l,n,p,j,k,j,k,j,k,j,k,j,k,n,o,j,k,n,o,j,k,n,o,j,k,n,o,j,k,n,o,j,k,n,o,j,l,f,n,p,j,l,n,p,j,l,n,p,n,o,j,l,n,p,j,k,n,o,j,l,n,p,j,k,n,o,j,l,n,p,(.rng .i64 c),(.rng .i64 c)] (.br (.not (.eq (.call 5 1 [q,h,i]) e)) (.leaf [(.call 5 1 [q,h,i]),r]) (.need [(.rng .i64 m),(.ok 6 [(.call 5 2 [q,h,i]),m,(.call 5 0 [q,h,i])])] (.leaf [e,(.call 6 1 [(.call 5 2 [q,h,i]),m,(.call 5 0 [q,h,i])])]))))))))))))
theorem qtt(g0 g1 g2 g3 g4 g5 g6:GfZ):CdZ [(zp,g0),(q26,g1),(zn,g2),(zo,g3),(zt,g4),(jm,g5),(q0l,g6)] qxw q34 Tryz.f19 qbg:=fun cd h=>by injection h with h;subst h;kernel_rfl
theorem qxe{g0 g1 g2 g3 g4 g5 g6 g:GfZ}(h0:FOk zp g0)(h1:FOk q26 g1)(h2:FOk zn g2)(h3:FOk zo g3)(h4:FOk zt g4)(h5:FOk jm g5)(h6:FOk q0l g6)(h:HgZ qbg q34 [(zp,g0),(q26,g1),(zn,g2),(zo,g3),(zt,g4),(jm,g5),(q0l,g6)] g):FOk q34 g:=yd (qtt g0 g1 g2 g3 g4 g5 g6) (.cons h0 (.cons h1 (.cons h2 (.cons h3 (.cons h4 (.cons h5 (.cons h6 .nil))))))) rfl rfl qqy (by decide) h
def q2z:Ct:=⟨4,[.val (.st 26),.val (.st 28),.val (.str),.val (.st 28)],[(.bool,false)],[],none,[],[]⟩
theorem qfy:EnZ q2z:=fun _ _=>by kernel_rfl
def qje:Ann:=⟨[0,1,2,3,4,5,7,8,9,10,11,12,13,14,15,16,19,34],[]⟩
def q5a:Tree:=
 let c:X:=.call 2 0 [(.tok 0)]
 let d:X:=.ok 2 [(.tok 0)]
 let e:X:=.tok 1
 let f:X:=.tok 2
 let h:X:=.tok 3
 let i:X:=.call 1 0 []
 let a:X:=.and (.and (.eq (.call 3 0 [c,e,f,h]) (.call 6 0 [c,e,f,h])) (.call 8 0 [(.call 3 1 [c,e,f,h]),(.call 6 1 [c,e,f,h])])) (.eq (.call 4 0 [c,e,f]) (.call 7 0 [c,e,f]))
 let b:X:=.and (.and a (.call 8 0 [(.call 4 1 [c,e,f]),(.call 7 1 [c,e,f])])) (.eq (.call 9 0 [e,f,h]) (.lit (.i 1)))
 let g:X:=.and b (.eq (.call 10 0 [e,f]) (.lit (.i 1)))
 (.need [(.ok 0 [(.tok 0)])] (.br (.not (.call 0 0 [(.tok 0)])) (.need [(.ok 1 [])] (.leaf [i])) (.need [d,d,d,d,d] (.need [(.ok 4 [c,e,f]),(.ok 3 [c,e,f,h])] (.need [(.ok 5 [(.tok 0)])] (.br (.not (.call 5 0 [(.tok 0)])) (.need [(.ok 1 [])] (.leaf [i])) (.need [d,d,d,d,d] (.need [(.ok 7 [c,e,f]),(.ok 6 [c,e,f,h])] (.need [(.imp (.eq (.call 3 0 [c,e,f,h]) (.call 6 0 [c,e,f,h])) (.ok 8 [(.call 3 1 [c,e,f,h]),(.call 6 1 [c,e,f,h])])),(.imp a (.ok 8 [(.call 4 1 [c,e,f]),(.call 7 1 [c,e,f])])),(.imp (.and a (.call 8 0 [(.call 4 1 [c,e,f]),(.call 7 1 [c,e,f])])) (.ok 9 [e,f,h])),(.imp b (.ok 10 [e,f])),(.imp g (.ok 1 []))] (.leaf [(.and g i)]))))))))))
theorem qhu(g0 g1 g2 g3 g4 g5 g6 g7 g8 g9 g10:GfZ):CdZ [(q1h,g0),(q3d,g1),(zt,g2),(q01,g3),(q1y,g4),(q1b,g5),(q2x,g6),(q34,g7),(q21,g8),(q20,g9),(q27,g10)] qje q2z Tryz.f4 q5a:=fun cd h=>by injection h with h;subst h;kernel_rfl
theorem qip{g0 g1 g2 g3 g4 g5 g6 g7 g8 g9 g10 g:GfZ}(h0:FOk q1h g0)(h1:FOk q3d g1)(h2:FOk zt g2)(h3:FOk q01 g3)(h4:FOk q1y g4)(h5:FOk q1b g5)(h6:FOk q2x g6)(h7:FOk q34 g7)(h8:FOk q21 g8)(h9:FOk q20 g9)(h10:FOk q27 g10)(h:HgZ q5a q2z [(q1h,g0),(q3d,g1),(zt,g2),(q01,g3),(q1y,g4),(q1b,g5),(q2x,g6),(q34,g7),(q21,g8),(q20,g9),(q27,g10)] g):FOk q2z g:=yd (qhu g0 g1 g2 g3 g4 g5 g6 g7 g8 g9 g10) (.cons h0 (.cons h1 (.cons h2 (.cons h3 (.cons h4 (.cons h5 (.cons h6 (.cons h7 (.cons h8 (.cons h9 (.cons h10 .nil))))))))))) rfl rfl qfy (by decide) h
theorem zol{s:So}(hv:qw s=true){x:Ce}(h:vcR s x=true)(h5:x.t=5):q40 s (x.n+2)=qb0 s x.n:=by
 obtain⟨a1,a2,a3,a4⟩:=q7s hv h h5
 have hc:=qds hv a1
 unfold q5t at hc
 rw[a2,if_neg (by omega)] at hc
 simp only[gnB,uC,uN,decide_eq_false_iff_not,gnD] at hc
 obtain⟨-,hg⟩:=hc.2.2.resolve_left (fun q=>q h5)
 simp only[qcs,gnB,gnD,uN,decide_eq_false_iff_not] at hg
 have h6:=hg.2.2.2.2
 rw[q1l a3] at h6
 have hn:=(ql.1 a1).1
 have hb:behind s (x.n+2)=true:=by
  have e:x.n+2 - 2=x.n:=by omega
  simp only[behind,e,a2,h5,gnB,gnD]
  exact⟨by omega,trivial⟩
 unfold q40 qb0
 rw[hb]
 generalize cellAt s (x.n+2)=y at *
 obtain⟨t,n⟩:=y
 simp only at h6⊢
 rcases zhc a4 with q|q|q|q|q<;>simp only at q<;>subst q
 ·simp
 ·simp
 ·simp
 ·simp
 ·exact(h6.2 rfl).elim
theorem z2n:FOk q31 fun ds=>match ds with
  |[a]=>some [eC ⟨5,a.int⟩]
  |_=>none:=qyo fun ds outs hw hg=>by
 obtain⟨d,r,rfl,hd,rfl⟩:=hw
 obtain⟨n,rfl,hn⟩:=wfI hd
 simp only[uD] at hg
 subst hg
 simp only[qb4,gnZ]
 rfl
def rpA(s:So)(v:Ce)(nm:ByteArray)(val:Ce):Int×So:=if apB s v nm val then(1,s) else if 499<(apL (jx s (zw s v).1) nm val).length then(2,s) else rpC s (zw s v).1 (apL (jx s (zw s v).1) nm val)
def zdc:List D→Option (List D)
 |[s,v,nm,val]=>if qw (dS s)&&(decide ((dS s).cs.length≤400000)&&(decide ((dS s).ys.length≤400000)&&(decide ((dS s).tr.length≤400000)&&decide ((dS s).wk.length≤400000)))) then some [.i (rpA (dS s) (dC v) nm.str (dC val)).1,eS (rpA (dS s) (dC v) nm.str (dC val)).2] else none
 |_=>none
theorem zqk{s:So}(hv:qw s=true)(i:Nat):(s.ys.getD i default).name.size≤100:=by
 by_cases h:i<s.ys.length
 ·have h1:=z3k hv
  simp only[q91,gnB] at h1
  have h2:=List.all_eq_true.1 h1.2 i (List.mem_range.2 h)
  simp only[qep,okY,gnB,gnD] at h2
  omega
 ·rw[gnG,List.getElem?_eq_none (by omega)]
  exact Nat.zero_le _
theorem z0j{s:So}(hv:qw s=true):∀(k:Nat)(c:Ce)(met:List ByteArray),∀a∈q6r s k c met,a.name.size≤100
 |0,_,_,a,h=>by cases h
 | k + 1, c, met, a, h => by
  unfold q6r at h
  split at h
  ·cases h
  ·rename_i nm tl vl hn
   rw[uB] at h
   rcases h with h|h
   ·split at h
    ·cases h
    ·obtain rfl:=uK.1 h
     unfold q59 at hn
     split at hn
     ·split at hn
      ·split at hn
       ·simp only[gnS] at hn
        rw[←hn.1]
        exact zqk hv _
       ·cases hn
      ·cases hn
     ·cases hn
   ·exact z0j hv k tl _ a h
theorem zbh{s:So}(hv:qw s=true)(d:Ce):∀a∈jx s d,a.name.size≤100:=by
 unfold jx
 split
 ·exact z0j hv _ _ _
 ·intro a h
  cases h
variable{nm:ByteArray}
theorem zny{s:So}(hv:qw s=true)(d:Ce)(hn:nm.size≤100)(val:Ce):∀a∈apL (jx s d) nm val,a.name.size≤100:=by
 have h:=zbh hv d
 intro a ha
 unfold apL at ha
 split at ha
 ·rename_i hp
  rcases List.mem_or_eq_of_mem_set ha with h1|rfl
  ·exact h a h1
  ·obtain⟨i1,i2⟩:=qh6 (l:=jx s d) (nm:=nm) (by omega)
   exact h ((jx s d).getD (q1s (jx s d) nm).toNat default) (q5p (l:=jx s d) (i:=(q1s (jx s d) nm).toNat) (by omega))
 ·rw[uB] at ha
  rcases ha with h1|h1
  ·exact h a h1
  ·obtain rfl:=uK.1 h1
   exact hn
theorem zpa:∀l:List At,zA (q2h l) (q3v l)=l
 |[]=>rfl
 |x::l=>by
  have ih:=zpa l
  simp only[zA,q2h,q3v,q35,List.map_cons,List.map_map] at ih⊢
  rw[List.zipWith_cons_cons,ih]
  rfl
theorem zlj{l:List At}{i:Nat}(h:i<l.length)(c:Ce):q2h (l.set i ⟨(l.getD i default).name,c⟩)=q2h l:=by
 unfold q2h
 congr 2
 rw[uU]
 apply List.ext_getElem?
 intro j
 rw[List.getElem?_set]
 split
 ·rename_i e
  subst e
  simp[h,gnG]
 ·rfl
theorem zl6(l:List At)(i:Nat)(x:At):D.r ((q3v l).rs.set i (eC x.val))=q3v (l.set i x):=by
 simp[q3v,q35,uU]
theorem z6g{s:So}(hv:qw s=true){L:List At}(hl:L.length≤499)(hn:∀a∈L,a.name.size≤100):z7t [eS s,q2h L,q3v L]=some [eC (qu s L).1,.i (qu s L).2.1,eS (qu s L).2.2]:=by
 have h1:dVs (.r ((vsA L).map eV))=vsA L:=q0a _
 unfold qu
 simp only[z50 hv]
 simp only[z7t,zpa]
 rw[if_pos ⟨by simp[q2h,q3v,q35],by simpa[q2h,q35] using hl,hn⟩]
 simp only[qsz,qy,ju,h1,if_pos hv,Option.map_some,List.getD_cons_zero,List.getD_cons_succ]
theorem qlq{s:So}(hr:s.tr.length<5864062014634)(a:Int)(c:Ce):qr0 vcR q40 [eS s,.i a,eC c]=some [.i (z2c s a c).1,eS (z2c s a c).2]:=by
 unfold z2c
 simp only[qr0,qy,yt,yh,decide_eq_true hr,if_true]
 split<;>rfl
set_option maxHeartbeats 2000000 in
theorem z2g:FOk q2x zdc:=qy4 q68 q75 ji q9z q71 q6t qg2 ql4 z2n fun ds outs hw hg=>by
 obtain⟨d,r,rfl,hd,e,r',rfl,he,f,r2,rfl,hf,q,r3,rfl,hq,rfl⟩:=hw
 obtain⟨s,rfl,hs⟩:=wfS hd
 obtain⟨v,rfl,hv⟩:=wfC he
 obtain⟨nm,rfl,hn⟩:=hf.str
 obtain⟨val,rfl,hval⟩:=wfC hq
 simp only[zdc,qy,yt,q1z,uE,uD,gnB,gnD] at hg
 obtain⟨⟨hvr,l1,l2,l3,l4⟩,rfl⟩:=hg
 have hV:qp2 [eS s,eC v]=some [eC (jt s v),.b (vcR s v&&(decide ((jt s v).t=0)||decide ((jt s v).t=5)))]:=by
  simp only[qp2,qy,yt,if_pos hvr]
 have hz:=varz hvr v
 have hvz:=ziw hvr val
 generalize hb:(vcR s v&&(decide ((jt s v).t=0)||decide ((jt s v).t=5)))=b at hV hz
 have hCl:qcm [eS s]=some [eS s]:=by
  simp only[qcm,qy,if_pos (z3r hs)]
 cases b with
 | false =>
  have hA:rpA s v nm val=(1,s):=by
   unfold rpA
   rw[if_pos (by unfold apB;rw[hz];rfl)]
  rw[hA]
  rw[q6v,qj]
  refine⟨by simp only[gnZ,hV],?_⟩
  rw[qj]
  refine⟨by simp only[gnZ,hV,q65];simp,?_⟩
  rw[zd]
  refine⟨fun hx=>?_,fun hx=>?_⟩
  ·simp only[gnZ,hV,q65]
  ·simp only[gnZ,hV,q65] at hx
   simp at hx
 | true =>
  have hz:zw s v=(jt s v,true):=hz
  simp only[gnB,uC,gnD] at hb
  obtain⟨hvc,ht⟩:=hb
  have hd:=qa5 hvr hvc
  have hAB:apB s v nm val=((decide ((jt s v).t=5)&& !qb0 s (jt s v).n)||decide (100<(nm.size:Int))|| !vcP s val):=by
   unfold apB
   rw[hz]
   simp
  generalize hdd:jt s v=dd at *
  have hin:dd.t=5→inS s (dd.n+2)=true:=fun h5=>(q7s hvr hd h5).2.2.1
  have hS:dd.t=5→q6q inS q40 [eS s,.i (dd.n+2)]=some [.b (qb0 s dd.n)]:=fun h5=>by
   simp only[q6q,qy,yh,if_pos (hin h5),zol hvr hd h5]
  have hsl:=qg1 hs
  unfold i64 at hsl
  have hrn:dd.t=5→yw .i64 (dd.n+2)=true:=fun h5=>by
   have:=ql.1 (hin h5)
   simp[yw]
   omega
  have hBad:(!true||decide (dd.t=5)&& !((((q6q inS q40 [eS s,.i (dd.n+2)]).getD []).getD 0 D.u).tt)||decide (100<(nm.size:Int))|| !vcR s val)=apB s v nm val:=by
   rw[hAB,hvz]
   by_cases h5:dd.t=5
   ·rw[hS h5]
    simp[h5,q5i]
   ·simp[h5]
  rw[q6v,qj]
  refine⟨by simp only[gnZ,hV],?_⟩
  rw[qj]
  refine⟨?_,?_⟩
  ·simp only[gnZ,hV,q65]
   by_cases h5:dd.t=5
   ·have hr:=hrn h5
    rw[hS h5]
    simp[h5,hr]
   ·simp[h5]
  rw[zd]
  refine⟨fun hx=>?_,fun hx=>?_⟩
  ·simp only[gnZ,hV,q65] at hx⊢
   rw[hBad] at hx
   unfold rpA
   rw[if_pos hx]
  ·simp only[gnZ,hV,q65] at hx
   rw[hBad] at hx
   have hA:rpA s v nm val=if 499<(apL (jx s dd) nm val).length then(2,s) else rpC s dd (apL (jx s dd) nm val):=by
    unfold rpA
    rw[if_neg (by rw[hx];decide),hz]
   rw[hA]
   have hn100:nm.size≤100:=by
    rw[hAB] at hx
    simp only[uI,decide_eq_false_iff_not] at hx
    omega
   have hfew:=zny hvr dd hn100 val
   have hlit:qz5 s:=⟨l1,l2,l3,l4⟩
   have hol:=quf s dd
   have hStL:∀L:List At,L.length≤499→(∀a∈L,a.name.size≤100)→z7t [eS s,q2h L,q3v L]=some [eC (qu s L).1,.i (qu s L).2.1,eS (qu s L).2.2]:=fun L h1 h2=>z6g hvr h1 h2
   have hRoom:∀L:List At,(qu s L).2.2.tr.length<5864062014634:=fun L=>by
    have:=qkl hlit (qm8 hlit L).2
    simp only[qa4,gnB,gnD] at this
    exact this.1
   have hzl:(zA (.r []) (.r []))=[]:=rfl
   rw[zd]
   refine⟨fun h5=>?_,fun h5=>?_⟩
   ·simp only[gnZ,hV] at h5
    have hi2:=ql.1 (hin h5)
    have hget:(D.r (s.cs.map eC)).get (dd.n+2)=eC (cellAt s (dd.n+2)):=z0b eC hi2.1 hi2.2
    have hol':jx s dd=yx s (cellAt s (dd.n+2)):=by
     unfold jx
     rw[if_pos h5]
    have hAt:z08 [eS s,eC (cellAt s (dd.n+2))]=some [q2h (jx s dd),q3v (jx s dd)]:=by
     simp only[z08,qy,yt,hvr,(q7s hvr hd h5).2.2.2,Bool.and_self,if_true,hol']
    have hPo:qle [q2h (jx s dd),.s nm]=some [.i (q1s (jx s dd) nm)]:=by
     simp only[qle,q2h,q35,qft,q1z,zfo]
    generalize jx s dd=l at *
    have hnl:(q2h l).rs.length=l.length:=by simp[q2h,q35]
    have hvl:(q3v l).rs.length=l.length:=by simp[q3v,q35]
    rw[qj]
    refine⟨by simp only[gnZ,hV,hget,hAt];exact⟨by omega,by omega,by omega,by omega⟩,?_⟩
    rw[qj]
    refine⟨by simp only[gnZ,hV,hget,hAt,hPo],?_⟩
    rw[zd]
    refine⟨fun hp=>?_,fun hp=>?_⟩
    ·simp only[gnZ,hV,hget,hAt,hPo] at hp
     obtain⟨i1,i2⟩:=qh6 (l:=l) (nm:=nm) (by omega)
     have eM:apL l nm val=l.set (q1s l nm).toNat ⟨(l.getD (q1s l nm).toNat default).name,val⟩:=by
      unfold apL
      rw[if_pos i1]
     have eV:D.r ((q3v l).rs.set (q1s l nm).toNat (eC val))=q3v (apL l nm val):=by
      rw[eM]
      exact zl6 l _ ⟨_,val⟩
     have eN:q2h (apL l nm val)=q2h l:=by
      rw[eM]
      exact zlj (by omega) val
     have eL:(apL l nm val).length=l.length:=by
      rw[eM,List.length_set]
     generalize apL l nm val=M at *
     rw[qj]
     refine⟨by simp only[gnZ,hV,hget,hAt,hPo,hvl];exact⟨i1,i2⟩,?_⟩
     rw[zd]
     refine⟨fun hlen=>?_,fun hlen=>?_⟩
     ·simp only[gnZ,hV,hget,hAt,hPo,hnl] at hlen⊢
      rw[if_pos (by omega)]
     ·simp only[gnZ,hV,hget,hAt,hPo,hnl] at hlen
      have hlen:M.length≤499:=by omega
      rw[if_neg (by omega)]
      have hst:=hStL M hlen hfew
      rw[eN] at hst
      rw[qj]
      refine⟨by simp only[gnZ,hV,hget,hAt,hPo,hCl],?_⟩
      rw[qj]
      refine⟨by simp only[gnZ,hV,hget,hAt,hPo,hCl,eV,hst],?_⟩
      rw[zd]
      refine⟨fun he=>?_,fun he=>?_⟩
      ·simp only[gnZ,hV,hget,hAt,hPo,hCl,eV,hst] at he⊢
       have he:¬(qu s M).2.1=0:=by simpa using he
       unfold rpC
       rw[if_neg he]
      ·simp only[gnZ,hV,hget,hAt,hPo,hCl,eV,hst] at he
       have he:(qu s M).2.1=0:=by simpa using he
       rw[zd]
       refine⟨fun _=>?_,fun h5'=>?_⟩
       ·have hse:=qlq (hRoom M) (dd.n+2) (qu s M).1
        rw[qj]
        refine⟨by simp only[gnZ,hV,hget,hAt,hPo,hCl,eV,hst,hse];exact⟨by omega,by omega⟩,?_⟩
        unfold rpC
        rw[if_pos he,if_pos h5]
        simp only[gnZ,hV,hget,hAt,hPo,hCl,eV,hst,hse]
       ·simp only[gnZ,hV] at h5'
        exact absurd h5 h5'
    ·simp only[gnZ,hV,hget,hAt,hPo] at hp
     have eM:apL l nm val=l++[⟨nm,val⟩]:=by
      unfold apL
      rw[if_neg (by omega)]
     have eN:D.r ((q2h l).rs++[.s nm])=q2h (apL l nm val):=by
      rw[eM]
      exact zfz l ⟨nm,val⟩
     have eV:D.r ((q3v l).rs++[eC val])=q3v (apL l nm val):=by
      rw[eM]
      exact zh9 l ⟨nm,val⟩
     have eL:(q2h (apL l nm val)).rs.length=(apL l nm val).length:=by simp[q2h,q35]
     generalize apL l nm val=M at *
     rw[qj]
     refine⟨by simp only[gnZ,hV,hget,hAt,hPo,hnl];omega,?_⟩
     rw[qj]
     refine⟨by simp only[gnZ,hV,hget,hAt,hPo,hvl];omega,?_⟩
     rw[zd]
     refine⟨fun hlen=>?_,fun hlen=>?_⟩
     ·simp only[gnZ,hV,hget,hAt,hPo,eN,eL] at hlen⊢
      rw[if_pos (by omega)]
     ·simp only[gnZ,hV,hget,hAt,hPo,eN,eL] at hlen
      have hlen:M.length≤499:=by omega
      rw[if_neg (by omega)]
      have hst:=hStL M hlen hfew
      rw[qj]
      refine⟨by simp only[gnZ,hV,hget,hAt,hPo,hCl],?_⟩
      rw[qj]
      refine⟨by simp only[gnZ,hV,hget,hAt,hPo,hCl,eN,eV,hst],?_⟩
      rw[zd]
      refine⟨fun he=>?_,fun he=>?_⟩
      ·simp only[gnZ,hV,hget,hAt,hPo,hCl,eN,eV,hst] at he⊢
       have he:¬(qu s M).2.1=0:=by simpa using he
       unfold rpC
       rw[if_neg he]
      ·simp only[gnZ,hV,hget,hAt,hPo,hCl,eN,eV,hst] at he
       have he:(qu s M).2.1=0:=by simpa using he
       rw[zd]
       refine⟨fun _=>?_,fun h5'=>?_⟩
       ·have hse:=qlq (hRoom M) (dd.n+2) (qu s M).1
        rw[qj]
        refine⟨by simp only[gnZ,hV,hget,hAt,hPo,hCl,eN,eV,hst,hse];exact⟨by omega,by omega⟩,?_⟩
        unfold rpC
        rw[if_pos he,if_pos h5]
        simp only[gnZ,hV,hget,hAt,hPo,hCl,eN,eV,hst,hse]
       ·simp only[gnZ,hV] at h5'
        exact absurd h5 h5'
   ·simp only[gnZ,hV] at h5
    have h0:dd.t=0:=by omega
    have hol':jx s dd=[]:=by
     unfold jx
     rw[if_neg h5]
    rw[hol'] at hfew⊢
    have hPo:qle [.r [],.s nm]=some [.i (-1)]:=rfl
    have eM:apL [] nm val=[⟨nm,val⟩]:=by
     unfold apL
     rw[if_neg (by show ¬(0:Int)≤-1;decide)]
     rfl
    have eN:D.r [D.s nm]=q2h (apL [] nm val):=by
     rw[eM]
     rfl
    have eV:D.r [eC val]=q3v (apL [] nm val):=by
     rw[eM]
     rfl
    have eL:(apL [] nm val).length=1:=by
     rw[eM]
     rfl
    generalize apL [] nm val=M at *
    rw[if_neg (by omega)]
    have hst:=hStL M (by omega) hfew
    obtain⟨⟨w1,w2,w3,w4,w5,w6⟩,w7⟩:=(qm8 hlit M).2
    have hrm:=hRoom M
    have hsr:=hs.ser
    unfold i64 at hsr
    rw[qj]
    refine⟨by simp only[gnZ,hV,hPo],?_⟩
    rw[zd]
    refine⟨fun hp=>?_,fun _=>?_⟩
    ·simp only[gnZ,hV,hPo] at hp
     exact absurd hp (by decide)
    rw[qj]
    refine⟨by simp only[gnZ],?_⟩
    rw[qj]
    refine⟨by simp only[gnZ],?_⟩
    rw[qj]
    refine⟨by simp only[gnZ,hCl],?_⟩
    rw[qj]
    refine⟨by simp only[gnZ,hV,hCl,hPo,eN,eV,hst],?_⟩
    rw[zd]
    refine⟨fun he=>?_,fun he=>?_⟩
    ·simp only[gnZ,hV,hCl,hPo,eN,eV,hst] at he⊢
     have he:¬(qu s M).2.1=0:=by simpa using he
     unfold rpC
     rw[if_neg he]
    ·simp only[gnZ,hV,hCl,hPo,eN,eV,hst] at he
     have he:(qu s M).2.1=0:=by simpa using he
     rw[zd]
     refine⟨fun h5'=>?_,fun _=>?_⟩
     ·simp only[gnZ,hV] at h5'
      exact absurd h5' h5
     ·rw[qj]
      refine⟨by simp only[gnZ,hV,hCl,hPo,eN,eV,hst];exact⟨by omega,by omega⟩,?_⟩
      rw[zd]
      refine⟨fun h6=>?_,fun h6=>?_⟩
      ·simp only[gnZ,hV,hCl,hPo,eN,eV,hst,uC,gnD] at h6⊢
       unfold rpC
       rw[if_pos he,if_neg h5,if_pos h6]
      ·simp only[gnZ,hV,hCl,hPo,eN,eV,hst,uI,decide_eq_false_iff_not] at h6
       have hse:=qlq (s:=apN (qu s M).2.2 (qu s M).1) hrm dd.n ⟨5,((qu s M).2.2.cs.length:Nat)⟩
       have hap:=zau (qu s M).2.2 (qu s M).1
       rw[qj]
       refine⟨by simp only[gnZ,hV,hCl,hPo,eN,eV,hst];exact⟨by omega,by omega⟩,?_⟩
       rw[qj]
       refine⟨by simp only[gnZ,hV,hCl,hPo,eN,eV,hst,qwd];omega,?_⟩
       rw[qj]
       refine⟨by simp only[gnZ,hV,hCl,hPo,eN,eV,hst,qwd,z5y,q3t,hap,hse],?_⟩
       simp only[gnZ,hV,hCl,hPo,eN,eV,hst,qwd,z5y,q3t,hap,hse]
       unfold rpC
       rw[if_pos he,if_neg h5,if_neg (by rintro(h|h);exact h6.1 h;exact h6.2 h)]
def rpD(s:So)(d:Ce)(l:List At):Int×So:=if(qu s l).2.1=0 then(0,(z2c (qu s l).2.2 (d.n+2) (qu s l).1).2) else((qu s l).2.1,s)
theorem zvh{s:So}{d:Ce}{l:List At}(hv:qw s=true)(hd:vcR s d=true)(h5:d.t=5)(hst:qb0 s d.n=true):((dlC s d l).1,qod (dlC s d l).1 (dlC s d l).2 s)=rpD s d l:=by
 unfold dlC rpD
 by_cases he:(qu s l).2.1=0
 ·rw[if_pos he,if_pos he]
  have h1:=zdg (l:=l) hv he hd h5 hst
  obtain⟨all,P⟩:=z71 hv he
  have h2:q1q vcR q40 (qu s l).2.2 (d.n+2) (qu s l).1=true:=by rw[zbl P.valid];exact h1
  unfold q9r z2c
  rw[if_pos h1,if_pos h2]
  rfl
 ·rw[if_neg he,if_neg he]
  simp only
  rw[z6q hv he,z15]
def rdA(s:So)(v:Ce)(nm:ByteArray):Int×So:=if dlB s v nm then(1,s) else if q1s (jx s (zw s v).1) nm<0 then(0,s) else if qb0 s (zw s v).1.n then rpD s (zw s v).1 (dlL (jx s (zw s v).1) nm) else(1,s)
def zc4:List D→Option (List D)
 |[s,v,nm]=>if qw (dS s)&&(decide ((dS s).cs.length≤499)&&(decide ((dS s).ys.length≤400000)&&(decide ((dS s).tr.length≤400000)&&decide ((dS s).wk.length≤400000)))) then some [.i (rdA (dS s) (dC v) nm.str).1,eS (rdA (dS s) (dC v) nm.str).2] else none
 |_=>none
theorem zhd{s:So}{d:Ce}(h:¬q1s (jx s d) nm<0):d.t=5:=by
 by_cases h5:d.t=5
 ·exact h5
 ·exfalso
  apply h
  unfold jx
  rw[if_neg h5]
  show(-1:Int)<0
  decide
theorem zmo{l:List At}(h:∀a∈l,a.name.size≤100):∀a∈dlL l nm,a.name.size≤100:=by
 intro a ha
 unfold dlL at ha
 rcases uB.1 ha with h1|h1
 ·exact h a (List.mem_of_mem_take h1)
 ·exact h a (List.mem_of_mem_drop h1)
set_option maxHeartbeats 2000000 in
theorem z43:FOk q34 zc4:=qxe q68 qzj q71 q75 q6t qg2 ql4 fun ds outs hw hg=>by
 obtain⟨d,r,rfl,hd,e,r',rfl,he,f,r2,rfl,hf,rfl⟩:=hw
 obtain⟨s,rfl,hs⟩:=wfS hd
 obtain⟨v,rfl,hv⟩:=wfC he
 obtain⟨nm,rfl,hn⟩:=hf.str
 simp only[zc4,qy,yt,q1z,uE,uD,gnB,gnD] at hg
 obtain⟨⟨hvr,l1,l2,l3,l4⟩,rfl⟩:=hg
 have hV:qp2 [eS s,eC v]=some [eC (jt s v),.b (vcR s v&&(decide ((jt s v).t=0)||decide ((jt s v).t=5)))]:=by
  simp only[qp2,qy,yt,if_pos hvr]
 have hM:zdk [eS s,eC v]=some [q2h (z9l s v),q3v (z9l s v)]:=by
  simp only[zdk,qy,yt,if_pos hvr]
 have hz:=varz hvr v
 generalize hb:(vcR s v&&(decide ((jt s v).t=0)||decide ((jt s v).t=5)))=b at hV hz
 have hCl:qcm [eS s]=some [eS s]:=by
  simp only[qcm,qy,if_pos (z3r hs)]
 have hmin:z9l s v=if b then jx s (zw s v).1 else[]:=by
  unfold z9l
  rw[hz]
  cases b<;>rfl
 have hB:dlB s v nm=(!b||decide (100<(nm.size:Int))):=by
  unfold dlB
  rw[hz]
  cases b<;>rfl
 rw[qbg,qj]
 refine⟨by simp only[gnZ,hV],?_⟩
 rw[zd]
 refine⟨fun hx=>?_,fun hx=>?_⟩
 ·simp only[gnZ,hV] at hx⊢
  unfold rdA
  rw[if_pos (by rw[hB];exact hx)]
 ·simp only[gnZ,hV] at hx
  have hnb:¬dlB s v nm=true:=by rw[hB,hx];decide
  have hbt:b=true:=by
   cases b with
   |true=>rfl
   |false=>simp at hx
  subst hbt
  have hz:zw s v=(jt s v,true):=hz
  simp only[gnB,uC,gnD] at hb
  obtain⟨hvc,-⟩:=hb
  have hd:=qa5 hvr hvc
  have hA:rdA s v nm=if q1s (jx s (jt s v)) nm<0 then(0,s) else if qb0 s (jt s v).n then rpD s (jt s v) (dlL (jx s (jt s v)) nm) else(1,s):=by
   unfold rdA
   rw[if_neg hnb,hz]
  rw[hA]
  rw[if_pos rfl,hz] at hmin
  simp only at hmin
  rw[hmin] at hM
  have hfew:=zbh hvr (jt s v)
  have hol:=quf s (jt s v)
  have h5:¬q1s (jx s (jt s v)) nm<0→(jt s v).t=5:=zhd
  have hlit:qz5 s:=⟨by omega,l2,l3,l4⟩
  generalize jt s v=dd at *
  have hPo:qle [q2h (jx s dd),.s nm]=some [.i (q1s (jx s dd) nm)]:=by
   simp only[qle,q2h,q35,qft,q1z,zfo]
  generalize jx s dd=l at *
  have hnl:(q2h l).rs.length=l.length:=by simp[q2h,q35]
  have hvl:(q3v l).rs.length=l.length:=by simp[q3v,q35]
  rw[qj]
  refine⟨by simp only[gnZ,hV,hM],?_⟩
  rw[qj]
  refine⟨by simp only[gnZ,hV,hM,hPo],?_⟩
  rw[zd]
  refine⟨fun hp=>?_,fun hp=>?_⟩
  ·simp only[gnZ,hV,hM,hPo] at hp⊢
   rw[if_pos hp]
  ·simp only[gnZ,hV,hM,hPo] at hp
   have h5:=h5 (by omega)
   obtain⟨i1,i2⟩:=qh6 (l:=l) (nm:=nm) (by omega)
   have hi2:=(q7s hvr hd h5).2.2.1
   have hS:q6q inS q40 [eS s,.i (dd.n+2)]=some [.b (qb0 s dd.n)]:=by
    simp only[q6q,qy,yh,if_pos hi2,zol hvr hd h5]
   have hin:=ql.1 hi2
   rw[if_neg (by omega)]
   rw[qj]
   refine⟨by simp only[gnZ,hV,hS];exact⟨by omega,by omega⟩,?_⟩
   rw[zd]
   refine⟨fun hy=>?_,fun hy=>?_⟩
   ·simp only[gnZ,hV,hS] at hy⊢
    rw[if_neg (by simpa using hy)]
   ·simp only[gnZ,hV,hS] at hy
    have hy:qb0 s dd.n=true:=by simpa using hy
    rw[if_pos hy]
    rw[qj]
    refine⟨by simp only[gnZ,hCl],?_⟩
    have e1:(q1s l nm+1).toNat=(q1s l nm).toNat+1:=by omega
    have e2:((l.length:Nat):Int).toNat=l.length:=by omega
    have eN:D.r (uG (Int.toNat 0) (uF (q1s l nm).toNat (q2h l).rs)++uG (q1s l nm+1).toNat (uF ((l.length:Nat):Int).toNat (q2h l).rs))=q2h (dlL l nm):=by
     rw[e1,e2,uH (l:=(q2h l).rs) (i:=l.length) (by omega)]
     simp[dlL,q2h,q35,uR,uT]
    have eV:D.r (uG (Int.toNat 0) (uF (q1s l nm).toNat (q3v l).rs)++uG (q1s l nm+1).toNat (uF ((l.length:Nat):Int).toNat (q3v l).rs))=q3v (dlL l nm):=by
     rw[e1,e2,uH (l:=(q3v l).rs) (i:=l.length) (by omega)]
     simp[dlL,q3v,q35,uR,uT]
    have hfL:=zmo (nm:=nm) hfew
    have hLL:(dlL l nm).length≤499:=by
     unfold dlL
     rw[uL,uO,uP]
     omega
    generalize dlL l nm=M at *
    have hst:=z6g hvr hLL hfL
    have hrm:=qkl hlit (qm8 hlit M).2
    simp only[qa4,gnB,gnD] at hrm
    have hse:=qlq hrm.1 (dd.n+2) (qu s M).1
    rw[qj]
    refine⟨?_,?_⟩
    ·simp only[gnZ,hV,hM,hPo,hCl,hnl,hvl,eN,eV,hst,uO,uP,uL]
     repeat' apply And.intro
     all_goals omega
    rw[zd]
    refine⟨fun he=>?_,fun he=>?_⟩
    ·simp only[gnZ,hV,hM,hPo,hCl,hnl,hvl,eN,eV,hst] at he⊢
     have he:¬(qu s M).2.1=0:=by simpa using he
     unfold rpD
     rw[if_neg he]
    ·simp only[gnZ,hV,hM,hPo,hCl,hnl,hvl,eN,eV,hst] at he
     have he:(qu s M).2.1=0:=by simpa using he
     rw[qj]
     refine⟨by simp only[gnZ,hV,hM,hPo,hCl,hnl,hvl,eN,eV,hst,hse];exact⟨by omega,by omega⟩,?_⟩
     unfold rpD
     rw[if_pos he]
     simp only[gnZ,hV,hM,hPo,hCl,hnl,hvl,eN,eV,hst,hse]
theorem zqh{s:So}(hv:qw s=true)(v:Ce)(nm:ByteArray)(val:Ce):apA s v nm val=rpA s v nm val:=by
 unfold apA rpA
 split
 ·rfl
 ·rename_i hb
  split
  ·rfl
  ·refine ztx hv ?_ fun h5=>?_
   ·cases h:(zw s v).2 with
    |true=>rfl
    |false=>exact absurd (by unfold apB;rw[h];rfl) hb
   ·cases h:qb0 s (zw s v).1.n with
    |true=>rfl
    |false=>exact absurd (by unfold apB;rw[h,h5];simp) hb
theorem zqp{s:So}(hv:qw s=true)(v:Ce)(nm:ByteArray):dlA s v nm=rdA s v nm:=by
 unfold dlA rdA
 split
 ·rfl
 ·rename_i hb
  split
  ·rfl
  ·rename_i hp
   split
   ·rename_i hst
    have h5:=zhd hp
    have hok:(zw s v).2=true:=by
     cases h:(zw s v).2 with
     |true=>rfl
     |false=>exact absurd (by unfold dlB;rw[h];rfl) hb
    rw[varz hv] at hok h5 hst⊢
    by_cases hc:(vcR s v&&(decide ((jt s v).t=0)||decide ((jt s v).t=5)))=true
    ·rw[if_pos hc] at h5 hst⊢
     simp only[gnB] at hc
     exact zvh hv (qa5 hv hc.1) h5 hst
    ·rw[if_neg hc] at hok
     cases hok
   ·rfl
theorem qz7:FOk q20 (fun _=>some [.i 1]):=quk q0d q2c yy q4b q3q (FOk.none qas) (FOk.none qce) fun ds outs hw hg=>by
 injection hg with hg
theorem qyj:FOk q27 (fun _=>some [.i 1]):=qx9 q0d q4b q3q q2c q2k (FOk.none qas) (FOk.none qce) fun ds outs hw hg=>by
 injection hg with hg
set_option maxHeartbeats 1000000 in
theorem z2h:FOk q2z fun _=>some [.b true]:=qip qus qv0 q6t z6r z81 quc z2g z43 qzm qz7 qyj fun ds outs hw hg=>by
 obtain⟨d,r,rfl,hd,e,r',rfl,he,f,r2,rfl,hf,q,r3,rfl,hq,rfl⟩:=hw
 obtain⟨s,rfl,hs⟩:=wfS hd
 obtain⟨v,rfl,hc⟩:=wfC he
 obtain⟨nm,rfl,hn⟩:=hf.str
 obtain⟨val,rfl,hval⟩:=wfC hq
 injection hg with hg
 subst hg
 have hcl:qcm [eS s]=some [eS s]:=by
  simp only[qcm,qy]
  rw[if_pos (z3r hs)]
 simp only[q5a,gnZ,gSb,hcl]
 cases hsm:z1t s with
 |false=>simp
 | true =>
  unfold z1t at hsm
  simp only[gnB,gnD] at hsm
  have hsr:=hs.ser
  unfold i64 at hsr
  have hlit:qz5 s:=⟨by omega,by omega,by omega,by omega⟩
  have hP:zcn [eS s,eC v,.s nm,eC val]=some [.i (apA s v nm val).1,eS (apA s v nm val).2]:=by
   simp only[zcn,qy,yt,q1z]
   rw[if_pos (zmy hlit hsr.1 v nm val)]
  have hD:zbu [eS s,eC v,.s nm]=some [.i (dlA s v nm).1,eS (dlA s v nm).2]:=by
   simp only[zbu,qy,yt,q1z]
   rw[if_pos (zlk hlit (by omega) v nm)]
  simp only[gnZ,hP,hD]
  cases hv:qw s with
  |false=>simp
  | true =>
   have hP2:zdc [eS s,eC v,.s nm,eC val]=some [.i (apA s v nm val).1,eS (apA s v nm val).2]:=by
    simp only[zdc,qy,yt,q1z,←zqh hv]
    rw[if_pos (by simp only[hv,gnB,gnD];exact⟨trivial,by omega,by omega,by omega,by omega⟩)]
   have hD2:zc4 [eS s,eC v,.s nm]=some [.i (dlA s v nm).1,eS (dlA s v nm).2]:=by
    simp only[zc4,qy,yt,q1z,←zqp hv]
    rw[if_pos (by simp only[hv,gnB,gnD];exact⟨trivial,by omega,by omega,by omega,by omega⟩)]
   have hS:∀x:So,zbc [eS x,eS x]=some [.b true]:=fun x=>by
    simp[zbc]
   simp only[gnZ,hP2,hD2,hS]
   simp
variable{T t:TypeId}{v:Value}{W:World}
section
open Go.ChangeShapes Go.WideShapes Go.ChangeAt Go.RowKit
theorem ze2:ownKnob uA.godebug=none:=by kernel_rfl
theorem qh0:laidOutB uA=true:=by kernel_rfl
section
variable{H:Type}{enc:TypeId×Value→H}{W:World}{base:Nat}{spare:Nat→Bool}{held:Bool}
def qcu(t:TypeId)(d:DataW H):Prop:=∀n∈d.weights uA t,n≤reachBytes
theorem qeo{e:TypeId}:∀{l:List (DataW H)}{d:DataW H},d∈l→∀n∈d.weights uA e,n∈DataW.weightsAll uA e l
 |[],_,h,_,_=>by cases h
 |x::l,d,h,n,hn=>by
  simp only[DataW.weightsAll,uB]
  rcases uQ.1 h with rfl|h
  ·exact .inl hn
  ·exact .inr (qeo h n hn)
theorem qcu.each{ts:List TypeId}{l:List (DataW H)}{k:Nat}{d:DataW H}(h:∀n∈DataW.weightsEach uA ts l,n≤reachBytes)(ht:ts[k]? =some t)(hd:l[k]? =some d):qcu t d:=fun n hn=>
 h n (DataW.weights_mem_each ht hd n hn)
theorem z1c:reachBytes=LIM:=rfl
theorem z2u{t:Ty}(h:qk T=some t):uA.cellsOf T=t.w:=by
 obtain⟨i,hi,h1,-⟩:=q4g h
 simp[Program.cellsOf,hi,h1]
theorem zre{k:IntKind}(ht:qk t=some (.int k)){n:Int}(h:(Lit.int k n).wf=true):yw k n=true:=by
 have h0:=(q4s ht).2.1
 cases k<;>first|(simp[yw] at h0;done)|(simp[Lit.wf,IntKind.min,IntKind.max,IntKind.signed,IntKind.bits] at h;simp[yw];omega)
theorem za5{a:Addr}(h:W.cell? a=some v):a.spot=none:=by
 unfold World.cell? at h
 split at h
 ·split at h
  ·cases h
  ·rename_i hs;simpa using hs
 ·cases h
theorem zha{F:Nat→Prop}{cs:List Value}:∀{fl:List Field}{fs:List Ty}{o:Nat},q44 fl fs o=true→(∀(j:Nat)(f:Field)(t:Ty),fl[j]? =some f→fs[j]? =some t→∃y,Rd W F y t ((cs.drop f.offset).take t.w))→cs.length=o+widths fs→∃ds,RdF W F ds fs (cs.drop o)
 |[],[],o,_,_,hl=>by
  simp[widths] at hl
  exact⟨[],rfl,by rw[List.drop_eq_nil_iff];omega⟩
 |f::l,t::ts,o,hb,hf,hl=>by
  simp only[q44,gnB] at hb
  obtain⟨⟨⟨h1,-⟩,-⟩,h3⟩:=hb
  have ho:=gnN h1
  rw[q95] at hl
  obtain⟨ds,hds⟩:=zha h3 (fun j f' t' hj ht=>hf (j+1) f' t' (by simpa using hj) (by simpa using ht)) (by omega)
  obtain⟨y,hy⟩:=hf 0 f t rfl rfl
  refine⟨y::ds,t,ts,(cs.drop o).take t.w,cs.drop (o+t.w),rfl,?_,by rw[←ho];exact hy,hds⟩
  rw[←List.drop_drop,List.take_append_drop]
 |[],_::_,o,hb,_,_=>by cases hb
 |_::_,[],o,hb,_,_=>by cases hb
theorem zei:∀(fuel:Nat){T:TypeId}{t:Ty}(cs:List Value)(x:DataW H×List MemPlace),qk T=some t→qd2 t=false→DataW.trod enc uA W base spare held fuel T cs=some x→qcu T x.1→∃y,Rd W (fun _=>True) y t cs:=by
 intro fuel
 induction fuel with
 |zero=>intro T t cs x _ _ h;simp[DataW.trod] at h
 | succ fuel ih =>
  intro T t cs x hT hM h hL
  cases t with
  |map K V=>cases hM
  |int k=>
   obtain⟨n,rfl,-,hw⟩:=DataW.trod_int (q4s hT).1 h
   exact⟨.i n,k,rfl,rfl,zre hT hw⟩
  |bool=>
   obtain⟨b,rfl,-⟩:=DataW.trod_bool (q5q hT).1 h
   exact⟨.b b,rfl,rfl⟩
  |str=>
   obtain⟨s,rfl,rfl,-⟩:=DataW.trod_string (q53 hT).1 h
   have:=hL s.data.toList.length (by simp[DataW.weights])
   exact⟨.s s,rfl,rfl,by rw[z1c] at this;simpa using this⟩
  | st S =>
   obtain⟨fields,fs,zc,i,hu,hfs,hfb,hi,hsz,-,-,-,-⟩:=q6b hT
   obtain⟨xs,n,hn,hx,hlen,hxl,hf⟩:=DataW.trod_struct hu h
   obtain rfl:fuel=n:=by omega
   have hw:∀n∈DataW.weightsEach uA (fields.toList.map (·.type)) (xs.map (·.1)),n≤reachBytes:=fun n hn=>hL n (by rw[hx];simp only[DataW.weights,hu];exact hn)
   have hcl:cs.length=0+widths fs:=by rw[hlen,z2u hT,(qru hfs).1];omega
   obtain⟨ds,hds⟩:=zha (W:=W) (F:=fun _=>True) hfb (fun j f t hj ht=>by
    obtain⟨f',hf',ho,hty,-⟩:=q94 hfb ht
    obtain rfl:=gnI (hj.symm.trans hf')
    have h5:=hf j f (by rw[←Array.getElem?_toList];exact hj)
    have hjl:j<fields.toList.length:=(gnH.1 hj).1
    have hjx:j<xs.length:=by rw[hxl];simpa using hjl
    rw[z2u hty,gnK hjx] at h5
    refine ih _ _ hty (zl8 hfs (List.mem_of_getElem? ht)) h5 (qcu.each (k:=j) hw ?_ ?_)
    ·rw[uM,hj];rfl
    ·rw[uM,gnK hjx];rfl) hcl
   exact⟨.a ds,S,fs,rfl,hfs,by simpa using hds⟩
  | row E =>
   obtain⟨hu,⟨te,hte⟩,-⟩:=q1t hT
   rcases DataW.trod_slice hu h with⟨rfl,hx⟩|⟨a,len,cap,elems,rest,n,hn,rfl,hx,hb,hl,hm,hlen,hel,-⟩
   ·exact⟨.r [],E,te,none,0,rfl,hte,rfl,by simp,by simp,by simp[maxLen],by simp[RdE]⟩
   ·obtain rfl:fuel=n:=by omega
    have hwd:=q3a hte
    rw[z2u hte] at hel
    have hw:=hL
    rw[hx] at hw
    simp only[qcu,DataW.weights,hu,uQ,uB] at hw
    have hlen2:len≤LM te:=by
     have:=hw _ (.inl rfl)
     rw[z1c] at this
     have hbe:uA.bytesOf E=te.by:=by
      obtain⟨i,hi,-⟩:=q4g hte
      simp[Program.bytesOf,hi,qmy hte hi]
     refine(Nat.le_div_iff_mul_le (zfw hte).1).2 ?_
     simp[hbe] at this
     have h2:len * te.by≤(elems.length+rest.length) * te.by:=Nat.mul_le_mul_right _ (by omega)
     exact Nat.le_trans h2 this
    have spot:0<len→a.spot=none:=fun h0=>by
     have h2:=hel 0 h0
     rw[gnK (by omega)] at h2
     cases hc0:W.cells? base (a.add (0 * te.w)) te.w with
     |none=>rw[hc0] at h2;cases h2
     |some cs0=>
      obtain⟨_,hcl0,hat0⟩:=World.cells?_some hc0
      have hp:0<cs0.length:=by omega
      have:=hat0 0 (by omega)
      rw[gnK hp] at this
      exact za5 (a:=a) (v:=cs0[0]) (by simpa[Addr.add] using this)
    have each:∀i,i<len→∃y,zrv W (fun _=>True) y te (some a) i:=fun i hi=>by
     have h1:=hel i hi
     rw[gnK (by omega)] at h1
     cases hc:W.cells? base (a.add (i * te.w)) te.w with
     |none=>rw[hc] at h1;cases h1
     | some cs' =>
      rw[hc] at h1
      obtain⟨_,hcl,hat⟩:=World.cells?_some hc
      obtain⟨y,hy⟩:=ih cs' _ hte (zmk hT hte) h1 (fun n hn=>hw n (.inr (.inl (qeo (List.mem_map.2 ⟨_,List.getElem_mem (by omega),rfl⟩) n hn))))
      have hsp:=spot (by omega)
      obtain⟨b,o,sp⟩:=a
      obtain rfl:sp=none:=hsp
      have add:∀k,(Addr.add ⟨b,o,none⟩ (i * te.w)).add k=⟨b,o+i * te.w+k,none⟩:=fun k=>by
       unfold Addr.add
       split<;>split<;>simp<;>omega
      refine⟨y,b,o,cs',rfl,trivial,fun j v hj=>?_,hy⟩
      have hj':=(gnH.1 hj).1
      have:=hat j (by omega)
      rw[add,hj] at this
      exact this
    have pick:∀n,n≤len→∃l:List D,l.length=n∧∀i(h:i<l.length),zrv W (fun _=>True) l[i] te (some a) i:=by
     intro n
     induction n with
     |zero=>exact fun _=>⟨[],rfl,fun i hi=>by simp at hi⟩
     | succ n ihn =>
      intro hn
      obtain⟨l,hl1,hl2⟩:=ihn (by omega)
      obtain⟨t,ht⟩:=each n (by omega)
      refine⟨l++[t],by simp[hl1],fun i hi=>?_⟩
      by_cases hin:i<l.length
      ·rw[List.getElem_append_left hin];exact hl2 i hin
      ·obtain rfl:i=l.length:=by simp at hi;omega
       rw[List.getElem_append_right (by omega)]
       simp[hl1]
       exact ht
    obtain⟨l,hl1,hl2⟩:=pick len (Nat.le_refl _)
    exact⟨.r l,E,te,some a,cap,rfl,hte,by rw[hl1],by omega,by omega,hm,q1m.2 fun j hj=>by rw[Nat.zero_add];exact hl2 j hj⟩
theorem z45{t:Ty}(hT:qk T=some t)(hM:qd2 t=false){d:DataW H}{p:List MemPlace}{b0:Nat}{r:Reach}(hv:Value.okWide uA W r b0 T v)(h:DataW.Trod enc uA W base spare held T v d p)(hL:qcu T d):
  ∃x cs,jd t cs v∧Rd W (fun b=>b<W.heap.size) x t cs:=by
 obtain⟨fuel,hf⟩:=h
 obtain⟨y,hy⟩:=zei fuel _ _ hT hM hf hL
 refine⟨y,v.cells.toList,?_,Rd.keeps (fun b o _ ho=>⟨ho,qr ho⟩) _ hy⟩
 cases t with
 |int k=>obtain⟨n,rfl⟩:=okWide_int (q4s hT).1 hv;rfl
 |bool=>obtain⟨n,rfl⟩:=okWide_bool (q5q hT).1 hv;rfl
 |str=>obtain⟨n,rfl⟩:=okWide_string (q53 hT).1 hv;rfl
 |map K V=>cases hM
 |row E=>obtain⟨A,l,c,rfl⟩:=okWide_slice (q1t hT).1 hv;rfl
 |st S=>
  obtain⟨fields,fs,zc,i,hu,-⟩:=q6b hT
  obtain⟨cs,rfl,-⟩:=okWide_struct hu hv
  simp[jd,Value.cells]
end
def z16(W:World):List Ar→List Value→List D→Prop
 |[],vs,ds=>vs=[]∧ds=[]
 |.val t::l,vs,ds=>∃v r d ds',vs=v::r∧ds=d::ds'∧(∃cs,jd t cs v∧Rd W (FFD (fun _=>True) (fun _=>none) []) d t cs)∧z16 W l r ds'
 |_::_,_,_=>False
theorem z16.ok{V:List Value}:∀{i:Nat}{ar:List Ar}{vs:List Value}{ds:List D},z16 W ar vs ds→j6 V (fun _=>True) (fun _=>none) W (idx i ar) vs ds∧vs.length=ar.length
 |_,[],vs,ds,h=>⟨h,by rw[h.1];rfl⟩
 |i,.val t::l,vs,ds,⟨v,r,d,ds',e1,e2,h1,h⟩=>by
  obtain⟨h2,h3⟩:=z16.ok (V:=V) (i:=i+1) h
  exact⟨⟨v,r,d,ds',e1,e2,h1,h2⟩,by rw[e1];simp[h3]⟩
 |_,.ref _ _::_,_,_,h=>h.elim
 |_,.rref _::_,_,_,h=>h.elim
 |_,.own _::_,_,_,h=>h.elim
 |_,.mref _::_,_,_,h=>h.elim
 |_,.nils::_,_,_,h=>h.elim
 |_,.nilp::_,_,_,h=>h.elim
 |_,.fn _ _::_,_,_,h=>h.elim
 |_,.cell _ _::_,_,_,h=>h.elim
theorem zez{ct:Ct}{g:List D→Option (List D)}(h:FOk ct g)(hrs:ct.rs=[(.bool,false)])(hvr:ct.vr=[]){vs:List Value}{ds:List D}(ha:z16 W ct.ar vs ds)(hg:g ds=some [.b true]):
  Calls uA ct.f vs.toArray W fun e W'=>e=.returned (.bool true)∧But Nil W W':=by
 obtain⟨h1,h2⟩:=z16.ok (V:=vs++[]) (i:=0) ha
 refine(h.call (fun _=>True) .no (fun _=>none) W vs [] ds _ hg (qgn.of0 fun _=>rfl) Flo.no (by constructor<;>simp[Flr.no]) h2 (by simpa[Ct.all,hvr,idx] using h1)).mono ?_
 rintro e W'(⟨T,-,ho,-⟩|⟨rs,p',rfl,hb,hr,-⟩)
 ·cases ho
 rw[hrs] at hr
 obtain⟨v,r,d,ds',rfl,hd,⟨cs,hp,hc⟩,rfl⟩:=hr
 simp at hd
 obtain⟨rfl,rfl⟩:=hd
 obtain⟨e1,e2⟩:D.b true=.b true∧cs=[.bool true]:=⟨rfl,by
  have hc':Rd W' (FFD (fun _=>True) p' []) (.b true) .bool cs:=hc
  exact hc'.2⟩
 subst e2
 have hpv:[Value.bool true]=[v]:=hp
 injection hpv with hpv
 subst hpv
 exact⟨rfl,hb.but.mono fun i hi _=>by obtain⟨x,hx⟩:=hi;cases hx⟩
end
end Go.Proofs.YtdaadonfbnedaaaGreat
