/-
 Lemmas of the walk and plain laws, put together. No condition.
-/
import Derived.Test.YtdaadonfbnedaaaGreatLd
namespace Go.Proofs.YtdaadonfbnedaaaGreat
open Go.RowKit
set_option linter.unusedVariables false
set_option linter.unusedSimpArgs false
set_option maxRecDepth 100000
abbrev zo : Ty := .row 29
abbrev qk4 : Ty := .row 87
abbrev qz7 : Ty := .row 71
abbrev q3l : Ty := .row 73
abbrev qi : Ty := .st 26
abbrev qn : Ty := .st 28
abbrev y8 : Ty := .int .i64
abbrev qin : Ty := .row 54
abbrev qki : Ty := .st 53
abbrev q1q : Ty := .st 70
abbrev yb : Ty := .st 72
abbrev jb : Ty := .st 86
abbrev z3b : Ty := .row 102
abbrev qj9 : Ty := .st 101
abbrev GfZ := List D → Option (List D)
def EnZ (ct : Ct) : Prop := ∀ (args : Array Value) (w : World), (callFunc ct.f args).run Tryz.prog w = .ok (.enter ct.f args) w
def CdZ (T : Tbl) (a : Ann) (ct : Ct) (f : Func) (t : Tree) : Prop := ∀ cd, f.body = some cd → qck Tryz.prog T a ct f cd = t
def HgZ (t : Tree) (ct : Ct) (T : Tbl) (g : GfZ) : Prop := ∀ ds outs, WfA ct.ars ds → g ds = some outs → t.go (qb T) (fun o => o = outs) ds fun _ _ => False
variable {g : GfZ}
theorem yh {ct : Ct} {T : Tbl} {a : Ann} {f : Func} {t : Tree} {cd : Code} (hc : CdZ T a ct f t) (htb : q02 T) (hf : Tryz.prog.funcs[ct.f]? = some f) (hb : f.body = some cd) (he : EnZ ct) (hd : ct.ar.length ≤ f.ntmps) (h : HgZ t ct T g) (hnp : q7q T = true := by rfl) (hkp : ct.kp = [] := by rfl) (hfl : ct.fl = [] := by rfl) : FOk ct g :=
 zak a f cd htb hf hb he hd (fun ds outs hw hg => by rw [hc cd hb]; exact h ds outs hw hg) hnp hkp hfl
def q0s : Ct := ⟨67, [.val (.int .i64)], [(.st 26, true), (.int .i64, false)], [], none, [], []⟩
theorem qmk : EnZ q0s := fun _ _ => by kernel_rfl
def qsy : Ann := ⟨[0, 2, 3, 9], []⟩
def q95 : Tree := (.br (.or (.lt (.tok 0) (.lit (.i 1))) (.lt (.lit (.i 1048576)) (.tok 0))) (.leaf [(.lit (.a [(.r []), (.r []), (.r []), (.r []), (.i 0), (.i 0)])), (.lit (.i 1))]) (.leaf [(.set (.lit (.a [(.r []), (.r []), (.r []), (.r []), (.i 0), (.i 0)])) 5 (.tok 0)), (.lit (.i 0))]))
theorem qp2 : CdZ [] qsy q0s Tryz.f67 q95 := fun cd h => by injection h with h; subst h; kernel_rfl
theorem qui (h : HgZ q95 q0s [] g) : FOk q0s g := yh (qp2) .nil rfl rfl qmk (by decide) h
def qz : Ct := ⟨68, [.ref (.st 26) true], [(.st 28, false), (.int .i64, false)], [], none, [], [(0, 0, .st 28), (0, 1, .st 86), (0, 2, .st 70), (0, 3, .st 72)]⟩
theorem q1u : EnZ qz := fun _ _ => by kernel_rfl
def qbt : Ann := ⟨[0, 2, 3, 5, 16], []⟩
def q64 : Tree := (.br (.le (.fld (.tok 0) 5) (.len (.fld (.tok 0) 0))) (.leaf [(.lit (.a [(.i 0), (.i 0)])), (.lit (.i 13)), (.tok 0)]) (.need [(.le (.add (.len (.fld (.tok 0) 0)) (.lit (.i 1))) (.lit (.i 8796093021952))), (.le (.call 0 0 []) (.len (.fld (.tok 0) 0)))] (.leaf [(.mk [(.lit (.i 0)), (.len (.fld (.tok 0) 0))]), (.lit (.i 0)), (.set (.tok 0) 0 (.app (.fld (.tok 0) 0) (.row [(.mk [(.lit (.i 0)), (.len (.fld (.tok 0) 0))])])))])))
theorem qiq (m0 m1 m2 m3 : Int) : CdZ [(ja qz.f (.st 28), fun _ => some [.i m0]), (ja qz.f (.st 86), fun _ => some [.i m1]), (ja qz.f (.st 70), fun _ => some [.i m2]), (ja qz.f (.st 72), fun _ => some [.i m3])] qbt qz Tryz.f68 q64 := fun cd h => by injection h with h; subst h; kernel_rfl
theorem qlo {g : List D → Option (List D)}  (h : ∀ ds outs, WfA qz.ars ds → g ds = some outs → q64.go (qb [(ja qz.f (.st 28), fun _ => some [.i (((ds.getD 0 .u).fld 0).rs.length : Nat)]), (ja qz.f (.st 86), fun _ => some [.i (((ds.getD 0 .u).fld 1).rs.length : Nat)]), (ja qz.f (.st 70), fun _ => some [.i (((ds.getD 0 .u).fld 2).rs.length : Nat)]), (ja qz.f (.st 72), fun _ => some [.i (((ds.getD 0 .u).fld 3).rs.length : Nat)])]) (fun o => o = outs) ds fun _ _ => False) : FOk qz g :=
 FOk.of_at q1u fun ds outs hw hg => qwa qbt Tryz.f68 _ (.cons (q0v _ q1u _ _) (.cons (q0v _ q1u _ _) (.cons (q0v _ q1u _ _) (.cons (q0v _ q1u _ _) .nil)))) rfl rfl (by decide) (by rw [qiq _ _ _ _  _ rfl]; exact h ds outs hw hg) rfl (FlF.of fun k j te hm => by
  rw [show qz.fl = [(0, 0, .st 28), (0, 1, .st 86), (0, 2, .st 70), (0, 3, .st 72)] from rfl] at hm
  simp only [gnM] at hm
  rcases hm with ⟨rfl, rfl, rfl⟩ | ⟨rfl, rfl, rfl⟩ | ⟨rfl, rfl, rfl⟩ | ⟨rfl, rfl, rfl⟩ <;> exact ⟨by decide, Nat.le_refl _⟩)
def q06 : Ct := ⟨26, [.val (.int .i64)], [(.st 28, false)], [], none, [], []⟩
theorem qc0 : EnZ q06 := fun _ _ => by kernel_rfl
def qtg : Ann := ⟨[0, 2], []⟩
def q8m : Tree := (.leaf [(.mk [(.lit (.i 1)), (.tok 0)])])
theorem qs9 : CdZ [] qtg q06 Tryz.f26 q8m := fun cd h => by injection h with h; subst h; kernel_rfl
theorem qtv (h : HgZ q8m q06 [] g) : FOk q06 g := yh (qs9) .nil rfl rfl qc0 (by decide) h
def yp : Ct := ⟨70, [.val (.st 26), .val (.int .i64)], [(.int .i64, false)], [], none, [], []⟩
theorem qhn : EnZ yp := fun _ _ => by kernel_rfl
def qmh : Ann := ⟨[0, 1, 2, 4, 13], []⟩
def q6g : Tree := (.br (.or (.lt (.tok 1) (.lit (.i 0))) (.le (.len (.fld (.tok 0) 1)) (.tok 1))) (.leaf [(.lit (.i (-1)))]) (.need [(.le (.lit (.i 0)) (.tok 1)), (.lt (.tok 1) (.len (.fld (.tok 0) 1)))] (.leaf [(.fld (.get (.fld (.tok 0) 1) (.tok 1)) 1)])))
theorem qjl : CdZ [] qmh yp Tryz.f70 q6g := fun cd h => by injection h with h; subst h; kernel_rfl
theorem qn0 (h : HgZ q6g yp [] g) : FOk yp g := yh (qjl) .nil rfl rfl qhn (by decide) h
def yo : Ct := ⟨71, [.val (.st 26), .val (.int .i64)], [(.int .i64, false)], [], none, [], []⟩
theorem qm2 : EnZ yo := fun _ _ => by kernel_rfl
def qsp : Ann := ⟨[0, 1, 2, 4, 13], []⟩
def q8q : Tree := (.br (.or (.lt (.tok 1) (.lit (.i 0))) (.le (.len (.fld (.tok 0) 0)) (.tok 1))) (.leaf [(.lit (.i (-1)))]) (.need [(.le (.lit (.i 0)) (.tok 1)), (.lt (.tok 1) (.len (.fld (.tok 0) 0)))] (.leaf [(.fld (.get (.fld (.tok 0) 0) (.tok 1)) 0)])))
theorem qpa : CdZ [] qsp yo Tryz.f71 q8q := fun cd h => by injection h with h; subst h; kernel_rfl
theorem qtz (h : HgZ q8q yo [] g) : FOk yo g := yh (qpa) .nil rfl rfl qm2 (by decide) h
def ql : Ct := ⟨42, [.val (.st 26), .val (.st 28)], [(.bool, false)], [], none, [], []⟩
theorem qc4 : EnZ ql := fun _ _ => by kernel_rfl
def qes : Ann := ⟨[0, 1, 2, 3, 4, 5, 7, 8, 10, 17, 29, 36], []⟩
def q2u : Tree := (.br (.eq (.fld (.tok 1) 0) (.lit (.i 1))) (.leaf [(.lit (.b .true))]) (.br (.eq (.fld (.tok 1) 0) (.lit (.i 2))) (.need [(.ok 0 [(.tok 0), (.fld (.tok 1) 1)])] (.leaf [(.eq (.call 0 0 [(.tok 0), (.fld (.tok 1) 1)]) (.lit (.i 0)))])) (.br (.eq (.fld (.tok 1) 0) (.lit (.i 0))) (.need [(.ok 1 [(.tok 0), (.fld (.tok 1) 1)])] (.leaf [(.and (.le (.lit (.i 0)) (.call 1 0 [(.tok 0), (.fld (.tok 1) 1)])) (.not (.eq (.call 1 0 [(.tok 0), (.fld (.tok 1) 1)]) (.lit (.i 4)))))])) (.br (.eq (.fld (.tok 1) 0) (.lit (.i 3))) (.need [(.ok 1 [(.tok 0), (.fld (.tok 1) 1)])] (.leaf [(.eq (.call 1 0 [(.tok 0), (.fld (.tok 1) 1)]) (.lit (.i 4)))])) (.br (.eq (.fld (.tok 1) 0) (.lit (.i 5))) (.need [(.ok 1 [(.tok 0), (.fld (.tok 1) 1)])] (.leaf [(.eq (.call 1 0 [(.tok 0), (.fld (.tok 1) 1)]) (.lit (.i 5)))])) (.leaf [(.lit (.b .false))]))))))
theorem qcx (g0 g1 : GfZ) : CdZ [(yp, g0), (yo, g1)] qes ql Tryz.f42 q2u := fun cd h => by injection h with h; subst h; kernel_rfl
variable {g0 g1 : GfZ}
theorem qef (h0 : FOk yp g0) (h1 : FOk yo g1) (h : HgZ q2u ql [(yp, g0), (yo, g1)] g) : FOk ql g := yh (qcx g0 g1) (.cons h0 (.cons h1 .nil)) rfl rfl qc4 (by decide) h
def zb : Ct := ⟨53, [.val (.st 26), .val (.st 28)], [(.st 28, false)], [], none, [], []⟩
theorem qig : EnZ zb := fun _ _ => by kernel_rfl
def qn7 : Ann := ⟨[0, 1, 2, 3, 4, 8, 12, 13, 14, 34], [(4, ⟨[(13, .int .i64, false)], [3], [14, 15, 16, 17, 18, 19, 20, 21, 22, 23, 24, 25, 26, 27, 28, 29, 30, 31, 32, 33, 34, 35, 36, 37, 38, 39, 40, 41], []⟩)]⟩
def q3h : Tree :=
 let b : X := .fld (.tok 3) 1
 let c : X := .fld (.tok 0) 0
 let d : X := .lit (.i 0)
 let f : X := .add (.tok 2) (.lit (.i 1))
 let a : X := .or (.not (.eq (.fld (.tok 3) 0) d)) (.lt (.call 1 0 [(.tok 0), b]) d)
 let e : X := .lt b (.len c)
 (.need [(.ok 0 [(.tok 0), (.tok 1)])] (.br (.not (.call 0 0 [(.tok 0), (.tok 1)])) (.leaf [(.lit (.a [(.i 0), (.i 0)]))]) (.loop 4 2 [d, (.tok 1)] (.br (.lt (.tok 2) (.len c)) (.need [(.imp (.not a) (.le d b)), (.imp (.not a) e), (.imp (.not a) (.le d b)), (.imp (.not a) e), (.imp (.not (.not (.eq (.fld (.tok 3) 0) d))) (.ok 1 [(.tok 0), b]))] (.br (.or a (.eq (.get c b) (.tok 3))) (.leaf [(.tok 3)]) (.need [(.le d b), e] (.need [(.rng .i64 f)] (.back 4 [f, (.get c b)]))))) (.leaf [(.tok 3)])))))
theorem qk7 (g0 g1 : GfZ) : CdZ [(ql, g0), (yo, g1)] qn7 zb Tryz.f53 q3h := fun cd h => by injection h with h; subst h; kernel_rfl
theorem qby (h0 : FOk ql g0) (h1 : FOk yo g1) (h : HgZ q3h zb [(ql, g0), (yo, g1)] g) : FOk zb g := yh (qk7 g0 g1) (.cons h0 (.cons h1 .nil)) rfl rfl qig (by decide) h
def jm : Ct := ⟨55, [.val (.st 26), .val (.int .i64)], [(.bool, false)], [], none, [], []⟩
theorem qti : EnZ jm := fun _ _ => by kernel_rfl
def z07 : Ann := ⟨[0, 1, 2, 4], []⟩
def qat : Tree := (.leaf [(.and (.le (.lit (.i 0)) (.tok 1)) (.lt (.tok 1) (.len (.fld (.tok 0) 0))))])
theorem qyo : CdZ [] z07 jm Tryz.f55 qat := fun cd h => by injection h with h; subst h; kernel_rfl
theorem z02 (h : HgZ qat jm [] g) : FOk jm g := yh (qyo) .nil rfl rfl qti (by decide) h
def qs : Ct := ⟨32, [.val (.st 26), .val (.st 28)], [(.st 28, false), (.bool, false)], [], none, [], []⟩
theorem qej : EnZ qs := fun _ _ => by kernel_rfl
def qgt : Ann := ⟨[0, 1, 2, 3, 4, 5, 9, 15, 16, 23], []⟩
def q4c : Tree := (.need [(.ok 0 [(.tok 0), (.tok 1)])] (.br (.not (.call 0 0 [(.tok 0), (.tok 1)])) (.leaf [(.lit (.a [(.i 0), (.i 0)])), (.lit (.b .false))]) (.need [(.ok 1 [(.tok 0), (.tok 1)])] (.br (.eq (.fld (.call 1 0 [(.tok 0), (.tok 1)]) 0) (.lit (.i 0))) (.need [(.ok 2 [(.tok 0), (.fld (.call 1 0 [(.tok 0), (.tok 1)]) 1)])] (.leaf [(.call 1 0 [(.tok 0), (.tok 1)]), (.call 2 0 [(.tok 0), (.fld (.call 1 0 [(.tok 0), (.tok 1)]) 1)])])) (.br (.eq (.fld (.call 1 0 [(.tok 0), (.tok 1)]) 0) (.lit (.i 5))) (.need [(.imp (.call 2 0 [(.tok 0), (.fld (.call 1 0 [(.tok 0), (.tok 1)]) 1)]) (.ok 2 [(.tok 0), (.add (.fld (.call 1 0 [(.tok 0), (.tok 1)]) 1) (.lit (.i 2)))])), (.imp (.call 2 0 [(.tok 0), (.fld (.call 1 0 [(.tok 0), (.tok 1)]) 1)]) (.rng .i64 (.add (.fld (.call 1 0 [(.tok 0), (.tok 1)]) 1) (.lit (.i 2))))), (.ok 2 [(.tok 0), (.fld (.call 1 0 [(.tok 0), (.tok 1)]) 1)])] (.leaf [(.call 1 0 [(.tok 0), (.tok 1)]), (.and (.call 2 0 [(.tok 0), (.fld (.call 1 0 [(.tok 0), (.tok 1)]) 1)]) (.call 2 0 [(.tok 0), (.add (.fld (.call 1 0 [(.tok 0), (.tok 1)]) 1) (.lit (.i 2)))]))])) (.leaf [(.lit (.a [(.i 0), (.i 0)])), (.lit (.b .false))]))))))
theorem qgp (g0 g1 g2 : GfZ) : CdZ [(ql, g0), (zb, g1), (jm, g2)] qgt qs Tryz.f32 q4c := fun cd h => by injection h with h; subst h; kernel_rfl
variable {g2 : GfZ}
theorem qij (h0 : FOk ql g0) (h1 : FOk zb g1) (h2 : FOk jm g2) (h : HgZ q4c qs [(ql, g0), (zb, g1), (jm, g2)] g) : FOk qs g := yh (qgp g0 g1 g2) (.cons h0 (.cons h1 (.cons h2 .nil))) rfl rfl qej (by decide) h
def zp : Ct := ⟨41, [.val (.st 26), .val (.st 28)], [(.bool, false)], [], none, [], []⟩
theorem qei : EnZ zp := fun _ _ => by kernel_rfl
def qhs : Ann := ⟨[0, 1, 2, 3, 4, 5, 14, 15], []⟩
def q4h : Tree :=
 let a : X := .add (.fld (.tok 1) 1) (.lit (.i 2))
 let f : X := .lit (.b .true)
 let b : X := .get (.fld (.tok 0) 0) a
 let d : X := .rng .i64 a
 let c : X := .eq b (.mk [(.lit (.i 0)), a])
 let e : X := .fld b 0
 (.need [d, (.le (.lit (.i 0)) a), (.lt a (.len (.fld (.tok 0) 0)))] (.br (.eq e (.lit (.i 1))) (.br (.eq e (.lit (.i 1))) (.leaf [f]) (.need [d] (.leaf [c]))) (.br (.eq e (.lit (.i 2))) (.br (.eq e (.lit (.i 2))) (.leaf [f]) (.need [d] (.leaf [c]))) (.br (.eq e (.lit (.i 3))) (.leaf [f]) (.need [d] (.leaf [c]))))))
theorem qfm : CdZ [] qhs zp Tryz.f41 q4h := fun cd h => by injection h with h; subst h; kernel_rfl
theorem qif (h : HgZ q4h zp [] g) : FOk zp g := yh (qfm) .nil rfl rfl qei (by decide) h
def j4 : Ct := ⟨127, [.val (.st 53), .ref (.int .i64) true, .cell 146 3], [], [(.cell 2, .fn 127 [1, 2])], none, [], []⟩
theorem q9m : EnZ j4 := fun _ _ => by kernel_rfl
def qm5 : Ann := ⟨[0, 1, 2, 3, 4, 15], [(3, ⟨[(4, .int .i64, false)], [1], [7, 8, 9, 10, 11, 12, 13, 14, 15, 18, 19, 20, 21, 22, 23, 24, 16, 17], []⟩)]⟩
def q66 : Tree := (.need [(.rng .i64 (.sub (.tok 1) (.lit (.i 1))))] (.loop 3 2 [(.lit (.i 0)), (.sub (.tok 1) (.lit (.i 1)))] (.br (.and (.lt (.tok 2) (.len (.fld (.tok 0) 3))) (.lt (.lit (.i 0)) (.tok 3))) (.need [(.ok 0 [(.get (.fld (.tok 0) 3) (.tok 2)), (.tok 3)]), (.le (.lit (.i 0)) (.tok 2)), (.lt (.tok 2) (.len (.fld (.tok 0) 3)))] (.need [(.rng .i64 (.add (.tok 2) (.lit (.i 1))))] (.back 3 [(.add (.tok 2) (.lit (.i 1))), (.call 0 0 [(.get (.fld (.tok 0) 3) (.tok 2)), (.tok 3)])]))) (.leaf [(.tok 3)]))))
theorem ql0 (g0 : GfZ) : CdZ [(j4, g0)] qm5 j4 Tryz.f127 q66 := fun cd h => by injection h with h; subst h; kernel_rfl
theorem qmm (h0 : FOk j4 g0) (h : HgZ q66 j4 [(j4, g0)] g) : FOk j4 g := yh (ql0 g0) (.cons h0 .nil) rfl rfl q9m (by decide) h
def jk : Ct := ⟨114, [.val (.st 53)], [(.int .i64, false)], [], none, [], []⟩
theorem qlt : EnZ jk := fun _ _ => by kernel_rfl
def qt6 : Ann := ⟨[0, 1, 2, 3, 4], []⟩
def q8o : Tree := (.need [(.ok 0 [(.tok 0), (.lit (.i 2001))])] (.need [(.rng .i64 (.sub (.lit (.i 2001)) (.call 0 0 [(.tok 0), (.lit (.i 2001))])))] (.leaf [(.sub (.lit (.i 2001)) (.call 0 0 [(.tok 0), (.lit (.i 2001))]))])))
theorem qsb (g0 : GfZ) : CdZ [(j4, g0)] qt6 jk Tryz.f114 q8o := fun cd h => by injection h with h; subst h; kernel_rfl
theorem quh (h0 : FOk j4 g0) (h : HgZ q8o jk [(j4, g0)] g) : FOk jk g := yh (qsb g0) (.cons h0 .nil) rfl rfl qlt (by decide) h
def zr : Ct := ⟨115, [.val (.st 53)], [(.bool, false)], [], none, [], []⟩
theorem qbk : EnZ zr := fun _ _ => by kernel_rfl
def qt8 : Ann := ⟨[0, 1, 2, 3, 4, 6, 7, 28, 39, 56, 86], [(12, ⟨[(3, .bool, false), (4, .int .i64, false)], [], [79, 80, 81, 82, 83, 84, 85, 86, 89, 90, 91, 92, 93, 94, 87, 88], []⟩)]⟩
def q8p : Tree :=
 let b : X := .add (.tok 2) (.lit (.i 1))
 let c : X := .lit (.i 0)
 let j : X := .tok 0
 let o : X := .tok 1
 let a : X := .fld j 3
 let f : X := .and (.eq (.fld j 1) c) (.le (.slen (.fld j 2)) (.lit (.i 100)))
 let h : X := .le c (.tok 2)
 let k : X := .rng .i64 b
 let m : X := .eq (.fld j 2) (.lit (.s ⟨#[]⟩))
 let p : X := .fld j 0
 let d : X := .lt (.tok 2) (.len a)
 let e : X := .get a (.tok 2)
 let n : X := .eq (.len a) c
 let g : X := .and d o
 let i : X := .call 0 0 [e]
 let l : X := .ok 0 [e]
 (.br (.eq p c) (.loop 12 1 [(.and (.and (.and (.le c (.fld j 1)) (.le (.fld j 1) (.lit (.i 1099511627776)))) m) n), c] (.br g (.need [h, d, l] (.need [k] (.back 12 [i, b]))) (.leaf [o]))) (.br (.eq p (.lit (.i 1))) (.loop 12 1 [(.and m n), c] (.br g (.need [h, d, l] (.need [k] (.back 12 [i, b]))) (.leaf [o]))) (.br (.eq p (.lit (.i 2))) (.loop 12 1 [(.and f n), c] (.br g (.need [h, d, l] (.need [k] (.back 12 [i, b]))) (.leaf [o]))) (.br (.eq p (.lit (.i 3))) (.loop 12 1 [(.and (.and f (.lt c (.len a))) (.le (.len a) (.lit (.i 8)))), c] (.br g (.need [h, d, l] (.need [k] (.back 12 [i, b]))) (.leaf [o]))) (.loop 12 1 [(.lit (.b .false)), c] (.br g (.need [h, d, l] (.need [k] (.back 12 [i, b]))) (.leaf [o])))))))
theorem qpf (g0 : GfZ) : CdZ [(zr, g0)] qt8 zr Tryz.f115 q8p := fun cd h => by injection h with h; subst h; kernel_rfl
theorem qt9 (h0 : FOk zr g0) (h : HgZ q8p zr [(zr, g0)] g) : FOk zr g := yh (qpf g0) (.cons h0 .nil) rfl rfl qbk (by decide) h
def yg : Ct := ⟨98, [.val (.st 53)], [(.bool, false)], [], none, [], []⟩
theorem qja : EnZ yg := fun _ _ => by kernel_rfl
def qot : Ann := ⟨[0, 1, 2], []⟩
def q77 : Tree := (.need [(.ok 0 [(.tok 0)]), (.imp (.le (.call 0 0 [(.tok 0)]) (.lit (.i 2000))) (.ok 1 [(.tok 0)]))] (.leaf [(.and (.le (.call 0 0 [(.tok 0)]) (.lit (.i 2000))) (.call 1 0 [(.tok 0)]))]))
theorem qn4 (g0 g1 : GfZ) : CdZ [(jk, g0), (zr, g1)] qot yg Tryz.f98 q77 := fun cd h => by injection h with h; subst h; kernel_rfl
theorem qqx (h0 : FOk jk g0) (h1 : FOk zr g1) (h : HgZ q77 yg [(jk, g0), (zr, g1)] g) : FOk yg g := yh (qn4 g0 g1) (.cons h0 (.cons h1 .nil)) rfl rfl qja (by decide) h
def jy : Ct := ⟨113, [.val (.st 53)], [(.st 53, false)], [], none, [], []⟩
theorem qgc : EnZ jy := fun _ _ => by kernel_rfl
def qk6 : Ann := ⟨[0, 1, 2], []⟩
def q5b : Tree := (.leaf [(.tok 0)])
theorem qi3 : CdZ [] qk6 jy Tryz.f113 q5b := fun cd h => by injection h with h; subst h; kernel_rfl
theorem qks (h : HgZ q5b jy [] g) : FOk jy g := yh (qi3) .nil rfl rfl qgc (by decide) h
def jg : Ct := ⟨112, [.val (.st 53), .fn 113 []], [(.st 53, false)], [], none, [], []⟩
theorem qa8 : EnZ jg := fun _ _ => by kernel_rfl
def qq1 : Ann := ⟨[0, 1, 2, 4, 5, 7, 10, 22, 23, 24, 25], [(5, ⟨[(24, .int .i64, false)], [5], [25, 26, 27, 7, 28, 29, 30, 31, 32, 33, 34, 35, 36], []⟩)]⟩
def q7a : Tree := (.br (.eq (.fld (.tok 0) 0) (.lit (.i 0))) (.need [(.ok 0 [(.tok 0)])] (.leaf [(.call 0 0 [(.tok 0)])])) (.loop 5 1 [(.lit (.i 0)), (.set (.set (.set (.lit (.a [(.i 0), (.i 0), (.s ⟨#[]⟩), (.r [])])) 0 (.fld (.tok 0) 0)) 1 (.fld (.tok 0) 1)) 2 (.fld (.tok 0) 2))] (.br (.lt (.tok 1) (.len (.fld (.tok 0) 3))) (.need [(.le (.lit (.i 0)) (.tok 1)), (.lt (.tok 1) (.len (.fld (.tok 0) 3)))] (.need [(.le (.add (.len (.fld (.tok 2) 3)) (.lit (.i 1))) (.lit (.i 2513169434843))), (.ok 1 [(.get (.fld (.tok 0) 3) (.tok 1))])] (.need [(.rng .i64 (.add (.tok 1) (.lit (.i 1))))] (.back 5 [(.add (.tok 1) (.lit (.i 1))), (.set (.tok 2) 3 (.app (.fld (.tok 2) 3) (.row [(.call 1 0 [(.get (.fld (.tok 0) 3) (.tok 1))])])))])))) (.leaf [(.tok 2)]))))
theorem qme (g0 g1 : GfZ) : CdZ [(jy, g0), (jg, g1)] qq1 jg Tryz.f112 q7a := fun cd h => by injection h with h; subst h; kernel_rfl
theorem qom (h0 : FOk jy g0) (h1 : FOk jg g1) (h : HgZ q7a jg [(jy, g0), (jg, g1)] g) : FOk jg g := yh (qme g0 g1) (.cons h0 (.cons h1 .nil)) rfl rfl qa8 (by decide) h
def zw : Ct := ⟨74, [.val (.st 53)], [(.st 53, false)], [], none, [], []⟩
theorem qkf : EnZ zw := fun _ _ => by kernel_rfl
def qr4 : Ann := ⟨[0, 1, 2, 5], []⟩
def q79 : Tree := (.need [(.ok 0 [(.tok 0)])] (.br (.not (.call 0 0 [(.tok 0)])) (.leaf [(.lit (.a [(.i 0), (.i 0), (.s ⟨#[]⟩), (.r [])]))]) (.need [(.ok 1 [(.tok 0)])] (.leaf [(.call 1 0 [(.tok 0)])]))))
theorem qlq (g0 g1 : GfZ) : CdZ [(yg, g0), (jg, g1)] qr4 zw Tryz.f74 q79 := fun cd h => by injection h with h; subst h; kernel_rfl
theorem qs5 (h0 : FOk yg g0) (h1 : FOk jg g1) (h : HgZ q79 zw [(yg, g0), (jg, g1)] g) : FOk zw g := yh (qlq g0 g1) (.cons h0 (.cons h1 .nil)) rfl rfl qkf (by decide) h
def zq : Ct := ⟨30, [.val (.str)], [(.st 53, false)], [], none, [], []⟩
theorem qmi : EnZ zq := fun _ _ => by kernel_rfl
def qtj : Ann := ⟨[0, 2], []⟩
def q8g : Tree := (.need [(.ok 0 [(.set (.set (.lit (.a [(.i 0), (.i 0), (.s ⟨#[]⟩), (.r [])])) 0 (.lit (.i 2))) 2 (.tok 0))])] (.leaf [(.call 0 0 [(.set (.set (.lit (.a [(.i 0), (.i 0), (.s ⟨#[]⟩), (.r [])])) 0 (.lit (.i 2))) 2 (.tok 0))])]))
theorem qqd (g0 : GfZ) : CdZ [(zw, g0)] qtj zq Tryz.f30 q8g := fun cd h => by injection h with h; subst h; kernel_rfl
theorem qu3 (h0 : FOk zw g0) (h : HgZ q8g zq [(zw, g0)] g) : FOk zq g := yh (qqd g0) (.cons h0 .nil) rfl rfl qmi (by decide) h
def q0e : Ct := ⟨97, [.val (.int .i64)], [(.bool, false)], [], none, [], []⟩
theorem qgy : EnZ q0e := fun _ _ => by kernel_rfl
def qn3 : Ann := ⟨[0, 2], []⟩
def q5x : Tree := (.leaf [(.and (.le (.lit (.i 0)) (.tok 0)) (.le (.tok 0) (.lit (.i 1099511627776))))])
theorem qjx : CdZ [] qn3 q0e Tryz.f97 q5x := fun cd h => by injection h with h; subst h; kernel_rfl
theorem qm0 (h : HgZ q5x q0e [] g) : FOk q0e g := yh (qjx) .nil rfl rfl qgy (by decide) h
def q14 : Ct := ⟨64, [.val (.int .i64)], [(.st 53, false)], [], none, [], []⟩
theorem qr0 : EnZ q14 := fun _ _ => by kernel_rfl
def qxi : Ann := ⟨[0, 2, 5], []⟩
def q9v : Tree := (.need [(.ok 0 [(.tok 0)])] (.br (.not (.call 0 0 [(.tok 0)])) (.leaf [(.lit (.a [(.i 0), (.i 0), (.s ⟨#[]⟩), (.r [])]))]) (.leaf [(.set (.lit (.a [(.i 0), (.i 0), (.s ⟨#[]⟩), (.r [])])) 1 (.tok 0))])))
theorem qu4 (g0 : GfZ) : CdZ [(q0e, g0)] qxi q14 Tryz.f64 q9v := fun cd h => by injection h with h; subst h; kernel_rfl
theorem qwq (h0 : FOk q0e g0) (h : HgZ q9v q14 [(q0e, g0)] g) : FOk q14 g := yh (qu4 g0) (.cons h0 .nil) rfl rfl qr0 (by decide) h
def j6 : Ct := ⟨29, [.val (.str), .val (.row 54)], [(.st 53, false)], [], none, [], []⟩
theorem qi9 : EnZ j6 := fun _ _ => by kernel_rfl
def qmp : Ann := ⟨[0, 1, 4, 7], []⟩
def q6e : Tree := (.br (.eq (.len (.tok 1)) (.lit (.i 0))) (.need [(.ok 0 [(.tok 0)])] (.leaf [(.call 0 0 [(.tok 0)])])) (.need [(.ok 1 [(.set (.set (.set (.lit (.a [(.i 0), (.i 0), (.s ⟨#[]⟩), (.r [])])) 0 (.lit (.i 3))) 2 (.tok 0)) 3 (.tok 1))])] (.leaf [(.call 1 0 [(.set (.set (.set (.lit (.a [(.i 0), (.i 0), (.s ⟨#[]⟩), (.r [])])) 0 (.lit (.i 3))) 2 (.tok 0)) 3 (.tok 1))])])))
theorem qkb (g0 g1 : GfZ) : CdZ [(zq, g0), (zw, g1)] qmp j6 Tryz.f29 q6e := fun cd h => by injection h with h; subst h; kernel_rfl
theorem qnp (h0 : FOk zq g0) (h1 : FOk zw g1) (h : HgZ q6e j6 [(zq, g0), (zw, g1)] g) : FOk j6 g := yh (qkb g0 g1) (.cons h0 (.cons h1 .nil)) rfl rfl qi9 (by decide) h
def q0y : Ct := ⟨83, [.val (.row 54), .val (.st 53)], [(.st 53, false)], [], none, [], []⟩
theorem qls : EnZ q0y := fun _ _ => by kernel_rfl
def qt3 : Ann := ⟨[0, 1, 3, 4, 5, 7, 8, 9, 17, 21, 22, 23, 24, 38, 47], [(5, ⟨[(5, .int .i64, false), (23, .int .i64, false)], [4], [24, 25, 26, 7, 27, 28, 29, 30, 31, 32, 33, 34, 35, 36, 37, 38, 39, 40], []⟩),
 (13, ⟨[(9, .int .i64, false)], [8], [46, 47, 50, 51, 52, 53, 54, 55, 56, 57, 48, 49], []⟩)]⟩
def q8z : Tree :=
 let b : X := .lit (.a [(.i 0), (.i 0), (.s ⟨#[]⟩), (.r [])])
 let c : X := .len (.tok 0)
 let d : X := .lit (.i 1)
 let e : X := .tok 3
 let g : X := .lit (.i 2000)
 let h : X := .tok 5
 let i : X := .lit (.i 0)
 let j : X := .tok 1
 let k : X := .get (.tok 0) e
 let a : X := .add d (.call 1 0 [k])
 let f : X := .add (.tok 2) a
 (.need [(.imp (.not (.lt g c)) (.ok 0 [j]))] (.br (.or (.lt g c) (.not (.call 0 0 [j]))) (.leaf [b]) (.need [(.ok 1 [j])] (.loop 5 2 [(.call 1 0 [j]), i, b] (.br (.lt e c) (.need [(.le i e), (.lt e c)] (.need [(.ok 1 [k]), (.rng .i64 a), (.rng .i64 f)] (.need [(.imp (.not (.lt g f)) (.ok 2 [k]))] (.br (.or (.lt g f) (.not (.call 2 0 [k]))) (.leaf [b]) (.need [(.rng .i64 (.add e d))] (.back 5 [f, (.add e d), (.tok 4)])))))) (.need [(.ok 3 [j])] (.need [(.rng .i64 (.sub c d))] (.loop 13 5 [(.sub c d), (.call 3 0 [j])] (.br (.le i h) (.need [(.ok 3 [(.get (.tok 0) h)]), (.le i h), (.lt h c)] (.need [(.rng .i64 (.sub h d))] (.back 13 [(.sub h d), (.set (.set (.set b 0 (.lit (.i 3))) 2 (.lit (.s ⟨#[46]⟩))) 3 (.row [(.call 3 0 [(.get (.tok 0) h)]), (.tok 6)]))]))) (.leaf [(.tok 6)]))))))))))
theorem qp5 (g0 g1 g2 g3 : GfZ) : CdZ [(yg, g0), (jk, g1), (zr, g2), (zw, g3)] qt3 q0y Tryz.f83 q8z := fun cd h => by injection h with h; subst h; kernel_rfl
variable {g3 : GfZ}
theorem qtl (h0 : FOk yg g0) (h1 : FOk jk g1) (h2 : FOk zr g2) (h3 : FOk zw g3) (h : HgZ q8z q0y [(yg, g0), (jk, g1), (zr, g2), (zw, g3)] g) : FOk q0y g := yh (qp5 g0 g1 g2 g3) (.cons h0 (.cons h1 (.cons h2 (.cons h3 .nil)))) rfl rfl qls (by decide) h
def zx : Ct := ⟨119, [.rref (.st 26), .val (.st 86)], [(.int .i64, false)], [], none, [], []⟩
theorem qk8 : EnZ zx := fun _ _ => by kernel_rfl
def qrz : Ann := ⟨[0, 1, 3, 4, 5, 10, 11, 12, 22], [(2, ⟨[(4, .int .i64, false), (11, .int .i64, false)], [], [12, 13, 5, 14, 15, 16, 17, 18, 19, 20, 21, 22, 23, 24], []⟩)]⟩
def q7d : Tree := (.loop 2 2 [(.lit (.i 0)), (.lit (.i 0))] (.br (.lt (.tok 3) (.len (.fld (.tok 0) 1))) (.need [(.le (.lit (.i 0)) (.tok 3)), (.lt (.tok 3) (.len (.fld (.tok 0) 1)))] (.br (.eq (.get (.fld (.tok 0) 1) (.tok 3)) (.tok 1)) (.leaf [(.tok 3)]) (.need [(.rng .i64 (.add (.tok 3) (.lit (.i 1))))] (.back 2 [(.tok 2), (.add (.tok 3) (.lit (.i 1)))])))) (.leaf [(.lit (.i (-1)))])))
theorem qns : CdZ [] qrz zx Tryz.f119 q7d := fun cd h => by injection h with h; subst h; kernel_rfl
theorem qoq (h : HgZ q7d zx [] g) : FOk zx g := yh (qns) .nil rfl rfl qk8 (by decide) h
def z9 : Ct := ⟨103, [.ref (.st 26) true, .val (.str), .val (.int .i64)], [(.int .i64, false), (.int .i64, false)], [], none, [], [(0, 0, .st 28), (0, 1, .st 86), (0, 2, .st 70), (0, 3, .st 72)]⟩
theorem q1m : EnZ z9 := fun _ _ => by kernel_rfl
def qal : Ann := ⟨[0, 1, 2, 6, 7, 8, 9, 24, 32, 39], []⟩
def q5a : Tree := (.br (.or (.or (.lt (.lit (.i 100)) (.slen (.tok 1))) (.lt (.tok 2) (.lit (.i 0)))) (.lt (.lit (.i 8)) (.tok 2))) (.leaf [(.lit (.i 0)), (.lit (.i 1)), (.tok 0)]) (.need [(.ok 4 [(.tok 0), (.mk [(.tok 1), (.tok 2)])])] (.br (.le (.lit (.i 0)) (.call 4 0 [(.tok 0), (.mk [(.tok 1), (.tok 2)])])) (.leaf [(.call 4 0 [(.tok 0), (.mk [(.tok 1), (.tok 2)])]), (.lit (.i 0)), (.tok 0)]) (.br (.le (.lit (.i 1048576)) (.len (.fld (.tok 0) 1))) (.leaf [(.lit (.i 0)), (.lit (.i 13)), (.tok 0)]) (.need [(.le (.add (.len (.fld (.tok 0) 1)) (.lit (.i 1))) (.lit (.i 5864062014634))), (.le (.call 1 0 []) (.len (.fld (.tok 0) 1)))] (.need [(.rng .i64 (.sub (.len (.fld (.set (.tok 0) 1 (.app (.fld (.tok 0) 1) (.row [(.mk [(.tok 1), (.tok 2)])]))) 1)) (.lit (.i 1))))] (.leaf [(.sub (.len (.fld (.set (.tok 0) 1 (.app (.fld (.tok 0) 1) (.row [(.mk [(.tok 1), (.tok 2)])]))) 1)) (.lit (.i 1))), (.lit (.i 0)), (.set (.tok 0) 1 (.app (.fld (.tok 0) 1) (.row [(.mk [(.tok 1), (.tok 2)])])))])))))))
theorem qh4 (m0 m1 m2 m3 : Int) (g0 : GfZ) : CdZ [(ja z9.f (.st 28), fun _ => some [.i m0]), (ja z9.f (.st 86), fun _ => some [.i m1]), (ja z9.f (.st 70), fun _ => some [.i m2]), (ja z9.f (.st 72), fun _ => some [.i m3]), (zx, g0)] qal z9 Tryz.f103 q5a := fun cd h => by injection h with h; subst h; kernel_rfl
theorem qkm {g0 : List D → Option (List D)} {g : List D → Option (List D)} (h0 : FOk zx g0) (h : ∀ ds outs, WfA z9.ars ds → g ds = some outs → q5a.go (qb [(ja z9.f (.st 28), fun _ => some [.i (((ds.getD 0 .u).fld 0).rs.length : Nat)]), (ja z9.f (.st 86), fun _ => some [.i (((ds.getD 0 .u).fld 1).rs.length : Nat)]), (ja z9.f (.st 70), fun _ => some [.i (((ds.getD 0 .u).fld 2).rs.length : Nat)]), (ja z9.f (.st 72), fun _ => some [.i (((ds.getD 0 .u).fld 3).rs.length : Nat)]), (zx, g0)]) (fun o => o = outs) ds fun _ _ => False) : FOk z9 g :=
 FOk.of_at q1m fun ds outs hw hg => qwa qal Tryz.f103 _ (.cons (q0v _ q1m _ _) (.cons (q0v _ q1m _ _) (.cons (q0v _ q1m _ _) (.cons (q0v _ q1m _ _) (.cons h0 .nil))))) rfl rfl (by decide) (by rw [qh4 _ _ _ _ g0 _ rfl]; exact h ds outs hw hg) rfl (FlF.of fun k j te hm => by
  rw [show z9.fl = [(0, 0, .st 28), (0, 1, .st 86), (0, 2, .st 70), (0, 3, .st 72)] from rfl] at hm
  simp only [gnM] at hm
  rcases hm with ⟨rfl, rfl, rfl⟩ | ⟨rfl, rfl, rfl⟩ | ⟨rfl, rfl, rfl⟩ | ⟨rfl, rfl, rfl⟩ <;> exact ⟨by decide, Nat.le_refl _⟩)
def j1 : Ct := ⟨92, [.val (.int .i64)], [(.bool, false)], [], none, [], []⟩
theorem qc3 : EnZ j1 := fun _ _ => by kernel_rfl
def qex : Ann := ⟨[0, 2], []⟩
def q33 : Tree := (.leaf [(.not (.eq (.tok 0) (.tok 0)))])
theorem qde : CdZ [] qex j1 Tryz.f92 q33 := fun cd h => by injection h with h; subst h; kernel_rfl
theorem qeu (h : HgZ q33 j1 [] g) : FOk j1 g := yh (qde) .nil rfl rfl qc3 (by decide) h
def z8 : Ct := ⟨57, [.val (.int .i64), .val (.int .i64)], [(.int .i64, false)], [], none, [], []⟩
theorem qa9 : EnZ z8 := fun _ _ => by kernel_rfl
def qc2 : Ann := ⟨[0, 1, 4, 5, 6, 11, 12, 13, 16, 19], []⟩
def q2b : Tree := (.need [(.ok 0 [(.tok 0)])] (.need [(.ok 0 [(.tok 1)])] (.br (.call 0 0 [(.tok 0)]) (.br (.call 0 0 [(.tok 1)]) (.leaf [(.lit (.i 0))]) (.leaf [(.lit (.i (-1)))])) (.br (.call 0 0 [(.tok 1)]) (.leaf [(.lit (.i 1))]) (.br (.lt (.tok 0) (.tok 1)) (.leaf [(.lit (.i (-1)))]) (.br (.lt (.tok 1) (.tok 0)) (.leaf [(.lit (.i 1))]) (.leaf [(.lit (.i 0))])))))))
theorem qav (g0 : GfZ) : CdZ [(j1, g0)] qc2 z8 Tryz.f57 q2b := fun cd h => by injection h with h; subst h; kernel_rfl
theorem qc1 (h0 : FOk j1 g0) (h : HgZ q2b z8 [(j1, g0)] g) : FOk z8 g := yh (qav g0) (.cons h0 .nil) rfl rfl qa9 (by decide) h
def q0j : Ct := ⟨105, [.val (.st 101), .val (.int .i64)], [(.int .i64, false)], [], none, [], []⟩
theorem qii : EnZ q0j := fun _ _ => by kernel_rfl
def qlp : Ann := ⟨[0, 1, 2, 4], []⟩
def q5z : Tree := (.need [(.ok 0 [(.fld (.tok 0) 0), (.tok 1)])] (.leaf [(.call 0 0 [(.fld (.tok 0) 0), (.tok 1)])]))
theorem qje (g0 : GfZ) : CdZ [(z8, g0)] qlp q0j Tryz.f105 q5z := fun cd h => by injection h with h; subst h; kernel_rfl
theorem qmo (h0 : FOk z8 g0) (h : HgZ q5z q0j [(z8, g0)] g) : FOk q0j g := yh (qje g0) (.cons h0 .nil) rfl rfl qii (by decide) h
def qp : Ct := ⟨104, [.val (.row 102), .val (.int .i64), .fn 105 []], [(.int .i64, false), (.bool, false)], [], none, [], []⟩
theorem q3d : EnZ qp := fun _ _ => by kernel_rfl
def q43 : Ann := ⟨[0, 1, 2, 6, 7, 8, 9, 10, 11, 17, 31], [(3, ⟨[(9, .int .i64, false), (10, .int .i64, false)], [], [15, 16, 17, 18, 19, 20, 21, 22, 23, 11, 24, 25, 26, 27, 28, 29, 30, 31, 32, 33, 34], []⟩)]⟩
def jc : Tree :=
 let c : X := .tok 2
 let d : X := .lit (.i 0)
 let e : X := .tok 0
 let a : X := .fn 8 [(.add c (.tok 3)), (.lit (.i 1))]
 let b : X := .lt c (.len e)
 (.loop 3 2 [d, (.len e)] (.br (.lt c (.tok 3)) (.need [(.rng .i64 (.add c (.tok 3))), (.rng .u64 (.add c (.tok 3))), (.rng .u64 a), (.rng .i64 a)] (.need [(.le d a), (.lt a (.len e)), (.ok 0 [(.get e a), (.tok 1)])] (.br (.lt (.call 0 0 [(.get e a), (.tok 1)]) d) (.need [(.rng .i64 (.add a (.lit (.i 1))))] (.back 3 [(.add a (.lit (.i 1))), (.tok 3)])) (.back 3 [c, a])))) (.need [(.imp b (.le d c)), (.imp b b), (.imp b (.ok 0 [(.get e c), (.tok 1)]))] (.leaf [c, (.and b (.eq (.call 0 0 [(.get e c), (.tok 1)]) d))]))))
theorem q3r (g0 : GfZ) : CdZ [(q0j, g0)] q43 qp Tryz.f104 jc := fun cd h => by injection h with h; subst h; kernel_rfl
theorem q41 (h0 : FOk q0j g0) (h : HgZ jc qp [(q0j, g0)] g) : FOk qp g := yh (q3r g0) (.cons h0 .nil) rfl rfl q3d (by decide) h
def q15 : Ct := ⟨106, [.val (.st 28)], [(.st 28, false)], [], none, [], []⟩
theorem qiu : EnZ q15 := fun _ _ => by kernel_rfl
def qr7 : Ann := ⟨[0, 1, 2, 5], []⟩
def q74 : Tree := (.br (.eq (.fld (.tok 0) 0) (.lit (.i 5))) (.leaf [(.set (.tok 0) 0 (.lit (.i 0)))]) (.leaf [(.tok 0)]))
theorem qlu : CdZ [] qr7 q15 Tryz.f106 q74 := fun cd h => by injection h with h; subst h; kernel_rfl
theorem qsl (h : HgZ q74 q15 [] g) : FOk q15 g := yh (qlu) .nil rfl rfl qiu (by decide) h
def qk : Ct := ⟨107, [.own (.row 102), .val (.int .i64), .own (.row 102)], [(.row 102, true)], [], none, [], [(999, 0, .st 28), (999, 1, .st 86), (999, 2, .st 70), (999, 3, .st 72)]⟩
theorem yu : EnZ qk := fun _ _ => by kernel_rfl
def q3o : Ann := ⟨[0, 1, 2, 6, 7, 8, 9, 16, 22, 31, 68], []⟩
def q2x : Tree := (.need [(.le (.lit (.i 0)) (.tok 1)), (.le (.tok 1) (.len (.tok 0)))] (.br (.eq (.len (.tok 2)) (.lit (.i 0))) (.leaf [(.tok 0)]) (.br (.eq (.tok 1) (.len (.tok 0))) (.need [(.le (.add (.len (.tok 0)) (.len (.tok 2))) (.lit (.i 5864062014634)))] (.leaf [(.app (.tok 0) (.tok 2))])) (.bad 8004))))
theorem q97 (m0 m1 m2 m3 : Int) : CdZ [(ja qk.f (.st 28), fun _ => some [.i m0]), (ja qk.f (.st 86), fun _ => some [.i m1]), (ja qk.f (.st 70), fun _ => some [.i m2]), (ja qk.f (.st 72), fun _ => some [.i m3])] q3o qk Tryz.f107 q2x := fun cd h => by injection h with h; subst h; kernel_rfl
def z4 : Ct := ⟨102, [.val (.st 53), .val (.int .i64), .cell 41 5, .ref (.row 102) true, .cell 132 6], [(.st 28, false)], [(.cell 2, .ref (.st 26) true), (.cell 4, .fn 102 [2, 3, 4])], none, [], [(3, 0, .st 28), (3, 1, .st 86), (3, 2, .st 70), (3, 3, .st 72)]⟩
theorem q0o : EnZ z4 := fun _ _ => by kernel_rfl
def qbn : Ann := ⟨[0, 1, 2, 3, 4, 5, 7, 8, 10, 11, 12, 13, 15, 16, 17, 18, 19, 21, 22, 27, 38, 47, 57, 110, 111, 112, 113], [(21, ⟨[(112, .int .i64, false)], [3, 100000], [113, 114, 115, 116, 17, 16, 117, 118, 119, 120, 18, 121, 122, 123, 124, 19, 125, 126, 127, 128, 129, 130, 131, 132], []⟩)]⟩
def q1f : Tree :=
 let e : X := .fld (.tok 0) 3
 let f : X := .tok 3
 let g : X := .lit (.i 0)
 let h : X := .lit (.b .true)
 let j : X := .fld (.tok 0) 1
 let k : X := .tok 2
 let l : X := .call 0 0 []
 let p : X := .lit (.i 1)
 let q : X := .tok 4
 let r : X := .tok 6
 let s : X := .fld (.tok 0) 2
 let y : X := .fld (.tok 0) 0
 let z : X := .lit (.i 8796093021952)
 let d : X := .call 6 0 [k, j]
 let m : X := .le (.call 1 0 []) (.len (.fld f 1))
 let n : X := .le (.call 2 0 []) (.len (.fld f 2))
 let o : X := .le (.call 3 0 []) (.len (.fld f 3))
 let t : X := .le l (.len (.fld f 0))
 let v : X := .len e
 let w : X := .row [(.mk [j, (.mk [g, (.tok 1)])])]
 let x : X := .row [(.mk [j, (.call 8 0 [f])])]
 let a : X := .call 5 2 [f, s, v]
 let c : X := .set a 0 (.app (.fld a 0) (.row [(.mk [(.lit (.i 4)), (.call 5 0 [f, s, v])])]))
 let u : X := .len (.fld a 0)
 let b : X := .add (.add u p) q
 let i : X := .call 4 2 [(.get e q), b, (.tok 5), r]
 (.br (.eq y p) (.leaf [(.mk [p, j]), k, f]) (.br (.eq y (.lit (.i 2))) (.need [(.ok 5 [f, s, g]), t, m, n, o] (.leaf [(.mk [(.lit (.i 2)), (.call 5 0 [f, s, g])]), k, (.call 5 2 [f, s, g])])) (.br (.eq y g) (.need [(.ok 6 [k, j])] (.br (.call 6 1 [k, j]) (.need [(.le g d), (.lt d (.len k)), (.ok 7 [(.fld (.get k d) 1)])] (.leaf [(.call 7 0 [(.fld (.get k d) 1)]), k, f])) (.br (.lt (.tok 1) g) (.need [(.ok 8 [f]), t, m, n, o] (.need [(.ok 9 [k, d, x]), h, h, h, h] (.leaf [(.call 8 0 [f]), (.call 9 0 [k, d, x]), (.call 8 2 [f])]))) (.need [(.ok 9 [k, d, w]), h, h, h, h] (.leaf [(.mk [g, (.tok 1)]), (.call 9 0 [k, d, w]), f]))))) (.need [(.ok 5 [f, s, v]), t, m, n, o] (.need [(.le (.add u p) z), (.le l u)] (.need [(.le g v), (.le v (.lit (.i 16777216))), (.le (.add (.len (.fld c 0)) v) z), (.le l (.len (.fld c 0)))] (.loop 21 4 [g, k, (.set c 0 (.app (.fld c 0) (.rep v (.lit (.a [(.i 0), (.i 0)])))))] (.br (.lt q v) (.need [(.le g q), (.lt q v)] (.need [(.rng .i64 (.add u p)), (.rng .i64 b)] (.need [(.ok 4 [(.get e q), b, (.tok 5), r]), (.le l (.len (.fld r 0))), (.le (.call 1 0 []) (.len (.fld r 1))), (.le (.call 2 0 []) (.len (.fld r 2))), (.le (.call 3 0 []) (.len (.fld r 3)))] (.need [(.le l b), (.le g b), (.lt b (.len (.fld i 0)))] (.need [(.rng .i64 (.add q p))] (.back 21 [(.add q p), (.call 4 1 [(.get e q), b, (.tok 5), r]), (.set i 0 (.put (.fld i 0) b (.call 4 0 [(.get e q), b, (.tok 5), r])))])))))) (.leaf [(.mk [(.lit (.i 3)), u]), (.tok 5), r])))))))))
theorem qk2 (m0 m1 m2 m3 : Int) (g0 g1 g2 g3 g4 g5 : GfZ) : CdZ [(ja z4.f (.st 28), fun _ => some [.i m0]), (ja z4.f (.st 86), fun _ => some [.i m1]), (ja z4.f (.st 70), fun _ => some [.i m2]), (ja z4.f (.st 72), fun _ => some [.i m3]), (z4, g0), (z9, g1), (qp, g2), (q15, g3), (qz, g4), (qk, g5)] qbn z4 Tryz.f102 q1f := fun cd h => by injection h with h; subst h; kernel_rfl
theorem qmz {g0 g1 g2 g3 g4 g5 : List D → Option (List D)} {g : List D → Option (List D)} (h0 : FOk z4 g0) (h1 : FOk z9 g1) (h2 : FOk qp g2) (h3 : FOk q15 g3) (h4 : FOk qz g4) (h5 : FOk qk g5) (h : ∀ ds outs, WfA z4.ars ds → g ds = some outs → q1f.go (qb [(ja z4.f (.st 28), fun _ => some [.i (((ds.getD 3 .u).fld 0).rs.length : Nat)]), (ja z4.f (.st 86), fun _ => some [.i (((ds.getD 3 .u).fld 1).rs.length : Nat)]), (ja z4.f (.st 70), fun _ => some [.i (((ds.getD 3 .u).fld 2).rs.length : Nat)]), (ja z4.f (.st 72), fun _ => some [.i (((ds.getD 3 .u).fld 3).rs.length : Nat)]), (z4, g0), (z9, g1), (qp, g2), (q15, g3), (qz, g4), (qk, g5)]) (fun o => o = outs) ds fun _ _ => False) : FOk z4 g :=
 FOk.of_at q0o fun ds outs hw hg => qwa qbn Tryz.f102 _ (.cons (q0v _ q0o _ _) (.cons (q0v _ q0o _ _) (.cons (q0v _ q0o _ _) (.cons (q0v _ q0o _ _) (.cons h0 (.cons h1 (.cons h2 (.cons h3 (.cons h4 (.cons h5 .nil)))))))))) rfl rfl (by decide) (by rw [qk2 _ _ _ _ g0 g1 g2 g3 g4 g5 _ rfl]; exact h ds outs hw hg) rfl (FlF.of fun k j te hm => by
  rw [show z4.fl = [(3, 0, .st 28), (3, 1, .st 86), (3, 2, .st 70), (3, 3, .st 72)] from rfl] at hm
  simp only [gnM] at hm
  rcases hm with ⟨rfl, rfl, rfl⟩ | ⟨rfl, rfl, rfl⟩ | ⟨rfl, rfl, rfl⟩ | ⟨rfl, rfl, rfl⟩ <;> exact ⟨by decide, Nat.le_refl _⟩)
def j2 : Ct := ⟨99, [.val (.st 26), .val (.row 102)], [(.bool, false)], [], none, [], []⟩
theorem qc5 : EnZ j2 := fun _ _ => by kernel_rfl
def qey : Ann := ⟨[0, 1, 2, 4, 5, 6, 7, 8, 9, 10, 43], [(2, ⟨[(4, .bool, false), (9, .int .i64, false)], [], [10, 11, 12, 13, 6, 5, 14, 15, 16, 17, 18, 19, 20, 21, 22, 23, 24, 25, 26, 27, 28, 29, 30, 31, 32, 33, 34, 35, 36, 37, 38, 39, 40, 41, 42, 43, 44], []⟩)]⟩
def q2t : Tree :=
 let d : X := .tok 3
 let e : X := .len (.tok 1)
 let f : X := .lit (.i 0)
 let a : X := .and (.not (.or (.lt (.fld (.get (.tok 1) d) 0) f) (.lt (.lit (.i 1099511627776)) (.fld (.get (.tok 1) d) 0)))) (.lt f d)
 let c : X := .sub d (.lit (.i 1))
 let g : X := .fld (.get (.tok 1) d) 1
 let b : X := .or (.or (.lt (.fld (.get (.tok 1) d) 0) f) (.lt (.lit (.i 1099511627776)) (.fld (.get (.tok 1) d) 0))) (.and (.lt f d) (.le (.fld (.get (.tok 1) d) 0) (.fld (.get (.tok 1) c) 0)))
 let h : X := .rng .i64 c
 (.loop 2 2 [(.lit (.b .false)), f] (.br (.lt d e) (.need [(.le f d), (.lt d e)] (.need [(.imp (.not b) (.ok 0 [(.tok 0), g])), (.imp a (.le f c)), (.imp a (.lt c e)), (.imp a (.le f c)), (.imp a (.lt c e)), (.imp a h), (.imp a h), (.imp a h)] (.br (.or b (.not (.call 0 0 [(.tok 0), g]))) (.leaf [(.lit (.b .false))]) (.need [(.rng .i64 (.add d (.lit (.i 1))))] (.back 2 [(.tok 2), (.add d (.lit (.i 1)))]))))) (.leaf [(.lit (.b .true))])))
theorem qco (g0 : GfZ) : CdZ [(ql, g0)] qey j2 Tryz.f99 q2t := fun cd h => by injection h with h; subst h; kernel_rfl
theorem qev (h0 : FOk ql g0) (h : HgZ q2t j2 [(ql, g0)] g) : FOk j2 g := yh (qco g0) (.cons h0 .nil) rfl rfl qc5 (by decide) h
def zf : Ct := ⟨118, [.val (.st 53), .ref (.map 87 4) true, .cell 41 5, .ref (.int .i64) true, .cell 146 6], [], [(.cell 2, .rref (.st 26)), (.cell 4, .fn 118 [1, 2, 3, 4])], none, [], []⟩
theorem q8k : EnZ zf := fun _ _ => by kernel_rfl
def qjb : Ann := ⟨[0, 1, 2, 3, 4, 5, 6, 8, 16, 32, 37, 45, 46, 47, 48], [(8, ⟨[(47, .int .i64, false)], [1, 3], [48, 49, 50, 8, 51, 52, 53, 54], []⟩)]⟩
def q54 : Tree :=
 let a : X := .fld (.tok 0) 3
 let b : X := .tok 4
 let f : X := .lit (.i 1)
 let h : X := .lit (.i 0)
 let k : X := .eq (.fld (.tok 0) 0) (.lit (.i 3))
 let n : X := .tok 1
 let s : X := .tok 5
 let t : X := .tok 6
 let c : X := .call 0 0 [(.get a b), s, t, (.tok 3)]
 let d : X := .call 0 1 [(.get a b), s, t, (.tok 3)]
 let e : X := .ok 0 [(.get a b), s, t, (.tok 3)]
 let g : X := .len a
 let o : X := .add b f
 let r : X := .le h b
 let i : X := .mk [(.fld (.tok 0) 2), g]
 let j : X := .add (.tok 2) (.add g f)
 let l : X := .rng .i64 o
 let m : X := .lt b g
 let p : X := .rng .i64 (.add g f)
 let q : X := .not (.fn 0 [n, i, (.lit (.b .false))])
 let u : X := .fn 2 [n, i, (.lit (.b .true))]
 let v : X := .rng .i64 j
 (.br (.or (.eq (.fld (.tok 0) 0) (.lit (.i 2))) k) (.need [(.imp q (.ok 1 [(.tok 3), i]))] (.br (.and q (.lt (.call 1 0 [(.tok 3), i]) h)) (.br k (.need [p, v] (.loop 8 4 [h, u, j] (.br m (.need [r, m] (.need [e] (.need [l] (.back 8 [o, c, d])))) (.leaf [s, t])))) (.loop 8 4 [h, u, (.tok 2)] (.br m (.need [r, m] (.need [e] (.need [l] (.back 8 [o, c, d])))) (.leaf [s, t])))) (.br k (.need [p, v] (.loop 8 4 [h, n, j] (.br m (.need [r, m] (.need [e] (.need [l] (.back 8 [o, c, d])))) (.leaf [s, t])))) (.loop 8 4 [h, n, (.tok 2)] (.br m (.need [r, m] (.need [e] (.need [l] (.back 8 [o, c, d])))) (.leaf [s, t])))))) (.br k (.need [p, v] (.loop 8 4 [h, n, j] (.br m (.need [r, m] (.need [e] (.need [l] (.back 8 [o, c, d])))) (.leaf [s, t])))) (.loop 8 4 [h, n, (.tok 2)] (.br m (.need [r, m] (.need [e] (.need [l] (.back 8 [o, c, d])))) (.leaf [s, t])))))
theorem qgs (g0 g1 : GfZ) : CdZ [(zf, g0), (zx, g1)] qjb zf Tryz.f118 q54 := fun cd h => by injection h with h; subst h; kernel_rfl
theorem qkn (h0 : FOk zf g0) (h1 : FOk zx g1) (h : HgZ q54 zf [(zf, g0), (zx, g1)] g) : FOk zf g := yh (qgs g0 g1) (.cons h0 (.cons h1 .nil)) rfl rfl q8k (by decide) h
def q1b : Ct := ⟨100, [.rref (.st 26), .val (.st 53), .val (.row 102)], [(.bool, false)], [], none, [], []⟩
theorem qk9 : EnZ q1b := fun _ _ => by kernel_rfl
def qpg : Ann := ⟨[0, 1, 2, 3, 4, 6, 7, 9, 10, 11, 14, 23], []⟩
def q7i : Tree :=
 let a : X := .le (.call 0 1 [(.tok 1), (.lit (.mp [])), (.lit (.i 0)), (.tok 0)]) (.sub (.fld (.tok 0) 5) (.len (.fld (.tok 0) 0)))
 let b : X := .fn 3 [(.call 0 0 [(.tok 1), (.lit (.mp [])), (.lit (.i 0)), (.tok 0)])]
 let c : X := .le (.call 0 1 [(.tok 1), (.lit (.mp [])), (.lit (.i 1)), (.tok 0)]) (.sub (.fld (.tok 0) 5) (.len (.fld (.tok 0) 0)))
 let d : X := .fn 3 [(.call 0 0 [(.tok 1), (.lit (.mp [])), (.lit (.i 1)), (.tok 0)])]
 let e : X := .sub (.lit (.i 1048576)) (.len (.fld (.tok 0) 1))
 let f : X := .rng .i64 (.sub (.fld (.tok 0) 5) (.len (.fld (.tok 0) 0)))
 let h : X := .ok 0 [(.tok 1), (.lit (.mp [])), (.lit (.i 0)), (.tok 0)]
 let g : X := .rng .i64 b
 let i : X := .rng .i64 d
 let j : X := .rng .i64 e
 (.br (.eq (.fld (.tok 1) 0) (.lit (.i 0))) (.need [(.ok 1 [(.tok 2), (.fld (.tok 1) 1)])] (.br (.not (.call 1 1 [(.tok 2), (.fld (.tok 1) 1)])) (.need [(.rng .i64 (.lit (.i 1)))] (.need [(.ok 0 [(.tok 1), (.lit (.mp [])), (.lit (.i 1)), (.tok 0)])] (.need [(.imp c i), (.imp c i), (.imp c j), (.imp c i), (.imp c i), f] (.leaf [(.and c (.le d e))])))) (.need [h] (.need [(.imp a g), (.imp a g), (.imp a j), (.imp a g), (.imp a g), f] (.leaf [(.and a (.le b e))]))))) (.need [h] (.need [(.imp a g), (.imp a g), (.imp a j), (.imp a g), (.imp a g), f] (.leaf [(.and a (.le b e))]))))
theorem qmc (g0 g1 : GfZ) : CdZ [(zf, g0), (qp, g1)] qpg q1b Tryz.f100 q7i := fun cd h => by injection h with h; subst h; kernel_rfl
theorem qqj (h0 : FOk zf g0) (h1 : FOk qp g1) (h : HgZ q7i q1b [(zf, g0), (qp, g1)] g) : FOk q1b g := yh (qmc g0 g1) (.cons h0 (.cons h1 .nil)) rfl rfl qk9 (by decide) h
def zs : Ct := ⟨101, [.val (.row 102)], [(.row 102, true)], [], none, [], []⟩
theorem q8j : EnZ zs := fun _ _ => by kernel_rfl
def qa2 : Ann := ⟨[0, 2, 4], []⟩
def q3n : Tree := (.amb (.tok 0) .false (.leaf [(.lit (.r []))]) (.need [(.le (.add (.lit (.i 0)) (.len (.tok 0))) (.lit (.i 5864062014634)))] (.leaf [(.app (.row []) (.tok 0))])))
theorem q9d : CdZ [] qa2 zs Tryz.f101 q3n := fun cd h => by injection h with h; subst h; kernel_rfl
theorem q9w (h : HgZ q3n zs [] g) : FOk zs g := yh (q9d) .nil rfl rfl q8j (by decide) h
def zn : Ct := ⟨65, [.ref (.st 26) true, .val (.st 53), .val (.row 102)], [(.st 28, false), (.row 102, true), (.int .i64, false)], [], none, [], [(0, 0, .st 28), (0, 1, .st 86), (0, 2, .st 70), (0, 3, .st 72)]⟩
theorem q2f : EnZ zn := fun _ _ => by kernel_rfl
def qf3 : Ann := ⟨[0, 1, 2, 3, 4, 6, 7, 8, 9, 24, 30], []⟩
def q8n : Tree := (.need [(.ok 5 [(.tok 1)]), (.imp (.not (.not (.call 5 0 [(.tok 1)]))) (.ok 6 [(.tok 0), (.tok 2)]))] (.br (.or (.not (.call 5 0 [(.tok 1)])) (.not (.call 6 0 [(.tok 0), (.tok 2)]))) (.leaf [(.lit (.a [(.i 0), (.i 0)])), (.lit (.r [])), (.lit (.i 1)), (.tok 0)]) (.need [(.ok 7 [(.tok 0), (.tok 1), (.tok 2)])] (.br (.not (.call 7 0 [(.tok 0), (.tok 1), (.tok 2)])) (.leaf [(.lit (.a [(.i 0), (.i 0)])), (.lit (.r [])), (.lit (.i 13)), (.tok 0)]) (.need [(.ok 8 [(.tok 2)])] (.need [(.ok 4 [(.tok 1), (.lit (.i (-1))), (.call 8 0 [(.tok 2)]), (.tok 0)]), (.le (.call 0 0 []) (.len (.fld (.tok 0) 0))), (.le (.call 1 0 []) (.len (.fld (.tok 0) 1))), (.le (.call 2 0 []) (.len (.fld (.tok 0) 2))), (.le (.call 3 0 []) (.len (.fld (.tok 0) 3)))] (.leaf [(.call 4 0 [(.tok 1), (.lit (.i (-1))), (.call 8 0 [(.tok 2)]), (.tok 0)]), (.call 4 1 [(.tok 1), (.lit (.i (-1))), (.call 8 0 [(.tok 2)]), (.tok 0)]), (.lit (.i 0)), (.call 4 2 [(.tok 1), (.lit (.i (-1))), (.call 8 0 [(.tok 2)]), (.tok 0)])])))))))
theorem qq9 (m0 m1 m2 m3 : Int) (g0 g1 g2 g3 g4 : GfZ) : CdZ [(ja zn.f (.st 28), fun _ => some [.i m0]), (ja zn.f (.st 86), fun _ => some [.i m1]), (ja zn.f (.st 70), fun _ => some [.i m2]), (ja zn.f (.st 72), fun _ => some [.i m3]), (z4, g0), (yg, g1), (j2, g2), (q1b, g3), (zs, g4)] qf3 zn Tryz.f65 q8n := fun cd h => by injection h with h; subst h; kernel_rfl
theorem qt2 {g0 g1 g2 g3 g4 : List D → Option (List D)} {g : List D → Option (List D)} (h0 : FOk z4 g0) (h1 : FOk yg g1) (h2 : FOk j2 g2) (h3 : FOk q1b g3) (h4 : FOk zs g4) (h : ∀ ds outs, WfA zn.ars ds → g ds = some outs → q8n.go (qb [(ja zn.f (.st 28), fun _ => some [.i (((ds.getD 0 .u).fld 0).rs.length : Nat)]), (ja zn.f (.st 86), fun _ => some [.i (((ds.getD 0 .u).fld 1).rs.length : Nat)]), (ja zn.f (.st 70), fun _ => some [.i (((ds.getD 0 .u).fld 2).rs.length : Nat)]), (ja zn.f (.st 72), fun _ => some [.i (((ds.getD 0 .u).fld 3).rs.length : Nat)]), (z4, g0), (yg, g1), (j2, g2), (q1b, g3), (zs, g4)]) (fun o => o = outs) ds fun _ _ => False) : FOk zn g :=
 FOk.of_at q2f fun ds outs hw hg => qwa qf3 Tryz.f65 _ (.cons (q0v _ q2f _ _) (.cons (q0v _ q2f _ _) (.cons (q0v _ q2f _ _) (.cons (q0v _ q2f _ _) (.cons h0 (.cons h1 (.cons h2 (.cons h3 (.cons h4 .nil))))))))) rfl rfl (by decide) (by rw [qq9 _ _ _ _ g0 g1 g2 g3 g4 _ rfl]; exact h ds outs hw hg) rfl (FlF.of fun k j te hm => by
  rw [show zn.fl = [(0, 0, .st 28), (0, 1, .st 86), (0, 2, .st 70), (0, 3, .st 72)] from rfl] at hm
  simp only [gnM] at hm
  rcases hm with ⟨rfl, rfl, rfl⟩ | ⟨rfl, rfl, rfl⟩ | ⟨rfl, rfl, rfl⟩ | ⟨rfl, rfl, rfl⟩ <;> exact ⟨by decide, Nat.le_refl _⟩)
def q0g : Ct := ⟨76, [.val (.st 65), .rref (.str)], [(.bool, false)], [], none, [], []⟩
theorem qh7 : EnZ q0g := fun _ _ => by kernel_rfl
def qm1 : Ann := ⟨[0, 1, 2, 3], []⟩
def q5r : Tree := (.leaf [(.eq (.fld (.tok 0) 0) (.tok 1))])
theorem qj2 : CdZ [] qm1 q0g Tryz.f76 q5r := fun cd h => by injection h with h; subst h; kernel_rfl
theorem qnm (h : HgZ q5r q0g [] g) : FOk q0g g := yh (qj2) .nil rfl rfl qh7 (by decide) h
def z6 : Ct := ⟨75, [.val (.row 66), .fn 76 [2]], [(.int .i64, false)], [(.cap 1 0, .rref (.str))], none, [], []⟩
theorem q4x : EnZ z6 := fun _ _ => by kernel_rfl
def q62 : Ann := ⟨[0, 1, 4, 5, 7, 8, 9, 16], [(2, ⟨[(4, .int .i64, false), (8, .int .i64, false)], [], [9, 10, 5, 11, 12, 13, 14, 15, 16, 17, 18], []⟩)]⟩
def q01 : Tree := (.loop 2 2 [(.lit (.i 0)), (.lit (.i 0))] (.br (.lt (.tok 3) (.len (.tok 0))) (.need [(.le (.lit (.i 0)) (.tok 3)), (.lt (.tok 3) (.len (.tok 0))), (.ok 0 [(.get (.tok 0) (.tok 3)), (.tok 1)])] (.br (.call 0 0 [(.get (.tok 0) (.tok 3)), (.tok 1)]) (.leaf [(.tok 3)]) (.need [(.rng .i64 (.add (.tok 3) (.lit (.i 1))))] (.back 2 [(.tok 2), (.add (.tok 3) (.lit (.i 1)))])))) (.leaf [(.lit (.i (-1)))])))
theorem q5h (g0 : GfZ) : CdZ [(q0g, g0)] q62 z6 Tryz.f75 q01 := fun cd h => by injection h with h; subst h; kernel_rfl
theorem q6b (h0 : FOk q0g g0) (h : HgZ q01 z6 [(q0g, g0)] g) : FOk z6 g := yh (q5h g0) (.cons h0 .nil) rfl rfl q4x (by decide) h
def y7 : Ct := ⟨34, [.val (.row 66), .val (.str)], [(.int .i64, false)], [], none, [], []⟩
theorem qnh : EnZ y7 := fun _ _ => by kernel_rfl
def qtr : Ann := ⟨[0, 1, 3, 4], []⟩
def q8w : Tree := (.need [(.ok 0 [(.tok 0), (.tok 1)])] (.leaf [(.call 0 0 [(.tok 0), (.tok 1)])]))
theorem qqt (g0 : GfZ) : CdZ [(z6, g0)] qtr y7 Tryz.f34 q8w := fun cd h => by injection h with h; subst h; kernel_rfl
theorem qsu (h0 : FOk z6 g0) (h : HgZ q8w y7 [(z6, g0)] g) : FOk y7 g := yh (qqt g0) (.cons h0 .nil) rfl rfl qnh (by decide) h
def yq : Ct := ⟨44, [.ref (.st 26) true, .val (.row 66)], [(.st 28, false), (.int .i64, false)], [], none, [], []⟩
theorem qky : EnZ yq := fun _ _ => by kernel_rfl
def qq5 : Ann := ⟨[0, 1, 4, 5, 6, 7, 8, 9, 10, 11, 12, 13], [(4, ⟨[(6, .row 54, false), (7, .row 102, false), (12, .int .i64, false)], [], [13, 14, 15, 16, 9, 8, 17, 18, 19, 20, 21, 22, 23, 24, 25, 26, 27, 28, 29, 30, 31, 32, 33, 34], []⟩)]⟩
def q7h : Tree :=
 let b : X := .tok 4
 let d : X := .lit (.i 1)
 let e : X := .tok 3
 let f : X := .lit (.s ⟨#[91, 93]⟩)
 let h : X := .lit (.s ⟨#[45]⟩)
 let a : X := .call 3 0 [(.tok 2), (.call 0 0 [f])]
 let c : X := .row [(.call 0 0 [(.fld (.get (.tok 1) b) 0)]), (.call 1 0 [b])]
 let g : X := .lt b (.len (.tok 1))
 (.loop 4 2 [(.lit (.r [])), (.lit (.r [])), (.lit (.i 0))] (.br g (.need [(.le (.lit (.i 0)) b), g] (.need [(.ok 0 [(.fld (.get (.tok 1) b) 0)]), (.ok 1 [b]), (.ok 2 [h, c]), (.le (.add (.len (.tok 2)) d) (.lit (.i 2513169434843)))] (.need [(.le (.add (.len e) d) (.lit (.i 5864062014634)))] (.need [(.rng .i64 (.add b d))] (.back 4 [(.app (.tok 2) (.row [(.call 2 0 [h, c])])), (.app e (.row [(.mk [b, (.fld (.get (.tok 1) b) 1)])])), (.add b d)]))))) (.need [(.ok 0 [f]), (.ok 3 [(.tok 2), (.call 0 0 [f])]), (.ok 4 [(.tok 0), a, e])] (.leaf [(.call 4 0 [(.tok 0), a, e]), (.call 4 2 [(.tok 0), a, e]), (.call 4 3 [(.tok 0), a, e])]))))
theorem qmf (g0 g1 g2 g3 g4 : GfZ) : CdZ [(zq, g0), (q14, g1), (j6, g2), (q0y, g3), (zn, g4)] qq5 yq Tryz.f44 q7h := fun cd h => by injection h with h; subst h; kernel_rfl
theorem qq6 {g4 : GfZ} (h0 : FOk zq g0) (h1 : FOk q14 g1) (h2 : FOk j6 g2) (h3 : FOk q0y g3) (h4 : FOk zn g4) (h : HgZ q7h yq [(zq, g0), (q14, g1), (j6, g2), (q0y, g3), (zn, g4)] g) : FOk yq g := yh (qmf g0 g1 g2 g3 g4) (.cons h0 (.cons h1 (.cons h2 (.cons h3 (.cons h4 .nil))))) rfl rfl qky (by decide) h
def q0l : Ct := ⟨84, [.rref (.st 26), .val (.int .i64)], [(.bool, false)], [], none, [], []⟩
theorem qs2 : EnZ q0l := fun _ _ => by kernel_rfl
def qyd : Ann := ⟨[0, 1, 4], []⟩
def q9z : Tree := (.leaf [(.and (.le (.lit (.i 0)) (.tok 1)) (.lt (.tok 1) (.len (.fld (.tok 0) 0))))])
theorem qte : CdZ [] qyd q0l Tryz.f84 q9z := fun cd h => by injection h with h; subst h; kernel_rfl
theorem qx1 (h : HgZ q9z q0l [] g) : FOk q0l g := yh (qte) .nil rfl rfl qs2 (by decide) h
def je : Ct := ⟨85, [.rref (.st 26), .val (.int .i64)], [(.bool, false)], [], none, [], []⟩
theorem qcr : EnZ je := fun _ _ => by kernel_rfl
def qfv : Ann := ⟨[0, 1, 4, 5, 14, 15, 21, 23], []⟩
def q3v : Tree :=
 let a : X := .sub (.tok 1) (.lit (.i 2))
 let b : X := .le (.lit (.i 2)) (.tok 1)
 let c : X := .fld (.get (.fld (.tok 0) 0) (.tok 1)) 0
 let e : X := .len (.fld (.tok 0) 0)
 let f : X := .lit (.i 0)
 let g : X := .lit (.b .false)
 let d : X := .and b (.eq (.fld (.get (.fld (.tok 0) 0) a) 0) (.lit (.i 5)))
 let h : X := .rng .i64 a
 (.need [(.le f (.tok 1)), (.lt (.tok 1) e)] (.br (.eq c f) (.leaf [(.eq (.get (.fld (.tok 0) 0) (.tok 1)) (.mk [f, (.tok 1)]))]) (.br (.eq c (.lit (.i 5))) (.leaf [(.lit (.b .true))]) (.br (.eq c (.lit (.i 1))) (.br (.eq c (.lit (.i 1))) (.need [(.imp b h), (.imp b (.le f a)), (.imp b (.lt a e))] (.leaf [d])) (.leaf [g])) (.br (.eq c (.lit (.i 2))) (.br (.eq c (.lit (.i 2))) (.need [(.imp b h), (.imp b (.le f a)), (.imp b (.lt a e))] (.leaf [d])) (.leaf [g])) (.br (.eq c (.lit (.i 3))) (.need [(.imp b h), (.imp b (.le f a)), (.imp b (.lt a e))] (.leaf [d])) (.leaf [g])))))))
theorem qee : CdZ [] qfv je Tryz.f85 q3v := fun cd h => by injection h with h; subst h; kernel_rfl
theorem qgj (h : HgZ q3v je [] g) : FOk je g := yh (qee) .nil rfl rfl qcr (by decide) h
def q1a : Ct := ⟨87, [.val (.st 28)], [(.st 28, false)], [], none, [], []⟩
theorem qjw : EnZ q1a := fun _ _ => by kernel_rfl
def qp8 : Ann := ⟨[0, 1, 2, 5], []⟩
def q7j : Tree := (.br (.eq (.fld (.tok 0) 0) (.lit (.i 5))) (.leaf [(.set (.tok 0) 0 (.lit (.i 0)))]) (.leaf [(.tok 0)]))
theorem qn1 : CdZ [] qp8 q1a Tryz.f87 q7j := fun cd h => by injection h with h; subst h; kernel_rfl
theorem qrm (h : HgZ q7j q1a [] g) : FOk q1a g := yh (qn1) .nil rfl rfl qjw (by decide) h
def q0f : Ct := ⟨86, [.rref (.st 26), .val (.st 28), .val (.int .i64)], [(.bool, false)], [], none, [], []⟩
theorem qgx : EnZ q0f := fun _ _ => by kernel_rfl
def qne : Ann := ⟨[0, 1, 2, 4, 6, 7, 13, 14, 15, 25, 29, 40], [(2, ⟨[(6, .bool, false), (14, .int .i64, false)], [4], [15, 16, 17, 18, 19, 20, 21, 22, 23, 24, 25, 26, 27, 28, 29, 30, 31, 32, 33, 34, 35, 36, 37, 7, 38, 39, 40, 41, 42], []⟩)]⟩
def q6j : Tree := (.need [(.rng .i64 (.add (.len (.fld (.tok 0) 0)) (.lit (.i 1))))] (.loop 2 3 [(.lit (.b .false)), (.lit (.i 0)), (.tok 1)] (.br (.lt (.tok 4) (.add (.len (.fld (.tok 0) 0)) (.lit (.i 1)))) (.need [(.imp (.not (.not (.eq (.fld (.tok 5) 0) (.lit (.i 0))))) (.ok 0 [(.tok 0), (.fld (.tok 5) 1)]))] (.br (.or (.not (.eq (.fld (.tok 5) 0) (.lit (.i 0)))) (.not (.call 0 0 [(.tok 0), (.fld (.tok 5) 1)]))) (.leaf [(.lit (.b .false))]) (.br (.eq (.fld (.tok 5) 1) (.tok 2)) (.leaf [(.lit (.b .true))]) (.need [(.le (.lit (.i 0)) (.fld (.tok 5) 1)), (.lt (.fld (.tok 5) 1) (.len (.fld (.tok 0) 0)))] (.br (.eq (.get (.fld (.tok 0) 0) (.fld (.tok 5) 1)) (.tok 5)) (.leaf [(.lit (.b .false))]) (.need [(.rng .i64 (.add (.tok 4) (.lit (.i 1))))] (.back 2 [(.tok 3), (.add (.tok 4) (.lit (.i 1))), (.get (.fld (.tok 0) 0) (.fld (.tok 5) 1))]))))))) (.leaf [(.lit (.b .false))]))))
theorem qj4 (g0 : GfZ) : CdZ [(q0l, g0)] qne q0f Tryz.f86 q6j := fun cd h => by injection h with h; subst h; kernel_rfl
theorem qnq (h0 : FOk q0l g0) (h : HgZ q6j q0f [(q0l, g0)] g) : FOk q0f g := yh (qj4 g0) (.cons h0 .nil) rfl rfl qgx (by decide) h
def zg : Ct := ⟨45, [.ref (.st 26) true, .val (.int .i64), .val (.st 28)], [(.int .i64, false)], [], none, [], []⟩
theorem qno : EnZ zg := fun _ _ => by kernel_rfl
def qsr : Ann := ⟨[0, 1, 2, 5, 6, 35], []⟩
def q8i : Tree :=
 let c : X := .tok 0
 let d : X := .tok 1
 let e : X := .tok 2
 let h : X := .lit (.i 0)
 let b : X := .set c 2 (.app (.fld c 2) (.row [(.mk [d, (.get (.fld c 0) d)])]))
 let f : X := .call 3 0 [e]
 let g : X := .not (.call 0 0 [c, d])
 let a : X := .or (.or g (.not (.call 1 0 [c, e]))) (.not (.call 2 0 [c, d]))
 (.need [(.imp (.not a) (.ok 4 [c, f, d])), (.imp (.not a) (.ok 3 [e])), (.imp (.not a) (.ok 3 [e])), (.imp (.not (.or g (.not (.call 1 0 [c, e])))) (.ok 2 [c, d])), (.imp (.not g) (.ok 1 [c, e])), (.ok 0 [c, d])] (.br (.or a (.call 4 0 [c, f, d])) (.leaf [(.lit (.i 1)), c]) (.need [(.le h d), (.lt d (.len (.fld c 0))), (.le (.add (.len (.fld c 2)) (.lit (.i 1))) (.lit (.i 5864062014634)))] (.need [(.ok 3 [e]), (.le h d), (.lt d (.len (.fld b 0)))] (.leaf [h, (.set b 0 (.put (.fld b 0) d f))])))))
theorem qol (g0 g1 g2 g3 g4 : GfZ) : CdZ [(q0l, g0), (ql, g1), (je, g2), (q1a, g3), (q0f, g4)] qsr zg Tryz.f45 q8i := fun cd h => by injection h with h; subst h; kernel_rfl
theorem qst {g4 : GfZ} (h0 : FOk q0l g0) (h1 : FOk ql g1) (h2 : FOk je g2) (h3 : FOk q1a g3) (h4 : FOk q0f g4) (h : HgZ q8i zg [(q0l, g0), (ql, g1), (je, g2), (q1a, g3), (q0f, g4)] g) : FOk zg g := yh (qol g0 g1 g2 g3 g4) (.cons h0 (.cons h1 (.cons h2 (.cons h3 (.cons h4 .nil))))) rfl rfl qno (by decide) h
def q0b : Ct := ⟨91, [.val (.st 28)], [(.st 28, false)], [], none, [], []⟩
theorem qmn : EnZ q0b := fun _ _ => by kernel_rfl
def qtq : Ann := ⟨[0, 1, 2, 5], []⟩
def q92 : Tree := (.br (.eq (.fld (.tok 0) 0) (.lit (.i 5))) (.leaf [(.set (.tok 0) 0 (.lit (.i 0)))]) (.leaf [(.tok 0)]))
theorem qs6 : CdZ [] qtq q0b Tryz.f91 q92 := fun cd h => by injection h with h; subst h; kernel_rfl
theorem quc (h : HgZ q92 q0b [] g) : FOk q0b g := yh (qs6) .nil rfl rfl qmn (by decide) h
def q08 : Ct := ⟨54, [.ref (.st 26) true, .val (.st 28), .val (.st 28)], [(.int .i64, false)], [], none, [], []⟩
theorem qnt : EnZ q08 := fun _ _ => by kernel_rfl
def qub : Ann := ⟨[0, 1, 2, 4, 5, 6, 7, 8, 37], []⟩
def q51 : Tree := (.need [(.ok 0 [(.tok 2)]), (.ok 0 [(.tok 2)]), (.le (.lit (.i 0)) (.add (.fld (.tok 1) 1) (.lit (.i 2)))), (.lt (.add (.fld (.tok 1) 1) (.lit (.i 2))) (.len (.fld (.tok 0) 0))), (.rng .i64 (.add (.fld (.tok 1) 1) (.lit (.i 2)))), (.le (.lit (.i 0)) (.add (.fld (.tok 1) 1) (.lit (.i 1)))), (.lt (.add (.fld (.tok 1) 1) (.lit (.i 1))) (.len (.fld (.tok 0) 0))), (.rng .i64 (.add (.fld (.tok 1) 1) (.lit (.i 1))))] (.need [(.ok 1 [(.tok 0), (.fld (.tok 1) 1), (.tok 2)])] (.br (.not (.eq (.call 1 0 [(.tok 0), (.fld (.tok 1) 1), (.tok 2)]) (.lit (.i 0)))) (.leaf [(.call 1 0 [(.tok 0), (.fld (.tok 1) 1), (.tok 2)]), (.call 1 1 [(.tok 0), (.fld (.tok 1) 1), (.tok 2)])]) (.need [(.le (.add (.len (.fld (.call 1 1 [(.tok 0), (.fld (.tok 1) 1), (.tok 2)]) 3)) (.lit (.i 1))) (.lit (.i 3518437208780)))] (.leaf [(.lit (.i 0)), (.set (.call 1 1 [(.tok 0), (.fld (.tok 1) 1), (.tok 2)]) 3 (.app (.fld (.call 1 1 [(.tok 0), (.fld (.tok 1) 1), (.tok 2)]) 3) (.row [(.mk [(.fld (.get (.fld (.tok 0) 0) (.add (.fld (.tok 1) 1) (.lit (.i 1)))) 1), (.get (.fld (.tok 0) 0) (.add (.fld (.tok 1) 1) (.lit (.i 2)))), (.call 0 0 [(.tok 2)])])])))])))))
theorem qp7 (g0 g1 : GfZ) : CdZ [(q0b, g0), (zg, g1)] qub q08 Tryz.f54 q51 := fun cd h => by injection h with h; subst h; kernel_rfl
theorem qf1 (h0 : FOk q0b g0) (h1 : FOk zg g1) (h : HgZ q51 q08 [(q0b, g0), (zg, g1)] g) : FOk q08 g := yh (qp7 g0 g1) (.cons h0 (.cons h1 .nil)) rfl rfl qnt (by decide) h
def q0d : Ct := ⟨56, [.val (.row 3)], [(.int .i64, false)], [], none, [], []⟩
theorem qj8 : EnZ q0d := fun _ _ => by kernel_rfl
def qor : Ann := ⟨[0, 2, 3, 5, 6, 7, 8, 9, 14], [(3, ⟨[(2, .int .i64, false), (8, .int .i64, false)], [], [9, 10, 11, 5, 12, 13, 14, 15, 16], []⟩)]⟩
def q7f : Tree := (.loop 3 1 [(.lit (.i 0)), (.lit (.i 0))] (.br (.lt (.tok 2) (.len (.tok 0))) (.need [(.le (.lit (.i 0)) (.tok 2)), (.lt (.tok 2) (.len (.tok 0)))] (.br (.not (.eq (.get (.tok 0) (.tok 2)) (.lit (.i 0)))) (.leaf [(.get (.tok 0) (.tok 2))]) (.need [(.rng .i64 (.add (.tok 2) (.lit (.i 1))))] (.back 3 [(.tok 1), (.add (.tok 2) (.lit (.i 1)))])))) (.leaf [(.lit (.i 0))])))
theorem qmy : CdZ [] qor q0d Tryz.f56 q7f := fun cd h => by injection h with h; subst h; kernel_rfl
theorem qov (h : HgZ q7f q0d [] g) : FOk q0d g := yh (qmy) .nil rfl rfl qj8 (by decide) h
def q3k : Ct := ⟨21, [.ref (.st 26) true, .val (.st 28), .val (.st 28)], [(.int .i64, false)], [], none, [], []⟩
theorem qmu : EnZ q3k := fun _ _ => by kernel_rfl
def qtc : Ann := ⟨[0, 1, 2, 4, 5, 6, 7, 8, 9, 11, 34, 40, 44, 53, 61, 107], []⟩
def q8a : Tree :=
 let c : X := .tok 0
 let f : X := .lit (.i 1)
 let k : X := .lit (.i 0)
 let a : X := .call 2 0 [c, (.tok 2)]
 let b : X := .call 0 0 [c, (.tok 1)]
 let l : X := .fld c 0
 let d : X := .fld a 1
 let g : X := .or (.not (.call 0 1 [c, (.tok 1)])) (.not (.eq (.fld b 0) (.lit (.i 5))))
 let j : X := .add (.fld b 1) f
 let h : X := .not (.call 5 0 [c, d])
 let i : X := .add d (.lit (.i 2))
 let m : X := .add d f
 let e : X := .row [(.call 6 0 [(.fld (.get l j) 1), (.fld (.get l m) 1)]), (.call 6 0 [(.fld b 1), d])]
 (.need [(.ok 0 [c, (.tok 1)]), (.ok 0 [c, (.tok 1)])] (.need [(.imp (.not g) (.ok 1 [c, (.tok 2)]))] (.br (.or g (.not (.call 1 0 [c, (.tok 2)]))) (.leaf [f, c]) (.need [(.ok 2 [c, (.tok 2)]), (.ok 2 [c, (.tok 2)])] (.br (.eq a b) (.leaf [k, c]) (.br (.eq (.fld a 0) k) (.need [(.ok 3 [c, d, b])] (.leaf [(.call 3 0 [c, d, b]), (.call 3 1 [c, d, b])])) (.br (.not (.eq (.fld a 0) (.lit (.i 5)))) (.need [(.ok 4 [c, b, a])] (.leaf [(.call 4 0 [c, b, a]), (.call 4 1 [c, b, a])])) (.need [(.imp (.not h) (.ok 5 [c, i])), (.imp (.not h) (.rng .i64 i)), (.imp (.not h) (.rng .i64 i)), (.ok 5 [c, d])] (.br (.or h (.not (.call 5 0 [c, i]))) (.leaf [f, c]) (.need [(.ok 7 [e]), (.ok 6 [(.fld b 1), d]), (.ok 6 [(.fld (.get l j) 1), (.fld (.get l m) 1)]), (.le k m), (.lt m (.len l)), (.rng .i64 m), (.le k j), (.lt j (.len l)), (.rng .i64 j)] (.br (.lt k (.call 7 0 [e])) (.need [(.ok 4 [c, b, a])] (.leaf [(.call 4 0 [c, b, a]), (.call 4 1 [c, b, a])])) (.need [(.ok 4 [c, a, b])] (.leaf [(.call 4 0 [c, a, b]), (.call 4 1 [c, a, b])])))))))))))))
theorem qoo (g0 g1 g2 g3 g4 g5 g6 g7 : GfZ) : CdZ [(qs, g0), (ql, g1), (zb, g2), (zg, g3), (q08, g4), (jm, g5), (z8, g6), (q0d, g7)] qtc q3k Tryz.f21 q8a := fun cd h => by injection h with h; subst h; kernel_rfl
theorem qt1 {g4 g5 g6 g7 : GfZ} (h0 : FOk qs g0) (h1 : FOk ql g1) (h2 : FOk zb g2) (h3 : FOk zg g3) (h4 : FOk q08 g4) (h5 : FOk jm g5) (h6 : FOk z8 g6) (h7 : FOk q0d g7) (h : HgZ q8a q3k [(qs, g0), (ql, g1), (zb, g2), (zg, g3), (q08, g4), (jm, g5), (z8, g6), (q0d, g7)] g) : FOk q3k g := yh (qoo g0 g1 g2 g3 g4 g5 g6 g7) (.cons h0 (.cons h1 (.cons h2 (.cons h3 (.cons h4 (.cons h5 (.cons h6 (.cons h7 .nil)))))))) rfl rfl qmu (by decide) h
def jn : Ct := ⟨60, [.val (.row 73)], [(.row 73, true)], [], none, [], []⟩
theorem qam : EnZ jn := fun _ _ => by kernel_rfl
def qca : Ann := ⟨[0, 2, 4], []⟩
def q4v : Tree := (.amb (.tok 0) .false (.leaf [(.lit (.r []))]) (.need [(.le (.add (.lit (.i 0)) (.len (.tok 0))) (.lit (.i 3518437208780)))] (.leaf [(.app (.row []) (.tok 0))])))
theorem qb9 : CdZ [] qca jn Tryz.f60 q4v := fun cd h => by injection h with h; subst h; kernel_rfl
theorem qc8 (h : HgZ q4v jn [] g) : FOk jn g := yh (qb9) .nil rfl rfl qam (by decide) h
def q16 : Ct := ⟨31, [.val (.int .i64)], [(.st 53, false)], [], none, [], []⟩
theorem qru : EnZ q16 := fun _ _ => by kernel_rfl
def qy5 : Ann := ⟨[0, 2], []⟩
def qa0 : Tree := (.leaf [(.set (.set (.lit (.a [(.i 0), (.i 0), (.s ⟨#[]⟩), (.r [])])) 0 (.lit (.i 1))) 1 (.tok 0))])
theorem qsv : CdZ [] qy5 q16 Tryz.f31 qa0 := fun cd h => by injection h with h; subst h; kernel_rfl
theorem qxk (h : HgZ qa0 q16 [] g) : FOk q16 g := yh (qsv) .nil rfl rfl qru (by decide) h
def yi : Ct := ⟨69, [.val (.st 28), .ref (.int .i64) true, .rref (.st 26), .cell 106 4], [(.st 53, false)], [(.cell 3, .fn 69 [1, 2, 3])], none, [], []⟩
theorem q9o : EnZ yi := fun _ _ => by kernel_rfl
def qm7 : Ann := ⟨[0, 1, 2, 3, 4, 5, 6, 7, 8, 12, 17, 24, 43, 99], [(13, ⟨[(8, .int .i64, false)], [1, 7], [83, 84, 85, 86, 87, 88, 89, 90, 91, 92, 93, 94, 95, 96, 97, 98, 99, 102, 103, 104, 105, 106, 107, 108, 109, 110, 111, 112, 113, 100, 101], []⟩)]⟩
def q61 : Tree :=
 let c : X := .tok 2
 let f : X := .lit (.i 0)
 let g : X := .lit (.a [(.i 0), (.i 0), (.s ⟨#[]⟩), (.r [])])
 let j : X := .tok 3
 let k : X := .lit (.i 1)
 let n : X := .tok 4
 let a : X := .fld (.call 1 0 [c, (.tok 0)]) 1
 let e : X := .sub (.tok 1) k
 let h : X := .fld (.call 1 0 [c, (.tok 0)]) 0
 let l : X := .fld c 0
 let m : X := .fld c 1
 let b : X := .and (.eq h (.lit (.i 3))) (.eq (.call 5 0 [c, a]) (.lit (.i 4)))
 let d : X := .fld (.get l a) 1
 let i : X := .add a (.fld (.get m d) 1)
 (.need [(.rng .i64 e)] (.br (.lt e f) (.leaf [g, e]) (.need [(.ok 1 [c, (.tok 0)])] (.br (.eq h k) (.need [(.ok 2 [a])] (.leaf [(.call 2 0 [a]), e])) (.need [(.imp (.eq h (.lit (.i 2))) (.ok 3 [c, a]))] (.br (.and (.eq h (.lit (.i 2))) (.le f (.call 3 0 [c, a]))) (.need [(.le f a), (.lt a (.len m)), (.ok 4 [(.fld (.get m a) 0)])] (.leaf [(.call 4 0 [(.fld (.get m a) 0)]), e])) (.need [(.imp b (.ok 3 [c, d])), (.imp b (.le f a)), (.imp b (.lt a (.len l))), (.imp (.eq h (.lit (.i 3))) (.ok 5 [c, a]))] (.br (.and b (.le f (.call 3 0 [c, d]))) (.need [(.le f d), (.lt d (.len m)), (.le f a), (.lt a (.len l))] (.need [(.rng .i64 (.add a k))] (.loop 13 3 [(.add a k), e, (.set (.set g 0 (.lit (.i 3))) 2 (.fld (.get m d) 0))] (.need [(.rng .i64 i), (.imp (.le j i) (.ok 5 [c, j]))] (.br (.and (.and (.le j i) (.le f (.call 5 0 [c, j]))) (.le f n)) (.need [(.le (.add (.len (.fld (.tok 5) 3)) k) (.lit (.i 2513169434843))), (.ok 0 [(.get l j), n, c]), (.le f j), (.lt j (.len l))] (.need [(.rng .i64 (.add j k))] (.back 13 [(.add j k), (.call 0 1 [(.get l j), n, c]), (.set (.tok 5) 3 (.app (.fld (.tok 5) 3) (.row [(.call 0 0 [(.get l j), n, c])])))]))) (.leaf [(.tok 5), n])))))) (.leaf [(.set (.set g 0 f) 1 a), e])))))))))
theorem qkr (g0 g1 g2 g3 g4 g5 : GfZ) : CdZ [(yi, g0), (zb, g1), (q16, g2), (yp, g3), (zq, g4), (yo, g5)] qm7 yi Tryz.f69 q61 := fun cd h => by injection h with h; subst h; kernel_rfl
theorem qm8 {g4 g5 : GfZ} (h0 : FOk yi g0) (h1 : FOk zb g1) (h2 : FOk q16 g2) (h3 : FOk yp g3) (h4 : FOk zq g4) (h5 : FOk yo g5) (h : HgZ q61 yi [(yi, g0), (zb, g1), (q16, g2), (yp, g3), (zq, g4), (yo, g5)] g) : FOk yi g := yh (qkr g0 g1 g2 g3 g4 g5) (.cons h0 (.cons h1 (.cons h2 (.cons h3 (.cons h4 (.cons h5 .nil)))))) rfl rfl q9o (by decide) h
def q39 : Ct := ⟨27, [.val (.st 26), .val (.st 28)], [(.st 53, false), (.int .i64, false)], [], none, [], []⟩
theorem qnr : EnZ q39 := fun _ _ => by kernel_rfl
def qua : Ann := ⟨[0, 1, 2, 3, 4, 5, 6, 7, 11, 18], []⟩
def q93 : Tree := (.need [(.ok 1 [(.tok 0), (.tok 1)])] (.br (.not (.call 1 0 [(.tok 0), (.tok 1)])) (.leaf [(.lit (.a [(.i 0), (.i 0), (.s ⟨#[]⟩), (.r [])])), (.lit (.i 1))]) (.need [(.ok 0 [(.tok 1), (.lit (.i 2000)), (.tok 0)])] (.br (.lt (.call 0 1 [(.tok 1), (.lit (.i 2000)), (.tok 0)]) (.lit (.i 0))) (.leaf [(.lit (.a [(.i 0), (.i 0), (.s ⟨#[]⟩), (.r [])])), (.lit (.i 2))]) (.leaf [(.call 0 0 [(.tok 1), (.lit (.i 2000)), (.tok 0)]), (.lit (.i 0))])))))
theorem qqf (g0 g1 : GfZ) : CdZ [(yi, g0), (ql, g1)] qua q39 Tryz.f27 q93 := fun cd h => by injection h with h; subst h; kernel_rfl
theorem qt7 (h0 : FOk yi g0) (h1 : FOk ql g1) (h : HgZ q93 q39 [(yi, g0), (ql, g1)] g) : FOk q39 g := yh (qqf g0 g1) (.cons h0 (.cons h1 .nil)) rfl rfl qnr (by decide) h
def yd : Ct := ⟨125, [.val (.st 53), .val (.int .i64)], [(.int .i64, false)], [], none, [], []⟩
theorem q58 : EnZ yd := fun _ _ => by kernel_rfl
def qn9 : Ann := ⟨[0, 1, 2, 4, 5, 6, 16], [(3, ⟨[(5, .int .i64, false), (6, .int .i64, false)], [], [7, 8, 9, 10, 11, 12, 13, 14, 15, 16, 19, 20, 21, 22, 23, 24, 25, 26, 27, 28, 29, 17, 18], []⟩)]⟩
def q3a : Tree := (.loop 3 2 [(.lit (.i 1)), (.lit (.i 0))] (.br (.and (.lt (.tok 3) (.len (.fld (.tok 0) 3))) (.lt (.tok 2) (.tok 1))) (.need [(.le (.lit (.i 0)) (.tok 3)), (.lt (.tok 3) (.len (.fld (.tok 0) 3))), (.rng .i64 (.sub (.tok 1) (.tok 2))), (.ok 0 [(.get (.fld (.tok 0) 3) (.tok 3)), (.sub (.tok 1) (.tok 2))]), (.rng .i64 (.add (.tok 2) (.call 0 0 [(.get (.fld (.tok 0) 3) (.tok 3)), (.sub (.tok 1) (.tok 2))])))] (.need [(.rng .i64 (.add (.tok 3) (.lit (.i 1))))] (.back 3 [(.add (.tok 2) (.call 0 0 [(.get (.fld (.tok 0) 3) (.tok 3)), (.sub (.tok 1) (.tok 2))])), (.add (.tok 3) (.lit (.i 1)))]))) (.leaf [(.tok 2)])))
theorem qj0 (g0 : GfZ) : CdZ [(yd, g0)] qn9 yd Tryz.f125 q3a := fun cd h => by injection h with h; subst h; kernel_rfl
theorem qbq (h0 : FOk yd g0) (h : HgZ q3a yd [(yd, g0)] g) : FOk yd g := yh (qj0 g0) (.cons h0 .nil) rfl rfl q58 (by decide) h
def jw : Ct := ⟨110, [.val (.st 53)], [(.int .i64, false)], [], none, [], []⟩
theorem qjq : EnZ jw := fun _ _ => by kernel_rfl
def qs0 : Ann := ⟨[0, 1, 2], []⟩
def q45 : Tree := (.need [(.ok 0 [(.tok 0), (.lit (.i 2001))])] (.leaf [(.call 0 0 [(.tok 0), (.lit (.i 2001))])]))
theorem qlx (g0 : GfZ) : CdZ [(yd, g0)] qs0 jw Tryz.f110 q45 := fun cd h => by injection h with h; subst h; kernel_rfl
theorem qcl (h0 : FOk yd g0) (h : HgZ q45 jw [(yd, g0)] g) : FOk jw g := yh (qlx g0) (.cons h0 .nil) rfl rfl qjq (by decide) h
def jx : Ct := ⟨126, [.val (.st 53)], [(.bool, false)], [], none, [], []⟩
theorem qjn : EnZ jx := fun _ _ => by kernel_rfl
def qr6 : Ann := ⟨[0, 1, 2, 4, 5, 26, 37, 54], []⟩
def q48 : Tree := (.br (.eq (.fld (.tok 0) 0) (.lit (.i 0))) (.leaf [(.and (.and (.and (.le (.lit (.i 0)) (.fld (.tok 0) 1)) (.le (.fld (.tok 0) 1) (.lit (.i 1099511627776)))) (.eq (.fld (.tok 0) 2) (.lit (.s ⟨#[]⟩)))) (.eq (.len (.fld (.tok 0) 3)) (.lit (.i 0))))]) (.br (.eq (.fld (.tok 0) 0) (.lit (.i 1))) (.leaf [(.and (.eq (.fld (.tok 0) 2) (.lit (.s ⟨#[]⟩))) (.eq (.len (.fld (.tok 0) 3)) (.lit (.i 0))))]) (.br (.eq (.fld (.tok 0) 0) (.lit (.i 2))) (.leaf [(.and (.and (.eq (.fld (.tok 0) 1) (.lit (.i 0))) (.le (.slen (.fld (.tok 0) 2)) (.lit (.i 100)))) (.eq (.len (.fld (.tok 0) 3)) (.lit (.i 0))))]) (.br (.eq (.fld (.tok 0) 0) (.lit (.i 3))) (.leaf [(.and (.and (.and (.eq (.fld (.tok 0) 1) (.lit (.i 0))) (.le (.slen (.fld (.tok 0) 2)) (.lit (.i 100)))) (.le (.lit (.i 1)) (.len (.fld (.tok 0) 3)))) (.le (.len (.fld (.tok 0) 3)) (.lit (.i 8))))]) (.leaf [(.lit (.b .false))])))))
theorem qlw : CdZ [] qr6 jx Tryz.f126 q48 := fun cd h => by injection h with h; subst h; kernel_rfl
theorem qcz (h : HgZ q48 jx [] g) : FOk jx g := yh (qlw) .nil rfl rfl qjn (by decide) h
def zz : Ct := ⟨111, [.val (.st 53)], [(.bool, false)], [], none, [], []⟩
theorem q5f : EnZ zz := fun _ _ => by kernel_rfl
def qni : Ann := ⟨[0, 1, 2, 3, 6, 11, 20], [(4, ⟨[(2, .bool, false), (3, .int .i64, false)], [], [7, 8, 9, 10, 11, 14, 15, 16, 17, 18, 19, 20, 12, 13], []⟩)]⟩
def q3b : Tree := (.need [(.ok 0 [(.tok 0)])] (.br (.not (.call 0 0 [(.tok 0)])) (.leaf [(.lit (.b .false))]) (.loop 4 1 [(.lit (.b .false)), (.lit (.i 0))] (.br (.lt (.tok 2) (.len (.fld (.tok 0) 3))) (.need [(.le (.lit (.i 0)) (.tok 2)), (.lt (.tok 2) (.len (.fld (.tok 0) 3))), (.ok 1 [(.get (.fld (.tok 0) 3) (.tok 2))])] (.br (.not (.call 1 0 [(.get (.fld (.tok 0) 3) (.tok 2))])) (.leaf [(.lit (.b .false))]) (.need [(.rng .i64 (.add (.tok 2) (.lit (.i 1))))] (.back 4 [(.tok 1), (.add (.tok 2) (.lit (.i 1)))])))) (.leaf [(.lit (.b .true))])))))
theorem qjc (g0 g1 : GfZ) : CdZ [(jx, g0), (zz, g1)] qni zz Tryz.f111 q3b := fun cd h => by injection h with h; subst h; kernel_rfl
theorem qbl (h0 : FOk jx g0) (h1 : FOk zz g1) (h : HgZ q3b zz [(jx, g0), (zz, g1)] g) : FOk zz g := yh (qjc g0 g1) (.cons h0 (.cons h1 .nil)) rfl rfl q5f (by decide) h
def ji : Ct := ⟨72, [.val (.st 53)], [(.bool, false)], [], none, [], []⟩
theorem qh8 : EnZ ji := fun _ _ => by kernel_rfl
def qmr : Ann := ⟨[0, 1, 2], []⟩
def q37 : Tree := (.need [(.ok 0 [(.tok 0)]), (.imp (.le (.call 0 0 [(.tok 0)]) (.lit (.i 2000))) (.ok 1 [(.tok 0)]))] (.leaf [(.and (.le (.call 0 0 [(.tok 0)]) (.lit (.i 2000))) (.call 1 0 [(.tok 0)]))]))
theorem qjd (g0 g1 : GfZ) : CdZ [(jw, g0), (zz, g1)] qmr ji Tryz.f72 q37 := fun cd h => by injection h with h; subst h; kernel_rfl
theorem qbr (h0 : FOk jw g0) (h1 : FOk zz g1) (h : HgZ q37 ji [(jw, g0), (zz, g1)] g) : FOk ji g := yh (qjd g0 g1) (.cons h0 (.cons h1 .nil)) rfl rfl qh8 (by decide) h
def zd : Ct := ⟨73, [.val (.st 53), .val (.st 53)], [(.bool, false)], [], none, [], []⟩
theorem q5n : EnZ zd := fun _ _ => by kernel_rfl
def qe8 : Ann := ⟨[0, 1, 2, 3, 4, 5, 33, 38, 52], [(4, ⟨[(4, .bool, false), (5, .int .i64, false)], [], [34, 35, 36, 37, 38, 41, 42, 43, 44, 45, 46, 47, 48, 49, 50, 51, 52, 39, 40], []⟩)]⟩
def q2z : Tree := (.br (.or (.or (.or (.not (.eq (.fld (.tok 0) 0) (.fld (.tok 1) 0))) (.not (.eq (.fld (.tok 0) 1) (.fld (.tok 1) 1)))) (.not (.eq (.fld (.tok 0) 2) (.fld (.tok 1) 2)))) (.not (.eq (.len (.fld (.tok 0) 3)) (.len (.fld (.tok 1) 3))))) (.leaf [(.lit (.b .false))]) (.loop 4 2 [(.lit (.b .false)), (.lit (.i 0))] (.br (.lt (.tok 3) (.len (.fld (.tok 0) 3))) (.need [(.ok 0 [(.get (.fld (.tok 0) 3) (.tok 3)), (.get (.fld (.tok 1) 3) (.tok 3))]), (.le (.lit (.i 0)) (.tok 3)), (.lt (.tok 3) (.len (.fld (.tok 1) 3))), (.le (.lit (.i 0)) (.tok 3)), (.lt (.tok 3) (.len (.fld (.tok 0) 3)))] (.br (.not (.call 0 0 [(.get (.fld (.tok 0) 3) (.tok 3)), (.get (.fld (.tok 1) 3) (.tok 3))])) (.leaf [(.lit (.b .false))]) (.need [(.rng .i64 (.add (.tok 3) (.lit (.i 1))))] (.back 4 [(.tok 2), (.add (.tok 3) (.lit (.i 1)))])))) (.leaf [(.lit (.b .true))]))))
theorem qd9 (g0 : GfZ) : CdZ [(zd, g0)] qe8 zd Tryz.f73 q2z := fun cd h => by injection h with h; subst h; kernel_rfl
theorem qel (h0 : FOk zd g0) (h : HgZ q2z zd [(zd, g0)] g) : FOk zd g := yh (qd9 g0) (.cons h0 .nil) rfl rfl q5n (by decide) h
def q2h : Ct := ⟨28, [.val (.st 53), .val (.st 53)], [(.bool, false)], [], none, [], []⟩
theorem qji : EnZ q2h := fun _ _ => by kernel_rfl
def qrg : Ann := ⟨[0, 1, 2, 3, 4], []⟩
def q7l : Tree := (.need [(.ok 0 [(.tok 0)]), (.imp (.call 0 0 [(.tok 0)]) (.ok 0 [(.tok 1)])), (.imp (.and (.call 0 0 [(.tok 0)]) (.call 0 0 [(.tok 1)])) (.ok 1 [(.tok 0), (.tok 1)]))] (.leaf [(.and (.and (.call 0 0 [(.tok 0)]) (.call 0 0 [(.tok 1)])) (.call 1 0 [(.tok 0), (.tok 1)]))]))
theorem qm9 (g0 g1 : GfZ) : CdZ [(ji, g0), (zd, g1)] qrg q2h Tryz.f28 q7l := fun cd h => by injection h with h; subst h; kernel_rfl
theorem qq0 (h0 : FOk ji g0) (h1 : FOk zd g1) (h : HgZ q7l q2h [(ji, g0), (zd, g1)] g) : FOk q2h g := yh (qm9 g0 g1) (.cons h0 (.cons h1 .nil)) rfl rfl qji (by decide) h
def j8 : Ct := ⟨35, [.val (.row 87)], [(.bool, false)], [], none, [], []⟩
theorem qen : EnZ j8 := fun _ _ => by kernel_rfl
def qgq : Ann := ⟨[0, 2, 3, 4, 7, 12, 46], [(5, ⟨[(2, .bool, false), (4, .int .i64, false), (3, .map 87 3, false)], [], [9, 10, 11, 12, 15, 16, 17, 18, 19, 20, 21, 22, 23, 24, 25, 26, 27, 28, 29, 30, 31, 32, 33, 34, 35, 36, 37, 38, 39, 40, 41, 42, 43, 44, 45, 46, 47, 48, 49, 50, 51, 13, 14, 8], []⟩)]⟩
def q4e : Tree :=
 let b : X := .lt (.tok 2) (.len (.tok 0))
 let c : X := .get (.tok 0) (.tok 2)
 let d : X := .le (.lit (.i 0)) (.tok 2)
 let g : X := .lit (.i 1)
 let h : X := .lit (.b .false)
 let a : X := .or (.lt (.lit (.i 100)) (.slen (.fld c 0))) (.lt (.fld c 1) (.lit (.i 0)))
 let f : X := .not (.lt (.lit (.i 100)) (.slen (.fld c 0)))
 let e : X := .or a (.lt (.lit (.i 8)) (.fld c 1))
 (.br (.lt (.lit (.i 1048576)) (.len (.tok 0))) (.leaf [h]) (.loop 5 1 [h, (.lit (.i 0)), (.lit (.mp []))] (.br b (.need [d, b, (.imp f d), (.imp f b), (.imp (.not a) d), (.imp (.not a) b), (.imp (.not e) d), (.imp (.not e) b)] (.br (.or e (.eq (.fn 0 [(.tok 3), c, (.lit (.i 0))]) g)) (.leaf [h]) (.need [d, b] (.need [(.rng .i64 (.add (.tok 2) g))] (.back 5 [(.tok 1), (.add (.tok 2) g), (.fn 2 [(.tok 3), c, g])]))))) (.leaf [(.lit (.b .true))]))))
theorem qfi : CdZ [] qgq j8 Tryz.f35 q4e := fun cd h => by injection h with h; subst h; kernel_rfl
theorem qh3 (h : HgZ q4e j8 [] g) : FOk j8 g := yh (qfi) .nil rfl rfl qen (by decide) h
def yx : Ct := ⟨77, [.val (.st 26), .val (.int .i64)], [(.int .i64, false)], [], none, [], []⟩
theorem qhd : EnZ yx := fun _ _ => by kernel_rfl
def qm6 : Ann := ⟨[0, 1, 2, 4, 13], []⟩
def q6d : Tree := (.br (.or (.lt (.tok 1) (.lit (.i 0))) (.le (.len (.fld (.tok 0) 1)) (.tok 1))) (.leaf [(.lit (.i (-1)))]) (.need [(.le (.lit (.i 0)) (.tok 1)), (.lt (.tok 1) (.len (.fld (.tok 0) 1)))] (.leaf [(.fld (.get (.fld (.tok 0) 1) (.tok 1)) 1)])))
theorem qku : CdZ [] qm6 yx Tryz.f77 q6d := fun cd h => by injection h with h; subst h; kernel_rfl
theorem qmv (h : HgZ q6d yx [] g) : FOk yx g := yh (qku) .nil rfl rfl qhd (by decide) h
def qy : Ct := ⟨78, [.val (.st 26), .val (.int .i64)], [(.bool, false)], [], none, [], []⟩
theorem qfn : EnZ qy := fun _ _ => by kernel_rfl
def qjt : Ann := ⟨[0, 1, 2, 4], []⟩
def q55 : Tree := (.leaf [(.and (.le (.lit (.i 0)) (.tok 1)) (.lt (.tok 1) (.len (.fld (.tok 0) 0))))])
theorem qhx : CdZ [] qjt qy Tryz.f78 q55 := fun cd h => by injection h with h; subst h; kernel_rfl
theorem qjv (h : HgZ q55 qy [] g) : FOk qy g := yh (qhx) .nil rfl rfl qfn (by decide) h
def zj : Ct := ⟨79, [.val (.st 26), .val (.int .i64)], [(.int .i64, false)], [], none, [], []⟩
theorem qna : EnZ zj := fun _ _ => by kernel_rfl
def qu7 : Ann := ⟨[0, 1, 2, 4, 8], []⟩
def q99 : Tree := (.need [(.ok 0 [(.tok 0), (.tok 1)])] (.br (.not (.call 0 0 [(.tok 0), (.tok 1)])) (.leaf [(.lit (.i (-1)))]) (.need [(.le (.lit (.i 0)) (.tok 1)), (.lt (.tok 1) (.len (.fld (.tok 0) 0)))] (.leaf [(.fld (.get (.fld (.tok 0) 0) (.tok 1)) 0)]))))
theorem qpj (g0 : GfZ) : CdZ [(qy, g0)] qu7 zj Tryz.f79 q99 := fun cd h => by injection h with h; subst h; kernel_rfl
theorem qtb (h0 : FOk qy g0) (h : HgZ q99 zj [(qy, g0)] g) : FOk zj g := yh (qpj g0) (.cons h0 .nil) rfl rfl qna (by decide) h
def qr : Ct := ⟨38, [.val (.st 26), .val (.st 28)], [(.bool, false)], [], none, [], []⟩
theorem qc9 : EnZ qr := fun _ _ => by kernel_rfl
def qem : Ann := ⟨[0, 1, 2, 3, 4, 6, 7, 20, 22, 29, 36], []⟩
def q36 : Tree := (.br (.eq (.fld (.tok 1) 0) (.lit (.i 0))) (.need [(.ok 0 [(.tok 0), (.fld (.tok 1) 1)]), (.imp (.call 0 0 [(.tok 0), (.fld (.tok 1) 1)]) (.ok 1 [(.tok 0), (.fld (.tok 1) 1)]))] (.leaf [(.and (.call 0 0 [(.tok 0), (.fld (.tok 1) 1)]) (.not (.eq (.call 1 0 [(.tok 0), (.fld (.tok 1) 1)]) (.lit (.i 4)))))])) (.br (.eq (.fld (.tok 1) 0) (.lit (.i 1))) (.leaf [(.lit (.b .true))]) (.br (.eq (.fld (.tok 1) 0) (.lit (.i 2))) (.need [(.ok 2 [(.tok 0), (.fld (.tok 1) 1)])] (.leaf [(.eq (.call 2 0 [(.tok 0), (.fld (.tok 1) 1)]) (.lit (.i 0)))])) (.br (.eq (.fld (.tok 1) 0) (.lit (.i 3))) (.need [(.ok 1 [(.tok 0), (.fld (.tok 1) 1)])] (.leaf [(.eq (.call 1 0 [(.tok 0), (.fld (.tok 1) 1)]) (.lit (.i 4)))])) (.br (.eq (.fld (.tok 1) 0) (.lit (.i 5))) (.need [(.ok 1 [(.tok 0), (.fld (.tok 1) 1)])] (.leaf [(.eq (.call 1 0 [(.tok 0), (.fld (.tok 1) 1)]) (.lit (.i 5)))])) (.leaf [(.lit (.b .false))]))))))
theorem qd5 (g0 g1 g2 : GfZ) : CdZ [(qy, g0), (zj, g1), (yx, g2)] qem qr Tryz.f38 q36 := fun cd h => by injection h with h; subst h; kernel_rfl
theorem qez (h0 : FOk qy g0) (h1 : FOk zj g1) (h2 : FOk yx g2) (h : HgZ q36 qr [(qy, g0), (zj, g1), (yx, g2)] g) : FOk qr g := yh (qd5 g0 g1 g2) (.cons h0 (.cons h1 (.cons h2 .nil))) rfl rfl qc9 (by decide) h
def q1d : Ct := ⟨80, [.val (.st 26), .val (.int .i64)], [(.bool, false)], [], none, [], []⟩
theorem qjs : EnZ q1d := fun _ _ => by kernel_rfl
def qrl : Ann := ⟨[0, 1, 2, 4, 5, 10, 26], [(2, ⟨[(4, .bool, false), (1, .int .i64, false), (5, .int .i64, false)], [], [6, 7, 8, 9, 10, 13, 14, 15, 16, 17, 18, 19, 20, 21, 22, 23, 24, 25, 26, 27, 28, 29, 30, 31, 32, 11, 12], []⟩)]⟩
def q7g : Tree := (.loop 2 2 [(.lit (.b .false)), (.tok 1), (.lit (.i 0))] (.br (.le (.tok 4) (.len (.fld (.tok 0) 0))) (.need [(.ok 0 [(.tok 0), (.tok 3)]), (.imp (.not (.not (.eq (.call 0 0 [(.tok 0), (.tok 3)]) (.lit (.i 0))))) (.le (.lit (.i 0)) (.tok 3))), (.imp (.not (.not (.eq (.call 0 0 [(.tok 0), (.tok 3)]) (.lit (.i 0))))) (.lt (.tok 3) (.len (.fld (.tok 0) 0))))] (.br (.or (.not (.eq (.call 0 0 [(.tok 0), (.tok 3)]) (.lit (.i 0)))) (.eq (.fld (.get (.fld (.tok 0) 0) (.tok 3)) 1) (.tok 3))) (.leaf [(.lit (.b .true))]) (.need [(.le (.lit (.i 0)) (.tok 3)), (.lt (.tok 3) (.len (.fld (.tok 0) 0)))] (.need [(.rng .i64 (.add (.tok 4) (.lit (.i 1))))] (.back 2 [(.tok 2), (.fld (.get (.fld (.tok 0) 0) (.tok 3)) 1), (.add (.tok 4) (.lit (.i 1)))]))))) (.leaf [(.lit (.b .false))])))
theorem qly (g0 : GfZ) : CdZ [(zj, g0)] qrl q1d Tryz.f80 q7g := fun cd h => by injection h with h; subst h; kernel_rfl
theorem qrd (h0 : FOk zj g0) (h : HgZ q7g q1d [(zj, g0)] g) : FOk q1d g := yh (qly g0) (.cons h0 .nil) rfl rfl qjs (by decide) h
def j5 : Ct := ⟨81, [.val (.st 26), .val (.int .i64)], [(.bool, false)], [], none, [], []⟩
theorem qgr : EnZ j5 := fun _ _ => by kernel_rfl
def qnj : Ann := ⟨[0, 1, 2, 4, 5], []⟩
def q6c : Tree :=
 let b : X := .add (.tok 1) (.lit (.i 1))
 let c : X := .add (.tok 1) (.lit (.i 2))
 let e : X := .tok 0
 let d : X := .eq (.call 0 0 [e, b]) (.lit (.i 1))
 let f : X := .rng .i64 b
 let g : X := .lt b (.len (.fld e 0))
 let h : X := .le (.lit (.i 0)) b
 let i : X := .call 0 0 [e, c]
 let a : X := .and d (.le (.lit (.i 1)) (.fld (.get (.fld e 0) b) 1))
 (.need [(.rng .i64 c), (.ok 0 [e, c])] (.need [(.imp a h), (.imp a g), (.imp a f), (.imp a h), (.imp a g), (.imp a f), (.imp a f), (.imp a f), (.imp d h), (.imp d g), (.imp d f), (.ok 0 [e, b]), f] (.leaf [(.and (.and (.and (.and a (.le (.fld (.get (.fld e 0) b) 1) (.fld e 4))) (.le (.lit (.i 0)) i)) (.not (.eq i (.lit (.i 4))))) (.not (.eq i (.lit (.i 5)))))])))
theorem qjy (g0 : GfZ) : CdZ [(zj, g0)] qnj j5 Tryz.f81 q6c := fun cd h => by injection h with h; subst h; kernel_rfl
theorem qlr (h0 : FOk zj g0) (h : HgZ q6c j5 [(zj, g0)] g) : FOk j5 g := yh (qjy g0) (.cons h0 .nil) rfl rfl qgr (by decide) h
def q09 : Ct := ⟨36, [.val (.st 26), .val (.int .i64)], [(.bool, false)], [], none, [], []⟩
theorem qiw : EnZ q09 := fun _ _ => by kernel_rfl
def qpe : Ann := ⟨[0, 1, 2, 4, 5, 6, 7, 15, 29, 32, 40, 50], [(7, ⟨[(4, .bool, false), (7, .int .i64, false)], [], [30, 31, 32, 35, 36, 37, 38, 39, 40, 33, 34], []⟩)]⟩
def q78 : Tree :=
 let c : X := .tok 1
 let d : X := .tok 0
 let e : X := .lit (.i 1)
 let f : X := .lit (.b .false)
 let h : X := .tok 3
 let a : X := .get (.fld d 0) c
 let b : X := .call 0 0 [d, (.fld a 1)]
 let g : X := .not (.eq (.fld a 0) (.lit (.i 5)))
 let i : X := .not (.call 3 0 [d, a])
 (.need [(.le (.lit (.i 0)) c), (.lt c (.len (.fld d 0)))] (.br (.eq (.fld a 0) (.lit (.i 4))) (.need [(.ok 0 [d, (.fld a 1)])] (.need [(.imp (.not (.lt b e)) (.rng .i64 (.add c b))), (.imp (.not (.lt b e)) (.ok 1 [d, (.add c b)]))] (.br (.or (.lt b e) (.not (.call 1 0 [d, (.add c b)]))) (.leaf [f]) (.loop 7 2 [f, e] (.br (.le h b) (.need [(.rng .i64 (.add c h)), (.ok 2 [d, (.add c h)])] (.br (.eq (.call 2 0 [d, (.add c h)]) (.lit (.i 4))) (.leaf [f]) (.need [(.rng .i64 (.add h e))] (.back 7 [(.tok 2), (.add h e)])))) (.leaf [(.lit (.b .true))])))))) (.need [(.ok 3 [d, a]), (.imp (.not i) (.ok 4 [d, c]))] (.br (.or i (.not (.call 4 0 [d, c]))) (.leaf [f]) (.need [(.imp (.and (.not g) (.eq (.fld a 1) c)) (.ok 5 [d, c]))] (.leaf [(.or g (.and (.eq (.fld a 1) c) (.call 5 0 [d, c])))]))))))
theorem qmg (g0 g1 g2 g3 g4 g5 : GfZ) : CdZ [(yx, g0), (qy, g1), (zj, g2), (qr, g3), (q1d, g4), (j5, g5)] qpe q09 Tryz.f36 q78 := fun cd h => by injection h with h; subst h; kernel_rfl
theorem qqs {g4 g5 : GfZ} (h0 : FOk yx g0) (h1 : FOk qy g1) (h2 : FOk zj g2) (h3 : FOk qr g3) (h4 : FOk q1d g4) (h5 : FOk j5 g5) (h : HgZ q78 q09 [(yx, g0), (qy, g1), (zj, g2), (qr, g3), (q1d, g4), (j5, g5)] g) : FOk q09 g := yh (qmg g0 g1 g2 g3 g4 g5) (.cons h0 (.cons h1 (.cons h2 (.cons h3 (.cons h4 (.cons h5 .nil)))))) rfl rfl qiw (by decide) h
def q0x : Ct := ⟨37, [.val (.st 26), .val (.st 70)], [(.bool, false)], [], none, [], []⟩
theorem qml : EnZ q0x := fun _ _ => by kernel_rfl
def qt5 : Ann := ⟨[0, 1, 2, 3, 4, 5, 11, 14, 15, 22, 41], []⟩
def q9a : Tree :=
 let a : X := .fld (.tok 1) 1
 let b : X := .fld (.tok 1) 0
 let d : X := .tok 0
 let f : X := .lit (.b .false)
 let g : X := .lit (.i 1)
 let c : X := .and (.eq (.fld a 1) b) (.call 1 0 [d, b])
 let e : X := .fld a 0
 let h : X := .call 3 0 [d, a]
 let i : X := .ok 3 [d, a]
 (.need [(.ok 0 [d, b])] (.br (.not (.call 0 0 [d, b])) (.leaf [f]) (.br (.eq e (.lit (.i 0))) (.leaf [(.eq (.fld a 1) b)]) (.br (.eq e (.lit (.i 5))) (.need [(.imp (.eq (.fld a 1) b) (.ok 1 [d, b])), (.imp c (.rng .i64 (.sub b g))), (.imp c (.ok 2 [d, (.sub b g)]))] (.leaf [(.and c (.not (.eq (.call 2 0 [d, (.sub b g)]) (.lit (.i 5)))))])) (.br (.eq e g) (.br (.eq e g) (.need [i] (.leaf [h])) (.leaf [f])) (.br (.eq e (.lit (.i 2))) (.br (.eq e (.lit (.i 2))) (.need [i] (.leaf [h])) (.leaf [f])) (.br (.eq e (.lit (.i 3))) (.need [i] (.leaf [h])) (.leaf [f]))))))))
theorem qsj (g0 g1 g2 g3 : GfZ) : CdZ [(qy, g0), (j5, g1), (zj, g2), (qr, g3)] qt5 q0x Tryz.f37 q9a := fun cd h => by injection h with h; subst h; kernel_rfl
theorem qtf (h0 : FOk qy g0) (h1 : FOk j5 g1) (h2 : FOk zj g2) (h3 : FOk qr g3) (h : HgZ q9a q0x [(qy, g0), (j5, g1), (zj, g2), (qr, g3)] g) : FOk q0x g := yh (qsj g0 g1 g2 g3) (.cons h0 (.cons h1 (.cons h2 (.cons h3 .nil)))) rfl rfl qml (by decide) h
def q0k : Ct := ⟨11, [.val (.st 26)], [(.bool, false)], [], none, [], []⟩
theorem qi1 : EnZ q0k := fun _ _ => by kernel_rfl
def qlv : Ann := ⟨[0, 1, 2, 3, 4, 5, 6, 33, 38, 44, 49, 59, 64, 95], [(4, ⟨[(2, .bool, false), (3, .int .i64, false)], [], [34, 35, 36, 37, 38, 41, 42, 43, 44, 39, 40], []⟩),
 (9, ⟨[(2, .bool, false), (4, .int .i64, false)], [], [45, 46, 47, 48, 49, 52, 53, 54, 55, 56, 57, 58, 59, 50, 51], []⟩),
 (14, ⟨[(2, .bool, false), (5, .int .i64, false)], [], [60, 61, 62, 63, 64, 67, 68, 69, 70, 71, 6, 72, 73, 74, 75, 76, 77, 78, 79, 80, 81, 82, 83, 84, 85, 86, 87, 88, 89, 90, 91, 92, 93, 94, 95, 65, 66], []⟩)]⟩
def q6h : Tree :=
 let b : X := .tok 0
 let e : X := .lit (.b .false)
 let f : X := .lit (.i 1)
 let g : X := .lit (.i 0)
 let h : X := .tok 4
 let k : X := .tok 2
 let a : X := .get (.fld b 3) (.tok 6)
 let c : X := .or (.or (.or (.lt (.fld b 5) f) (.lt (.lit (.i 1048576)) (.fld b 5))) (.lt (.fld b 5) (.len (.fld b 0)))) (.lt (.fld b 4) g)
 let j : X := .lt (.tok 6) (.len (.fld b 3))
 let l : X := .fld b 2
 let d : X := .or (.lt (.fld a 0) f) (.lt (.fld b 4) (.fld a 0))
 let i : X := .or d (.not (.call 3 0 [b, (.fld a 1)]))
 (.need [(.imp (.not c) (.ok 0 [(.fld b 1)]))] (.br (.or c (.not (.call 0 0 [(.fld b 1)]))) (.leaf [e]) (.loop 4 1 [e, g] (.br (.lt k (.len (.fld b 0))) (.need [(.ok 1 [b, k])] (.br (.not (.call 1 0 [b, k])) (.leaf [e]) (.need [(.rng .i64 (.add k f))] (.back 4 [(.tok 1), (.add k f)])))) (.loop 9 3 [(.tok 1), g] (.br (.lt h (.len l)) (.need [(.ok 2 [b, (.get l h)]), (.le g h), (.lt h (.len l))] (.br (.not (.call 2 0 [b, (.get l h)])) (.leaf [e]) (.need [(.rng .i64 (.add h f))] (.back 9 [(.tok 3), (.add h f)])))) (.loop 14 5 [(.tok 3), g] (.br j (.need [(.le g (.tok 6)), j] (.need [(.imp (.not d) (.ok 3 [b, (.fld a 1)])), (.imp (.not i) (.ok 3 [b, (.fld a 2)]))] (.br (.or i (.not (.call 3 0 [b, (.fld a 2)]))) (.leaf [e]) (.need [(.rng .i64 (.add (.tok 6) f))] (.back 14 [(.tok 5), (.add (.tok 6) f)]))))) (.leaf [(.lit (.b .true))])))))))))
theorem qk3 (g0 g1 g2 g3 : GfZ) : CdZ [(j8, g0), (q09, g1), (q0x, g2), (qr, g3)] qlv q0k Tryz.f11 q6h := fun cd h => by injection h with h; subst h; kernel_rfl
theorem qms (h0 : FOk j8 g0) (h1 : FOk q09 g1) (h2 : FOk q0x g2) (h3 : FOk qr g3) (h : HgZ q6h q0k [(j8, g0), (q09, g1), (q0x, g2), (qr, g3)] g) : FOk q0k g := yh (qk3 g0 g1 g2 g3) (.cons h0 (.cons h1 (.cons h2 (.cons h3 .nil)))) rfl rfl qi1 (by decide) h
def j3 : Ct := ⟨58, [.val (.st 26), .val (.st 28)], [(.st 28, false)], [], none, [], []⟩
theorem qht : EnZ j3 := fun _ _ => by kernel_rfl
def qn2 : Ann := ⟨[0, 1, 2, 3, 4, 5, 9, 36], [(4, ⟨[(5, .int .i64, false)], [3], [11, 12, 13, 14, 15, 16, 17, 18, 19, 20, 21, 22, 23, 24, 25, 26, 27, 28, 29, 30, 31, 32, 33, 34, 35, 36, 39, 40, 41, 42, 43, 44, 37, 38], []⟩)]⟩
def q63 : Tree :=
 let b : X := .fld (.tok 3) 1
 let c : X := .fld (.tok 0) 0
 let d : X := .lit (.i 0)
 let f : X := .add (.tok 2) (.lit (.i 1))
 let a : X := .and (.and (.le (.tok 2) (.len c)) (.eq (.fld (.tok 3) 0) d)) (.call 1 0 [(.tok 0), b])
 let e : X := .lt b (.len c)
 (.need [(.ok 0 [(.tok 0), (.tok 1)])] (.br (.not (.call 0 0 [(.tok 0), (.tok 1)])) (.leaf [(.lit (.a [(.i 0), (.i 0)]))]) (.loop 4 2 [d, (.tok 1)] (.need [(.imp a (.le d b)), (.imp a e), (.imp a (.le d b)), (.imp a e), (.imp (.and (.le (.tok 2) (.len c)) (.eq (.fld (.tok 3) 0) d)) (.ok 1 [(.tok 0), b]))] (.br (.and a (.not (.eq (.get c b) (.tok 3)))) (.need [(.le d b), e] (.need [(.rng .i64 f)] (.back 4 [f, (.get c b)]))) (.leaf [(.tok 3)]))))))
theorem qjz (g0 g1 : GfZ) : CdZ [(qr, g0), (qy, g1)] qn2 j3 Tryz.f58 q63 := fun cd h => by injection h with h; subst h; kernel_rfl
theorem qmw (h0 : FOk qr g0) (h1 : FOk qy g1) (h : HgZ q63 j3 [(qr, g0), (qy, g1)] g) : FOk j3 g := yh (qjz g0 g1) (.cons h0 (.cons h1 .nil)) rfl rfl qht (by decide) h
def jd : Ct := ⟨47, [.val (.st 26), .val (.st 28)], [(.st 28, false), (.bool, false)], [], none, [], []⟩
theorem qcc : EnZ jd := fun _ _ => by kernel_rfl
def qgn : Ann := ⟨[0, 1, 2, 3, 4, 5, 6], []⟩
def q3x : Tree := (.need [(.ok 0 [(.tok 0), (.tok 1)])] (.need [(.ok 1 [(.tok 0), (.tok 1)])] (.leaf [(.call 0 0 [(.tok 0), (.tok 1)]), (.and (.call 1 0 [(.tok 0), (.tok 1)]) (.or (.eq (.fld (.call 0 0 [(.tok 0), (.tok 1)]) 0) (.lit (.i 0))) (.eq (.fld (.call 0 0 [(.tok 0), (.tok 1)]) 0) (.lit (.i 5)))))])))
theorem qeg (g0 g1 : GfZ) : CdZ [(j3, g0), (qr, g1)] qgn jd Tryz.f47 q3x := fun cd h => by injection h with h; subst h; kernel_rfl
theorem qfx (h0 : FOk j3 g0) (h1 : FOk qr g1) (h : HgZ q3x jd [(j3, g0), (qr, g1)] g) : FOk jd g := yh (qeg g0 g1) (.cons h0 (.cons h1 .nil)) rfl rfl qcc (by decide) h
def jq : Ct := ⟨88, [.val (.st 26), .val (.st 28), .val (.str), .val (.int .i64)], [(.bool, false)], [], none, [], []⟩
theorem qep : EnZ jq := fun _ _ => by kernel_rfl
def qi2 : Ann := ⟨[0, 1, 2, 3, 4, 5, 8], []⟩
def q2c : Tree :=
 let a : X := .eq (.fld (.tok 1) 0) (.lit (.i 3))
 let b : X := .fld (.tok 1) 1
 let f : X := .fld (.tok 0) 1
 let c : X := .lt b (.len (.fld (.tok 0) 0))
 let d : X := .fld (.get (.fld (.tok 0) 0) b) 1
 let e : X := .le (.lit (.i 0)) b
 (.need [(.imp a (.le (.lit (.i 0)) d)), (.imp a (.lt d (.len f))), (.imp a (.le (.lit (.i 0)) d)), (.imp a (.lt d (.len f))), (.imp a e), (.imp a c), (.imp a e), (.imp a c), (.imp a e), (.imp a c), (.imp a e), (.imp a c), (.imp a e), (.imp a c), (.imp a e), (.imp a c), (.imp a e), (.imp a c)] (.leaf [(.and a (.eq (.get f d) (.mk [(.tok 2), (.tok 3)])))]))
theorem qfo : CdZ [] qi2 jq Tryz.f88 q2c := fun cd h => by injection h with h; subst h; kernel_rfl
theorem qhm (h : HgZ q2c jq [] g) : FOk jq g := yh (qfo) .nil rfl rfl qep (by decide) h
def q0z : Ct := ⟨89, [.val (.st 28)], [(.st 28, false)], [], none, [], []⟩
theorem qka : EnZ q0z := fun _ _ => by kernel_rfl
def qp4 : Ann := ⟨[0, 1, 2, 5], []⟩
def q7c : Tree := (.br (.eq (.fld (.tok 0) 0) (.lit (.i 5))) (.leaf [(.mk [(.lit (.i 0)), (.fld (.tok 0) 1)])]) (.leaf [(.tok 0)]))
theorem qnn : CdZ [] qp4 q0z Tryz.f89 q7c := fun cd h => by injection h with h; subst h; kernel_rfl
theorem qr8 (h : HgZ q7c q0z [] g) : FOk q0z g := yh (qnn) .nil rfl rfl qka (by decide) h
def ct_ref31_Settable : Ct := ⟨48, [.val (.st 26), .val (.int .i64)], [(.bool, false)], [], none, [], []⟩
theorem enter_ref31_Settable : EnZ ct_ref31_Settable := fun _ _ => by kernel_rfl
def ann_ref31_Settable : Ann := ⟨[0, 1, 2, 4, 5, 18], []⟩
def tree_ref31_Settable : Tree := (.need [(.le (.lit (.i 0)) (.tok 1)), (.lt (.tok 1) (.len (.fld (.tok 0) 0)))] (.br (.or (.eq (.fld (.get (.fld (.tok 0) 0) (.tok 1)) 0) (.lit (.i 0))) (.eq (.fld (.get (.fld (.tok 0) 0) (.tok 1)) 0) (.lit (.i 5)))) (.leaf [(.eq (.fld (.get (.fld (.tok 0) 0) (.tok 1)) 1) (.tok 1))]) (.need [(.imp (.le (.lit (.i 2)) (.tok 1)) (.rng .i64 (.sub (.tok 1) (.lit (.i 2))))), (.imp (.le (.lit (.i 2)) (.tok 1)) (.le (.lit (.i 0)) (.sub (.tok 1) (.lit (.i 2))))), (.imp (.le (.lit (.i 2)) (.tok 1)) (.lt (.sub (.tok 1) (.lit (.i 2))) (.len (.fld (.tok 0) 0))))] (.leaf [(.and (.and (.le (.lit (.i 2)) (.tok 1)) (.eq (.fld (.get (.fld (.tok 0) 0) (.sub (.tok 1) (.lit (.i 2)))) 0) (.lit (.i 5)))) (.not (.eq (.fld (.get (.fld (.tok 0) 0) (.tok 1)) 0) (.lit (.i 4)))))]))))
theorem code_ref31_Settable : CdZ [] ann_ref31_Settable ct_ref31_Settable Tryz.f48 tree_ref31_Settable := fun cd h => by injection h with h; subst h; kernel_rfl
theorem fok_ref31_Settable (h : HgZ tree_ref31_Settable ct_ref31_Settable [] g) : FOk ct_ref31_Settable g := yh (code_ref31_Settable) .nil rfl rfl enter_ref31_Settable (by decide) h
def ct_ref31_Comes : Ct := ⟨90, [.val (.st 26), .val (.st 28), .val (.int .i64)], [(.bool, false)], [], none, [], []⟩
theorem enter_ref31_Comes : EnZ ct_ref31_Comes := fun _ _ => by kernel_rfl
def ann_ref31_Comes : Ann := ⟨[0, 1, 2, 3, 4, 6, 7, 30, 36], [(2, ⟨[(6, .bool, false), (7, .int .i64, false)], [4], [8, 9, 10, 11, 12, 13, 14, 15, 16, 17, 18, 19, 20, 21, 22, 23, 24, 25, 26, 27, 28, 29, 30, 33, 34, 35, 36, 37, 38, 39, 40, 41, 42, 31, 32], []⟩)]⟩
def tree_ref31_Comes : Tree := (.loop 2 3 [(.lit (.b .false)), (.lit (.i 0)), (.tok 1)] (.br (.and (.and (.and (.le (.tok 4) (.len (.fld (.tok 0) 0))) (.eq (.fld (.tok 5) 0) (.lit (.i 0)))) (.le (.lit (.i 0)) (.fld (.tok 5) 1))) (.lt (.fld (.tok 5) 1) (.len (.fld (.tok 0) 0)))) (.br (.eq (.fld (.tok 5) 1) (.tok 2)) (.leaf [(.lit (.b .true))]) (.need [(.le (.lit (.i 0)) (.fld (.tok 5) 1)), (.lt (.fld (.tok 5) 1) (.len (.fld (.tok 0) 0)))] (.need [(.rng .i64 (.add (.tok 4) (.lit (.i 1))))] (.back 2 [(.tok 3), (.add (.tok 4) (.lit (.i 1))), (.get (.fld (.tok 0) 0) (.fld (.tok 5) 1))])))) (.leaf [(.lit (.b .false))])))
theorem code_ref31_Comes : CdZ [] ann_ref31_Comes ct_ref31_Comes Tryz.f90 tree_ref31_Comes := fun cd h => by injection h with h; subst h; kernel_rfl
theorem fok_ref31_Comes (h : HgZ tree_ref31_Comes ct_ref31_Comes [] g) : FOk ct_ref31_Comes g := yh (code_ref31_Comes) .nil rfl rfl enter_ref31_Comes (by decide) h
def ct_ref31_Set : Ct := ⟨51, [.ref (.st 26) true, .val (.int .i64), .val (.st 28)], [(.int .i64, false)], [], none, [], []⟩
theorem enter_ref31_Set : EnZ ct_ref31_Set := fun _ _ => by kernel_rfl
def ann_ref31_Set : Ann := ⟨[0, 1, 2, 5, 6, 46], []⟩
def tree_ref31_Set : Tree :=
 let c : X := .tok 1
 let d : X := .tok 0
 let e : X := .tok 2
 let i : X := .lit (.i 0)
 let b : X := .set d 2 (.app (.fld d 2) (.row [(.mk [c, (.get (.fld d 0) c)])]))
 let f : X := .or (.lt c i) (.le (.len (.fld d 0)) c)
 let g : X := .ok 2 [e]
 let h : X := .call 2 0 [e]
 let a : X := .or (.or f (.not (.call 0 0 [d, e]))) (.not (.call 1 0 [d, c]))
 (.need [(.imp (.not a) (.ok 3 [d, h, c])), (.imp (.not a) g), (.imp (.not a) g), (.imp (.not a) g), (.imp (.not (.or f (.not (.call 0 0 [d, e])))) (.ok 1 [d, c])), (.imp (.not f) (.ok 0 [d, e]))] (.br (.or a (.call 3 0 [d, h, c])) (.leaf [(.lit (.i 1)), d]) (.need [(.le i c), (.lt c (.len (.fld d 0))), (.le (.add (.len (.fld d 2)) (.lit (.i 1))) (.lit (.i 5864062014634)))] (.need [g, (.le i c), (.lt c (.len (.fld b 0)))] (.leaf [i, (.set b 0 (.put (.fld b 0) c h))])))))
theorem code_ref31_Set (g0 g1 g2 g3 : GfZ) : CdZ [(qr, g0), (ct_ref31_Settable, g1), (q0z, g2), (ct_ref31_Comes, g3)] ann_ref31_Set ct_ref31_Set Tryz.f51 tree_ref31_Set := fun cd h => by injection h with h; subst h; kernel_rfl
theorem fok_ref31_Set (h0 : FOk qr g0) (h1 : FOk ct_ref31_Settable g1) (h2 : FOk q0z g2) (h3 : FOk ct_ref31_Comes g3) (h : HgZ tree_ref31_Set ct_ref31_Set [(qr, g0), (ct_ref31_Settable, g1), (q0z, g2), (ct_ref31_Comes, g3)] g) : FOk ct_ref31_Set g := yh (code_ref31_Set g0 g1 g2 g3) (.cons h0 (.cons h1 (.cons h2 (.cons h3 .nil)))) rfl rfl enter_ref31_Set (by decide) h
def ct_ref30_Clone : Ct := ⟨15, [.val (.st 26)], [(.st 26, true)], [], none, [], []⟩
theorem enter_ref30_Clone : EnZ ct_ref30_Clone := fun _ _ => by kernel_rfl
def ann_ref30_Clone : Ann := ⟨[0, 1, 2, 3], []⟩
def tree_ref30_Clone : Tree := (.need [(.le (.len (.fld (.tok 0) 0)) (.lit (.i 8796093021952)))] (.need [(.le (.len (.fld (.tok 0) 1)) (.lit (.i 5864062014634)))] (.need [(.le (.len (.fld (.tok 0) 2)) (.lit (.i 5864062014634)))] (.need [(.le (.len (.fld (.tok 0) 3)) (.lit (.i 3518437208780)))] (.leaf [(.set (.set (.set (.set (.tok 0) 0 (.app (.lit (.r [])) (.fld (.tok 0) 0))) 1 (.app (.lit (.r [])) (.fld (.tok 0) 1))) 2 (.app (.lit (.r [])) (.fld (.tok 0) 2))) 3 (.app (.lit (.r [])) (.fld (.tok 0) 3)))])))))
theorem code_ref30_Clone : CdZ [] ann_ref30_Clone ct_ref30_Clone Tryz.f15 tree_ref30_Clone := fun cd h => by injection h with h; subst h; kernel_rfl
theorem fok_ref30_Clone (h : HgZ tree_ref30_Clone ct_ref30_Clone [] g) : FOk ct_ref30_Clone g := yh (code_ref30_Clone) .nil rfl rfl enter_ref30_Clone (by decide) h
def ct_ref30_Same : Ct := ⟨20, [.val (.st 26), .val (.st 26)], [(.bool, false)], [], none, [], []⟩
theorem enter_ref30_Same : EnZ ct_ref30_Same := fun _ _ => by kernel_rfl
def ann_ref30_Same : Ann := ⟨[0, 1, 2, 3, 4, 5, 6, 7, 8, 56, 61, 74, 79, 92, 97, 110, 115, 128], [(4, ⟨[(4, .bool, false), (5, .int .i64, false)], [], [57, 58, 59, 60, 61, 64, 65, 66, 67, 68, 69, 70, 71, 72, 73, 74, 62, 63], []⟩),
 (9, ⟨[(4, .bool, false), (6, .int .i64, false)], [], [75, 76, 77, 78, 79, 82, 83, 84, 85, 86, 87, 88, 89, 90, 91, 92, 80, 81], []⟩),
 (14, ⟨[(4, .bool, false), (7, .int .i64, false)], [], [93, 94, 95, 96, 97, 100, 101, 102, 103, 104, 105, 106, 107, 108, 109, 110, 98, 99], []⟩),
 (19, ⟨[(4, .bool, false), (8, .int .i64, false)], [], [111, 112, 113, 114, 115, 118, 119, 120, 121, 122, 123, 124, 125, 126, 127, 128, 116, 117], []⟩)]⟩
def tree_ref30_Same : Tree :=
 let a : X := .lit (.i 0)
 let b : X := .tok 0
 let c : X := .tok 1
 let d : X := .lit (.b .false)
 let e : X := .lit (.i 1)
 let f : X := .tok 3
 let g : X := .tok 5
 let h : X := .tok 7
 let i : X := .tok 9
 let j : X := .len (.fld b 0)
 let k : X := .len (.fld b 1)
 let l : X := .len (.fld b 2)
 let m : X := .len (.fld b 3)
 (.br (.or (.or (.or (.or (.or (.not (.eq j (.len (.fld c 0)))) (.not (.eq k (.len (.fld c 1))))) (.not (.eq l (.len (.fld c 2))))) (.not (.eq m (.len (.fld c 3))))) (.not (.eq (.fld b 4) (.fld c 4)))) (.not (.eq (.fld b 5) (.fld c 5)))) (.leaf [d]) (.loop 4 2 [d, a] (.br (.lt f j) (.need [(.le a f), (.lt f (.len (.fld c 0))), (.le a f), (.lt f j)] (.br (.not (.eq (.get (.fld b 0) f) (.get (.fld c 0) f))) (.leaf [d]) (.need [(.rng .i64 (.add f e))] (.back 4 [(.tok 2), (.add f e)])))) (.loop 9 4 [(.tok 2), a] (.br (.lt g k) (.need [(.le a g), (.lt g (.len (.fld c 1))), (.le a g), (.lt g k)] (.br (.not (.eq (.get (.fld b 1) g) (.get (.fld c 1) g))) (.leaf [d]) (.need [(.rng .i64 (.add g e))] (.back 9 [(.tok 4), (.add g e)])))) (.loop 14 6 [(.tok 4), a] (.br (.lt h l) (.need [(.le a h), (.lt h (.len (.fld c 2))), (.le a h), (.lt h l)] (.br (.not (.eq (.get (.fld b 2) h) (.get (.fld c 2) h))) (.leaf [d]) (.need [(.rng .i64 (.add h e))] (.back 14 [(.tok 6), (.add h e)])))) (.loop 19 8 [(.tok 6), a] (.br (.lt i m) (.need [(.le a i), (.lt i (.len (.fld c 3))), (.le a i), (.lt i m)] (.br (.not (.eq (.get (.fld b 3) i) (.get (.fld c 3) i))) (.leaf [d]) (.need [(.rng .i64 (.add i e))] (.back 19 [(.tok 8), (.add i e)])))) (.leaf [(.lit (.b .true))]))))))))))
theorem code_ref30_Same : CdZ [] ann_ref30_Same ct_ref30_Same Tryz.f20 tree_ref30_Same := fun cd h => by injection h with h; subst h; kernel_rfl
theorem fok_ref30_Same (h : HgZ tree_ref30_Same ct_ref30_Same [] g) : FOk ct_ref30_Same g := yh (code_ref30_Same) .nil rfl rfl enter_ref30_Same (by decide) h
def q0h : Ct := ⟨7, [.val (.st 26)], [(.bool, false)], [], none, [], []⟩
theorem qil : EnZ q0h := fun _ _ => by kernel_rfl
def qnv : Ann := ⟨[0, 1, 2], []⟩
def q65 : Tree := (.leaf [(.and (.and (.and (.le (.len (.fld (.tok 0) 0)) (.lit (.i 300))) (.le (.len (.fld (.tok 0) 1)) (.lit (.i 100)))) (.le (.len (.fld (.tok 0) 2)) (.lit (.i 300)))) (.le (.len (.fld (.tok 0) 3)) (.lit (.i 50))))])
theorem qjk : CdZ [] qnv q0h Tryz.f7 q65 := fun cd h => by injection h with h; subst h; kernel_rfl
theorem qm3 (h : HgZ q65 q0h [] g) : FOk q0h g := yh (qjk) .nil rfl rfl qil (by decide) h
def ct_ref32_bind : Ct := ⟨59, [.ref (.st 26) true, .val (.int .i64), .val (.st 28)], [], [], none, [], []⟩
theorem enter_ref32_bind : EnZ ct_ref32_bind := fun _ _ => by kernel_rfl
def ann_ref32_bind : Ann := ⟨[0, 1, 2, 5, 6], []⟩
def tree_ref32_bind : Tree := (.need [(.ok 0 [(.tok 2)]), (.ok 0 [(.tok 2)]), (.le (.lit (.i 0)) (.add (.tok 1) (.lit (.i 2)))), (.lt (.add (.tok 1) (.lit (.i 2))) (.len (.fld (.tok 0) 0))), (.rng .i64 (.add (.tok 1) (.lit (.i 2)))), (.le (.lit (.i 0)) (.add (.tok 1) (.lit (.i 1)))), (.lt (.add (.tok 1) (.lit (.i 1))) (.len (.fld (.tok 0) 0))), (.rng .i64 (.add (.tok 1) (.lit (.i 1))))] (.need [(.ok 1 [(.tok 0), (.tok 1), (.tok 2)])] (.need [(.le (.add (.len (.fld (.call 1 1 [(.tok 0), (.tok 1), (.tok 2)]) 3)) (.lit (.i 1))) (.lit (.i 3518437208780)))] (.leaf [(.set (.call 1 1 [(.tok 0), (.tok 1), (.tok 2)]) 3 (.app (.fld (.call 1 1 [(.tok 0), (.tok 1), (.tok 2)]) 3) (.row [(.mk [(.fld (.get (.fld (.tok 0) 0) (.add (.tok 1) (.lit (.i 1)))) 1), (.get (.fld (.tok 0) 0) (.add (.tok 1) (.lit (.i 2)))), (.call 0 0 [(.tok 2)])])])))]))))
theorem code_ref32_bind (g0 g1 : GfZ) : CdZ [(q0z, g0), (ct_ref31_Set, g1)] ann_ref32_bind ct_ref32_bind Tryz.f59 tree_ref32_bind := fun cd h => by injection h with h; subst h; kernel_rfl
theorem fok_ref32_bind (h0 : FOk q0z g0) (h1 : FOk ct_ref31_Set g1) (h : HgZ tree_ref32_bind ct_ref32_bind [(q0z, g0), (ct_ref31_Set, g1)] g) : FOk ct_ref32_bind g := yh (code_ref32_bind g0 g1) (.cons h0 (.cons h1 .nil)) rfl rfl enter_ref32_bind (by decide) h
def ct_ref32_Bind : Ct := ⟨22, [.ref (.st 26) true, .val (.st 28), .val (.st 28)], [(.int .i64, false)], [], none, [], []⟩
theorem enter_ref32_Bind : EnZ ct_ref32_Bind := fun _ _ => by kernel_rfl
def ann_ref32_Bind : Ann := ⟨[0, 1, 2, 4, 5, 6, 7, 8, 9, 10, 11, 13, 36, 47, 51, 60, 98], []⟩
def tree_ref32_Bind : Tree :=
 let c : X := .tok 0
 let d : X := .lit (.i 1)
 let e : X := .lit (.i 0)
 let a : X := .call 0 0 [c, (.tok 1)]
 let b : X := .call 2 0 [c, (.tok 2)]
 let i : X := .fld c 0
 let f : X := .fld b 1
 let g : X := .fld a 1
 let h : X := .or (.not (.call 0 1 [c, (.tok 1)])) (.not (.eq (.fld a 0) (.lit (.i 5))))
 let j : X := .add f d
 let k : X := .add g d
 (.need [(.ok 0 [c, (.tok 1)]), (.ok 0 [c, (.tok 1)])] (.need [(.imp (.not h) (.ok 1 [c, (.tok 2)]))] (.br (.or h (.not (.call 1 0 [c, (.tok 2)]))) (.leaf [d, c]) (.need [(.ok 2 [c, (.tok 2)]), (.ok 2 [c, (.tok 2)])] (.br (.eq b a) (.leaf [e, c]) (.br (.eq (.fld b 0) e) (.need [(.ok 3 [c, f, a])] (.leaf [e, (.call 3 1 [c, f, a])])) (.br (.eq (.fld b 0) (.lit (.i 5))) (.need [(.le e j), (.lt j (.len i)), (.rng .i64 j), (.le e k), (.lt k (.len i)), (.rng .i64 k)] (.br (.or (.lt (.fld (.get i j) 1) (.fld (.get i k) 1)) (.and (.eq (.fld (.get i k) 1) (.fld (.get i j) 1)) (.lt f g))) (.need [(.ok 4 [c, g, b])] (.leaf [e, (.call 4 0 [c, g, b])])) (.need [(.ok 4 [c, f, a])] (.leaf [e, (.call 4 0 [c, f, a])])))) (.need [(.ok 4 [c, g, b])] (.leaf [e, (.call 4 0 [c, g, b])])))))))))
theorem code_ref32_Bind (g0 g1 g2 g3 g4 : GfZ) : CdZ [(jd, g0), (qr, g1), (j3, g2), (ct_ref31_Set, g3), (ct_ref32_bind, g4)] ann_ref32_Bind ct_ref32_Bind Tryz.f22 tree_ref32_Bind := fun cd h => by injection h with h; subst h; kernel_rfl
theorem fok_ref32_Bind {g4 : GfZ} (h0 : FOk jd g0) (h1 : FOk qr g1) (h2 : FOk j3 g2) (h3 : FOk ct_ref31_Set g3) (h4 : FOk ct_ref32_bind g4) (h : HgZ tree_ref32_Bind ct_ref32_Bind [(jd, g0), (qr, g1), (j3, g2), (ct_ref31_Set, g3), (ct_ref32_bind, g4)] g) : FOk ct_ref32_Bind g := yh (code_ref32_Bind g0 g1 g2 g3 g4) (.cons h0 (.cons h1 (.cons h2 (.cons h3 (.cons h4 .nil))))) rfl rfl enter_ref32_Bind (by decide) h
structure Ce where
 t : Int
 n : Int
structure Un where
 at' : Int
 old : Ce
structure Wk where
 ser : Int
 att : Ce
 val : Ce
structure Sy where
 name : ByteArray
 ar : Int
structure So where
 cs : List Ce
 ys : List Sy
 tr : List Un
 wk : List Wk
 ser : Int
 mx : Int
instance : Inhabited Ce := ⟨⟨0, 0⟩⟩
instance : Inhabited Un := ⟨⟨0, default⟩⟩
instance : Inhabited Wk := ⟨⟨0, default, default⟩⟩
instance : Inhabited Sy := ⟨⟨⟨#[]⟩, 0⟩⟩
def eC (c : Ce) : D := .a [.i c.t, .i c.n]
def eU (u : Un) : D := .a [.i u.at', eC u.old]
def eW (w : Wk) : D := .a [.i w.ser, eC w.att, eC w.val]
def eY (y : Sy) : D := .a [.s y.name, .i y.ar]
def eS (s : So) : D := .a [.r (s.cs.map eC), .r (s.ys.map eY), .r (s.tr.map eU), .r (s.wk.map eW), .i s.ser, .i s.mx]
def dC (d : D) : Ce := ⟨(d.fld 0).int, (d.fld 1).int⟩
def dU (d : D) : Un := ⟨(d.fld 0).int, dC (d.fld 1)⟩
def dW (d : D) : Wk := ⟨(d.fld 0).int, dC (d.fld 1), dC (d.fld 2)⟩
def dY (d : D) : Sy := ⟨(d.fld 0).str, (d.fld 1).int⟩
def dS (d : D) : So := ⟨(d.fld 0).rs.map dC, (d.fld 1).rs.map dY, (d.fld 2).rs.map dU, (d.fld 3).rs.map dW, (d.fld 4).int, (d.fld 5).int⟩
theorem yw (c : Ce) : dC (eC c) = c := rfl
theorem qv0 (c : Un) : dU (eU c) = c := rfl
theorem z1f (c : Wk) : dW (eW c) = c := rfl
theorem qpw (c : Sy) : dY (eY c) = c := rfl
theorem map_id' {α : Type} {e : α → D} {d : D → α} (h : ∀ a, d (e a) = a) (l : List α) : (l.map e).map d = l := by
 rw [List.map_map]
 have : d ∘ e = id := funext h
 rw [this, List.map_id]
theorem zk (s : So) : dS (eS s) = s := by
 show So.mk ((s.cs.map eC).map dC) ((s.ys.map eY).map dY) ((s.tr.map eU).map dU) ((s.wk.map eW).map dW) s.ser s.mx = s
 rw [map_id' yw, map_id' qpw, map_id' qv0, map_id' z1f]
theorem z2d {a b : Ce} (h : eC a = eC b) : a = b := by rw [← yw a, h, yw b]
theorem zbd {a b : Un} (h : eU a = eU b) : a = b := by rw [← qv0 a, h, qv0 b]
theorem zbh {a b : Wk} (h : eW a = eW b) : a = b := by rw [← z1f a, h, z1f b]
theorem qy2 {a b : Sy} (h : eY a = eY b) : a = b := by rw [← qpw a, h, qpw b]
theorem z3s {a b : So} (h : eS a = eS b) : a = b := by rw [← zk a, h, zk b]
theorem z4e (a b : Ce) : (eC a = eC b) = (a = b) := propext ⟨z2d, fun h => h ▸ rfl⟩
theorem zhp (a b : Un) : (eU a = eU b) = (a = b) := propext ⟨zbd, fun h => h ▸ rfl⟩
theorem zhk (a b : Wk) : (eW a = eW b) = (a = b) := propext ⟨zbh, fun h => h ▸ rfl⟩
theorem qv4 (a b : Sy) : (eY a = eY b) = (a = b) := propext ⟨qy2, fun h => h ▸ rfl⟩
theorem zhf (a b : So) : (eS a = eS b) = (a = b) := propext ⟨z3s, fun h => h ▸ rfl⟩
instance : DecidableEq Ce := fun a b => if h : eC a = eC b then .isTrue (z2d h) else .isFalse fun e => h (e ▸ rfl)
instance : DecidableEq Un := fun a b => if h : eU a = eU b then .isTrue (zbd h) else .isFalse fun e => h (e ▸ rfl)
instance : DecidableEq Wk := fun a b => if h : eW a = eW b then .isTrue (zbh h) else .isFalse fun e => h (e ▸ rfl)
instance : DecidableEq Sy := fun a b => if h : eY a = eY b then .isTrue (qy2 h) else .isFalse fun e => h (e ▸ rfl)
instance : DecidableEq So := fun a b => if h : eS a = eS b then .isTrue (z3s h) else .isFalse fun e => h (e ▸ rfl)
theorem Ce.ext' {a b : Ce} (h1 : a.t = b.t) (h2 : a.n = b.n) : a = b := by
 cases a; cases b; cases h1; cases h2; rfl
theorem qnd (c : Ce) : (eC c).fld 0 = .i c.t := rfl
theorem qtt (c : Ce) : (eC c).fld 1 = .i c.n := rfl
theorem zlw (c : Un) : (eU c).fld 0 = .i c.at' := rfl
theorem zmd (c : Un) : (eU c).fld 1 = eC c.old := rfl
theorem zmo (c : Wk) : (eW c).fld 0 = .i c.ser := rfl
theorem zmv (c : Wk) : (eW c).fld 1 = eC c.att := rfl
theorem zg4 (c : Wk) : (eW c).fld 2 = eC c.val := rfl
theorem z88 (c : Sy) : (eY c).fld 0 = .s c.name := rfl
theorem z7h (c : Sy) : (eY c).fld 1 = .i c.ar := rfl
theorem qer (s : So) : (eS s).fld 0 = .r (s.cs.map eC) := rfl
theorem zcg (s : So) : (eS s).fld 1 = .r (s.ys.map eY) := rfl
theorem z45 (s : So) : (eS s).fld 2 = .r (s.tr.map eU) := rfl
theorem z24 (s : So) : (eS s).fld 3 = .r (s.wk.map eW) := rfl
theorem zkp (s : So) : (eS s).fld 4 = .i s.ser := rfl
theorem zi4 (s : So) : (eS s).fld 5 = .i s.mx := rfl
theorem gnA : type_of% (And.intro @List.getD_cons_zero.{0} (And.intro @List.getD_cons_succ.{0} (And.intro @List.getElem?_cons_zero.{0} (And.intro @List.getElem?_cons_succ.{0} (And.intro @q5i (And.intro @yv (And.intro @q2s (And.intro @q6i (And.intro @Option.isSome_some.{0} (And.intro @Option.getD_some.{0} (And.intro @decide_eq_true_eq (And.intro @decide_eq_false_iff_not (And.intro @zk (And.intro @yw (And.intro @qv0 (And.intro @z1f (And.intro @qpw (And.intro @qnd (And.intro @qtt (And.intro @zlw (And.intro @zmd (And.intro @zmo (And.intro @zmv (And.intro @zg4 (And.intro @z88 (And.intro @z7h (And.intro @qer (And.intro @zcg (And.intro @z45 (And.intro @z24 (And.intro @zkp (And.intro @zi4 (And.intro @List.length_map.{0, 0} (And.intro @qp9 (And.intro @zh9 (And.intro @zh0 (And.intro @z4e (And.intro @zhp (And.intro @zhk (And.intro @qv4 (And.intro @zhf (And.intro @q52 (And.intro @List.take_succ_cons.{0} (And.intro @List.take_zero.{0} (And.intro @List.nil_append.{0} (And.intro @List.cons_append.{0} (And.intro @decide_true (And.intro @decide_false (And.intro @Bool.or_true (And.intro @true_and @and_true)))))))))))))))))))))))))))))))))))))))))))))))))) := And.intro @List.getD_cons_zero.{0} (And.intro @List.getD_cons_succ.{0} (And.intro @List.getElem?_cons_zero.{0} (And.intro @List.getElem?_cons_succ.{0} (And.intro @q5i (And.intro @yv (And.intro @q2s (And.intro @q6i (And.intro @Option.isSome_some.{0} (And.intro @Option.getD_some.{0} (And.intro @decide_eq_true_eq (And.intro @decide_eq_false_iff_not (And.intro @zk (And.intro @yw (And.intro @qv0 (And.intro @z1f (And.intro @qpw (And.intro @qnd (And.intro @qtt (And.intro @zlw (And.intro @zmd (And.intro @zmo (And.intro @zmv (And.intro @zg4 (And.intro @z88 (And.intro @z7h (And.intro @qer (And.intro @zcg (And.intro @z45 (And.intro @z24 (And.intro @zkp (And.intro @zi4 (And.intro @List.length_map.{0, 0} (And.intro @qp9 (And.intro @zh9 (And.intro @zh0 (And.intro @z4e (And.intro @zhp (And.intro @zhk (And.intro @qv4 (And.intro @zhf (And.intro @q52 (And.intro @List.take_succ_cons.{0} (And.intro @List.take_zero.{0} (And.intro @List.nil_append.{0} (And.intro @List.cons_append.{0} (And.intro @decide_true (And.intro @decide_false (And.intro @Bool.or_true (And.intro @true_and @and_true)))))))))))))))))))))))))))))))))))))))))))))))))
theorem gnZ : type_of% (And.intro @qa (And.intro @qj (And.intro @qd (And.intro @qe (And.intro @qg.eq_1 (And.intro @qg.eq_2 (And.intro @X.says.eq_1 (And.intro @X.ev.eq_1 (And.intro @X.ev.eq_2 (And.intro @X.ev.eq_3 (And.intro @X.ev.eq_4 (And.intro @X.ev.eq_5 (And.intro @X.ev.eq_6 (And.intro @X.ev.eq_7 (And.intro @X.ev.eq_8 (And.intro @X.ev.eq_9 (And.intro @X.ev.eq_10 (And.intro @X.ev.eq_11 (And.intro @X.ev.eq_12 (And.intro @X.ev.eq_13 (And.intro @X.ev.eq_14 (And.intro @X.ev.eq_15 (And.intro @X.ev.eq_16 (And.intro @X.ev.eq_17 (And.intro @X.ev.eq_18 (And.intro @X.ev.eq_19 (And.intro @X.ev.eq_20 (And.intro @X.ev.eq_21 (And.intro @X.ev.eq_22 (And.intro @X.ev.eq_23 (And.intro @X.ev.eq_24 (And.intro @X.ev.eq_25 (And.intro @X.ev.eq_26 (And.intro @X.ev.eq_27 (And.intro @X.ev.eq_28 (And.intro @X.ev.eq_29 (And.intro @X.evs.eq_1 (And.intro @X.evs.eq_2 (And.intro @evl.eq_1 (And.intro @qb.eq_1 @gnA)))))))))))))))))))))))))))))))))))))))) := And.intro @qa (And.intro @qj (And.intro @qd (And.intro @qe (And.intro @qg.eq_1 (And.intro @qg.eq_2 (And.intro @X.says.eq_1 (And.intro @X.ev.eq_1 (And.intro @X.ev.eq_2 (And.intro @X.ev.eq_3 (And.intro @X.ev.eq_4 (And.intro @X.ev.eq_5 (And.intro @X.ev.eq_6 (And.intro @X.ev.eq_7 (And.intro @X.ev.eq_8 (And.intro @X.ev.eq_9 (And.intro @X.ev.eq_10 (And.intro @X.ev.eq_11 (And.intro @X.ev.eq_12 (And.intro @X.ev.eq_13 (And.intro @X.ev.eq_14 (And.intro @X.ev.eq_15 (And.intro @X.ev.eq_16 (And.intro @X.ev.eq_17 (And.intro @X.ev.eq_18 (And.intro @X.ev.eq_19 (And.intro @X.ev.eq_20 (And.intro @X.ev.eq_21 (And.intro @X.ev.eq_22 (And.intro @X.ev.eq_23 (And.intro @X.ev.eq_24 (And.intro @X.ev.eq_25 (And.intro @X.ev.eq_26 (And.intro @X.ev.eq_27 (And.intro @X.ev.eq_28 (And.intro @X.ev.eq_29 (And.intro @X.evs.eq_1 (And.intro @X.evs.eq_2 (And.intro @evl.eq_1 (And.intro @qb.eq_1 @gnA)))))))))))))))))))))))))))))))))))))))
theorem zhh (c : Ce) (n : Int) : D.a ((eC c).fs.set 0 (.i n)) = eC { c with t := n } := rfl
theorem qfd (t n : Int) : D.a [.i t, .i n] = eC ⟨t, n⟩ := rfl
abbrev i64 (n : Int) : Prop := -9223372036854775808 ≤ n ∧ n ≤ 9223372036854775807
def Ce.ok (c : Ce) : Prop := i64 c.t ∧ i64 c.n
def Un.ok (c : Un) : Prop := i64 c.at' ∧ c.old.ok
def Wk.ok (c : Wk) : Prop := i64 c.ser ∧ c.att.ok ∧ c.val.ok
def Sy.ok (c : Sy) : Prop := c.name.size ≤ LIM ∧ i64 c.ar
structure So.ok (s : So) : Prop where
 cs : s.cs.length ≤ 8796093021952 ∧ ∀ c ∈ s.cs, c.ok
 ys : s.ys.length ≤ 5864062014634 ∧ ∀ c ∈ s.ys, c.ok
 tr : s.tr.length ≤ 5864062014634 ∧ ∀ c ∈ s.tr, c.ok
 wk : s.wk.length ≤ 3518437208780 ∧ ∀ c ∈ s.wk, c.ok
 ser : i64 s.ser
 mx : i64 s.mx
variable {d : D}
theorem wfI (h : Wf d (.int .i64)) : ∃ n, d = .i n ∧ i64 n := by
 obtain ⟨n, rfl, hn⟩ := h.int
 exact ⟨n, rfl, q52.1 hn⟩
theorem wfC (h : Wf d qn) : ∃ c, d = eC c ∧ c.ok := by
 obtain ⟨ds, rfl, hl⟩ := h.st_of (fs := [.int .i64, .int .i64]) rfl
 obtain ⟨a, b, rfl, ha, hb⟩ := qzw hl
 obtain ⟨x, rfl, hx⟩ := wfI ha
 obtain ⟨y, rfl, hy⟩ := wfI hb
 exact ⟨⟨x, y⟩, rfl, hx, hy⟩
theorem wfU (h : Wf d q1q) : ∃ c, d = eU c ∧ c.ok := by
 obtain ⟨ds, rfl, hl⟩ := h.st_of (fs := [.int .i64, qn]) rfl
 obtain ⟨a, b, rfl, ha, hb⟩ := qzw hl
 obtain ⟨x, rfl, hx⟩ := wfI ha
 obtain ⟨y, rfl, hy⟩ := wfC hb
 exact ⟨⟨x, y⟩, rfl, hx, hy⟩
theorem wfW (h : Wf d yb) : ∃ c, d = eW c ∧ c.ok := by
 obtain ⟨ds, rfl, hl⟩ := h.st_of (fs := [.int .i64, qn, qn]) rfl
 obtain ⟨a, r, rfl, ha, hr⟩ := q96 hl
 obtain ⟨b, c, rfl, hb, hc⟩ := qzw hr
 obtain ⟨x, rfl, hx⟩ := wfI ha
 obtain ⟨y, rfl, hy⟩ := wfC hb
 obtain ⟨z, rfl, hz⟩ := wfC hc
 exact ⟨⟨x, y, z⟩, rfl, hx, hy, hz⟩
theorem wfY (h : Wf d jb) : ∃ c, d = eY c ∧ c.ok := by
 obtain ⟨ds, rfl, hl⟩ := h.st_of (fs := [.str, .int .i64]) rfl
 obtain ⟨a, b, rfl, ha, hb⟩ := qzw hl
 obtain ⟨x, rfl, hx⟩ := ha.str
 obtain ⟨y, rfl, hy⟩ := wfI hb
 exact ⟨⟨x, y⟩, rfl, hx, hy⟩
theorem zo3 (h : Wf d zo) : ∃ l : List Ce, d = .r (l.map eC) ∧ l.length ≤ 8796093021952 ∧ ∀ c ∈ l, c.ok := by
 obtain ⟨l, rfl, h1, h2⟩ := h.row_of (te := qn) rfl
 obtain ⟨m, rfl, h3⟩ := qb7 (e := eC) (P := Ce.ok) fun x hx => wfC (h2 x hx)
 have e : LM qn = 8796093021952 := by kernel_rfl
 rw [e, List.length_map] at h1
 exact ⟨m, rfl, h1, h3⟩
theorem zom (h : Wf d qz7) : ∃ l : List Un, d = .r (l.map eU) ∧ l.length ≤ 5864062014634 ∧ ∀ c ∈ l, c.ok := by
 obtain ⟨l, rfl, h1, h2⟩ := h.row_of (te := q1q) rfl
 obtain ⟨m, rfl, h3⟩ := qb7 (e := eU) (P := Un.ok) fun x hx => wfU (h2 x hx)
 have e : LM q1q = 5864062014634 := by kernel_rfl
 rw [e, List.length_map] at h1
 exact ⟨m, rfl, h1, h3⟩
theorem znu (h : Wf d q3l) : ∃ l : List Wk, d = .r (l.map eW) ∧ l.length ≤ 3518437208780 ∧ ∀ c ∈ l, c.ok := by
 obtain ⟨l, rfl, h1, h2⟩ := h.row_of (te := yb) rfl
 obtain ⟨m, rfl, h3⟩ := qb7 (e := eW) (P := Wk.ok) fun x hx => wfW (h2 x hx)
 have e : LM yb = 3518437208780 := by kernel_rfl
 rw [e, List.length_map] at h1
 exact ⟨m, rfl, h1, h3⟩
theorem zn5 (h : Wf d qk4) : ∃ l : List Sy, d = .r (l.map eY) ∧ l.length ≤ 5864062014634 ∧ ∀ c ∈ l, c.ok := by
 obtain ⟨l, rfl, h1, h2⟩ := h.row_of (te := jb) rfl
 obtain ⟨m, rfl, h3⟩ := qb7 (e := eY) (P := Sy.ok) fun x hx => wfY (h2 x hx)
 have e : LM jb = 5864062014634 := by kernel_rfl
 rw [e, List.length_map] at h1
 exact ⟨m, rfl, h1, h3⟩
theorem wfS (h : Wf d qi) : ∃ s, d = eS s ∧ s.ok := by
 obtain ⟨ds, rfl, hl⟩ := h.st_of (fs := [zo, qk4, qz7, q3l, .int .i64, .int .i64]) rfl
 obtain ⟨d0, r, rfl, h0, hl⟩ := q96 hl
 obtain ⟨d1, r, rfl, h1, hl⟩ := q96 hl
 obtain ⟨d2, r, rfl, h2, hl⟩ := q96 hl
 obtain ⟨d3, r, rfl, h3, hl⟩ := q96 hl
 obtain ⟨d4, d5, rfl, h4, h5⟩ := qzw hl
 obtain ⟨cs, rfl, q0⟩ := zo3 h0
 obtain ⟨ys, rfl, q1⟩ := zn5 h1
 obtain ⟨tr, rfl, q2⟩ := zom h2
 obtain ⟨wk, rfl, q3⟩ := znu h3
 obtain ⟨x, rfl, q4⟩ := wfI h4
 obtain ⟨y, rfl, q5⟩ := wfI h5
 exact ⟨⟨cs, ys, tr, wk, x, y⟩, rfl, q0, q1, q2, q3, q4, q5⟩
def q3j : Ct := ⟨95, [.val (.st 26), .val (.st 28), .val (.str)], [(.st 28, false), (.st 28, false), (.bool, false)], [], none, [], []⟩
theorem qnf : EnZ q3j := fun _ _ => by kernel_rfl
def qsn : Ann := ⟨[0, 1, 2, 3, 4, 6, 7, 8, 9, 37, 65], []⟩
def q98 : Tree :=
 let a : X := .fld (.tok 1) 1
 let f : X := .fld (.tok 0) 0
 let g : X := .lit (.a [(.i 0), (.i 0)])
 let j : X := .lit (.i 0)
 let b : X := .or (.not (.eq (.fld (.tok 1) 0) (.lit (.i 3)))) (.not (.call 0 0 [(.tok 0), a]))
 let c : X := .fld (.get f a) 1
 let d : X := .add a (.lit (.i 2))
 let i : X := .add a (.lit (.i 1))
 let e : X := .or (.lt c j) (.le (.len (.fld (.tok 0) 1)) c)
 let h : X := .or b (.not (.call 0 0 [(.tok 0), d]))
 (.need [(.imp (.not (.not (.eq (.fld (.tok 1) 0) (.lit (.i 3))))) (.ok 0 [(.tok 0), a])), (.imp (.not b) (.rng .i64 d)), (.imp (.not b) (.ok 0 [(.tok 0), d])), (.imp (.not h) (.le j a)), (.imp (.not h) (.lt a (.len f)))] (.br (.or h (.not (.eq (.fld (.get f a) 0) (.lit (.i 4))))) (.leaf [g, g, (.lit (.b .false))]) (.need [(.le j a), (.lt a (.len f))] (.need [(.imp (.not e) (.le j c)), (.imp (.not e) (.lt c (.len (.fld (.tok 0) 1))))] (.br (.or e (.not (.eq (.get (.fld (.tok 0) 1) c) (.mk [(.tok 2), (.lit (.i 2))])))) (.leaf [g, g, (.lit (.b .false))]) (.need [(.le j d), (.lt d (.len f)), (.rng .i64 d), (.le j i), (.lt i (.len f)), (.rng .i64 i)] (.leaf [(.get f i), (.get f d), (.lit (.b .true))])))))))
theorem qrq (g0 : GfZ) : CdZ [(jm, g0)] qsn q3j Tryz.f95 q98 := fun cd h => by injection h with h; subst h; kernel_rfl
theorem que (h0 : FOk jm g0) (h : HgZ q98 q3j [(jm, g0)] g) : FOk q3j g := yh (qrq g0) (.cons h0 .nil) rfl rfl qnf (by decide) h
def q3i : Ct := ⟨96, [.val (.st 26), .val (.st 28)], [(.str, false), (.bool, false)], [], none, [], []⟩
theorem qmj : EnZ q3i := fun _ _ => by kernel_rfl
def qss : Ann := ⟨[0, 1, 2, 3, 4, 5, 21], []⟩
def q8c : Tree := (.br (.or (.or (.not (.eq (.fld (.tok 1) 0) (.lit (.i 2)))) (.lt (.fld (.tok 1) 1) (.lit (.i 0)))) (.le (.len (.fld (.tok 0) 1)) (.fld (.tok 1) 1))) (.leaf [(.lit (.s ⟨#[]⟩)), (.lit (.b .false))]) (.need [(.le (.lit (.i 0)) (.fld (.tok 1) 1)), (.lt (.fld (.tok 1) 1) (.len (.fld (.tok 0) 1)))] (.leaf [(.fld (.get (.fld (.tok 0) 1) (.fld (.tok 1) 1)) 0), (.lit (.b .true))])))
theorem qrb : CdZ [] qss q3i Tryz.f96 q8c := fun cd h => by injection h with h; subst h; kernel_rfl
theorem qtx (h : HgZ q8c q3i [] g) : FOk q3i g := yh (qrb) .nil rfl rfl qmj (by decide) h
def j7 : Ct := ⟨62, [.val (.st 72), .val (.st 72)], [(.int .i64, false)], [], none, [], []⟩
theorem q4b : EnZ j7 := fun _ _ => by kernel_rfl
def qw : Ct := ⟨116, [.val (.row 73), .val (.int .i64), .val (.int .i64), .fn 62 []], [], [], none, [], []⟩
theorem q2q : EnZ qw := fun _ _ => by kernel_rfl
def q3t : Ann := ⟨[0, 1, 2, 3, 8, 9, 14, 34], [(1, ⟨[(8, .int .i64, false), (0, .row 73, false)], [], [12, 13, 14, 17, 9, 18, 19, 20, 21, 22, 23, 24, 25, 26, 27, 28, 29, 30, 31, 32, 33, 34, 37, 38, 39, 40, 41, 42, 43, 44, 45, 46, 47, 48, 49, 50, 51, 52, 35, 36, 15, 16], []⟩),
 (4, ⟨[(9, .int .i64, false), (0, .row 73, false)], [], [18, 19, 20, 21, 22, 23, 24, 25, 26, 27, 28, 29, 30, 31, 32, 33, 34, 37, 38, 39, 40, 41, 42, 43, 44, 45, 46, 47, 48, 49, 50, 51, 52, 35, 36], []⟩)]⟩
def j9 : Tree :=
 let a : X := .lt (.tok 1) (.tok 5)
 let d : X := .le (.lit (.i 0)) (.tok 5)
 let h : X := .lit (.i 1)
 let i : X := .tok 6
 let b : X := .sub (.tok 5) h
 let c : X := .lt (.tok 5) (.len i)
 let e : X := .rng .i64 b
 let f : X := .lt b (.len i)
 let g : X := .le (.lit (.i 0)) b
 (.need [(.rng .i64 (.add (.tok 1) h))] (.loop 1 3 [(.add (.tok 1) h), (.tok 0)] (.br (.lt (.tok 3) (.tok 2)) (.loop 4 5 [(.tok 3), (.tok 4)] (.need [(.imp a (.ok 0 [(.get i (.tok 5)), (.get i b)])), (.imp a g), (.imp a f), (.imp a d), (.imp a c), (.imp a d), (.imp a c), (.imp a g), (.imp a f), (.imp a g), (.imp a f), (.imp a e), (.imp a e), (.imp a e), (.imp a d), (.imp a c), (.imp a d), (.imp a c), (.imp a d), (.imp a c), (.imp a e), (.imp a e), (.imp a e), (.imp a e), (.imp a e), (.imp a d), (.imp a c), (.imp a d), (.imp a c), (.imp a g), (.imp a f), (.imp a d), (.imp a c), (.imp a e)] (.br (.and a (.lt (.call 0 0 [(.get i (.tok 5)), (.get i b)]) (.lit (.i 0)))) (.bad 6015) (.need [(.rng .i64 (.add (.tok 3) h))] (.back 1 [(.add (.tok 3) h), i]))))) (.leaf []))))
theorem q3g (g0 : GfZ) : CdZ [(j7, g0)] q3t qw Tryz.f116 j9 := fun cd h => by injection h with h; subst h; kernel_rfl
theorem q3s (h0 : FOk j7 g0) (h : HgZ j9 qw [(j7, g0)] g) : FOk qw g := yh (q3g g0) (.cons h0 .nil) rfl rfl q2q (by decide) h
def z7 : Ct := ⟨93, [.val (.row 73), .val (.int .i64), .fn 62 []], [], [], none, [], []⟩
theorem q5k : EnZ z7 := fun _ _ => by kernel_rfl
def q6q : Ann := ⟨[0, 1, 2, 6, 7, 8, 9, 13, 30, 35, 54], [(2, ⟨[(7, .int .i64, false), (8, .int .i64, false)], [], [11, 12, 13, 14, 15, 16, 17, 18, 19, 20, 21, 22], []⟩),
 (7, ⟨[(7, .int .i64, false), (8, .int .i64, false), (6, .int .i64, false)], [], [28, 29, 30, 31, 32, 33, 34, 35, 36, 37, 38, 39, 40, 41, 42, 43, 44, 45, 46, 47, 48, 49, 50, 51, 9, 52, 53, 54, 55, 56, 57, 58, 59, 60, 61, 62], []⟩),
 (9, ⟨[(7, .int .i64, false), (8, .int .i64, false)], [], [33, 34, 35, 36, 37, 38, 39, 40, 41, 42, 43, 44, 45, 46, 47, 48], []⟩)]⟩
def q04 : Tree := (.loop 2 2 [(.lit (.i 0)), (.lit (.i 20))] (.br (.le (.tok 3) (.tok 1)) (.need [(.ok 1 [(.tok 0), (.tok 2), (.tok 3)])] (.need [(.rng .i64 (.add (.tok 3) (.lit (.i 20))))] (.back 2 [(.tok 3), (.add (.tok 3) (.lit (.i 20)))]))) (.need [(.ok 1 [(.tok 0), (.tok 2), (.tok 1)])] (.loop 7 4 [(.tok 2), (.tok 3), (.lit (.i 20))] (.br (.lt (.tok 6) (.tok 1)) (.need [(.rng .i64 (.mul (.lit (.i 2)) (.tok 6)))] (.loop 9 7 [(.lit (.i 0)), (.mul (.lit (.i 2)) (.tok 6))] (.br (.le (.tok 8) (.tok 1)) (.bad 10007) (.need [(.rng .i64 (.add (.tok 7) (.tok 6)))] (.br (.lt (.add (.tok 7) (.tok 6)) (.tok 1)) (.bad 15005) (.need [(.rng .i64 (.mul (.tok 6) (.lit (.i 2))))] (.back 7 [(.tok 7), (.tok 8), (.mul (.tok 6) (.lit (.i 2)))]))))))) (.leaf []))))))
theorem q67 (g0 g1 : GfZ) : CdZ [(j7, g0), (qw, g1)] q6q z7 Tryz.f93 q04 := fun cd h => by injection h with h; subst h; kernel_rfl
theorem q6z (h0 : FOk j7 g0) (h1 : FOk qw g1) (h : HgZ q04 z7 [(j7, g0), (qw, g1)] g) : FOk z7 g := yh (q67 g0 g1) (.cons h0 (.cons h1 .nil)) rfl rfl q5k (by decide) h
def zu : Ct := ⟨61, [.val (.row 73), .fn 62 []], [], [], none, [], []⟩
theorem q53 : EnZ zu := fun _ _ => by kernel_rfl
def q69 : Ann := ⟨[0, 1], []⟩
def q00 : Tree := (.need [(.ok 1 [(.tok 0), (.len (.tok 0))])] (.leaf []))
theorem q5m (g0 g1 : GfZ) : CdZ [(j7, g0), (z7, g1)] q69 zu Tryz.f61 q00 := fun cd h => by injection h with h; subst h; kernel_rfl
theorem q6k (h0 : FOk j7 g0) (h1 : FOk z7 g1) (h : HgZ q00 zu [(j7, g0), (z7, g1)] g) : FOk zu g := yh (q5m g0 g1) (.cons h0 (.cons h1 .nil)) rfl rfl q53 (by decide) h
def cellAt (s : So) (i : Int) : Ce := s.cs.getD i.toNat default
def inS (s : So) (i : Int) : Bool := decide (0 ≤ i) && decide (i < s.cs.length)
def q2e (s : So) (i : Int) : Int := if inS s i then (cellAt s i).t else -1
def arS (s : So) (n : Int) : Int := if 0 ≤ n ∧ n < s.ys.length then (s.ys.getD n.toNat default).ar else -1
def vcR (s : So) (c : Ce) : Bool := if c.t = 0 then inS s c.n && !decide (q2e s c.n = 4) else if c.t = 1 then true else if c.t = 2 then decide (arS s c.n = 0) else if c.t = 3 then decide (q2e s c.n = 4) else if c.t = 5 then decide (q2e s c.n = 5) else false
def vcP (s : So) (c : Ce) : Bool := if c.t = 0 then decide (0 ≤ q2e s c.n) && !decide (q2e s c.n = 4) else if c.t = 1 then true else if c.t = 2 then decide (arS s c.n = 0) else if c.t = 3 then decide (q2e s c.n = 4) else if c.t = 5 then decide (q2e s c.n = 5) else false
def qkd (s : So) (i : Int) : Bool := decide (q2e s (i + 1) = 1) && (decide (1 ≤ (cellAt s (i + 1)).n) && (decide ((cellAt s (i + 1)).n ≤ s.ser) && (decide (0 ≤ q2e s (i + 2)) && (!decide (q2e s (i + 2) = 4) && !decide (q2e s (i + 2) = 5)))))
def q82 (f : So → Int → Int) : List D → Option (List D)
 | [s, i] => some [.i (f (dS s) i.int)]
 | _ => none
def qa7 (f : So → Int → Bool) : List D → Option (List D)
 | [s, i] => some [.b (f (dS s) i.int)]
 | _ => none
def qcw (q : So → Int → Bool) (f : So → Int → Bool) : List D → Option (List D)
 | [s, i] => if q (dS s) i.int then some [.b (f (dS s) i.int)] else none
 | _ => none
def qb8 (f : So → Ce → Bool) : List D → Option (List D)
 | [s, c] => some [.b (f (dS s) (dC c))]
 | _ => none
def zga (f : So → Un → Bool) : List D → Option (List D)
 | [s, c] => some [.b (f (dS s) (dU c))]
 | _ => none
def gSb (f : So → Bool) : List D → Option (List D)
 | [s] => some [.b (f (dS s))]
 | _ => none
variable {i : Int}
theorem z5 {s : So} : inS s i = true ↔ 0 ≤ i ∧ i < s.cs.length := by simp [inS]
theorem ze {s : So} (h : inS s i = true) : (D.r (s.cs.map eC)).get i = eC (cellAt s i) := quj eC (z5.1 h).1 (z5.1 h).2
theorem q5c {s : So} (h : inS s i = true) : q2e s i = (cellAt s i).t := if_pos h
theorem qaf {s : So} (h : inS s i = false) : q2e s i = -1 := if_neg (by rw [h]; decide)
theorem q2g : FOk qy (qa7 inS) := qjv fun ds outs hw hg => by
 obtain ⟨d, r, rfl, hd, e, r', rfl, he, rfl⟩ := hw
 obtain ⟨s, rfl, hs⟩ := wfS hd
 obtain ⟨i, rfl, hi⟩ := wfI he
 simp only [qa7, zk, yv, Option.some.injEq] at hg
 subst hg
 simp only [q55, Tree.go, qg, X.says, X.ev, X.evs, evl, qb, gnA, inS]
theorem q4w : FOk zj (q82 q2e) := qtb q2g fun ds outs hw hg => by
 obtain ⟨d, r, rfl, hd, e, r', rfl, he, rfl⟩ := hw
 obtain ⟨s, rfl, hs⟩ := wfS hd
 obtain ⟨i, rfl, hi⟩ := wfI he
 simp only [q82, zk, yv, Option.some.injEq] at hg
 subst hg
 simp only [q99, Tree.go, qg, X.says, X.ev, X.evs, evl, qb, gnA, qa7, true_and]
 cases h : inS s i with
 | false => simp [qaf h]
 | true =>
  have h' := z5.1 h
  simp [ze h, qnd, q5c h, h']
theorem q80 : FOk yo (q82 q2e) := qtz fun ds outs hw hg => by
 obtain ⟨d, r, rfl, hd, e, r', rfl, he, rfl⟩ := hw
 obtain ⟨s, rfl, hs⟩ := wfS hd
 obtain ⟨i, rfl, hi⟩ := wfI he
 simp only [q82, zk, yv, Option.some.injEq] at hg
 subst hg
 simp only [q8q, Tree.go, qg, X.says, X.ev, X.evs, evl, qb, gnA, true_and]
 cases h : inS s i with
 | false =>
  have h' : ¬ (0 ≤ i ∧ i < s.cs.length) := fun q => by rw [z5.2 q] at h; cases h
  have h2 : i < 0 ∨ (s.cs.length : Int) ≤ i := by omega
  simp [qaf h]
  omega
 | true =>
  have h' := z5.1 h
  have h1 : ¬ i < 0 := by omega
  have h2 : ¬ (s.cs.length : Int) ≤ i := by omega
  simp [ze h, qnd, q5c h, h', h1, h2]
theorem qwo {s : So} (h : 0 ≤ i ∧ i < s.ys.length) : (D.r (s.ys.map eY)).get i = eY (s.ys.getD i.toNat default) := quj eY h.1 h.2
theorem qce : FOk yx (q82 arS) := qmv fun ds outs hw hg => by
 obtain ⟨d, r, rfl, hd, e, r', rfl, he, rfl⟩ := hw
 obtain ⟨s, rfl, hs⟩ := wfS hd
 obtain ⟨i, rfl, hi⟩ := wfI he
 simp only [q82, zk, yv, Option.some.injEq] at hg
 subst hg
 simp only [q6d, Tree.go, qg, X.says, X.ev, X.evs, evl, qb, gnA, true_and]
 by_cases h : 0 ≤ i ∧ i < s.ys.length
 ·have h1 : ¬ i < 0 := by omega
  have h2 : ¬ (s.ys.length : Int) ≤ i := by omega
  simp [qwo h, z7h, arS, h, h1, h2]
 ·simp [arS, h]
theorem qd0 : FOk yp (q82 arS) := qn0 fun ds outs hw hg => by
 obtain ⟨d, r, rfl, hd, e, r', rfl, he, rfl⟩ := hw
 obtain ⟨s, rfl, hs⟩ := wfS hd
 obtain ⟨i, rfl, hi⟩ := wfI he
 simp only [q82, zk, yv, Option.some.injEq] at hg
 subst hg
 simp only [q6g, Tree.go, qg, X.says, X.ev, X.evs, evl, qb, gnA, true_and]
 by_cases h : 0 ≤ i ∧ i < s.ys.length
 ·have h1 : ¬ i < 0 := by omega
  have h2 : ¬ (s.ys.length : Int) ≤ i := by omega
  simp [qwo h, z7h, arS, h, h1, h2]
 ·simp [arS, h]
theorem q1n : FOk qr (qb8 vcR) := qez q2g q4w qce fun ds outs hw hg => by
 obtain ⟨d, r, rfl, hd, e, r', rfl, he, rfl⟩ := hw
 obtain ⟨s, rfl, hs⟩ := wfS hd
 obtain ⟨c, rfl, hc⟩ := wfC he
 simp only [qb8, zk, yw, Option.some.injEq] at hg
 subst hg
 simp only [q36, Tree.go, qg, X.says, X.ev, X.evs, evl, qb, gnA, qa7, q82, vcR, true_and]
 by_cases h0 : c.t = 0
 ·simp [h0]
 ·by_cases h1 : c.t = 1
  ·simp [h1]
  ·by_cases h2 : c.t = 2
   ·simp [h2]
   ·by_cases h3 : c.t = 3
    ·simp [h3]
    ·by_cases h5 : c.t = 5
     ·simp [h5]
     ·simp [h0, h1, h2, h3, h5]
theorem yy : FOk ql (qb8 vcP) := qef qd0 q80 fun ds outs hw hg => by
 obtain ⟨d, r, rfl, hd, e, r', rfl, he, rfl⟩ := hw
 obtain ⟨s, rfl, hs⟩ := wfS hd
 obtain ⟨c, rfl, hc⟩ := wfC he
 simp only [qb8, zk, yw, Option.some.injEq] at hg
 subst hg
 simp only [q2u, Tree.go, qg, X.says, X.ev, X.evs, evl, qb, gnA, q82, vcP, true_and]
 by_cases h0 : c.t = 0
 ·simp [h0]
 ·by_cases h1 : c.t = 1
  ·simp [h1]
  ·by_cases h2 : c.t = 2
   ·simp [h2]
   ·by_cases h3 : c.t = 3
    ·simp [h3]
    ·by_cases h5 : c.t = 5
     ·simp [h5]
     ·simp [h0, h1, h2, h3, h5]
theorem tag_in {s : So} (h : q2e s i = 1) : inS s i = true := by
 cases hi : inS s i with
 | true => rfl
 | false => rw [qaf hi] at h; cases h
theorem qdf : FOk j5 (qcw inS qkd) := qlr q4w fun ds outs hw hg => by
 obtain ⟨d, r, rfl, hd, e, r', rfl, he, rfl⟩ := hw
 obtain ⟨s, rfl, hs⟩ := wfS hd
 obtain ⟨i, rfl, hi⟩ := wfI he
 simp only [qcw, zk, yv, Option.ite_none_right_eq_some, Option.some.injEq] at hg
 obtain ⟨hin, rfl⟩ := hg
 have h1 := z5.1 hin
 have hl := hs.cs.1
 have r1 : i64 (i + 1) := ⟨by omega, by omega⟩
 have r2 : i64 (i + 2) := ⟨by omega, by omega⟩
 simp only [q6c, Tree.go, qg, X.says, X.ev, X.evs, evl, qb, gnA, q82, true_and, qkd, r1, r2]
 by_cases ht : q2e s (i + 1) = 1
 ·have h2 := tag_in ht
  have h3 := z5.1 h2
  simp [ht, ze h2, qtt, h3.1, h3.2, yv, Bool.and_assoc, q52, r1.1, r1.2]
 ·simp [ht]
theorem qgm {k k' v : D} : ∀ {l : List D}, mfind k (mset k' v l) = if k' = k then some v else mfind k l
 | [] => by simp [mset, mfind, D.fld, D.fs]
 | p :: l => by
  unfold mset
  split
  ·rename_i h
   by_cases hk : k' = k
   ·simp [mfind, D.fld, D.fs, hk]
   ·have : ¬ (p.fld 0 = k) := fun e => hk (h.symm.trans e)
    simp [mfind, D.fld, D.fs, hk, this]
    intro e
    exact absurd e this
  ·rename_i h
   unfold mfind
   by_cases hk : p.fld 0 = k
   ·have : ¬ (k' = k) := fun e => h (hk.trans e.symm)
    simp [hk, this]
   ·simp only [if_neg hk]
    exact qgm
def okY (y : Sy) : Bool := decide (y.name.size ≤ 100) && (decide (0 ≤ y.ar) && decide (y.ar ≤ 8))
def qqu (l : List Sy) (k : Nat) : Bool := okY (l.getD k default) && !decide (l.getD k default ∈ l.take k)
def qbv (l : List Sy) : Bool := decide (l.length ≤ 1048576) && (List.range l.length).all (qqu l)
def z9l (f : List Sy → Bool) : List D → Option (List D)
 | [l] => some [.b (f (l.rs.map dY))]
 | _ => none
def qop (x : D) (l : List Sy) (k : Nat) (L : List D) : Prop := ∀ y, mfind (eY y) L = if y ∈ l.take k then some x else none
theorem qop.nil {x : D} {l : List Sy} : qop x l 0 [] := fun y => by simp [mfind]
theorem qop.put {x : D} {l : List Sy} {k : Nat} {L : List D} (h : qop x l k L) (hk : k < l.length) : qop x l (k + 1) (mset (eY (l.getD k default)) x L) := fun y => by
 rw [qgm, qae hk, h y]
 generalize l.getD k default = z
 by_cases hy : y = z
 ·subst hy; simp
 ·have : ¬ (z = y) := fun e => hy e.symm
  simp [qv4, this, hy]
theorem qis : FOk j8 (z9l qbv) := qh3 fun ds outs hw hg => by
 obtain ⟨d, r, rfl, hd, rfl⟩ := hw
 obtain ⟨l, rfl, hl, hok⟩ := zn5 hd
 simp only [z9l, q6i, map_id' qpw, Option.some.injEq] at hg
 subst hg
 simp only [q4e, Tree.go, qg, X.says, X.ev, X.evs, evl, qb, gnA, qbv]
 refine ⟨fun h => ?_, fun h => ?_⟩
 ·have : ¬ (l.length ≤ 1048576) := by omega
  simp [this]
 ·have h0 : l.length ≤ 1048576 := by omega
  refine ⟨fun st => ∃ (k : Nat) (L : List D), k ≤ l.length ∧ st = [.b false, .i k, .mp L] ∧ (∀ j, j < k → qqu l j = true) ∧ qop (.i 1) l k L, fun st => l.length - (st.getD 1 .u).int.toNat, ⟨0, [], Nat.zero_le _, rfl, (fun j hj => absurd hj (Nat.not_lt_zero _)), qop.nil⟩, ?_⟩
  rintro st - ⟨k, L, hk, rfl, hP, hL⟩
  simp only [Tree.go, qg, X.says, X.ev, X.evs, evl, qb, gnA]
  refine ⟨fun hlt => ?_, fun hlt => ?_⟩
  ·have hkl : k < l.length := by omega
   have hp : (0 : Int) ≤ k := by omega
   simp only [hlt, hp, q7o eY hkl, z88, z7h, q2s, yv, true_and, Bool.or_true, decide_true, and_true, Int.toNat_natCast, fnD, z6x, hL (l.getD k default)]
   have hr : i64 ((k : Int) + 1) := ⟨by omega, by omega⟩
   have e : (if l.getD k default ∈ l.take k then some (D.i 1) else none).getD (.i 0) = .i (if l.getD k default ∈ l.take k then 1 else 0) := by split <;> rfl
   rw [e]
   refine ⟨fun hb => ?_, fun hb => ⟨hr, ?_⟩⟩
   ·have : qqu l k = false := by
     simp only [qqu, okY]
     generalize l.getD k default = z at hb ⊢
     by_cases hm : z ∈ l.take k
     ·simp [hm]
     ·simp [hm] at hb ⊢
      intro h1 h2
      omega
    rw [qb4 hkl this]
    simp
   ·have hs : qqu l k = true := by
     simp only [qqu, okY]
     generalize l.getD k default = z at hb ⊢
     by_cases hm : z ∈ l.take k
     ·simp [hm] at hb
     ·simp [hm] at hb ⊢
      omega
    rw [q2p, if_pos rfl]
    refine ⟨⟨k + 1, _, hkl, ?_, q2i hP hs, hL.put hkl⟩, ?_⟩
    ·simp
    ·simp [D.int]
     omega
  ·have : k = l.length := by omega
   subst this
   rw [qdr hP]
   simp [h0]
theorem z0y {s : So} (h : qbv s.ys = true) (n : Int) : -1 ≤ arS s n ∧ arS s n ≤ 8 := by
 unfold arS
 split
 ·rename_i hn
  simp only [qbv, gnB] at h
  have := z2z h.2 (k := n.toNat) (by omega)
  simp only [qqu, okY, gnB, gnD] at this
  omega
 ·omega
def q2y (s : So) : Nat → Int → Bool
 | 0, _ => false
 | k + 1, n => if q2e s n = 0 ∧ ¬ (cellAt s n).n = n then q2y s k (cellAt s n).n else true
def qs4 (s : So) (n : Int) : Bool := q2y s (s.cs.length + 1) n
theorem z5v {s : So} {t : Int} (ht : t ≠ -1) (h : q2e s i = t) : inS s i = true := by
 cases hi : inS s i with
 | true => rfl
 | false => rw [qaf hi] at h; exact absurd h.symm ht
theorem qth : FOk q1d (qa7 qs4) := qrd q4w fun ds outs hw hg => by
 obtain ⟨d, r, rfl, hd, e, r', rfl, he, rfl⟩ := hw
 obtain ⟨s, rfl, hs⟩ := wfS hd
 obtain ⟨i, rfl, hi⟩ := wfI he
 simp only [qa7, zk, yv, Option.some.injEq] at hg
 subst hg
 have hl := hs.cs.1
 simp only [q7g, Tree.go, qg, X.says, X.ev, X.evs, evl, qb, gnA, q82]
 refine ⟨fun st => ∃ (k : Nat) (m : Int), k ≤ s.cs.length + 1 ∧ st = [.b false, .i m, .i k] ∧ q2y s (s.cs.length + 1 - k) m = qs4 s i, fun st => s.cs.length + 1 - (st.getD 2 .u).int.toNat, ⟨0, i, Nat.zero_le _, rfl, rfl⟩, ?_⟩
 rintro st - ⟨k, m, hk, rfl, hP⟩
 simp only [Tree.go, qg, X.says, X.ev, X.evs, evl, qb, gnA, q82]
 refine ⟨fun hlt => ?_, fun hlt => ?_⟩
 ·have hkl : k ≤ s.cs.length := by omega
  have hr : i64 ((k : Int) + 1) := ⟨by omega, by omega⟩
  obtain ⟨n, hn⟩ : ∃ n, s.cs.length + 1 - k = n + 1 := ⟨s.cs.length - k, by omega⟩
  rw [hn] at hP
  unfold q2y at hP
  have hn2 : s.cs.length + 1 - (k + 1) = n := by omega
  by_cases ht : q2e s m = 0
  ·have hin := z5v (by decide) ht
   have h3 := z5.1 hin
   simp only [ht, ze hin, qtt, h3.1, h3.2, yv, qp9, hr] at hP ⊢
   refine ⟨by simp, fun hx => ?_, fun hx => ?_⟩
   ·have : (cellAt s m).n = m := by simpa using hx
    rw [if_neg (by simp [this])] at hP
    simp [← hP]
   ·have hx' : ¬ (cellAt s m).n = m := by simpa using hx
    rw [if_pos ⟨trivial, hx'⟩] at hP
    refine ⟨⟨trivial, trivial⟩, ⟨trivial, trivial⟩, ?_⟩
    rw [q2p, if_pos rfl]
    refine ⟨⟨k + 1, (cellAt s m).n, by omega, by simp, by rw [hn2]; exact hP⟩, ?_⟩
    simp [D.int]
    omega
  ·rw [if_neg (by simp [ht])] at hP
   simp [ht, ← hP]
 ·have : k = s.cs.length + 1 := by omega
  subst this
  rw [Nat.sub_self] at hP
  simp [← hP, q2y]
def q9p (s : So) (i : Int) : Bool :=
 if (cellAt s i).t = 4 then decide (1 ≤ arS s (cellAt s i).n) && (inS s (i + arS s (cellAt s i).n) && (List.range (arS s (cellAt s i).n).toNat).all fun j => !decide (q2e s (i + ((j : Int) + 1)) = 4))
 else vcR s (cellAt s i) && (qs4 s i && (!decide ((cellAt s i).t = 5) || (decide ((cellAt s i).n = i) && qkd s i)))
def z0u (s : So) (i : Int) : Bool := inS s i && qbv s.ys
theorem qtu : FOk q09 (qcw z0u q9p) := qqs qce q2g q4w q1n qth qdf fun ds outs hw hg => by
 obtain ⟨d, r, rfl, hd, e, r', rfl, he, rfl⟩ := hw
 obtain ⟨s, rfl, hs⟩ := wfS hd
 obtain ⟨i, rfl, hi⟩ := wfI he
 simp only [qcw, zk, yv, Option.ite_none_right_eq_some, Option.some.injEq, z0u, gnB] at hg
 obtain ⟨⟨hin, hy⟩, rfl⟩ := hg
 have h1 := z5.1 hin
 have hl := hs.cs.1
 obtain ⟨ha, hb⟩ := z0y hy (cellAt s i).n
 simp only [q78, Tree.go, qg, X.says, X.ev, X.evs, evl, qb, gnA, q82, qa7, qb8, qcw, ze hin, h1.1, h1.2, hin, if_true]
 unfold q9p
 generalize arS s (cellAt s i).n = K at ha hb ⊢
 refine ⟨fun h4 => ?_, fun h4 => ?_⟩
 ·have hr : i64 (i + K) := ⟨by omega, by omega⟩
  simp only [h4, hr, if_true]
  refine ⟨by simp [q52, hr.1, hr.2], fun hx => ?_, fun hx => ?_⟩
  ·have hx' : K < 1 ∨ inS s (i + K) = false := by simpa using hx
   rcases hx' with hx | hx
   ·have : ¬ (1 ≤ K) := by omega
    simp [this]
   ·simp [hx]
  ·have hx' : 1 ≤ K ∧ inS s (i + K) = true := by simpa using hx
   obtain ⟨hk, hin2⟩ := hx'
   simp only [hk, hin2]
   refine ⟨fun st => ∃ (j : Nat), (j : Int) ≤ K ∧ st = [.b false, .i ((j : Int) + 1)] ∧ ∀ m : Nat, m < j → (!decide (q2e s (i + ((m : Int) + 1)) = 4)) = true, fun st => K.toNat + 1 - (st.getD 1 .u).int.toNat, ⟨0, by omega, by simp, fun m hm => absurd hm (Nat.not_lt_zero _)⟩, ?_⟩
   rintro st - ⟨j, hj, rfl, hP⟩
   simp only [Tree.go, qg, X.says, X.ev, X.evs, evl, qb, gnA, q82]
   refine ⟨fun hlt => ?_, fun hlt => ?_⟩
   ·have hr2 : i64 (i + ((j : Int) + 1)) := ⟨by omega, by omega⟩
    have hr3 : i64 (((j : Int) + 1) + 1) := ⟨by omega, by omega⟩
    refine ⟨hr2, fun hx => ?_, fun hx => ⟨hr3, ?_⟩⟩
    ·rw [qb4 (k := j) (by omega) (by simp [hx])]
     simp
    ·rw [q2p, if_pos rfl]
     refine ⟨⟨j + 1, by omega, by simp, q2i hP (by simp [hx])⟩, ?_⟩
     simp [D.int]
     omega
   ·have : j = K.toNat := by omega
    subst this
    rw [qdr hP]
    simp
 ·simp only [h4, if_false]
  refine ⟨fun hx => ?_, fun hx => ?_⟩
  ·have hx' : vcR s (cellAt s i) = false ∨ qs4 s i = false := by simpa using hx
   rcases hx' with hx | hx <;> simp [hx]
  ·have hx' : vcR s (cellAt s i) = true ∧ qs4 s i = true := by simpa using hx
   simp [hx'.1, hx'.2]
def zml (vc : So → Ce → Bool) (rg : So → Int → Bool) (s : So) (u : Un) : Bool :=
 rg s u.at' && if u.old.t = 0 then decide (u.old.n = u.at') else if u.old.t = 5 then decide (u.old.n = u.at') && (qkd s u.at' && !decide (q2e s (u.at' - 1) = 5)) else if u.old.t = 1 ∨ u.old.t = 2 ∨ u.old.t = 3 then vc s u.old else false
def z0h : So → Un → Bool := zml vcR inS
theorem qy9 : FOk q0x (zga z0h) := qtf q2g qdf q4w q1n fun ds outs hw hg => by
 obtain ⟨d, r, rfl, hd, e, r', rfl, he, rfl⟩ := hw
 obtain ⟨s, rfl, hs⟩ := wfS hd
 obtain ⟨u, rfl, hu⟩ := wfU he
 simp only [zga, zk, qv0, Option.some.injEq] at hg
 subst hg
 have hl := hs.cs.1
 simp only [q9a, Tree.go, qg, X.says, X.ev, X.evs, evl, qb, gnA, q82, qa7, qb8, qcw, z0h, zml]
 cases hin : inS s u.at' with
 | false => simp
 | true =>
  have h1 := z5.1 hin
  have hr : i64 (u.at' - 1) := ⟨by omega, by omega⟩
  simp only [hr, if_true]
  by_cases h0 : u.old.t = 0
  ·simp [h0]
  ·by_cases h5 : u.old.t = 5
   ·simp [h5, Bool.and_assoc, q5i, q52, hr.1, hr.2]
   ·by_cases h2 : u.old.t = 1
    ·simp [h2]
    ·by_cases h3 : u.old.t = 2
     ·simp [h3]
     ·by_cases h4 : u.old.t = 3
      ·simp [h4]
      ·simp [h0, h5, h2, h3, h4]
section
section
variable {s : So}
def Ns (s : So) (n : Int) : Prop := q2e s n = 0 ∧ ¬ (cellAt s n).n = n
abbrev nx (s : So) (n : Int) : Int := (cellAt s n).n
theorem q91 {k : Nat} {n : Int} (h : Ns s n) : q2y s (k + 1) n = q2y s k (nx s n) := if_pos h
theorem qhv {k : Nat} {n : Int} (h : ¬ Ns s n) : q2y s (k + 1) n = true := if_neg h
theorem Ns.inS {n : Int} (h : Ns s n) : inS s n = true := z5v (by decide) h.1
theorem zbs {k : Nat} : ∀ {n : Int}, q2y s k n = true → q2y s (k + 1) n = true := by
 induction k with
 | zero => intro n h; cases h
 | succ k ih =>
  intro n h
  by_cases hn : Ns s n
  ·rw [q91 hn] at h ⊢
   exact ih h
  ·exact qhv hn
theorem qrr {k j : Nat} (hk : k ≤ j) {n : Int} (h : q2y s k n = true) : q2y s j n = true := by
 obtain ⟨d, rfl⟩ := Nat.exists_eq_add_of_le hk
 clear hk
 induction d with
 | zero => exact h
 | succ d ih => exact zbs ih
def En (s : So) (n : Int) : Prop := ∃ k, q2y s k n = true
theorem En.st {n : Int} (h : ¬ Ns s n) : En s n := ⟨1, qhv h⟩
theorem qrv : ∀ (n : Nat) (l : List Nat), l.Nodup → (∀ x ∈ l, x < n) → l.length ≤ n
 | 0, [], _, _ => Nat.le_refl _
 | 0, x :: l, _, h => absurd (h x List.mem_cons_self) (Nat.not_lt_zero _)
 | n + 1, l, hn, h => by
  have h1 := qrv n (l.erase n) (hn.erase n) fun x hx => by
   have h2 := (hn.mem_erase_iff).1 hx
   have := h x h2.2
   have := h2.1
   omega
  have h2 := List.length_erase (a := n) (l := l)
  split at h2 <;> omega
theorem quv : ∀ (k : Nat) (n : Int), q2y s (k + 1) n = true → q2y s k n = false → ∃ l : List Int, l.length = k ∧ l.Nodup ∧ (∀ x ∈ l, inS s x = true) ∧ ∀ x ∈ l, ∃ j, j ≤ k ∧ q2y s (j + 1) x = true
 | 0, n, _, _ => ⟨[], rfl, List.nodup_nil, (fun x hx => by cases hx), fun x hx => by cases hx⟩
 | k + 1, n, h1, h2 => by
  have hn : Ns s n := Classical.byContradiction fun hn => by rw [qhv hn] at h2; cases h2
  rw [q91 hn] at h1 h2
  obtain ⟨l, e1, e2, e3, e4⟩ := quv k _ h1 h2
  refine ⟨n :: l, by simp [e1], ?_, fun x hx => ?_, fun x hx => ?_⟩
  ·refine List.nodup_cons.2 ⟨fun hm => ?_, e2⟩
   obtain ⟨j, hj, he⟩ := e4 n hm
   rw [q91 hn] at he
   rw [qrr hj he] at h2
   cases h2
  ·rcases List.mem_cons.1 hx with rfl | hx
   ·exact hn.inS
   ·exact e3 x hx
  ·rcases List.mem_cons.1 hx with rfl | hx
   ·exact ⟨k + 1, Nat.le_refl _, by rw [q91 hn]; exact h1⟩
   ·obtain ⟨j, hj, he⟩ := e4 x hx
    exact ⟨j, by omega, he⟩
theorem En.ends {n : Int} (h : En s n) : qs4 s n = true := by
 obtain ⟨k, hk⟩ := h
 induction k with
 | zero => cases hk
 | succ k ih =>
  cases hk' : q2y s k n with
  | true => exact ih hk'
  | false =>
   obtain ⟨l, e1, e2, e3, -⟩ := quv k n hk hk'
   have h1 := qrv s.cs.length (l.map Int.toNat) ?_ ?_
   ·rw [List.length_map, e1] at h1
    exact qrr (by omega) hk
   ·refine List.Pairwise.map _ (fun a b h => h) ?_
    refine List.Pairwise.imp_of_mem (R := fun a b => a ≠ b) (fun {a b} ha hb hab e => hab ?_) e2
    have h1 := z5.1 (e3 a ha)
    have h2 := z5.1 (e3 b hb)
    omega
   ·intro x hx
    obtain ⟨a, ha, rfl⟩ := List.mem_map.1 hx
    have h1 := z5.1 (e3 a ha)
    omega
end
end
instance {s : So} {n : Int} : Decidable (Ns s n) := inferInstanceAs (Decidable (_ ∧ _))
theorem qws {S : Nat → List D → Option (List D)} {R : List D → Prop} {id n : Nat} {x0 : X} {body : Tree} {l : List D} {B : Nat → List D → Prop} {v0 : D} (N : Nat) (P : Nat → Bool) (h0 : x0.ev (evl S l) = v0)
  (h : ∀ (k : Nat) (B' : Nat → List D → Prop), k ≤ N → (∀ j, j < k → P j = true) → (k < N → P k = true → B' id [v0, .i ((k : Int) + 1)]) → (∀ j, j ≠ id → B' j = B j) → body.go S R (l.take n ++ [v0, .i k]) B') : (Tree.loop id n [x0, .lit (.i 0)] body).go S R l B := by
 rw [jt]
 refine ⟨fun st => ∃ k : Nat, k ≤ N ∧ st = [v0, .i k] ∧ ∀ j, j < k → P j = true, fun st => N - (st.getD 1 .u).int.toNat, ⟨0, Nat.zero_le _, by simp [X.evs, X.ev, h0], fun j hj => absurd hj (Nat.not_lt_zero _)⟩, ?_⟩
 rintro st - ⟨k, hk, rfl, hP⟩
 refine h k _ hk hP (fun hlt hp => ?_) fun j hj => by rw [q2p, if_neg hj]
 rw [q2p, if_pos rfl]
 refine ⟨⟨k + 1, hlt, by simp, q2i hP hp⟩, ?_⟩
 simp [D.int]
 omega
def wkB (vc : So → Ce → Bool) (s : So) (w : Wk) : Bool := decide (1 ≤ w.ser) && (decide (w.ser ≤ s.ser) && (vc s w.att && vc s w.val))
def qf5 (s : So) : Bool := decide (1 ≤ s.mx) && (decide (s.mx ≤ 1048576) && (decide ((s.cs.length : Int) ≤ s.mx) && (decide (0 ≤ s.ser) && qbv s.ys)))
def y9 (s : So) : Bool := qf5 s && ((List.range s.cs.length).all (fun i => q9p s (i : Nat)) && ((List.range s.tr.length).all (fun i => z0h s (s.tr.getD i default)) && (List.range s.wk.length).all fun i => wkB vcR s (s.wk.getD i default)))
theorem qpy : FOk q0k (gSb y9) := qms qis qtu qy9 q1n fun ds outs hw hg => by
 obtain ⟨d, r, rfl, hd, rfl⟩ := hw
 obtain ⟨s, rfl, hs⟩ := wfS hd
 simp only [gSb, zk, Option.some.injEq] at hg
 subst hg
 have hl := hs.cs.1
 have hl2 := hs.tr.1
 have hl3 := hs.wk.1
 have hsy : z9l qbv [D.r (s.ys.map eY)] = some [.b (qbv s.ys)] := by simp [z9l, q6i, map_id' qpw]
 rw [q6h, qa]
 refine ⟨by simp only [gnZ, hsy], ?_⟩
 rw [qj]
 have hcond : (X.ev (evl (qb [(j8, z9l qbv), (q09, qcw z0u q9p), (q0x, zga z0h), (qr, qb8 vcR)]) [eS s]) (.or (.or (.or (.or (.lt (.fld (.tok 0) 5) (.lit (.i 1))) (.lt (.lit (.i 1048576)) (.fld (.tok 0) 5))) (.lt (.fld (.tok 0) 5) (.len (.fld (.tok 0) 0)))) (.lt (.fld (.tok 0) 4) (.lit (.i 0)))) (.not (.call 0 0 [(.fld (.tok 0) 1)])))).tt = !qf5 s := by
  simp only [gnZ, hsy, qf5]
  by_cases h1 : s.mx < 1
  ·have : ¬ 1 ≤ s.mx := by omega
   simp [h1, this]
  ·by_cases h2 : 1048576 < s.mx
   ·have : ¬ s.mx ≤ 1048576 := by omega
    simp [h2, this]
   ·by_cases h3 : s.mx < s.cs.length
    ·have : ¬ (s.cs.length : Int) ≤ s.mx := by omega
     simp [h3, this]
    ·by_cases h4 : s.ser < 0
     ·have : ¬ 0 ≤ s.ser := by omega
      simp [h4, this]
     ·have a1 : 1 ≤ s.mx := by omega
      have a2 : s.mx ≤ 1048576 := by omega
      have a3 : (s.cs.length : Int) ≤ s.mx := by omega
      have a4 : 0 ≤ s.ser := by omega
      simp [h1, h2, h3, h4, a1, a2, a3, a4]
 refine ⟨fun hx => ?_, fun hx => ?_⟩
 ·have hh : qf5 s = false := by
   have := hcond.symm.trans hx
   simpa using this
  simp [qd, X.evs, X.ev, y9, hh]
 have hh : qf5 s = true := by
  have := hcond.symm.trans hx
  simpa using this
 have hsy2 : qbv s.ys = true := by
  simp only [qf5, gnB] at hh
  exact hh.2.2.2.2
 refine qws s.cs.length (fun i => q9p s (i : Nat)) (v0 := .b false) rfl fun k B' hk hP hB _ => ?_
 rw [qj]
 refine ⟨fun hlt => ?_, fun hlt => ?_⟩
 ·have hkl : k < s.cs.length := by simpa [X.ev, evl, qer, D.int, D.rs, D.tt] using hlt
  have hin : inS s (k : Nat) = true := z5.2 ⟨by omega, by omega⟩
  have hQ : z0u s (k : Nat) = true := by simp [z0u, hin, hsy2]
  simp only [gnZ, qcw, hQ, if_true]
  refine ⟨fun hb => ?_, fun hb => ⟨⟨by omega, by omega⟩, ?_⟩⟩
  ·have : q9p s (k : Nat) = false := by simpa using hb
   have := qb4 (P := fun i => q9p s (i : Nat)) hkl this
   simp [y9, this]
  ·exact hB hkl (by simpa using hb)
 have hc : (List.range s.cs.length).all (fun i => q9p s (i : Nat)) = true := by
  have : k = s.cs.length := by
   have : ¬ (k < s.cs.length) := by simpa [X.ev, evl, qer, D.int, D.rs, D.tt] using hlt
   omega
  subst this
  exact qdr hP
 refine qws s.tr.length (fun i => z0h s (s.tr.getD i default)) (v0 := .b false) rfl fun k B' hk hP hB _ => ?_
 rw [qj]
 refine ⟨fun hlt => ?_, fun hlt => ?_⟩
 ·have hkl : k < s.tr.length := by simpa [X.ev, evl, z45, D.int, D.rs, D.tt] using hlt
  simp only [gnZ, zga, q7o eU hkl]
  refine ⟨⟨by omega, by omega⟩, fun hb => ?_, fun hb => ⟨⟨by omega, by omega⟩, ?_⟩⟩
  ·have : z0h s (s.tr.getD k default) = false := by simpa only [Bool.not_eq_true'] using hb
   have := qb4 (P := fun i => z0h s (s.tr.getD i default)) hkl this
   simp only [y9, this, Bool.false_and, Bool.and_false]
  ·exact hB hkl (by simpa only [Bool.not_eq_false'] using hb)
 have hc2 : (List.range s.tr.length).all (fun i => z0h s (s.tr.getD i default)) = true := by
  have : k = s.tr.length := by
   have : ¬ (k < s.tr.length) := by simpa [X.ev, evl, z45, D.int, D.rs, D.tt] using hlt
   omega
  subst this
  exact qdr hP
 refine qws s.wk.length (fun i => wkB vcR s (s.wk.getD i default)) (v0 := .b false) rfl fun k B' hk hP hB _ => ?_
 rw [qj]
 refine ⟨fun hlt => ?_, fun hlt => ?_⟩
 ·have hkl : k < s.wk.length := by simpa [X.ev, evl, z24, D.int, D.rs, D.tt] using hlt
  simp only [gnZ, qb8, q7o eW hkl]
  have hw : ((decide ((s.wk.getD k default).ser < 1) || decide (s.ser < (s.wk.getD k default).ser) || !vcR s (s.wk.getD k default).att || !vcR s (s.wk.getD k default).val)) = !wkB vcR s (s.wk.getD k default) := by
   generalize s.wk.getD k default = w
   simp only [wkB]
   by_cases h1 : w.ser < 1
   ·have : ¬ 1 ≤ w.ser := by omega
    simp [h1, this]
   ·by_cases h2 : s.ser < w.ser
    ·have : ¬ w.ser ≤ s.ser := by omega
     simp [h2, this]
    ·have a1 : 1 ≤ w.ser := by omega
     have a2 : w.ser ≤ s.ser := by omega
     simp [h1, h2, a1, a2]
  refine ⟨⟨by omega, by omega⟩, fun hb => ?_, fun hb => ⟨⟨by omega, by omega⟩, ?_⟩⟩
  ·rw [hw] at hb
   have := qb4 (P := fun i => wkB vcR s (s.wk.getD i default)) hkl (by simpa only [Bool.not_eq_true'] using hb)
   simp only [y9, this, Bool.and_false]
  ·rw [hw] at hb
   exact hB hkl (by simpa only [Bool.not_eq_false'] using hb)
 have hc3 : (List.range s.wk.length).all (fun i => wkB vcR s (s.wk.getD i default)) = true := by
  have : k = s.wk.length := by
   have : ¬ (k < s.wk.length) := by simpa [X.ev, evl, z24, D.int, D.rs, D.tt] using hlt
   omega
  subst this
  exact qdr hP
 simp only [qd, X.evs, X.ev, y9, hh, hc, hc2, hc3, Bool.and_true]
end Go.Proofs.YtdaadonfbnedaaaGreat
