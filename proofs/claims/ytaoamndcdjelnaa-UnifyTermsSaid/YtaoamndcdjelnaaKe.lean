/-
 Lemmas of the walk and plain laws, put together. No condition.
-/
import Derived.Test.YtaoamndcdjelnaaKd
namespace Go.Proofs.Ytaoamndcdjelnaa
open Go.RowKit
set_option linter.unusedVariables false
set_option linter.unusedSimpArgs false
set_option maxRecDepth 100000
abbrev z3e : Ty := .row 29
abbrev qtc : Ty := .row 66
abbrev z3t : Ty := .row 68
abbrev z44 : Ty := .row 61
abbrev q6k : Ty := .st 26
abbrev qbn : Ty := .st 28
abbrev qno : Ty := .row 42
abbrev qe5 : Ty := .st 41
abbrev qoh : Ty := .row 105
abbrev z25 : Ty := .row 114
abbrev qwf : Ty := .st 60
abbrev q1z : Ty := .st 65
abbrev qx4 : Ty := .st 67
abbrev qjy : Ty := .st 104
abbrev qip : Ty := .st 113
abbrev GfZ := List D → Option (List D)
def EnZ (ct : Ct) : Prop := ∀ (args : Array Value) (w : World), (callFunc ct.f args).run Try.prog w = .ok (.enter ct.f args) w
def CdZ (T : Tbl) (a : Ann) (ct : Ct) (f : Func) (t : Tree) : Prop := ∀ cd, f.body = some cd → qp0 Try.prog T a ct f cd = t
def HgZ (t : Tree) (ct : Ct) (T : Tbl) (g : GfZ) : Prop := ∀ ds outs, WfA ct.ars ds → g ds = some outs → t.go (qe T) (fun o => o = outs) ds fun _ _ => False
theorem zq {ct : Ct} {g : GfZ} {T : Tbl} {a : Ann} {f : Func} {t : Tree} {cd : Code} (hc : CdZ T a ct f t) (htb : q17 T) (hf : Try.prog.funcs[ct.f]? = some f) (hb : f.body = some cd) (he : EnZ ct) (hd : ct.ar.length ≤ f.ntmps) (h : HgZ t ct T g) (hnp : q9x T = true := by rfl) (hkp : ct.kp = [] := by rfl) : FOk ct g :=
 zhf a f cd htb hf hb he hd (fun ds outs hw hg => by rw [hc cd hb]; exact h ds outs hw hg) hnp hkp
def q1a : Ct := ⟨60, [.val (.st 26), .val (.int .i64)], [(.int .i64, false)], [], none, []⟩
theorem qmr : EnZ q1a := fun _ _ => by kernel_rfl
def jv : Ct := ⟨61, [.val (.st 26), .val (.int .i64)], [(.int .i64, false)], [], none, []⟩
theorem qfw : EnZ jv := fun _ _ => by kernel_rfl
def zt : Ct := ⟨59, [.val (.st 26), .val (.int .i64)], [(.bool, false)], [], none, []⟩
theorem qev : EnZ zt := fun _ _ => by kernel_rfl
def yq : Ct := ⟨32, [.val (.st 26), .val (.st 28)], [(.bool, false)], [], none, []⟩
theorem qab : EnZ yq := fun _ _ => by kernel_rfl
def yz : Ct := ⟨31, [.val (.int .i64)], [(.st 28, false)], [], none, []⟩
theorem qle : EnZ yz := fun _ _ => by kernel_rfl
def qrm : Ann := ⟨[0, 2], []⟩
def q4g : Tree := (.leaf [(.mk [(.lit (.i 0)), (.tok 0)])])
theorem qri : CdZ [] qrm yz Try.f31 q4g := fun cd h => by injection h with h; subst h; kernel_rfl
theorem qrn {g : GfZ} (h : HgZ q4g yz [] g) : FOk yz g := zq (qri) .nil rfl rfl qle (by decide) h
def jw : Ct := ⟨29, [], [(.st 26, true)], [], none, []⟩
theorem qgu : EnZ jw := fun _ _ => by kernel_rfl
def qmc : Ann := ⟨[0], []⟩
def q51 : Tree := (.need [(.ok 0 [(.lit (.i 1))]), (.ok 0 [(.lit (.i 4))]), (.ok 0 [(.lit (.i 5))])] (.leaf [(.set (.set (.set (.lit (.a [(.r []), (.r []), (.r []), (.r []), (.i 0), (.i 0)])) 0 (.row [(.set (.lit (.a [(.i 0), (.i 0)])) 0 (.lit (.i 4))), (.call 0 0 [(.lit (.i 1))]), (.mk [(.lit (.i 2)), (.lit (.i 1))]), (.set (.lit (.a [(.i 0), (.i 0)])) 0 (.lit (.i 4))), (.call 0 0 [(.lit (.i 4))]), (.call 0 0 [(.lit (.i 5))]), (.mk [(.lit (.i 1)), (.lit (.i 7))])])) 1 (.row [(.mk [(.lit (.s ⟨#[102]⟩)), (.lit (.i 2))]), (.set (.lit (.a [(.s ⟨#[]⟩), (.i 0)])) 0 (.lit (.s ⟨#[97]⟩)))])) 5 (.lit (.i 100)))]))
theorem qkd (g0 : GfZ) : CdZ [(yz, g0)] qmc jw Try.f29 q51 := fun cd h => by injection h with h; subst h; kernel_rfl
theorem qky {g0 g : GfZ} (h0 : FOk yz g0) (h : HgZ q51 jw [(yz, g0)] g) : FOk jw g := zq (qkd g0) (.cons h0 .nil) rfl rfl qgu (by decide) h
def q1b : Ct := ⟨30, [.val (.int .i64)], [(.st 28, false)], [], none, []⟩
theorem qme : EnZ q1b := fun _ _ => by kernel_rfl
def qs9 : Ann := ⟨[0, 2], []⟩
def q71 : Tree := (.leaf [(.mk [(.lit (.i 3)), (.tok 0)])])
theorem qqp : CdZ [] qs9 q1b Try.f30 q71 := fun cd h => by injection h with h; subst h; kernel_rfl
theorem qrs {g : GfZ} (h : HgZ q71 q1b [] g) : FOk q1b g := zq (qqp) .nil rfl rfl qme (by decide) h
def jl : Ct := ⟨52, [.rref (.st 26), .val (.int .i64), .val (.int .i64)], [(.bool, false)], [], none, []⟩
theorem qf8 : EnZ jl := fun _ _ => by kernel_rfl
def qix : Ann := ⟨[0, 1, 2, 6], []⟩
def q49 : Tree := (.leaf [(.and (.and (.and (.le (.lit (.i 0)) (.tok 1)) (.le (.tok 1) (.len (.fld (.tok 0) 2)))) (.le (.lit (.i 0)) (.tok 2))) (.le (.tok 2) (.len (.fld (.tok 0) 0))))])
theorem qgm : CdZ [] qix jl Try.f52 q49 := fun cd h => by injection h with h; subst h; kernel_rfl
theorem qi8 {g : GfZ} (h : HgZ q49 jl [] g) : FOk jl g := zq (qgm) .nil rfl rfl qf8 (by decide) h
def yu : Ct := ⟨54, [.rref (.st 26), .val (.int .i64)], [(.bool, false)], [], none, []⟩
theorem qr2 : EnZ yu := fun _ _ => by kernel_rfl
def qxb : Ann := ⟨[0, 1, 4], []⟩
def q8g : Tree := (.leaf [(.and (.le (.lit (.i 0)) (.tok 1)) (.lt (.tok 1) (.len (.fld (.tok 0) 0))))])
theorem qsl : CdZ [] qxb yu Try.f54 q8g := fun cd h => by injection h with h; subst h; kernel_rfl
theorem qxe {g : GfZ} (h : HgZ q8g yu [] g) : FOk yu g := zq (qsl) .nil rfl rfl qr2 (by decide) h
def jc : Ct := ⟨25, [.ref (.st 26) true, .val (.int .i64), .val (.int .i64)], [(.int .i64, false)], [], none, []⟩
theorem qhk : EnZ jc := fun _ _ => by kernel_rfl
def qb9 : Ann := ⟨[0, 1, 2, 3, 6, 8, 13, 20, 21, 22, 26], [(4, ⟨[], [0], [8, 23, 24, 25, 26, 27, 28, 29, 30, 31, 32, 33, 34, 35], []⟩)]⟩
def q60 : Tree := (.need [(.ok 0 [(.tok 0), (.tok 1), (.tok 2)])] (.br (.not (.call 0 0 [(.tok 0), (.tok 1), (.tok 2)])) (.leaf [(.lit (.i 1)), (.tok 0)]) (.need [(.le (.lit (.i 0)) (.tok 1)), (.le (.tok 1) (.len (.fld (.tok 0) 2)))] (.loop 4 3 [(.tok 0), (.sub (.len (.cut (.fld (.tok 0) 2) (.tok 1) (.len (.fld (.tok 0) 2)))) (.lit (.i 1)))] (.br (.le (.lit (.i 0)) (.tok 4)) (.need [(.ok 1 [(.tok 3), (.fld (.get (.cut (.fld (.tok 0) 2) (.tok 1) (.len (.fld (.tok 0) 2))) (.tok 4)) 0)])] (.br (.call 1 0 [(.tok 3), (.fld (.get (.cut (.fld (.tok 0) 2) (.tok 1) (.len (.fld (.tok 0) 2))) (.tok 4)) 0)]) (.need [(.le (.lit (.i 0)) (.fld (.get (.cut (.fld (.tok 0) 2) (.tok 1) (.len (.fld (.tok 0) 2))) (.tok 4)) 0)), (.lt (.fld (.get (.cut (.fld (.tok 0) 2) (.tok 1) (.len (.fld (.tok 0) 2))) (.tok 4)) 0) (.len (.fld (.tok 3) 0)))] (.back 4 [(.set (.tok 3) 0 (.put (.fld (.tok 3) 0) (.fld (.get (.cut (.fld (.tok 0) 2) (.tok 1) (.len (.fld (.tok 0) 2))) (.tok 4)) 0) (.fld (.get (.cut (.fld (.tok 0) 2) (.tok 1) (.len (.fld (.tok 0) 2))) (.tok 4)) 1))), (.sub (.tok 4) (.lit (.i 1)))])) (.back 4 [(.tok 3), (.sub (.tok 4) (.lit (.i 1)))]))) (.need [(.le (.lit (.i 0)) (.tok 1)), (.le (.tok 1) (.len (.fld (.tok 3) 2)))] (.need [(.le (.lit (.i 0)) (.tok 2)), (.le (.tok 2) (.len (.fld (.set (.tok 3) 2 (.cut (.fld (.tok 3) 2) (.lit (.i 0)) (.tok 1))) 0)))] (.leaf [(.lit (.i 0)), (.set (.set (.tok 3) 2 (.cut (.fld (.tok 3) 2) (.lit (.i 0)) (.tok 1))) 0 (.cut (.fld (.set (.tok 3) 2 (.cut (.fld (.tok 3) 2) (.lit (.i 0)) (.tok 1))) 0) (.lit (.i 0)) (.tok 2)))]))))))))
theorem qku (g0 g1 : List D → Option (List D)) : ∀ cd, Try.f25.body = some cd → zg0 Try.prog [(jl, g0), (yu, g1)] qb9 jc Try.f25 cd = q60 := by
 intro cd h
 injection h with h
 subst h
 kernel_rfl
theorem qoj {g0 g1 : List D → Option (List D)} {g : List D → Option (List D)} (h0 : FOk jl g0) (h1 : FOk yu g1) (h : ∀ ds outs, WfA jc.ars ds → g ds = some outs → q60.go (qe [(jl, g0), (yu, g1)]) (fun o => o = outs) ds fun _ _ => False) : FOk jc g :=
 zez qb9 Try.f25 _ (.cons h0 (.cons h1 .nil)) z6z rfl rfl qhk (by decide) fun ds outs hw hg => by rw [qku g0 g1 _ rfl]; exact h ds outs hw hg
def zz : Ct := ⟨24, [.rref (.int .i64), .cell 33 5, .rref (.int .i64), .rref (.int .i64), .rref (.int .i64)], [], [(.cell 1, .ref (.st 26) true)], none, []⟩
theorem qcw : EnZ zz := fun _ _ => by kernel_rfl
def q85 : Ann := ⟨[0, 1, 2, 3, 4, 6], []⟩
def q0v : Tree := (.br (.not (.eq (.tok 0) (.lit (.i 0)))) (.need [(.ok 0 [(.tok 4), (.tok 1), (.tok 2)])] (.need [(.le (.lit (.i 0)) (.tok 3)), (.le (.tok 3) (.len (.fld (.call 0 1 [(.tok 4), (.tok 1), (.tok 2)]) 3)))] (.leaf [(.set (.call 0 1 [(.tok 4), (.tok 1), (.tok 2)]) 3 (.cut (.fld (.call 0 1 [(.tok 4), (.tok 1), (.tok 2)]) 3) (.lit (.i 0)) (.tok 3)))]))) (.leaf [(.tok 4)]))
theorem q7f (g0 : GfZ) : CdZ [(jc, g0)] q85 zz Try.f24 q0v := fun cd h => by injection h with h; subst h; kernel_rfl
theorem qfd {g0 g : GfZ} (h0 : FOk jc g0) (h : HgZ q0v zz [(jc, g0)] g) : FOk zz g := zq (q7f g0) (.cons h0 .nil) rfl rfl qcw (by decide) h
def yf : Ct := ⟨46, [.val (.st 26), .val (.int .i64)], [(.int .i64, false)], [], none, []⟩
theorem qh1 : EnZ yf := fun _ _ => by kernel_rfl
def qmg : Ann := ⟨[0, 1, 2, 4, 13], []⟩
def q56 : Tree := (.br (.or (.lt (.tok 1) (.lit (.i 0))) (.le (.len (.fld (.tok 0) 1)) (.tok 1))) (.leaf [(.lit (.i (-1)))]) (.need [(.le (.lit (.i 0)) (.tok 1)), (.lt (.tok 1) (.len (.fld (.tok 0) 1)))] (.leaf [(.fld (.get (.fld (.tok 0) 1) (.tok 1)) 1)])))
theorem qk3 : CdZ [] qmg yf Try.f46 q56 := fun cd h => by injection h with h; subst h; kernel_rfl
theorem qms {g : GfZ} (h : HgZ q56 yf [] g) : FOk yf g := zq (qk3) .nil rfl rfl qh1 (by decide) h
def y8 : Ct := ⟨48, [.val (.st 26), .val (.int .i64)], [(.int .i64, false)], [], none, []⟩
theorem qma : EnZ y8 := fun _ _ => by kernel_rfl
def qs6 : Ann := ⟨[0, 1, 2, 4, 13], []⟩
def q6v : Tree := (.br (.or (.lt (.tok 1) (.lit (.i 0))) (.le (.len (.fld (.tok 0) 0)) (.tok 1))) (.leaf [(.lit (.i (-1)))]) (.need [(.le (.lit (.i 0)) (.tok 1)), (.lt (.tok 1) (.len (.fld (.tok 0) 0)))] (.leaf [(.fld (.get (.fld (.tok 0) 0) (.tok 1)) 0)])))
theorem qnt : CdZ [] qs6 y8 Try.f48 q6v := fun cd h => by injection h with h; subst h; kernel_rfl
theorem qsb {g : GfZ} (h : HgZ q6v y8 [] g) : FOk y8 g := zq (qnt) .nil rfl rfl qma (by decide) h
def qh : Ct := ⟨23, [.val (.st 26), .val (.st 28)], [(.bool, false)], [], none, []⟩
theorem qac : EnZ qh := fun _ _ => by kernel_rfl
def qcr : Ann := ⟨[0, 1, 2, 3, 4, 5, 7, 8, 10, 17, 29, 36], []⟩
def q2f : Tree := (.br (.eq (.fld (.tok 1) 0) (.lit (.i 1))) (.leaf [(.lit (.b .true))]) (.br (.eq (.fld (.tok 1) 0) (.lit (.i 2))) (.need [(.ok 0 [(.tok 0), (.fld (.tok 1) 1)])] (.leaf [(.eq (.call 0 0 [(.tok 0), (.fld (.tok 1) 1)]) (.lit (.i 0)))])) (.br (.eq (.fld (.tok 1) 0) (.lit (.i 0))) (.need [(.ok 1 [(.tok 0), (.fld (.tok 1) 1)])] (.leaf [(.and (.le (.lit (.i 0)) (.call 1 0 [(.tok 0), (.fld (.tok 1) 1)])) (.not (.eq (.call 1 0 [(.tok 0), (.fld (.tok 1) 1)]) (.lit (.i 4)))))])) (.br (.eq (.fld (.tok 1) 0) (.lit (.i 3))) (.need [(.ok 1 [(.tok 0), (.fld (.tok 1) 1)])] (.leaf [(.eq (.call 1 0 [(.tok 0), (.fld (.tok 1) 1)]) (.lit (.i 4)))])) (.br (.eq (.fld (.tok 1) 0) (.lit (.i 5))) (.need [(.ok 1 [(.tok 0), (.fld (.tok 1) 1)])] (.leaf [(.eq (.call 1 0 [(.tok 0), (.fld (.tok 1) 1)]) (.lit (.i 5)))])) (.leaf [(.lit (.b .false))]))))))
theorem qbi (g0 g1 : GfZ) : CdZ [(yf, g0), (y8, g1)] qcr qh Try.f23 q2f := fun cd h => by injection h with h; subst h; kernel_rfl
theorem qct {g0 g1 g : GfZ} (h0 : FOk yf g0) (h1 : FOk y8 g1) (h : HgZ q2f qh [(yf, g0), (y8, g1)] g) : FOk qh g := zq (qbi g0 g1) (.cons h0 (.cons h1 .nil)) rfl rfl qac (by decide) h
def yv : Ct := ⟨81, [.rref (.st 26), .val (.int .i64)], [(.bool, false)], [], none, []⟩
theorem qal : EnZ yv := fun _ _ => by kernel_rfl
def qf9 : Ann := ⟨[0, 1, 4, 5, 14, 15, 21, 23], []⟩
def q32 : Tree := (.need [(.le (.lit (.i 0)) (.tok 1)), (.lt (.tok 1) (.len (.fld (.tok 0) 0)))] (.br (.eq (.fld (.get (.fld (.tok 0) 0) (.tok 1)) 0) (.lit (.i 0))) (.leaf [(.eq (.get (.fld (.tok 0) 0) (.tok 1)) (.mk [(.lit (.i 0)), (.tok 1)]))]) (.br (.eq (.fld (.get (.fld (.tok 0) 0) (.tok 1)) 0) (.lit (.i 5))) (.leaf [(.lit (.b .true))]) (.br (.eq (.fld (.get (.fld (.tok 0) 0) (.tok 1)) 0) (.lit (.i 1))) (.br (.eq (.fld (.get (.fld (.tok 0) 0) (.tok 1)) 0) (.lit (.i 1))) (.need [(.imp (.le (.lit (.i 2)) (.tok 1)) (.rng .i64 (.sub (.tok 1) (.lit (.i 2))))), (.imp (.le (.lit (.i 2)) (.tok 1)) (.le (.lit (.i 0)) (.sub (.tok 1) (.lit (.i 2))))), (.imp (.le (.lit (.i 2)) (.tok 1)) (.lt (.sub (.tok 1) (.lit (.i 2))) (.len (.fld (.tok 0) 0))))] (.leaf [(.and (.le (.lit (.i 2)) (.tok 1)) (.eq (.fld (.get (.fld (.tok 0) 0) (.sub (.tok 1) (.lit (.i 2)))) 0) (.lit (.i 5))))])) (.leaf [(.lit (.b .false))])) (.br (.eq (.fld (.get (.fld (.tok 0) 0) (.tok 1)) 0) (.lit (.i 2))) (.br (.eq (.fld (.get (.fld (.tok 0) 0) (.tok 1)) 0) (.lit (.i 2))) (.need [(.imp (.le (.lit (.i 2)) (.tok 1)) (.rng .i64 (.sub (.tok 1) (.lit (.i 2))))), (.imp (.le (.lit (.i 2)) (.tok 1)) (.le (.lit (.i 0)) (.sub (.tok 1) (.lit (.i 2))))), (.imp (.le (.lit (.i 2)) (.tok 1)) (.lt (.sub (.tok 1) (.lit (.i 2))) (.len (.fld (.tok 0) 0))))] (.leaf [(.and (.le (.lit (.i 2)) (.tok 1)) (.eq (.fld (.get (.fld (.tok 0) 0) (.sub (.tok 1) (.lit (.i 2)))) 0) (.lit (.i 5))))])) (.leaf [(.lit (.b .false))])) (.br (.eq (.fld (.get (.fld (.tok 0) 0) (.tok 1)) 0) (.lit (.i 3))) (.need [(.imp (.le (.lit (.i 2)) (.tok 1)) (.rng .i64 (.sub (.tok 1) (.lit (.i 2))))), (.imp (.le (.lit (.i 2)) (.tok 1)) (.le (.lit (.i 0)) (.sub (.tok 1) (.lit (.i 2))))), (.imp (.le (.lit (.i 2)) (.tok 1)) (.lt (.sub (.tok 1) (.lit (.i 2))) (.len (.fld (.tok 0) 0))))] (.leaf [(.and (.le (.lit (.i 2)) (.tok 1)) (.eq (.fld (.get (.fld (.tok 0) 0) (.sub (.tok 1) (.lit (.i 2)))) 0) (.lit (.i 5))))])) (.leaf [(.lit (.b .false))])))))))
theorem qdh : CdZ [] qf9 yv Try.f81 q32 := fun cd h => by injection h with h; subst h; kernel_rfl
theorem qei {g : GfZ} (h : HgZ q32 yv [] g) : FOk yv g := zq (qdh) .nil rfl rfl qal (by decide) h
def q0m : Ct := ⟨83, [.val (.st 28)], [(.st 28, false)], [], none, []⟩
theorem qj2 : EnZ q0m := fun _ _ => by kernel_rfl
def qpa : Ann := ⟨[0, 1, 2, 5], []⟩
def q5s : Tree := (.br (.eq (.fld (.tok 0) 0) (.lit (.i 5))) (.leaf [(.set (.tok 0) 0 (.lit (.i 0)))]) (.leaf [(.tok 0)]))
theorem qmb : CdZ [] qpa q0m Try.f83 q5s := fun cd h => by injection h with h; subst h; kernel_rfl
theorem qqx {g : GfZ} (h : HgZ q5s q0m [] g) : FOk q0m g := zq (qmb) .nil rfl rfl qj2 (by decide) h
def ju : Ct := ⟨82, [.rref (.st 26), .val (.st 28), .val (.int .i64)], [(.bool, false)], [], none, []⟩
theorem qgb : EnZ ju := fun _ _ => by kernel_rfl
def ql0 : Ann := ⟨[0, 1, 2, 4, 6, 7, 13, 14, 15, 25, 29, 40], [(2, ⟨[(6, .bool, false), (14, .int .i64, false)], [4], [15, 16, 17, 18, 19, 20, 21, 22, 23, 24, 25, 26, 27, 28, 29, 30, 31, 32, 33, 34, 35, 36, 37, 7, 38, 39, 40, 41, 42], []⟩)]⟩
def q4n : Tree := (.need [(.rng .i64 (.add (.len (.fld (.tok 0) 0)) (.lit (.i 1))))] (.loop 2 3 [(.lit (.b .false)), (.lit (.i 0)), (.tok 1)] (.br (.lt (.tok 4) (.add (.len (.fld (.tok 0) 0)) (.lit (.i 1)))) (.need [(.imp (.not (.not (.eq (.fld (.tok 5) 0) (.lit (.i 0))))) (.ok 0 [(.tok 0), (.fld (.tok 5) 1)]))] (.br (.or (.not (.eq (.fld (.tok 5) 0) (.lit (.i 0)))) (.not (.call 0 0 [(.tok 0), (.fld (.tok 5) 1)]))) (.leaf [(.lit (.b .false))]) (.br (.eq (.fld (.tok 5) 1) (.tok 2)) (.leaf [(.lit (.b .true))]) (.need [(.le (.lit (.i 0)) (.fld (.tok 5) 1)), (.lt (.fld (.tok 5) 1) (.len (.fld (.tok 0) 0)))] (.br (.eq (.get (.fld (.tok 0) 0) (.fld (.tok 5) 1)) (.tok 5)) (.leaf [(.lit (.b .false))]) (.need [(.rng .i64 (.add (.tok 4) (.lit (.i 1))))] (.back 2 [(.tok 3), (.add (.tok 4) (.lit (.i 1))), (.get (.fld (.tok 0) 0) (.fld (.tok 5) 1))]))))))) (.leaf [(.lit (.b .false))]))))
theorem qiz (g0 : GfZ) : CdZ [(yu, g0)] ql0 ju Try.f82 q4n := fun cd h => by injection h with h; subst h; kernel_rfl
theorem qlp {g0 g : GfZ} (h0 : FOk yu g0) (h : HgZ q4n ju [(yu, g0)] g) : FOk ju g := zq (qiz g0) (.cons h0 .nil) rfl rfl qgb (by decide) h
def y9 : Ct := ⟨57, [.ref (.st 26) true, .val (.int .i64), .val (.st 28)], [(.int .i64, false)], [], none, []⟩
theorem qlj : EnZ y9 := fun _ _ => by kernel_rfl
def qs1 : Ann := ⟨[0, 1, 2, 5, 6, 35], []⟩
def q72 : Tree := (.need [(.imp (.not (.or (.or (.not (.call 0 0 [(.tok 0), (.tok 1)])) (.not (.call 1 0 [(.tok 0), (.tok 2)]))) (.not (.call 2 0 [(.tok 0), (.tok 1)])))) (.ok 4 [(.tok 0), (.call 3 0 [(.tok 2)]), (.tok 1)])), (.imp (.not (.or (.or (.not (.call 0 0 [(.tok 0), (.tok 1)])) (.not (.call 1 0 [(.tok 0), (.tok 2)]))) (.not (.call 2 0 [(.tok 0), (.tok 1)])))) (.ok 3 [(.tok 2)])), (.imp (.not (.or (.or (.not (.call 0 0 [(.tok 0), (.tok 1)])) (.not (.call 1 0 [(.tok 0), (.tok 2)]))) (.not (.call 2 0 [(.tok 0), (.tok 1)])))) (.ok 3 [(.tok 2)])), (.imp (.not (.or (.not (.call 0 0 [(.tok 0), (.tok 1)])) (.not (.call 1 0 [(.tok 0), (.tok 2)])))) (.ok 2 [(.tok 0), (.tok 1)])), (.imp (.not (.not (.call 0 0 [(.tok 0), (.tok 1)]))) (.ok 1 [(.tok 0), (.tok 2)])), (.ok 0 [(.tok 0), (.tok 1)])] (.br (.or (.or (.or (.not (.call 0 0 [(.tok 0), (.tok 1)])) (.not (.call 1 0 [(.tok 0), (.tok 2)]))) (.not (.call 2 0 [(.tok 0), (.tok 1)]))) (.call 4 0 [(.tok 0), (.call 3 0 [(.tok 2)]), (.tok 1)])) (.leaf [(.lit (.i 1)), (.tok 0)]) (.need [(.le (.lit (.i 0)) (.tok 1)), (.lt (.tok 1) (.len (.fld (.tok 0) 0))), (.le (.add (.len (.fld (.tok 0) 2)) (.lit (.i 1))) (.lit (.i 5864062014634)))] (.need [(.ok 3 [(.tok 2)]), (.le (.lit (.i 0)) (.tok 1)), (.lt (.tok 1) (.len (.fld (.set (.tok 0) 2 (.app (.fld (.tok 0) 2) (.row [(.mk [(.tok 1), (.get (.fld (.tok 0) 0) (.tok 1))])]))) 0)))] (.leaf [(.lit (.i 0)), (.set (.set (.tok 0) 2 (.app (.fld (.tok 0) 2) (.row [(.mk [(.tok 1), (.get (.fld (.tok 0) 0) (.tok 1))])]))) 0 (.put (.fld (.set (.tok 0) 2 (.app (.fld (.tok 0) 2) (.row [(.mk [(.tok 1), (.get (.fld (.tok 0) 0) (.tok 1))])]))) 0) (.tok 1) (.call 3 0 [(.tok 2)])))])))))
theorem qou (g0 g1 g2 g3 g4 : GfZ) : CdZ [(yu, g0), (qh, g1), (yv, g2), (q0m, g3), (ju, g4)] qs1 y9 Try.f57 q72 := fun cd h => by injection h with h; subst h; kernel_rfl
theorem qt3 {g0 g1 g2 g3 g4 g : GfZ} (h0 : FOk yu g0) (h1 : FOk qh g1) (h2 : FOk yv g2) (h3 : FOk q0m g3) (h4 : FOk ju g4) (h : HgZ q72 y9 [(yu, g0), (qh, g1), (yv, g2), (q0m, g3), (ju, g4)] g) : FOk y9 g := zq (qou g0 g1 g2 g3 g4) (.cons h0 (.cons h1 (.cons h2 (.cons h3 (.cons h4 .nil))))) rfl rfl qlj (by decide) h
def qq : Ct := ⟨44, [.val (.st 26), .val (.st 28)], [(.st 28, false)], [], none, []⟩
theorem qfj : EnZ qq := fun _ _ => by kernel_rfl
def qld : Ann := ⟨[0, 1, 2, 3, 4, 8, 12, 13, 14, 34], [(4, ⟨[(13, .int .i64, false)], [3], [14, 15, 16, 17, 18, 19, 20, 21, 22, 23, 24, 25, 26, 27, 28, 29, 30, 31, 32, 33, 34, 35, 36, 37, 38, 39, 40, 41], []⟩)]⟩
def q2v : Tree := (.need [(.ok 0 [(.tok 0), (.tok 1)])] (.br (.not (.call 0 0 [(.tok 0), (.tok 1)])) (.leaf [(.lit (.a [(.i 0), (.i 0)]))]) (.loop 4 2 [(.lit (.i 0)), (.tok 1)] (.br (.lt (.tok 2) (.len (.fld (.tok 0) 0))) (.need [(.imp (.not (.or (.not (.eq (.fld (.tok 3) 0) (.lit (.i 0)))) (.lt (.call 1 0 [(.tok 0), (.fld (.tok 3) 1)]) (.lit (.i 0))))) (.le (.lit (.i 0)) (.fld (.tok 3) 1))), (.imp (.not (.or (.not (.eq (.fld (.tok 3) 0) (.lit (.i 0)))) (.lt (.call 1 0 [(.tok 0), (.fld (.tok 3) 1)]) (.lit (.i 0))))) (.lt (.fld (.tok 3) 1) (.len (.fld (.tok 0) 0)))), (.imp (.not (.or (.not (.eq (.fld (.tok 3) 0) (.lit (.i 0)))) (.lt (.call 1 0 [(.tok 0), (.fld (.tok 3) 1)]) (.lit (.i 0))))) (.le (.lit (.i 0)) (.fld (.tok 3) 1))), (.imp (.not (.or (.not (.eq (.fld (.tok 3) 0) (.lit (.i 0)))) (.lt (.call 1 0 [(.tok 0), (.fld (.tok 3) 1)]) (.lit (.i 0))))) (.lt (.fld (.tok 3) 1) (.len (.fld (.tok 0) 0)))), (.imp (.not (.not (.eq (.fld (.tok 3) 0) (.lit (.i 0))))) (.ok 1 [(.tok 0), (.fld (.tok 3) 1)]))] (.br (.or (.or (.not (.eq (.fld (.tok 3) 0) (.lit (.i 0)))) (.lt (.call 1 0 [(.tok 0), (.fld (.tok 3) 1)]) (.lit (.i 0)))) (.eq (.get (.fld (.tok 0) 0) (.fld (.tok 3) 1)) (.tok 3))) (.leaf [(.tok 3)]) (.need [(.le (.lit (.i 0)) (.fld (.tok 3) 1)), (.lt (.fld (.tok 3) 1) (.len (.fld (.tok 0) 0)))] (.need [(.rng .i64 (.add (.tok 2) (.lit (.i 1))))] (.back 4 [(.add (.tok 2) (.lit (.i 1))), (.get (.fld (.tok 0) 0) (.fld (.tok 3) 1))]))))) (.leaf [(.tok 3)])))))
theorem qjw (g0 g1 : GfZ) : CdZ [(qh, g0), (y8, g1)] qld qq Try.f44 q2v := fun cd h => by injection h with h; subst h; kernel_rfl
theorem q9w {g0 g1 g : GfZ} (h0 : FOk qh g0) (h1 : FOk y8 g1) (h : HgZ q2v qq [(qh, g0), (y8, g1)] g) : FOk qq g := zq (qjw g0 g1) (.cons h0 (.cons h1 .nil)) rfl rfl qfj (by decide) h
def q0u : Ct := ⟨86, [.val (.st 26), .val (.int .i64)], [(.bool, false)], [], none, []⟩
theorem qs2 : EnZ q0u := fun _ _ => by kernel_rfl
def qys : Ann := ⟨[0, 1, 2, 4], []⟩
def q9f : Tree := (.leaf [(.and (.le (.lit (.i 0)) (.tok 1)) (.lt (.tok 1) (.len (.fld (.tok 0) 0))))])
theorem qwu : CdZ [] qys q0u Try.f86 q9f := fun cd h => by injection h with h; subst h; kernel_rfl
theorem qyg {g : GfZ} (h : HgZ q9f q0u [] g) : FOk q0u g := zq (qwu) .nil rfl rfl qs2 (by decide) h
def j7 : Ct := ⟨84, [.val (.st 26), .val (.st 28)], [(.st 28, false), (.bool, false)], [], none, []⟩
theorem qdk : EnZ j7 := fun _ _ => by kernel_rfl
def qg4 : Ann := ⟨[0, 1, 2, 3, 4, 5, 9, 15, 16, 23], []⟩
def q3r : Tree := (.need [(.ok 0 [(.tok 0), (.tok 1)])] (.br (.not (.call 0 0 [(.tok 0), (.tok 1)])) (.leaf [(.lit (.a [(.i 0), (.i 0)])), (.lit (.b .false))]) (.need [(.ok 1 [(.tok 0), (.tok 1)])] (.br (.eq (.fld (.call 1 0 [(.tok 0), (.tok 1)]) 0) (.lit (.i 0))) (.need [(.ok 2 [(.tok 0), (.fld (.call 1 0 [(.tok 0), (.tok 1)]) 1)])] (.leaf [(.call 1 0 [(.tok 0), (.tok 1)]), (.call 2 0 [(.tok 0), (.fld (.call 1 0 [(.tok 0), (.tok 1)]) 1)])])) (.br (.eq (.fld (.call 1 0 [(.tok 0), (.tok 1)]) 0) (.lit (.i 5))) (.need [(.imp (.call 2 0 [(.tok 0), (.fld (.call 1 0 [(.tok 0), (.tok 1)]) 1)]) (.ok 2 [(.tok 0), (.add (.fld (.call 1 0 [(.tok 0), (.tok 1)]) 1) (.lit (.i 2)))])), (.imp (.call 2 0 [(.tok 0), (.fld (.call 1 0 [(.tok 0), (.tok 1)]) 1)]) (.rng .i64 (.add (.fld (.call 1 0 [(.tok 0), (.tok 1)]) 1) (.lit (.i 2))))), (.ok 2 [(.tok 0), (.fld (.call 1 0 [(.tok 0), (.tok 1)]) 1)])] (.leaf [(.call 1 0 [(.tok 0), (.tok 1)]), (.and (.call 2 0 [(.tok 0), (.fld (.call 1 0 [(.tok 0), (.tok 1)]) 1)]) (.call 2 0 [(.tok 0), (.add (.fld (.call 1 0 [(.tok 0), (.tok 1)]) 1) (.lit (.i 2)))]))])) (.leaf [(.lit (.a [(.i 0), (.i 0)])), (.lit (.b .false))]))))))
theorem qfb (g0 g1 g2 : GfZ) : CdZ [(qh, g0), (qq, g1), (q0u, g2)] qg4 j7 Try.f84 q3r := fun cd h => by injection h with h; subst h; kernel_rfl
theorem qg3 {g0 g1 g2 g : GfZ} (h0 : FOk qh g0) (h1 : FOk qq g1) (h2 : FOk q0u g2) (h : HgZ q3r j7 [(qh, g0), (qq, g1), (q0u, g2)] g) : FOk j7 g := zq (qfb g0 g1 g2) (.cons h0 (.cons h1 (.cons h2 .nil))) rfl rfl qdk (by decide) h
def q1c : Ct := ⟨102, [.val (.st 28)], [(.st 28, false)], [], none, []⟩
theorem qlb : EnZ q1c := fun _ _ => by kernel_rfl
def qse : Ann := ⟨[0, 1, 2, 5], []⟩
def q7j : Tree := (.br (.eq (.fld (.tok 0) 0) (.lit (.i 5))) (.leaf [(.set (.tok 0) 0 (.lit (.i 0)))]) (.leaf [(.tok 0)]))
theorem qq5 : CdZ [] qse q1c Try.f102 q7j := fun cd h => by injection h with h; subst h; kernel_rfl
theorem qsk {g : GfZ} (h : HgZ q7j q1c [] g) : FOk q1c g := zq (qq5) .nil rfl rfl qlb (by decide) h
def q13 : Ct := ⟨85, [.ref (.st 26) true, .val (.st 28), .val (.st 28)], [(.int .i64, false)], [], none, []⟩
theorem qli : EnZ q13 := fun _ _ => by kernel_rfl
def qrz : Ann := ⟨[0, 1, 2, 4, 5, 6, 7, 8, 37], []⟩
def q6z : Tree := (.need [(.ok 0 [(.tok 2)]), (.ok 0 [(.tok 2)]), (.le (.lit (.i 0)) (.add (.fld (.tok 1) 1) (.lit (.i 2)))), (.lt (.add (.fld (.tok 1) 1) (.lit (.i 2))) (.len (.fld (.tok 0) 0))), (.rng .i64 (.add (.fld (.tok 1) 1) (.lit (.i 2)))), (.le (.lit (.i 0)) (.add (.fld (.tok 1) 1) (.lit (.i 1)))), (.lt (.add (.fld (.tok 1) 1) (.lit (.i 1))) (.len (.fld (.tok 0) 0))), (.rng .i64 (.add (.fld (.tok 1) 1) (.lit (.i 1))))] (.need [(.ok 1 [(.tok 0), (.fld (.tok 1) 1), (.tok 2)])] (.br (.not (.eq (.call 1 0 [(.tok 0), (.fld (.tok 1) 1), (.tok 2)]) (.lit (.i 0)))) (.leaf [(.call 1 0 [(.tok 0), (.fld (.tok 1) 1), (.tok 2)]), (.call 1 1 [(.tok 0), (.fld (.tok 1) 1), (.tok 2)])]) (.need [(.le (.add (.len (.fld (.call 1 1 [(.tok 0), (.fld (.tok 1) 1), (.tok 2)]) 3)) (.lit (.i 1))) (.lit (.i 3518437208780)))] (.leaf [(.lit (.i 0)), (.set (.call 1 1 [(.tok 0), (.fld (.tok 1) 1), (.tok 2)]) 3 (.app (.fld (.call 1 1 [(.tok 0), (.fld (.tok 1) 1), (.tok 2)]) 3) (.row [(.mk [(.fld (.get (.fld (.tok 0) 0) (.add (.fld (.tok 1) 1) (.lit (.i 1)))) 1), (.get (.fld (.tok 0) 0) (.add (.fld (.tok 1) 1) (.lit (.i 2)))), (.call 0 0 [(.tok 2)])])])))])))))
theorem qqz (g0 g1 : GfZ) : CdZ [(q1c, g0), (y9, g1)] qrz q13 Try.f85 q6z := fun cd h => by injection h with h; subst h; kernel_rfl
theorem qss {g0 g1 g : GfZ} (h0 : FOk q1c g0) (h1 : FOk y9 g1) (h : HgZ q6z q13 [(q1c, g0), (y9, g1)] g) : FOk q13 g := zq (qqz g0 g1) (.cons h0 (.cons h1 .nil)) rfl rfl qli (by decide) h
def yp : Ct := ⟨103, [.val (.int .i64)], [(.bool, false)], [], none, []⟩
theorem qa7 : EnZ yp := fun _ _ => by kernel_rfl
def qcu : Ann := ⟨[0, 2], []⟩
def q2a : Tree := (.leaf [(.not (.eq (.tok 0) (.tok 0)))])
theorem qb6 : CdZ [] qcu yp Try.f103 q2a := fun cd h => by injection h with h; subst h; kernel_rfl
theorem qdj {g : GfZ} (h : HgZ q2a yp [] g) : FOk yp g := zq (qb6) .nil rfl rfl qa7 (by decide) h
def zr : Ct := ⟨88, [.val (.int .i64), .val (.int .i64)], [(.int .i64, false)], [], none, []⟩
theorem q8q : EnZ zr := fun _ _ => by kernel_rfl
def qa8 : Ann := ⟨[0, 1, 4, 5, 6, 11, 12, 13, 16, 19], []⟩
def q1u : Tree := (.need [(.ok 0 [(.tok 0)])] (.need [(.ok 0 [(.tok 1)])] (.br (.call 0 0 [(.tok 0)]) (.br (.call 0 0 [(.tok 1)]) (.leaf [(.lit (.i 0))]) (.leaf [(.lit (.i (-1)))])) (.br (.call 0 0 [(.tok 1)]) (.leaf [(.lit (.i 1))]) (.br (.lt (.tok 0) (.tok 1)) (.leaf [(.lit (.i (-1)))]) (.br (.lt (.tok 1) (.tok 0)) (.leaf [(.lit (.i 1))]) (.leaf [(.lit (.i 0))])))))))
theorem q9o (g0 : GfZ) : CdZ [(yp, g0)] qa8 zr Try.f88 q1u := fun cd h => by injection h with h; subst h; kernel_rfl
theorem qaj {g0 g : GfZ} (h0 : FOk yp g0) (h : HgZ q1u zr [(yp, g0)] g) : FOk zr g := zq (q9o g0) (.cons h0 .nil) rfl rfl q8q (by decide) h
def q0e : Ct := ⟨87, [.val (.row 3)], [(.int .i64, false)], [], none, []⟩
theorem qiv : EnZ q0e := fun _ _ => by kernel_rfl
def qr3 : Ann := ⟨[0, 2, 3, 5, 6, 7, 8, 9, 14], [(3, ⟨[(2, .int .i64, false), (8, .int .i64, false)], [], [9, 10, 11, 5, 12, 13, 14, 15, 16], []⟩)]⟩
def q67 : Tree := (.loop 3 1 [(.lit (.i 0)), (.lit (.i 0))] (.br (.lt (.tok 2) (.len (.tok 0))) (.need [(.le (.lit (.i 0)) (.tok 2)), (.lt (.tok 2) (.len (.tok 0)))] (.br (.not (.eq (.get (.tok 0) (.tok 2)) (.lit (.i 0)))) (.leaf [(.get (.tok 0) (.tok 2))]) (.need [(.rng .i64 (.add (.tok 2) (.lit (.i 1))))] (.back 3 [(.tok 1), (.add (.tok 2) (.lit (.i 1)))])))) (.leaf [(.lit (.i 0))])))
theorem qla : CdZ [] qr3 q0e Try.f87 q67 := fun cd h => by injection h with h; subst h; kernel_rfl
theorem qpz {g : GfZ} (h : HgZ q67 q0e [] g) : FOk q0e g := zq (qla) .nil rfl rfl qiv (by decide) h
def q10 : Ct := ⟨58, [.ref (.st 26) true, .val (.st 28), .val (.st 28)], [(.int .i64, false)], [], none, []⟩
theorem qmp : EnZ q10 := fun _ _ => by kernel_rfl
def qsz : Ann := ⟨[0, 1, 2, 4, 5, 6, 7, 8, 9, 11, 34, 40, 44, 53, 61, 107], []⟩
def q7b : Tree := (.need [(.ok 0 [(.tok 0), (.tok 1)]), (.ok 0 [(.tok 0), (.tok 1)])] (.need [(.imp (.not (.or (.not (.call 0 1 [(.tok 0), (.tok 1)])) (.not (.eq (.fld (.call 0 0 [(.tok 0), (.tok 1)]) 0) (.lit (.i 5)))))) (.ok 1 [(.tok 0), (.tok 2)]))] (.br (.or (.or (.not (.call 0 1 [(.tok 0), (.tok 1)])) (.not (.eq (.fld (.call 0 0 [(.tok 0), (.tok 1)]) 0) (.lit (.i 5))))) (.not (.call 1 0 [(.tok 0), (.tok 2)]))) (.leaf [(.lit (.i 1)), (.tok 0)]) (.need [(.ok 2 [(.tok 0), (.tok 2)]), (.ok 2 [(.tok 0), (.tok 2)])] (.br (.eq (.call 2 0 [(.tok 0), (.tok 2)]) (.call 0 0 [(.tok 0), (.tok 1)])) (.leaf [(.lit (.i 0)), (.tok 0)]) (.br (.eq (.fld (.call 2 0 [(.tok 0), (.tok 2)]) 0) (.lit (.i 0))) (.need [(.ok 3 [(.tok 0), (.fld (.call 2 0 [(.tok 0), (.tok 2)]) 1), (.call 0 0 [(.tok 0), (.tok 1)])])] (.leaf [(.call 3 0 [(.tok 0), (.fld (.call 2 0 [(.tok 0), (.tok 2)]) 1), (.call 0 0 [(.tok 0), (.tok 1)])]), (.call 3 1 [(.tok 0), (.fld (.call 2 0 [(.tok 0), (.tok 2)]) 1), (.call 0 0 [(.tok 0), (.tok 1)])])])) (.br (.not (.eq (.fld (.call 2 0 [(.tok 0), (.tok 2)]) 0) (.lit (.i 5)))) (.need [(.ok 4 [(.tok 0), (.call 0 0 [(.tok 0), (.tok 1)]), (.call 2 0 [(.tok 0), (.tok 2)])])] (.leaf [(.call 4 0 [(.tok 0), (.call 0 0 [(.tok 0), (.tok 1)]), (.call 2 0 [(.tok 0), (.tok 2)])]), (.call 4 1 [(.tok 0), (.call 0 0 [(.tok 0), (.tok 1)]), (.call 2 0 [(.tok 0), (.tok 2)])])])) (.need [(.imp (.not (.not (.call 5 0 [(.tok 0), (.fld (.call 2 0 [(.tok 0), (.tok 2)]) 1)]))) (.ok 5 [(.tok 0), (.add (.fld (.call 2 0 [(.tok 0), (.tok 2)]) 1) (.lit (.i 2)))])), (.imp (.not (.not (.call 5 0 [(.tok 0), (.fld (.call 2 0 [(.tok 0), (.tok 2)]) 1)]))) (.rng .i64 (.add (.fld (.call 2 0 [(.tok 0), (.tok 2)]) 1) (.lit (.i 2))))), (.imp (.not (.not (.call 5 0 [(.tok 0), (.fld (.call 2 0 [(.tok 0), (.tok 2)]) 1)]))) (.rng .i64 (.add (.fld (.call 2 0 [(.tok 0), (.tok 2)]) 1) (.lit (.i 2))))), (.ok 5 [(.tok 0), (.fld (.call 2 0 [(.tok 0), (.tok 2)]) 1)])] (.br (.or (.not (.call 5 0 [(.tok 0), (.fld (.call 2 0 [(.tok 0), (.tok 2)]) 1)])) (.not (.call 5 0 [(.tok 0), (.add (.fld (.call 2 0 [(.tok 0), (.tok 2)]) 1) (.lit (.i 2)))]))) (.leaf [(.lit (.i 1)), (.tok 0)]) (.need [(.ok 7 [(.row [(.call 6 0 [(.fld (.get (.fld (.tok 0) 0) (.add (.fld (.call 0 0 [(.tok 0), (.tok 1)]) 1) (.lit (.i 1)))) 1), (.fld (.get (.fld (.tok 0) 0) (.add (.fld (.call 2 0 [(.tok 0), (.tok 2)]) 1) (.lit (.i 1)))) 1)]), (.call 6 0 [(.fld (.call 0 0 [(.tok 0), (.tok 1)]) 1), (.fld (.call 2 0 [(.tok 0), (.tok 2)]) 1)])])]), (.ok 6 [(.fld (.call 0 0 [(.tok 0), (.tok 1)]) 1), (.fld (.call 2 0 [(.tok 0), (.tok 2)]) 1)]), (.ok 6 [(.fld (.get (.fld (.tok 0) 0) (.add (.fld (.call 0 0 [(.tok 0), (.tok 1)]) 1) (.lit (.i 1)))) 1), (.fld (.get (.fld (.tok 0) 0) (.add (.fld (.call 2 0 [(.tok 0), (.tok 2)]) 1) (.lit (.i 1)))) 1)]), (.le (.lit (.i 0)) (.add (.fld (.call 2 0 [(.tok 0), (.tok 2)]) 1) (.lit (.i 1)))), (.lt (.add (.fld (.call 2 0 [(.tok 0), (.tok 2)]) 1) (.lit (.i 1))) (.len (.fld (.tok 0) 0))), (.rng .i64 (.add (.fld (.call 2 0 [(.tok 0), (.tok 2)]) 1) (.lit (.i 1)))), (.le (.lit (.i 0)) (.add (.fld (.call 0 0 [(.tok 0), (.tok 1)]) 1) (.lit (.i 1)))), (.lt (.add (.fld (.call 0 0 [(.tok 0), (.tok 1)]) 1) (.lit (.i 1))) (.len (.fld (.tok 0) 0))), (.rng .i64 (.add (.fld (.call 0 0 [(.tok 0), (.tok 1)]) 1) (.lit (.i 1))))] (.br (.lt (.lit (.i 0)) (.call 7 0 [(.row [(.call 6 0 [(.fld (.get (.fld (.tok 0) 0) (.add (.fld (.call 0 0 [(.tok 0), (.tok 1)]) 1) (.lit (.i 1)))) 1), (.fld (.get (.fld (.tok 0) 0) (.add (.fld (.call 2 0 [(.tok 0), (.tok 2)]) 1) (.lit (.i 1)))) 1)]), (.call 6 0 [(.fld (.call 0 0 [(.tok 0), (.tok 1)]) 1), (.fld (.call 2 0 [(.tok 0), (.tok 2)]) 1)])])])) (.need [(.ok 4 [(.tok 0), (.call 0 0 [(.tok 0), (.tok 1)]), (.call 2 0 [(.tok 0), (.tok 2)])])] (.leaf [(.call 4 0 [(.tok 0), (.call 0 0 [(.tok 0), (.tok 1)]), (.call 2 0 [(.tok 0), (.tok 2)])]), (.call 4 1 [(.tok 0), (.call 0 0 [(.tok 0), (.tok 1)]), (.call 2 0 [(.tok 0), (.tok 2)])])])) (.need [(.ok 4 [(.tok 0), (.call 2 0 [(.tok 0), (.tok 2)]), (.call 0 0 [(.tok 0), (.tok 1)])])] (.leaf [(.call 4 0 [(.tok 0), (.call 2 0 [(.tok 0), (.tok 2)]), (.call 0 0 [(.tok 0), (.tok 1)])]), (.call 4 1 [(.tok 0), (.call 2 0 [(.tok 0), (.tok 2)]), (.call 0 0 [(.tok 0), (.tok 1)])])])))))))))))))
theorem qoa (g0 g1 g2 g3 g4 g5 g6 g7 : GfZ) : CdZ [(j7, g0), (qh, g1), (qq, g2), (y9, g3), (q13, g4), (q0u, g5), (zr, g6), (q0e, g7)] qsz q10 Try.f58 q7b := fun cd h => by injection h with h; subst h; kernel_rfl
theorem qs4 {g0 g1 g2 g3 g4 g5 g6 g7 g : GfZ} (h0 : FOk j7 g0) (h1 : FOk qh g1) (h2 : FOk qq g2) (h3 : FOk y9 g3) (h4 : FOk q13 g4) (h5 : FOk q0u g5) (h6 : FOk zr g6) (h7 : FOk q0e g7) (h : HgZ q7b q10 [(j7, g0), (qh, g1), (qq, g2), (y9, g3), (q13, g4), (q0u, g5), (zr, g6), (q0e, g7)] g) : FOk q10 g := zq (qoa g0 g1 g2 g3 g4 g5 g6 g7) (.cons h0 (.cons h1 (.cons h2 (.cons h3 (.cons h4 (.cons h5 (.cons h6 (.cons h7 .nil)))))))) rfl rfl qmp (by decide) h
def q0n : Ct := ⟨28, [.ref (.st 26) true, .val (.st 28), .val (.st 28)], [(.bool, false)], [], none, []⟩
theorem qhw : EnZ q0n := fun _ _ => by kernel_rfl
def qpi : Ann := ⟨[0, 1, 2, 4, 5, 6, 7, 29, 39, 48], []⟩
def q5x : Tree := (.br (.and (.eq (.fld (.tok 2) 0) (.lit (.i 0))) (.or (.not (.eq (.fld (.tok 1) 0) (.lit (.i 0)))) (.lt (.fld (.tok 1) 1) (.fld (.tok 2) 1)))) (.need [(.ok 0 [(.tok 0), (.fld (.tok 2) 1), (.tok 1)])] (.leaf [(.eq (.call 0 0 [(.tok 0), (.fld (.tok 2) 1), (.tok 1)]) (.lit (.i 0))), (.call 0 1 [(.tok 0), (.fld (.tok 2) 1), (.tok 1)])])) (.br (.eq (.fld (.tok 1) 0) (.lit (.i 0))) (.need [(.ok 0 [(.tok 0), (.fld (.tok 1) 1), (.tok 2)])] (.leaf [(.eq (.call 0 0 [(.tok 0), (.fld (.tok 1) 1), (.tok 2)]) (.lit (.i 0))), (.call 0 1 [(.tok 0), (.fld (.tok 1) 1), (.tok 2)])])) (.br (.eq (.fld (.tok 1) 0) (.lit (.i 5))) (.need [(.ok 1 [(.tok 0), (.tok 1), (.tok 2)])] (.leaf [(.eq (.call 1 0 [(.tok 0), (.tok 1), (.tok 2)]) (.lit (.i 0))), (.call 1 1 [(.tok 0), (.tok 1), (.tok 2)])])) (.br (.eq (.fld (.tok 2) 0) (.lit (.i 5))) (.need [(.ok 1 [(.tok 0), (.tok 2), (.tok 1)])] (.leaf [(.eq (.call 1 0 [(.tok 0), (.tok 2), (.tok 1)]) (.lit (.i 0))), (.call 1 1 [(.tok 0), (.tok 2), (.tok 1)])])) (.leaf [(.lit (.b .false)), (.tok 0)])))))
theorem qm3 (g0 g1 : GfZ) : CdZ [(y9, g0), (q10, g1)] qpi q0n Try.f28 q5x := fun cd h => by injection h with h; subst h; kernel_rfl
theorem qra {g0 g1 g : GfZ} (h0 : FOk y9 g0) (h1 : FOk q10 g1) (h : HgZ q5x q0n [(y9, g0), (q10, g1)] g) : FOk q0n g := zq (qm3 g0 g1) (.cons h0 (.cons h1 .nil)) rfl rfl qhw (by decide) h
def z6 : Ct := ⟨27, [.val (.st 28), .val (.st 28), .cell 33 3], [(.bool, false)], [(.cell 2, .ref (.st 26) true)], none, []⟩
theorem qcz : EnZ z6 := fun _ _ => by kernel_rfl
def qh3 : Ann := ⟨[0, 1, 2, 3, 4, 5], []⟩
def q3n : Tree := (.need [(.ok 0 [(.tok 2), (.tok 0), (.tok 1)])] (.leaf [(.call 0 0 [(.tok 2), (.tok 0), (.tok 1)]), (.call 0 1 [(.tok 2), (.tok 0), (.tok 1)])]))
theorem qe0 (g0 : GfZ) : CdZ [(q0n, g0)] qh3 z6 Try.f27 q3n := fun cd h => by injection h with h; subst h; kernel_rfl
theorem qgk {g0 g : GfZ} (h0 : FOk q0n g0) (h : HgZ q3n z6 [(q0n, g0)] g) : FOk z6 g := zq (qe0 g0) (.cons h0 .nil) rfl rfl qcz (by decide) h
def z7 : Ct := ⟨55, [.rref (.st 26), .val (.st 28)], [(.int .i64, false)], [], none, []⟩
theorem qeh : EnZ z7 := fun _ _ => by kernel_rfl
def qhj : Ann := ⟨[0, 1, 3, 4, 34], []⟩
def q46 : Tree := (.need [(.imp (.not (.or (.or (.not (.eq (.fld (.tok 1) 0) (.lit (.i 3)))) (.lt (.fld (.tok 1) 1) (.lit (.i 0)))) (.le (.len (.fld (.tok 0) 0)) (.fld (.tok 1) 1)))) (.le (.lit (.i 0)) (.fld (.tok 1) 1))), (.imp (.not (.or (.or (.not (.eq (.fld (.tok 1) 0) (.lit (.i 3)))) (.lt (.fld (.tok 1) 1) (.lit (.i 0)))) (.le (.len (.fld (.tok 0) 0)) (.fld (.tok 1) 1)))) (.lt (.fld (.tok 1) 1) (.len (.fld (.tok 0) 0))))] (.br (.or (.or (.or (.not (.eq (.fld (.tok 1) 0) (.lit (.i 3)))) (.lt (.fld (.tok 1) 1) (.lit (.i 0)))) (.le (.len (.fld (.tok 0) 0)) (.fld (.tok 1) 1))) (.not (.eq (.fld (.get (.fld (.tok 0) 0) (.fld (.tok 1) 1)) 0) (.lit (.i 4))))) (.leaf [(.lit (.i (-1)))]) (.need [(.le (.lit (.i 0)) (.fld (.tok 1) 1)), (.lt (.fld (.tok 1) 1) (.len (.fld (.tok 0) 0)))] (.leaf [(.fld (.get (.fld (.tok 0) 0) (.fld (.tok 1) 1)) 1)]))))
theorem qgs : CdZ [] qhj z7 Try.f55 q46 := fun cd h => by injection h with h; subst h; kernel_rfl
theorem qka {g : GfZ} (h : HgZ q46 z7 [] g) : FOk z7 g := zq (qgs) .nil rfl rfl qeh (by decide) h
def z8 : Ct := ⟨56, [.rref (.st 26), .val (.st 28)], [(.row 29, false)], [], none, []⟩
theorem qah : EnZ z8 := fun _ _ => by kernel_rfl
def qdl : Ann := ⟨[0, 1, 3, 4, 5, 6, 7, 21, 43], []⟩
def q2k : Tree := (.need [(.ok 0 [(.tok 0), (.tok 1)])] (.br (.or (.lt (.call 0 0 [(.tok 0), (.tok 1)]) (.lit (.i 0))) (.le (.len (.fld (.tok 0) 1)) (.call 0 0 [(.tok 0), (.tok 1)]))) (.leaf [(.lit (.r []))]) (.need [(.rng .i64 (.add (.fld (.tok 1) 1) (.lit (.i 1))))] (.need [(.le (.lit (.i 0)) (.call 0 0 [(.tok 0), (.tok 1)])), (.lt (.call 0 0 [(.tok 0), (.tok 1)]) (.len (.fld (.tok 0) 1)))] (.br (.lt (.ite (.lt (.len (.fld (.tok 0) 0)) (.fn 9 [(.add (.fld (.tok 1) 1) (.lit (.i 1))), (.fld (.get (.fld (.tok 0) 1) (.call 0 0 [(.tok 0), (.tok 1)])) 1)])) (.len (.fld (.tok 0) 0)) (.fn 9 [(.add (.fld (.tok 1) 1) (.lit (.i 1))), (.fld (.get (.fld (.tok 0) 1) (.call 0 0 [(.tok 0), (.tok 1)])) 1)])) (.add (.fld (.tok 1) 1) (.lit (.i 1)))) (.leaf [(.lit (.r []))]) (.need [(.le (.lit (.i 0)) (.add (.fld (.tok 1) 1) (.lit (.i 1)))), (.le (.add (.fld (.tok 1) 1) (.lit (.i 1))) (.ite (.lt (.len (.fld (.tok 0) 0)) (.fn 9 [(.add (.fld (.tok 1) 1) (.lit (.i 1))), (.fld (.get (.fld (.tok 0) 1) (.call 0 0 [(.tok 0), (.tok 1)])) 1)])) (.len (.fld (.tok 0) 0)) (.fn 9 [(.add (.fld (.tok 1) 1) (.lit (.i 1))), (.fld (.get (.fld (.tok 0) 1) (.call 0 0 [(.tok 0), (.tok 1)])) 1)]))), (.le (.ite (.lt (.len (.fld (.tok 0) 0)) (.fn 9 [(.add (.fld (.tok 1) 1) (.lit (.i 1))), (.fld (.get (.fld (.tok 0) 1) (.call 0 0 [(.tok 0), (.tok 1)])) 1)])) (.len (.fld (.tok 0) 0)) (.fn 9 [(.add (.fld (.tok 1) 1) (.lit (.i 1))), (.fld (.get (.fld (.tok 0) 1) (.call 0 0 [(.tok 0), (.tok 1)])) 1)])) (.len (.fld (.tok 0) 0)))] (.leaf [(.cut (.fld (.tok 0) 0) (.add (.fld (.tok 1) 1) (.lit (.i 1))) (.ite (.lt (.len (.fld (.tok 0) 0)) (.fn 9 [(.add (.fld (.tok 1) 1) (.lit (.i 1))), (.fld (.get (.fld (.tok 0) 1) (.call 0 0 [(.tok 0), (.tok 1)])) 1)])) (.len (.fld (.tok 0) 0)) (.fn 9 [(.add (.fld (.tok 1) 1) (.lit (.i 1))), (.fld (.get (.fld (.tok 0) 1) (.call 0 0 [(.tok 0), (.tok 1)])) 1)])))])))))))
theorem qc1 (g0 : GfZ) : CdZ [(z7, g0)] qdl z8 Try.f56 q2k := fun cd h => by injection h with h; subst h; kernel_rfl
theorem qd0 {g0 g : GfZ} (h0 : FOk z7 g0) (h : HgZ q2k z8 [(z7, g0)] g) : FOk z8 g := zq (qc1 g0) (.cons h0 .nil) rfl rfl qah (by decide) h
def zh : Ct := ⟨26, [.ref (.st 26) true, .val (.st 28), .val (.st 28), .fn 27 [4]], [(.int .i64, false)], [(.cap 3 0, .cell 33 0)], none, []⟩
theorem qaa : EnZ zh := fun _ _ => by kernel_rfl
def qdm : Ann := ⟨[0, 1, 2, 3, 5, 6, 8, 9, 10, 11, 12, 13, 14, 15, 16, 23, 27, 59, 72, 86], [(3, ⟨[(8, .int .i64, false), (9, .row 93, false), (10, .int .i64, false)], [0], [21, 22, 23, 26, 27, 28, 29, 30, 31, 32, 33, 11, 34, 35, 36, 37, 38, 39, 40, 41, 42, 43, 44, 45, 46, 47, 48, 49, 50, 12, 13, 51, 52, 53, 54, 55, 56, 57, 58, 59, 60, 61, 62, 63, 64, 65, 66, 67, 68, 69, 70, 71, 72, 73, 74, 75, 76, 77, 78, 14, 15, 79, 80, 81, 82, 83, 84, 16, 85, 86, 89, 90, 91, 92, 93, 94, 95, 96, 97, 98, 99, 100, 87, 88, 24, 25], []⟩),
 (15, ⟨[(9, .row 93, false), (16, .int .i64, false)], [], [85, 86, 89, 90, 91, 92, 93, 94, 95, 96, 97, 98, 99, 100, 87, 88], []⟩)]⟩
def q2d : Tree := (.loop 3 3 [(.lit (.i 0)), (.row [(.mk [(.tok 1), (.tok 2)])]), (.lit (.i 0)), (.tok 0)] (.br (.lt (.lit (.i 0)) (.len (.tok 4))) (.br (.eq (.tok 5) (.lit (.i 1048576))) (.leaf [(.lit (.i 2)), (.tok 6)]) (.need [(.rng .i64 (.sub (.len (.tok 4)) (.lit (.i 1)))), (.le (.lit (.i 0)) (.sub (.len (.tok 4)) (.lit (.i 1)))), (.lt (.sub (.len (.tok 4)) (.lit (.i 1))) (.len (.tok 4)))] (.need [(.rng .i64 (.sub (.len (.tok 4)) (.lit (.i 1)))), (.le (.lit (.i 0)) (.sub (.len (.tok 4)) (.lit (.i 1)))), (.le (.sub (.len (.tok 4)) (.lit (.i 1))) (.len (.tok 4)))] (.need [(.ok 1 [(.tok 6), (.fld (.get (.tok 4) (.sub (.len (.tok 4)) (.lit (.i 1)))) 1)]), (.ok 1 [(.tok 6), (.fld (.get (.tok 4) (.sub (.len (.tok 4)) (.lit (.i 1)))) 1)]), (.ok 1 [(.tok 6), (.fld (.get (.tok 4) (.sub (.len (.tok 4)) (.lit (.i 1)))) 0)]), (.ok 1 [(.tok 6), (.fld (.get (.tok 4) (.sub (.len (.tok 4)) (.lit (.i 1)))) 0)]), (.ok 1 [(.tok 6), (.fld (.get (.tok 4) (.sub (.len (.tok 4)) (.lit (.i 1)))) 0)])] (.need [(.imp (.not (.eq (.call 1 0 [(.tok 6), (.fld (.get (.tok 4) (.sub (.len (.tok 4)) (.lit (.i 1)))) 0)]) (.call 1 0 [(.tok 6), (.fld (.get (.tok 4) (.sub (.len (.tok 4)) (.lit (.i 1)))) 1)]))) (.ok 0 [(.call 1 0 [(.tok 6), (.fld (.get (.tok 4) (.sub (.len (.tok 4)) (.lit (.i 1)))) 0)]), (.call 1 0 [(.tok 6), (.fld (.get (.tok 4) (.sub (.len (.tok 4)) (.lit (.i 1)))) 1)]), (.tok 6)]))] (.br (.or (.eq (.call 1 0 [(.tok 6), (.fld (.get (.tok 4) (.sub (.len (.tok 4)) (.lit (.i 1)))) 0)]) (.call 1 0 [(.tok 6), (.fld (.get (.tok 4) (.sub (.len (.tok 4)) (.lit (.i 1)))) 1)])) (.call 0 0 [(.call 1 0 [(.tok 6), (.fld (.get (.tok 4) (.sub (.len (.tok 4)) (.lit (.i 1)))) 0)]), (.call 1 0 [(.tok 6), (.fld (.get (.tok 4) (.sub (.len (.tok 4)) (.lit (.i 1)))) 1)]), (.tok 6)])) (.need [(.rng .i64 (.add (.tok 5) (.lit (.i 1))))] (.back 3 [(.tok 3), (.cut (.tok 4) (.lit (.i 0)) (.sub (.len (.tok 4)) (.lit (.i 1)))), (.add (.tok 5) (.lit (.i 1))), (.ite (.not (.eq (.call 1 0 [(.tok 6), (.fld (.get (.tok 4) (.sub (.len (.tok 4)) (.lit (.i 1)))) 0)]) (.call 1 0 [(.tok 6), (.fld (.get (.tok 4) (.sub (.len (.tok 4)) (.lit (.i 1)))) 1)]))) (.call 0 1 [(.call 1 0 [(.tok 6), (.fld (.get (.tok 4) (.sub (.len (.tok 4)) (.lit (.i 1)))) 0)]), (.call 1 0 [(.tok 6), (.fld (.get (.tok 4) (.sub (.len (.tok 4)) (.lit (.i 1)))) 1)]), (.tok 6)]) (.tok 6))])) (.need [(.imp (.not (.lt (.call 2 0 [(.ite (.not (.eq (.call 1 0 [(.tok 6), (.fld (.get (.tok 4) (.sub (.len (.tok 4)) (.lit (.i 1)))) 0)]) (.call 1 0 [(.tok 6), (.fld (.get (.tok 4) (.sub (.len (.tok 4)) (.lit (.i 1)))) 1)]))) (.call 0 1 [(.call 1 0 [(.tok 6), (.fld (.get (.tok 4) (.sub (.len (.tok 4)) (.lit (.i 1)))) 0)]), (.call 1 0 [(.tok 6), (.fld (.get (.tok 4) (.sub (.len (.tok 4)) (.lit (.i 1)))) 1)]), (.tok 6)]) (.tok 6)), (.call 1 0 [(.tok 6), (.fld (.get (.tok 4) (.sub (.len (.tok 4)) (.lit (.i 1)))) 0)])]) (.lit (.i 0)))) (.ok 2 [(.ite (.not (.eq (.call 1 0 [(.tok 6), (.fld (.get (.tok 4) (.sub (.len (.tok 4)) (.lit (.i 1)))) 0)]) (.call 1 0 [(.tok 6), (.fld (.get (.tok 4) (.sub (.len (.tok 4)) (.lit (.i 1)))) 1)]))) (.call 0 1 [(.call 1 0 [(.tok 6), (.fld (.get (.tok 4) (.sub (.len (.tok 4)) (.lit (.i 1)))) 0)]), (.call 1 0 [(.tok 6), (.fld (.get (.tok 4) (.sub (.len (.tok 4)) (.lit (.i 1)))) 1)]), (.tok 6)]) (.tok 6)), (.call 1 0 [(.tok 6), (.fld (.get (.tok 4) (.sub (.len (.tok 4)) (.lit (.i 1)))) 1)])])), (.imp (.not (.lt (.call 2 0 [(.ite (.not (.eq (.call 1 0 [(.tok 6), (.fld (.get (.tok 4) (.sub (.len (.tok 4)) (.lit (.i 1)))) 0)]) (.call 1 0 [(.tok 6), (.fld (.get (.tok 4) (.sub (.len (.tok 4)) (.lit (.i 1)))) 1)]))) (.call 0 1 [(.call 1 0 [(.tok 6), (.fld (.get (.tok 4) (.sub (.len (.tok 4)) (.lit (.i 1)))) 0)]), (.call 1 0 [(.tok 6), (.fld (.get (.tok 4) (.sub (.len (.tok 4)) (.lit (.i 1)))) 1)]), (.tok 6)]) (.tok 6)), (.call 1 0 [(.tok 6), (.fld (.get (.tok 4) (.sub (.len (.tok 4)) (.lit (.i 1)))) 0)])]) (.lit (.i 0)))) (.ok 2 [(.ite (.not (.eq (.call 1 0 [(.tok 6), (.fld (.get (.tok 4) (.sub (.len (.tok 4)) (.lit (.i 1)))) 0)]) (.call 1 0 [(.tok 6), (.fld (.get (.tok 4) (.sub (.len (.tok 4)) (.lit (.i 1)))) 1)]))) (.call 0 1 [(.call 1 0 [(.tok 6), (.fld (.get (.tok 4) (.sub (.len (.tok 4)) (.lit (.i 1)))) 0)]), (.call 1 0 [(.tok 6), (.fld (.get (.tok 4) (.sub (.len (.tok 4)) (.lit (.i 1)))) 1)]), (.tok 6)]) (.tok 6)), (.call 1 0 [(.tok 6), (.fld (.get (.tok 4) (.sub (.len (.tok 4)) (.lit (.i 1)))) 0)])])), (.imp (.not (.lt (.call 2 0 [(.ite (.not (.eq (.call 1 0 [(.tok 6), (.fld (.get (.tok 4) (.sub (.len (.tok 4)) (.lit (.i 1)))) 0)]) (.call 1 0 [(.tok 6), (.fld (.get (.tok 4) (.sub (.len (.tok 4)) (.lit (.i 1)))) 1)]))) (.call 0 1 [(.call 1 0 [(.tok 6), (.fld (.get (.tok 4) (.sub (.len (.tok 4)) (.lit (.i 1)))) 0)]), (.call 1 0 [(.tok 6), (.fld (.get (.tok 4) (.sub (.len (.tok 4)) (.lit (.i 1)))) 1)]), (.tok 6)]) (.tok 6)), (.call 1 0 [(.tok 6), (.fld (.get (.tok 4) (.sub (.len (.tok 4)) (.lit (.i 1)))) 0)])]) (.lit (.i 0)))) (.ok 2 [(.ite (.not (.eq (.call 1 0 [(.tok 6), (.fld (.get (.tok 4) (.sub (.len (.tok 4)) (.lit (.i 1)))) 0)]) (.call 1 0 [(.tok 6), (.fld (.get (.tok 4) (.sub (.len (.tok 4)) (.lit (.i 1)))) 1)]))) (.call 0 1 [(.call 1 0 [(.tok 6), (.fld (.get (.tok 4) (.sub (.len (.tok 4)) (.lit (.i 1)))) 0)]), (.call 1 0 [(.tok 6), (.fld (.get (.tok 4) (.sub (.len (.tok 4)) (.lit (.i 1)))) 1)]), (.tok 6)]) (.tok 6)), (.call 1 0 [(.tok 6), (.fld (.get (.tok 4) (.sub (.len (.tok 4)) (.lit (.i 1)))) 0)])])), (.imp (.not (.lt (.call 2 0 [(.ite (.not (.eq (.call 1 0 [(.tok 6), (.fld (.get (.tok 4) (.sub (.len (.tok 4)) (.lit (.i 1)))) 0)]) (.call 1 0 [(.tok 6), (.fld (.get (.tok 4) (.sub (.len (.tok 4)) (.lit (.i 1)))) 1)]))) (.call 0 1 [(.call 1 0 [(.tok 6), (.fld (.get (.tok 4) (.sub (.len (.tok 4)) (.lit (.i 1)))) 0)]), (.call 1 0 [(.tok 6), (.fld (.get (.tok 4) (.sub (.len (.tok 4)) (.lit (.i 1)))) 1)]), (.tok 6)]) (.tok 6)), (.call 1 0 [(.tok 6), (.fld (.get (.tok 4) (.sub (.len (.tok 4)) (.lit (.i 1)))) 0)])]) (.lit (.i 0)))) (.ok 2 [(.ite (.not (.eq (.call 1 0 [(.tok 6), (.fld (.get (.tok 4) (.sub (.len (.tok 4)) (.lit (.i 1)))) 0)]) (.call 1 0 [(.tok 6), (.fld (.get (.tok 4) (.sub (.len (.tok 4)) (.lit (.i 1)))) 1)]))) (.call 0 1 [(.call 1 0 [(.tok 6), (.fld (.get (.tok 4) (.sub (.len (.tok 4)) (.lit (.i 1)))) 0)]), (.call 1 0 [(.tok 6), (.fld (.get (.tok 4) (.sub (.len (.tok 4)) (.lit (.i 1)))) 1)]), (.tok 6)]) (.tok 6)), (.call 1 0 [(.tok 6), (.fld (.get (.tok 4) (.sub (.len (.tok 4)) (.lit (.i 1)))) 0)])])), (.ok 2 [(.ite (.not (.eq (.call 1 0 [(.tok 6), (.fld (.get (.tok 4) (.sub (.len (.tok 4)) (.lit (.i 1)))) 0)]) (.call 1 0 [(.tok 6), (.fld (.get (.tok 4) (.sub (.len (.tok 4)) (.lit (.i 1)))) 1)]))) (.call 0 1 [(.call 1 0 [(.tok 6), (.fld (.get (.tok 4) (.sub (.len (.tok 4)) (.lit (.i 1)))) 0)]), (.call 1 0 [(.tok 6), (.fld (.get (.tok 4) (.sub (.len (.tok 4)) (.lit (.i 1)))) 1)]), (.tok 6)]) (.tok 6)), (.call 1 0 [(.tok 6), (.fld (.get (.tok 4) (.sub (.len (.tok 4)) (.lit (.i 1)))) 0)])])] (.br (.or (.lt (.call 2 0 [(.ite (.not (.eq (.call 1 0 [(.tok 6), (.fld (.get (.tok 4) (.sub (.len (.tok 4)) (.lit (.i 1)))) 0)]) (.call 1 0 [(.tok 6), (.fld (.get (.tok 4) (.sub (.len (.tok 4)) (.lit (.i 1)))) 1)]))) (.call 0 1 [(.call 1 0 [(.tok 6), (.fld (.get (.tok 4) (.sub (.len (.tok 4)) (.lit (.i 1)))) 0)]), (.call 1 0 [(.tok 6), (.fld (.get (.tok 4) (.sub (.len (.tok 4)) (.lit (.i 1)))) 1)]), (.tok 6)]) (.tok 6)), (.call 1 0 [(.tok 6), (.fld (.get (.tok 4) (.sub (.len (.tok 4)) (.lit (.i 1)))) 0)])]) (.lit (.i 0))) (.not (.eq (.call 2 0 [(.ite (.not (.eq (.call 1 0 [(.tok 6), (.fld (.get (.tok 4) (.sub (.len (.tok 4)) (.lit (.i 1)))) 0)]) (.call 1 0 [(.tok 6), (.fld (.get (.tok 4) (.sub (.len (.tok 4)) (.lit (.i 1)))) 1)]))) (.call 0 1 [(.call 1 0 [(.tok 6), (.fld (.get (.tok 4) (.sub (.len (.tok 4)) (.lit (.i 1)))) 0)]), (.call 1 0 [(.tok 6), (.fld (.get (.tok 4) (.sub (.len (.tok 4)) (.lit (.i 1)))) 1)]), (.tok 6)]) (.tok 6)), (.call 1 0 [(.tok 6), (.fld (.get (.tok 4) (.sub (.len (.tok 4)) (.lit (.i 1)))) 0)])]) (.call 2 0 [(.ite (.not (.eq (.call 1 0 [(.tok 6), (.fld (.get (.tok 4) (.sub (.len (.tok 4)) (.lit (.i 1)))) 0)]) (.call 1 0 [(.tok 6), (.fld (.get (.tok 4) (.sub (.len (.tok 4)) (.lit (.i 1)))) 1)]))) (.call 0 1 [(.call 1 0 [(.tok 6), (.fld (.get (.tok 4) (.sub (.len (.tok 4)) (.lit (.i 1)))) 0)]), (.call 1 0 [(.tok 6), (.fld (.get (.tok 4) (.sub (.len (.tok 4)) (.lit (.i 1)))) 1)]), (.tok 6)]) (.tok 6)), (.call 1 0 [(.tok 6), (.fld (.get (.tok 4) (.sub (.len (.tok 4)) (.lit (.i 1)))) 1)])])))) (.leaf [(.lit (.i 4)), (.ite (.not (.eq (.call 1 0 [(.tok 6), (.fld (.get (.tok 4) (.sub (.len (.tok 4)) (.lit (.i 1)))) 0)]) (.call 1 0 [(.tok 6), (.fld (.get (.tok 4) (.sub (.len (.tok 4)) (.lit (.i 1)))) 1)]))) (.call 0 1 [(.call 1 0 [(.tok 6), (.fld (.get (.tok 4) (.sub (.len (.tok 4)) (.lit (.i 1)))) 0)]), (.call 1 0 [(.tok 6), (.fld (.get (.tok 4) (.sub (.len (.tok 4)) (.lit (.i 1)))) 1)]), (.tok 6)]) (.tok 6))]) (.need [(.ok 3 [(.ite (.not (.eq (.call 1 0 [(.tok 6), (.fld (.get (.tok 4) (.sub (.len (.tok 4)) (.lit (.i 1)))) 0)]) (.call 1 0 [(.tok 6), (.fld (.get (.tok 4) (.sub (.len (.tok 4)) (.lit (.i 1)))) 1)]))) (.call 0 1 [(.call 1 0 [(.tok 6), (.fld (.get (.tok 4) (.sub (.len (.tok 4)) (.lit (.i 1)))) 0)]), (.call 1 0 [(.tok 6), (.fld (.get (.tok 4) (.sub (.len (.tok 4)) (.lit (.i 1)))) 1)]), (.tok 6)]) (.tok 6)), (.call 1 0 [(.tok 6), (.fld (.get (.tok 4) (.sub (.len (.tok 4)) (.lit (.i 1)))) 1)])]), (.ok 3 [(.ite (.not (.eq (.call 1 0 [(.tok 6), (.fld (.get (.tok 4) (.sub (.len (.tok 4)) (.lit (.i 1)))) 0)]) (.call 1 0 [(.tok 6), (.fld (.get (.tok 4) (.sub (.len (.tok 4)) (.lit (.i 1)))) 1)]))) (.call 0 1 [(.call 1 0 [(.tok 6), (.fld (.get (.tok 4) (.sub (.len (.tok 4)) (.lit (.i 1)))) 0)]), (.call 1 0 [(.tok 6), (.fld (.get (.tok 4) (.sub (.len (.tok 4)) (.lit (.i 1)))) 1)]), (.tok 6)]) (.tok 6)), (.call 1 0 [(.tok 6), (.fld (.get (.tok 4) (.sub (.len (.tok 4)) (.lit (.i 1)))) 0)])])] (.need [(.rng .i64 (.sub (.ite (.lt (.len (.call 3 0 [(.ite (.not (.eq (.call 1 0 [(.tok 6), (.fld (.get (.tok 4) (.sub (.len (.tok 4)) (.lit (.i 1)))) 0)]) (.call 1 0 [(.tok 6), (.fld (.get (.tok 4) (.sub (.len (.tok 4)) (.lit (.i 1)))) 1)]))) (.call 0 1 [(.call 1 0 [(.tok 6), (.fld (.get (.tok 4) (.sub (.len (.tok 4)) (.lit (.i 1)))) 0)]), (.call 1 0 [(.tok 6), (.fld (.get (.tok 4) (.sub (.len (.tok 4)) (.lit (.i 1)))) 1)]), (.tok 6)]) (.tok 6)), (.call 1 0 [(.tok 6), (.fld (.get (.tok 4) (.sub (.len (.tok 4)) (.lit (.i 1)))) 1)])])) (.len (.call 3 0 [(.ite (.not (.eq (.call 1 0 [(.tok 6), (.fld (.get (.tok 4) (.sub (.len (.tok 4)) (.lit (.i 1)))) 0)]) (.call 1 0 [(.tok 6), (.fld (.get (.tok 4) (.sub (.len (.tok 4)) (.lit (.i 1)))) 1)]))) (.call 0 1 [(.call 1 0 [(.tok 6), (.fld (.get (.tok 4) (.sub (.len (.tok 4)) (.lit (.i 1)))) 0)]), (.call 1 0 [(.tok 6), (.fld (.get (.tok 4) (.sub (.len (.tok 4)) (.lit (.i 1)))) 1)]), (.tok 6)]) (.tok 6)), (.call 1 0 [(.tok 6), (.fld (.get (.tok 4) (.sub (.len (.tok 4)) (.lit (.i 1)))) 0)])]))) (.len (.call 3 0 [(.ite (.not (.eq (.call 1 0 [(.tok 6), (.fld (.get (.tok 4) (.sub (.len (.tok 4)) (.lit (.i 1)))) 0)]) (.call 1 0 [(.tok 6), (.fld (.get (.tok 4) (.sub (.len (.tok 4)) (.lit (.i 1)))) 1)]))) (.call 0 1 [(.call 1 0 [(.tok 6), (.fld (.get (.tok 4) (.sub (.len (.tok 4)) (.lit (.i 1)))) 0)]), (.call 1 0 [(.tok 6), (.fld (.get (.tok 4) (.sub (.len (.tok 4)) (.lit (.i 1)))) 1)]), (.tok 6)]) (.tok 6)), (.call 1 0 [(.tok 6), (.fld (.get (.tok 4) (.sub (.len (.tok 4)) (.lit (.i 1)))) 1)])])) (.len (.call 3 0 [(.ite (.not (.eq (.call 1 0 [(.tok 6), (.fld (.get (.tok 4) (.sub (.len (.tok 4)) (.lit (.i 1)))) 0)]) (.call 1 0 [(.tok 6), (.fld (.get (.tok 4) (.sub (.len (.tok 4)) (.lit (.i 1)))) 1)]))) (.call 0 1 [(.call 1 0 [(.tok 6), (.fld (.get (.tok 4) (.sub (.len (.tok 4)) (.lit (.i 1)))) 0)]), (.call 1 0 [(.tok 6), (.fld (.get (.tok 4) (.sub (.len (.tok 4)) (.lit (.i 1)))) 1)]), (.tok 6)]) (.tok 6)), (.call 1 0 [(.tok 6), (.fld (.get (.tok 4) (.sub (.len (.tok 4)) (.lit (.i 1)))) 0)])]))) (.lit (.i 1))))] (.loop 15 7 [(.cut (.tok 4) (.lit (.i 0)) (.sub (.len (.tok 4)) (.lit (.i 1)))), (.sub (.ite (.lt (.len (.call 3 0 [(.ite (.not (.eq (.call 1 0 [(.tok 6), (.fld (.get (.tok 4) (.sub (.len (.tok 4)) (.lit (.i 1)))) 0)]) (.call 1 0 [(.tok 6), (.fld (.get (.tok 4) (.sub (.len (.tok 4)) (.lit (.i 1)))) 1)]))) (.call 0 1 [(.call 1 0 [(.tok 6), (.fld (.get (.tok 4) (.sub (.len (.tok 4)) (.lit (.i 1)))) 0)]), (.call 1 0 [(.tok 6), (.fld (.get (.tok 4) (.sub (.len (.tok 4)) (.lit (.i 1)))) 1)]), (.tok 6)]) (.tok 6)), (.call 1 0 [(.tok 6), (.fld (.get (.tok 4) (.sub (.len (.tok 4)) (.lit (.i 1)))) 1)])])) (.len (.call 3 0 [(.ite (.not (.eq (.call 1 0 [(.tok 6), (.fld (.get (.tok 4) (.sub (.len (.tok 4)) (.lit (.i 1)))) 0)]) (.call 1 0 [(.tok 6), (.fld (.get (.tok 4) (.sub (.len (.tok 4)) (.lit (.i 1)))) 1)]))) (.call 0 1 [(.call 1 0 [(.tok 6), (.fld (.get (.tok 4) (.sub (.len (.tok 4)) (.lit (.i 1)))) 0)]), (.call 1 0 [(.tok 6), (.fld (.get (.tok 4) (.sub (.len (.tok 4)) (.lit (.i 1)))) 1)]), (.tok 6)]) (.tok 6)), (.call 1 0 [(.tok 6), (.fld (.get (.tok 4) (.sub (.len (.tok 4)) (.lit (.i 1)))) 0)])]))) (.len (.call 3 0 [(.ite (.not (.eq (.call 1 0 [(.tok 6), (.fld (.get (.tok 4) (.sub (.len (.tok 4)) (.lit (.i 1)))) 0)]) (.call 1 0 [(.tok 6), (.fld (.get (.tok 4) (.sub (.len (.tok 4)) (.lit (.i 1)))) 1)]))) (.call 0 1 [(.call 1 0 [(.tok 6), (.fld (.get (.tok 4) (.sub (.len (.tok 4)) (.lit (.i 1)))) 0)]), (.call 1 0 [(.tok 6), (.fld (.get (.tok 4) (.sub (.len (.tok 4)) (.lit (.i 1)))) 1)]), (.tok 6)]) (.tok 6)), (.call 1 0 [(.tok 6), (.fld (.get (.tok 4) (.sub (.len (.tok 4)) (.lit (.i 1)))) 1)])])) (.len (.call 3 0 [(.ite (.not (.eq (.call 1 0 [(.tok 6), (.fld (.get (.tok 4) (.sub (.len (.tok 4)) (.lit (.i 1)))) 0)]) (.call 1 0 [(.tok 6), (.fld (.get (.tok 4) (.sub (.len (.tok 4)) (.lit (.i 1)))) 1)]))) (.call 0 1 [(.call 1 0 [(.tok 6), (.fld (.get (.tok 4) (.sub (.len (.tok 4)) (.lit (.i 1)))) 0)]), (.call 1 0 [(.tok 6), (.fld (.get (.tok 4) (.sub (.len (.tok 4)) (.lit (.i 1)))) 1)]), (.tok 6)]) (.tok 6)), (.call 1 0 [(.tok 6), (.fld (.get (.tok 4) (.sub (.len (.tok 4)) (.lit (.i 1)))) 0)])]))) (.lit (.i 1)))] (.br (.le (.lit (.i 0)) (.tok 8)) (.need [(.le (.add (.len (.tok 7)) (.lit (.i 1))) (.lit (.i 4398046510976))), (.le (.lit (.i 0)) (.tok 8)), (.lt (.tok 8) (.len (.call 3 0 [(.ite (.not (.eq (.call 1 0 [(.tok 6), (.fld (.get (.tok 4) (.sub (.len (.tok 4)) (.lit (.i 1)))) 0)]) (.call 1 0 [(.tok 6), (.fld (.get (.tok 4) (.sub (.len (.tok 4)) (.lit (.i 1)))) 1)]))) (.call 0 1 [(.call 1 0 [(.tok 6), (.fld (.get (.tok 4) (.sub (.len (.tok 4)) (.lit (.i 1)))) 0)]), (.call 1 0 [(.tok 6), (.fld (.get (.tok 4) (.sub (.len (.tok 4)) (.lit (.i 1)))) 1)]), (.tok 6)]) (.tok 6)), (.call 1 0 [(.tok 6), (.fld (.get (.tok 4) (.sub (.len (.tok 4)) (.lit (.i 1)))) 1)])]))), (.le (.lit (.i 0)) (.tok 8)), (.lt (.tok 8) (.len (.call 3 0 [(.ite (.not (.eq (.call 1 0 [(.tok 6), (.fld (.get (.tok 4) (.sub (.len (.tok 4)) (.lit (.i 1)))) 0)]) (.call 1 0 [(.tok 6), (.fld (.get (.tok 4) (.sub (.len (.tok 4)) (.lit (.i 1)))) 1)]))) (.call 0 1 [(.call 1 0 [(.tok 6), (.fld (.get (.tok 4) (.sub (.len (.tok 4)) (.lit (.i 1)))) 0)]), (.call 1 0 [(.tok 6), (.fld (.get (.tok 4) (.sub (.len (.tok 4)) (.lit (.i 1)))) 1)]), (.tok 6)]) (.tok 6)), (.call 1 0 [(.tok 6), (.fld (.get (.tok 4) (.sub (.len (.tok 4)) (.lit (.i 1)))) 0)])])))] (.need [(.rng .i64 (.sub (.tok 8) (.lit (.i 1))))] (.back 15 [(.app (.tok 7) (.row [(.mk [(.get (.call 3 0 [(.ite (.not (.eq (.call 1 0 [(.tok 6), (.fld (.get (.tok 4) (.sub (.len (.tok 4)) (.lit (.i 1)))) 0)]) (.call 1 0 [(.tok 6), (.fld (.get (.tok 4) (.sub (.len (.tok 4)) (.lit (.i 1)))) 1)]))) (.call 0 1 [(.call 1 0 [(.tok 6), (.fld (.get (.tok 4) (.sub (.len (.tok 4)) (.lit (.i 1)))) 0)]), (.call 1 0 [(.tok 6), (.fld (.get (.tok 4) (.sub (.len (.tok 4)) (.lit (.i 1)))) 1)]), (.tok 6)]) (.tok 6)), (.call 1 0 [(.tok 6), (.fld (.get (.tok 4) (.sub (.len (.tok 4)) (.lit (.i 1)))) 0)])]) (.tok 8)), (.get (.call 3 0 [(.ite (.not (.eq (.call 1 0 [(.tok 6), (.fld (.get (.tok 4) (.sub (.len (.tok 4)) (.lit (.i 1)))) 0)]) (.call 1 0 [(.tok 6), (.fld (.get (.tok 4) (.sub (.len (.tok 4)) (.lit (.i 1)))) 1)]))) (.call 0 1 [(.call 1 0 [(.tok 6), (.fld (.get (.tok 4) (.sub (.len (.tok 4)) (.lit (.i 1)))) 0)]), (.call 1 0 [(.tok 6), (.fld (.get (.tok 4) (.sub (.len (.tok 4)) (.lit (.i 1)))) 1)]), (.tok 6)]) (.tok 6)), (.call 1 0 [(.tok 6), (.fld (.get (.tok 4) (.sub (.len (.tok 4)) (.lit (.i 1)))) 1)])]) (.tok 8))])])), (.sub (.tok 8) (.lit (.i 1)))]))) (.need [(.rng .i64 (.add (.tok 5) (.lit (.i 1))))] (.back 3 [(.tok 3), (.tok 7), (.add (.tok 5) (.lit (.i 1))), (.ite (.not (.eq (.call 1 0 [(.tok 6), (.fld (.get (.tok 4) (.sub (.len (.tok 4)) (.lit (.i 1)))) 0)]) (.call 1 0 [(.tok 6), (.fld (.get (.tok 4) (.sub (.len (.tok 4)) (.lit (.i 1)))) 1)]))) (.call 0 1 [(.call 1 0 [(.tok 6), (.fld (.get (.tok 4) (.sub (.len (.tok 4)) (.lit (.i 1)))) 0)]), (.call 1 0 [(.tok 6), (.fld (.get (.tok 4) (.sub (.len (.tok 4)) (.lit (.i 1)))) 1)]), (.tok 6)]) (.tok 6))])))))))))))))) (.leaf [(.lit (.i 0)), (.tok 6)])))
theorem qc0 (g0 g1 g2 g3 : GfZ) : CdZ [(z6, g0), (qq, g1), (z7, g2), (z8, g3)] qdm zh Try.f26 q2d := fun cd h => by injection h with h; subst h; kernel_rfl
theorem qcx {g0 g1 g2 g3 g : GfZ} (h0 : FOk z6 g0) (h1 : FOk qq g1) (h2 : FOk z7 g2) (h3 : FOk z8 g3) (h : HgZ q2d zh [(z6, g0), (qq, g1), (z7, g2), (z8, g3)] g) : FOk zh g := zq (qc0 g0 g1 g2 g3) (.cons h0 (.cons h1 (.cons h2 (.cons h3 .nil)))) rfl rfl qaa (by decide) h
def yh : Ct := ⟨8, [.ref (.st 26) true, .val (.st 28), .val (.st 28)], [(.int .i64, false)], [], none, []⟩
theorem qgi : EnZ yh := fun _ _ => by kernel_rfl
def q9v : Ann := ⟨[0, 1, 2, 3, 4, 5, 6, 7, 8, 9, 27, 43], []⟩
def q4w : Tree := (.need [(.imp (.not (.not (.call 2 0 [(.tok 0), (.tok 1)]))) (.ok 2 [(.tok 0), (.tok 2)])), (.ok 2 [(.tok 0), (.tok 1)])] (.br (.or (.not (.call 2 0 [(.tok 0), (.tok 1)])) (.not (.call 2 0 [(.tok 0), (.tok 2)]))) (.leaf [(.lit (.i 1)), (.tok 0)]) (.need [(.ok 3 [(.tok 0), (.tok 1), (.tok 2)])] (.need [(.ok 0 [(.call 3 0 [(.tok 0), (.tok 1), (.tok 2)]), (.len (.fld (.tok 0) 2)), (.len (.fld (.tok 0) 0)), (.len (.fld (.tok 0) 3)), (.call 3 1 [(.tok 0), (.tok 1), (.tok 2)])])] (.leaf [(.call 3 0 [(.tok 0), (.tok 1), (.tok 2)]), (.call 0 0 [(.call 3 0 [(.tok 0), (.tok 1), (.tok 2)]), (.len (.fld (.tok 0) 2)), (.len (.fld (.tok 0) 0)), (.len (.fld (.tok 0) 3)), (.call 3 1 [(.tok 0), (.tok 1), (.tok 2)])])])))))
theorem qk8 (g0 g1 g2 g3 : List D → Option (List D)) : ∀ cd, Try.f8.body = some cd → z9w Try.prog [(zz, g0), (z6, g1), (qh, g2), (zh, g3)] q9v yh Try.f8 24 cd = q4w := by
 intro cd h
 injection h with h
 subst h
 kernel_rfl
theorem qmd {g0 g1 g2 g3 : List D → Option (List D)} {g : List D → Option (List D)} (h0 : FOk zz g0) (h1 : FOk z6 g1) (h2 : FOk qh g2) (h3 : FOk zh g3) (hD : zi9 zz g0) (hnp : q9x [(zz, g0), (z6, g1), (qh, g2), (zh, g3)] = true) (h : ∀ ds outs, WfA yh.ars ds → g ds = some outs → q4w.go (qe [(zz, g0), (z6, g1), (qh, g2), (zh, g3)]) (fun o => o = outs) ds fun _ _ => False) : FOk yh g :=
 FOk.of_at qgi fun ds outs hw hg => z7h q9v Try.f8 24 _ (.cons h0 (.cons h1 (.cons h2 (.cons h3 .nil)))) (fun e he hf => by
   simp only [List.mem_cons, List.not_mem_nil, or_false] at he
   rcases he with rfl | rfl | rfl | rfl
   ·exact hD
   ·exact absurd (show z6.f = 24 from hf) (by decide)
   ·exact absurd (show qh.f = 24 from hf) (by decide)
   ·exact absurd (show zh.f = 24 from hf) (by decide)
   ) rfl rfl (by decide) hnp (by rw [qk8 g0 g1 g2 g3 _ rfl]; exact h ds outs hw hg)
def zw : Ct := ⟨34, [.val (.st 28), .val (.st 28)], [(.bool, false)], [], none, []⟩
theorem qf7 : EnZ zw := fun _ _ => by kernel_rfl
def qjg : Ann := ⟨[0, 1, 4], []⟩
def q48 : Tree := (.leaf [(.lit (.b .false))])
theorem qfm : CdZ [] qjg zw Try.f34 q48 := fun cd h => by injection h with h; subst h; kernel_rfl
theorem qid {g : GfZ} (h : HgZ q48 zw [] g) : FOk zw g := zq (qfm) .nil rfl rfl qf7 (by decide) h
def yg : Ct := ⟨26, [.rref (.st 26), .val (.st 28), .val (.st 28), .fn 34 []], [(.int .i64, false)], [], none, []⟩
theorem qaf : EnZ yg := fun _ _ => by kernel_rfl
def qdb : Ann := ⟨[0, 1, 2, 3, 5, 6, 8, 9, 10, 11, 12, 13, 14, 15, 16, 23, 27, 59, 72, 86], [(3, ⟨[(8, .int .i64, false), (9, .row 93, false), (10, .int .i64, false)], [], [21, 22, 23, 26, 27, 28, 29, 30, 31, 32, 33, 11, 34, 35, 36, 37, 38, 39, 40, 41, 42, 43, 44, 45, 46, 47, 48, 49, 50, 12, 13, 51, 52, 53, 54, 55, 56, 57, 58, 59, 60, 61, 62, 63, 64, 65, 66, 67, 68, 69, 70, 71, 72, 73, 74, 75, 76, 77, 78, 14, 15, 79, 80, 81, 82, 83, 84, 16, 85, 86, 89, 90, 91, 92, 93, 94, 95, 96, 97, 98, 99, 100, 87, 88, 24, 25], []⟩),
 (15, ⟨[(9, .row 93, false), (16, .int .i64, false)], [], [85, 86, 89, 90, 91, 92, 93, 94, 95, 96, 97, 98, 99, 100, 87, 88], []⟩)]⟩
def q2o : Tree := (.loop 3 3 [(.lit (.i 0)), (.row [(.mk [(.tok 1), (.tok 2)])]), (.lit (.i 0))] (.br (.lt (.lit (.i 0)) (.len (.tok 4))) (.br (.eq (.tok 5) (.lit (.i 1048576))) (.leaf [(.lit (.i 2))]) (.need [(.rng .i64 (.sub (.len (.tok 4)) (.lit (.i 1)))), (.le (.lit (.i 0)) (.sub (.len (.tok 4)) (.lit (.i 1)))), (.lt (.sub (.len (.tok 4)) (.lit (.i 1))) (.len (.tok 4)))] (.need [(.rng .i64 (.sub (.len (.tok 4)) (.lit (.i 1)))), (.le (.lit (.i 0)) (.sub (.len (.tok 4)) (.lit (.i 1)))), (.le (.sub (.len (.tok 4)) (.lit (.i 1))) (.len (.tok 4)))] (.need [(.ok 1 [(.tok 0), (.fld (.get (.tok 4) (.sub (.len (.tok 4)) (.lit (.i 1)))) 1)]), (.ok 1 [(.tok 0), (.fld (.get (.tok 4) (.sub (.len (.tok 4)) (.lit (.i 1)))) 1)]), (.ok 1 [(.tok 0), (.fld (.get (.tok 4) (.sub (.len (.tok 4)) (.lit (.i 1)))) 0)]), (.ok 1 [(.tok 0), (.fld (.get (.tok 4) (.sub (.len (.tok 4)) (.lit (.i 1)))) 0)]), (.ok 1 [(.tok 0), (.fld (.get (.tok 4) (.sub (.len (.tok 4)) (.lit (.i 1)))) 0)])] (.need [(.imp (.not (.eq (.call 1 0 [(.tok 0), (.fld (.get (.tok 4) (.sub (.len (.tok 4)) (.lit (.i 1)))) 0)]) (.call 1 0 [(.tok 0), (.fld (.get (.tok 4) (.sub (.len (.tok 4)) (.lit (.i 1)))) 1)]))) (.ok 0 [(.call 1 0 [(.tok 0), (.fld (.get (.tok 4) (.sub (.len (.tok 4)) (.lit (.i 1)))) 0)]), (.call 1 0 [(.tok 0), (.fld (.get (.tok 4) (.sub (.len (.tok 4)) (.lit (.i 1)))) 1)])]))] (.br (.or (.eq (.call 1 0 [(.tok 0), (.fld (.get (.tok 4) (.sub (.len (.tok 4)) (.lit (.i 1)))) 0)]) (.call 1 0 [(.tok 0), (.fld (.get (.tok 4) (.sub (.len (.tok 4)) (.lit (.i 1)))) 1)])) (.call 0 0 [(.call 1 0 [(.tok 0), (.fld (.get (.tok 4) (.sub (.len (.tok 4)) (.lit (.i 1)))) 0)]), (.call 1 0 [(.tok 0), (.fld (.get (.tok 4) (.sub (.len (.tok 4)) (.lit (.i 1)))) 1)])])) (.need [(.rng .i64 (.add (.tok 5) (.lit (.i 1))))] (.back 3 [(.tok 3), (.cut (.tok 4) (.lit (.i 0)) (.sub (.len (.tok 4)) (.lit (.i 1)))), (.add (.tok 5) (.lit (.i 1)))])) (.need [(.imp (.not (.lt (.call 2 0 [(.tok 0), (.call 1 0 [(.tok 0), (.fld (.get (.tok 4) (.sub (.len (.tok 4)) (.lit (.i 1)))) 0)])]) (.lit (.i 0)))) (.ok 2 [(.tok 0), (.call 1 0 [(.tok 0), (.fld (.get (.tok 4) (.sub (.len (.tok 4)) (.lit (.i 1)))) 1)])])), (.imp (.not (.lt (.call 2 0 [(.tok 0), (.call 1 0 [(.tok 0), (.fld (.get (.tok 4) (.sub (.len (.tok 4)) (.lit (.i 1)))) 0)])]) (.lit (.i 0)))) (.ok 2 [(.tok 0), (.call 1 0 [(.tok 0), (.fld (.get (.tok 4) (.sub (.len (.tok 4)) (.lit (.i 1)))) 0)])])), (.imp (.not (.lt (.call 2 0 [(.tok 0), (.call 1 0 [(.tok 0), (.fld (.get (.tok 4) (.sub (.len (.tok 4)) (.lit (.i 1)))) 0)])]) (.lit (.i 0)))) (.ok 2 [(.tok 0), (.call 1 0 [(.tok 0), (.fld (.get (.tok 4) (.sub (.len (.tok 4)) (.lit (.i 1)))) 0)])])), (.imp (.not (.lt (.call 2 0 [(.tok 0), (.call 1 0 [(.tok 0), (.fld (.get (.tok 4) (.sub (.len (.tok 4)) (.lit (.i 1)))) 0)])]) (.lit (.i 0)))) (.ok 2 [(.tok 0), (.call 1 0 [(.tok 0), (.fld (.get (.tok 4) (.sub (.len (.tok 4)) (.lit (.i 1)))) 0)])])), (.ok 2 [(.tok 0), (.call 1 0 [(.tok 0), (.fld (.get (.tok 4) (.sub (.len (.tok 4)) (.lit (.i 1)))) 0)])])] (.br (.or (.lt (.call 2 0 [(.tok 0), (.call 1 0 [(.tok 0), (.fld (.get (.tok 4) (.sub (.len (.tok 4)) (.lit (.i 1)))) 0)])]) (.lit (.i 0))) (.not (.eq (.call 2 0 [(.tok 0), (.call 1 0 [(.tok 0), (.fld (.get (.tok 4) (.sub (.len (.tok 4)) (.lit (.i 1)))) 0)])]) (.call 2 0 [(.tok 0), (.call 1 0 [(.tok 0), (.fld (.get (.tok 4) (.sub (.len (.tok 4)) (.lit (.i 1)))) 1)])])))) (.leaf [(.lit (.i 4))]) (.need [(.ok 3 [(.tok 0), (.call 1 0 [(.tok 0), (.fld (.get (.tok 4) (.sub (.len (.tok 4)) (.lit (.i 1)))) 1)])]), (.ok 3 [(.tok 0), (.call 1 0 [(.tok 0), (.fld (.get (.tok 4) (.sub (.len (.tok 4)) (.lit (.i 1)))) 0)])])] (.need [(.rng .i64 (.sub (.ite (.lt (.len (.call 3 0 [(.tok 0), (.call 1 0 [(.tok 0), (.fld (.get (.tok 4) (.sub (.len (.tok 4)) (.lit (.i 1)))) 1)])])) (.len (.call 3 0 [(.tok 0), (.call 1 0 [(.tok 0), (.fld (.get (.tok 4) (.sub (.len (.tok 4)) (.lit (.i 1)))) 0)])]))) (.len (.call 3 0 [(.tok 0), (.call 1 0 [(.tok 0), (.fld (.get (.tok 4) (.sub (.len (.tok 4)) (.lit (.i 1)))) 1)])])) (.len (.call 3 0 [(.tok 0), (.call 1 0 [(.tok 0), (.fld (.get (.tok 4) (.sub (.len (.tok 4)) (.lit (.i 1)))) 0)])]))) (.lit (.i 1))))] (.loop 15 6 [(.cut (.tok 4) (.lit (.i 0)) (.sub (.len (.tok 4)) (.lit (.i 1)))), (.sub (.ite (.lt (.len (.call 3 0 [(.tok 0), (.call 1 0 [(.tok 0), (.fld (.get (.tok 4) (.sub (.len (.tok 4)) (.lit (.i 1)))) 1)])])) (.len (.call 3 0 [(.tok 0), (.call 1 0 [(.tok 0), (.fld (.get (.tok 4) (.sub (.len (.tok 4)) (.lit (.i 1)))) 0)])]))) (.len (.call 3 0 [(.tok 0), (.call 1 0 [(.tok 0), (.fld (.get (.tok 4) (.sub (.len (.tok 4)) (.lit (.i 1)))) 1)])])) (.len (.call 3 0 [(.tok 0), (.call 1 0 [(.tok 0), (.fld (.get (.tok 4) (.sub (.len (.tok 4)) (.lit (.i 1)))) 0)])]))) (.lit (.i 1)))] (.br (.le (.lit (.i 0)) (.tok 7)) (.need [(.le (.add (.len (.tok 6)) (.lit (.i 1))) (.lit (.i 4398046510976))), (.le (.lit (.i 0)) (.tok 7)), (.lt (.tok 7) (.len (.call 3 0 [(.tok 0), (.call 1 0 [(.tok 0), (.fld (.get (.tok 4) (.sub (.len (.tok 4)) (.lit (.i 1)))) 1)])]))), (.le (.lit (.i 0)) (.tok 7)), (.lt (.tok 7) (.len (.call 3 0 [(.tok 0), (.call 1 0 [(.tok 0), (.fld (.get (.tok 4) (.sub (.len (.tok 4)) (.lit (.i 1)))) 0)])])))] (.need [(.rng .i64 (.sub (.tok 7) (.lit (.i 1))))] (.back 15 [(.app (.tok 6) (.row [(.mk [(.get (.call 3 0 [(.tok 0), (.call 1 0 [(.tok 0), (.fld (.get (.tok 4) (.sub (.len (.tok 4)) (.lit (.i 1)))) 0)])]) (.tok 7)), (.get (.call 3 0 [(.tok 0), (.call 1 0 [(.tok 0), (.fld (.get (.tok 4) (.sub (.len (.tok 4)) (.lit (.i 1)))) 1)])]) (.tok 7))])])), (.sub (.tok 7) (.lit (.i 1)))]))) (.need [(.rng .i64 (.add (.tok 5) (.lit (.i 1))))] (.back 3 [(.tok 3), (.tok 6), (.add (.tok 5) (.lit (.i 1)))])))))))))))))) (.leaf [(.lit (.i 0))])))
theorem qbz (g0 g1 g2 g3 : GfZ) : CdZ [(zw, g0), (qq, g1), (z7, g2), (z8, g3)] qdb yg Try.f26 q2o := fun cd h => by injection h with h; subst h; kernel_rfl
theorem qcy {g0 g1 g2 g3 g : GfZ} (h0 : FOk zw g0) (h1 : FOk qq g1) (h2 : FOk z7 g2) (h3 : FOk z8 g3) (h : HgZ q2o yg [(zw, g0), (qq, g1), (z7, g2), (z8, g3)] g) : FOk yg g := zq (qbz g0 g1 g2 g3) (.cons h0 (.cons h1 (.cons h2 (.cons h3 .nil)))) rfl rfl qaf (by decide) h
def q0j : Ct := ⟨13, [.val (.st 26), .val (.st 28), .val (.st 28)], [(.bool, false), (.int .i64, false)], [], none, []⟩
theorem qk2 : EnZ q0j := fun _ _ => by kernel_rfl
def qot : Ann := ⟨[0, 1, 2, 3, 4, 5, 6, 7, 17, 20, 21, 23], []⟩
def q5t : Tree := (.need [(.ok 1 [(.tok 0), (.tok 1)]), (.imp (.not (.not (.call 1 0 [(.tok 0), (.tok 1)]))) (.ok 1 [(.tok 0), (.tok 2)]))] (.br (.or (.not (.call 1 0 [(.tok 0), (.tok 1)])) (.not (.call 1 0 [(.tok 0), (.tok 2)]))) (.leaf [(.lit (.b .false)), (.lit (.i 1))]) (.need [(.ok 2 [(.tok 0), (.tok 1), (.tok 2)])] (.br (.eq (.call 2 0 [(.tok 0), (.tok 1), (.tok 2)]) (.lit (.i 0))) (.leaf [(.lit (.b .true)), (.lit (.i 0))]) (.br (.eq (.call 2 0 [(.tok 0), (.tok 1), (.tok 2)]) (.lit (.i 2))) (.leaf [(.lit (.b .false)), (.lit (.i 2))]) (.leaf [(.lit (.b .false)), (.lit (.i 0))]))))))
theorem ql4 (g0 g1 g2 : GfZ) : CdZ [(zw, g0), (qh, g1), (yg, g2)] qot q0j Try.f13 q5t := fun cd h => by injection h with h; subst h; kernel_rfl
theorem qpj {g0 g1 g2 g : GfZ} (h0 : FOk zw g0) (h1 : FOk qh g1) (h2 : FOk yg g2) (h : HgZ q5t q0j [(zw, g0), (qh, g1), (yg, g2)] g) : FOk q0j g := zq (ql4 g0 g1 g2) (.cons h0 (.cons h1 (.cons h2 .nil))) rfl rfl qk2 (by decide) h
def j6 : Ct := ⟨10, [], [(.bool, false)], [], none, []⟩
theorem qde : EnZ j6 := fun _ _ => by kernel_rfl
def qhc : Ann := ⟨[0, 1, 2, 3, 4, 5, 6], []⟩
def q76 : Tree := (.need [(.ok 0 [])] (.need [(.ok 1 [(.lit (.i 0))]), (.ok 1 [(.lit (.i 3))]), (.ok 2 [(.call 0 0 []), (.call 1 0 [(.lit (.i 0))]), (.call 1 0 [(.lit (.i 3))])])] (.need [(.ok 3 [(.call 2 1 [(.call 0 0 []), (.call 1 0 [(.lit (.i 0))]), (.call 1 0 [(.lit (.i 3))])]), (.call 1 0 [(.lit (.i 0))]), (.call 1 0 [(.lit (.i 3))])]), (.ok 1 [(.lit (.i 3))]), (.ok 1 [(.lit (.i 0))])] (.need [(.ok 0 [])] (.need [(.ok 4 [(.lit (.i 2))]), (.ok 4 [(.lit (.i 6))]), (.ok 2 [(.call 0 0 []), (.call 4 0 [(.lit (.i 2))]), (.call 4 0 [(.lit (.i 6))])])] (.need [(.imp (.and (.eq (.call 2 0 [(.call 0 0 []), (.call 1 0 [(.lit (.i 0))]), (.call 1 0 [(.lit (.i 3))])]) (.lit (.i 0))) (.eq (.get (.fld (.call 2 1 [(.call 0 0 []), (.call 1 0 [(.lit (.i 0))]), (.call 1 0 [(.lit (.i 3))])]) 0) (.lit (.i 4))) (.call 4 0 [(.lit (.i 1))]))) (.lit (.b .true))), (.imp (.and (.eq (.call 2 0 [(.call 0 0 []), (.call 1 0 [(.lit (.i 0))]), (.call 1 0 [(.lit (.i 3))])]) (.lit (.i 0))) (.eq (.get (.fld (.call 2 1 [(.call 0 0 []), (.call 1 0 [(.lit (.i 0))]), (.call 1 0 [(.lit (.i 3))])]) 0) (.lit (.i 4))) (.call 4 0 [(.lit (.i 1))]))) (.lt (.lit (.i 5)) (.len (.fld (.call 2 1 [(.call 0 0 []), (.call 1 0 [(.lit (.i 0))]), (.call 1 0 [(.lit (.i 3))])]) 0)))), (.imp (.and (.eq (.call 2 0 [(.call 0 0 []), (.call 1 0 [(.lit (.i 0))]), (.call 1 0 [(.lit (.i 3))])]) (.lit (.i 0))) (.eq (.get (.fld (.call 2 1 [(.call 0 0 []), (.call 1 0 [(.lit (.i 0))]), (.call 1 0 [(.lit (.i 3))])]) 0) (.lit (.i 4))) (.call 4 0 [(.lit (.i 1))]))) (.lit (.b .true))), (.imp (.and (.eq (.call 2 0 [(.call 0 0 []), (.call 1 0 [(.lit (.i 0))]), (.call 1 0 [(.lit (.i 3))])]) (.lit (.i 0))) (.eq (.get (.fld (.call 2 1 [(.call 0 0 []), (.call 1 0 [(.lit (.i 0))]), (.call 1 0 [(.lit (.i 3))])]) 0) (.lit (.i 4))) (.call 4 0 [(.lit (.i 1))]))) (.lt (.lit (.i 5)) (.len (.fld (.call 2 1 [(.call 0 0 []), (.call 1 0 [(.lit (.i 0))]), (.call 1 0 [(.lit (.i 3))])]) 0)))), (.imp (.eq (.call 2 0 [(.call 0 0 []), (.call 1 0 [(.lit (.i 0))]), (.call 1 0 [(.lit (.i 3))])]) (.lit (.i 0))) (.ok 4 [(.lit (.i 1))])), (.imp (.eq (.call 2 0 [(.call 0 0 []), (.call 1 0 [(.lit (.i 0))]), (.call 1 0 [(.lit (.i 3))])]) (.lit (.i 0))) (.lit (.b .true))), (.imp (.eq (.call 2 0 [(.call 0 0 []), (.call 1 0 [(.lit (.i 0))]), (.call 1 0 [(.lit (.i 3))])]) (.lit (.i 0))) (.lt (.lit (.i 4)) (.len (.fld (.call 2 1 [(.call 0 0 []), (.call 1 0 [(.lit (.i 0))]), (.call 1 0 [(.lit (.i 3))])]) 0)))), (.imp (.eq (.call 2 0 [(.call 0 0 []), (.call 1 0 [(.lit (.i 0))]), (.call 1 0 [(.lit (.i 3))])]) (.lit (.i 0))) (.ok 4 [(.lit (.i 1))])), (.imp (.eq (.call 2 0 [(.call 0 0 []), (.call 1 0 [(.lit (.i 0))]), (.call 1 0 [(.lit (.i 3))])]) (.lit (.i 0))) (.lit (.b .true))), (.imp (.eq (.call 2 0 [(.call 0 0 []), (.call 1 0 [(.lit (.i 0))]), (.call 1 0 [(.lit (.i 3))])]) (.lit (.i 0))) (.lt (.lit (.i 4)) (.len (.fld (.call 2 1 [(.call 0 0 []), (.call 1 0 [(.lit (.i 0))]), (.call 1 0 [(.lit (.i 3))])]) 0)))), (.imp (.eq (.call 2 0 [(.call 0 0 []), (.call 1 0 [(.lit (.i 0))]), (.call 1 0 [(.lit (.i 3))])]) (.lit (.i 0))) (.ok 4 [(.lit (.i 1))]))] (.leaf [(.and (.and (.and (.and (.and (.and (.eq (.call 2 0 [(.call 0 0 []), (.call 1 0 [(.lit (.i 0))]), (.call 1 0 [(.lit (.i 3))])]) (.lit (.i 0))) (.eq (.get (.fld (.call 2 1 [(.call 0 0 []), (.call 1 0 [(.lit (.i 0))]), (.call 1 0 [(.lit (.i 3))])]) 0) (.lit (.i 4))) (.call 4 0 [(.lit (.i 1))]))) (.eq (.get (.fld (.call 2 1 [(.call 0 0 []), (.call 1 0 [(.lit (.i 0))]), (.call 1 0 [(.lit (.i 3))])]) 0) (.lit (.i 5))) (.mk [(.lit (.i 2)), (.lit (.i 1))]))) (.eq (.len (.fld (.call 2 1 [(.call 0 0 []), (.call 1 0 [(.lit (.i 0))]), (.call 1 0 [(.lit (.i 3))])]) 2)) (.lit (.i 2)))) (.call 3 0 [(.call 2 1 [(.call 0 0 []), (.call 1 0 [(.lit (.i 0))]), (.call 1 0 [(.lit (.i 3))])]), (.call 1 0 [(.lit (.i 0))]), (.call 1 0 [(.lit (.i 3))])])) (.eq (.call 3 1 [(.call 2 1 [(.call 0 0 []), (.call 1 0 [(.lit (.i 0))]), (.call 1 0 [(.lit (.i 3))])]), (.call 1 0 [(.lit (.i 0))]), (.call 1 0 [(.lit (.i 3))])]) (.lit (.i 0)))) (.eq (.call 2 0 [(.call 0 0 []), (.call 4 0 [(.lit (.i 2))]), (.call 4 0 [(.lit (.i 6))])]) (.lit (.i 4))))])))))))
theorem qez (g0 g1 g2 g3 g4 : GfZ) : CdZ [(jw, g0), (q1b, g1), (yh, g2), (q0j, g3), (yz, g4)] qhc j6 Try.f10 q76 := fun cd h => by injection h with h; subst h; kernel_rfl
theorem qhb {g0 g1 g2 g3 g4 g : GfZ} (h0 : FOk jw g0) (h1 : FOk q1b g1) (h2 : FOk yh g2) (h3 : FOk q0j g3) (h4 : FOk yz g4) (h : HgZ q76 j6 [(jw, g0), (q1b, g1), (yh, g2), (q0j, g3), (yz, g4)] g) : FOk j6 g := zq (qez g0 g1 g2 g3 g4) (.cons h0 (.cons h1 (.cons h2 (.cons h3 (.cons h4 .nil))))) rfl rfl qde (by decide) h
def ye : Ct := ⟨92, [.val (.st 41), .val (.int .i64)], [(.int .i64, false)], [], none, []⟩
theorem q89 : EnZ ye := fun _ _ => by kernel_rfl
def qlt : Ann := ⟨[0, 1, 2, 4, 5, 6, 16], [(3, ⟨[(5, .int .i64, false), (6, .int .i64, false)], [], [7, 8, 9, 10, 11, 12, 13, 14, 15, 16, 19, 20, 21, 22, 23, 24, 25, 26, 27, 28, 29, 17, 18], []⟩)]⟩
def q4u : Tree := (.loop 3 2 [(.lit (.i 1)), (.lit (.i 0))] (.br (.and (.lt (.tok 3) (.len (.fld (.tok 0) 3))) (.lt (.tok 2) (.tok 1))) (.need [(.le (.lit (.i 0)) (.tok 3)), (.lt (.tok 3) (.len (.fld (.tok 0) 3))), (.rng .i64 (.sub (.tok 1) (.tok 2))), (.ok 0 [(.get (.fld (.tok 0) 3) (.tok 3)), (.sub (.tok 1) (.tok 2))]), (.rng .i64 (.add (.tok 2) (.call 0 0 [(.get (.fld (.tok 0) 3) (.tok 3)), (.sub (.tok 1) (.tok 2))])))] (.need [(.rng .i64 (.add (.tok 3) (.lit (.i 1))))] (.back 3 [(.add (.tok 2) (.call 0 0 [(.get (.fld (.tok 0) 3) (.tok 3)), (.sub (.tok 1) (.tok 2))])), (.add (.tok 3) (.lit (.i 1)))]))) (.leaf [(.tok 2)])))
theorem qhs (g0 : GfZ) : CdZ [(ye, g0)] qlt ye Try.f92 q4u := fun cd h => by injection h with h; subst h; kernel_rfl
theorem qmq {g0 g : GfZ} (h0 : FOk ye g0) (h : HgZ q4u ye [(ye, g0)] g) : FOk ye g := zq (qhs g0) (.cons h0 .nil) rfl rfl q89 (by decide) h
def q0f : Ct := ⟨69, [.val (.st 41)], [(.int .i64, false)], [], none, []⟩
theorem qhz : EnZ q0f := fun _ _ => by kernel_rfl
def qqs : Ann := ⟨[0, 1, 2], []⟩
def q68 : Tree := (.need [(.ok 0 [(.tok 0), (.lit (.i 2001))])] (.leaf [(.call 0 0 [(.tok 0), (.lit (.i 2001))])]))
theorem qlo (g0 : GfZ) : CdZ [(ye, g0)] qqs q0f Try.f69 q68 := fun cd h => by injection h with h; subst h; kernel_rfl
theorem qpq {g0 g : GfZ} (h0 : FOk ye g0) (h : HgZ q68 q0f [(ye, g0)] g) : FOk q0f g := zq (qlo g0) (.cons h0 .nil) rfl rfl qhz (by decide) h
def q0h : Ct := ⟨93, [.val (.st 41)], [(.bool, false)], [], none, []⟩
theorem qjx : EnZ q0h := fun _ _ => by kernel_rfl
def qpc : Ann := ⟨[0, 1, 2, 4, 5, 26, 37, 54], []⟩
def q5y : Tree := (.br (.eq (.fld (.tok 0) 0) (.lit (.i 0))) (.leaf [(.and (.and (.and (.le (.lit (.i 0)) (.fld (.tok 0) 1)) (.le (.fld (.tok 0) 1) (.lit (.i 1099511627776)))) (.eq (.fld (.tok 0) 2) (.lit (.s ⟨#[]⟩)))) (.eq (.len (.fld (.tok 0) 3)) (.lit (.i 0))))]) (.br (.eq (.fld (.tok 0) 0) (.lit (.i 1))) (.leaf [(.and (.eq (.fld (.tok 0) 2) (.lit (.s ⟨#[]⟩))) (.eq (.len (.fld (.tok 0) 3)) (.lit (.i 0))))]) (.br (.eq (.fld (.tok 0) 0) (.lit (.i 2))) (.leaf [(.and (.and (.eq (.fld (.tok 0) 1) (.lit (.i 0))) (.le (.slen (.fld (.tok 0) 2)) (.lit (.i 100)))) (.eq (.len (.fld (.tok 0) 3)) (.lit (.i 0))))]) (.br (.eq (.fld (.tok 0) 0) (.lit (.i 3))) (.leaf [(.and (.and (.and (.eq (.fld (.tok 0) 1) (.lit (.i 0))) (.le (.slen (.fld (.tok 0) 2)) (.lit (.i 100)))) (.le (.lit (.i 1)) (.len (.fld (.tok 0) 3)))) (.le (.len (.fld (.tok 0) 3)) (.lit (.i 8))))]) (.leaf [(.lit (.b .false))])))))
theorem ql2 : CdZ [] qpc q0h Try.f93 q5y := fun cd h => by injection h with h; subst h; kernel_rfl
theorem qpe {g : GfZ} (h : HgZ q5y q0h [] g) : FOk q0h g := zq (ql2) .nil rfl rfl qjx (by decide) h
def yl : Ct := ⟨70, [.val (.st 41)], [(.bool, false)], [], none, []⟩
theorem q8c : EnZ yl := fun _ _ => by kernel_rfl
def qml : Ann := ⟨[0, 1, 2, 3, 6, 11, 20], [(4, ⟨[(2, .bool, false), (3, .int .i64, false)], [], [7, 8, 9, 10, 11, 14, 15, 16, 17, 18, 19, 20, 12, 13], []⟩)]⟩
def q53 : Tree := (.need [(.ok 0 [(.tok 0)])] (.br (.not (.call 0 0 [(.tok 0)])) (.leaf [(.lit (.b .false))]) (.loop 4 1 [(.lit (.b .false)), (.lit (.i 0))] (.br (.lt (.tok 2) (.len (.fld (.tok 0) 3))) (.need [(.le (.lit (.i 0)) (.tok 2)), (.lt (.tok 2) (.len (.fld (.tok 0) 3))), (.ok 1 [(.get (.fld (.tok 0) 3) (.tok 2))])] (.br (.not (.call 1 0 [(.get (.fld (.tok 0) 3) (.tok 2))])) (.leaf [(.lit (.b .false))]) (.need [(.rng .i64 (.add (.tok 2) (.lit (.i 1))))] (.back 4 [(.tok 1), (.add (.tok 2) (.lit (.i 1)))])))) (.leaf [(.lit (.b .true))])))))
theorem qhm (g0 g1 : GfZ) : CdZ [(q0h, g0), (yl, g1)] qml yl Try.f70 q53 := fun cd h => by injection h with h; subst h; kernel_rfl
theorem qlv {g0 g1 g : GfZ} (h0 : FOk q0h g0) (h1 : FOk yl g1) (h : HgZ q53 yl [(q0h, g0), (yl, g1)] g) : FOk yl g := zq (qhm g0 g1) (.cons h0 (.cons h1 .nil)) rfl rfl q8c (by decide) h
def qm : Ct := ⟨39, [.val (.st 41)], [(.bool, false)], [], none, []⟩
theorem qgt : EnZ qm := fun _ _ => by kernel_rfl
def qmm : Ann := ⟨[0, 1, 2], []⟩
def q4r : Tree := (.need [(.ok 0 [(.tok 0)]), (.imp (.le (.call 0 0 [(.tok 0)]) (.lit (.i 2000))) (.ok 1 [(.tok 0)]))] (.leaf [(.and (.le (.call 0 0 [(.tok 0)]) (.lit (.i 2000))) (.call 1 0 [(.tok 0)]))]))
theorem qju (g0 g1 : GfZ) : CdZ [(q0f, g0), (yl, g1)] qmm qm Try.f39 q4r := fun cd h => by injection h with h; subst h; kernel_rfl
theorem ql7 {g0 g1 g : GfZ} (h0 : FOk q0f g0) (h1 : FOk yl g1) (h : HgZ q4r qm [(q0f, g0), (yl, g1)] g) : FOk qm g := zq (qju g0 g1) (.cons h0 (.cons h1 .nil)) rfl rfl qgt (by decide) h
def zp : Ct := ⟨91, [.val (.row 105), .val (.int .i64)], [(.int .i64, false)], [], none, []⟩
theorem qjv : EnZ zp := fun _ _ => by kernel_rfl
def qrg : Ann := ⟨[0, 1, 4, 5, 6, 7, 12, 23, 39], [(2, ⟨[(5, .int .i64, false), (6, .int .i64, false)], [], [10, 11, 12, 13, 14, 15, 16, 7, 17, 18, 19, 20, 21, 22, 23, 24, 25, 26], []⟩)]⟩
def q5r : Tree := (.loop 2 2 [(.lit (.i 0)), (.len (.tok 0))] (.br (.lt (.tok 2) (.tok 3)) (.need [(.rng .i64 (.add (.tok 2) (.tok 3))), (.le (.lit (.i 0)) (.add (.tok 2) (.tok 3)))] (.need [(.le (.lit (.i 0)) (.fn 17 [(.add (.tok 2) (.tok 3)), (.lit (.i 2))])), (.lt (.fn 17 [(.add (.tok 2) (.tok 3)), (.lit (.i 2))]) (.len (.tok 0)))] (.br (.lt (.fld (.get (.tok 0) (.fn 17 [(.add (.tok 2) (.tok 3)), (.lit (.i 2))])) 0) (.tok 1)) (.need [(.rng .i64 (.add (.fn 17 [(.add (.tok 2) (.tok 3)), (.lit (.i 2))]) (.lit (.i 1))))] (.back 2 [(.add (.fn 17 [(.add (.tok 2) (.tok 3)), (.lit (.i 2))]) (.lit (.i 1))), (.tok 3)])) (.back 2 [(.tok 2), (.fn 17 [(.add (.tok 2) (.tok 3)), (.lit (.i 2))])])))) (.need [(.imp (.lt (.tok 2) (.len (.tok 0))) (.le (.lit (.i 0)) (.tok 2))), (.imp (.lt (.tok 2) (.len (.tok 0))) (.lt (.tok 2) (.len (.tok 0))))] (.br (.and (.lt (.tok 2) (.len (.tok 0))) (.eq (.fld (.get (.tok 0) (.tok 2)) 0) (.tok 1))) (.leaf [(.tok 2)]) (.leaf [(.lit (.i (-1)))])))))
theorem qmn : CdZ [] qrg zp Try.f91 q5r := fun cd h => by injection h with h; subst h; kernel_rfl
theorem qr5 {g : GfZ} (h : HgZ q5r zp [] g) : FOk zp g := zq (qmn) .nil rfl rfl qjv (by decide) h
def zn : Ct := ⟨68, [.val (.row 105), .val (.row 4), .val (.st 41)], [(.bool, false)], [], none, []⟩
theorem q6c : EnZ zn := fun _ _ => by kernel_rfl
def qgd : Ann := ⟨[0, 1, 2, 5, 6, 7, 8, 11, 28, 39], [(5, ⟨[(6, .bool, false), (8, .int .i64, false)], [], [24, 25, 26, 27, 28, 31, 32, 33, 34, 35, 36, 37, 38, 39, 29, 30], []⟩)]⟩
def q3k : Tree := (.br (.eq (.fld (.tok 2) 0) (.lit (.i 0))) (.need [(.ok 0 [(.tok 0), (.fld (.tok 2) 1)])] (.need [(.imp (.not (.lt (.call 0 0 [(.tok 0), (.fld (.tok 2) 1)]) (.lit (.i 0)))) (.le (.lit (.i 0)) (.call 0 0 [(.tok 0), (.fld (.tok 2) 1)]))), (.imp (.not (.lt (.call 0 0 [(.tok 0), (.fld (.tok 2) 1)]) (.lit (.i 0)))) (.lt (.call 0 0 [(.tok 0), (.fld (.tok 2) 1)]) (.len (.tok 1))))] (.leaf [(.or (.lt (.call 0 0 [(.tok 0), (.fld (.tok 2) 1)]) (.lit (.i 0))) (.get (.tok 1) (.call 0 0 [(.tok 0), (.fld (.tok 2) 1)])))]))) (.loop 5 3 [(.lit (.b .false)), (.lit (.i 0))] (.br (.lt (.tok 4) (.len (.fld (.tok 2) 3))) (.need [(.le (.lit (.i 0)) (.tok 4)), (.lt (.tok 4) (.len (.fld (.tok 2) 3))), (.ok 1 [(.tok 0), (.tok 1), (.get (.fld (.tok 2) 3) (.tok 4))])] (.br (.not (.call 1 0 [(.tok 0), (.tok 1), (.get (.fld (.tok 2) 3) (.tok 4))])) (.leaf [(.lit (.b .false))]) (.need [(.rng .i64 (.add (.tok 4) (.lit (.i 1))))] (.back 5 [(.tok 3), (.add (.tok 4) (.lit (.i 1)))])))) (.leaf [(.lit (.b .true))]))))
theorem qe7 (g0 g1 : GfZ) : CdZ [(zp, g0), (zn, g1)] qgd zn Try.f68 q3k := fun cd h => by injection h with h; subst h; kernel_rfl
theorem qg7 {g0 g1 g : GfZ} (h0 : FOk zp g0) (h1 : FOk zn g1) (h : HgZ q3k zn [(zp, g0), (zn, g1)] g) : FOk zn g := zq (qe7 g0 g1) (.cons h0 (.cons h1 .nil)) rfl rfl q6c (by decide) h
def yi : Ct := ⟨38, [.val (.row 105)], [(.bool, false)], [], none, []⟩
theorem qh2 : EnZ yi := fun _ _ => by kernel_rfl
def qln : Ann := ⟨[0, 2, 3, 4, 5, 6, 7, 11, 54, 61, 66, 83, 91], [(2, ⟨[(2, .bool, false), (3, .int .i64, false)], [], [8, 9, 10, 11, 14, 15, 16, 17, 18, 19, 20, 21, 22, 23, 24, 25, 26, 27, 28, 29, 30, 31, 32, 33, 34, 35, 36, 37, 38, 39, 40, 41, 42, 43, 44, 45, 46, 47, 48, 49, 50, 51, 52, 53, 54, 12, 13], []⟩),
 (8, ⟨[(5, .int .i64, false), (2, .bool, false), (4, .row 4, false)], [], [60, 61, 62, 6, 7, 63, 64, 65, 66, 69, 70, 71, 72, 73, 74, 75, 76, 77, 78, 79, 80, 81, 82, 83, 84, 85, 86, 87, 88, 67, 68, 89, 90, 91, 57], []⟩),
 (11, ⟨[(5, .int .i64, false), (7, .int .i64, false), (4, .row 4, false)], [], [63, 64, 65, 66, 69, 70, 71, 72, 73, 74, 75, 76, 77, 78, 79, 80, 81, 82, 83, 84, 85, 86, 87, 88, 67, 68, 57], []⟩)]⟩
def q54 : Tree := (.loop 2 1 [(.lit (.b .false)), (.lit (.i 0))] (.br (.lt (.tok 2) (.len (.tok 0))) (.need [(.imp (.not (.or (.or (.lt (.fld (.get (.tok 0) (.tok 2)) 0) (.lit (.i 0))) (.lt (.lit (.i 1099511627776)) (.fld (.get (.tok 0) (.tok 2)) 0))) (.and (.lt (.lit (.i 0)) (.tok 2)) (.le (.fld (.get (.tok 0) (.tok 2)) 0) (.fld (.get (.tok 0) (.sub (.tok 2) (.lit (.i 1)))) 0))))) (.ok 0 [(.fld (.get (.tok 0) (.tok 2)) 1)])), (.imp (.not (.or (.or (.lt (.fld (.get (.tok 0) (.tok 2)) 0) (.lit (.i 0))) (.lt (.lit (.i 1099511627776)) (.fld (.get (.tok 0) (.tok 2)) 0))) (.and (.lt (.lit (.i 0)) (.tok 2)) (.le (.fld (.get (.tok 0) (.tok 2)) 0) (.fld (.get (.tok 0) (.sub (.tok 2) (.lit (.i 1)))) 0))))) (.le (.lit (.i 0)) (.tok 2))), (.imp (.not (.or (.or (.lt (.fld (.get (.tok 0) (.tok 2)) 0) (.lit (.i 0))) (.lt (.lit (.i 1099511627776)) (.fld (.get (.tok 0) (.tok 2)) 0))) (.and (.lt (.lit (.i 0)) (.tok 2)) (.le (.fld (.get (.tok 0) (.tok 2)) 0) (.fld (.get (.tok 0) (.sub (.tok 2) (.lit (.i 1)))) 0))))) (.lt (.tok 2) (.len (.tok 0)))), (.imp (.and (.not (.or (.lt (.fld (.get (.tok 0) (.tok 2)) 0) (.lit (.i 0))) (.lt (.lit (.i 1099511627776)) (.fld (.get (.tok 0) (.tok 2)) 0)))) (.lt (.lit (.i 0)) (.tok 2))) (.le (.lit (.i 0)) (.tok 2))), (.imp (.and (.not (.or (.lt (.fld (.get (.tok 0) (.tok 2)) 0) (.lit (.i 0))) (.lt (.lit (.i 1099511627776)) (.fld (.get (.tok 0) (.tok 2)) 0)))) (.lt (.lit (.i 0)) (.tok 2))) (.lt (.tok 2) (.len (.tok 0)))), (.imp (.and (.not (.or (.lt (.fld (.get (.tok 0) (.tok 2)) 0) (.lit (.i 0))) (.lt (.lit (.i 1099511627776)) (.fld (.get (.tok 0) (.tok 2)) 0)))) (.lt (.lit (.i 0)) (.tok 2))) (.le (.lit (.i 0)) (.sub (.tok 2) (.lit (.i 1))))), (.imp (.and (.not (.or (.lt (.fld (.get (.tok 0) (.tok 2)) 0) (.lit (.i 0))) (.lt (.lit (.i 1099511627776)) (.fld (.get (.tok 0) (.tok 2)) 0)))) (.lt (.lit (.i 0)) (.tok 2))) (.lt (.sub (.tok 2) (.lit (.i 1))) (.len (.tok 0)))), (.imp (.and (.not (.or (.lt (.fld (.get (.tok 0) (.tok 2)) 0) (.lit (.i 0))) (.lt (.lit (.i 1099511627776)) (.fld (.get (.tok 0) (.tok 2)) 0)))) (.lt (.lit (.i 0)) (.tok 2))) (.rng .i64 (.sub (.tok 2) (.lit (.i 1))))), (.imp (.and (.not (.or (.lt (.fld (.get (.tok 0) (.tok 2)) 0) (.lit (.i 0))) (.lt (.lit (.i 1099511627776)) (.fld (.get (.tok 0) (.tok 2)) 0)))) (.lt (.lit (.i 0)) (.tok 2))) (.le (.lit (.i 0)) (.tok 2))), (.imp (.and (.not (.or (.lt (.fld (.get (.tok 0) (.tok 2)) 0) (.lit (.i 0))) (.lt (.lit (.i 1099511627776)) (.fld (.get (.tok 0) (.tok 2)) 0)))) (.lt (.lit (.i 0)) (.tok 2))) (.lt (.tok 2) (.len (.tok 0)))), (.imp (.and (.not (.or (.lt (.fld (.get (.tok 0) (.tok 2)) 0) (.lit (.i 0))) (.lt (.lit (.i 1099511627776)) (.fld (.get (.tok 0) (.tok 2)) 0)))) (.lt (.lit (.i 0)) (.tok 2))) (.le (.lit (.i 0)) (.sub (.tok 2) (.lit (.i 1))))), (.imp (.and (.not (.or (.lt (.fld (.get (.tok 0) (.tok 2)) 0) (.lit (.i 0))) (.lt (.lit (.i 1099511627776)) (.fld (.get (.tok 0) (.tok 2)) 0)))) (.lt (.lit (.i 0)) (.tok 2))) (.lt (.sub (.tok 2) (.lit (.i 1))) (.len (.tok 0)))), (.imp (.and (.not (.or (.lt (.fld (.get (.tok 0) (.tok 2)) 0) (.lit (.i 0))) (.lt (.lit (.i 1099511627776)) (.fld (.get (.tok 0) (.tok 2)) 0)))) (.lt (.lit (.i 0)) (.tok 2))) (.rng .i64 (.sub (.tok 2) (.lit (.i 1))))), (.imp (.and (.not (.or (.lt (.fld (.get (.tok 0) (.tok 2)) 0) (.lit (.i 0))) (.lt (.lit (.i 1099511627776)) (.fld (.get (.tok 0) (.tok 2)) 0)))) (.lt (.lit (.i 0)) (.tok 2))) (.rng .i64 (.sub (.tok 2) (.lit (.i 1))))), (.imp (.and (.not (.or (.lt (.fld (.get (.tok 0) (.tok 2)) 0) (.lit (.i 0))) (.lt (.lit (.i 1099511627776)) (.fld (.get (.tok 0) (.tok 2)) 0)))) (.lt (.lit (.i 0)) (.tok 2))) (.le (.lit (.i 0)) (.tok 2))), (.imp (.and (.not (.or (.lt (.fld (.get (.tok 0) (.tok 2)) 0) (.lit (.i 0))) (.lt (.lit (.i 1099511627776)) (.fld (.get (.tok 0) (.tok 2)) 0)))) (.lt (.lit (.i 0)) (.tok 2))) (.lt (.tok 2) (.len (.tok 0)))), (.imp (.and (.not (.or (.lt (.fld (.get (.tok 0) (.tok 2)) 0) (.lit (.i 0))) (.lt (.lit (.i 1099511627776)) (.fld (.get (.tok 0) (.tok 2)) 0)))) (.lt (.lit (.i 0)) (.tok 2))) (.le (.lit (.i 0)) (.tok 2))), (.imp (.and (.not (.or (.lt (.fld (.get (.tok 0) (.tok 2)) 0) (.lit (.i 0))) (.lt (.lit (.i 1099511627776)) (.fld (.get (.tok 0) (.tok 2)) 0)))) (.lt (.lit (.i 0)) (.tok 2))) (.lt (.tok 2) (.len (.tok 0)))), (.imp (.and (.not (.or (.lt (.fld (.get (.tok 0) (.tok 2)) 0) (.lit (.i 0))) (.lt (.lit (.i 1099511627776)) (.fld (.get (.tok 0) (.tok 2)) 0)))) (.lt (.lit (.i 0)) (.tok 2))) (.le (.lit (.i 0)) (.sub (.tok 2) (.lit (.i 1))))), (.imp (.and (.not (.or (.lt (.fld (.get (.tok 0) (.tok 2)) 0) (.lit (.i 0))) (.lt (.lit (.i 1099511627776)) (.fld (.get (.tok 0) (.tok 2)) 0)))) (.lt (.lit (.i 0)) (.tok 2))) (.lt (.sub (.tok 2) (.lit (.i 1))) (.len (.tok 0)))), (.imp (.and (.not (.or (.lt (.fld (.get (.tok 0) (.tok 2)) 0) (.lit (.i 0))) (.lt (.lit (.i 1099511627776)) (.fld (.get (.tok 0) (.tok 2)) 0)))) (.lt (.lit (.i 0)) (.tok 2))) (.rng .i64 (.sub (.tok 2) (.lit (.i 1))))), (.imp (.and (.not (.or (.lt (.fld (.get (.tok 0) (.tok 2)) 0) (.lit (.i 0))) (.lt (.lit (.i 1099511627776)) (.fld (.get (.tok 0) (.tok 2)) 0)))) (.lt (.lit (.i 0)) (.tok 2))) (.rng .i64 (.sub (.tok 2) (.lit (.i 1))))), (.imp (.and (.not (.or (.lt (.fld (.get (.tok 0) (.tok 2)) 0) (.lit (.i 0))) (.lt (.lit (.i 1099511627776)) (.fld (.get (.tok 0) (.tok 2)) 0)))) (.lt (.lit (.i 0)) (.tok 2))) (.rng .i64 (.sub (.tok 2) (.lit (.i 1))))), (.imp (.and (.not (.or (.lt (.fld (.get (.tok 0) (.tok 2)) 0) (.lit (.i 0))) (.lt (.lit (.i 1099511627776)) (.fld (.get (.tok 0) (.tok 2)) 0)))) (.lt (.lit (.i 0)) (.tok 2))) (.le (.lit (.i 0)) (.tok 2))), (.imp (.and (.not (.or (.lt (.fld (.get (.tok 0) (.tok 2)) 0) (.lit (.i 0))) (.lt (.lit (.i 1099511627776)) (.fld (.get (.tok 0) (.tok 2)) 0)))) (.lt (.lit (.i 0)) (.tok 2))) (.lt (.tok 2) (.len (.tok 0)))), (.imp (.and (.not (.or (.lt (.fld (.get (.tok 0) (.tok 2)) 0) (.lit (.i 0))) (.lt (.lit (.i 1099511627776)) (.fld (.get (.tok 0) (.tok 2)) 0)))) (.lt (.lit (.i 0)) (.tok 2))) (.rng .i64 (.sub (.tok 2) (.lit (.i 1))))), (.imp (.not (.lt (.fld (.get (.tok 0) (.tok 2)) 0) (.lit (.i 0)))) (.le (.lit (.i 0)) (.tok 2))), (.imp (.not (.lt (.fld (.get (.tok 0) (.tok 2)) 0) (.lit (.i 0)))) (.lt (.tok 2) (.len (.tok 0)))), (.le (.lit (.i 0)) (.tok 2)), (.lt (.tok 2) (.len (.tok 0)))] (.br (.or (.or (.or (.lt (.fld (.get (.tok 0) (.tok 2)) 0) (.lit (.i 0))) (.lt (.lit (.i 1099511627776)) (.fld (.get (.tok 0) (.tok 2)) 0))) (.and (.lt (.lit (.i 0)) (.tok 2)) (.le (.fld (.get (.tok 0) (.tok 2)) 0) (.fld (.get (.tok 0) (.sub (.tok 2) (.lit (.i 1)))) 0)))) (.not (.call 0 0 [(.fld (.get (.tok 0) (.tok 2)) 1)]))) (.leaf [(.lit (.b .false))]) (.need [(.rng .i64 (.add (.tok 2) (.lit (.i 1))))] (.back 2 [(.tok 1), (.add (.tok 2) (.lit (.i 1)))])))) (.need [(.le (.lit (.i 0)) (.len (.tok 0))), (.le (.len (.tok 0)) (.lit (.i 16777216)))] (.loop 8 3 [(.len (.tok 0)), (.tok 1), (.rep (.len (.tok 0)) (.lit (.b .false)))] (.br (.lt (.lit (.i 0)) (.tok 3)) (.loop 11 6 [(.tok 3), (.lit (.i 0)), (.tok 5)] (.br (.lt (.tok 7) (.len (.tok 0))) (.need [(.le (.lit (.i 0)) (.tok 7)), (.lt (.tok 7) (.len (.tok 8))), (.imp (.not (.get (.tok 8) (.tok 7))) (.le (.lit (.i 0)) (.tok 7))), (.imp (.not (.get (.tok 8) (.tok 7))) (.lt (.tok 7) (.len (.tok 0)))), (.imp (.not (.get (.tok 8) (.tok 7))) (.ok 1 [(.tok 0), (.tok 8), (.fld (.get (.tok 0) (.tok 7)) 1)]))] (.br (.and (.not (.get (.tok 8) (.tok 7))) (.call 1 0 [(.tok 0), (.tok 8), (.fld (.get (.tok 0) (.tok 7)) 1)])) (.need [(.le (.lit (.i 0)) (.tok 7)), (.lt (.tok 7) (.len (.tok 8)))] (.need [(.rng .i64 (.sub (.tok 6) (.lit (.i 1))))] (.need [(.rng .i64 (.add (.tok 7) (.lit (.i 1))))] (.back 11 [(.sub (.tok 6) (.lit (.i 1))), (.add (.tok 7) (.lit (.i 1))), (.put (.tok 8) (.tok 7) (.lit (.b .true)))])))) (.need [(.rng .i64 (.add (.tok 7) (.lit (.i 1))))] (.back 11 [(.tok 6), (.add (.tok 7) (.lit (.i 1))), (.tok 8)])))) (.br (.eq (.tok 6) (.tok 3)) (.leaf [(.lit (.b .false))]) (.back 8 [(.tok 6), (.tok 4), (.tok 8)])))) (.leaf [(.lit (.b .true))]))))))
theorem qkg (g0 g1 : GfZ) : CdZ [(qm, g0), (zn, g1)] qln yi Try.f38 q54 := fun cd h => by injection h with h; subst h; kernel_rfl
theorem qlr {g0 g1 g : GfZ} (h0 : FOk qm g0) (h1 : FOk zn g1) (h : HgZ q54 yi [(qm, g0), (zn, g1)] g) : FOk yi g := zq (qkg g0 g1) (.cons h0 (.cons h1 .nil)) rfl rfl qh2 (by decide) h
def zu : Ct := ⟨94, [.val (.row 105), .val (.st 41)], [(.st 41, false)], [], none, []⟩
theorem qdy : EnZ zu := fun _ _ => by kernel_rfl
def qig : Ann := ⟨[0, 1, 3, 4, 5, 8, 14], [(1, ⟨[], [3, 4], [6, 7, 8, 9, 10, 11, 12, 5, 13, 14, 15, 16, 17, 18, 19, 20], []⟩)]⟩
def q47 : Tree := (.loop 1 2 [(.tok 1), (.lit (.a [(.i 0), (.i 0), (.s ⟨#[]⟩), (.r [])]))] (.br (.eq (.fld (.tok 2) 0) (.lit (.i 0))) (.need [(.ok 0 [(.tok 0), (.fld (.tok 2) 1)])] (.br (.lt (.call 0 0 [(.tok 0), (.fld (.tok 2) 1)]) (.lit (.i 0))) (.leaf [(.tok 2)]) (.need [(.le (.lit (.i 0)) (.call 0 0 [(.tok 0), (.fld (.tok 2) 1)])), (.lt (.call 0 0 [(.tok 0), (.fld (.tok 2) 1)]) (.len (.tok 0)))] (.back 1 [(.fld (.get (.tok 0) (.call 0 0 [(.tok 0), (.fld (.tok 2) 1)])) 1), (.tok 3)])))) (.leaf [(.tok 2)])))
theorem qfh (g0 : GfZ) : CdZ [(zp, g0)] qig zu Try.f94 q47 := fun cd h => by injection h with h; subst h; kernel_rfl
theorem qj3 {g0 g : GfZ} (h0 : FOk zp g0) (h : HgZ q47 zu [(zp, g0)] g) : FOk zu g := zq (qfh g0) (.cons h0 .nil) rfl rfl qdy (by decide) h
def jx : Ct := ⟨95, [.val (.row 105), .val (.int .i64), .val (.st 41)], [(.row 105, false)], [], none, []⟩
theorem qfr : EnZ jx := fun _ _ => by kernel_rfl
def qlq : Ann := ⟨[0, 1, 2, 5, 6, 7, 8, 9, 13, 26, 41], [(4, ⟨[(7, .row 105, false), (8, .bool, false), (9, .int .i64, false)], [], [10, 11, 12, 13, 16, 17, 18, 19, 20, 21, 22, 23, 24, 25, 26, 27, 28, 29, 30, 31, 32, 33, 34, 35, 36, 37, 38, 39, 14, 15], []⟩)]⟩
def q55 : Tree := (.loop 4 3 [(.lit (.r [])), (.lit (.b .false)), (.lit (.i 0))] (.br (.lt (.tok 5) (.len (.tok 0))) (.need [(.imp (.not (.tok 4)) (.le (.lit (.i 0)) (.tok 5))), (.imp (.not (.tok 4)) (.lt (.tok 5) (.len (.tok 0))))] (.br (.and (.not (.tok 4)) (.lt (.tok 1) (.fld (.get (.tok 0) (.tok 5)) 0))) (.need [(.le (.add (.len (.tok 3)) (.lit (.i 1))) (.lit (.i 2199023255488)))] (.need [(.le (.lit (.i 0)) (.tok 5)), (.lt (.tok 5) (.len (.tok 0))), (.le (.add (.len (.app (.tok 3) (.row [(.mk [(.tok 1), (.tok 2)])]))) (.lit (.i 1))) (.lit (.i 2199023255488)))] (.need [(.rng .i64 (.add (.tok 5) (.lit (.i 1))))] (.back 4 [(.app (.app (.tok 3) (.row [(.mk [(.tok 1), (.tok 2)])])) (.row [(.get (.tok 0) (.tok 5))])), (.lit (.b .true)), (.add (.tok 5) (.lit (.i 1)))])))) (.need [(.le (.lit (.i 0)) (.tok 5)), (.lt (.tok 5) (.len (.tok 0))), (.le (.add (.len (.tok 3)) (.lit (.i 1))) (.lit (.i 2199023255488)))] (.need [(.rng .i64 (.add (.tok 5) (.lit (.i 1))))] (.back 4 [(.app (.tok 3) (.row [(.get (.tok 0) (.tok 5))])), (.tok 4), (.add (.tok 5) (.lit (.i 1)))]))))) (.br (.not (.tok 4)) (.need [(.le (.add (.len (.tok 3)) (.lit (.i 1))) (.lit (.i 2199023255488)))] (.leaf [(.app (.tok 3) (.row [(.mk [(.tok 1), (.tok 2)])]))])) (.leaf [(.tok 3)]))))
theorem qkf : CdZ [] qlq jx Try.f95 q55 := fun cd h => by injection h with h; subst h; kernel_rfl
theorem qm0 {g : GfZ} (h : HgZ q55 jx [] g) : FOk jx g := zq (qkf) .nil rfl rfl qfr (by decide) h
def zy : Ct := ⟨108, [.val (.row 105), .val (.int .i64), .val (.st 41), .ref (.row 2) true], [(.bool, false)], [], none, []⟩
theorem q7o : EnZ zy := fun _ _ => by kernel_rfl
def qik : Ann := ⟨[0, 1, 2, 3, 6, 8, 9, 10, 11, 14, 20, 30, 41, 64, 75], [(6, ⟨[(8, .bool, false), (10, .int .i64, false)], [], [25, 26, 27, 28, 29, 30, 33, 34, 35, 36, 37, 38, 39, 40, 41, 31, 32], []⟩),
 (13, ⟨[(8, .bool, false), (11, .int .i64, false)], [3], [60, 61, 62, 63, 64, 67, 68, 69, 70, 71, 72, 73, 74, 75, 65, 66], []⟩)]⟩
def q4e : Tree := (.br (.eq (.fld (.tok 2) 0) (.lit (.i 0))) (.need [(.ok 0 [(.tok 0), (.fld (.tok 2) 1)])] (.br (.lt (.call 0 0 [(.tok 0), (.fld (.tok 2) 1)]) (.lit (.i 0))) (.leaf [(.eq (.fld (.tok 2) 1) (.tok 1)), (.tok 3)]) (.loop 6 4 [(.lit (.b .false)), (.lit (.i 0))] (.br (.lt (.tok 5) (.len (.tok 3))) (.need [(.le (.lit (.i 0)) (.tok 5)), (.lt (.tok 5) (.len (.tok 3)))] (.br (.eq (.get (.tok 3) (.tok 5)) (.fld (.tok 2) 1)) (.leaf [(.lit (.b .false)), (.tok 3)]) (.need [(.rng .i64 (.add (.tok 5) (.lit (.i 1))))] (.back 6 [(.tok 4), (.add (.tok 5) (.lit (.i 1)))])))) (.need [(.le (.add (.len (.tok 3)) (.lit (.i 1))) (.lit (.i 17592186043904)))] (.need [(.le (.lit (.i 0)) (.call 0 0 [(.tok 0), (.fld (.tok 2) 1)])), (.lt (.call 0 0 [(.tok 0), (.fld (.tok 2) 1)]) (.len (.tok 0))), (.ok 1 [(.tok 0), (.tok 1), (.fld (.get (.tok 0) (.call 0 0 [(.tok 0), (.fld (.tok 2) 1)])) 1), (.app (.tok 3) (.row [(.fld (.tok 2) 1)]))])] (.leaf [(.call 1 0 [(.tok 0), (.tok 1), (.fld (.get (.tok 0) (.call 0 0 [(.tok 0), (.fld (.tok 2) 1)])) 1), (.app (.tok 3) (.row [(.fld (.tok 2) 1)]))]), (.call 1 1 [(.tok 0), (.tok 1), (.fld (.get (.tok 0) (.call 0 0 [(.tok 0), (.fld (.tok 2) 1)])) 1), (.app (.tok 3) (.row [(.fld (.tok 2) 1)]))])]))))))) (.loop 13 4 [(.lit (.b .false)), (.lit (.i 0)), (.tok 3)] (.br (.lt (.tok 5) (.len (.fld (.tok 2) 3))) (.need [(.le (.lit (.i 0)) (.tok 5)), (.lt (.tok 5) (.len (.fld (.tok 2) 3))), (.ok 1 [(.tok 0), (.tok 1), (.get (.fld (.tok 2) 3) (.tok 5)), (.tok 6)])] (.br (.call 1 0 [(.tok 0), (.tok 1), (.get (.fld (.tok 2) 3) (.tok 5)), (.tok 6)]) (.leaf [(.lit (.b .true)), (.call 1 1 [(.tok 0), (.tok 1), (.get (.fld (.tok 2) 3) (.tok 5)), (.tok 6)])]) (.need [(.rng .i64 (.add (.tok 5) (.lit (.i 1))))] (.back 13 [(.tok 4), (.add (.tok 5) (.lit (.i 1))), (.call 1 1 [(.tok 0), (.tok 1), (.get (.fld (.tok 2) 3) (.tok 5)), (.tok 6)])])))) (.leaf [(.lit (.b .false)), (.tok 6)]))))
theorem qhh (g0 g1 : GfZ) : CdZ [(zp, g0), (zy, g1)] qik zy Try.f108 q4e := fun cd h => by injection h with h; subst h; kernel_rfl
theorem qjt {g0 g1 g : GfZ} (h0 : FOk zp g0) (h1 : FOk zy g1) (h : HgZ q4e zy [(zp, g0), (zy, g1)] g) : FOk zy g := zq (qhh g0 g1) (.cons h0 (.cons h1 .nil)) rfl rfl q7o (by decide) h
def jh : Ct := ⟨96, [.val (.row 105), .val (.int .i64), .val (.st 41)], [(.bool, false)], [], none, []⟩
theorem qey : EnZ jh := fun _ _ => by kernel_rfl
def qin : Ann := ⟨[0, 1, 2, 5, 6, 7], []⟩
def q4f : Tree := (.need [(.ok 0 [(.tok 0), (.tok 1), (.tok 2), (.lit (.r []))])] (.leaf [(.call 0 0 [(.tok 0), (.tok 1), (.tok 2), (.lit (.r []))])]))
theorem qgz (g0 : GfZ) : CdZ [(zy, g0)] qin jh Try.f96 q4f := fun cd h => by injection h with h; subst h; kernel_rfl
theorem qi6 {g0 g : GfZ} (h0 : FOk zy g0) (h : HgZ q4f jh [(zy, g0)] g) : FOk jh g := zq (qgz g0) (.cons h0 .nil) rfl rfl qey (by decide) h
def z4 : Ct := ⟨71, [.ref (.st 110) false, .val (.st 41), .val (.st 41)], [(.int .i64, false)], [], none, []⟩
theorem q4j : EnZ z4 := fun _ _ => by kernel_rfl
def qbs : Ann := ⟨[0, 1, 2, 4, 5, 6, 7, 8, 13, 40, 41, 58, 77, 82, 90, 129, 134, 150], [(22, ⟨[(6, .int .i64, false), (7, .int .i64, false)], [0], [130, 131, 132, 133, 134, 137, 138, 139, 140, 141, 142, 143, 144, 145, 146, 147, 148, 8, 149, 150, 151, 135, 136], []⟩)]⟩
def q23 : Tree := (.br (.le (.lit (.i 1048576)) (.fld (.tok 0) 1)) (.leaf [(.lit (.i 2)), (.tok 0)]) (.need [(.rng .i64 (.add (.fld (.tok 0) 1) (.lit (.i 1))))] (.need [(.ok 1 [(.fld (.set (.tok 0) 1 (.add (.fld (.tok 0) 1) (.lit (.i 1)))) 0), (.tok 1)])] (.need [(.ok 1 [(.fld (.set (.tok 0) 1 (.add (.fld (.tok 0) 1) (.lit (.i 1)))) 0), (.tok 2)])] (.br (.and (.eq (.fld (.call 1 0 [(.fld (.set (.tok 0) 1 (.add (.fld (.tok 0) 1) (.lit (.i 1)))) 0), (.tok 1)]) 0) (.lit (.i 0))) (.eq (.fld (.call 1 0 [(.fld (.set (.tok 0) 1 (.add (.fld (.tok 0) 1) (.lit (.i 1)))) 0), (.tok 2)]) 0) (.lit (.i 0)))) (.br (.lt (.fld (.call 1 0 [(.fld (.set (.tok 0) 1 (.add (.fld (.tok 0) 1) (.lit (.i 1)))) 0), (.tok 2)]) 1) (.fld (.call 1 0 [(.fld (.set (.tok 0) 1 (.add (.fld (.tok 0) 1) (.lit (.i 1)))) 0), (.tok 1)]) 1)) (.need [(.ok 2 [(.fld (.set (.tok 0) 1 (.add (.fld (.tok 0) 1) (.lit (.i 1)))) 0), (.fld (.call 1 0 [(.fld (.set (.tok 0) 1 (.add (.fld (.tok 0) 1) (.lit (.i 1)))) 0), (.tok 1)]) 1), (.call 1 0 [(.fld (.set (.tok 0) 1 (.add (.fld (.tok 0) 1) (.lit (.i 1)))) 0), (.tok 2)])])] (.leaf [(.lit (.i 0)), (.set (.set (.tok 0) 1 (.add (.fld (.tok 0) 1) (.lit (.i 1)))) 0 (.call 2 0 [(.fld (.set (.tok 0) 1 (.add (.fld (.tok 0) 1) (.lit (.i 1)))) 0), (.fld (.call 1 0 [(.fld (.set (.tok 0) 1 (.add (.fld (.tok 0) 1) (.lit (.i 1)))) 0), (.tok 1)]) 1), (.call 1 0 [(.fld (.set (.tok 0) 1 (.add (.fld (.tok 0) 1) (.lit (.i 1)))) 0), (.tok 2)])]))])) (.br (.lt (.fld (.call 1 0 [(.fld (.set (.tok 0) 1 (.add (.fld (.tok 0) 1) (.lit (.i 1)))) 0), (.tok 1)]) 1) (.fld (.call 1 0 [(.fld (.set (.tok 0) 1 (.add (.fld (.tok 0) 1) (.lit (.i 1)))) 0), (.tok 2)]) 1)) (.need [(.ok 2 [(.fld (.set (.tok 0) 1 (.add (.fld (.tok 0) 1) (.lit (.i 1)))) 0), (.fld (.call 1 0 [(.fld (.set (.tok 0) 1 (.add (.fld (.tok 0) 1) (.lit (.i 1)))) 0), (.tok 2)]) 1), (.call 1 0 [(.fld (.set (.tok 0) 1 (.add (.fld (.tok 0) 1) (.lit (.i 1)))) 0), (.tok 1)])])] (.leaf [(.lit (.i 0)), (.set (.set (.tok 0) 1 (.add (.fld (.tok 0) 1) (.lit (.i 1)))) 0 (.call 2 0 [(.fld (.set (.tok 0) 1 (.add (.fld (.tok 0) 1) (.lit (.i 1)))) 0), (.fld (.call 1 0 [(.fld (.set (.tok 0) 1 (.add (.fld (.tok 0) 1) (.lit (.i 1)))) 0), (.tok 2)]) 1), (.call 1 0 [(.fld (.set (.tok 0) 1 (.add (.fld (.tok 0) 1) (.lit (.i 1)))) 0), (.tok 1)])]))])) (.leaf [(.lit (.i 0)), (.set (.tok 0) 1 (.add (.fld (.tok 0) 1) (.lit (.i 1))))]))) (.br (.eq (.fld (.call 1 0 [(.fld (.set (.tok 0) 1 (.add (.fld (.tok 0) 1) (.lit (.i 1)))) 0), (.tok 2)]) 0) (.lit (.i 0))) (.br (.eq (.fld (.call 1 0 [(.fld (.set (.tok 0) 1 (.add (.fld (.tok 0) 1) (.lit (.i 1)))) 0), (.tok 2)]) 0) (.lit (.i 0))) (.need [(.ok 3 [(.fld (.set (.tok 0) 1 (.add (.fld (.tok 0) 1) (.lit (.i 1)))) 0), (.fld (.call 1 0 [(.fld (.set (.tok 0) 1 (.add (.fld (.tok 0) 1) (.lit (.i 1)))) 0), (.tok 2)]) 1), (.call 1 0 [(.fld (.set (.tok 0) 1 (.add (.fld (.tok 0) 1) (.lit (.i 1)))) 0), (.tok 1)])])] (.br (.call 3 0 [(.fld (.set (.tok 0) 1 (.add (.fld (.tok 0) 1) (.lit (.i 1)))) 0), (.fld (.call 1 0 [(.fld (.set (.tok 0) 1 (.add (.fld (.tok 0) 1) (.lit (.i 1)))) 0), (.tok 2)]) 1), (.call 1 0 [(.fld (.set (.tok 0) 1 (.add (.fld (.tok 0) 1) (.lit (.i 1)))) 0), (.tok 1)])]) (.leaf [(.lit (.i 9)), (.set (.tok 0) 1 (.add (.fld (.tok 0) 1) (.lit (.i 1))))]) (.need [(.ok 2 [(.fld (.set (.tok 0) 1 (.add (.fld (.tok 0) 1) (.lit (.i 1)))) 0), (.fld (.call 1 0 [(.fld (.set (.tok 0) 1 (.add (.fld (.tok 0) 1) (.lit (.i 1)))) 0), (.tok 2)]) 1), (.call 1 0 [(.fld (.set (.tok 0) 1 (.add (.fld (.tok 0) 1) (.lit (.i 1)))) 0), (.tok 1)])])] (.leaf [(.lit (.i 0)), (.set (.set (.tok 0) 1 (.add (.fld (.tok 0) 1) (.lit (.i 1)))) 0 (.call 2 0 [(.fld (.set (.tok 0) 1 (.add (.fld (.tok 0) 1) (.lit (.i 1)))) 0), (.fld (.call 1 0 [(.fld (.set (.tok 0) 1 (.add (.fld (.tok 0) 1) (.lit (.i 1)))) 0), (.tok 2)]) 1), (.call 1 0 [(.fld (.set (.tok 0) 1 (.add (.fld (.tok 0) 1) (.lit (.i 1)))) 0), (.tok 1)])]))])))) (.br (.or (.or (.or (.not (.eq (.fld (.call 1 0 [(.fld (.set (.tok 0) 1 (.add (.fld (.tok 0) 1) (.lit (.i 1)))) 0), (.tok 2)]) 0) (.fld (.call 1 0 [(.fld (.set (.tok 0) 1 (.add (.fld (.tok 0) 1) (.lit (.i 1)))) 0), (.tok 1)]) 0))) (.not (.eq (.fld (.call 1 0 [(.fld (.set (.tok 0) 1 (.add (.fld (.tok 0) 1) (.lit (.i 1)))) 0), (.tok 2)]) 1) (.fld (.call 1 0 [(.fld (.set (.tok 0) 1 (.add (.fld (.tok 0) 1) (.lit (.i 1)))) 0), (.tok 1)]) 1)))) (.not (.eq (.fld (.call 1 0 [(.fld (.set (.tok 0) 1 (.add (.fld (.tok 0) 1) (.lit (.i 1)))) 0), (.tok 2)]) 2) (.fld (.call 1 0 [(.fld (.set (.tok 0) 1 (.add (.fld (.tok 0) 1) (.lit (.i 1)))) 0), (.tok 1)]) 2)))) (.not (.eq (.len (.fld (.call 1 0 [(.fld (.set (.tok 0) 1 (.add (.fld (.tok 0) 1) (.lit (.i 1)))) 0), (.tok 2)]) 3)) (.len (.fld (.call 1 0 [(.fld (.set (.tok 0) 1 (.add (.fld (.tok 0) 1) (.lit (.i 1)))) 0), (.tok 1)]) 3))))) (.leaf [(.lit (.i 4)), (.set (.tok 0) 1 (.add (.fld (.tok 0) 1) (.lit (.i 1))))]) (.loop 22 3 [(.lit (.i 0)), (.lit (.i 0)), (.set (.tok 0) 1 (.add (.fld (.tok 0) 1) (.lit (.i 1))))] (.br (.lt (.tok 4) (.len (.fld (.call 1 0 [(.fld (.set (.tok 0) 1 (.add (.fld (.tok 0) 1) (.lit (.i 1)))) 0), (.tok 2)]) 3))) (.need [(.ok 0 [(.tok 5), (.get (.fld (.call 1 0 [(.fld (.set (.tok 0) 1 (.add (.fld (.tok 0) 1) (.lit (.i 1)))) 0), (.tok 2)]) 3) (.tok 4)), (.get (.fld (.call 1 0 [(.fld (.set (.tok 0) 1 (.add (.fld (.tok 0) 1) (.lit (.i 1)))) 0), (.tok 1)]) 3) (.tok 4))]), (.le (.lit (.i 0)) (.tok 4)), (.lt (.tok 4) (.len (.fld (.call 1 0 [(.fld (.set (.tok 0) 1 (.add (.fld (.tok 0) 1) (.lit (.i 1)))) 0), (.tok 1)]) 3))), (.le (.lit (.i 0)) (.tok 4)), (.lt (.tok 4) (.len (.fld (.call 1 0 [(.fld (.set (.tok 0) 1 (.add (.fld (.tok 0) 1) (.lit (.i 1)))) 0), (.tok 2)]) 3)))] (.br (.not (.eq (.call 0 0 [(.tok 5), (.get (.fld (.call 1 0 [(.fld (.set (.tok 0) 1 (.add (.fld (.tok 0) 1) (.lit (.i 1)))) 0), (.tok 2)]) 3) (.tok 4)), (.get (.fld (.call 1 0 [(.fld (.set (.tok 0) 1 (.add (.fld (.tok 0) 1) (.lit (.i 1)))) 0), (.tok 1)]) 3) (.tok 4))]) (.lit (.i 0)))) (.leaf [(.call 0 0 [(.tok 5), (.get (.fld (.call 1 0 [(.fld (.set (.tok 0) 1 (.add (.fld (.tok 0) 1) (.lit (.i 1)))) 0), (.tok 2)]) 3) (.tok 4)), (.get (.fld (.call 1 0 [(.fld (.set (.tok 0) 1 (.add (.fld (.tok 0) 1) (.lit (.i 1)))) 0), (.tok 1)]) 3) (.tok 4))]), (.call 0 1 [(.tok 5), (.get (.fld (.call 1 0 [(.fld (.set (.tok 0) 1 (.add (.fld (.tok 0) 1) (.lit (.i 1)))) 0), (.tok 2)]) 3) (.tok 4)), (.get (.fld (.call 1 0 [(.fld (.set (.tok 0) 1 (.add (.fld (.tok 0) 1) (.lit (.i 1)))) 0), (.tok 1)]) 3) (.tok 4))])]) (.need [(.rng .i64 (.add (.tok 4) (.lit (.i 1))))] (.back 22 [(.tok 3), (.add (.tok 4) (.lit (.i 1))), (.call 0 1 [(.tok 5), (.get (.fld (.call 1 0 [(.fld (.set (.tok 0) 1 (.add (.fld (.tok 0) 1) (.lit (.i 1)))) 0), (.tok 2)]) 3) (.tok 4)), (.get (.fld (.call 1 0 [(.fld (.set (.tok 0) 1 (.add (.fld (.tok 0) 1) (.lit (.i 1)))) 0), (.tok 1)]) 3) (.tok 4))])])))) (.leaf [(.lit (.i 0)), (.tok 5)]))))) (.br (.eq (.fld (.call 1 0 [(.fld (.set (.tok 0) 1 (.add (.fld (.tok 0) 1) (.lit (.i 1)))) 0), (.tok 1)]) 0) (.lit (.i 0))) (.need [(.ok 3 [(.fld (.set (.tok 0) 1 (.add (.fld (.tok 0) 1) (.lit (.i 1)))) 0), (.fld (.call 1 0 [(.fld (.set (.tok 0) 1 (.add (.fld (.tok 0) 1) (.lit (.i 1)))) 0), (.tok 1)]) 1), (.call 1 0 [(.fld (.set (.tok 0) 1 (.add (.fld (.tok 0) 1) (.lit (.i 1)))) 0), (.tok 2)])])] (.br (.call 3 0 [(.fld (.set (.tok 0) 1 (.add (.fld (.tok 0) 1) (.lit (.i 1)))) 0), (.fld (.call 1 0 [(.fld (.set (.tok 0) 1 (.add (.fld (.tok 0) 1) (.lit (.i 1)))) 0), (.tok 1)]) 1), (.call 1 0 [(.fld (.set (.tok 0) 1 (.add (.fld (.tok 0) 1) (.lit (.i 1)))) 0), (.tok 2)])]) (.leaf [(.lit (.i 9)), (.set (.tok 0) 1 (.add (.fld (.tok 0) 1) (.lit (.i 1))))]) (.need [(.ok 2 [(.fld (.set (.tok 0) 1 (.add (.fld (.tok 0) 1) (.lit (.i 1)))) 0), (.fld (.call 1 0 [(.fld (.set (.tok 0) 1 (.add (.fld (.tok 0) 1) (.lit (.i 1)))) 0), (.tok 1)]) 1), (.call 1 0 [(.fld (.set (.tok 0) 1 (.add (.fld (.tok 0) 1) (.lit (.i 1)))) 0), (.tok 2)])])] (.leaf [(.lit (.i 0)), (.set (.set (.tok 0) 1 (.add (.fld (.tok 0) 1) (.lit (.i 1)))) 0 (.call 2 0 [(.fld (.set (.tok 0) 1 (.add (.fld (.tok 0) 1) (.lit (.i 1)))) 0), (.fld (.call 1 0 [(.fld (.set (.tok 0) 1 (.add (.fld (.tok 0) 1) (.lit (.i 1)))) 0), (.tok 1)]) 1), (.call 1 0 [(.fld (.set (.tok 0) 1 (.add (.fld (.tok 0) 1) (.lit (.i 1)))) 0), (.tok 2)])]))])))) (.br (.or (.or (.or (.not (.eq (.fld (.call 1 0 [(.fld (.set (.tok 0) 1 (.add (.fld (.tok 0) 1) (.lit (.i 1)))) 0), (.tok 1)]) 0) (.fld (.call 1 0 [(.fld (.set (.tok 0) 1 (.add (.fld (.tok 0) 1) (.lit (.i 1)))) 0), (.tok 2)]) 0))) (.not (.eq (.fld (.call 1 0 [(.fld (.set (.tok 0) 1 (.add (.fld (.tok 0) 1) (.lit (.i 1)))) 0), (.tok 1)]) 1) (.fld (.call 1 0 [(.fld (.set (.tok 0) 1 (.add (.fld (.tok 0) 1) (.lit (.i 1)))) 0), (.tok 2)]) 1)))) (.not (.eq (.fld (.call 1 0 [(.fld (.set (.tok 0) 1 (.add (.fld (.tok 0) 1) (.lit (.i 1)))) 0), (.tok 1)]) 2) (.fld (.call 1 0 [(.fld (.set (.tok 0) 1 (.add (.fld (.tok 0) 1) (.lit (.i 1)))) 0), (.tok 2)]) 2)))) (.not (.eq (.len (.fld (.call 1 0 [(.fld (.set (.tok 0) 1 (.add (.fld (.tok 0) 1) (.lit (.i 1)))) 0), (.tok 1)]) 3)) (.len (.fld (.call 1 0 [(.fld (.set (.tok 0) 1 (.add (.fld (.tok 0) 1) (.lit (.i 1)))) 0), (.tok 2)]) 3))))) (.leaf [(.lit (.i 4)), (.set (.tok 0) 1 (.add (.fld (.tok 0) 1) (.lit (.i 1))))]) (.loop 22 3 [(.lit (.i 0)), (.lit (.i 0)), (.set (.tok 0) 1 (.add (.fld (.tok 0) 1) (.lit (.i 1))))] (.br (.lt (.tok 4) (.len (.fld (.call 1 0 [(.fld (.set (.tok 0) 1 (.add (.fld (.tok 0) 1) (.lit (.i 1)))) 0), (.tok 1)]) 3))) (.need [(.ok 0 [(.tok 5), (.get (.fld (.call 1 0 [(.fld (.set (.tok 0) 1 (.add (.fld (.tok 0) 1) (.lit (.i 1)))) 0), (.tok 1)]) 3) (.tok 4)), (.get (.fld (.call 1 0 [(.fld (.set (.tok 0) 1 (.add (.fld (.tok 0) 1) (.lit (.i 1)))) 0), (.tok 2)]) 3) (.tok 4))]), (.le (.lit (.i 0)) (.tok 4)), (.lt (.tok 4) (.len (.fld (.call 1 0 [(.fld (.set (.tok 0) 1 (.add (.fld (.tok 0) 1) (.lit (.i 1)))) 0), (.tok 2)]) 3))), (.le (.lit (.i 0)) (.tok 4)), (.lt (.tok 4) (.len (.fld (.call 1 0 [(.fld (.set (.tok 0) 1 (.add (.fld (.tok 0) 1) (.lit (.i 1)))) 0), (.tok 1)]) 3)))] (.br (.not (.eq (.call 0 0 [(.tok 5), (.get (.fld (.call 1 0 [(.fld (.set (.tok 0) 1 (.add (.fld (.tok 0) 1) (.lit (.i 1)))) 0), (.tok 1)]) 3) (.tok 4)), (.get (.fld (.call 1 0 [(.fld (.set (.tok 0) 1 (.add (.fld (.tok 0) 1) (.lit (.i 1)))) 0), (.tok 2)]) 3) (.tok 4))]) (.lit (.i 0)))) (.leaf [(.call 0 0 [(.tok 5), (.get (.fld (.call 1 0 [(.fld (.set (.tok 0) 1 (.add (.fld (.tok 0) 1) (.lit (.i 1)))) 0), (.tok 1)]) 3) (.tok 4)), (.get (.fld (.call 1 0 [(.fld (.set (.tok 0) 1 (.add (.fld (.tok 0) 1) (.lit (.i 1)))) 0), (.tok 2)]) 3) (.tok 4))]), (.call 0 1 [(.tok 5), (.get (.fld (.call 1 0 [(.fld (.set (.tok 0) 1 (.add (.fld (.tok 0) 1) (.lit (.i 1)))) 0), (.tok 1)]) 3) (.tok 4)), (.get (.fld (.call 1 0 [(.fld (.set (.tok 0) 1 (.add (.fld (.tok 0) 1) (.lit (.i 1)))) 0), (.tok 2)]) 3) (.tok 4))])]) (.need [(.rng .i64 (.add (.tok 4) (.lit (.i 1))))] (.back 22 [(.tok 3), (.add (.tok 4) (.lit (.i 1))), (.call 0 1 [(.tok 5), (.get (.fld (.call 1 0 [(.fld (.set (.tok 0) 1 (.add (.fld (.tok 0) 1) (.lit (.i 1)))) 0), (.tok 1)]) 3) (.tok 4)), (.get (.fld (.call 1 0 [(.fld (.set (.tok 0) 1 (.add (.fld (.tok 0) 1) (.lit (.i 1)))) 0), (.tok 2)]) 3) (.tok 4))])])))) (.leaf [(.lit (.i 0)), (.tok 5)])))))))))))
theorem qae (g0 g1 g2 g3 : GfZ) : CdZ [(z4, g0), (zu, g1), (jx, g2), (jh, g3)] qbs z4 Try.f71 q23 := fun cd h => by injection h with h; subst h; kernel_rfl
theorem qbg {g0 g1 g2 g3 g : GfZ} (h0 : FOk z4 g0) (h1 : FOk zu g1) (h2 : FOk jx g2) (h3 : FOk jh g3) (h : HgZ q23 z4 [(z4, g0), (zu, g1), (jx, g2), (jh, g3)] g) : FOk z4 g := zq (qae g0 g1 g2 g3) (.cons h0 (.cons h1 (.cons h2 (.cons h3 .nil)))) rfl rfl q4j (by decide) h
def ja : Ct := ⟨40, [.val (.row 105), .val (.st 41), .val (.st 41)], [(.row 105, false), (.int .i64, false), (.int .i64, false)], [], none, []⟩
theorem qd6 : EnZ ja := fun _ _ => by kernel_rfl
def qge : Ann := ⟨[0, 1, 2, 4, 5, 6, 7, 8, 9, 10, 19], []⟩
def q3m : Tree := (.need [(.ok 0 [(.set (.lit (.a [(.r []), (.i 0)])) 0 (.tok 0)), (.tok 1), (.tok 2)])] (.br (.not (.eq (.call 0 0 [(.set (.lit (.a [(.r []), (.i 0)])) 0 (.tok 0)), (.tok 1), (.tok 2)]) (.lit (.i 0)))) (.leaf [(.lit (.r [])), (.fld (.call 0 1 [(.set (.lit (.a [(.r []), (.i 0)])) 0 (.tok 0)), (.tok 1), (.tok 2)]) 1), (.call 0 0 [(.set (.lit (.a [(.r []), (.i 0)])) 0 (.tok 0)), (.tok 1), (.tok 2)])]) (.leaf [(.fld (.call 0 1 [(.set (.lit (.a [(.r []), (.i 0)])) 0 (.tok 0)), (.tok 1), (.tok 2)]) 0), (.fld (.call 0 1 [(.set (.lit (.a [(.r []), (.i 0)])) 0 (.tok 0)), (.tok 1), (.tok 2)]) 1), (.lit (.i 0))])))
theorem qed (g0 : GfZ) : CdZ [(z4, g0)] qge ja Try.f40 q3m := fun cd h => by injection h with h; subst h; kernel_rfl
theorem qh8 {g0 g : GfZ} (h0 : FOk z4 g0) (h : HgZ q3m ja [(z4, g0)] g) : FOk ja g := zq (qed g0) (.cons h0 .nil) rfl rfl qd6 (by decide) h
def q00 : Ct := ⟨16, [.val (.row 105), .val (.st 41), .val (.st 41)], [(.row 105, false), (.int .i64, false)], [], none, []⟩
theorem qhd : EnZ q00 := fun _ _ => by kernel_rfl
def qlm : Ann := ⟨[0, 1, 2, 4, 5, 6, 7, 8, 10, 23], []⟩
def q1m : Tree := (.need [(.ok 0 [(.tok 0)]), (.imp (.not (.not (.call 0 0 [(.tok 0)]))) (.ok 1 [(.tok 1)])), (.imp (.not (.or (.not (.call 0 0 [(.tok 0)])) (.not (.call 1 0 [(.tok 1)])))) (.ok 1 [(.tok 2)]))] (.br (.or (.or (.not (.call 0 0 [(.tok 0)])) (.not (.call 1 0 [(.tok 1)]))) (.not (.call 1 0 [(.tok 2)]))) (.leaf [(.lit (.r [])), (.lit (.i 1))]) (.need [(.ok 2 [(.tok 0), (.tok 1), (.tok 2)])] (.leaf [(.call 2 0 [(.tok 0), (.tok 1), (.tok 2)]), (.call 2 2 [(.tok 0), (.tok 1), (.tok 2)])]))))
theorem qif (g0 g1 g2 : GfZ) : CdZ [(yi, g0), (qm, g1), (ja, g2)] qlm q00 Try.f16 q1m := fun cd h => by injection h with h; subst h; kernel_rfl
theorem qmj {g0 g1 g2 g : GfZ} (h0 : FOk yi g0) (h1 : FOk qm g1) (h2 : FOk ja g2) (h : HgZ q1m q00 [(yi, g0), (qm, g1), (ja, g2)] g) : FOk q00 g := zq (qif g0 g1 g2) (.cons h0 (.cons h1 (.cons h2 .nil))) rfl rfl qhd (by decide) h
def q16 : Ct := ⟨17, [.val (.int .i64)], [(.st 26, true), (.int .i64, false)], [], none, []⟩
theorem qmh : EnZ q16 := fun _ _ => by kernel_rfl
def qrt : Ann := ⟨[0, 2, 3, 9], []⟩
def q6r : Tree := (.br (.or (.lt (.tok 0) (.lit (.i 1))) (.lt (.lit (.i 1048576)) (.tok 0))) (.leaf [(.lit (.a [(.r []), (.r []), (.r []), (.r []), (.i 0), (.i 0)])), (.lit (.i 1))]) (.leaf [(.set (.lit (.a [(.r []), (.r []), (.r []), (.r []), (.i 0), (.i 0)])) 5 (.tok 0)), (.lit (.i 0))]))
theorem qrj : CdZ [] qrt q16 Try.f17 q6r := fun cd h => by injection h with h; subst h; kernel_rfl
theorem qsc {g : GfZ} (h : HgZ q6r q16 [] g) : FOk q16 g := zq (qrj) .nil rfl rfl qmh (by decide) h
def qis : Ann := ⟨[0, 1, 2, 4], []⟩
def q4i : Tree := (.leaf [(.and (.le (.lit (.i 0)) (.tok 1)) (.lt (.tok 1) (.len (.fld (.tok 0) 0))))])
theorem qgh : CdZ [] qis zt Try.f59 q4i := fun cd h => by injection h with h; subst h; kernel_rfl
theorem qi3 {g : GfZ} (h : HgZ q4i zt [] g) : FOk zt g := zq (qgh) .nil rfl rfl qev (by decide) h
def qs3 : Ann := ⟨[0, 1, 2, 4, 8], []⟩
def q7n : Tree := (.need [(.ok 0 [(.tok 0), (.tok 1)])] (.br (.not (.call 0 0 [(.tok 0), (.tok 1)])) (.leaf [(.lit (.i (-1)))]) (.need [(.le (.lit (.i 0)) (.tok 1)), (.lt (.tok 1) (.len (.fld (.tok 0) 0)))] (.leaf [(.fld (.get (.fld (.tok 0) 0) (.tok 1)) 0)]))))
theorem qq4 (g0 : GfZ) : CdZ [(zt, g0)] qs3 q1a Try.f60 q7n := fun cd h => by injection h with h; subst h; kernel_rfl
theorem qsi {g0 g : GfZ} (h0 : FOk zt g0) (h : HgZ q7n q1a [(zt, g0)] g) : FOk q1a g := zq (qq4 g0) (.cons h0 .nil) rfl rfl qmr (by decide) h
def ql9 : Ann := ⟨[0, 1, 2, 4, 13], []⟩
def q50 : Tree := (.br (.or (.lt (.tok 1) (.lit (.i 0))) (.le (.len (.fld (.tok 0) 1)) (.tok 1))) (.leaf [(.lit (.i (-1)))]) (.need [(.le (.lit (.i 0)) (.tok 1)), (.lt (.tok 1) (.len (.fld (.tok 0) 1)))] (.leaf [(.fld (.get (.fld (.tok 0) 1) (.tok 1)) 1)])))
theorem qj5 : CdZ [] ql9 jv Try.f61 q50 := fun cd h => by injection h with h; subst h; kernel_rfl
theorem qmf {g : GfZ} (h : HgZ q50 jv [] g) : FOk jv g := zq (qj5) .nil rfl rfl qfw (by decide) h
def qd2 : Ann := ⟨[0, 1, 2, 3, 4, 6, 7, 20, 22, 29, 36], []⟩
def q2i : Tree := (.br (.eq (.fld (.tok 1) 0) (.lit (.i 0))) (.need [(.ok 0 [(.tok 0), (.fld (.tok 1) 1)]), (.imp (.call 0 0 [(.tok 0), (.fld (.tok 1) 1)]) (.ok 1 [(.tok 0), (.fld (.tok 1) 1)]))] (.leaf [(.and (.call 0 0 [(.tok 0), (.fld (.tok 1) 1)]) (.not (.eq (.call 1 0 [(.tok 0), (.fld (.tok 1) 1)]) (.lit (.i 4)))))])) (.br (.eq (.fld (.tok 1) 0) (.lit (.i 1))) (.leaf [(.lit (.b .true))]) (.br (.eq (.fld (.tok 1) 0) (.lit (.i 2))) (.need [(.ok 2 [(.tok 0), (.fld (.tok 1) 1)])] (.leaf [(.eq (.call 2 0 [(.tok 0), (.fld (.tok 1) 1)]) (.lit (.i 0)))])) (.br (.eq (.fld (.tok 1) 0) (.lit (.i 3))) (.need [(.ok 1 [(.tok 0), (.fld (.tok 1) 1)])] (.leaf [(.eq (.call 1 0 [(.tok 0), (.fld (.tok 1) 1)]) (.lit (.i 4)))])) (.br (.eq (.fld (.tok 1) 0) (.lit (.i 5))) (.need [(.ok 1 [(.tok 0), (.fld (.tok 1) 1)])] (.leaf [(.eq (.call 1 0 [(.tok 0), (.fld (.tok 1) 1)]) (.lit (.i 5)))])) (.leaf [(.lit (.b .false))]))))))
theorem qaw (g0 g1 g2 : GfZ) : CdZ [(zt, g0), (q1a, g1), (jv, g2)] qd2 yq Try.f32 q2i := fun cd h => by injection h with h; subst h; kernel_rfl
theorem qdg {g0 g1 g2 g : GfZ} (h0 : FOk zt g0) (h1 : FOk q1a g1) (h2 : FOk jv g2) (h : HgZ q2i yq [(zt, g0), (q1a, g1), (jv, g2)] g) : FOk yq g := zq (qaw g0 g1 g2) (.cons h0 (.cons h1 (.cons h2 .nil))) rfl rfl qab (by decide) h
def yd : Ct := ⟨41, [.val (.st 26), .val (.row 114)], [(.bool, false)], [], none, []⟩
theorem qag : EnZ yd := fun _ _ => by kernel_rfl
def qd3 : Ann := ⟨[0, 1, 2, 4, 5, 9, 53], [(2, ⟨[(4, .bool, false), (5, .int .i64, false)], [], [6, 7, 8, 9, 12, 13, 14, 15, 16, 17, 18, 19, 20, 21, 22, 23, 24, 25, 26, 27, 28, 29, 30, 31, 32, 33, 34, 35, 36, 37, 38, 39, 40, 41, 42, 43, 44, 45, 46, 47, 48, 49, 50, 51, 52, 53, 10, 11], []⟩)]⟩
def q2j : Tree := (.loop 2 2 [(.lit (.b .false)), (.lit (.i 0))] (.br (.lt (.tok 3) (.len (.tok 1))) (.need [(.imp (.not (.or (.or (.lt (.fld (.get (.tok 1) (.tok 3)) 0) (.lit (.i 0))) (.lt (.lit (.i 1099511627776)) (.fld (.get (.tok 1) (.tok 3)) 0))) (.and (.lt (.lit (.i 0)) (.tok 3)) (.le (.fld (.get (.tok 1) (.tok 3)) 0) (.fld (.get (.tok 1) (.sub (.tok 3) (.lit (.i 1)))) 0))))) (.ok 0 [(.tok 0), (.fld (.get (.tok 1) (.tok 3)) 1)])), (.imp (.not (.or (.or (.lt (.fld (.get (.tok 1) (.tok 3)) 0) (.lit (.i 0))) (.lt (.lit (.i 1099511627776)) (.fld (.get (.tok 1) (.tok 3)) 0))) (.and (.lt (.lit (.i 0)) (.tok 3)) (.le (.fld (.get (.tok 1) (.tok 3)) 0) (.fld (.get (.tok 1) (.sub (.tok 3) (.lit (.i 1)))) 0))))) (.le (.lit (.i 0)) (.tok 3))), (.imp (.not (.or (.or (.lt (.fld (.get (.tok 1) (.tok 3)) 0) (.lit (.i 0))) (.lt (.lit (.i 1099511627776)) (.fld (.get (.tok 1) (.tok 3)) 0))) (.and (.lt (.lit (.i 0)) (.tok 3)) (.le (.fld (.get (.tok 1) (.tok 3)) 0) (.fld (.get (.tok 1) (.sub (.tok 3) (.lit (.i 1)))) 0))))) (.lt (.tok 3) (.len (.tok 1)))), (.imp (.and (.not (.or (.lt (.fld (.get (.tok 1) (.tok 3)) 0) (.lit (.i 0))) (.lt (.lit (.i 1099511627776)) (.fld (.get (.tok 1) (.tok 3)) 0)))) (.lt (.lit (.i 0)) (.tok 3))) (.le (.lit (.i 0)) (.tok 3))), (.imp (.and (.not (.or (.lt (.fld (.get (.tok 1) (.tok 3)) 0) (.lit (.i 0))) (.lt (.lit (.i 1099511627776)) (.fld (.get (.tok 1) (.tok 3)) 0)))) (.lt (.lit (.i 0)) (.tok 3))) (.lt (.tok 3) (.len (.tok 1)))), (.imp (.and (.not (.or (.lt (.fld (.get (.tok 1) (.tok 3)) 0) (.lit (.i 0))) (.lt (.lit (.i 1099511627776)) (.fld (.get (.tok 1) (.tok 3)) 0)))) (.lt (.lit (.i 0)) (.tok 3))) (.le (.lit (.i 0)) (.sub (.tok 3) (.lit (.i 1))))), (.imp (.and (.not (.or (.lt (.fld (.get (.tok 1) (.tok 3)) 0) (.lit (.i 0))) (.lt (.lit (.i 1099511627776)) (.fld (.get (.tok 1) (.tok 3)) 0)))) (.lt (.lit (.i 0)) (.tok 3))) (.lt (.sub (.tok 3) (.lit (.i 1))) (.len (.tok 1)))), (.imp (.and (.not (.or (.lt (.fld (.get (.tok 1) (.tok 3)) 0) (.lit (.i 0))) (.lt (.lit (.i 1099511627776)) (.fld (.get (.tok 1) (.tok 3)) 0)))) (.lt (.lit (.i 0)) (.tok 3))) (.rng .i64 (.sub (.tok 3) (.lit (.i 1))))), (.imp (.and (.not (.or (.lt (.fld (.get (.tok 1) (.tok 3)) 0) (.lit (.i 0))) (.lt (.lit (.i 1099511627776)) (.fld (.get (.tok 1) (.tok 3)) 0)))) (.lt (.lit (.i 0)) (.tok 3))) (.le (.lit (.i 0)) (.tok 3))), (.imp (.and (.not (.or (.lt (.fld (.get (.tok 1) (.tok 3)) 0) (.lit (.i 0))) (.lt (.lit (.i 1099511627776)) (.fld (.get (.tok 1) (.tok 3)) 0)))) (.lt (.lit (.i 0)) (.tok 3))) (.lt (.tok 3) (.len (.tok 1)))), (.imp (.and (.not (.or (.lt (.fld (.get (.tok 1) (.tok 3)) 0) (.lit (.i 0))) (.lt (.lit (.i 1099511627776)) (.fld (.get (.tok 1) (.tok 3)) 0)))) (.lt (.lit (.i 0)) (.tok 3))) (.le (.lit (.i 0)) (.sub (.tok 3) (.lit (.i 1))))), (.imp (.and (.not (.or (.lt (.fld (.get (.tok 1) (.tok 3)) 0) (.lit (.i 0))) (.lt (.lit (.i 1099511627776)) (.fld (.get (.tok 1) (.tok 3)) 0)))) (.lt (.lit (.i 0)) (.tok 3))) (.lt (.sub (.tok 3) (.lit (.i 1))) (.len (.tok 1)))), (.imp (.and (.not (.or (.lt (.fld (.get (.tok 1) (.tok 3)) 0) (.lit (.i 0))) (.lt (.lit (.i 1099511627776)) (.fld (.get (.tok 1) (.tok 3)) 0)))) (.lt (.lit (.i 0)) (.tok 3))) (.rng .i64 (.sub (.tok 3) (.lit (.i 1))))), (.imp (.and (.not (.or (.lt (.fld (.get (.tok 1) (.tok 3)) 0) (.lit (.i 0))) (.lt (.lit (.i 1099511627776)) (.fld (.get (.tok 1) (.tok 3)) 0)))) (.lt (.lit (.i 0)) (.tok 3))) (.rng .i64 (.sub (.tok 3) (.lit (.i 1))))), (.imp (.and (.not (.or (.lt (.fld (.get (.tok 1) (.tok 3)) 0) (.lit (.i 0))) (.lt (.lit (.i 1099511627776)) (.fld (.get (.tok 1) (.tok 3)) 0)))) (.lt (.lit (.i 0)) (.tok 3))) (.le (.lit (.i 0)) (.tok 3))), (.imp (.and (.not (.or (.lt (.fld (.get (.tok 1) (.tok 3)) 0) (.lit (.i 0))) (.lt (.lit (.i 1099511627776)) (.fld (.get (.tok 1) (.tok 3)) 0)))) (.lt (.lit (.i 0)) (.tok 3))) (.lt (.tok 3) (.len (.tok 1)))), (.imp (.and (.not (.or (.lt (.fld (.get (.tok 1) (.tok 3)) 0) (.lit (.i 0))) (.lt (.lit (.i 1099511627776)) (.fld (.get (.tok 1) (.tok 3)) 0)))) (.lt (.lit (.i 0)) (.tok 3))) (.le (.lit (.i 0)) (.tok 3))), (.imp (.and (.not (.or (.lt (.fld (.get (.tok 1) (.tok 3)) 0) (.lit (.i 0))) (.lt (.lit (.i 1099511627776)) (.fld (.get (.tok 1) (.tok 3)) 0)))) (.lt (.lit (.i 0)) (.tok 3))) (.lt (.tok 3) (.len (.tok 1)))), (.imp (.and (.not (.or (.lt (.fld (.get (.tok 1) (.tok 3)) 0) (.lit (.i 0))) (.lt (.lit (.i 1099511627776)) (.fld (.get (.tok 1) (.tok 3)) 0)))) (.lt (.lit (.i 0)) (.tok 3))) (.le (.lit (.i 0)) (.sub (.tok 3) (.lit (.i 1))))), (.imp (.and (.not (.or (.lt (.fld (.get (.tok 1) (.tok 3)) 0) (.lit (.i 0))) (.lt (.lit (.i 1099511627776)) (.fld (.get (.tok 1) (.tok 3)) 0)))) (.lt (.lit (.i 0)) (.tok 3))) (.lt (.sub (.tok 3) (.lit (.i 1))) (.len (.tok 1)))), (.imp (.and (.not (.or (.lt (.fld (.get (.tok 1) (.tok 3)) 0) (.lit (.i 0))) (.lt (.lit (.i 1099511627776)) (.fld (.get (.tok 1) (.tok 3)) 0)))) (.lt (.lit (.i 0)) (.tok 3))) (.rng .i64 (.sub (.tok 3) (.lit (.i 1))))), (.imp (.and (.not (.or (.lt (.fld (.get (.tok 1) (.tok 3)) 0) (.lit (.i 0))) (.lt (.lit (.i 1099511627776)) (.fld (.get (.tok 1) (.tok 3)) 0)))) (.lt (.lit (.i 0)) (.tok 3))) (.rng .i64 (.sub (.tok 3) (.lit (.i 1))))), (.imp (.and (.not (.or (.lt (.fld (.get (.tok 1) (.tok 3)) 0) (.lit (.i 0))) (.lt (.lit (.i 1099511627776)) (.fld (.get (.tok 1) (.tok 3)) 0)))) (.lt (.lit (.i 0)) (.tok 3))) (.rng .i64 (.sub (.tok 3) (.lit (.i 1))))), (.imp (.and (.not (.or (.lt (.fld (.get (.tok 1) (.tok 3)) 0) (.lit (.i 0))) (.lt (.lit (.i 1099511627776)) (.fld (.get (.tok 1) (.tok 3)) 0)))) (.lt (.lit (.i 0)) (.tok 3))) (.le (.lit (.i 0)) (.tok 3))), (.imp (.and (.not (.or (.lt (.fld (.get (.tok 1) (.tok 3)) 0) (.lit (.i 0))) (.lt (.lit (.i 1099511627776)) (.fld (.get (.tok 1) (.tok 3)) 0)))) (.lt (.lit (.i 0)) (.tok 3))) (.lt (.tok 3) (.len (.tok 1)))), (.imp (.and (.not (.or (.lt (.fld (.get (.tok 1) (.tok 3)) 0) (.lit (.i 0))) (.lt (.lit (.i 1099511627776)) (.fld (.get (.tok 1) (.tok 3)) 0)))) (.lt (.lit (.i 0)) (.tok 3))) (.rng .i64 (.sub (.tok 3) (.lit (.i 1))))), (.imp (.not (.lt (.fld (.get (.tok 1) (.tok 3)) 0) (.lit (.i 0)))) (.le (.lit (.i 0)) (.tok 3))), (.imp (.not (.lt (.fld (.get (.tok 1) (.tok 3)) 0) (.lit (.i 0)))) (.lt (.tok 3) (.len (.tok 1)))), (.le (.lit (.i 0)) (.tok 3)), (.lt (.tok 3) (.len (.tok 1)))] (.br (.or (.or (.or (.lt (.fld (.get (.tok 1) (.tok 3)) 0) (.lit (.i 0))) (.lt (.lit (.i 1099511627776)) (.fld (.get (.tok 1) (.tok 3)) 0))) (.and (.lt (.lit (.i 0)) (.tok 3)) (.le (.fld (.get (.tok 1) (.tok 3)) 0) (.fld (.get (.tok 1) (.sub (.tok 3) (.lit (.i 1)))) 0)))) (.not (.call 0 0 [(.tok 0), (.fld (.get (.tok 1) (.tok 3)) 1)]))) (.leaf [(.lit (.b .false))]) (.need [(.rng .i64 (.add (.tok 3) (.lit (.i 1))))] (.back 2 [(.tok 2), (.add (.tok 3) (.lit (.i 1)))])))) (.leaf [(.lit (.b .true))])))
theorem qbv (g0 : GfZ) : CdZ [(yq, g0)] qd3 yd Try.f41 q2j := fun cd h => by injection h with h; subst h; kernel_rfl
theorem qd9 {g0 g : GfZ} (h0 : FOk yq g0) (h : HgZ q2j yd [(yq, g0)] g) : FOk yd g := zq (qbv g0) (.cons h0 .nil) rfl rfl qag (by decide) h
def jy : Ct := ⟨7, [.val (.st 26)], [(.st 26, true)], [], none, []⟩
theorem qfo : EnZ jy := fun _ _ => by kernel_rfl
def qlw : Ann := ⟨[0, 1, 2, 3], []⟩
def q4p : Tree := (.need [(.le (.len (.fld (.tok 0) 0)) (.lit (.i 8796093021952)))] (.need [(.le (.len (.fld (.tok 0) 1)) (.lit (.i 5864062014634)))] (.need [(.le (.len (.fld (.tok 0) 2)) (.lit (.i 5864062014634)))] (.need [(.le (.len (.fld (.tok 0) 3)) (.lit (.i 3518437208780)))] (.leaf [(.set (.set (.set (.set (.tok 0) 0 (.app (.lit (.r [])) (.fld (.tok 0) 0))) 1 (.app (.lit (.r [])) (.fld (.tok 0) 1))) 2 (.app (.lit (.r [])) (.fld (.tok 0) 2))) 3 (.app (.lit (.r [])) (.fld (.tok 0) 3)))])))))
theorem qi2 : CdZ [] qlw jy Try.f7 q4p := fun cd h => by injection h with h; subst h; kernel_rfl
theorem qmk {g : GfZ} (h : HgZ q4p jy [] g) : FOk jy g := zq (qi2) .nil rfl rfl qfo (by decide) h
def q38 : Ct := ⟨97, [.val (.st 26), .val (.str), .val (.int .i64)], [(.int .i64, false)], [], none, []⟩
theorem qkc : EnZ q38 := fun _ _ => by kernel_rfl
def qp2 : Ann := ⟨[0, 1, 2, 3, 6, 7, 12, 32], [(2, ⟨[(6, .int .i64, false), (7, .int .i64, false)], [], [8, 9, 10, 11, 12, 15, 16, 17, 18, 19, 20, 21, 22, 23, 24, 25, 26, 27, 28, 29, 30, 31, 32, 33, 13, 14], []⟩)]⟩
def q5z : Tree := (.loop 2 3 [(.lit (.i 0)), (.lit (.i 0))] (.br (.lt (.tok 4) (.len (.fld (.tok 0) 1))) (.need [(.le (.lit (.i 0)) (.tok 4)), (.lt (.tok 4) (.len (.fld (.tok 0) 1))), (.imp (.eq (.fld (.get (.fld (.tok 0) 1) (.tok 4)) 0) (.tok 1)) (.le (.lit (.i 0)) (.tok 4))), (.imp (.eq (.fld (.get (.fld (.tok 0) 1) (.tok 4)) 0) (.tok 1)) (.lt (.tok 4) (.len (.fld (.tok 0) 1))))] (.br (.and (.eq (.fld (.get (.fld (.tok 0) 1) (.tok 4)) 0) (.tok 1)) (.eq (.fld (.get (.fld (.tok 0) 1) (.tok 4)) 1) (.tok 2))) (.leaf [(.tok 4)]) (.need [(.rng .i64 (.add (.tok 4) (.lit (.i 1))))] (.back 2 [(.tok 3), (.add (.tok 4) (.lit (.i 1)))])))) (.leaf [(.lit (.i (-1)))])))
theorem qkw : CdZ [] qp2 q38 Try.f97 q5z := fun cd h => by injection h with h; subst h; kernel_rfl
theorem qoy {g : GfZ} (h : HgZ q5z q38 [] g) : FOk q38 g := zq (qkw) .nil rfl rfl qkc (by decide) h
def qx : Ct := ⟨72, [.ref (.st 26) true, .val (.str), .val (.int .i64)], [(.int .i64, false)], [], none, [1]⟩
theorem qe2 : EnZ qx := fun _ _ => by kernel_rfl
def q1r : Ct := ⟨73, [.val (.row 114), .val (.int .i64)], [(.int .i64, false)], [], none, []⟩
theorem qoq : EnZ q1r := fun _ _ => by kernel_rfl
def qy8 : Ann := ⟨[0, 1, 4, 5, 9, 18], [(2, ⟨[(4, .int .i64, false), (5, .int .i64, false)], [], [6, 7, 8, 9, 12, 13, 14, 15, 16, 17, 18, 19, 10, 11], []⟩)]⟩
def q8f : Tree := (.loop 2 2 [(.lit (.i 0)), (.lit (.i 0))] (.br (.lt (.tok 3) (.len (.tok 0))) (.need [(.le (.lit (.i 0)) (.tok 3)), (.lt (.tok 3) (.len (.tok 0)))] (.br (.eq (.fld (.get (.tok 0) (.tok 3)) 0) (.tok 1)) (.leaf [(.tok 3)]) (.need [(.rng .i64 (.add (.tok 3) (.lit (.i 1))))] (.back 2 [(.tok 2), (.add (.tok 3) (.lit (.i 1)))])))) (.leaf [(.lit (.i (-1)))])))
theorem qt0 : CdZ [] qy8 q1r Try.f73 q8f := fun cd h => by injection h with h; subst h; kernel_rfl
theorem qv8 {g : GfZ} (h : HgZ q8f q1r [] g) : FOk q1r g := zq (qt0) .nil rfl rfl qoq (by decide) h
def q0g : Ct := ⟨74, [.val (.st 28)], [(.st 28, false)], [], none, []⟩
theorem qht : EnZ q0g := fun _ _ => by kernel_rfl
def qnr : Ann := ⟨[0, 1, 2, 5], []⟩
def q65 : Tree := (.br (.eq (.fld (.tok 0) 0) (.lit (.i 5))) (.leaf [(.mk [(.lit (.i 0)), (.fld (.tok 0) 1)])]) (.leaf [(.tok 0)]))
theorem ql6 : CdZ [] qnr q0g Try.f74 q65 := fun cd h => by injection h with h; subst h; kernel_rfl
theorem qoo {g : GfZ} (h : HgZ q65 q0g [] g) : FOk q0g g := zq (ql6) .nil rfl rfl qht (by decide) h
def q0k : Ct := ⟨75, [.val (.row 114), .val (.int .i64), .val (.st 28)], [(.row 114, true)], [], none, []⟩
theorem qi9 : EnZ q0k := fun _ _ => by kernel_rfl
def qrc : Ann := ⟨[0, 1, 2, 5, 6, 7, 8, 9, 22], [(3, ⟨[(7, .row 114, false), (8, .int .i64, false)], [], [10, 11, 12, 13, 14, 15, 16, 17, 18, 19, 20, 21, 22, 25, 26, 27, 28, 29, 30, 31, 23, 24], []⟩)]⟩
def q64 : Tree := (.loop 3 3 [(.lit (.r [])), (.lit (.i 0))] (.need [(.imp (.lt (.tok 4) (.len (.tok 0))) (.le (.lit (.i 0)) (.tok 4))), (.imp (.lt (.tok 4) (.len (.tok 0))) (.lt (.tok 4) (.len (.tok 0))))] (.br (.and (.lt (.tok 4) (.len (.tok 0))) (.lt (.fld (.get (.tok 0) (.tok 4)) 0) (.tok 1))) (.need [(.le (.lit (.i 0)) (.tok 4)), (.lt (.tok 4) (.len (.tok 0))), (.le (.add (.len (.tok 3)) (.lit (.i 1))) (.lit (.i 5864062014634)))] (.need [(.rng .i64 (.add (.tok 4) (.lit (.i 1))))] (.back 3 [(.app (.tok 3) (.row [(.get (.tok 0) (.tok 4))])), (.add (.tok 4) (.lit (.i 1)))]))) (.need [(.le (.add (.len (.tok 3)) (.lit (.i 1))) (.lit (.i 5864062014634)))] (.need [(.le (.lit (.i 0)) (.len (.tok 3))), (.le (.len (.tok 3)) (.len (.tok 0))), (.le (.add (.len (.app (.tok 3) (.row [(.mk [(.tok 1), (.tok 2)])]))) (.len (.cut (.tok 0) (.len (.tok 3)) (.len (.tok 0))))) (.lit (.i 5864062014634)))] (.leaf [(.app (.app (.tok 3) (.row [(.mk [(.tok 1), (.tok 2)])])) (.cut (.tok 0) (.len (.tok 3)) (.len (.tok 0))))]))))))
theorem qlh : CdZ [] qrc q0k Try.f75 q64 := fun cd h => by injection h with h; subst h; kernel_rfl
theorem qo7 {g : GfZ} (h : HgZ q64 q0k [] g) : FOk q0k g := zq (qlh) .nil rfl rfl qi9 (by decide) h
def jf : Ct := ⟨42, [.ref (.st 26) true, .val (.st 41), .val (.row 114)], [(.st 28, false), (.row 114, false)], [], none, []⟩
theorem q9y : EnZ jf := fun _ _ => by kernel_rfl
def qru : Ann := ⟨[0, 1, 2, 4, 6, 7, 8, 9, 10, 11, 12, 13, 14, 16, 17, 23, 31, 38, 105, 128], [(17, ⟨[(2, .row 114, false), (11, .int .i64, false)], [0], [101, 102, 103, 104, 105, 108, 109, 110, 111, 12, 112, 113, 114, 115, 116, 13, 117, 118, 14, 119, 120, 121, 122, 123, 124, 125, 126, 127, 128, 129, 130, 131, 132, 133, 135, 136, 137, 138, 134, 139, 140, 141, 142, 143, 144, 145, 146, 147, 106, 107], []⟩)]⟩
def q0q : Tree := (.br (.eq (.fld (.tok 1) 0) (.lit (.i 1))) (.leaf [(.mk [(.lit (.i 1)), (.fld (.tok 1) 1)]), (.tok 2), (.tok 0)]) (.br (.eq (.fld (.tok 1) 0) (.lit (.i 2))) (.need [(.ok 0 [(.tok 0), (.fld (.tok 1) 2), (.lit (.i 0))])] (.leaf [(.mk [(.lit (.i 2)), (.call 0 0 [(.tok 0), (.fld (.tok 1) 2), (.lit (.i 0))])]), (.tok 2), (.call 0 1 [(.tok 0), (.fld (.tok 1) 2), (.lit (.i 0))])])) (.br (.eq (.fld (.tok 1) 0) (.lit (.i 0))) (.need [(.ok 1 [(.tok 2), (.fld (.tok 1) 1)])] (.br (.le (.lit (.i 0)) (.call 1 0 [(.tok 2), (.fld (.tok 1) 1)])) (.need [(.le (.lit (.i 0)) (.call 1 0 [(.tok 2), (.fld (.tok 1) 1)])), (.lt (.call 1 0 [(.tok 2), (.fld (.tok 1) 1)]) (.len (.tok 2))), (.ok 2 [(.fld (.get (.tok 2) (.call 1 0 [(.tok 2), (.fld (.tok 1) 1)])) 1)])] (.leaf [(.call 2 0 [(.fld (.get (.tok 2) (.call 1 0 [(.tok 2), (.fld (.tok 1) 1)])) 1)]), (.tok 2), (.tok 0)])) (.need [(.le (.add (.len (.fld (.tok 0) 0)) (.lit (.i 1))) (.lit (.i 8796093021952)))] (.need [(.ok 3 [(.tok 2), (.fld (.tok 1) 1), (.mk [(.lit (.i 0)), (.len (.fld (.tok 0) 0))])])] (.leaf [(.mk [(.lit (.i 0)), (.len (.fld (.tok 0) 0))]), (.call 3 0 [(.tok 2), (.fld (.tok 1) 1), (.mk [(.lit (.i 0)), (.len (.fld (.tok 0) 0))])]), (.set (.tok 0) 0 (.app (.fld (.tok 0) 0) (.row [(.mk [(.lit (.i 0)), (.len (.fld (.tok 0) 0))])])))]))))) (.need [(.le (.add (.len (.fld (.call 0 1 [(.tok 0), (.fld (.tok 1) 2), (.len (.fld (.tok 1) 3))]) 0)) (.lit (.i 1))) (.lit (.i 8796093021952))), (.ok 0 [(.tok 0), (.fld (.tok 1) 2), (.len (.fld (.tok 1) 3))]), (.eq (.fld (.call 0 1 [(.tok 0), (.fld (.tok 1) 2), (.len (.fld (.tok 1) 3))]) 0) (.fld (.tok 0) 0))] (.need [(.le (.lit (.i 0)) (.len (.fld (.tok 1) 3))), (.le (.len (.fld (.tok 1) 3)) (.lit (.i 16777216))), (.le (.add (.len (.fld (.set (.call 0 1 [(.tok 0), (.fld (.tok 1) 2), (.len (.fld (.tok 1) 3))]) 0 (.app (.fld (.call 0 1 [(.tok 0), (.fld (.tok 1) 2), (.len (.fld (.tok 1) 3))]) 0) (.row [(.mk [(.lit (.i 4)), (.call 0 0 [(.tok 0), (.fld (.tok 1) 2), (.len (.fld (.tok 1) 3))])])]))) 0)) (.len (.fld (.tok 1) 3))) (.lit (.i 8796093021952)))] (.loop 17 3 [(.tok 2), (.lit (.i 0)), (.set (.set (.call 0 1 [(.tok 0), (.fld (.tok 1) 2), (.len (.fld (.tok 1) 3))]) 0 (.app (.fld (.call 0 1 [(.tok 0), (.fld (.tok 1) 2), (.len (.fld (.tok 1) 3))]) 0) (.row [(.mk [(.lit (.i 4)), (.call 0 0 [(.tok 0), (.fld (.tok 1) 2), (.len (.fld (.tok 1) 3))])])]))) 0 (.app (.fld (.set (.call 0 1 [(.tok 0), (.fld (.tok 1) 2), (.len (.fld (.tok 1) 3))]) 0 (.app (.fld (.call 0 1 [(.tok 0), (.fld (.tok 1) 2), (.len (.fld (.tok 1) 3))]) 0) (.row [(.mk [(.lit (.i 4)), (.call 0 0 [(.tok 0), (.fld (.tok 1) 2), (.len (.fld (.tok 1) 3))])])]))) 0) (.rep (.len (.fld (.tok 1) 3)) (.lit (.a [(.i 0), (.i 0)])))))] (.br (.lt (.tok 4) (.len (.fld (.tok 1) 3))) (.need [(.rng .i64 (.add (.len (.fld (.tok 0) 0)) (.lit (.i 1)))), (.rng .i64 (.add (.add (.len (.fld (.tok 0) 0)) (.lit (.i 1))) (.tok 4)))] (.need [(.le (.lit (.i 0)) (.tok 4)), (.lt (.tok 4) (.len (.fld (.tok 1) 3)))] (.need [(.imp (.eq (.fld (.get (.fld (.tok 1) 3) (.tok 4)) 0) (.lit (.i 0))) (.ok 1 [(.tok 3), (.fld (.get (.fld (.tok 1) 3) (.tok 4)) 1)]))] (.br (.and (.eq (.fld (.get (.fld (.tok 1) 3) (.tok 4)) 0) (.lit (.i 0))) (.lt (.call 1 0 [(.tok 3), (.fld (.get (.fld (.tok 1) 3) (.tok 4)) 1)]) (.lit (.i 0)))) (.need [(.ok 3 [(.tok 3), (.fld (.get (.fld (.tok 1) 3) (.tok 4)) 1), (.mk [(.lit (.i 0)), (.add (.add (.len (.fld (.tok 0) 0)) (.lit (.i 1))) (.tok 4))])])] (.need [(.le (.lit (.i 0)) (.add (.add (.len (.fld (.tok 0) 0)) (.lit (.i 1))) (.tok 4))), (.lt (.add (.add (.len (.fld (.tok 0) 0)) (.lit (.i 1))) (.tok 4)) (.len (.fld (.tok 5) 0)))] (.need [(.rng .i64 (.add (.tok 4) (.lit (.i 1))))] (.back 17 [(.call 3 0 [(.tok 3), (.fld (.get (.fld (.tok 1) 3) (.tok 4)) 1), (.mk [(.lit (.i 0)), (.add (.add (.len (.fld (.tok 0) 0)) (.lit (.i 1))) (.tok 4))])]), (.add (.tok 4) (.lit (.i 1))), (.set (.tok 5) 0 (.put (.fld (.tok 5) 0) (.add (.add (.len (.fld (.tok 0) 0)) (.lit (.i 1))) (.tok 4)) (.mk [(.lit (.i 0)), (.add (.add (.len (.fld (.tok 0) 0)) (.lit (.i 1))) (.tok 4))])))])))) (.need [(.ok 4 [(.tok 5), (.get (.fld (.tok 1) 3) (.tok 4)), (.tok 3)])] (.need [(.le (.lit (.i 0)) (.add (.add (.len (.fld (.tok 0) 0)) (.lit (.i 1))) (.tok 4))), (.lt (.add (.add (.len (.fld (.tok 0) 0)) (.lit (.i 1))) (.tok 4)) (.len (.fld (.call 4 2 [(.tok 5), (.get (.fld (.tok 1) 3) (.tok 4)), (.tok 3)]) 0)))] (.need [(.rng .i64 (.add (.tok 4) (.lit (.i 1))))] (.back 17 [(.call 4 1 [(.tok 5), (.get (.fld (.tok 1) 3) (.tok 4)), (.tok 3)]), (.add (.tok 4) (.lit (.i 1))), (.set (.call 4 2 [(.tok 5), (.get (.fld (.tok 1) 3) (.tok 4)), (.tok 3)]) 0 (.put (.fld (.call 4 2 [(.tok 5), (.get (.fld (.tok 1) 3) (.tok 4)), (.tok 3)]) 0) (.add (.add (.len (.fld (.tok 0) 0)) (.lit (.i 1))) (.tok 4)) (.call 4 0 [(.tok 5), (.get (.fld (.tok 1) 3) (.tok 4)), (.tok 3)])))])))))))) (.leaf [(.mk [(.lit (.i 3)), (.len (.fld (.tok 0) 0))]), (.tok 3), (.tok 5)]))))))))
theorem qp7 (g0 g1 g2 g3 g4 : GfZ) : CdZ [(qx, g0), (q1r, g1), (q0g, g2), (q0k, g3), (jf, g4)] qru jf Try.f42 q0q := fun cd h => by injection h with h; subst h; kernel_rfl
theorem qsj {g0 g1 g2 g3 g4 g : GfZ} (h0 : FOk qx g0) (h1 : FOk q1r g1) (h2 : FOk q0g g2) (h3 : FOk q0k g3) (h4 : FOk jf g4) (h : HgZ q0q jf [(qx, g0), (q1r, g1), (q0g, g2), (q0k, g3), (jf, g4)] g) : FOk jf g := zq (qp7 g0 g1 g2 g3 g4) (.cons h0 (.cons h1 (.cons h2 (.cons h3 (.cons h4 .nil))))) rfl rfl q9y (by decide) h
def q1f : Ct := ⟨18, [.ref (.st 26) true, .val (.st 41), .val (.row 114)], [(.st 28, false), (.row 114, false), (.int .i64, false)], [], none, []⟩
theorem qm5 : EnZ q1f := fun _ _ => by kernel_rfl
def qst : Ann := ⟨[0, 1, 2, 4, 6, 7, 8, 9, 10, 11, 26, 50], []⟩
def q7q : Tree := (.need [(.ok 0 [(.tok 1)]), (.imp (.not (.not (.call 0 0 [(.tok 1)]))) (.ok 1 [(.tok 0), (.tok 2)]))] (.br (.or (.not (.call 0 0 [(.tok 1)])) (.not (.call 1 0 [(.tok 0), (.tok 2)]))) (.leaf [(.lit (.a [(.i 0), (.i 0)])), (.lit (.r [])), (.lit (.i 1)), (.tok 0)]) (.need [(.ok 2 [(.tok 0)])] (.need [(.ok 3 [(.call 2 0 [(.tok 0)]), (.tok 1), (.app (.lit (.r [])) (.tok 2))]), (.le (.len (.tok 2)) (.lit (.i 5864062014634))), (.le (.len (.tok 2)) (.lit (.i 5864062014634)))] (.br (.or (.lt (.lit (.i 1048576)) (.len (.fld (.call 3 2 [(.call 2 0 [(.tok 0)]), (.tok 1), (.app (.lit (.r [])) (.tok 2))]) 1))) (.lt (.fld (.call 3 2 [(.call 2 0 [(.tok 0)]), (.tok 1), (.app (.lit (.r [])) (.tok 2))]) 5) (.len (.fld (.call 3 2 [(.call 2 0 [(.tok 0)]), (.tok 1), (.app (.lit (.r [])) (.tok 2))]) 0)))) (.leaf [(.lit (.a [(.i 0), (.i 0)])), (.lit (.r [])), (.lit (.i 13)), (.tok 0)]) (.leaf [(.call 3 0 [(.call 2 0 [(.tok 0)]), (.tok 1), (.app (.lit (.r [])) (.tok 2))]), (.call 3 1 [(.call 2 0 [(.tok 0)]), (.tok 1), (.app (.lit (.r [])) (.tok 2))]), (.lit (.i 0)), (.call 3 2 [(.call 2 0 [(.tok 0)]), (.tok 1), (.app (.lit (.r [])) (.tok 2))])]))))))
theorem qrk (g0 g1 g2 g3 : GfZ) : CdZ [(qm, g0), (yd, g1), (jy, g2), (jf, g3)] qst q1f Try.f18 q7q := fun cd h => by injection h with h; subst h; kernel_rfl
theorem qsh {g0 g1 g2 g3 g : GfZ} (h0 : FOk qm g0) (h1 : FOk yd g1) (h2 : FOk jy g2) (h3 : FOk jf g3) (h : HgZ q7q q1f [(qm, g0), (yd, g1), (jy, g2), (jf, g3)] g) : FOk q1f g := zq (qrk g0 g1 g2 g3) (.cons h0 (.cons h1 (.cons h2 (.cons h3 .nil)))) rfl rfl qm5 (by decide) h
def q1o : Ct := ⟨45, [.val (.int .i64)], [(.st 41, false)], [], none, []⟩
theorem qqo : EnZ q1o := fun _ _ => by kernel_rfl
def qx0 : Ann := ⟨[0, 2], []⟩
def q8e : Tree := (.leaf [(.set (.set (.lit (.a [(.i 0), (.i 0), (.s ⟨#[]⟩), (.r [])])) 0 (.lit (.i 1))) 1 (.tok 0))])
theorem qsp : CdZ [] qx0 q1o Try.f45 q8e := fun cd h => by injection h with h; subst h; kernel_rfl
theorem qxo {g : GfZ} (h : HgZ q8e q1o [] g) : FOk q1o g := zq (qsp) .nil rfl rfl qqo (by decide) h
def yo : Ct := ⟨111, [.val (.st 41), .ref (.int .i64) true, .cell 146 3], [], [(.cell 2, .fn 111 [1, 2])], none, []⟩
theorem q7t : EnZ yo := fun _ _ => by kernel_rfl
def qmi : Ann := ⟨[0, 1, 2, 3, 4, 15], [(3, ⟨[(4, .int .i64, false)], [1], [7, 8, 9, 10, 11, 12, 13, 14, 15, 18, 19, 20, 21, 22, 23, 24, 16, 17], []⟩)]⟩
def q4x : Tree := (.need [(.rng .i64 (.sub (.tok 1) (.lit (.i 1))))] (.loop 3 2 [(.lit (.i 0)), (.sub (.tok 1) (.lit (.i 1)))] (.br (.and (.lt (.tok 2) (.len (.fld (.tok 0) 3))) (.lt (.lit (.i 0)) (.tok 3))) (.need [(.ok 0 [(.get (.fld (.tok 0) 3) (.tok 2)), (.tok 3)]), (.le (.lit (.i 0)) (.tok 2)), (.lt (.tok 2) (.len (.fld (.tok 0) 3)))] (.need [(.rng .i64 (.add (.tok 2) (.lit (.i 1))))] (.back 3 [(.add (.tok 2) (.lit (.i 1))), (.call 0 0 [(.get (.fld (.tok 0) 3) (.tok 2)), (.tok 3)])]))) (.leaf [(.tok 3)]))))
theorem qiy (g0 : GfZ) : CdZ [(yo, g0)] qmi yo Try.f111 q4x := fun cd h => by injection h with h; subst h; kernel_rfl
theorem qm8 {g0 g : GfZ} (h0 : FOk yo g0) (h : HgZ q4x yo [(yo, g0)] g) : FOk yo g := zq (qiy g0) (.cons h0 .nil) rfl rfl q7t (by decide) h
def q11 : Ct := ⟨109, [.val (.st 41)], [(.int .i64, false)], [], none, []⟩
theorem qmo : EnZ q11 := fun _ _ => by kernel_rfl
def qs8 : Ann := ⟨[0, 1, 2, 3, 4], []⟩
def q6t : Tree := (.need [(.ok 0 [(.tok 0), (.lit (.i 2001))])] (.need [(.rng .i64 (.sub (.lit (.i 2001)) (.call 0 0 [(.tok 0), (.lit (.i 2001))])))] (.leaf [(.sub (.lit (.i 2001)) (.call 0 0 [(.tok 0), (.lit (.i 2001))]))])))
theorem qpo (g0 : GfZ) : CdZ [(yo, g0)] qs8 q11 Try.f109 q6t := fun cd h => by injection h with h; subst h; kernel_rfl
theorem qsx {g0 g : GfZ} (h0 : FOk yo g0) (h : HgZ q6t q11 [(yo, g0)] g) : FOk q11 g := zq (qpo g0) (.cons h0 .nil) rfl rfl qmo (by decide) h
def yb : Ct := ⟨110, [.val (.st 41)], [(.bool, false)], [], none, []⟩
theorem qa5 : EnZ yb := fun _ _ => by kernel_rfl
def qsg : Ann := ⟨[0, 1, 2, 3, 4, 6, 7, 28, 39, 56, 86], [(12, ⟨[(3, .bool, false), (4, .int .i64, false)], [], [79, 80, 81, 82, 83, 84, 85, 86, 89, 90, 91, 92, 93, 94, 87, 88], []⟩)]⟩
def q7r : Tree := (.br (.eq (.fld (.tok 0) 0) (.lit (.i 0))) (.loop 12 1 [(.and (.and (.and (.le (.lit (.i 0)) (.fld (.tok 0) 1)) (.le (.fld (.tok 0) 1) (.lit (.i 1099511627776)))) (.eq (.fld (.tok 0) 2) (.lit (.s ⟨#[]⟩)))) (.eq (.len (.fld (.tok 0) 3)) (.lit (.i 0)))), (.lit (.i 0))] (.br (.and (.lt (.tok 2) (.len (.fld (.tok 0) 3))) (.tok 1)) (.need [(.le (.lit (.i 0)) (.tok 2)), (.lt (.tok 2) (.len (.fld (.tok 0) 3))), (.ok 0 [(.get (.fld (.tok 0) 3) (.tok 2))])] (.need [(.rng .i64 (.add (.tok 2) (.lit (.i 1))))] (.back 12 [(.call 0 0 [(.get (.fld (.tok 0) 3) (.tok 2))]), (.add (.tok 2) (.lit (.i 1)))]))) (.leaf [(.tok 1)]))) (.br (.eq (.fld (.tok 0) 0) (.lit (.i 1))) (.loop 12 1 [(.and (.eq (.fld (.tok 0) 2) (.lit (.s ⟨#[]⟩))) (.eq (.len (.fld (.tok 0) 3)) (.lit (.i 0)))), (.lit (.i 0))] (.br (.and (.lt (.tok 2) (.len (.fld (.tok 0) 3))) (.tok 1)) (.need [(.le (.lit (.i 0)) (.tok 2)), (.lt (.tok 2) (.len (.fld (.tok 0) 3))), (.ok 0 [(.get (.fld (.tok 0) 3) (.tok 2))])] (.need [(.rng .i64 (.add (.tok 2) (.lit (.i 1))))] (.back 12 [(.call 0 0 [(.get (.fld (.tok 0) 3) (.tok 2))]), (.add (.tok 2) (.lit (.i 1)))]))) (.leaf [(.tok 1)]))) (.br (.eq (.fld (.tok 0) 0) (.lit (.i 2))) (.loop 12 1 [(.and (.and (.eq (.fld (.tok 0) 1) (.lit (.i 0))) (.le (.slen (.fld (.tok 0) 2)) (.lit (.i 100)))) (.eq (.len (.fld (.tok 0) 3)) (.lit (.i 0)))), (.lit (.i 0))] (.br (.and (.lt (.tok 2) (.len (.fld (.tok 0) 3))) (.tok 1)) (.need [(.le (.lit (.i 0)) (.tok 2)), (.lt (.tok 2) (.len (.fld (.tok 0) 3))), (.ok 0 [(.get (.fld (.tok 0) 3) (.tok 2))])] (.need [(.rng .i64 (.add (.tok 2) (.lit (.i 1))))] (.back 12 [(.call 0 0 [(.get (.fld (.tok 0) 3) (.tok 2))]), (.add (.tok 2) (.lit (.i 1)))]))) (.leaf [(.tok 1)]))) (.br (.eq (.fld (.tok 0) 0) (.lit (.i 3))) (.loop 12 1 [(.and (.and (.and (.eq (.fld (.tok 0) 1) (.lit (.i 0))) (.le (.slen (.fld (.tok 0) 2)) (.lit (.i 100)))) (.lt (.lit (.i 0)) (.len (.fld (.tok 0) 3)))) (.le (.len (.fld (.tok 0) 3)) (.lit (.i 8)))), (.lit (.i 0))] (.br (.and (.lt (.tok 2) (.len (.fld (.tok 0) 3))) (.tok 1)) (.need [(.le (.lit (.i 0)) (.tok 2)), (.lt (.tok 2) (.len (.fld (.tok 0) 3))), (.ok 0 [(.get (.fld (.tok 0) 3) (.tok 2))])] (.need [(.rng .i64 (.add (.tok 2) (.lit (.i 1))))] (.back 12 [(.call 0 0 [(.get (.fld (.tok 0) 3) (.tok 2))]), (.add (.tok 2) (.lit (.i 1)))]))) (.leaf [(.tok 1)]))) (.loop 12 1 [(.lit (.b .false)), (.lit (.i 0))] (.br (.and (.lt (.tok 2) (.len (.fld (.tok 0) 3))) (.tok 1)) (.need [(.le (.lit (.i 0)) (.tok 2)), (.lt (.tok 2) (.len (.fld (.tok 0) 3))), (.ok 0 [(.get (.fld (.tok 0) 3) (.tok 2))])] (.need [(.rng .i64 (.add (.tok 2) (.lit (.i 1))))] (.back 12 [(.call 0 0 [(.get (.fld (.tok 0) 3) (.tok 2))]), (.add (.tok 2) (.lit (.i 1)))]))) (.leaf [(.tok 1)])))))))
theorem qrd (g0 : GfZ) : CdZ [(yb, g0)] qsg yb Try.f110 q7r := fun cd h => by injection h with h; subst h; kernel_rfl
theorem qsa {g0 g : GfZ} (h0 : FOk yb g0) (h : HgZ q7r yb [(yb, g0)] g) : FOk yb g := zq (qrd g0) (.cons h0 .nil) rfl rfl qa5 (by decide) h
def q0d : Ct := ⟨98, [.val (.st 41)], [(.bool, false)], [], none, []⟩
theorem qjs : EnZ q0d := fun _ _ => by kernel_rfl
def qq8 : Ann := ⟨[0, 1, 2], []⟩
def q63 : Tree := (.need [(.ok 0 [(.tok 0)]), (.imp (.le (.call 0 0 [(.tok 0)]) (.lit (.i 2000))) (.ok 1 [(.tok 0)]))] (.leaf [(.and (.le (.call 0 0 [(.tok 0)]) (.lit (.i 2000))) (.call 1 0 [(.tok 0)]))]))
theorem qm2 (g0 g1 : GfZ) : CdZ [(q11, g0), (yb, g1)] qq8 q0d Try.f98 q63 := fun cd h => by injection h with h; subst h; kernel_rfl
theorem qnu {g0 g1 g : GfZ} (h0 : FOk q11 g0) (h1 : FOk yb g1) (h : HgZ q63 q0d [(q11, g0), (yb, g1)] g) : FOk q0d g := zq (qm2 g0 g1) (.cons h0 (.cons h1 .nil)) rfl rfl qjs (by decide) h
def jk : Ct := ⟨100, [.val (.st 41)], [(.st 41, false)], [], none, []⟩
theorem qeu : EnZ jk := fun _ _ => by kernel_rfl
def qjk : Ann := ⟨[0, 1, 2], []⟩
def q4b : Tree := (.leaf [(.tok 0)])
theorem qgf : CdZ [] qjk jk Try.f100 q4b := fun cd h => by injection h with h; subst h; kernel_rfl
theorem qk9 {g : GfZ} (h : HgZ q4b jk [] g) : FOk jk g := zq (qgf) .nil rfl rfl qeu (by decide) h
def yx : Ct := ⟨99, [.val (.st 41), .fn 100 []], [(.st 41, false)], [], none, []⟩
theorem q8n : EnZ yx := fun _ _ => by kernel_rfl
def qpw : Ann := ⟨[0, 1, 2, 4, 5, 7, 10, 22, 23, 24, 25], [(5, ⟨[(24, .int .i64, false)], [5], [25, 26, 27, 7, 28, 29, 30, 31, 32, 33, 34, 35, 36], []⟩)]⟩
def q5u : Tree := (.br (.eq (.fld (.tok 0) 0) (.lit (.i 0))) (.need [(.ok 0 [(.tok 0)])] (.leaf [(.call 0 0 [(.tok 0)])])) (.loop 5 1 [(.lit (.i 0)), (.set (.set (.set (.lit (.a [(.i 0), (.i 0), (.s ⟨#[]⟩), (.r [])])) 0 (.fld (.tok 0) 0)) 1 (.fld (.tok 0) 1)) 2 (.fld (.tok 0) 2))] (.br (.lt (.tok 1) (.len (.fld (.tok 0) 3))) (.need [(.le (.lit (.i 0)) (.tok 1)), (.lt (.tok 1) (.len (.fld (.tok 0) 3)))] (.need [(.le (.add (.len (.fld (.tok 2) 3)) (.lit (.i 1))) (.lit (.i 2513169434843))), (.ok 1 [(.get (.fld (.tok 0) 3) (.tok 1))])] (.need [(.rng .i64 (.add (.tok 1) (.lit (.i 1))))] (.back 5 [(.add (.tok 1) (.lit (.i 1))), (.set (.tok 2) 3 (.app (.fld (.tok 2) 3) (.row [(.call 1 0 [(.get (.fld (.tok 0) 3) (.tok 1))])])))])))) (.leaf [(.tok 2)]))))
theorem qlc (g0 g1 : GfZ) : CdZ [(jk, g0), (yx, g1)] qpw yx Try.f99 q5u := fun cd h => by injection h with h; subst h; kernel_rfl
theorem qqf {g0 g1 g : GfZ} (h0 : FOk jk g0) (h1 : FOk yx g1) (h : HgZ q5u yx [(jk, g0), (yx, g1)] g) : FOk yx g := zq (qlc g0 g1) (.cons h0 (.cons h1 .nil)) rfl rfl q8n (by decide) h
def q0l : Ct := ⟨76, [.val (.st 41)], [(.st 41, false)], [], none, []⟩
theorem qjd : EnZ q0l := fun _ _ => by kernel_rfl
def qpb : Ann := ⟨[0, 1, 2, 5], []⟩
def q66 : Tree := (.need [(.ok 0 [(.tok 0)])] (.br (.not (.call 0 0 [(.tok 0)])) (.leaf [(.lit (.a [(.i 0), (.i 0), (.s ⟨#[]⟩), (.r [])]))]) (.need [(.ok 1 [(.tok 0)])] (.leaf [(.call 1 0 [(.tok 0)])]))))
theorem qm1 (g0 g1 : GfZ) : CdZ [(q0d, g0), (yx, g1)] qpb q0l Try.f76 q66 := fun cd h => by injection h with h; subst h; kernel_rfl
theorem qny {g0 g1 g : GfZ} (h0 : FOk q0d g0) (h1 : FOk yx g1) (h : HgZ q66 q0l [(q0d, g0), (yx, g1)] g) : FOk q0l g := zq (qm1 g0 g1) (.cons h0 (.cons h1 .nil)) rfl rfl qjd (by decide) h
def q12 : Ct := ⟨47, [.val (.str)], [(.st 41, false)], [], none, []⟩
theorem qlg : EnZ q12 := fun _ _ => by kernel_rfl
def qrq : Ann := ⟨[0, 2], []⟩
def q7g : Tree := (.need [(.ok 0 [(.set (.set (.lit (.a [(.i 0), (.i 0), (.s ⟨#[]⟩), (.r [])])) 0 (.lit (.i 2))) 2 (.tok 0))])] (.leaf [(.call 0 0 [(.set (.set (.lit (.a [(.i 0), (.i 0), (.s ⟨#[]⟩), (.r [])])) 0 (.lit (.i 2))) 2 (.tok 0))])]))
theorem qpr (g0 : GfZ) : CdZ [(q0l, g0)] qrq q12 Try.f47 q7g := fun cd h => by injection h with h; subst h; kernel_rfl
theorem qrx {g0 g : GfZ} (h0 : FOk q0l g0) (h : HgZ q7g q12 [(q0l, g0)] g) : FOk q12 g := zq (qpr g0) (.cons h0 .nil) rfl rfl qlg (by decide) h
def yj : Ct := ⟨43, [.val (.st 28), .ref (.int .i64) true, .rref (.st 26), .cell 79 4], [(.st 41, false)], [(.cell 3, .fn 43 [1, 2, 3])], none, []⟩
theorem q7x : EnZ yj := fun _ _ => by kernel_rfl
def qmt : Ann := ⟨[0, 1, 2, 3, 4, 5, 6, 7, 8, 12, 17, 24, 43, 99], [(13, ⟨[(8, .int .i64, false)], [1, 7], [83, 84, 85, 86, 87, 88, 89, 90, 91, 92, 93, 94, 95, 96, 97, 98, 99, 102, 103, 104, 105, 106, 107, 108, 109, 110, 111, 112, 113, 100, 101], []⟩)]⟩
def q4t : Tree := (.need [(.rng .i64 (.sub (.tok 1) (.lit (.i 1))))] (.br (.lt (.sub (.tok 1) (.lit (.i 1))) (.lit (.i 0))) (.leaf [(.lit (.a [(.i 0), (.i 0), (.s ⟨#[]⟩), (.r [])])), (.sub (.tok 1) (.lit (.i 1)))]) (.need [(.ok 1 [(.tok 2), (.tok 0)])] (.br (.eq (.fld (.call 1 0 [(.tok 2), (.tok 0)]) 0) (.lit (.i 1))) (.need [(.ok 2 [(.fld (.call 1 0 [(.tok 2), (.tok 0)]) 1)])] (.leaf [(.call 2 0 [(.fld (.call 1 0 [(.tok 2), (.tok 0)]) 1)]), (.sub (.tok 1) (.lit (.i 1)))])) (.need [(.imp (.eq (.fld (.call 1 0 [(.tok 2), (.tok 0)]) 0) (.lit (.i 2))) (.ok 3 [(.tok 2), (.fld (.call 1 0 [(.tok 2), (.tok 0)]) 1)]))] (.br (.and (.eq (.fld (.call 1 0 [(.tok 2), (.tok 0)]) 0) (.lit (.i 2))) (.le (.lit (.i 0)) (.call 3 0 [(.tok 2), (.fld (.call 1 0 [(.tok 2), (.tok 0)]) 1)]))) (.need [(.le (.lit (.i 0)) (.fld (.call 1 0 [(.tok 2), (.tok 0)]) 1)), (.lt (.fld (.call 1 0 [(.tok 2), (.tok 0)]) 1) (.len (.fld (.tok 2) 1))), (.ok 4 [(.fld (.get (.fld (.tok 2) 1) (.fld (.call 1 0 [(.tok 2), (.tok 0)]) 1)) 0)])] (.leaf [(.call 4 0 [(.fld (.get (.fld (.tok 2) 1) (.fld (.call 1 0 [(.tok 2), (.tok 0)]) 1)) 0)]), (.sub (.tok 1) (.lit (.i 1)))])) (.need [(.imp (.and (.eq (.fld (.call 1 0 [(.tok 2), (.tok 0)]) 0) (.lit (.i 3))) (.eq (.call 5 0 [(.tok 2), (.fld (.call 1 0 [(.tok 2), (.tok 0)]) 1)]) (.lit (.i 4)))) (.ok 3 [(.tok 2), (.fld (.get (.fld (.tok 2) 0) (.fld (.call 1 0 [(.tok 2), (.tok 0)]) 1)) 1)])), (.imp (.and (.eq (.fld (.call 1 0 [(.tok 2), (.tok 0)]) 0) (.lit (.i 3))) (.eq (.call 5 0 [(.tok 2), (.fld (.call 1 0 [(.tok 2), (.tok 0)]) 1)]) (.lit (.i 4)))) (.le (.lit (.i 0)) (.fld (.call 1 0 [(.tok 2), (.tok 0)]) 1))), (.imp (.and (.eq (.fld (.call 1 0 [(.tok 2), (.tok 0)]) 0) (.lit (.i 3))) (.eq (.call 5 0 [(.tok 2), (.fld (.call 1 0 [(.tok 2), (.tok 0)]) 1)]) (.lit (.i 4)))) (.lt (.fld (.call 1 0 [(.tok 2), (.tok 0)]) 1) (.len (.fld (.tok 2) 0)))), (.imp (.eq (.fld (.call 1 0 [(.tok 2), (.tok 0)]) 0) (.lit (.i 3))) (.ok 5 [(.tok 2), (.fld (.call 1 0 [(.tok 2), (.tok 0)]) 1)]))] (.br (.and (.and (.eq (.fld (.call 1 0 [(.tok 2), (.tok 0)]) 0) (.lit (.i 3))) (.eq (.call 5 0 [(.tok 2), (.fld (.call 1 0 [(.tok 2), (.tok 0)]) 1)]) (.lit (.i 4)))) (.le (.lit (.i 0)) (.call 3 0 [(.tok 2), (.fld (.get (.fld (.tok 2) 0) (.fld (.call 1 0 [(.tok 2), (.tok 0)]) 1)) 1)]))) (.need [(.le (.lit (.i 0)) (.fld (.get (.fld (.tok 2) 0) (.fld (.call 1 0 [(.tok 2), (.tok 0)]) 1)) 1)), (.lt (.fld (.get (.fld (.tok 2) 0) (.fld (.call 1 0 [(.tok 2), (.tok 0)]) 1)) 1) (.len (.fld (.tok 2) 1))), (.le (.lit (.i 0)) (.fld (.call 1 0 [(.tok 2), (.tok 0)]) 1)), (.lt (.fld (.call 1 0 [(.tok 2), (.tok 0)]) 1) (.len (.fld (.tok 2) 0)))] (.need [(.rng .i64 (.add (.fld (.call 1 0 [(.tok 2), (.tok 0)]) 1) (.lit (.i 1))))] (.loop 13 3 [(.add (.fld (.call 1 0 [(.tok 2), (.tok 0)]) 1) (.lit (.i 1))), (.sub (.tok 1) (.lit (.i 1))), (.set (.set (.lit (.a [(.i 0), (.i 0), (.s ⟨#[]⟩), (.r [])])) 0 (.lit (.i 3))) 2 (.fld (.get (.fld (.tok 2) 1) (.fld (.get (.fld (.tok 2) 0) (.fld (.call 1 0 [(.tok 2), (.tok 0)]) 1)) 1)) 0))] (.need [(.rng .i64 (.add (.fld (.call 1 0 [(.tok 2), (.tok 0)]) 1) (.fld (.get (.fld (.tok 2) 1) (.fld (.get (.fld (.tok 2) 0) (.fld (.call 1 0 [(.tok 2), (.tok 0)]) 1)) 1)) 1))), (.imp (.le (.tok 3) (.add (.fld (.call 1 0 [(.tok 2), (.tok 0)]) 1) (.fld (.get (.fld (.tok 2) 1) (.fld (.get (.fld (.tok 2) 0) (.fld (.call 1 0 [(.tok 2), (.tok 0)]) 1)) 1)) 1))) (.ok 5 [(.tok 2), (.tok 3)]))] (.br (.and (.and (.le (.tok 3) (.add (.fld (.call 1 0 [(.tok 2), (.tok 0)]) 1) (.fld (.get (.fld (.tok 2) 1) (.fld (.get (.fld (.tok 2) 0) (.fld (.call 1 0 [(.tok 2), (.tok 0)]) 1)) 1)) 1))) (.le (.lit (.i 0)) (.call 5 0 [(.tok 2), (.tok 3)]))) (.le (.lit (.i 0)) (.tok 4))) (.need [(.le (.add (.len (.fld (.tok 5) 3)) (.lit (.i 1))) (.lit (.i 2513169434843))), (.ok 0 [(.get (.fld (.tok 2) 0) (.tok 3)), (.tok 4), (.tok 2)]), (.le (.lit (.i 0)) (.tok 3)), (.lt (.tok 3) (.len (.fld (.tok 2) 0)))] (.need [(.rng .i64 (.add (.tok 3) (.lit (.i 1))))] (.back 13 [(.add (.tok 3) (.lit (.i 1))), (.call 0 1 [(.get (.fld (.tok 2) 0) (.tok 3)), (.tok 4), (.tok 2)]), (.set (.tok 5) 3 (.app (.fld (.tok 5) 3) (.row [(.call 0 0 [(.get (.fld (.tok 2) 0) (.tok 3)), (.tok 4), (.tok 2)])])))]))) (.leaf [(.tok 5), (.tok 4)])))))) (.leaf [(.set (.set (.lit (.a [(.i 0), (.i 0), (.s ⟨#[]⟩), (.r [])])) 0 (.lit (.i 0))) 1 (.fld (.call 1 0 [(.tok 2), (.tok 0)]) 1)), (.sub (.tok 1) (.lit (.i 1)))])))))))))
theorem qk7 (g0 g1 g2 g3 g4 g5 : GfZ) : CdZ [(yj, g0), (qq, g1), (q1o, g2), (yf, g3), (q12, g4), (y8, g5)] qmt yj Try.f43 q4t := fun cd h => by injection h with h; subst h; kernel_rfl
theorem qm4 {g0 g1 g2 g3 g4 g5 g : GfZ} (h0 : FOk yj g0) (h1 : FOk qq g1) (h2 : FOk q1o g2) (h3 : FOk yf g3) (h4 : FOk q12 g4) (h5 : FOk y8 g5) (h : HgZ q4t yj [(yj, g0), (qq, g1), (q1o, g2), (yf, g3), (q12, g4), (y8, g5)] g) : FOk yj g := zq (qk7 g0 g1 g2 g3 g4 g5) (.cons h0 (.cons h1 (.cons h2 (.cons h3 (.cons h4 (.cons h5 .nil)))))) rfl rfl q7x (by decide) h
def q1d : Ct := ⟨19, [.val (.st 26), .val (.st 28)], [(.st 41, false), (.int .i64, false)], [], none, []⟩
theorem qkv : EnZ q1d := fun _ _ => by kernel_rfl
def qsv : Ann := ⟨[0, 1, 2, 3, 4, 5, 6, 7, 11, 18], []⟩
def q73 : Tree := (.need [(.ok 1 [(.tok 0), (.tok 1)])] (.br (.not (.call 1 0 [(.tok 0), (.tok 1)])) (.leaf [(.lit (.a [(.i 0), (.i 0), (.s ⟨#[]⟩), (.r [])])), (.lit (.i 1))]) (.need [(.ok 0 [(.tok 1), (.lit (.i 2000)), (.tok 0)])] (.br (.lt (.call 0 1 [(.tok 1), (.lit (.i 2000)), (.tok 0)]) (.lit (.i 0))) (.leaf [(.lit (.a [(.i 0), (.i 0), (.s ⟨#[]⟩), (.r [])])), (.lit (.i 2))]) (.leaf [(.call 0 0 [(.tok 1), (.lit (.i 2000)), (.tok 0)]), (.lit (.i 0))])))))
theorem qof (g0 g1 : GfZ) : CdZ [(yj, g0), (qh, g1)] qsv q1d Try.f19 q73 := fun cd h => by injection h with h; subst h; kernel_rfl
theorem qt5 {g0 g1 g : GfZ} (h0 : FOk yj g0) (h1 : FOk qh g1) (h : HgZ q73 q1d [(yj, g0), (qh, g1)] g) : FOk q1d g := zq (qof g0 g1) (.cons h0 (.cons h1 .nil)) rfl rfl qkv (by decide) h
def ze : Ct := ⟨77, [.val (.row 105), .val (.st 41), .val (.int .i64)], [(.st 41, false), (.int .i64, false)], [], none, []⟩
theorem q5i : EnZ ze := fun _ _ => by kernel_rfl
def qf2 : Ann := ⟨[0, 1, 2, 4, 6, 7, 8, 9, 10, 11, 32], [(5, ⟨[(2, .int .i64, false), (9, .int .i64, false)], [8], [24, 25, 26, 27, 28, 29, 30, 31, 32, 36, 37, 38, 39, 40, 41, 42, 43, 35, 44, 45, 10, 11, 46, 47, 48, 49, 50, 51, 52, 33, 34], []⟩)]⟩
def q33 : Tree := (.need [(.ok 0 [(.tok 0), (.tok 1)])] (.need [(.rng .i64 (.sub (.tok 2) (.lit (.i 1))))] (.loop 5 3 [(.sub (.tok 2) (.lit (.i 1))), (.lit (.i 0)), (.set (.set (.set (.lit (.a [(.i 0), (.i 0), (.s ⟨#[]⟩), (.r [])])) 0 (.fld (.call 0 0 [(.tok 0), (.tok 1)]) 0)) 1 (.fld (.call 0 0 [(.tok 0), (.tok 1)]) 1)) 2 (.fld (.call 0 0 [(.tok 0), (.tok 1)]) 2))] (.br (.and (.lt (.tok 4) (.len (.fld (.call 0 0 [(.tok 0), (.tok 1)]) 3))) (.le (.lit (.i 0)) (.tok 3))) (.need [(.le (.lit (.i 0)) (.tok 4)), (.lt (.tok 4) (.len (.fld (.call 0 0 [(.tok 0), (.tok 1)]) 3))), (.ok 1 [(.tok 0), (.get (.fld (.call 0 0 [(.tok 0), (.tok 1)]) 3) (.tok 4)), (.tok 3)])] (.need [(.le (.add (.len (.fld (.tok 5) 3)) (.lit (.i 1))) (.lit (.i 2513169434843)))] (.need [(.rng .i64 (.add (.tok 4) (.lit (.i 1))))] (.back 5 [(.call 1 1 [(.tok 0), (.get (.fld (.call 0 0 [(.tok 0), (.tok 1)]) 3) (.tok 4)), (.tok 3)]), (.add (.tok 4) (.lit (.i 1))), (.set (.tok 5) 3 (.app (.fld (.tok 5) 3) (.row [(.call 1 0 [(.tok 0), (.get (.fld (.call 0 0 [(.tok 0), (.tok 1)]) 3) (.tok 4)), (.tok 3)])])))])))) (.leaf [(.tok 5), (.tok 3)])))))
theorem qdn (g0 g1 : GfZ) : CdZ [(zu, g0), (ze, g1)] qf2 ze Try.f77 q33 := fun cd h => by injection h with h; subst h; kernel_rfl
theorem qet {g0 g1 g : GfZ} (h0 : FOk zu g0) (h1 : FOk ze g1) (h : HgZ q33 ze [(zu, g0), (ze, g1)] g) : FOk ze g := zq (qdn g0 g1) (.cons h0 (.cons h1 .nil)) rfl rfl q5i (by decide) h
def yw : Ct := ⟨49, [.val (.row 105), .val (.st 41)], [(.st 41, false), (.bool, false)], [], none, []⟩
theorem qb8 : EnZ yw := fun _ _ => by kernel_rfl
def qf3 : Ann := ⟨[0, 1, 3, 4, 5, 6, 7, 15], []⟩
def q30 : Tree := (.need [(.ok 0 [(.tok 0), (.tok 1), (.lit (.i 2000))])] (.br (.lt (.call 0 1 [(.tok 0), (.tok 1), (.lit (.i 2000))]) (.lit (.i 0))) (.leaf [(.lit (.a [(.i 0), (.i 0), (.s ⟨#[]⟩), (.r [])])), (.lit (.b .false))]) (.leaf [(.call 0 0 [(.tok 0), (.tok 1), (.lit (.i 2000))]), (.lit (.b .true))])))
theorem qd1 (g0 : GfZ) : CdZ [(ze, g0)] qf3 yw Try.f49 q30 := fun cd h => by injection h with h; subst h; kernel_rfl
theorem qew {g0 g : GfZ} (h0 : FOk ze g0) (h : HgZ q30 yw [(ze, g0)] g) : FOk yw g := zq (qd1 g0) (.cons h0 .nil) rfl rfl qb8 (by decide) h
def j5 : Ct := ⟨20, [.val (.row 105), .val (.st 41)], [(.st 41, false), (.int .i64, false)], [], none, []⟩
theorem qcv : EnZ j5 := fun _ _ => by kernel_rfl
def qg1 : Ann := ⟨[0, 1, 3, 4, 5, 6, 7, 15, 24], []⟩
def q0r : Tree := (.need [(.ok 0 [(.tok 0)]), (.imp (.not (.not (.call 0 0 [(.tok 0)]))) (.ok 1 [(.tok 1)]))] (.br (.or (.not (.call 0 0 [(.tok 0)])) (.not (.call 1 0 [(.tok 1)]))) (.leaf [(.lit (.a [(.i 0), (.i 0), (.s ⟨#[]⟩), (.r [])])), (.lit (.i 1))]) (.need [(.ok 2 [(.tok 0), (.tok 1)])] (.br (.not (.call 2 1 [(.tok 0), (.tok 1)])) (.leaf [(.lit (.a [(.i 0), (.i 0), (.s ⟨#[]⟩), (.r [])])), (.lit (.i 2))]) (.leaf [(.call 2 0 [(.tok 0), (.tok 1)]), (.lit (.i 0))])))))
theorem qea (g0 g1 g2 : GfZ) : CdZ [(yi, g0), (qm, g1), (yw, g2)] qg1 j5 Try.f20 q0r := fun cd h => by injection h with h; subst h; kernel_rfl
theorem qfe {g0 g1 g2 g : GfZ} (h0 : FOk yi g0) (h1 : FOk qm g1) (h2 : FOk yw g2) (h : HgZ q0r j5 [(yi, g0), (qm, g1), (yw, g2)] g) : FOk j5 g := zq (qea g0 g1 g2) (.cons h0 (.cons h1 (.cons h2 .nil))) rfl rfl qcv (by decide) h
def qw : Ct := ⟨50, [.val (.st 41), .val (.st 41)], [(.bool, false)], [], none, []⟩
theorem q4l : EnZ qw := fun _ _ => by kernel_rfl
def qd8 : Ann := ⟨[0, 1, 2, 3, 4, 5, 33, 38, 52], [(4, ⟨[(4, .bool, false), (5, .int .i64, false)], [], [34, 35, 36, 37, 38, 41, 42, 43, 44, 45, 46, 47, 48, 49, 50, 51, 52, 39, 40], []⟩)]⟩
def q2p : Tree := (.br (.or (.or (.or (.not (.eq (.fld (.tok 0) 0) (.fld (.tok 1) 0))) (.not (.eq (.fld (.tok 0) 1) (.fld (.tok 1) 1)))) (.not (.eq (.fld (.tok 0) 2) (.fld (.tok 1) 2)))) (.not (.eq (.len (.fld (.tok 0) 3)) (.len (.fld (.tok 1) 3))))) (.leaf [(.lit (.b .false))]) (.loop 4 2 [(.lit (.b .false)), (.lit (.i 0))] (.br (.lt (.tok 3) (.len (.fld (.tok 0) 3))) (.need [(.ok 0 [(.get (.fld (.tok 0) 3) (.tok 3)), (.get (.fld (.tok 1) 3) (.tok 3))]), (.le (.lit (.i 0)) (.tok 3)), (.lt (.tok 3) (.len (.fld (.tok 1) 3))), (.le (.lit (.i 0)) (.tok 3)), (.lt (.tok 3) (.len (.fld (.tok 0) 3)))] (.br (.not (.call 0 0 [(.get (.fld (.tok 0) 3) (.tok 3)), (.get (.fld (.tok 1) 3) (.tok 3))])) (.leaf [(.lit (.b .false))]) (.need [(.rng .i64 (.add (.tok 3) (.lit (.i 1))))] (.back 4 [(.tok 2), (.add (.tok 3) (.lit (.i 1)))])))) (.leaf [(.lit (.b .true))]))))
theorem qby (g0 : GfZ) : CdZ [(qw, g0)] qd8 qw Try.f50 q2p := fun cd h => by injection h with h; subst h; kernel_rfl
theorem qd7 {g0 g : GfZ} (h0 : FOk qw g0) (h : HgZ q2p qw [(qw, g0)] g) : FOk qw g := zq (qby g0) (.cons h0 .nil) rfl rfl q4l (by decide) h
def q0i : Ct := ⟨21, [.val (.st 41), .val (.st 41)], [(.bool, false)], [], none, []⟩
theorem qi0 : EnZ q0i := fun _ _ => by kernel_rfl
def qqv : Ann := ⟨[0, 1, 2, 3, 4], []⟩
def q5v : Tree := (.need [(.ok 0 [(.tok 0)]), (.imp (.call 0 0 [(.tok 0)]) (.ok 0 [(.tok 1)])), (.imp (.and (.call 0 0 [(.tok 0)]) (.call 0 0 [(.tok 1)])) (.ok 1 [(.tok 0), (.tok 1)]))] (.leaf [(.and (.and (.call 0 0 [(.tok 0)]) (.call 0 0 [(.tok 1)])) (.call 1 0 [(.tok 0), (.tok 1)]))]))
theorem qlz (g0 g1 : GfZ) : CdZ [(qm, g0), (qw, g1)] qqv q0i Try.f21 q5v := fun cd h => by injection h with h; subst h; kernel_rfl
theorem qqa {g0 g1 g : GfZ} (h0 : FOk qm g0) (h1 : FOk qw g1) (h : HgZ q5v q0i [(qm, g0), (qw, g1)] g) : FOk q0i g := zq (qlz g0 g1) (.cons h0 (.cons h1 .nil)) rfl rfl qi0 (by decide) h
def qv : Ct := ⟨101, [.val (.row 2), .val (.int .i64)], [(.int .i64, false)], [], none, []⟩
theorem qbh : EnZ qv := fun _ _ => by kernel_rfl
def qel : Ann := ⟨[0, 1, 4, 5, 9, 17], [(2, ⟨[(4, .int .i64, false), (5, .int .i64, false)], [], [6, 7, 8, 9, 12, 13, 14, 15, 16, 17, 18, 10, 11], []⟩)]⟩
def q31 : Tree := (.loop 2 2 [(.lit (.i 0)), (.lit (.i 0))] (.br (.lt (.tok 3) (.len (.tok 0))) (.need [(.le (.lit (.i 0)) (.tok 3)), (.lt (.tok 3) (.len (.tok 0)))] (.br (.eq (.get (.tok 0) (.tok 3)) (.tok 1)) (.leaf [(.tok 3)]) (.need [(.rng .i64 (.add (.tok 3) (.lit (.i 1))))] (.back 2 [(.tok 2), (.add (.tok 3) (.lit (.i 1)))])))) (.leaf [(.lit (.i (-1)))])))
theorem qdd : CdZ [] qel qv Try.f101 q31 := fun cd h => by injection h with h; subst h; kernel_rfl
theorem qe9 {g : GfZ} (h : HgZ q31 qv [] g) : FOk qv g := zq (qdd) .nil rfl rfl qbh (by decide) h
def y7 : Ct := ⟨79, [.own (.row 2), .val (.st 41)], [(.row 2, true)], [], none, []⟩
theorem q8y : EnZ y7 := fun _ _ => by kernel_rfl
def qpu : Ann := ⟨[0, 1, 3, 4, 5, 15, 25], [(4, ⟨[(0, .row 2, false), (5, .int .i64, false)], [], [21, 22, 23, 24, 25, 28, 29, 30, 31, 32, 33, 34, 26, 27], []⟩)]⟩
def q20 : Tree := (.need [(.imp (.eq (.fld (.tok 1) 0) (.lit (.i 0))) (.ok 0 [(.tok 0), (.fld (.tok 1) 1)]))] (.br (.and (.eq (.fld (.tok 1) 0) (.lit (.i 0))) (.lt (.call 0 0 [(.tok 0), (.fld (.tok 1) 1)]) (.lit (.i 0)))) (.need [(.le (.add (.len (.tok 0)) (.lit (.i 1))) (.lit (.i 17592186043904)))] (.loop 4 2 [(.app (.tok 0) (.row [(.fld (.tok 1) 1)])), (.lit (.i 0))] (.br (.lt (.tok 3) (.len (.fld (.tok 1) 3))) (.need [(.le (.lit (.i 0)) (.tok 3)), (.lt (.tok 3) (.len (.fld (.tok 1) 3))), (.ok 1 [(.tok 2), (.get (.fld (.tok 1) 3) (.tok 3))])] (.need [(.rng .i64 (.add (.tok 3) (.lit (.i 1))))] (.back 4 [(.call 1 0 [(.tok 2), (.get (.fld (.tok 1) 3) (.tok 3))]), (.add (.tok 3) (.lit (.i 1)))]))) (.leaf [(.tok 2)])))) (.loop 4 2 [(.tok 0), (.lit (.i 0))] (.br (.lt (.tok 3) (.len (.fld (.tok 1) 3))) (.need [(.le (.lit (.i 0)) (.tok 3)), (.lt (.tok 3) (.len (.fld (.tok 1) 3))), (.ok 1 [(.tok 2), (.get (.fld (.tok 1) 3) (.tok 3))])] (.need [(.rng .i64 (.add (.tok 3) (.lit (.i 1))))] (.back 4 [(.call 1 0 [(.tok 2), (.get (.fld (.tok 1) 3) (.tok 3))]), (.add (.tok 3) (.lit (.i 1)))]))) (.leaf [(.tok 2)])))))
theorem qm7 (g0 g1 : GfZ) : CdZ [(qv, g0), (y7, g1)] qpu y7 Try.f79 q20 := fun cd h => by injection h with h; subst h; kernel_rfl
theorem qr0 {g0 g1 g : GfZ} (h0 : FOk qv g0) (h1 : FOk y7 g1) (h : HgZ q20 y7 [(qv, g0), (y7, g1)] g) : FOk y7 g := zq (qm7 g0 g1) (.cons h0 (.cons h1 .nil)) rfl rfl q8y (by decide) h
def zd : Ct := ⟨78, [.val (.row 2), .val (.st 41)], [(.st 41, false)], [], none, []⟩
theorem q7d : EnZ zd := fun _ _ => by kernel_rfl
def qjm : Ann := ⟨[0, 1, 3, 4, 5, 6, 16, 26], [(5, ⟨[(6, .int .i64, false)], [5], [22, 23, 24, 25, 26, 29, 30, 31, 32, 33, 34, 35, 36, 37, 38, 39, 40, 27, 28], []⟩)]⟩
def q18 : Tree := (.br (.eq (.fld (.tok 1) 0) (.lit (.i 0))) (.need [(.ok 0 [(.tok 0), (.fld (.tok 1) 1)])] (.loop 5 2 [(.lit (.i 0)), (.set (.set (.set (.set (.lit (.a [(.i 0), (.i 0), (.s ⟨#[]⟩), (.r [])])) 0 (.fld (.tok 1) 0)) 1 (.fld (.tok 1) 1)) 2 (.fld (.tok 1) 2)) 1 (.call 0 0 [(.tok 0), (.fld (.tok 1) 1)]))] (.br (.lt (.tok 2) (.len (.fld (.tok 1) 3))) (.need [(.le (.add (.len (.fld (.tok 3) 3)) (.lit (.i 1))) (.lit (.i 2513169434843))), (.ok 1 [(.tok 0), (.get (.fld (.tok 1) 3) (.tok 2))]), (.le (.lit (.i 0)) (.tok 2)), (.lt (.tok 2) (.len (.fld (.tok 1) 3)))] (.need [(.rng .i64 (.add (.tok 2) (.lit (.i 1))))] (.back 5 [(.add (.tok 2) (.lit (.i 1))), (.set (.tok 3) 3 (.app (.fld (.tok 3) 3) (.row [(.call 1 0 [(.tok 0), (.get (.fld (.tok 1) 3) (.tok 2))])])))]))) (.leaf [(.tok 3)])))) (.loop 5 2 [(.lit (.i 0)), (.set (.set (.set (.lit (.a [(.i 0), (.i 0), (.s ⟨#[]⟩), (.r [])])) 0 (.fld (.tok 1) 0)) 1 (.fld (.tok 1) 1)) 2 (.fld (.tok 1) 2))] (.br (.lt (.tok 2) (.len (.fld (.tok 1) 3))) (.need [(.le (.add (.len (.fld (.tok 3) 3)) (.lit (.i 1))) (.lit (.i 2513169434843))), (.ok 1 [(.tok 0), (.get (.fld (.tok 1) 3) (.tok 2))]), (.le (.lit (.i 0)) (.tok 2)), (.lt (.tok 2) (.len (.fld (.tok 1) 3)))] (.need [(.rng .i64 (.add (.tok 2) (.lit (.i 1))))] (.back 5 [(.add (.tok 2) (.lit (.i 1))), (.set (.tok 3) 3 (.app (.fld (.tok 3) 3) (.row [(.call 1 0 [(.tok 0), (.get (.fld (.tok 1) 3) (.tok 2))])])))]))) (.leaf [(.tok 3)]))))
theorem qg0 (g0 g1 : GfZ) : CdZ [(qv, g0), (zd, g1)] qjm zd Try.f78 q18 := fun cd h => by injection h with h; subst h; kernel_rfl
theorem qke {g0 g1 g : GfZ} (h0 : FOk qv g0) (h1 : FOk zd g1) (h : HgZ q18 zd [(qv, g0), (zd, g1)] g) : FOk zd g := zq (qg0 g0 g1) (.cons h0 (.cons h1 .nil)) rfl rfl q7d (by decide) h
def q01 : Ct := ⟨51, [.val (.st 41)], [(.st 41, false)], [], none, []⟩
theorem qh4 : EnZ q01 := fun _ _ => by kernel_rfl
def qlu : Ann := ⟨[0, 1, 2, 5], []⟩
def q59 : Tree := (.need [(.ok 0 [(.tok 0)])] (.br (.not (.call 0 0 [(.tok 0)])) (.leaf [(.lit (.a [(.i 0), (.i 0), (.s ⟨#[]⟩), (.r [])]))]) (.need [(.ok 2 [(.call 1 0 [(.lit (.r [])), (.tok 0)]), (.tok 0)]), (.ok 1 [(.lit (.r [])), (.tok 0)])] (.leaf [(.call 2 0 [(.call 1 0 [(.lit (.r [])), (.tok 0)]), (.tok 0)])]))))
theorem qhp (g0 g1 g2 : GfZ) : CdZ [(qm, g0), (y7, g1), (zd, g2)] qlu q01 Try.f51 q59 := fun cd h => by injection h with h; subst h; kernel_rfl
theorem qkx {g0 g1 g2 g : GfZ} (h0 : FOk qm g0) (h1 : FOk y7 g1) (h2 : FOk zd g2) (h : HgZ q59 q01 [(qm, g0), (y7, g1), (zd, g2)] g) : FOk q01 g := zq (qhp g0 g1 g2) (.cons h0 (.cons h1 (.cons h2 .nil))) rfl rfl qh4 (by decide) h
def j3 : Ct := ⟨22, [.val (.st 41), .val (.st 41)], [(.bool, false)], [], none, []⟩
theorem qdi : EnZ j3 := fun _ _ => by kernel_rfl
def qfv : Ann := ⟨[0, 1, 2, 3, 4], []⟩
def q3l : Tree := (.need [(.imp (.and (.call 0 0 [(.tok 0)]) (.call 0 0 [(.tok 1)])) (.ok 2 [(.call 1 0 [(.tok 0)]), (.call 1 0 [(.tok 1)])])), (.imp (.and (.call 0 0 [(.tok 0)]) (.call 0 0 [(.tok 1)])) (.ok 1 [(.tok 1)])), (.imp (.and (.call 0 0 [(.tok 0)]) (.call 0 0 [(.tok 1)])) (.ok 1 [(.tok 0)])), (.imp (.call 0 0 [(.tok 0)]) (.ok 0 [(.tok 1)])), (.ok 0 [(.tok 0)])] (.leaf [(.and (.and (.call 0 0 [(.tok 0)]) (.call 0 0 [(.tok 1)])) (.call 2 0 [(.call 1 0 [(.tok 0)]), (.call 1 0 [(.tok 1)])]))]))
theorem qe1 (g0 g1 g2 : GfZ) : CdZ [(qm, g0), (q01, g1), (qw, g2)] qfv j3 Try.f22 q3l := fun cd h => by injection h with h; subst h; kernel_rfl
theorem qga {g0 g1 g2 g : GfZ} (h0 : FOk qm g0) (h1 : FOk q01 g1) (h2 : FOk qw g2) (h : HgZ q3l j3 [(qm, g0), (q01, g1), (qw, g2)] g) : FOk j3 g := zq (qe1 g0 g1 g2) (.cons h0 (.cons h1 (.cons h2 .nil))) rfl rfl qdi (by decide) h
def q06 : Ct := ⟨6, [.val (.st 41), .val (.st 41)], [(.bool, false)], [], none, []⟩
theorem q9e : EnZ q06 := fun _ _ => by kernel_rfl
def qb7 : Ann := ⟨[0, 1, 2, 3, 4, 5, 6, 7, 9, 10, 11, 12, 14, 15, 16, 17, 18, 19, 20, 21, 23, 35, 58, 68, 72, 92], []⟩
def q22 : Tree := (.need [(.ok 0 [])] (.br (.not (.call 0 0 [])) (.leaf [(.lit (.b .false))]) (.need [(.ok 1 [(.lit (.r [])), (.tok 0), (.tok 1)])] (.br (.and (.not (.eq (.call 1 1 [(.lit (.r [])), (.tok 0), (.tok 1)]) (.lit (.i 0)))) (.not (.eq (.call 1 1 [(.lit (.r [])), (.tok 0), (.tok 1)]) (.lit (.i 4))))) (.leaf [(.lit (.b .true))]) (.need [(.ok 2 [(.lit (.i 1048576))])] (.need [(.ok 3 [(.call 2 0 [(.lit (.i 1048576))]), (.tok 0), (.lit (.r []))])] (.need [(.ok 3 [(.call 3 3 [(.call 2 0 [(.lit (.i 1048576))]), (.tok 0), (.lit (.r []))]), (.tok 1), (.call 3 1 [(.call 2 0 [(.lit (.i 1048576))]), (.tok 0), (.lit (.r []))])])] (.br (.or (.not (.eq (.call 3 2 [(.call 2 0 [(.lit (.i 1048576))]), (.tok 0), (.lit (.r []))]) (.lit (.i 0)))) (.not (.eq (.call 3 2 [(.call 3 3 [(.call 2 0 [(.lit (.i 1048576))]), (.tok 0), (.lit (.r []))]), (.tok 1), (.call 3 1 [(.call 2 0 [(.lit (.i 1048576))]), (.tok 0), (.lit (.r []))])]) (.lit (.i 0))))) (.leaf [(.lit (.b .false))]) (.need [(.ok 4 [(.call 3 3 [(.call 3 3 [(.call 2 0 [(.lit (.i 1048576))]), (.tok 0), (.lit (.r []))]), (.tok 1), (.call 3 1 [(.call 2 0 [(.lit (.i 1048576))]), (.tok 0), (.lit (.r []))])]), (.call 3 0 [(.call 2 0 [(.lit (.i 1048576))]), (.tok 0), (.lit (.r []))]), (.call 3 0 [(.call 3 3 [(.call 2 0 [(.lit (.i 1048576))]), (.tok 0), (.lit (.r []))]), (.tok 1), (.call 3 1 [(.call 2 0 [(.lit (.i 1048576))]), (.tok 0), (.lit (.r []))])])])] (.br (.or (.eq (.call 4 0 [(.call 3 3 [(.call 3 3 [(.call 2 0 [(.lit (.i 1048576))]), (.tok 0), (.lit (.r []))]), (.tok 1), (.call 3 1 [(.call 2 0 [(.lit (.i 1048576))]), (.tok 0), (.lit (.r []))])]), (.call 3 0 [(.call 2 0 [(.lit (.i 1048576))]), (.tok 0), (.lit (.r []))]), (.call 3 0 [(.call 3 3 [(.call 2 0 [(.lit (.i 1048576))]), (.tok 0), (.lit (.r []))]), (.tok 1), (.call 3 1 [(.call 2 0 [(.lit (.i 1048576))]), (.tok 0), (.lit (.r []))])])]) (.lit (.i 2))) (.not (.eq (.call 4 0 [(.call 3 3 [(.call 3 3 [(.call 2 0 [(.lit (.i 1048576))]), (.tok 0), (.lit (.r []))]), (.tok 1), (.call 3 1 [(.call 2 0 [(.lit (.i 1048576))]), (.tok 0), (.lit (.r []))])]), (.call 3 0 [(.call 2 0 [(.lit (.i 1048576))]), (.tok 0), (.lit (.r []))]), (.call 3 0 [(.call 3 3 [(.call 2 0 [(.lit (.i 1048576))]), (.tok 0), (.lit (.r []))]), (.tok 1), (.call 3 1 [(.call 2 0 [(.lit (.i 1048576))]), (.tok 0), (.lit (.r []))])])]) (.call 1 1 [(.lit (.r [])), (.tok 0), (.tok 1)])))) (.leaf [(.eq (.call 4 0 [(.call 3 3 [(.call 3 3 [(.call 2 0 [(.lit (.i 1048576))]), (.tok 0), (.lit (.r []))]), (.tok 1), (.call 3 1 [(.call 2 0 [(.lit (.i 1048576))]), (.tok 0), (.lit (.r []))])]), (.call 3 0 [(.call 2 0 [(.lit (.i 1048576))]), (.tok 0), (.lit (.r []))]), (.call 3 0 [(.call 3 3 [(.call 2 0 [(.lit (.i 1048576))]), (.tok 0), (.lit (.r []))]), (.tok 1), (.call 3 1 [(.call 2 0 [(.lit (.i 1048576))]), (.tok 0), (.lit (.r []))])])]) (.lit (.i 2)))]) (.br (.not (.eq (.call 1 1 [(.lit (.r [])), (.tok 0), (.tok 1)]) (.lit (.i 0)))) (.leaf [(.lit (.b .true))]) (.need [(.ok 5 [(.call 4 1 [(.call 3 3 [(.call 3 3 [(.call 2 0 [(.lit (.i 1048576))]), (.tok 0), (.lit (.r []))]), (.tok 1), (.call 3 1 [(.call 2 0 [(.lit (.i 1048576))]), (.tok 0), (.lit (.r []))])]), (.call 3 0 [(.call 2 0 [(.lit (.i 1048576))]), (.tok 0), (.lit (.r []))]), (.call 3 0 [(.call 3 3 [(.call 2 0 [(.lit (.i 1048576))]), (.tok 0), (.lit (.r []))]), (.tok 1), (.call 3 1 [(.call 2 0 [(.lit (.i 1048576))]), (.tok 0), (.lit (.r []))])])]), (.call 3 0 [(.call 2 0 [(.lit (.i 1048576))]), (.tok 0), (.lit (.r []))])])] (.need [(.ok 5 [(.call 4 1 [(.call 3 3 [(.call 3 3 [(.call 2 0 [(.lit (.i 1048576))]), (.tok 0), (.lit (.r []))]), (.tok 1), (.call 3 1 [(.call 2 0 [(.lit (.i 1048576))]), (.tok 0), (.lit (.r []))])]), (.call 3 0 [(.call 2 0 [(.lit (.i 1048576))]), (.tok 0), (.lit (.r []))]), (.call 3 0 [(.call 3 3 [(.call 2 0 [(.lit (.i 1048576))]), (.tok 0), (.lit (.r []))]), (.tok 1), (.call 3 1 [(.call 2 0 [(.lit (.i 1048576))]), (.tok 0), (.lit (.r []))])])]), (.call 3 0 [(.call 3 3 [(.call 2 0 [(.lit (.i 1048576))]), (.tok 0), (.lit (.r []))]), (.tok 1), (.call 3 1 [(.call 2 0 [(.lit (.i 1048576))]), (.tok 0), (.lit (.r []))])])])] (.need [(.ok 6 [(.call 1 0 [(.lit (.r [])), (.tok 0), (.tok 1)]), (.tok 0)])] (.br (.not (.eq (.call 6 1 [(.call 1 0 [(.lit (.r [])), (.tok 0), (.tok 1)]), (.tok 0)]) (.lit (.i 0)))) (.leaf [(.and (.eq (.call 5 1 [(.call 4 1 [(.call 3 3 [(.call 3 3 [(.call 2 0 [(.lit (.i 1048576))]), (.tok 0), (.lit (.r []))]), (.tok 1), (.call 3 1 [(.call 2 0 [(.lit (.i 1048576))]), (.tok 0), (.lit (.r []))])]), (.call 3 0 [(.call 2 0 [(.lit (.i 1048576))]), (.tok 0), (.lit (.r []))]), (.call 3 0 [(.call 3 3 [(.call 2 0 [(.lit (.i 1048576))]), (.tok 0), (.lit (.r []))]), (.tok 1), (.call 3 1 [(.call 2 0 [(.lit (.i 1048576))]), (.tok 0), (.lit (.r []))])])]), (.call 3 0 [(.call 2 0 [(.lit (.i 1048576))]), (.tok 0), (.lit (.r []))])]) (.lit (.i 2))) (.eq (.call 5 1 [(.call 4 1 [(.call 3 3 [(.call 3 3 [(.call 2 0 [(.lit (.i 1048576))]), (.tok 0), (.lit (.r []))]), (.tok 1), (.call 3 1 [(.call 2 0 [(.lit (.i 1048576))]), (.tok 0), (.lit (.r []))])]), (.call 3 0 [(.call 2 0 [(.lit (.i 1048576))]), (.tok 0), (.lit (.r []))]), (.call 3 0 [(.call 3 3 [(.call 2 0 [(.lit (.i 1048576))]), (.tok 0), (.lit (.r []))]), (.tok 1), (.call 3 1 [(.call 2 0 [(.lit (.i 1048576))]), (.tok 0), (.lit (.r []))])])]), (.call 3 0 [(.call 3 3 [(.call 2 0 [(.lit (.i 1048576))]), (.tok 0), (.lit (.r []))]), (.tok 1), (.call 3 1 [(.call 2 0 [(.lit (.i 1048576))]), (.tok 0), (.lit (.r []))])])]) (.lit (.i 2))))]) (.need [(.imp (.and (.eq (.call 5 1 [(.call 4 1 [(.call 3 3 [(.call 3 3 [(.call 2 0 [(.lit (.i 1048576))]), (.tok 0), (.lit (.r []))]), (.tok 1), (.call 3 1 [(.call 2 0 [(.lit (.i 1048576))]), (.tok 0), (.lit (.r []))])]), (.call 3 0 [(.call 2 0 [(.lit (.i 1048576))]), (.tok 0), (.lit (.r []))]), (.call 3 0 [(.call 3 3 [(.call 2 0 [(.lit (.i 1048576))]), (.tok 0), (.lit (.r []))]), (.tok 1), (.call 3 1 [(.call 2 0 [(.lit (.i 1048576))]), (.tok 0), (.lit (.r []))])])]), (.call 3 0 [(.call 2 0 [(.lit (.i 1048576))]), (.tok 0), (.lit (.r []))])]) (.lit (.i 0))) (.eq (.call 5 1 [(.call 4 1 [(.call 3 3 [(.call 3 3 [(.call 2 0 [(.lit (.i 1048576))]), (.tok 0), (.lit (.r []))]), (.tok 1), (.call 3 1 [(.call 2 0 [(.lit (.i 1048576))]), (.tok 0), (.lit (.r []))])]), (.call 3 0 [(.call 2 0 [(.lit (.i 1048576))]), (.tok 0), (.lit (.r []))]), (.call 3 0 [(.call 3 3 [(.call 2 0 [(.lit (.i 1048576))]), (.tok 0), (.lit (.r []))]), (.tok 1), (.call 3 1 [(.call 2 0 [(.lit (.i 1048576))]), (.tok 0), (.lit (.r []))])])]), (.call 3 0 [(.call 3 3 [(.call 2 0 [(.lit (.i 1048576))]), (.tok 0), (.lit (.r []))]), (.tok 1), (.call 3 1 [(.call 2 0 [(.lit (.i 1048576))]), (.tok 0), (.lit (.r []))])])]) (.lit (.i 0)))) (.ok 7 [(.call 5 0 [(.call 4 1 [(.call 3 3 [(.call 3 3 [(.call 2 0 [(.lit (.i 1048576))]), (.tok 0), (.lit (.r []))]), (.tok 1), (.call 3 1 [(.call 2 0 [(.lit (.i 1048576))]), (.tok 0), (.lit (.r []))])]), (.call 3 0 [(.call 2 0 [(.lit (.i 1048576))]), (.tok 0), (.lit (.r []))]), (.call 3 0 [(.call 3 3 [(.call 2 0 [(.lit (.i 1048576))]), (.tok 0), (.lit (.r []))]), (.tok 1), (.call 3 1 [(.call 2 0 [(.lit (.i 1048576))]), (.tok 0), (.lit (.r []))])])]), (.call 3 0 [(.call 2 0 [(.lit (.i 1048576))]), (.tok 0), (.lit (.r []))])]), (.call 5 0 [(.call 4 1 [(.call 3 3 [(.call 3 3 [(.call 2 0 [(.lit (.i 1048576))]), (.tok 0), (.lit (.r []))]), (.tok 1), (.call 3 1 [(.call 2 0 [(.lit (.i 1048576))]), (.tok 0), (.lit (.r []))])]), (.call 3 0 [(.call 2 0 [(.lit (.i 1048576))]), (.tok 0), (.lit (.r []))]), (.call 3 0 [(.call 3 3 [(.call 2 0 [(.lit (.i 1048576))]), (.tok 0), (.lit (.r []))]), (.tok 1), (.call 3 1 [(.call 2 0 [(.lit (.i 1048576))]), (.tok 0), (.lit (.r []))])])]), (.call 3 0 [(.call 3 3 [(.call 2 0 [(.lit (.i 1048576))]), (.tok 0), (.lit (.r []))]), (.tok 1), (.call 3 1 [(.call 2 0 [(.lit (.i 1048576))]), (.tok 0), (.lit (.r []))])])])])), (.imp (.and (.and (.eq (.call 5 1 [(.call 4 1 [(.call 3 3 [(.call 3 3 [(.call 2 0 [(.lit (.i 1048576))]), (.tok 0), (.lit (.r []))]), (.tok 1), (.call 3 1 [(.call 2 0 [(.lit (.i 1048576))]), (.tok 0), (.lit (.r []))])]), (.call 3 0 [(.call 2 0 [(.lit (.i 1048576))]), (.tok 0), (.lit (.r []))]), (.call 3 0 [(.call 3 3 [(.call 2 0 [(.lit (.i 1048576))]), (.tok 0), (.lit (.r []))]), (.tok 1), (.call 3 1 [(.call 2 0 [(.lit (.i 1048576))]), (.tok 0), (.lit (.r []))])])]), (.call 3 0 [(.call 2 0 [(.lit (.i 1048576))]), (.tok 0), (.lit (.r []))])]) (.lit (.i 0))) (.eq (.call 5 1 [(.call 4 1 [(.call 3 3 [(.call 3 3 [(.call 2 0 [(.lit (.i 1048576))]), (.tok 0), (.lit (.r []))]), (.tok 1), (.call 3 1 [(.call 2 0 [(.lit (.i 1048576))]), (.tok 0), (.lit (.r []))])]), (.call 3 0 [(.call 2 0 [(.lit (.i 1048576))]), (.tok 0), (.lit (.r []))]), (.call 3 0 [(.call 3 3 [(.call 2 0 [(.lit (.i 1048576))]), (.tok 0), (.lit (.r []))]), (.tok 1), (.call 3 1 [(.call 2 0 [(.lit (.i 1048576))]), (.tok 0), (.lit (.r []))])])]), (.call 3 0 [(.call 3 3 [(.call 2 0 [(.lit (.i 1048576))]), (.tok 0), (.lit (.r []))]), (.tok 1), (.call 3 1 [(.call 2 0 [(.lit (.i 1048576))]), (.tok 0), (.lit (.r []))])])]) (.lit (.i 0)))) (.call 7 0 [(.call 5 0 [(.call 4 1 [(.call 3 3 [(.call 3 3 [(.call 2 0 [(.lit (.i 1048576))]), (.tok 0), (.lit (.r []))]), (.tok 1), (.call 3 1 [(.call 2 0 [(.lit (.i 1048576))]), (.tok 0), (.lit (.r []))])]), (.call 3 0 [(.call 2 0 [(.lit (.i 1048576))]), (.tok 0), (.lit (.r []))]), (.call 3 0 [(.call 3 3 [(.call 2 0 [(.lit (.i 1048576))]), (.tok 0), (.lit (.r []))]), (.tok 1), (.call 3 1 [(.call 2 0 [(.lit (.i 1048576))]), (.tok 0), (.lit (.r []))])])]), (.call 3 0 [(.call 2 0 [(.lit (.i 1048576))]), (.tok 0), (.lit (.r []))])]), (.call 5 0 [(.call 4 1 [(.call 3 3 [(.call 3 3 [(.call 2 0 [(.lit (.i 1048576))]), (.tok 0), (.lit (.r []))]), (.tok 1), (.call 3 1 [(.call 2 0 [(.lit (.i 1048576))]), (.tok 0), (.lit (.r []))])]), (.call 3 0 [(.call 2 0 [(.lit (.i 1048576))]), (.tok 0), (.lit (.r []))]), (.call 3 0 [(.call 3 3 [(.call 2 0 [(.lit (.i 1048576))]), (.tok 0), (.lit (.r []))]), (.tok 1), (.call 3 1 [(.call 2 0 [(.lit (.i 1048576))]), (.tok 0), (.lit (.r []))])])]), (.call 3 0 [(.call 3 3 [(.call 2 0 [(.lit (.i 1048576))]), (.tok 0), (.lit (.r []))]), (.tok 1), (.call 3 1 [(.call 2 0 [(.lit (.i 1048576))]), (.tok 0), (.lit (.r []))])])])])) (.ok 8 [(.call 5 0 [(.call 4 1 [(.call 3 3 [(.call 3 3 [(.call 2 0 [(.lit (.i 1048576))]), (.tok 0), (.lit (.r []))]), (.tok 1), (.call 3 1 [(.call 2 0 [(.lit (.i 1048576))]), (.tok 0), (.lit (.r []))])]), (.call 3 0 [(.call 2 0 [(.lit (.i 1048576))]), (.tok 0), (.lit (.r []))]), (.call 3 0 [(.call 3 3 [(.call 2 0 [(.lit (.i 1048576))]), (.tok 0), (.lit (.r []))]), (.tok 1), (.call 3 1 [(.call 2 0 [(.lit (.i 1048576))]), (.tok 0), (.lit (.r []))])])]), (.call 3 0 [(.call 2 0 [(.lit (.i 1048576))]), (.tok 0), (.lit (.r []))])]), (.call 6 0 [(.call 1 0 [(.lit (.r [])), (.tok 0), (.tok 1)]), (.tok 0)])]))] (.leaf [(.and (.and (.and (.eq (.call 5 1 [(.call 4 1 [(.call 3 3 [(.call 3 3 [(.call 2 0 [(.lit (.i 1048576))]), (.tok 0), (.lit (.r []))]), (.tok 1), (.call 3 1 [(.call 2 0 [(.lit (.i 1048576))]), (.tok 0), (.lit (.r []))])]), (.call 3 0 [(.call 2 0 [(.lit (.i 1048576))]), (.tok 0), (.lit (.r []))]), (.call 3 0 [(.call 3 3 [(.call 2 0 [(.lit (.i 1048576))]), (.tok 0), (.lit (.r []))]), (.tok 1), (.call 3 1 [(.call 2 0 [(.lit (.i 1048576))]), (.tok 0), (.lit (.r []))])])]), (.call 3 0 [(.call 2 0 [(.lit (.i 1048576))]), (.tok 0), (.lit (.r []))])]) (.lit (.i 0))) (.eq (.call 5 1 [(.call 4 1 [(.call 3 3 [(.call 3 3 [(.call 2 0 [(.lit (.i 1048576))]), (.tok 0), (.lit (.r []))]), (.tok 1), (.call 3 1 [(.call 2 0 [(.lit (.i 1048576))]), (.tok 0), (.lit (.r []))])]), (.call 3 0 [(.call 2 0 [(.lit (.i 1048576))]), (.tok 0), (.lit (.r []))]), (.call 3 0 [(.call 3 3 [(.call 2 0 [(.lit (.i 1048576))]), (.tok 0), (.lit (.r []))]), (.tok 1), (.call 3 1 [(.call 2 0 [(.lit (.i 1048576))]), (.tok 0), (.lit (.r []))])])]), (.call 3 0 [(.call 3 3 [(.call 2 0 [(.lit (.i 1048576))]), (.tok 0), (.lit (.r []))]), (.tok 1), (.call 3 1 [(.call 2 0 [(.lit (.i 1048576))]), (.tok 0), (.lit (.r []))])])]) (.lit (.i 0)))) (.call 7 0 [(.call 5 0 [(.call 4 1 [(.call 3 3 [(.call 3 3 [(.call 2 0 [(.lit (.i 1048576))]), (.tok 0), (.lit (.r []))]), (.tok 1), (.call 3 1 [(.call 2 0 [(.lit (.i 1048576))]), (.tok 0), (.lit (.r []))])]), (.call 3 0 [(.call 2 0 [(.lit (.i 1048576))]), (.tok 0), (.lit (.r []))]), (.call 3 0 [(.call 3 3 [(.call 2 0 [(.lit (.i 1048576))]), (.tok 0), (.lit (.r []))]), (.tok 1), (.call 3 1 [(.call 2 0 [(.lit (.i 1048576))]), (.tok 0), (.lit (.r []))])])]), (.call 3 0 [(.call 2 0 [(.lit (.i 1048576))]), (.tok 0), (.lit (.r []))])]), (.call 5 0 [(.call 4 1 [(.call 3 3 [(.call 3 3 [(.call 2 0 [(.lit (.i 1048576))]), (.tok 0), (.lit (.r []))]), (.tok 1), (.call 3 1 [(.call 2 0 [(.lit (.i 1048576))]), (.tok 0), (.lit (.r []))])]), (.call 3 0 [(.call 2 0 [(.lit (.i 1048576))]), (.tok 0), (.lit (.r []))]), (.call 3 0 [(.call 3 3 [(.call 2 0 [(.lit (.i 1048576))]), (.tok 0), (.lit (.r []))]), (.tok 1), (.call 3 1 [(.call 2 0 [(.lit (.i 1048576))]), (.tok 0), (.lit (.r []))])])]), (.call 3 0 [(.call 3 3 [(.call 2 0 [(.lit (.i 1048576))]), (.tok 0), (.lit (.r []))]), (.tok 1), (.call 3 1 [(.call 2 0 [(.lit (.i 1048576))]), (.tok 0), (.lit (.r []))])])])])) (.call 8 0 [(.call 5 0 [(.call 4 1 [(.call 3 3 [(.call 3 3 [(.call 2 0 [(.lit (.i 1048576))]), (.tok 0), (.lit (.r []))]), (.tok 1), (.call 3 1 [(.call 2 0 [(.lit (.i 1048576))]), (.tok 0), (.lit (.r []))])]), (.call 3 0 [(.call 2 0 [(.lit (.i 1048576))]), (.tok 0), (.lit (.r []))]), (.call 3 0 [(.call 3 3 [(.call 2 0 [(.lit (.i 1048576))]), (.tok 0), (.lit (.r []))]), (.tok 1), (.call 3 1 [(.call 2 0 [(.lit (.i 1048576))]), (.tok 0), (.lit (.r []))])])]), (.call 3 0 [(.call 2 0 [(.lit (.i 1048576))]), (.tok 0), (.lit (.r []))])]), (.call 6 0 [(.call 1 0 [(.lit (.r [])), (.tok 0), (.tok 1)]), (.tok 0)])]))])))))))))))))))))
theorem qai (g0 g1 g2 g3 g4 g5 g6 g7 g8 : GfZ) : CdZ [(j6, g0), (q00, g1), (q16, g2), (q1f, g3), (yh, g4), (q1d, g5), (j5, g6), (q0i, g7), (j3, g8)] qb7 q06 Try.f6 q22 := fun cd h => by injection h with h; subst h; kernel_rfl
theorem qbf {g0 g1 g2 g3 g4 g5 g6 g7 g8 g : GfZ} (h0 : FOk j6 g0) (h1 : FOk q00 g1) (h2 : FOk q16 g2) (h3 : FOk q1f g3) (h4 : FOk yh g4) (h5 : FOk q1d g5) (h6 : FOk j5 g6) (h7 : FOk q0i g7) (h8 : FOk j3 g8) (h : HgZ q22 q06 [(j6, g0), (q00, g1), (q16, g2), (q1f, g3), (yh, g4), (q1d, g5), (j5, g6), (q0i, g7), (j3, g8)] g) : FOk q06 g := zq (qai g0 g1 g2 g3 g4 g5 g6 g7 g8) (.cons h0 (.cons h1 (.cons h2 (.cons h3 (.cons h4 (.cons h5 (.cons h6 (.cons h7 (.cons h8 .nil))))))))) rfl rfl q9e (by decide) h
structure Ce where
 t : Int
 n : Int
structure Un where
 at' : Int
 old : Ce
structure Wk where
 ser : Int
 att : Ce
 val : Ce
structure Sy where
 name : ByteArray
 ar : Int
structure So where
 cs : List Ce
 ys : List Sy
 tr : List Un
 wk : List Wk
 ser : Int
 mx : Int
instance : Inhabited Ce := ⟨⟨0, 0⟩⟩
instance : Inhabited Un := ⟨⟨0, default⟩⟩
instance : Inhabited Wk := ⟨⟨0, default, default⟩⟩
instance : Inhabited Sy := ⟨⟨⟨#[]⟩, 0⟩⟩
def eC (c : Ce) : D := .a [.i c.t, .i c.n]
def eU (u : Un) : D := .a [.i u.at', eC u.old]
def eW (w : Wk) : D := .a [.i w.ser, eC w.att, eC w.val]
def eY (y : Sy) : D := .a [.s y.name, .i y.ar]
def eS (s : So) : D := .a [.r (s.cs.map eC), .r (s.ys.map eY), .r (s.tr.map eU), .r (s.wk.map eW), .i s.ser, .i s.mx]
def dC (d : D) : Ce := ⟨(d.fld 0).int, (d.fld 1).int⟩
def dU (d : D) : Un := ⟨(d.fld 0).int, dC (d.fld 1)⟩
def dW (d : D) : Wk := ⟨(d.fld 0).int, dC (d.fld 1), dC (d.fld 2)⟩
def dY (d : D) : Sy := ⟨(d.fld 0).str, (d.fld 1).int⟩
def dS (d : D) : So := ⟨(d.fld 0).rs.map dC, (d.fld 1).rs.map dY, (d.fld 2).rs.map dU, (d.fld 3).rs.map dW, (d.fld 4).int, (d.fld 5).int⟩
theorem ym (c : Ce) : dC (eC c) = c := rfl
theorem qya (c : Un) : dU (eU c) = c := rfl
theorem qzc (c : Wk) : dW (eW c) = c := rfl
theorem qyr (c : Sy) : dY (eY c) = c := rfl
theorem map_id' {α : Type} {e : α → D} {d : D → α} (h : ∀ a, d (e a) = a) (l : List α) : (l.map e).map d = l := by
 rw [List.map_map]
 have : d ∘ e = id := funext h
 rw [this, List.map_id]
theorem z3 (s : So) : dS (eS s) = s := by
 show So.mk ((s.cs.map eC).map dC) ((s.ys.map eY).map dY) ((s.tr.map eU).map dU) ((s.wk.map eW).map dW) s.ser s.mx = s
 rw [map_id' ym, map_id' qyr, map_id' qya, map_id' qzc]
theorem z8k {a b : Ce} (h : eC a = eC b) : a = b := by rw [← ym a, h, ym b]
theorem zap {a b : Un} (h : eU a = eU b) : a = b := by rw [← qya a, h, qya b]
theorem z8j {a b : Wk} (h : eW a = eW b) : a = b := by rw [← qzc a, h, qzc b]
theorem zbs {a b : Sy} (h : eY a = eY b) : a = b := by rw [← qyr a, h, qyr b]
theorem z8y {a b : So} (h : eS a = eS b) : a = b := by rw [← z3 a, h, z3 b]
theorem qzm (a b : Ce) : (eC a = eC b) = (a = b) := propext ⟨z8k, fun h => h ▸ rfl⟩
theorem zgg (a b : Un) : (eU a = eU b) = (a = b) := propext ⟨zap, fun h => h ▸ rfl⟩
theorem zge (a b : Wk) : (eW a = eW b) = (a = b) := propext ⟨z8j, fun h => h ▸ rfl⟩
theorem zg7 (a b : Sy) : (eY a = eY b) = (a = b) := propext ⟨zbs, fun h => h ▸ rfl⟩
theorem zfw (a b : So) : (eS a = eS b) = (a = b) := propext ⟨z8y, fun h => h ▸ rfl⟩
instance : DecidableEq Ce := fun a b => if h : eC a = eC b then .isTrue (z8k h) else .isFalse fun e => h (e ▸ rfl)
instance : DecidableEq Un := fun a b => if h : eU a = eU b then .isTrue (zap h) else .isFalse fun e => h (e ▸ rfl)
instance : DecidableEq Wk := fun a b => if h : eW a = eW b then .isTrue (z8j h) else .isFalse fun e => h (e ▸ rfl)
instance : DecidableEq Sy := fun a b => if h : eY a = eY b then .isTrue (zbs h) else .isFalse fun e => h (e ▸ rfl)
instance : DecidableEq So := fun a b => if h : eS a = eS b then .isTrue (z8y h) else .isFalse fun e => h (e ▸ rfl)
theorem Ce.ext' {a b : Ce} (h1 : a.t = b.t) (h2 : a.n = b.n) : a = b := by
 cases a; cases b; cases h1; cases h2; rfl
theorem z72 (c : Ce) : (eC c).fld 0 = .i c.t := rfl
theorem zi3 (c : Ce) : (eC c).fld 1 = .i c.n := rfl
theorem zgw (c : Un) : (eU c).fld 0 = .i c.at' := rfl
theorem zgp (c : Un) : (eU c).fld 1 = eC c.old := rfl
theorem zk2 (c : Wk) : (eW c).fld 0 = .i c.ser := rfl
theorem zj9 (c : Wk) : (eW c).fld 1 = eC c.att := rfl
theorem zj0 (c : Wk) : (eW c).fld 2 = eC c.val := rfl
theorem zee (c : Sy) : (eY c).fld 0 = .s c.name := rfl
theorem z6c (c : Sy) : (eY c).fld 1 = .i c.ar := rfl
theorem zjs (s : So) : (eS s).fld 0 = .r (s.cs.map eC) := rfl
theorem zk0 (s : So) : (eS s).fld 1 = .r (s.ys.map eY) := rfl
theorem zj6 (s : So) : (eS s).fld 2 = .r (s.tr.map eU) := rfl
theorem zil (s : So) : (eS s).fld 3 = .r (s.wk.map eW) := rfl
theorem zk4 (s : So) : (eS s).fld 4 = .i s.ser := rfl
theorem zjh (s : So) : (eS s).fld 5 = .i s.mx := rfl
theorem gnA : type_of% (And.intro @List.getD_cons_zero.{0} (And.intro @List.getD_cons_succ.{0} (And.intro @List.getElem?_cons_zero.{0} (And.intro @List.getElem?_cons_succ.{0} (And.intro @z0q (And.intro @z5 (And.intro @qkh (And.intro @qw9 (And.intro @Option.isSome_some.{0} (And.intro @Option.getD_some.{0} (And.intro @decide_eq_true_eq (And.intro @decide_eq_false_iff_not (And.intro @z3 (And.intro @ym (And.intro @qya (And.intro @qzc (And.intro @qyr (And.intro @z72 (And.intro @zi3 (And.intro @zgw (And.intro @zgp (And.intro @zk2 (And.intro @zj9 (And.intro @zj0 (And.intro @zee (And.intro @z6c (And.intro @zjs (And.intro @zk0 (And.intro @zj6 (And.intro @zil (And.intro @zk4 (And.intro @zjh (And.intro @List.length_map.{0, 0} (And.intro @qq6 (And.intro @zg3 (And.intro @z8n (And.intro @qzm (And.intro @zgg (And.intro @zge (And.intro @zg7 (And.intro @zfw (And.intro @q5g (And.intro @List.take_succ_cons.{0} (And.intro @List.take_zero.{0} (And.intro @List.nil_append.{0} (And.intro @List.cons_append.{0} (And.intro @decide_true (And.intro @decide_false (And.intro @Bool.or_true (And.intro @true_and @and_true)))))))))))))))))))))))))))))))))))))))))))))))))) := And.intro @List.getD_cons_zero.{0} (And.intro @List.getD_cons_succ.{0} (And.intro @List.getElem?_cons_zero.{0} (And.intro @List.getElem?_cons_succ.{0} (And.intro @z0q (And.intro @z5 (And.intro @qkh (And.intro @qw9 (And.intro @Option.isSome_some.{0} (And.intro @Option.getD_some.{0} (And.intro @decide_eq_true_eq (And.intro @decide_eq_false_iff_not (And.intro @z3 (And.intro @ym (And.intro @qya (And.intro @qzc (And.intro @qyr (And.intro @z72 (And.intro @zi3 (And.intro @zgw (And.intro @zgp (And.intro @zk2 (And.intro @zj9 (And.intro @zj0 (And.intro @zee (And.intro @z6c (And.intro @zjs (And.intro @zk0 (And.intro @zj6 (And.intro @zil (And.intro @zk4 (And.intro @zjh (And.intro @List.length_map.{0, 0} (And.intro @qq6 (And.intro @zg3 (And.intro @z8n (And.intro @qzm (And.intro @zgg (And.intro @zge (And.intro @zg7 (And.intro @zfw (And.intro @q5g (And.intro @List.take_succ_cons.{0} (And.intro @List.take_zero.{0} (And.intro @List.nil_append.{0} (And.intro @List.cons_append.{0} (And.intro @decide_true (And.intro @decide_false (And.intro @Bool.or_true (And.intro @true_and @and_true)))))))))))))))))))))))))))))))))))))))))))))))))
theorem zjo (c : Ce) (n : Int) : D.a ((eC c).fs.set 0 (.i n)) = eC { c with t := n } := rfl
theorem qgr (t n : Int) : D.a [.i t, .i n] = eC ⟨t, n⟩ := rfl
abbrev i64 (n : Int) : Prop := -9223372036854775808 ≤ n ∧ n ≤ 9223372036854775807
def Ce.ok (c : Ce) : Prop := i64 c.t ∧ i64 c.n
def Un.ok (c : Un) : Prop := i64 c.at' ∧ c.old.ok
def Wk.ok (c : Wk) : Prop := i64 c.ser ∧ c.att.ok ∧ c.val.ok
def Sy.ok (c : Sy) : Prop := c.name.size ≤ LIM ∧ i64 c.ar
structure So.ok (s : So) : Prop where
 cs : s.cs.length ≤ 8796093021952 ∧ ∀ c ∈ s.cs, c.ok
 ys : s.ys.length ≤ 5864062014634 ∧ ∀ c ∈ s.ys, c.ok
 tr : s.tr.length ≤ 5864062014634 ∧ ∀ c ∈ s.tr, c.ok
 wk : s.wk.length ≤ 3518437208780 ∧ ∀ c ∈ s.wk, c.ok
 ser : i64 s.ser
 mx : i64 s.mx
theorem wfI {d : D} (h : Wf d (.int .i64)) : ∃ n, d = .i n ∧ i64 n := by
 obtain ⟨n, rfl, hn⟩ := h.int
 exact ⟨n, rfl, q5g.1 hn⟩
theorem wfC {d : D} (h : Wf d qbn) : ∃ c, d = eC c ∧ c.ok := by
 obtain ⟨ds, rfl, hl⟩ := h.st_of (fs := [.int .i64, .int .i64]) rfl
 obtain ⟨a, b, rfl, ha, hb⟩ := qvi hl
 obtain ⟨x, rfl, hx⟩ := wfI ha
 obtain ⟨y, rfl, hy⟩ := wfI hb
 exact ⟨⟨x, y⟩, rfl, hx, hy⟩
theorem wfU {d : D} (h : Wf d qx4) : ∃ c, d = eU c ∧ c.ok := by
 obtain ⟨ds, rfl, hl⟩ := h.st_of (fs := [.int .i64, qbn]) rfl
 obtain ⟨a, b, rfl, ha, hb⟩ := qvi hl
 obtain ⟨x, rfl, hx⟩ := wfI ha
 obtain ⟨y, rfl, hy⟩ := wfC hb
 exact ⟨⟨x, y⟩, rfl, hx, hy⟩
theorem wfW {d : D} (h : Wf d qwf) : ∃ c, d = eW c ∧ c.ok := by
 obtain ⟨ds, rfl, hl⟩ := h.st_of (fs := [.int .i64, qbn, qbn]) rfl
 obtain ⟨a, r, rfl, ha, hr⟩ := q7e hl
 obtain ⟨b, c, rfl, hb, hc⟩ := qvi hr
 obtain ⟨x, rfl, hx⟩ := wfI ha
 obtain ⟨y, rfl, hy⟩ := wfC hb
 obtain ⟨z, rfl, hz⟩ := wfC hc
 exact ⟨⟨x, y, z⟩, rfl, hx, hy, hz⟩
theorem wfY {d : D} (h : Wf d q1z) : ∃ c, d = eY c ∧ c.ok := by
 obtain ⟨ds, rfl, hl⟩ := h.st_of (fs := [.str, .int .i64]) rfl
 obtain ⟨a, b, rfl, ha, hb⟩ := qvi hl
 obtain ⟨x, rfl, hx⟩ := ha.str
 obtain ⟨y, rfl, hy⟩ := wfI hb
 exact ⟨⟨x, y⟩, rfl, hx, hy⟩
theorem zke {d : D} (h : Wf d z3e) : ∃ l : List Ce, d = .r (l.map eC) ∧ l.length ≤ 8796093021952 ∧ ∀ c ∈ l, c.ok := by
 obtain ⟨l, rfl, h1, h2⟩ := h.row_of (te := qbn) rfl
 obtain ⟨m, rfl, h3⟩ := q95 (e := eC) (P := Ce.ok) fun x hx => wfC (h2 x hx)
 have e : LM qbn = 8796093021952 := by kernel_rfl
 rw [e, List.length_map] at h1
 exact ⟨m, rfl, h1, h3⟩
theorem zki {d : D} (h : Wf d z3t) : ∃ l : List Un, d = .r (l.map eU) ∧ l.length ≤ 5864062014634 ∧ ∀ c ∈ l, c.ok := by
 obtain ⟨l, rfl, h1, h2⟩ := h.row_of (te := qx4) rfl
 obtain ⟨m, rfl, h3⟩ := q95 (e := eU) (P := Un.ok) fun x hx => wfU (h2 x hx)
 have e : LM qx4 = 5864062014634 := by kernel_rfl
 rw [e, List.length_map] at h1
 exact ⟨m, rfl, h1, h3⟩
theorem zk9 {d : D} (h : Wf d z44) : ∃ l : List Wk, d = .r (l.map eW) ∧ l.length ≤ 3518437208780 ∧ ∀ c ∈ l, c.ok := by
 obtain ⟨l, rfl, h1, h2⟩ := h.row_of (te := qwf) rfl
 obtain ⟨m, rfl, h3⟩ := q95 (e := eW) (P := Wk.ok) fun x hx => wfW (h2 x hx)
 have e : LM qwf = 3518437208780 := by kernel_rfl
 rw [e, List.length_map] at h1
 exact ⟨m, rfl, h1, h3⟩
theorem zk7 {d : D} (h : Wf d qtc) : ∃ l : List Sy, d = .r (l.map eY) ∧ l.length ≤ 5864062014634 ∧ ∀ c ∈ l, c.ok := by
 obtain ⟨l, rfl, h1, h2⟩ := h.row_of (te := q1z) rfl
 obtain ⟨m, rfl, h3⟩ := q95 (e := eY) (P := Sy.ok) fun x hx => wfY (h2 x hx)
 have e : LM q1z = 5864062014634 := by kernel_rfl
 rw [e, List.length_map] at h1
 exact ⟨m, rfl, h1, h3⟩
theorem wfS {d : D} (h : Wf d q6k) : ∃ s, d = eS s ∧ s.ok := by
 obtain ⟨ds, rfl, hl⟩ := h.st_of (fs := [z3e, qtc, z3t, z44, .int .i64, .int .i64]) rfl
 obtain ⟨d0, r, rfl, h0, hl⟩ := q7e hl
 obtain ⟨d1, r, rfl, h1, hl⟩ := q7e hl
 obtain ⟨d2, r, rfl, h2, hl⟩ := q7e hl
 obtain ⟨d3, r, rfl, h3, hl⟩ := q7e hl
 obtain ⟨d4, d5, rfl, h4, h5⟩ := qvi hl
 obtain ⟨cs, rfl, q0⟩ := zke h0
 obtain ⟨ys, rfl, q1⟩ := zk7 h1
 obtain ⟨tr, rfl, q2⟩ := zki h2
 obtain ⟨wk, rfl, q3⟩ := zk9 h3
 obtain ⟨x, rfl, q4⟩ := wfI h4
 obtain ⟨y, rfl, q5⟩ := wfI h5
 exact ⟨⟨cs, ys, tr, wk, x, y⟩, rfl, q0, q1, q2, q3, q4, q5⟩
def cellAt (s : So) (i : Int) : Ce := s.cs.getD i.toNat default
def inS (s : So) (i : Int) : Bool := decide (0 ≤ i) && decide (i < s.cs.length)
def q08 (s : So) (i : Int) : Int := if inS s i then (cellAt s i).t else -1
def arS (s : So) (n : Int) : Int := if 0 ≤ n ∧ n < s.ys.length then (s.ys.getD n.toNat default).ar else -1
def vcR (s : So) (c : Ce) : Bool := if c.t = 0 then inS s c.n && !decide (q08 s c.n = 4) else if c.t = 1 then true else if c.t = 2 then decide (arS s c.n = 0) else if c.t = 3 then decide (q08 s c.n = 4) else if c.t = 5 then decide (q08 s c.n = 5) else false
def vcP (s : So) (c : Ce) : Bool := if c.t = 0 then decide (0 ≤ q08 s c.n) && !decide (q08 s c.n = 4) else if c.t = 1 then true else if c.t = 2 then decide (arS s c.n = 0) else if c.t = 3 then decide (q08 s c.n = 4) else if c.t = 5 then decide (q08 s c.n = 5) else false
def q43 (s : So) (i : Int) : Bool := decide (q08 s (i + 1) = 1) && (decide (1 ≤ (cellAt s (i + 1)).n) && (decide ((cellAt s (i + 1)).n ≤ s.ser) && (decide (0 ≤ q08 s (i + 2)) && (!decide (q08 s (i + 2) = 4) && !decide (q08 s (i + 2) = 5)))))
def q8m (f : So → Int → Int) : List D → Option (List D)
 | [s, i] => some [.i (f (dS s) i.int)]
 | _ => none
def qih (f : So → Int → Bool) : List D → Option (List D)
 | [s, i] => some [.b (f (dS s) i.int)]
 | _ => none
def zb9 (q : So → Int → Bool) (f : So → Int → Bool) : List D → Option (List D)
 | [s, i] => if q (dS s) i.int then some [.b (f (dS s) i.int)] else none
 | _ => none
def qg8 (f : So → Ce → Bool) : List D → Option (List D)
 | [s, c] => some [.b (f (dS s) (dC c))]
 | _ => none
theorem qn {s : So} {i : Int} : inS s i = true ↔ 0 ≤ i ∧ i < s.cs.length := by simp [inS]
theorem j9 {s : So} {i : Int} (h : inS s i = true) : (D.r (s.cs.map eC)).get i = eC (cellAt s i) := z0d eC (qn.1 h).1 (qn.1 h).2
theorem z9 {s : So} {i : Int} (h : inS s i = true) : q08 s i = (cellAt s i).t := if_pos h
theorem q35 {s : So} {i : Int} (h : inS s i = false) : q08 s i = -1 := if_neg (by rw [h]; decide)
theorem q9t : FOk zt (qih inS) := qi3 fun ds outs hw hg => by
 obtain ⟨d, r, rfl, hd, e, r', rfl, he, rfl⟩ := hw
 obtain ⟨s, rfl, hs⟩ := wfS hd
 obtain ⟨i, rfl, hi⟩ := wfI he
 simp only [qih, z3, z5, Option.some.injEq] at hg
 subst hg
 simp only [q4i, Tree.go, qc, X.says, X.ev, X.evs, evl, qe, gnA, inS]
theorem qwr : FOk q1a (q8m q08) := qsi q9t fun ds outs hw hg => by
 obtain ⟨d, r, rfl, hd, e, r', rfl, he, rfl⟩ := hw
 obtain ⟨s, rfl, hs⟩ := wfS hd
 obtain ⟨i, rfl, hi⟩ := wfI he
 simp only [q8m, z3, z5, Option.some.injEq] at hg
 subst hg
 simp only [q7n, Tree.go, qc, X.says, X.ev, X.evs, evl, qe, gnA, qih, true_and]
 cases h : inS s i with
 | false => simp [q35 h]
 | true =>
  have h' := qn.1 h
  simp [j9 h, z72, z9 h, h']
theorem q6h : FOk y8 (q8m q08) := qsb fun ds outs hw hg => by
 obtain ⟨d, r, rfl, hd, e, r', rfl, he, rfl⟩ := hw
 obtain ⟨s, rfl, hs⟩ := wfS hd
 obtain ⟨i, rfl, hi⟩ := wfI he
 simp only [q8m, z3, z5, Option.some.injEq] at hg
 subst hg
 simp only [q6v, Tree.go, qc, X.says, X.ev, X.evs, evl, qe, gnA, true_and]
 cases h : inS s i with
 | false =>
  have h' : ¬ (0 ≤ i ∧ i < s.cs.length) := fun q => by rw [qn.2 q] at h; cases h
  have h2 : i < 0 ∨ (s.cs.length : Int) ≤ i := by omega
  simp [q35 h]
  omega
 | true =>
  have h' := qn.1 h
  have h1 : ¬ i < 0 := by omega
  have h2 : ¬ (s.cs.length : Int) ≤ i := by omega
  simp [j9 h, z72, z9 h, h', h1, h2]
theorem zcf {s : So} {i : Int} (h : 0 ≤ i ∧ i < s.ys.length) : (D.r (s.ys.map eY)).get i = eY (s.ys.getD i.toNat default) := z0d eY h.1 h.2
theorem qq9 : FOk jv (q8m arS) := qmf fun ds outs hw hg => by
 obtain ⟨d, r, rfl, hd, e, r', rfl, he, rfl⟩ := hw
 obtain ⟨s, rfl, hs⟩ := wfS hd
 obtain ⟨i, rfl, hi⟩ := wfI he
 simp only [q8m, z3, z5, Option.some.injEq] at hg
 subst hg
 simp only [q50, Tree.go, qc, X.says, X.ev, X.evs, evl, qe, gnA, true_and]
 by_cases h : 0 ≤ i ∧ i < s.ys.length
 ·have h1 : ¬ i < 0 := by omega
  have h2 : ¬ (s.ys.length : Int) ≤ i := by omega
  simp [zcf h, z6c, arS, h, h1, h2]
 ·simp [arS, h]
theorem qb3 : FOk yf (q8m arS) := qms fun ds outs hw hg => by
 obtain ⟨d, r, rfl, hd, e, r', rfl, he, rfl⟩ := hw
 obtain ⟨s, rfl, hs⟩ := wfS hd
 obtain ⟨i, rfl, hi⟩ := wfI he
 simp only [q8m, z3, z5, Option.some.injEq] at hg
 subst hg
 simp only [q56, Tree.go, qc, X.says, X.ev, X.evs, evl, qe, gnA, true_and]
 by_cases h : 0 ≤ i ∧ i < s.ys.length
 ·have h1 : ¬ i < 0 := by omega
  have h2 : ¬ (s.ys.length : Int) ≤ i := by omega
  simp [zcf h, z6c, arS, h, h1, h2]
 ·simp [arS, h]
theorem qf5 : FOk yq (qg8 vcR) := qdg q9t qwr qq9 fun ds outs hw hg => by
 obtain ⟨d, r, rfl, hd, e, r', rfl, he, rfl⟩ := hw
 obtain ⟨s, rfl, hs⟩ := wfS hd
 obtain ⟨c, rfl, hc⟩ := wfC he
 simp only [qg8, z3, ym, Option.some.injEq] at hg
 subst hg
 simp only [q2i, Tree.go, qc, X.says, X.ev, X.evs, evl, qe, gnA, qih, q8m, vcR, true_and]
 by_cases h0 : c.t = 0
 ·simp [h0]
 ·by_cases h1 : c.t = 1
  ·simp [h1]
  ·by_cases h2 : c.t = 2
   ·simp [h2]
   ·by_cases h3 : c.t = 3
    ·simp [h3]
    ·by_cases h5 : c.t = 5
     ·simp [h5]
     ·simp [h0, h1, h2, h3, h5]
theorem yk : FOk qh (qg8 vcP) := qct qb3 q6h fun ds outs hw hg => by
 obtain ⟨d, r, rfl, hd, e, r', rfl, he, rfl⟩ := hw
 obtain ⟨s, rfl, hs⟩ := wfS hd
 obtain ⟨c, rfl, hc⟩ := wfC he
 simp only [qg8, z3, ym, Option.some.injEq] at hg
 subst hg
 simp only [q2f, Tree.go, qc, X.says, X.ev, X.evs, evl, qe, gnA, q8m, vcP, true_and]
 by_cases h0 : c.t = 0
 ·simp [h0]
 ·by_cases h1 : c.t = 1
  ·simp [h1]
  ·by_cases h2 : c.t = 2
   ·simp [h2]
   ·by_cases h3 : c.t = 3
    ·simp [h3]
    ·by_cases h5 : c.t = 5
     ·simp [h5]
     ·simp [h0, h1, h2, h3, h5]
theorem tag_in {s : So} {i : Int} (h : q08 s i = 1) : inS s i = true := by
 cases hi : inS s i with
 | true => rfl
 | false => rw [q35 hi] at h; cases h
def okY (y : Sy) : Bool := decide (y.name.size ≤ 100) && (decide (0 ≤ y.ar) && decide (y.ar ≤ 8))
def qpd (l : List Sy) (k : Nat) : Bool := okY (l.getD k default) && !decide (l.getD k default ∈ l.take k)
def qbl (l : List Sy) : Bool := decide (l.length ≤ 1048576) && (List.range l.length).all (qpd l)
theorem zau {s : So} (h : qbl s.ys = true) (n : Int) : -1 ≤ arS s n ∧ arS s n ≤ 8 := by
 unfold arS
 split
 ·rename_i hn
  simp only [qbl, Bool.and_eq_true] at h
  have := q9b h.2 (k := n.toNat) (by omega)
  simp only [qpd, okY, Bool.and_eq_true, decide_eq_true_eq] at this
  omega
 ·omega
def q1g (s : So) : Nat → Int → Bool
 | 0, _ => false
 | k + 1, n => if q08 s n = 0 ∧ ¬ (cellAt s n).n = n then q1g s k (cellAt s n).n else true
def qub (s : So) (n : Int) : Bool := q1g s (s.cs.length + 1) n
theorem q2s {s : So} {i : Int} {t : Int} (ht : t ≠ -1) (h : q08 s i = t) : inS s i = true := by
 cases hi : inS s i with
 | true => rfl
 | false => rw [q35 hi] at h; exact absurd h.symm ht
def q3b (s : So) (i : Int) : Bool :=
 if (cellAt s i).t = 4 then decide (1 ≤ arS s (cellAt s i).n) && (inS s (i + arS s (cellAt s i).n) && (List.range (arS s (cellAt s i).n).toNat).all fun j => !decide (q08 s (i + ((j : Int) + 1)) = 4))
 else vcR s (cellAt s i) && (qub s i && (!decide ((cellAt s i).t = 5) || (decide ((cellAt s i).n = i) && q43 s i)))
def zf4 (vc : So → Ce → Bool) (rg : So → Int → Bool) (s : So) (u : Un) : Bool :=
 rg s u.at' && if u.old.t = 0 then decide (u.old.n = u.at') else if u.old.t = 5 then decide (u.old.n = u.at') && (q43 s u.at' && !decide (q08 s (u.at' - 1) = 5)) else if u.old.t = 1 ∨ u.old.t = 2 ∨ u.old.t = 3 then vc s u.old else false
def qsu : So → Un → Bool := zf4 vcR inS
section
section
variable {s : So}
def Ns (s : So) (n : Int) : Prop := q08 s n = 0 ∧ ¬ (cellAt s n).n = n
abbrev nx (s : So) (n : Int) : Int := (cellAt s n).n
theorem q07 {k : Nat} {n : Int} (h : Ns s n) : q1g s (k + 1) n = q1g s k (nx s n) := if_pos h
theorem q37 {k : Nat} {n : Int} (h : ¬ Ns s n) : q1g s (k + 1) n = true := if_neg h
theorem Ns.inS {n : Int} (h : Ns s n) : inS s n = true := q2s (by decide) h.1
theorem zb8 {k : Nat} : ∀ {n : Int}, q1g s k n = true → q1g s (k + 1) n = true := by
 induction k with
 | zero => intro n h; cases h
 | succ k ih =>
  intro n h
  by_cases hn : Ns s n
  ·rw [q07 hn] at h ⊢
   exact ih h
  ·exact q37 hn
theorem qbr {k j : Nat} (hk : k ≤ j) {n : Int} (h : q1g s k n = true) : q1g s j n = true := by
 obtain ⟨d, rfl⟩ := Nat.exists_eq_add_of_le hk
 clear hk
 induction d with
 | zero => exact h
 | succ d ih => exact zb8 ih
def En (s : So) (n : Int) : Prop := ∃ k, q1g s k n = true
theorem En.st {n : Int} (h : ¬ Ns s n) : En s n := ⟨1, q37 h⟩
theorem En.ns {n : Int} (h : Ns s n) (he : En s (nx s n)) : En s n := let ⟨k, hk⟩ := he; ⟨k + 1, (q07 h).trans hk⟩
theorem qpl : ∀ (n : Nat) (l : List Nat), l.Nodup → (∀ x ∈ l, x < n) → l.length ≤ n
 | 0, [], _, _ => Nat.le_refl _
 | 0, x :: l, _, h => absurd (h x List.mem_cons_self) (Nat.not_lt_zero _)
 | n + 1, l, hn, h => by
  have h1 := qpl n (l.erase n) (hn.erase n) fun x hx => by
   have h2 := (hn.mem_erase_iff).1 hx
   have := h x h2.2
   have := h2.1
   omega
  have h2 := List.length_erase (a := n) (l := l)
  split at h2 <;> omega
theorem quy : ∀ (k : Nat) (n : Int), q1g s (k + 1) n = true → q1g s k n = false → ∃ l : List Int, l.length = k ∧ l.Nodup ∧ (∀ x ∈ l, inS s x = true) ∧ ∀ x ∈ l, ∃ j, j ≤ k ∧ q1g s (j + 1) x = true
 | 0, n, _, _ => ⟨[], rfl, List.nodup_nil, (fun x hx => by cases hx), fun x hx => by cases hx⟩
 | k + 1, n, h1, h2 => by
  have hn : Ns s n := Classical.byContradiction fun hn => by rw [q37 hn] at h2; cases h2
  rw [q07 hn] at h1 h2
  obtain ⟨l, e1, e2, e3, e4⟩ := quy k _ h1 h2
  refine ⟨n :: l, by simp [e1], ?_, fun x hx => ?_, fun x hx => ?_⟩
  ·refine List.nodup_cons.2 ⟨fun hm => ?_, e2⟩
   obtain ⟨j, hj, he⟩ := e4 n hm
   rw [q07 hn] at he
   rw [qbr hj he] at h2
   cases h2
  ·rcases List.mem_cons.1 hx with rfl | hx
   ·exact hn.inS
   ·exact e3 x hx
  ·rcases List.mem_cons.1 hx with rfl | hx
   ·exact ⟨k + 1, Nat.le_refl _, by rw [q07 hn]; exact h1⟩
   ·obtain ⟨j, hj, he⟩ := e4 x hx
    exact ⟨j, by omega, he⟩
theorem En.ends {n : Int} (h : En s n) : qub s n = true := by
 obtain ⟨k, hk⟩ := h
 induction k with
 | zero => cases hk
 | succ k ih =>
  cases hk' : q1g s k n with
  | true => exact ih hk'
  | false =>
   obtain ⟨l, e1, e2, e3, -⟩ := quy k n hk hk'
   have h1 := qpl s.cs.length (l.map Int.toNat) ?_ ?_
   ·rw [List.length_map, e1] at h1
    exact qbr (by omega) hk
   ·refine List.Pairwise.map _ (fun a b h => h) ?_
    refine List.Pairwise.imp_of_mem (R := fun a b => a ≠ b) (fun {a b} ha hb hab e => hab ?_) e2
    have h1 := qn.1 (e3 a ha)
    have h2 := qn.1 (e3 b hb)
    omega
   ·intro x hx
    obtain ⟨a, ha, rfl⟩ := List.mem_map.1 hx
    have h1 := qn.1 (e3 a ha)
    omega
end
end
instance {s : So} {n : Int} : Decidable (Ns s n) := inferInstanceAs (Decidable (_ ∧ _))
def wkB (vc : So → Ce → Bool) (s : So) (w : Wk) : Bool := decide (1 ≤ w.ser) && (decide (w.ser ≤ s.ser) && (vc s w.att && vc s w.val))
def qgx (s : So) : Bool := decide (1 ≤ s.mx) && (decide (s.mx ≤ 1048576) && (decide ((s.cs.length : Int) ≤ s.mx) && (decide (0 ≤ s.ser) && qbl s.ys)))
def qs (s : So) : Bool := qgx s && ((List.range s.cs.length).all (fun i => q3b s (i : Nat)) && ((List.range s.tr.length).all (fun i => qsu s (s.tr.getD i default)) && (List.range s.wk.length).all fun i => wkB vcR s (s.wk.getD i default)))
theorem qbe {s : So} {n : Int} (h : 0 ≤ q08 s n) : inS s n = true := by
 cases hi : inS s n with
 | true => rfl
 | false => rw [q35 hi] at h; omega
def gEq : List D → Option (List D)
 | [a, b] => some [.b (decide (a = b))]
 | _ => none
def zkm (n : Nat) (d : D) : Bool := decide (d.rs.length ≤ n)
def gCl (n : Nat) : List D → Option (List D)
 | [a] => if zkm n a then some [a] else none
 | _ => none
def clQ (s : So) : Bool := decide (s.cs.length ≤ 8796093021952) && (decide (s.ys.length ≤ 5864062014634) && (decide (s.tr.length ≤ 5864062014634) && decide (s.wk.length ≤ 3518437208780)))
def qxf : List D → Option (List D)
 | [s] => if clQ (dS s) then some [eS (dS s)] else none
 | _ => none
theorem zig {s : So} (hs : s.ok) : clQ s = true := by
 simp only [clQ, Bool.and_eq_true, decide_eq_true_eq]
 exact ⟨hs.cs.1, hs.ys.1, hs.tr.1, hs.wk.1⟩
theorem qq7 : FOk jy qxf := qmk fun ds outs hw hg => by
 obtain ⟨d, r, rfl, hd, rfl⟩ := hw
 obtain ⟨s, rfl, hs⟩ := wfS hd
 simp only [qxf, z3, Option.ite_none_right_eq_some, Option.some.injEq] at hg
 obtain ⟨hq, rfl⟩ := hg
 simp only [clQ, Bool.and_eq_true, decide_eq_true_eq] at hq
 simp only [q4p, q9, qd, qa, qb, qc, X.says, X.ev, X.evs, evl, qe, gnA, eS, D.fs, D.fld]
 simp
 omega
def zim : List D → Option (List D) := fun _ => some [.b true]
def fnd (nm : ByteArray) (ar : Int) : Nat → List Sy → Int
 | _, [] => -1
 | k, y :: l => if y.name = nm ∧ y.ar = ar then (k : Int) else fnd nm ar (k + 1) l
def q77 (s : So) (nm : ByteArray) (ar : Int) : Int := fnd nm ar 0 s.ys
theorem q4o {α : Type} [Inhabited α] {l : List α} {k : Nat} (h : k < l.length) : l.drop k = l.getD k default :: l.drop (k + 1) := by
 rw [List.drop_eq_getElem_cons h]
 simp [List.getD_eq_getElem?_getD, h]
theorem zcq {nm : ByteArray} {ar : Int} {l : List Sy} {k : Nat} (h : k < l.length) : fnd nm ar k (l.drop k) = if (l.getD k default).name = nm ∧ (l.getD k default).ar = ar then (k : Int) else fnd nm ar (k + 1) (l.drop (k + 1)) := by
 rw [q4o h]
 rfl
theorem z4f {nm : ByteArray} {ar : Int} : ∀ (k : Nat) (l : List Sy), fnd nm ar k l = -1 ∨ ((k : Int) ≤ fnd nm ar k l ∧ fnd nm ar k l < k + l.length)
 | k, [] => .inl rfl
 | k, y :: l => by
  unfold fnd
  split
  ·exact .inr ⟨Int.le_refl _, by simp; omega⟩
  ·rcases z4f (nm := nm) (ar := ar) (k + 1) l with h | ⟨h1, h2⟩
   ·exact .inl h
   ·exact .inr ⟨by omega, by simp; omega⟩
def zkb : List D → Option (List D)
 | [s, y] => some [.i (q77 (dS s) (y.fld 0).str (y.fld 1).int)]
 | _ => none
def z8g : List D → Option (List D)
 | [s, nm, ar] => some [.i (q77 (dS s) nm.str ar.int)]
 | _ => none
theorem qt2 : FOk q38 z8g := qoy fun ds outs hw hg => by
 obtain ⟨d, r, rfl, hd, e, r', rfl, he, f, r2, rfl, hf', rfl⟩ := hw
 obtain ⟨s, rfl, hs⟩ := wfS hd
 obtain ⟨nm, rfl, hn⟩ := he.str
 obtain ⟨ar, rfl, ha⟩ := wfI hf'
 simp only [z8g, z3, qkh, z5, Option.some.injEq] at hg
 subst hg
 have hl := hs.ys.1
 rw [q5z, zi]
 refine ⟨fun st => ∃ k : Nat, k ≤ s.ys.length ∧ st = [.i 0, .i k] ∧ fnd nm ar k (s.ys.drop k) = q77 s nm ar, fun st => s.ys.length - (st.getD 1 .u).int.toNat, ⟨0, Nat.zero_le _, rfl, rfl⟩, ?_⟩
 rintro st - ⟨k, hk, rfl, hf⟩
 simp only [q9, qd, qa, qb, qc, X.says, X.ev, X.evs, evl, qe, gnA]
 refine ⟨fun hlt => ?_, fun hlt => ?_⟩
 ·have hkn : k < s.ys.length := by omega
  rw [zcq hkn] at hf
  simp only [q27 eY hkn, zee, z6c, z8n, qq6]
  generalize s.ys.getD k default = z at hf
  refine ⟨⟨by omega, by omega, by simp, by simp; omega⟩, fun he => ?_, fun he => ⟨⟨by omega, by omega⟩, ?_⟩⟩
  ·have he' : z.name = nm ∧ z.ar = ar := by simpa using he
   rw [if_pos he'] at hf
   rw [← hf]
  ·have he' : ¬ (z.name = nm ∧ z.ar = ar) := by simpa using he
   rw [if_neg he'] at hf
   rw [jm, if_pos rfl]
   refine ⟨⟨k + 1, hkn, by simp, hf⟩, ?_⟩
   simp [D.int]
   omega
 ·have : k = s.ys.length := by omega
  subst this
  rw [List.drop_length] at hf
  rw [← hf]
  rfl
structure VS (s : So) : Prop where
 tag : ∀ i : Int, inS s i = true → 0 ≤ (cellAt s i).t ∧ (cellAt s i).t ≤ 5
theorem qmx {s : So} {c : Ce} (h : vcR s c = true) : c.t = 0 ∨ c.t = 1 ∨ c.t = 2 ∨ c.t = 3 ∨ c.t = 5 := by
 unfold vcR at h
 by_cases h0 : c.t = 0
 ·exact .inl h0
 ·by_cases h1 : c.t = 1
  ·exact .inr (.inl h1)
  ·by_cases h2 : c.t = 2
   ·exact .inr (.inr (.inl h2))
   ·by_cases h3 : c.t = 3
    ·exact .inr (.inr (.inr (.inl h3)))
    ·by_cases h5 : c.t = 5
     ·exact .inr (.inr (.inr (.inr h5)))
     ·simp [h0, h1, h2, h3, h5] at h
theorem q3u {s : So} (h : qs s = true) : VS s := by
 simp only [qs, Bool.and_eq_true] at h
 refine ⟨fun i hi => ?_⟩
 have h1 := qn.1 hi
 have hk := q9b h.2.1 (k := i.toNat) (by omega)
 rw [show ((i.toNat : Nat) : Int) = i by omega] at hk
 unfold q3b at hk
 by_cases h4 : (cellAt s i).t = 4
 ·omega
 ·rw [if_neg h4] at hk
  simp only [Bool.and_eq_true] at hk
  have := qmx hk.1
  omega
theorem VS.tag_in {s : So} (h : VS s) (n : Int) : decide (0 ≤ q08 s n) = inS s n := by
 cases hi : inS s n with
 | true =>
  rw [z9 hi]
  exact decide_eq_true (h.tag n hi).1
 | false =>
  rw [q35 hi]
  decide
theorem VS.vc {s : So} (h : VS s) (c : Ce) : vcP s c = vcR s c := by
 unfold vcP vcR
 rw [h.tag_in]
def so0 : So := ⟨[], [], [], [], 0, 0⟩
def qxz (n : Int) : Bool := decide (n < 1) || decide (1048576 < n)
def zgq : List D → Option (List D)
 | [n] => if qxz n.int then some [eS so0, .i 1] else some [eS { so0 with mx := n.int }, .i 0]
 | _ => none
theorem qxk : FOk q16 zgq := qsc fun ds outs hw hg => by
 obtain ⟨d, r, rfl, hd, rfl⟩ := hw
 obtain ⟨n, rfl, hn⟩ := wfI hd
 have hg2 : (if qxz n = true then some [eS so0, D.i 1] else some [eS { so0 with mx := n }, D.i 0]) = some outs := hg
 clear hg
 simp only [q6r, q9, qd, qa, qb, qc, X.says, X.ev, X.evs, evl, qe, gnA]
 cases hb : qxz n with
 | true =>
  rw [hb, if_pos rfl] at hg2
  have hb' : (decide (n < 1) || decide (1048576 < n)) = true := hb
  rw [hb']
  exact ⟨fun _ => Option.some.inj hg2, fun h => (by cases h)⟩
 | false =>
  rw [hb] at hg2
  have hb' : (decide (n < 1) || decide (1048576 < n)) = false := hb
  rw [hb']
  exact ⟨fun h => (by cases h), fun _ => Option.some.inj hg2⟩
end Go.Proofs.Ytaoamndcdjelnaa
