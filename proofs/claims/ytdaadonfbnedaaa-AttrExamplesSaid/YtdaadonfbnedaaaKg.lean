/-
 Lemmas of the walk and plain laws, put together. No condition.
-/
import Derived.Deep.AppendSrc
import Derived.StillTailTactics
import Derived.TacticsInMore
import Derived.Test.YtdaadonfbnedaaaKf
namespace Go.Proofs.Ytdaadonfbnedaaa
open Go.RowKit
set_option linter.unusedVariables false
set_option linter.unusedSimpArgs false
set_option maxRecDepth 100000
def q0a : Ct := ⟨11, [.ref (.st 26) true, .val (.st 32), .val (.str), .val (.st 32)], [(.int .i64, false)], [], none, [], []⟩
theorem qmb : EnZ q0a := fun _ _ => by kernel_rfl
def qfp : Ann := ⟨[0, 1, 2, 3, 5, 7, 8, 9, 10, 11, 12, 13, 14, 16, 52, 62, 76, 78, 86, 90, 114], []⟩
def q9c : Tree :=
 let i : X := .tok 0
 let t : X := .lit (.i 13)
 let u : X := .lit (.i 3)
 let x : X := .lit (.i 1)
 let c1 : X := .lit (.i 0)
 let f : X := .call 0 0 [i, (.tok 1)]
 let a : X := .call 3 0 [i, f]
 let q : X := .fld f 1
 let v : X := .eq (.fld f 0) (.lit (.i 5))
 let e : X := .app a (.row [(.mk [(.tok 2), (.tok 3)])])
 let h : X := .call 4 0 [a, (.tok 2)]
 let k : X := .add q (.lit (.i 2))
 let o : X := .or (.or (.not (.call 0 1 [i, (.tok 1)])) (.and v (.not (.call 1 0 [i, f])))) (.lt (.lit (.i 100)) (.slen (.tok 2)))
 let l : X := .set (.get a h) 1 (.tok 3)
 let m : X := .call 5 2 [i, e]
 let r : X := .call 5 0 [i, e]
 let w : X := .call 5 1 [i, e]
 let b : X := .call 5 2 [i, (.put a h l)]
 let c : X := .set m 4 (.add (.fld m 4) x)
 let p : X := .call 5 0 [i, (.put a h l)]
 let s : X := .call 5 1 [i, (.put a h l)]
 let a1 : X := .call 6 0 [m, k, r]
 let j : X := .mk [(.lit (.i 5)), (.len (.fld (.set b 4 (.add (.fld b 4) x)) 0))]
 let n : X := .mk [(.lit (.i 5)), (.len (.fld c 0))]
 let y : X := .call 6 0 [b, k, p]
 let d : X := .set (.set b 4 (.add (.fld b 4) x)) 0 (.app (.fld (.set b 4 (.add (.fld b 4) x)) 0) (.row [j, (.mk [x, (.fld (.set b 4 (.add (.fld b 4) x)) 4)]), p]))
 let g : X := .set c 0 (.app (.fld c 0) (.row [n, (.mk [x, (.fld c 4)]), r]))
 let z : X := .call 6 0 [d, q, j]
 let b1 : X := .call 6 0 [g, q, n]
 (.need [(.ok 0 [i, (.tok 1)]), (.ok 0 [i, (.tok 1)])] (.need [(.imp (.not o) (.ok 2 [i, (.tok 3)])), (.imp (.and (.not (.not (.call 0 1 [i, (.tok 1)]))) v) (.ok 1 [i, f]))] (.br (.or o (.not (.call 2 0 [i, (.tok 3)]))) (.leaf [x, i]) (.need [(.ok 3 [i, f])] (.need [(.ok 4 [a, (.tok 2)])] (.br (.le c1 h) (.need [(.le c1 h), (.lt h (.len a))] (.br (.lt (.lit (.i 499)) (.len (.put a h l))) (.leaf [(.lit (.i 2)), i]) (.need [(.ok 5 [i, (.put a h l)])] (.br (.not (.eq s c1)) (.need [(.ok 7 [s, b, i])] (.leaf [s, (.call 7 0 [s, b, i])])) (.br v (.need [(.rng .i64 k), (.ok 6 [b, k, p])] (.need [(.ok 7 [y, (.call 6 1 [b, k, p]), i])] (.leaf [y, (.call 7 0 [y, (.call 6 1 [b, k, p]), i])]))) (.need [(.rng .i64 (.sub (.fld b 5) u))] (.br (.or (.lt (.sub (.fld b 5) u) (.len (.fld b 0))) (.le (.lit (.i 1099511627776)) (.fld b 4))) (.need [(.ok 7 [t, b, i])] (.leaf [t, (.call 7 0 [t, b, i])])) (.need [(.rng .i64 (.add (.fld b 4) x))] (.need [(.le (.add (.len (.fld (.set b 4 (.add (.fld b 4) x)) 0)) u) (.lit (.i 8796093021952)))] (.need [(.ok 6 [d, q, j])] (.need [(.ok 7 [z, (.call 6 1 [d, q, j]), i])] (.leaf [z, (.call 7 0 [z, (.call 6 1 [d, q, j]), i])])))))))))))) (.need [(.le (.add (.len a) x) (.lit (.i 4398046510976)))] (.br (.lt (.lit (.i 499)) (.len e)) (.leaf [(.lit (.i 2)), i]) (.need [(.ok 5 [i, e])] (.br (.not (.eq w c1)) (.need [(.ok 7 [w, m, i])] (.leaf [w, (.call 7 0 [w, m, i])])) (.br v (.need [(.rng .i64 k), (.ok 6 [m, k, r])] (.need [(.ok 7 [a1, (.call 6 1 [m, k, r]), i])] (.leaf [a1, (.call 7 0 [a1, (.call 6 1 [m, k, r]), i])]))) (.need [(.rng .i64 (.sub (.fld m 5) u))] (.br (.or (.lt (.sub (.fld m 5) u) (.len (.fld m 0))) (.le (.lit (.i 1099511627776)) (.fld m 4))) (.need [(.ok 7 [t, m, i])] (.leaf [t, (.call 7 0 [t, m, i])])) (.need [(.rng .i64 (.add (.fld m 4) x))] (.need [(.le (.add (.len (.fld c 0)) u) (.lit (.i 8796093021952)))] (.need [(.ok 6 [g, q, n])] (.need [(.ok 7 [b1, (.call 6 1 [g, q, n]), i])] (.leaf [b1, (.call 7 0 [b1, (.call 6 1 [g, q, n]), i])]))))))))))))))))))
theorem qpz (g0 g1 g2 g3 g4 g5 g6 : List D → Option (List D)) : ∀ cd, Try.f11.body = some cd → qzr Try.prog [(qw, g0), (y7, g1), (qm, g2), (zn, g3), (yg, g4), (j9, g5), (zw, g6), (qh2, q47)] qfp q0a Try.f11 7 cd = q9c := by
 intro cd h
 injection h with h
 subst h
 kernel_rfl
theorem qrs {g0 g1 g2 g3 g4 g5 g6 : List D → Option (List D)} {g : List D → Option (List D)} (h0 : FOk qw g0) (h1 : FOk y7 g1) (h2 : FOk qm g2) (h3 : FOk zn g3) (h4 : FOk yg g4) (h5 : FOk j9 g5) (h6 : FOk zw g6) (h : ∀ ds outs, WfA q0a.ars ds → g ds = some outs → q9c.go (qe [(qw, g0), (y7, g1), (qm, g2), (zn, g3), (yg, g4), (j9, g5), (zw, g6), (qh2, q47)]) (fun o => o = outs) ds fun _ _ => False) : FOk q0a g :=
 FOk.of_at qmb fun ds outs hw hg => qvm qfp Try.f11 7 _ (.cons h0 (.cons h1 (.cons h2 (.cons h3 (.cons h4 (.cons h5 (.cons h6 (.cons qtw .nil)))))))) (fun _ => rfl) rfl rfl (by decide) rfl (by rw [qpz g0 g1 g2 g3 g4 g5 g6 _ rfl]; exact h ds outs hw hg)
def q2k : Ct := ⟨25, [.ref (.st 26) true, .val (.st 32), .val (.str)], [(.int .i64, false)], [], none, [], []⟩
theorem qm3 : EnZ q2k := fun _ _ => by kernel_rfl
def qf3 : Ann := ⟨[0, 1, 2, 4, 6, 7, 8, 9, 10, 11, 13, 28, 38, 44, 46, 58], []⟩
def q93 : Tree :=
 let c : X := .tok 0
 let j : X := .lit (.i 1)
 let k : X := .lit (.i 0)
 let b : X := .call 0 0 [c, (.tok 1)]
 let d : X := .add (.fld b 1) (.lit (.i 2))
 let e : X := .call 2 0 [(.call 1 0 [c, b]), (.tok 2)]
 let a : X := .call 4 0 [(.call 1 0 [c, b]), e, (.add e j)]
 let f : X := .call 5 2 [c, a]
 let g : X := .call 5 0 [c, a]
 let h : X := .call 5 1 [c, a]
 let i : X := .call 6 0 [f, d, g]
 (.need [(.ok 0 [c, (.tok 1)]), (.ok 0 [c, (.tok 1)])] (.br (.or (.not (.call 0 1 [c, (.tok 1)])) (.lt (.lit (.i 100)) (.slen (.tok 2)))) (.leaf [j, c]) (.need [(.ok 1 [c, b])] (.need [(.ok 2 [(.call 1 0 [c, b]), (.tok 2)])] (.br (.lt e k) (.leaf [k, c]) (.need [(.ok 3 [c, b])] (.br (.not (.call 3 0 [c, b])) (.leaf [j, c]) (.need [(.rng .i64 (.add e j)), (.ok 4 [(.call 1 0 [c, b]), e, (.add e j)]), (.ok 5 [c, a])] (.br (.not (.eq h k)) (.need [(.ok 7 [h, f, c])] (.leaf [h, (.call 7 0 [h, f, c])])) (.need [(.rng .i64 d), (.ok 6 [f, d, g])] (.need [(.ok 7 [i, (.call 6 1 [f, d, g]), c])] (.leaf [i, (.call 7 0 [i, (.call 6 1 [f, d, g]), c])]))))))))))))
theorem qou (g0 g1 g2 g3 g4 g5 g6 : List D → Option (List D)) : ∀ cd, Try.f25.body = some cd → qzr Try.prog [(qw, g0), (zn, g1), (yg, g2), (y7, g3), (yu, g4), (j9, g5), (zw, g6), (qh2, q47)] qf3 q2k Try.f25 7 cd = q93 := by
 intro cd h
 injection h with h
 subst h
 kernel_rfl
theorem qu7 {g0 g1 g2 g3 g4 g5 g6 : List D → Option (List D)} {g : List D → Option (List D)} (h0 : FOk qw g0) (h1 : FOk zn g1) (h2 : FOk yg g2) (h3 : FOk y7 g3) (h4 : FOk yu g4) (h5 : FOk j9 g5) (h6 : FOk zw g6) (h : ∀ ds outs, WfA q2k.ars ds → g ds = some outs → q93.go (qe [(qw, g0), (zn, g1), (yg, g2), (y7, g3), (yu, g4), (j9, g5), (zw, g6), (qh2, q47)]) (fun o => o = outs) ds fun _ _ => False) : FOk q2k g :=
 FOk.of_at qm3 fun ds outs hw hg => qvm qf3 Try.f25 7 _ (.cons h0 (.cons h1 (.cons h2 (.cons h3 (.cons h4 (.cons h5 (.cons h6 (.cons qtw .nil)))))))) (fun _ => rfl) rfl rfl (by decide) rfl (by rw [qou g0 g1 g2 g3 g4 g5 g6 _ rfl]; exact h ds outs hw hg)
def y9 : Ct := ⟨14, [.ref (.st 26) true], [(.row 33, true), (.int .i64, false)], [], none, [], []⟩
theorem q1p : EnZ y9 := fun _ _ => by kernel_rfl
section
open Go.RowKit Go.Shelf
noncomputable def wkC : Code := match Try.f14.body with
 | some c => c
 | none => .skip
def rgO : Code → List Oper
 | .region _ ops _ => ops.toList
 | _ => []
noncomputable def zez : List Code := [sqL wkC, sqL (sqR wkC)]
noncomputable def zcx : List Oper := rgO (sqL (sqR (sqR wkC)))
noncomputable def q4x : Code := sqR (sqR (sqR wkC))
noncomputable def qxu : Code := sqR (sqR q4x)
noncomputable def zf9 : List Code := [sqL q4x, sqL (sqR q4x), sqL (sqL qxu)]
noncomputable def qcv : Code := lpC (bkC (sqR (sqL qxu)))
noncomputable def wkZ : Code := sqR qxu
noncomputable def z8c : Code := bkC (sqL (sqR (sqR qcv)))
noncomputable def wkH : List Code := [sqL qcv, sqL (sqR qcv)]
noncomputable def wkR : List Code := [sqL z8c]
noncomputable def wkY : Code := sqL (sqR z8c)
noncomputable def zje : Nat := match wkY with
 | .region i _ _ => i
 | _ => 0
def z7s : List Oper := [(.mk (.some 30) (.load 37 (.tmp 1)) 37 "attr.go:278" (.mk []) .none), (.mk (.some 31) (.nilCheck (.tmp 30)) 0 "attr.go:278" (.mk [(.mk 0 .data)]) .none), (.mk (.some 32) (.load 27 (.tmp 31)) 27 "attr.go:278" (.mk [(.mk 1 .data)]) .none), (.mk (.some 33) (.fieldAddr 65 (.tmp 6) 1) 0 "attr.go:278" (.mk []) .none), (.mk (.some 34) (.load 33 (.tmp 33)) 33 "attr.go:278" (.mk [(.mk 3 .data)]) .none), (.mk (.some 35) (.call (.mk (.value (.func 49)) (.mk [(.tmp 32), (.tmp 34)]) (.mk [27, 33]))) 92 "attr.go:278" (.mk [(.mk 2 .data), (.mk 4 .data)]) .none)]
noncomputable def wkN : List Code := [sqR (sqR (sqR qcv))]
noncomputable def wkF : Code := bkC (sqR (sqR z8c))
noncomputable def z4i : Code := match wkF with
 | .rangeFunc _ _ a _ => a
 | _ => .skip
noncomputable def qy9 : Code := match wkF with
 | .rangeFunc _ _ _ b => bkC b
 | _ => .skip
def q6j : Ann := ⟨[0, 1, 2, 3, 4, 6, 7, 8, 9, 10, 12, 14, 16, 24, 25, 26, 27, 35, 36, 37, 58], []⟩
def q44 : Tbl := [(jl, gCl 3518437208780), (zp, zaq), (qh2, q47)]
def qpp (m0 m1 m2 m3 : Int) : Tbl := [(j5 y9.f qn, fun _ => some [.i m0]), (j5 y9.f j4, fun _ => some [.i m1]), (j5 y9.f q17, fun _ => some [.i m2]), (j5 y9.f zs, fun _ => some [.i m3]), (zz, gSt q4c), (q1i, zb9), (jb, gSL qd9), (zl, qxf)]
abbrev wkI : List Item := [(24, q2s, [(0, 385)], []), (25, .int .i64, [], []), (26, .int .i64, [], [])]
abbrev wkM : List Item := [(0, qj, qu 0 qj, []), (2, zj, [(0, 33)], []), (3, zu, [], [])]
def wkQ : St := ⟨[(0, .ref 0 [] 0 qj), (1, .bx 1 37 (.ref 0 [] 0 qj)), (2, .ref 2 [] 0 zj), (3, .sn (VB + 3) (.ref 3 [] 0 zu)), (24, .any), (25, .any), (26, .any)], []⟩
def zim : St := (.mk [(24, (.v (.tok 1) (.row 65) [(0, 385)] [])), (25, (.v (.tok 2) (.int .i64) [] [])), (26, (.v (.tok 3) (.int .i64) [] [])), (0, (.ref 0 [] 0 (.st 26))), (1, (.bx 1 37 (.ref 0 [] 0 (.st 26)))), (2, (.ref 2 [] 0 (.row 33))), (3, (.sn 100003 (.ref 3 [] 0 (.int .i64))))] [(0, (.mk (.tok 4) (.st 26) [(0, 1), (1, 2), (2, 3), (3, 4)] [])), (2, (.mk (.tok 5) (.row 33) [(0, 33)] [])), (3, (.mk (.tok 6) (.int .i64) [] []))])
theorem z8l : q1u wkI wkM 1 (q16 wkI wkM [] 1 wkQ) = zim := by kernel_rfl
noncomputable def wkK : Nat → St → Nat → Nat → X → Tree := fun n σ ks te was => if Nat.beq n 1 && (Nat.beq ks 0 && (Nat.beq te 3 && X.beq was (.tok 0))) then q3w Try.prog q44 q6j 1 69 zf9 n σ (toN wkI wkM [] wkQ) else .bad 4
theorem z99 : wkY = .region zje z7s.toArray true := by kernel_rfl
def zhh : Tree := (.need [(.ok 0 [(.fld (.tok 0) 3)])] (.need [(.ok 1 [(.call 0 0 [(.fld (.tok 0) 3)])])] (.leaf [(.call 0 0 [(.fld (.tok 0) 3)]), (.len (.call 0 0 [(.fld (.tok 0) 3)])), (.lit (.i 0)), (.tok 0), (.lit (.r [])), (.lit (.i 0))])))
theorem zby : q3w Try.prog q44 q6j 1 69 zez 1 (qn9 y9) (zfn Try.prog q44 y9 Try.f14 zcx wkK) = zhh := by kernel_rfl
def q45 : St := ⟨[(0, .ref 0 [] 0 qj), (1, .bx 1 37 (.ref 0 [] 0 qj)), (2, .ref 2 [] 0 zj), (3, .sn (VB + 3) (.ref 3 [] 0 zu)), (24, .v (.tok 1) q2s [(0, 385)] []), (25, .v (.len (.tok 1)) (.int .i64) [] []), (26, .v (.tok 2) (.int .i64) [] [])], [(0, ⟨.tok 3, qj, qu 0 qj, []⟩), (2, ⟨.tok 4, zj, [(0, 33)], []⟩), (3, ⟨.tok 5, zu, [], []⟩)]⟩
theorem z48 : q1u [] [] 6 (q16 [] [] [] 6 q45) = q45 := by kernel_rfl
def zhg : St := (.mk [(26, (.v (.tok 6) (.int .i64) [] [])), (0, (.ref 0 [] 0 (.st 26))), (1, (.bx 1 37 (.ref 0 [] 0 (.st 26)))), (2, (.ref 2 [] 0 (.row 33))), (3, (.sn 100003 (.ref 3 [] 0 (.int .i64)))), (24, (.v (.tok 1) (.row 65) [(0, 385)] [])), (25, (.v (.len (.tok 1)) (.int .i64) [] []))] [(0, (.mk (.tok 3) (.st 26) [(0, 1), (1, 2), (2, 3), (3, 4)] [])), (2, (.mk (.tok 4) (.row 33) [(0, 33)] [])), (3, (.mk (.tok 5) (.int .i64) [] []))])
theorem z8r : q1u [(26, .int .i64, [], [])] [] 6 (q16 [(26, .int .i64, [], [])] [] [] 6 ⟨q45.t.filter (fun e => !Nat.beq e.1 26), q45.m⟩) = zhg := by kernel_rfl
def zh8 : Nat → ResD → St → Tree := fun n r σ => match r with
 | .normal => .need [.lt (.tok 2) (.len (.tok 1))] (qj3 [] [] [] q45 n .normal σ)
 | .exit 0 => .need [.not (.lt (.tok 2) (.len (.tok 1)))] (qj3 [] [] [] q45 n .normal σ)
 | _ => .bad 1
def zht : Tree := (.br (.lt (.tok 2) (.len (.tok 1))) (.need [(.lt (.tok 2) (.len (.tok 1)))] (.leaf [])) (.need [(.not (.lt (.tok 2) (.len (.tok 1))))] (.leaf [])))
theorem zan : q3w Try.prog q44 q6j 1 69 wkH 6 q45 zh8 = zht := by kernel_rfl
def z9o : St := ⟨q45.t ++ [(6, .ref 6 [] 0 zs)], []⟩
abbrev zb0 : List Item := [(0, qj, qu 0 qj, []), (2, zj, [(0, 33)], []), (3, zu, [], []), (6, zs, [], [])]
def zbd : St := ⟨z9o.t, [(0, ⟨.tok 6, qj, qu 0 qj, []⟩), (2, ⟨.tok 7, zj, [(0, 33)], []⟩), (3, ⟨.tok 8, zu, [], []⟩), (6, ⟨.tok 9, zs, [], []⟩)]⟩
theorem z8t : q1u [] zb0 6 (q16 [] zb0 [] 6 z9o) = zbd := by kernel_rfl
def zik : Tree := (.need [(.le (.lit (.i 0)) (.tok 2)), (.lt (.tok 2) (.len (.tok 1)))] (.leaf [(.tok 3), (.tok 4), (.tok 5), (.get (.tok 1) (.tok 2))]))
theorem zar : q3w Try.prog q44 q6j 1 69 wkR 6 q45 (toN [] zb0 [] z9o) = zik := by kernel_rfl
def qi6 : List (Nat × AV) := [(0, .sn 0 (.ref 0 [] 0 qj)), (1, .sn 1 (.bx 1 37 (.ref 0 [] 0 qj))), (2, .sn 2 (.ref 2 [] 0 zj)), (3, .sn 3 (.ref 3 [] 0 zu)), (6, .sn 6 (.ref 6 [] 0 zs)), (24, .sn 24 (.v (.tok 4) q2s [(0, 385)] []))]
def z7w : List (Nat × Ent) := [(0, ⟨.tok 1, qj, qu 0 qj, []⟩), (2, ⟨.tok 2, zj, [(0, 33)], []⟩), (3, ⟨.tok 3, zu, [], []⟩), (6, ⟨.tok 0, zs, [], []⟩)]
def qu0 : St := ⟨qi6, z7w⟩
noncomputable def qfi : List Code := [sqL qy9, sqL (sqR qy9), sqL (sqR (sqR qy9))]
noncomputable def z16 : Code := sqR (sqR (sqR qy9))
theorem z0i : qy9 = seqs qfi z16 := by kernel_rfl
def zff : List (Nat × AV) := [(0, .sn 0 (.ref 0 [] 0 qj)), (1, .sn 1 (.bx 1 37 (.ref 0 [] 0 qj))), (2, .sn 2 .any), (3, .sn 3 (.ref 3 [] 0 zu)), (6, .sn 6 (.ref 6 [] 0 zs)), (24, .sn 24 (.v (.tok 4) q2s [(0, 385)] []))]
def z8m : St := ⟨zff ++ [(36, .v (.tok 5) .str [] []), (37, .v (.tok 6) qn [] [])], [(0, ⟨.tok 1, qj, qu 0 qj, []⟩), (3, ⟨.tok 3, zu, [], []⟩), (6, ⟨.tok 0, zs, [], []⟩)]⟩
def qu9 : St := ⟨zff ++ [(7, .v (.tok 5) .str [] []), (8, .ref 8 [] 0 qn)], [(0, ⟨.tok 1, qj, qu 0 qj, []⟩), (3, ⟨.tok 3, zu, [], []⟩), (6, ⟨.tok 0, zs, [], []⟩), (8, ⟨.tok 6, qn, [], []⟩)]⟩
def zjo : Tree := (.leaf [])
theorem zf0 (m0 m1 m2 m3 : Int) : q3w Try.prog (qpp m0 m1 m2 m3) q6j 1 69 [z4i] 7 z8m (toN [] [] [] qu9) = zjo := by kernel_rfl
abbrev qzc : List Item := [(0, qj, qu 0 qj, []), (10, qn, [], [])]
def z5t : St := ⟨zff ++ [(10, .ref 10 [] 0 qn)], [(3, ⟨.tok 3, zu, [], []⟩), (6, ⟨.tok 0, zs, [], []⟩)]⟩
def qz1 : St := (.mk [(0, (.sn 0 (.ref 0 [] 0 (.st 26)))), (1, (.sn 1 (.bx 1 37 (.ref 0 [] 0 (.st 26))))), (2, (.sn 2 .any)), (3, (.sn 3 (.ref 3 [] 0 (.int .i64)))), (6, (.sn 6 (.ref 6 [] 0 (.st 64)))), (24, (.sn 24 (.v (.tok 4) (.row 65) [(0, 385)] []))), (10, (.ref 10 [] 0 (.st 32)))] [(0, (.mk (.tok 7) (.st 26) [(0, 1), (1, 2), (2, 3), (3, 4)] [])), (10, (.mk (.tok 8) (.st 32) [] [])), (3, (.mk (.tok 3) (.int .i64) [] [])), (6, (.mk (.tok 0) (.st 64) [] []))])
theorem z9n : q1u [] qzc 7 (q16 [] qzc [] 7 z5t) = qz1 := by kernel_rfl
def zeo : Tree :=
 let c : X := .tok 1
 let d : X := .lit (.i 0)
 let a : X := .call 6 0 [(.lit (.s ⟨#[97, 116, 116, 114, 95, 104, 111, 111, 107]⟩)), (.row [(.call 4 0 [(.tok 5)]), (.call 5 0 [d]), (.call 5 0 [(.lit (.i 1))])])]
 let b : X := .row [(.mk [d, (.tok 6)]), (.mk [(.lit (.i 1)), (.fld (.tok 0) 2)])]
 (.need [(.ok 4 [(.tok 5)]), (.ok 5 [d]), (.ok 5 [(.lit (.i 1))]), (.ok 6 [(.lit (.s ⟨#[97, 116, 116, 114, 95, 104, 111, 111, 107]⟩)), (.row [(.call 4 0 [(.tok 5)]), (.call 5 0 [d]), (.call 5 0 [(.lit (.i 1))])])])] (.need [(.ok 7 [c, a, b]), (.le (.call 0 0 []) (.len (.fld c 0))), (.le (.call 1 0 []) (.len (.fld c 1))), (.le (.call 2 0 []) (.len (.fld c 2))), (.le (.call 3 0 []) (.len (.fld c 3)))] (.br (.not (.eq (.call 7 2 [c, a, b]) d)) (.bad 15001) (.leaf [(.call 7 3 [c, a, b]), (.call 7 0 [c, a, b])]))))
theorem zef (m0 m1 m2 m3 : Int) : q3w Try.prog (qpp m0 m1 m2 m3) q6j 1 69 qfi 7 qu9 (toN [] qzc [] z5t) = zeo := by kernel_rfl
def qy8 : St := ⟨qi6 ++ [(7, .v (.tok 5) .str [] []), (8, .ref 8 [] 0 qn)], [(0, ⟨.tok 1, qj, qu 0 qj, []⟩), (2, ⟨.tok 2, zj, [(0, 33)], []⟩), (3, ⟨.tok 3, zu, [], []⟩), (6, ⟨.tok 0, zs, [], []⟩), (8, ⟨.tok 6, qn, [], []⟩)]⟩
abbrev z5d : List Item := [(0, qj, qu 0 qj, []), (2, zj, [(0, 33)], []), (3, zu, [], [])]
def zfw : St := ⟨qi6, []⟩
def zek : St := (.mk [(0, (.sn 0 (.ref 0 [] 0 (.st 26)))), (1, (.sn 1 (.bx 1 37 (.ref 0 [] 0 (.st 26))))), (2, (.sn 2 (.ref 2 [] 0 (.row 33)))), (3, (.sn 3 (.ref 3 [] 0 (.int .i64)))), (6, (.sn 6 (.ref 6 [] 0 (.st 64)))), (24, (.sn 24 (.v (.tok 4) (.row 65) [(0, 385)] [])))] [(0, (.mk (.tok 7) (.st 26) [(0, 1), (1, 2), (2, 3), (3, 4)] [])), (2, (.mk (.tok 8) (.row 33) [(0, 33)] [])), (3, (.mk (.tok 9) (.int .i64) [] []))])
theorem zay : q1u [] z5d 7 (q16 [] z5d [] 7 zfw) = zek := by kernel_rfl
def zgl : Nat → ResD → St → Tree := fun n r σ => match r with
 | .ret => qj3 [] z5d [] zfw n .normal σ
 | _ => .bad 1
def zed : Tree :=
 let c : X := .tok 1
 let d : X := .lit (.i 0)
 let a : X := .call 6 0 [(.lit (.s ⟨#[97, 116, 116, 114, 95, 104, 111, 111, 107]⟩)), (.row [(.call 4 0 [(.tok 5)]), (.call 5 0 [d]), (.call 5 0 [(.lit (.i 1))])])]
 let b : X := .row [(.mk [d, (.tok 6)]), (.mk [(.lit (.i 1)), (.fld (.tok 0) 2)])]
 (.need [(.ok 4 [(.tok 5)]), (.ok 5 [d]), (.ok 5 [(.lit (.i 1))]), (.ok 6 [(.lit (.s ⟨#[97, 116, 116, 114, 95, 104, 111, 111, 107]⟩)), (.row [(.call 4 0 [(.tok 5)]), (.call 5 0 [d]), (.call 5 0 [(.lit (.i 1))])])])] (.need [(.ok 7 [c, a, b]), (.le (.call 0 0 []) (.len (.fld c 0))), (.le (.call 1 0 []) (.len (.fld c 1))), (.le (.call 2 0 []) (.len (.fld c 2))), (.le (.call 3 0 []) (.len (.fld c 3)))] (.br (.not (.eq (.call 7 2 [c, a, b]) d)) (.leaf [(.call 7 3 [c, a, b]), (.lit (.r [])), (.call 7 2 [c, a, b])]) (.bad 1))))
theorem zge (m0 m1 m2 m3 : Int) : q3w Try.prog (qpp m0 m1 m2 m3) q6j 1 69 qfi 7 qy8 zgl = zed := by kernel_rfl
def qoi : List (Nat × AV) := [(0, .sn 0 .any), (1, .sn 1 .any), (2, .sn 2 (.ref 2 [] 0 zj)), (3, .sn 3 .any), (6, .sn 6 .any), (24, .sn 24 .any)]
def qul : St := ⟨qoi ++ [(10, .ref 10 [] 0 qn)], [(2, ⟨.tok 0, zj, [(0, 33)], []⟩), (10, ⟨.tok 1, qn, [], []⟩)]⟩
abbrev qz3 : List Item := [(2, zj, [(0, 33)], [])]
def zav : St := (.mk [(0, (.sn 0 .any)), (1, (.sn 1 .any)), (2, (.sn 2 (.ref 2 [] 0 (.row 33)))), (3, (.sn 3 .any)), (6, (.sn 6 .any)), (24, (.sn 24 .any))] [(2, (.mk (.tok 2) (.row 33) [(0, 33)] []))])
theorem zb6 : q1u [] qz3 2 (q16 [] qz3 [] 2 ⟨qoi, []⟩) = zav := by kernel_rfl
def zdl : Tree := (.need [(.le (.add (.len (.tok 0)) (.lit (.i 1))) (.lit (.i 8796093021952)))] (.leaf [(.app (.tok 0) (.row [(.tok 1)]))]))
theorem z4y : q3w Try.prog [] q6j 1 69 [z16] 2 qul (toN [] qz3 [] ⟨qoi, []⟩) = zdl := by kernel_rfl
def zi4 : Tree := (.need [(.rng .i64 (.add (.tok 2) (.lit (.i 1))))] (.leaf [(.add (.tok 2) (.lit (.i 1)))]))
theorem zao : q3w Try.prog q44 q6j 1 69 wkN 6 q45 (toN [(26, .int .i64, [], [])] [] [] ⟨q45.t.filter (fun e => !Nat.beq e.1 26), q45.m⟩) = zi4 := by kernel_rfl
def zj4 : Tree := (.need [(.ok 2 [(.lit (.i 0)), (.set (.tok 3) 3 (.lit (.r []))), (.tok 0)])] (.leaf [(.tok 4), (.lit (.i 0)), (.call 2 0 [(.lit (.i 0)), (.set (.tok 3) 3 (.lit (.r []))), (.tok 0)])]))
theorem zaf : toT Try.prog q44 q6j 1 69 wkZ [] 6 q45 (qdd y9 Try.f14 2 0 3 (.tok 0)) = zj4 := by kernel_rfl
def wkE : St := ⟨[(0, .ref 0 [] 0 qj), (1, .bx 1 37 (.ref 0 [] 0 qj)), (2, .ref 2 [] 0 zj), (3, .sn (VB + 3) (.ref 3 [] 0 zu))], [(0, ⟨.tok 1, qj, qu 0 qj, []⟩), (2, ⟨.tok 2, zj, [(0, 33)], []⟩), (3, ⟨.tok 3, zu, [], []⟩)]⟩
def zi7 : Tree := (.need [(.ok 2 [(.tok 3), (.tok 1), (.tok 0)])] (.leaf [(.tok 2), (.tok 3), (.call 2 0 [(.tok 3), (.tok 1), (.tok 0)])]))
theorem zc2 : qdd y9 Try.f14 2 0 3 (.tok 0) 4 .ret wkE = zi7 := by kernel_rfl
end
def qwy : ByteArray := ⟨#[97, 116, 116, 114, 95, 104, 111, 111, 107]⟩
def z3x (nm : ByteArray) : Te := qd9 qwy [q4c nm, vaT 0, vaT 1]
def zcz (x wv : Ce) : List Vc := [⟨0, x⟩, ⟨1, wv⟩]
def zm (wv : Ce) (s : So) (x : At) : Ce × List Vc × Int × So := qnc s (z3x x.name) (zcz x.val wv)
def jf (wv : Ce) : So → List Ce → List At → So × List Ce × Int
 | s, o, [] => (s, o, 0)
 | s, o, x :: l => if (zm wv s x).2.2.1 = 0 then jf wv (zm wv s x).2.2.2 (o ++ [(zm wv s x).1]) l else ((zm wv s x).2.2.2, [], (zm wv s x).2.2.1)
def qa0 (wv : Ce) : So → List At → Bool
 | s, [] => true
 | s, x :: l => jh s && (decide (¬ (zm wv s x).2.2.1 = 0) || qa0 wv (zm wv s x).2.2.2 l)
def q31 : So → List Ce → List Wk → So × List Ce × Int
 | s, o, [] => (s, o, 0)
 | s, o, w :: l => if (jf w.val s o (yf s w.att)).2.2 = 0 then q31 (jf w.val s o (yf s w.att)).1 (jf w.val s o (yf s w.att)).2.1 l else jf w.val s o (yf s w.att)
def qst : So → List Ce → List Wk → Bool
 | s, o, [] => true
 | s, o, w :: l => qa0 w.val s (yf s w.att) && (decide (¬ (jf w.val s o (yf s w.att)).2.2 = 0) || qst (jf w.val s o (yf s w.att)).1 (jf w.val s o (yf s w.att)).2.1 l)
def qwq (s r : So) : So := { r with cs := r.cs.take s.cs.length, ys := r.ys.take s.ys.length, tr := r.tr.take s.tr.length, ser := s.ser }
def z1g (s : So) : List Ce × Int × So := if (q31 s [] s.wk).2.2 = 0 then ((q31 s [] s.wk).2.1, 0, { (q31 s [] s.wk).1 with wk := [] }) else ([], (q31 s [] s.wk).2.2, qwq s (q31 s [] s.wk).1)
def zfh : List D → Option (List D)
 | [s] => if (dS s).wk.length ≤ 1 ∧ (dS s).cs.length ≤ 1000000 ∧ qst (dS s) [] (dS s).wk = true then some [.r ((z1g (dS s)).1.map eC), .i (z1g (dS s)).2.1, eS (z1g (dS s)).2.2] else none
 | _ => none
def q9x (s s' : So) : Prop := s.cs.length ≤ s'.cs.length ∧ s.ys.length ≤ s'.ys.length ∧ Rst s s'
theorem q9x.refl (s : So) : q9x s s := ⟨Nat.le_refl _, Nat.le_refl _, Rst.refl s⟩
theorem q9x.trans {a b c : So} (h : q9x a b) (k : q9x b c) : q9x a c := ⟨Nat.le_trans h.1 k.1, Nat.le_trans h.2.1 k.2.1, h.2.2.trans k.2.2⟩
theorem quw {s : So} {t : Te} {l : List Vc} (hv : jh s = true) : q9x s (qnc s t l).2.2.2 := by
 unfold qnc
 split
 ·rename_i h
  split
  ·rename_i hr
   simp only [Bool.and_eq_true] at h
   have hq := qvh hv h.1 h.2 hr
   simp only [qvv, Bool.and_eq_true, decide_eq_true_eq] at hq
   obtain ⟨h1, h2, h3, h4⟩ := qlf t (s, l) (-1) hq.1 hq.2.1
   refine ⟨by rw [h1]; exact Nat.le_add_right _ _, ?_, h3⟩
   rw [h2]
   exact qgi _ _
  ·exact q9x.refl s
 ·exact q9x.refl s
theorem qef (wv : Ce) : ∀ (l : List At) (s : So) (o : List Ce), qa0 wv s l = true → q9x s (jf wv s o l).1
 | [], s, o, _ => q9x.refl s
 | x :: l, s, o, h => by
  unfold qa0 at h
  simp only [Bool.and_eq_true, Bool.or_eq_true, decide_eq_true_eq] at h
  have h1 : q9x s (zm wv s x).2.2.2 := quw h.1
  unfold jf
  split
  ·rename_i h0
   rcases h.2 with h2 | h2
   ·exact absurd h0 h2
   ·exact h1.trans (qef wv l _ _ h2)
  ·exact h1
section
open Go.RowKit Go.Shelf
section
variable {A : Nat → Prop} {p : ql} {w W : World} {dep : List Nat}
theorem qkn {pin : Nat} {d : D} {E : TypeId} {te : Ty} {cs : List Value} (hte : qp E = some te) (h : Fl A p w dep (some pin) d (.row E) cs) : ∃ l v, d = .r l ∧ cs = [v] ∧ q1l A p w dep pin E te l v := by
 rcases h with ⟨E', te', l, v, e, hte', rfl, rfl, hv⟩ | ⟨K, V, kt, vt, l, g, es, clock, e, -⟩
 ·injection e with e
  subst e
  obtain rfl := Option.some.inj (hte.symm.trans hte')
  exact ⟨l, v, rfl, rfl, hv⟩
 ·cases e
theorem z5z : qp 33 = some qn ∧ qp 58 = some j4 ∧ qp 69 = some q17 ∧ qp 65 = some zs := ⟨by kernel_rfl, by kernel_rfl, by kernel_rfl, by kernel_rfl⟩
theorem qxr {s : So} {cs : List Value} (h : Con A p w (eS s) qj (qu 0 qj) dep cs) : ∃ v0 v1 v2 v3, cs = [v0, v1, v2, v3, .int .i64 s.ser, .int .i64 s.mx] ∧ q1l A p w dep 1 33 qn (s.cs.map eC) v0 ∧ q1l A p w dep 2 58 j4 (s.ys.map eY) v1 ∧ q1l A p w dep 3 69 q17 (s.tr.map eU) v2 ∧ q1l A p w dep 4 65 zs (s.wk.map eW) v3 ∧ yo .i64 s.ser = true ∧ yo .i64 s.mx = true := by
 have h : Con A p w (eS s) (.st qlz) (qu 0 qj) dep cs := h
 obtain ⟨fs, ds, hf, he, hl⟩ := h
 rw [qkq] at hf
 injection hf with hf
 subst hf
 obtain ⟨d0, ds, c0, cs, rfl, rfl, h0, hl⟩ := q3f hl
 obtain ⟨d1, ds, c1, cs, rfl, rfl, h1, hl⟩ := q3f hl
 obtain ⟨d2, ds, c2, cs, rfl, rfl, h2, hl⟩ := q3f hl
 obtain ⟨d3, ds, c3, cs, rfl, rfl, h3, hl⟩ := q3f hl
 obtain ⟨d4, ds, c4, cs, rfl, rfl, h4, hl⟩ := q3f hl
 obtain ⟨d5, ds, c5, cs, rfl, rfl, h5, hl⟩ := q3f hl
 obtain ⟨rfl, rfl⟩ := z3d hl
 obtain ⟨t1, t2, t3, t4⟩ := z5z
 have h0 : Fl A p w dep (some 1) d0 (.row 33) c0 := h0
 have h1 : Fl A p w dep (some 2) d1 (.row 58) c1 := h1
 have h2 : Fl A p w dep (some 3) d2 (.row 69) c2 := h2
 have h3 : Fl A p w dep (some 4) d3 (.row 65) c3 := h3
 obtain ⟨l0, v0, rfl, rfl, q0⟩ := qkn t1 h0
 obtain ⟨l1, v1, rfl, rfl, q1⟩ := qkn t2 h1
 obtain ⟨l2, v2, rfl, rfl, q2⟩ := qkn t3 h2
 obtain ⟨l3, v3, rfl, rfl, q3⟩ := qkn t4 h3
 obtain ⟨x4, rfl, rfl, q4, -⟩ := qtz h4
 obtain ⟨x5, rfl, rfl, q5, -⟩ := qtz h5
 simp only [eS, D.a.injEq, List.cons.injEq, D.r.injEq, D.i.injEq, and_true] at he
 obtain ⟨rfl, rfl, rfl, rfl, rfl, rfl⟩ := he
 exact ⟨v0, v1, v2, v3, rfl, q0, q1, q2, q3, q4, q5⟩
theorem qag {b i : Nat} {cur : Array Value} {T : TypeId} (h : w.heap[b]? = some (.cells cur T (0, 0))) : w.cell? ⟨b, i, none⟩ = cur[i]? := by
 unfold World.cell?
 simp [h]
theorem q1l.stay {P : Nat → Prop} {pin : Nat} {E : TypeId} {te : Ty} {l : List D} {v : Value} (h : q1l A p w dep pin E te l v) (hte : qp E = some te) (hf : zf 8 te = true)
  (hk : ∀ g cur, p pin = some g → w.heap[g]? = some (.cells cur E (0, 0)) → 0 < l.length → P g ∧ ∃ cur', W.heap[g]? = some (.cells cur' E (0, 0)) ∧ ∀ j, j < l.length * te.w → cur'[j]? = cur[j]?) : Rd W P (.r l) (.row E) [v] := by
 rcases h with ⟨rfl, rfl⟩ | ⟨g, cap, cur, rfl, hg, hh, h1, h2, h3, h4, h5⟩
 ·exact ⟨E, te, none, 0, rfl, hte, rfl, by simp, by simp, by simp [maxLen], by simp [RdE]⟩
 ·refine ⟨E, te, some ⟨g, 0, none⟩, cap, rfl, hte, rfl, h1, h4, h2, q0i.2 fun j hj => ?_⟩
  obtain ⟨cs, hr, hx⟩ := h5 j hj
  obtain ⟨hP, cur', hw', hc⟩ := hk g cur hg hh (by omega)
  refine ⟨g, 0, cs, rfl, hP, fun i v hv => ?_, Rd.flat 8 _ hf hx⟩
  have hlen : cs.length = te.w := (Rd.len _ hx).1
  have hi : i < cs.length := (List.getElem?_eq_some_iff.1 hv).1
  have h6 := hr i v hv
  rw [qag hw']
  rw [qag hh] at h6
  have h7 : j * te.w + te.w ≤ l.length * te.w := by
   rw [← Nat.succ_mul]
   exact Nat.mul_le_mul_right _ hj
  simp only [Nat.zero_add] at h6 ⊢
  rw [hc _ (by omega)]
  exact h6
end
def q0s (p : ql) (s : So) (fr : Nat → Prop) : Flr where
 fl := fun b => if p 1 = some b then s.cs.length * qn.w else if p 2 = some b then s.ys.length * j4.w else if p 3 = some b then s.tr.length * q17.w else if p 4 = some b then s.wk.length * zs.w else 0
 mx := fun te => if Ty.beq te qn then s.cs.length else if Ty.beq te j4 then s.ys.length else if Ty.beq te q17 then s.tr.length else if Ty.beq te zs then s.wk.length else 0
 fr := fr
theorem zk0 (p : ql) (s : So) (fr : Nat → Prop) : (q0s p s fr).mx qn = s.cs.length := by
 have e : Ty.beq qn qn = true := by kernel_rfl
 simp only [q0s, e, if_true]
theorem zjw (p : ql) (s : So) (fr : Nat → Prop) : (q0s p s fr).mx j4 = s.ys.length := by
 have e1 : Ty.beq j4 qn = false := by kernel_rfl
 have e : Ty.beq j4 j4 = true := by kernel_rfl
 simp only [q0s, e, e1, if_true, Bool.false_eq_true, if_false]
theorem zk7 (p : ql) (s : So) (fr : Nat → Prop) : (q0s p s fr).mx q17 = s.tr.length := by
 have e1 : Ty.beq q17 qn = false := by kernel_rfl
 have e2 : Ty.beq q17 j4 = false := by kernel_rfl
 have e : Ty.beq q17 q17 = true := by kernel_rfl
 simp only [q0s, e, e1, e2, if_true, Bool.false_eq_true, if_false]
theorem zju (p : ql) (s : So) (fr : Nat → Prop) : (q0s p s fr).mx zs = s.wk.length := by
 have e1 : Ty.beq zs qn = false := by kernel_rfl
 have e2 : Ty.beq zs j4 = false := by kernel_rfl
 have e3 : Ty.beq zs q17 = false := by kernel_rfl
 have e : Ty.beq zs zs = true := by kernel_rfl
 simp only [q0s, e, e1, e2, e3, if_true, Bool.false_eq_true, if_false]
theorem zhv (m0 m1 m2 m3 : Nat) : flM (qpp m0 m1 m2 m3) qn = m0 ∧ flM (qpp m0 m1 m2 m3) j4 = m1 ∧ flM (qpp m0 m1 m2 m3) q17 = m2 ∧ flM (qpp m0 m1 m2 m3) zs = m3 :=
 ⟨by show Int.toNat (m0 : Int) = _; exact Int.toNat_natCast _, by show Int.toNat (m1 : Int) = _; exact Int.toNat_natCast _, by show Int.toNat (m2 : Int) = _; exact Int.toNat_natCast _, by show Int.toNat (m3 : Int) = _; exact Int.toNat_natCast _⟩
theorem ziy (p : ql) (s : So) (fr : Nat → Prop) (te : Ty) : (q0s p s fr).mx te ≤ flM (qpp s.cs.length s.ys.length s.tr.length s.wk.length) te := by
 obtain ⟨h1, h2, h3, h4⟩ := zhv s.cs.length s.ys.length s.tr.length s.wk.length
 unfold q0s
 simp only
 split
 ·rename_i e
  rw [(Ty.beq_iff _ _).1 e, h1]
  exact Nat.le_refl _
 ·split
  ·rename_i e
   rw [(Ty.beq_iff _ _).1 e, h2]
   exact Nat.le_refl _
  ·split
   ·rename_i e
    rw [(Ty.beq_iff _ _).1 e, h3]
    exact Nat.le_refl _
   ·split
    ·rename_i e
     rw [(Ty.beq_iff _ _).1 e, h4]
     exact Nat.le_refl _
    ·exact Nat.zero_le _
section
variable {A : Nat → Prop} {p : ql} {w W : World} {s : So} {v0 v1 v2 v3 : Value} {fr : Nat → Prop}
theorem qv5 (hinj : ∀ x y b, p x = some b → p y = some b → x = y) {b : Nat} : (p 1 = some b → (q0s p s fr).fl b = s.cs.length * qn.w) ∧ (p 2 = some b → (q0s p s fr).fl b = s.ys.length * j4.w) ∧ (p 3 = some b → (q0s p s fr).fl b = s.tr.length * q17.w) ∧ (p 4 = some b → (q0s p s fr).fl b = s.wk.length * zs.w) := by
 have ne : ∀ x y, x ≠ y → p y = some b → ¬ p x = some b := fun x y h hy hx => h (hinj x y b hx hy)
 refine ⟨fun h => ?_, fun h => ?_, fun h => ?_, fun h => ?_⟩
 ·simp only [q0s, if_pos h]
 ·simp only [q0s, if_neg (ne 1 2 (by decide) h), if_pos h]
 ·simp only [q0s, if_neg (ne 1 3 (by decide) h), if_neg (ne 2 3 (by decide) h), if_pos h]
 ·simp only [q0s, if_neg (ne 1 4 (by decide) h), if_neg (ne 2 4 (by decide) h), if_neg (ne 3 4 (by decide) h), if_pos h]
theorem qsb {F : Flr} {dep : List Nat} {pin k : Nat} {E : TypeId} {te : Ty} {l : List D} {v : Value} (h : q1l A p w dep pin E te l v) (hte : qp E = some te) (hp : p pin = some k) (h0 : 0 < F.fl k) (hfl : F.fl k = l.length * te.w) (hmx : F.mx te = l.length) (hT : 2 ≤ l.length ∨ nvB te = true) : ∃ cs cs' T te, k < w.heap.size ∧ w.heap[k]? = some (.cells cs T (0, 0)) ∧ qp T = some te ∧ F.fl k ≤ F.mx te * te.w ∧ FlT te cs.size ∧ w.heap[k]? = some (.cells cs' T (0, 0)) ∧ cs'.size = cs.size ∧ ∀ j, j < F.fl k → cs'[j]? = cs[j]? := by
 have hl : 0 < l.length := by
  rcases Nat.eq_zero_or_pos l.length with e | e
  ·rw [hfl, e, Nat.zero_mul] at h0
   omega
  ·exact e
 rcases h with ⟨rfl, rfl⟩ | ⟨g, cap, cur, rfl, hg, hh, h1, h2, h3, h4, h5⟩
 ·simp at hl
 ·rw [hp] at hg
  injection hg with hg
  subst hg
  have hpos := q20 hte
  refine ⟨cur, cur, E, te, qt hh, hh, hte, by rw [hfl, hmx]; exact Nat.le_refl _, ?_, hh, rfl, fun _ _ => rfl⟩
  unfold FlT
  rw [h3]
  rcases hT with hT | hT
  ·left
   have : 2 * te.w ≤ cap * te.w := Nat.mul_le_mul_right _ (by omega)
   omega
  ·right
   refine ⟨hT, ?_⟩
   have : 1 * te.w ≤ cap * te.w := Nat.mul_le_mul_right _ (by omega)
   omega
theorem zfx (hinj : ∀ x y b, p x = some b → p y = some b → x = y) (h0 : q1l A p w [] 1 33 qn (s.cs.map eC) v0) (h1 : q1l A p w [] 2 58 j4 (s.ys.map eY) v1) (h2 : q1l A p w [] 3 69 q17 (s.tr.map eU) v2) (h3 : q1l A p w [] 4 65 zs (s.wk.map eW) v3) (hc : 2 ≤ s.cs.length) (hy : 2 ≤ s.ys.length) : Flo (q0s p s fr) w w := fun k hk => by
 obtain ⟨t1, t2, t3, t4⟩ := z5z
 obtain ⟨f1, f2, f3, f4⟩ := qv5 (s := s) (fr := fr) hinj (b := k)
 have hkk := hk
 unfold q0s at hkk
 simp only at hkk
 split at hkk
 ·rename_i e
  exact qsb h0 t1 e hk (by rw [f1 e, List.length_map]) (by rw [zk0, List.length_map]) (.inl (by rw [List.length_map]; exact hc))
 ·split at hkk
  ·rename_i e
   exact qsb h1 t2 e hk (by rw [f2 e, List.length_map]) (by rw [zjw, List.length_map]) (.inl (by rw [List.length_map]; exact hy))
  ·split at hkk
   ·rename_i e
    exact qsb h2 t3 e hk (by rw [f3 e, List.length_map]) (by rw [zk7, List.length_map]) (.inr (by kernel_rfl))
   ·split at hkk
    ·rename_i e
     exact qsb h3 t4 e hk (by rw [f4 e, List.length_map]) (by rw [zju, List.length_map]) (.inr (by kernel_rfl))
    ·omega
theorem zgw (hinj : ∀ x y b, p x = some b → p y = some b → x = y) (h0 : q1l A p w [] 1 33 qn (s.cs.map eC) v0) (h1 : q1l A p w [] 2 58 j4 (s.ys.map eY) v1) (h2 : q1l A p w [] 3 69 q17 (s.tr.map eU) v2) (h3 : q1l A p w [] 4 65 zs (s.wk.map eW) v3)
  (r1 : yo .i64 s.ser = true) (r2 : yo .i64 s.mx = true) {w1 : World} (hs : ∀ x b, p x = some b → w1.heap[b]? = w.heap[b]?) (hF : Flo (q0s p s fr) w1 W) : Rd W (pinned p) (eS s) qj [v0, v1, v2, v3, .int .i64 s.ser, .int .i64 s.mx] := by
 obtain ⟨t1, t2, t3, t4⟩ := z5z
 have key : ∀ {pin : Nat} {E : TypeId} {te : Ty} {l : List D} {v : Value}, q1l A p w [] pin E te l v → qp E = some te → zf 8 te = true → (∀ b, p pin = some b → (q0s p s fr).fl b = l.length * te.w) → Rd W (pinned p) (.r l) (.row E) [v] := fun {pin E te l v} h hte hf hfl => by
  refine h.stay hte hf fun g cur hg hh hl => ⟨⟨pin, hg⟩, ?_⟩
  have hpos := q20 hte
  have hfg := hfl g hg
  have h0 : 0 < (q0s p s fr).fl g := by
   rw [hfg]
   exact Nat.mul_pos hl hpos
  obtain ⟨cs, cs', T, te', -, e1, -, -, -, e2, -, e3⟩ := hF g h0
  rw [hs _ _ hg, hh] at e1
  injection e1 with e1
  injection e1 with e1 e1'
  subst e1 e1'
  refine ⟨cs', e2, fun j hj => e3 j ?_⟩
  rw [hfg]
  exact hj
 have q0 := key h0 t1 (by kernel_rfl) fun b hb => by rw [(qv5 (fr := fr) hinj).1 hb, List.length_map]
 have q1 := key h1 t2 (by kernel_rfl) fun b hb => by rw [(qv5 (fr := fr) hinj).2.1 hb, List.length_map]
 have q2 := key h2 t3 (by kernel_rfl) fun b hb => by rw [(qv5 (fr := fr) hinj).2.2.1 hb, List.length_map]
 have q3 := key h3 t4 (by kernel_rfl) fun b hb => by rw [(qv5 (fr := fr) hinj).2.2.2 hb, List.length_map]
 exact ⟨qlz, _, rfl, qkq, _, _, [v0], _, rfl, rfl, q0, _, _, [v1], _, rfl, rfl, q1, _, _, [v2], _, rfl, rfl, q2, _, _, [v3], _, rfl, rfl, q3, _, _, [_], _, rfl, rfl, ⟨.i64, rfl, rfl, r1⟩, _, _, [_], _, rfl, rfl, ⟨.i64, rfl, rfl, r2⟩, rfl, rfl⟩
end
theorem z9t {s : So} {c : Ce} (h : 0 < (yf s c).length) : 2 ≤ s.cs.length ∧ 2 ≤ s.ys.length := by
 have hn : q9l s c ≠ none := fun e => by
  unfold yf at h
  rw [qi9 e] at h
  simp at h
 unfold q9l at hn
 split at hn
 ·rename_i h1
  split at hn
  ·rename_i h2
   obtain ⟨-, a2, a3, -, a4, a5, a6⟩ := q23.1 h1
   obtain ⟨-, -, -, -, b4, b5, b6⟩ := q23.1 h2
   have := z8.1 a2
   have := z8.1 a3
   refine ⟨by omega, ?_⟩
   rcases Nat.lt_or_ge s.ys.length 2 with hlt | hge
   ·exfalso
    have e1 : (cellAt s (jz s c).n).n.toNat = 0 := by omega
    have e2 : (cellAt s (jz s (cellAt s ((jz s c).n + 1))).n).n.toNat = 0 := by omega
    rw [e1] at a6
    rw [e2, a6] at b6
    simp at b6
   ·exact hge
  ·exact absurd rfl hn
 ·exact absurd rfl hn
end
section
section
variable {A A' : Nat → Prop} {p : ql} {w : World}
theorem FFD.chP (hA : ∀ b, b < w.heap.size → A b → q4n p b → A' b) {dep : List Nat} {b : Nat} (hb : b < w.heap.size) (h : FFD A p dep b) : FFD A' p dep b := h.imp (fun h => ⟨hA b hb h.1 h.2, h.2⟩) id
theorem Rd.chP (hA : ∀ b, b < w.heap.size → A b → q4n p b → A' b) {dep : List Nat} {d : D} {t : Ty} {cs : List Value} (h : Rd w (FFD A p dep) d t cs) : Rd w (FFD A' p dep) d t cs := Rd.mono (fun b hb hf => hf.chP hA hb) h
theorem Fl.chP (hA : ∀ b, b < w.heap.size → A b → q4n p b → A' b) {dep : List Nat} {o : Option Nat} {d : D} {t : Ty} {cs : List Value} (h : Fl A p w dep o d t cs) : Fl A' p w dep o d t cs := by
 cases o with
 | none => exact Rd.chP hA h
 | some pin =>
  rcases h with ⟨E, te, l, v, e1, hte, e2, e3, hv⟩ | h
  ·refine .inl ⟨E, te, l, v, e1, hte, e2, e3, ?_⟩
   rcases hv with hv | ⟨g, cap, cur, e4, hg, hh, q1, q2, q3, q4, q5⟩
   ·exact .inl hv
   ·refine .inr ⟨g, cap, cur, e4, hg, hh, q1, q2, q3, q4, fun i hi => ?_⟩
    obtain ⟨vs, hr1, hd⟩ := q5 i hi
    exact ⟨vs, hr1, Rd.chP hA hd⟩
  ·exact .inr h
theorem Fls.chP (hA : ∀ b, b < w.heap.size → A b → q4n p b → A' b) {dep : List Nat} {own : List (Nat × Nat)} : ∀ {ds : List D} {j : Nat} {fs : List Ty} {cs : List Value}, Fls A p w dep own j ds fs cs → Fls A' p w dep own j ds fs cs
 | [], _, _, _, h => h
 | d :: ds, j, fs, cs, ⟨t, ts, c1, c2, e1, e2, h1, h2⟩ => ⟨t, ts, c1, c2, e1, e2, Fl.chP hA h1, Fls.chP hA h2⟩
theorem Con.chP (hA : ∀ b, b < w.heap.size → A b → q4n p b → A' b) {dep : List Nat} {own : List (Nat × Nat)} {d : D} {t : Ty} {cs : List Value} (h : Con A p w d t own dep cs) : Con A' p w d t own dep cs := by
 unfold Con at h ⊢
 split
 ·obtain ⟨fs, ds, hf, e, h⟩ := h
  exact ⟨fs, ds, hf, e, Fls.chP hA h⟩
 ·rename_i hne
  split at h
  ·rename_i T; exact absurd rfl (hne T)
  ·exact Fl.chP hA h
end
mutual
theorem AV.chP {c : Cx} {p : ql} {w : World} {A' : Nat → Prop} (hA : ∀ b, b < w.heap.size → c.A b → q4n p b → A' b) : ∀ (x : AV) (v : Value), x.pd c p w v → x.pd { c with A := A' } p w v
 | .any, v, h => h
 | .undef, v, h => h
 | .nilS, v, h => h
 | .nb x neg, v, h => h
 | .nilP, v, h => h
 | .ref k q o t, v, h => h
 | .v x t own dep, v, ⟨cs, hp, hc⟩ => ⟨cs, hp, hc.chP hA⟩
 | .rd x t dep wr, v, ⟨b, o, cs, e, hf, hr, h0, hd, hw⟩ => by
  refine ⟨b, o, cs, e, hf.chP hA (q9u hr h0), hr, h0, Rd.chP hA hd, ?_⟩
  match wr, hw with
  | none, _ => trivial
  | some (pin, i, pt, q, te), hw => exact hw
 | .tup l, v, ⟨vs, e, h⟩ => ⟨vs, e, qti hA l vs h⟩
 | .gd cs a, v, h => ⟨fun hc => AV.chP hA a v (h.1 hc), h.2⟩
 | .fn f l, v, ⟨vs, e, h⟩ => ⟨vs, e, qti hA l vs h⟩
 | .bx k T a, v, ⟨g, u, hg, e, hh, h⟩ => ⟨g, u, hg, e, hh, AV.chP hA a u h⟩
 | .ax k T n a, v, ⟨g, u, hg, e, hh, hn, h⟩ => ⟨g, u, hg, e, hh, hn, AV.chP hA a (.agg u) h⟩
 | .sn t a, v, ⟨e, h⟩ => ⟨e, AV.chP hA a v h⟩
 | .lv k t, v, h => h
 | .ar E xs dep, v, ⟨te, cs, e1, e2, h3, h⟩ => ⟨te, cs, e1, e2, h3, fun j d hj => Rd.chP hA (h j d hj)⟩
 | .pt pin i E a, v, ⟨h1, h⟩ => ⟨h1, AV.chP hA a v h⟩
 | .fr T a, v, ⟨g, u, ha, hf, e, hh, h⟩ => ⟨g, u, hA g (qt hh) ha hf, hf, e, hh, AV.chP hA a u h⟩
 | .ff f T1 x1 t1 T2 x2 t2 dep, v, ⟨g, cs1, cs2, e, ha, hb, hfr, hg, hg2, r1, r2⟩ => ⟨g, cs1, cs2, e, ⟨hA g (qt hg) ha.1 ha.2, ha.2⟩, ⟨hA (g + 1) (qt hg2) hb.1 hb.2, hb.2⟩, hfr, hg, hg2, Rd.mono (fun b hb h => ⟨h.1.imp (fun y => ⟨hA b hb y.1 y.2, y.2⟩) id, h.2⟩) r1, Rd.mono (fun b hb h => ⟨h.1.imp (fun y => ⟨hA b hb y.1 y.2, y.2⟩) id, h.2⟩) r2⟩
theorem qti {c : Cx} {p : ql} {w : World} {A' : Nat → Prop} (hA : ∀ b, b < w.heap.size → c.A b → q4n p b → A' b) : ∀ (l : List AV) (vs : List Value), pds c p w l vs → pds { c with A := A' } p w l vs
 | [], vs, h => h
 | a :: l, vs, ⟨v, r, e, ha, hl⟩ => ⟨v, r, e, AV.chP hA a v ha, qti hA l r hl⟩
end
theorem SF.chP {c : Cx} {σ : St} {p : ql} {w : World} {a : Act} {A' : Nat → Prop} (hA : ∀ b, b < w.heap.size → c.A b → q4n p b → A' b) (h : SF c σ p w a) : SF { c with A := A' } σ p w a := by
 refine ⟨fun t x hx => ?_, fun k e he => ?_⟩
 ·obtain ⟨v, h1, h2⟩ := h.t t x hx
  exact ⟨v, h1, AV.chP hA x v h2⟩
 ·obtain ⟨g, cs, T, hg, hh, hty, hc⟩ := h.m k e he
  exact ⟨g, cs, T, hg, hh, hty, hc.chP hA⟩
def qz8 (q : Nat → Bool) (l : List (Nat × AV)) : Bool := l.all fun e => e.2.pins.all (fun x => !q x) && e.2.keys.all (fun x => !q x)
def qyv (q : Nat → Bool) (l : List (Nat × Ent)) : Bool := l.all fun e => !q (e.1 * 16) && e.2.pins.all (fun x => !q x)
theorem qqp {q : Nat → Bool} {l : List (Nat × AV)} (h : qz8 q l = true) {t : Nat} {x : AV} (hx : lkA l t = some x) : (∀ y ∈ x.pins, q y = false) ∧ ∀ y ∈ x.keys, q y = false := by
 have := List.all_eq_true.1 h _ (qx hx)
 simp only [Bool.and_eq_true, List.all_eq_true, Bool.not_eq_true'] at this
 exact this
theorem qqm {q : Nat → Bool} {l : List (Nat × Ent)} (h : qyv q l = true) {k : Nat} {e : Ent} (hx : lkA l k = some e) : q (k * 16) = false ∧ ∀ y ∈ e.pins, q y = false := by
 have := List.all_eq_true.1 h _ (qx hx)
 simp only [Bool.and_eq_true, List.all_eq_true, Bool.not_eq_true'] at this
 exact this
def q9h (A : Nat → Prop) (q : Nat → Bool) (p : ql) (b : Nat) : Prop := A b ∧ ∀ x, q x = true → p x ≠ some b
def q5r (q : Nat → Bool) (p p' : ql) : ql := fun x => if q x then p x else p' x
section
variable {c : Cx} {F F' : Flr} {p p' : ql} {w0 w w' : World} {S0 : Nat → Prop} {q : Nat → Bool} {σ : St} {a a' : Act}
theorem q49 {x b : Nat} (h : unP q p x = some b) : q x = false ∧ p x = some b := by
 unfold unP at h
 split at h
 ·cases h
 ·rename_i hq
  exact ⟨by simpa using hq, h⟩
theorem z8a {x b : Nat} (hq : q x = false) (h : p x = some b) : unP q p x = some b := by
 unfold unP
 rw [hq]
 exact h
theorem qmx {A : Nat → Prop} (h : Bs A F w0 S0 p w) (hflo : Flo F' w w) (hfr : ∀ b, F.fr b → F'.fr b) : Bs (q9h A q p) F' w (pinned (unP q p)) (unP q p) w :=
 ⟨fun x y b hx hy => h.inj x y b (q49 hx).2 (q49 hy).2, fun x b hx => h.bd x b (q49 hx).2, But.refl _ _, fun x b hx => .inl ⟨x, hx⟩, fun b hb => by
  have := h.but.size
  refine ⟨⟨(h.new b (by omega)).1, fun x _ hx => ?_⟩, hfr b (h.new b (by omega)).2⟩
  have := h.bd x b hx
  omega, fun x b hx => ⟨h.pa x b (q49 hx).2, fun y hy hyb => by
   obtain ⟨h1, h2⟩ := q49 hx
   rw [h.inj y x b hyb h2, h1] at hy
   cases hy⟩, fun x b hx => h.obj x b (q49 hx).2, hflo⟩
theorem qno (h : SF c σ p w a) (h1 : qz8 q σ.t = true) (h2 : qyv q σ.m = true) : SF { c with A := q9h c.A q p } σ (unP q p) w a := by
 have h' := SF.chP (A' := q9h c.A q p) (fun b _ hA hf => ⟨hA, fun x _ hx => hf x hx⟩) h
 have hst : Stab (q9h c.A q p) q q p w (unP q p) w := ⟨Nat.le_refl _, fun b _ _ hf => ⟨rfl, fun x hx => hf x (q49 hx).2⟩, fun x b hq hx => z8a hq hx, fun _ _ _ _ => rfl⟩
 refine ⟨fun t x hx => ?_, fun k e he => ?_⟩
 ·obtain ⟨v, e1, e2⟩ := h'.t t x hx
  obtain ⟨o1, o2⟩ := qqp h1 hx
  exact ⟨v, e1, AV.kept hst x v (fun y hy => ⟨o1 y hy, o1 y hy⟩) o2 e2⟩
 ·obtain ⟨o1, o2⟩ := qqm h2 he
  exact q0g.kept hst (fun y hy => ⟨o2 y hy, o2 y hy⟩) ⟨o1, o1⟩ (h'.m k e he)
theorem qai (h : Bs c.A F w0 S0 p w) (h' : Bs (q9h c.A q p) F' w (pinned (unP q p)) p' w') {b : Nat} (hb : b < w.heap.size) (hn : ∀ x, q x = false → p x ≠ some b) : w'.heap[b]? = w.heap[b]? :=
 h'.but.block b hb fun hp => by
  obtain ⟨x, hx⟩ := hp
  exact hn x (q49 hx).1 (q49 hx).2
theorem q73 (h : Bs c.A F w0 S0 p w) (h' : Bs (q9h c.A q p) F' w (pinned (unP q p)) p' w') {x b : Nat} (hx : p' x = some b) : (∃ y, q y = false ∧ p y = some b) ∨ w.heap.size ≤ b := by
 rcases h'.pin x b hx with ⟨y, hy⟩ | h
 ·exact .inl ⟨y, q49 hy⟩
 ·exact .inr h
theorem qu8 (h : Bs c.A F w0 S0 p w) (h' : Bs (q9h c.A q p) F' w (pinned (unP q p)) p' w') (hflo : Flo F w0 w') : Bs c.A F w0 S0 (q5r q p p') w' := by
 have hsz := h'.but.size
 refine ⟨fun x y b hx hy => ?_, fun x b hx => ?_, ?_, fun x b hx => ?_, fun b hb => h.new b hb, fun x b hx => ?_, fun x b hx => ?_, hflo⟩
 ·have mix : ∀ u v, q u = true → p u = some b → p' v = some b → False := fun u v hu h1 h2 => by
   rcases q73 h h' h2 with ⟨z, hz, hzb⟩ | hlt
   ·rw [h.inj u z b h1 hzb, hz] at hu
    cases hu
   ·have := h.bd u b h1
    omega
  unfold q5r at hx hy
  cases hqx : q x <;> cases hqy : q y <;> rw [hqx] at hx <;> rw [hqy] at hy
  ·exact h'.inj x y b hx hy
  ·exact (mix y x hqy hy hx).elim
  ·exact (mix x y hqx hx hy).elim
  ·exact h.inj x y b hx hy
 ·unfold q5r at hx
  split at hx
  ·exact Nat.lt_of_lt_of_le (h.bd x b hx) hsz
  ·exact h'.bd x b hx
 ·exact h.but.trans h'.but fun b hS _ => by
   obtain ⟨x, hx⟩ := hS
   exact h.pin x b (q49 hx).2
 ·unfold q5r at hx
  split at hx
  ·exact h.pin x b hx
  ·rcases q73 h h' hx with ⟨z, hz, hzb⟩ | hlt
   ·exact h.pin z b hzb
   ·have := h.but.size
    exact .inr (by omega)
 ·unfold q5r at hx
  split at hx
  ·exact h.pa x b hx
  ·exact (h'.pa x b hx).1
 ·unfold q5r at hx
  split at hx
  ·rename_i hq
   refine (h.obj x b hx).same (qai h h' (h.bd x b hx) fun y hy hyb => ?_)
   rw [h.inj x y b hx hyb, hy] at hq
   cases hq
  ·exact h'.obj x b hx
theorem qru (h : Bs c.A F w0 S0 p w) (h' : Bs (q9h c.A q p) F' w (pinned (unP q p)) p' w') (hf : SF { c with A := q9h c.A q p } σ p' w' a) (h1 : qz8 q σ.t = true) (h2 : qyv q σ.m = true) : SF c σ (q5r q p p') w' a := by
 have hst : Stab (q9h c.A q p) q q p' w' (q5r q p p') w' := ⟨Nat.le_refl _, fun b _ hA hf => ⟨rfl, fun x hx => by
  unfold q5r at hx
  split at hx
  ·rename_i hq
   exact hA.2 x hq hx
  ·exact hf x hx⟩, fun x b hq hx => by
  unfold q5r
  rw [hq]
  exact hx, fun _ _ _ _ => rfl⟩
 have hf' : SF { c with A := q9h c.A q p } σ (q5r q p p') w' a := by
  refine ⟨fun t x hx => ?_, fun k e he => ?_⟩
  ·obtain ⟨v, e1, e2⟩ := hf.t t x hx
   obtain ⟨o1, o2⟩ := qqp h1 hx
   exact ⟨v, e1, AV.kept hst x v (fun y hy => ⟨o1 y hy, o1 y hy⟩) o2 e2⟩
  ·obtain ⟨o1, o2⟩ := qqm h2 he
   exact q0g.kept hst (fun y hy => ⟨o2 y hy, o2 y hy⟩) ⟨o1, o1⟩ (hf.m k e he)
 exact SF.chP (c := { c with A := q9h c.A q p }) (A' := c.A) (fun b _ hA _ => hA.1) hf'
theorem qr4 (h : Bs c.A F w0 S0 p w) (h' : Bs (q9h c.A q p) F' w (pinned (unP q p)) p' w') : Stab c.A (fun x => !q x) (fun x => !q x) p w (q5r q p p') w' :=
 ⟨h'.but.size, fun b hb hA hf => ⟨qai h h' hb fun x _ => hf x, fun x hx => by
  unfold q5r at hx
  split at hx
  ·exact hf x hx
  ·rcases q73 h h' hx with ⟨z, hz, hzb⟩ | hlt
   ·exact hf z hzb
   ·omega⟩, fun x b hq hx => by
  unfold q5r
  have : q x = true := by simpa using hq
  rw [this]
  exact hx, fun x b hq hx => qai h h' (h.bd x b hx) fun y hy hyb => by
  have : q x = true := by simpa using hq
  rw [h.inj x y b hx hyb, hy] at this
  cases this⟩
theorem ql8 (h : Bs c.A F w0 S0 p w) (h' : Bs (q9h c.A q p) F' w (pinned (unP q p)) p' w') {k : Nat} {e : Ent} (he : q0g c p w k e) (h0 : q (k * 16) = true) (h1 : e.pins.all q = true) : q0g c (q5r q p p') w' k e :=
 q0g.kept (qr4 h h') (fun y hy => by have := List.all_eq_true.1 h1 y hy; simp [this]) (by simp [h0]) he
theorem qui (h : Bs c.A F w0 S0 p w) (h' : Bs (q9h c.A q p) F' w (pinned (unP q p)) p' w') {x : AV} {v : Value} (hx : x.pd c p w v) (h1 : x.pins.all q = true) (h2 : x.keys.all q = true) : x.pd c (q5r q p p') w' v :=
 AV.kept (qr4 h h') x v (fun y hy => by have := List.all_eq_true.1 h1 y hy; simp [this]) (fun y hy => by have := List.all_eq_true.1 h2 y hy; simp [this]) hx
end
def z3b (y x : AV) : Bool := AV.beq y x || (match y, x with
  | _, .any => true
  | .sn s z, .sn s' .any => Nat.beq s s'
  | .sn s z, x => AV.beq z x
  | _, _ => false)
def z5n (σ τ : St) : Bool := (τ.t.all fun e => match lkA σ.t e.1 with
 | some y => z3b y e.2
 | none => false) && τ.m.all fun e => match lkA σ.m e.1 with
 | some y => Ent.beq y e.2
 | none => false
theorem z3i {c : Cx} {p : ql} {w : World} {v : Value} {y x : AV} (h : z3b y x = true) (hy : y.pd c p w v) : x.pd c p w v := by
 unfold z3b at h
 simp only [Bool.or_eq_true] at h
 rcases h with h | h
 ·have := AV.beq_ok _ _ h
  subst this
  exact hy
 ·split at h
  ·trivial
  ·obtain ⟨e, -⟩ := hy
   have := Nat.eq_of_beq_eq_true h
   subst this
   exact ⟨e, trivial⟩
  ·have := AV.beq_ok _ _ h
   subst this
   exact hy.2
  ·cases h
theorem SF.weak {c : Cx} {σ τ : St} {p : ql} {w : World} {a : Act} (h : SF c σ p w a) (hw : z5n σ τ = true) : SF c τ p w a := by
 unfold z5n at hw
 simp only [Bool.and_eq_true] at hw
 refine ⟨fun t x hx => ?_, fun k e he => ?_⟩
 ·have h1 := List.all_eq_true.1 hw.1 _ (qx hx)
  simp only at h1
  split at h1
  ·rename_i y hy
   obtain ⟨v, e1, e2⟩ := h.t t y hy
   exact ⟨v, e1, z3i h1 e2⟩
  ·cases h1
 ·have h1 := List.all_eq_true.1 hw.2 _ (qx he)
  simp only at h1
  split at h1
  ·rename_i y hy
   have := Ent.beq_ok h1
   subst this
   exact h.m k y hy
  ·cases h1
def zjc (z : Nat) (l : List (Nat × AV)) : Bool := l.all fun e => Nat.blt e.1 z && (match e.2 with
 | .sn t _ => Nat.beq t e.1
 | _ => false)
theorem SF.snapA {c : Cx} {σ : St} {p : ql} {w : World} {a a' : Act} (h : SF c σ p w a) (hs : zjc a'.tmps.size σ.t = true) (hsn : ∀ t, t < a'.tmps.size → a'.tmps[t]? = some (c.snap t)) : SF c σ p w a' := by
 refine ⟨fun t x hx => ?_, h.m⟩
 have h1 := List.all_eq_true.1 hs _ (qx hx)
 simp only [Bool.and_eq_true, Nat.blt_eq] at h1
 obtain ⟨h1, h2⟩ := h1
 split at h2
 ·rename_i s y
  have := Nat.eq_of_beq_eq_true h2
  subst this
  obtain ⟨v, -, e2, e3⟩ := h.t _ _ hx
  subst e2
  exact ⟨_, hsn _ h1, rfl, e3⟩
 ·cases h2
end
section
open Go.RowKit Go.Shelf
def q04 (s : So) : Tbl := qpp s.cs.length s.ys.length s.tr.length s.wk.length
theorem quf (s : So) : jr (q04 s) := by
 unfold q04 qpp
 refine .cons (q0n _ q1p _ _) (.cons (q0n _ q1p _ _) (.cons (q0n _ q1p _ _) (.cons (q0n _ q1p _ _) (.cons q40 (.cons qij (.cons q7i (.cons qfg .nil)))))))
theorem qrq (s : So) : q6o (q04 s) = true := rfl
theorem zcg {s : So} {nm : ByteArray} {x wv : Ce} {s1 : So} (hv : jh s1 = true) : qe (q04 s) 7 [eS s1, eT (z3x nm), .r [.a [.i 0, eC x], .a [.i 1, eC wv]]] = some [eC (zm wv s1 ⟨nm, x⟩).1, .r ((zm wv s1 ⟨nm, x⟩).2.1.map eV), .i (zm wv s1 ⟨nm, x⟩).2.2.1, eS (zm wv s1 ⟨nm, x⟩).2.2.2] := by
 have e : dVs (.r [.a [.i 0, eC x], .a [.i 1, eC wv]]) = zcz x wv := by
  show [dV (eV ⟨0, x⟩), dV (eV ⟨1, wv⟩)] = _
  rw [qlb, qlb]
  rfl
 have ht : qe (q04 s) 7 = qxf := rfl
 rw [ht]
 unfold qxf
 simp only [ye, je, e]
 rw [if_pos hv]
 rfl
theorem zdi {s : So} {nm : ByteArray} : qe (q04 s) 6 [.s qwy, .r [eT (q4c nm), eT (vaT 0), eT (vaT 1)]] = some [eT (z3x nm)] := by
 have ht : qe (q04 s) 6 = gSL qd9 := rfl
 rw [ht]
 unfold gSL
 show some [eT (qd9 qwy [dT (eT (q4c nm)), dT (eT (vaT 0)), dT (eT (vaT 1))])] = _
 rw [je, je, je]
 rfl
section
variable {wk : Wk} {s0 sk : So} {o : List Ce} {dw : D} {y : At} {R : List D → Prop} {B : Nat → List D → Prop}
abbrev q64 (wk : Wk) (sk : So) (o : List Ce) (dw : D) (y : At) : List D := [eW wk, eS sk, .r (o.map eC), .i 0, dw, .s y.name, eC y.val]
theorem zhu (hv : jh sk = true) (hg : q9x s0 sk) (he : (zm wk.val sk y).2.2.1 = 0) (hR : R [eS (zm wk.val sk y).2.2.2, eC (zm wk.val sk y).1]) : zeo.go (qe (q04 s0)) R (q64 wk sk o dw y) B := by
 have hp := zcg (s := s0) (nm := y.name) (x := y.val) (wv := wk.val) hv
 have hst := zdi (s := s0) (nm := y.name)
 have hN : (⟨#[97, 116, 116, 114, 95, 104, 111, 111, 107]⟩ : ByteArray) = qwy := rfl
 have t0 : qe (q04 s0) 0 [] = some [.i s0.cs.length] := rfl
 have t1 : qe (q04 s0) 1 [] = some [.i s0.ys.length] := rfl
 have t2 : qe (q04 s0) 2 [] = some [.i s0.tr.length] := rfl
 have t3 : qe (q04 s0) 3 [] = some [.i s0.wk.length] := rfl
 have t4 : qe (q04 s0) 4 [.s y.name] = some [eT (q4c y.name)] := rfl
 have t5 : qe (q04 s0) 5 [.i 0] = some [eT (vaT 0)] := rfl
 have t6 : qe (q04 s0) 5 [.i 1] = some [eT (vaT 1)] := rfl
 obtain ⟨g1, g2, -, g3, g4, -⟩ := hg
 have g3 : s0.tr.length ≤ sk.tr.length := by rw [g3]; exact Nat.le_refl _
 have g4 : s0.wk.length ≤ sk.wk.length := by rw [g4]; exact Nat.le_refl _
 unfold zeo
 simp only [qa, qg, qb, qf, X.says, X.ev, X.evs, evl, List.getD_cons_zero, List.getD_cons_succ, hN, t0, t1, t2, t3, t4, t5, t6, hst, hp, z8v, Option.getD_some, Option.isSome_some, q4k, he, qqt, decide_true, Bool.not_true, Bool.false_eq_true, false_implies, true_and, and_true, qg6, z5s, z3j, z2m, q6i, List.length_map, yz, decide_eq_true_eq, Int.ofNat_le, forall_const]
 exact ⟨⟨g1, g2, g3, g4⟩, hR⟩
theorem zin (hv : jh sk = true) (hg : q9x s0 sk) (he : ¬ (zm wk.val sk y).2.2.1 = 0) (hR : R [eS (zm wk.val sk y).2.2.2, .r [], .i (zm wk.val sk y).2.2.1]) : zed.go (qe (q04 s0)) R (q64 wk sk o dw y) B := by
 have hp := zcg (s := s0) (nm := y.name) (x := y.val) (wv := wk.val) hv
 have hst := zdi (s := s0) (nm := y.name)
 have hN : (⟨#[97, 116, 116, 114, 95, 104, 111, 111, 107]⟩ : ByteArray) = qwy := rfl
 have t0 : qe (q04 s0) 0 [] = some [.i s0.cs.length] := rfl
 have t1 : qe (q04 s0) 1 [] = some [.i s0.ys.length] := rfl
 have t2 : qe (q04 s0) 2 [] = some [.i s0.tr.length] := rfl
 have t3 : qe (q04 s0) 3 [] = some [.i s0.wk.length] := rfl
 have t4 : qe (q04 s0) 4 [.s y.name] = some [eT (q4c y.name)] := rfl
 have t5 : qe (q04 s0) 5 [.i 0] = some [eT (vaT 0)] := rfl
 have t6 : qe (q04 s0) 5 [.i 1] = some [eT (vaT 1)] := rfl
 obtain ⟨g1, g2, -, g3, g4, -⟩ := hg
 have g3 : s0.tr.length ≤ sk.tr.length := by rw [g3]; exact Nat.le_refl _
 have g4 : s0.wk.length ≤ sk.wk.length := by rw [g4]; exact Nat.le_refl _
 unfold zed
 simp only [qa, qg, qb, qf, X.says, X.ev, X.evs, evl, List.getD_cons_zero, List.getD_cons_succ, hN, t0, t1, t2, t3, t4, t5, t6, hst, hp, z8v, Option.getD_some, Option.isSome_some, q4k, he, qqt, decide_false, Bool.not_false, Bool.false_eq_true, Bool.true_eq_false, false_implies, true_and, and_true, qg6, z5s, z3j, z2m, q6i, List.length_map, yz, decide_eq_true_eq, Int.ofNat_le, forall_const]
 exact ⟨⟨g1, g2, g3, g4⟩, hR⟩
end
def wkA (A : Nat → Prop) (n8 N1 : Nat) (b : Nat) : Prop := A b ∧ (b < n8 ∨ N1 ≤ b)
def wkS (p2 : ql) (w9 : World) (n8 m : Nat) (b : Nat) : Prop := pinned p2 b ∨ q2f w9 (n8 + 1) m b
def jn (c2 : Cx) (p2 : ql) (s0 : So) (n8 : Nat) (W1 : World) (a9 : Act) : Cx := { c2 with A := wkA c2.A n8 W1.heap.size, F := q0s p2 s0 c2.F.fr, snap := fun t => a9.tmps.getD t Go.undef }
structure WkH (wk : Wk) (s0 : So) (o0 : List Ce) (l : List At) (k : Nat) (sk : So) (o : List Ce) : Prop where
 run : jf wk.val sk o (l.drop k) = jf wk.val s0 o0 l
 ok : qa0 wk.val sk (l.drop k) = true
 grow : q9x s0 sk
 len : o.length ≤ o0.length + k
def WkG (p2 : ql) (s0 : So) (p : ql) : Prop := ∀ b, p 33 = some b → (q0s p2 s0 (fun _ => True)).fl b = 0
def WkI (c2 : Cx) (p2 : ql) (w9 W1 : World) (a9 : Act) (m n8 : Nat) (wk : Wk) (s0 : So) (x0 : Ce) (o0 : List Ce) (dw : D) (k N : Nat) (W : World) : Prop := w9.heap.size + 2 ≤ N ∧ N ≤ W.heap.size ∧ ∃ p3 sk o, WkH wk s0 o0 (yf s0 x0) k sk o ∧ Bs (jn c2 p2 s0 n8 W1 a9).A (jn c2 p2 s0 n8 W1 a9).F W1 (wkS p2 w9 n8 m) p3 W ∧ SF ((jn c2 p2 s0 n8 W1 a9).at (qe (q04 s0)) [eW wk, eS sk, .r (o.map eC), .i 0, dw]) qu0 p3 W a9 ∧ (∀ y b, p3 y = some b → b < N) ∧ WkG p2 s0 p3
def WkM (c2 : Cx) (p2 : ql) (w9 W1 : World) (a9 : Act) (m n8 : Nat) (wk : Wk) (s0 : So) (x0 : Ce) (o0 : List Ce) (dw : D) (k N B : Nat) (a1 : Act) (W : World) : Prop := ∃ y p4 sk o, (yf s0 x0)[k]? = some y ∧ WkH wk s0 o0 (yf s0 x0) k sk o ∧ Bs (jn c2 p2 s0 n8 W1 a9).A (jn c2 p2 s0 n8 W1 a9).F W1 (wkS p2 w9 n8 m) p4 W ∧ SF ((jn c2 p2 s0 n8 W1 a9).at (qe (q04 s0)) (q64 wk sk o dw y)) qy8 p4 W a1 ∧ a1.defers = [] ∧ a1.tmps.size = 69 ∧ w9.heap.size + 2 ≤ N ∧ N ≤ B ∧ B ≤ W.heap.size ∧ (∀ q b, p4 q = some b → b < N ∨ B ≤ b) ∧ WkG p2 s0 p4
def WkJ (c2 : Cx) (p2 : ql) (w9 W1 : World) (a9 : Act) (m n8 : Nat) (wk : Wk) (s0 : So) (x0 : Ce) (o0 : List Ce) (W : World) : Prop := ¬ (jf wk.val s0 o0 (yf s0 x0)).2.2 = 0 ∧ ∃ p3 l, Bs (jn c2 p2 s0 n8 W1 a9).A (jn c2 p2 s0 n8 W1 a9).F W1 (wkS p2 w9 n8 m) p3 W ∧ SF ((jn c2 p2 s0 n8 W1 a9).at (qe (q04 s0)) (l ++ [eS (jf wk.val s0 o0 (yf s0 x0)).1, .r [], .i (jf wk.val s0 o0 (yf s0 x0)).2.2])) zek p3 W a9 ∧ l.length = 7
theorem qke {w' W1 : World} {bc m : Nat} {S1 : Nat → Prop} {A' : Nat → Prop} {F : Flr} {W W' : World} {p3 : ql} (hS : ∀ b, q2f w' bc m b → S1 b) (hA : ∀ b, A' b → ¬ q2f w' bc m b) (hF : ∀ b, 0 < F.fl b → ¬ q2f w' bc m b) (h : Bs A' F W1 S1 p3 W) (hb : But (q2f w' bc m) W W') : Bs A' F W1 S1 p3 W' ∧ Stab A' no no p3 W p3 W' :=
 ⟨⟨h.inj, fun x b hx => Nat.lt_of_lt_of_le (h.bd x b hx) hb.size, h.but.trans hb fun i hi _ => .inl (hS i hi), h.pin, h.new, h.pa, fun x b hx => (h.obj x b hx).same (hb.block b (h.bd x b hx) (hA b (h.pa x b hx))), h.flo.same fun k hk hfl => hb.block k hk (hF k hfl)⟩,
  hb.size, fun b hlt ha hf => ⟨hb.block b hlt (hA b ha), hf⟩, fun x b _ hx => hx, fun x b _ hx => hb.block b (h.bd x b hx) (hA b (h.pa x b hx))⟩
theorem zdy {p : ql} {s : So} {fr : Nat → Prop} {b : Nat} (h : 0 < (q0s p s fr).fl b) : ∃ x, p x = some b := by
 unfold q0s at h
 simp only at h
 split at h
 ·exact ⟨_, ‹_›⟩
 ·split at h
  ·exact ⟨_, ‹_›⟩
  ·split at h
   ·exact ⟨_, ‹_›⟩
   ·split at h
    ·exact ⟨_, ‹_›⟩
    ·omega
end
section
open Go.RowKit Go.Shelf
theorem qik (wv : Ce) (s : So) (o : List Ce) (x : At) (l : List At) : jf wv s o (x :: l) = if (zm wv s x).2.2.1 = 0 then jf wv (zm wv s x).2.2.2 (o ++ [(zm wv s x).1]) l else ((zm wv s x).2.2.2, [], (zm wv s x).2.2.1) := rfl
def qC (x : Nat) : Bool := Nat.beq x 32 || Nat.beq x 33
def qO (x : Nat) : Bool := !(Nat.beq x 32 || (Nat.beq x 33 || Nat.beq x 160))
theorem ziz {x : Nat} (h : qO x = false) : x = 32 ∨ x = 33 ∨ x = 160 := by
 unfold qO at h
 simp only [Bool.not_eq_false', Bool.or_eq_true] at h
 exact h.imp Nat.eq_of_beq_eq_true fun h => h.imp Nat.eq_of_beq_eq_true Nat.eq_of_beq_eq_true
section
variable {c2 : Cx} {p2 : ql} {w9 W1 : World} {a9 : Act} {m n8 : Nat} {s0 : So} {x0 : Ce} {wk : Wk} {o0 : List Ce} {dw : D} {v0 v1 v2 v3 : Value}
theorem z97 : q1u [] [] 7 (q16 [] [] [] 7 qu9) = qu9 := by kernel_rfl
theorem z7c {F : Flr} {w0 W : World} (h : Flo F w0 W) {g : Nat} {cur : Array Value} {T : TypeId} {t : Ty} (hg : W.heap[g]? = some (.cells cur T (0, 0))) (hT : qp T = some t) (hs : cur.size = t.w) (hnv : nvB t = false) : F.fl g = 0 := by
 rcases Nat.eq_zero_or_pos (F.fl g) with e | e
 ·exact e
 ·have hp := q20 hT
  have := (FlW.var h hg hT hs (fun h => by rw [hnv] at h; cases h) #[] e cur T hg).1
  simp at this
  omega
theorem zhr (hlo : c2.lo = 1) (hz : a9.tmps.size = 69) (h9 : w9.heap.size = n8 + 2) (hinj : ∀ x y b, p2 x = some b → p2 y = some b → x = y) (hp2 : ∀ x b, p2 x = some b → b < n8)
  (h0 : q1l c2.A p2 w9 [] 1 33 qn (s0.cs.map eC) v0) (h1 : q1l c2.A p2 w9 [] 2 58 j4 (s0.ys.map eY) v1) (h2 : q1l c2.A p2 w9 [] 3 69 q17 (s0.tr.map eU) v2) (h3 : q1l c2.A p2 w9 [] 4 65 zs (s0.wk.map eW) v3) (r1 : yo .i64 s0.ser = true) (r2 : yo .i64 s0.mx = true)
  (hg : ∃ T, w9.heap[n8]? = some (.cells [v0, v1, v2, v3, .int .i64 s0.ser, .int .i64 s0.mx].toArray T (0, 0))) (hbut : But Nil w9 W1) (hm1 : w9.heap.size + 2 ≤ m) (hm2 : m < W1.heap.size) (hob : o0.length + (yf s0 x0).length + 1 ≤ 8796093021952) :
  ItOk w9 a9 3 n8 (n8 + 1) m 36 37 z4i qy9 [v0, v1, v2, v3, .int .i64 s0.ser, .int .i64 s0.mx] s0 x0 (WkI c2 p2 w9 W1 a9 m n8 wk s0 x0 o0 dw) (WkM c2 p2 w9 W1 a9 m n8 wk s0 x0 o0 dw) (WkJ c2 p2 w9 W1 a9 m n8 wk s0 x0 o0) := by
 obtain ⟨T, hg⟩ := hg
 have hw1 := hbut.size
 have hAh : ∀ b, (jn c2 p2 s0 n8 W1 a9).A b → ¬ q2f w9 (n8 + 1) m b := fun b h => by
  have h : wkA c2.A n8 W1.heap.size b := h
  obtain ⟨-, h⟩ := h
  unfold q2f
  omega
 have hSh : ∀ b, q2f w9 (n8 + 1) m b → wkS p2 w9 n8 m b := fun b h => .inr h
 have hFh : ∀ b, 0 < (jn c2 p2 s0 n8 W1 a9).F.fl b → ¬ q2f w9 (n8 + 1) m b := fun b h => by
  obtain ⟨x, hx⟩ := zdy h
  have := hp2 x b hx
  unfold q2f
  omega
 have hfm : ∀ te, (jn c2 p2 s0 n8 W1 a9).F.mx te ≤ flM (q04 s0) te := fun te => ziy p2 s0 c2.F.fr te
 have hcl : (jn c2 p2 s0 n8 W1 a9).lo = 1 := hlo
 have hfl0 : ∀ {b : Nat} {W : World}, Flo (jn c2 p2 s0 n8 W1 a9).F W1 W → W1.heap.size ≤ b → (q0s p2 s0 (fun _ => True)).fl b = 0 := fun {b W} hF hb => by
  rcases Nat.eq_zero_or_pos ((q0s p2 s0 (fun _ => True)).fl b) with e | e
  ·exact e
  ·obtain ⟨cs, cs', T, te, hlt, -⟩ := hF b e
   omega
 refine ⟨?_, ?_, ?_, ?_, ?_, ?_⟩
 ·-- the copy is readable
  rintro k N W ⟨h4, h5, p3, sk, o, hh, hb3, hf3, hp3, hG⟩
  refine ⟨h4, h5, ⟨T, ?_⟩, ?_⟩
  ·refine (hb3.but.block n8 (by omega) ?_).trans ((hbut.block n8 (by omega) (fun h => h)).trans hg)
   rintro (⟨x, hx⟩ | h)
   ·have := hp2 x n8 hx
    omega
   ·unfold q2f at h
    omega
  ·refine Rd.mono (fun b _ hb => ?_) (zgw hinj h0 h1 h2 h3 r1 r2 (w1 := W1) (W := W) (fr := c2.F.fr) (fun x b hx => hbut.block b (by have := hp2 x b hx; omega) (fun h => h)) hb3.flo)
   obtain ⟨x, hx⟩ := hb
   have := hp2 x b hx
   exact ⟨by omega, by omega⟩
 ·rintro k N W W' ⟨h4, h5, p3, sk, o, hh, hb3, hf3, hp3, hG⟩ hb
  obtain ⟨q1, q2⟩ := qke hSh hAh hFh hb3 hb
  exact ⟨h4, Nat.le_trans h5 hb.size, p3, sk, o, hh, q1, SF.same q2 hf3, hp3, hG⟩
 ·-- the loop's variables
  rintro k N W y hy hyo ⟨h4, h5, p3, sk, o, hh, hb3, hf3, hp3, hG⟩
  have hsf : SF ((jn c2 p2 s0 n8 W1 a9).at (qe (q04 s0)) (q64 wk sk o dw y)) ⟨qi6 ++ [(36, .v (.tok 5) .str [] []), (37, .v (.tok 6) qn [] [])], z7w⟩ p3 W { tmps := (a9.tmps.setIfInBounds 36 (.string y.name)).setIfInBounds 37 (.agg (ceL y.val).toArray), defers := [] } := by
   refine ⟨fun t x hx => ?_, fun j e he => ?_⟩
   ·have hx := qx hx
    have old : ∀ t x, lkA qu0.t t = some x → t ≠ 36 → t ≠ 37 → (∀ v, x.pd ((jn c2 p2 s0 n8 W1 a9).at (qe (q04 s0)) [eW wk, eS sk, .r (o.map eC), .i 0, dw]) p3 W v → x.pd ((jn c2 p2 s0 n8 W1 a9).at (qe (q04 s0)) (q64 wk sk o dw y)) p3 W v) → ∃ v, ((a9.tmps.setIfInBounds 36 (.string y.name)).setIfInBounds 37 (.agg (ceL y.val).toArray))[t]? = some v ∧ x.pd ((jn c2 p2 s0 n8 W1 a9).at (qe (q04 s0)) (q64 wk sk o dw y)) p3 W v := fun t x hl n1 n2 hpd => by
     obtain ⟨v, e1, e2⟩ := hf3.t t x hl
     exact ⟨v, by rw [Array.getElem?_setIfInBounds_ne (Ne.symm n2), Array.getElem?_setIfInBounds_ne (Ne.symm n1)]; exact e1, hpd v e2⟩
    simp only [qi6, List.cons_append, List.nil_append, List.mem_cons, Prod.mk.injEq, List.not_mem_nil, or_false] at hx
    rcases hx with ⟨rfl, rfl⟩ | ⟨rfl, rfl⟩ | ⟨rfl, rfl⟩ | ⟨rfl, rfl⟩ | ⟨rfl, rfl⟩ | ⟨rfl, rfl⟩ | ⟨rfl, rfl⟩ | ⟨rfl, rfl⟩
    ·exact old _ _ (by kernel_rfl) (by decide) (by decide) fun v h => h
    ·exact old _ _ (by kernel_rfl) (by decide) (by decide) fun v h => h
    ·exact old _ _ (by kernel_rfl) (by decide) (by decide) fun v h => h
    ·exact old _ _ (by kernel_rfl) (by decide) (by decide) fun v h => h
    ·exact old _ _ (by kernel_rfl) (by decide) (by decide) fun v h => h
    ·exact old _ _ (by kernel_rfl) (by decide) (by decide) fun v h => h
    ·exact ⟨.string y.name, by rw [Array.getElem?_setIfInBounds_ne (by decide), Array.getElem?_setIfInBounds_self_of_lt (by omega)], _, rfl, Con.of_rd (show Rd W _ (.s y.name) .str _ from ⟨rfl, rfl, hyo.1⟩)⟩
    ·exact ⟨.agg (ceL y.val).toArray, by rw [Array.getElem?_setIfInBounds_self_of_lt (by simp; omega)], ceL y.val, rfl, Con.of_rd (show Rd W _ (eC y.val) qn _ from qrd hyo.2)⟩
   ·have he := qx he
    simp only [z7w, List.mem_cons, Prod.mk.injEq, List.not_mem_nil, or_false] at he
    rcases he with ⟨rfl, rfl⟩ | ⟨rfl, rfl⟩ | ⟨rfl, rfl⟩ | ⟨rfl, rfl⟩
    ·exact hf3.m 0 _ (by kernel_rfl)
    ·exact hf3.m 2 _ (by kernel_rfl)
    ·exact hf3.m 3 _ (by kernel_rfl)
    ·exact hf3.m 6 _ (by kernel_rfl)
  have hcs := hf3.m 2 ⟨.tok 2, zj, [(0, 33)], []⟩ (by kernel_rfl)
  obtain ⟨vc, tc1, tc2⟩ := hf3.t 2 (.sn 2 (.ref 2 [] 0 zj)) (by kernel_rfl)
  have hbA := qmx (q := qC) (F' := (jn c2 p2 s0 n8 W1 a9).F) hb3 hb3.flo.anew fun _ h => h
  have hfA := qno (q := qC) (hsf.weak (τ := z8m) (by kernel_rfl)) (by kernel_rfl) (by kernel_rfl)
  have pre := q8j (c := { (jn c2 p2 s0 n8 W1 a9) with A := q9h (jn c2 p2 s0 n8 W1 a9).A qC p3 }) (z := 69) (some (w9.heap.size + 1)) 3 (quf s0) hfm (qrq s0) [z4i] (n := 7) (ann := q6j) (R := fun o => o = []) (B := fun _ _ => False) (ts := []) (ms := []) (kill := []) (σk := qu9) (l := q64 wk sk o dw y) (σ := z8m) (d := []) (w0 := W) (S0 := pinned (unP qC p3)) (p := unP qC p3) (Q := fun _ _ _ => False)
   (K := fun a1 W2 => WkM c2 p2 w9 W1 a9 m n8 wk s0 x0 o0 dw k N W.heap.size a1 W2 ∧ KpN w9 (n8 + 1) m N W.heap.size W W2)
   (by
    show (q3w Try.prog (q04 s0) q6j c2.lo 69 [z4i] 7 z8m (toN [] [] [] qu9)).go _ _ _ _
    rw [hlo]
    unfold q04
    rw [zf0]
    rfl) rfl hbA hfA rfl (by simp; exact hz) (fun st p4 W2 a2 hR hst hb4 hf4 hd4 hz4 => ?_)
  ·exact pre
  ·have hR : st = [] := hR
   subst hR
   rw [z97, List.append_nil] at hf4
   have hb5 := qu8 hb3 hb4 (hb3.flo.trans hb4.flo)
   have hf5 := qru (c := (jn c2 p2 s0 n8 W1 a9).at (qe (q04 s0)) (q64 wk sk o dw y)) (q := qC) hb3 hb4 hf4 (by kernel_rfl) (by kernel_rfl)
   have hc5 := ql8 (c := (jn c2 p2 s0 n8 W1 a9).at (qe (q04 s0)) (q64 wk sk o dw y)) (q := qC) (k := 2) (e := ⟨.tok 2, zj, [(0, 33)], []⟩) hb3 hb4 hcs (by kernel_rfl) (by kernel_rfl)
   have ht5 := qui (c := (jn c2 p2 s0 n8 W1 a9).at (qe (q04 s0)) (q64 wk sk o dw y)) (q := qC) (x := .sn 2 (.ref 2 [] 0 zj)) hb3 hb4 tc2 (by kernel_rfl) (by kernel_rfl)
   have hf6 : SF ((jn c2 p2 s0 n8 W1 a9).at (qe (q04 s0)) (q64 wk sk o dw y)) qy8 (q5r qC p3 p4) W2 a2 := by
    refine ⟨fun t x hx => ?_, fun j e he => ?_⟩
    ·have hx := qx hx
     simp only [qy8, qi6, List.cons_append, List.nil_append, List.mem_cons, Prod.mk.injEq, List.not_mem_nil, or_false] at hx
     rcases hx with ⟨rfl, rfl⟩ | ⟨rfl, rfl⟩ | ⟨rfl, rfl⟩ | ⟨rfl, rfl⟩ | ⟨rfl, rfl⟩ | ⟨rfl, rfl⟩ | ⟨rfl, rfl⟩ | ⟨rfl, rfl⟩
     ·exact hf5.t 0 _ (by kernel_rfl)
     ·exact hf5.t 1 _ (by kernel_rfl)
     ·obtain ⟨v, e1, e2, -⟩ := hf5.t 2 (.sn 2 .any) (by kernel_rfl)
      obtain ⟨e3, -⟩ := id tc2
      have e4 : v = vc := e2.trans e3.symm
      exact ⟨v, e1, by rw [e4]; exact ht5⟩
     ·exact hf5.t 3 _ (by kernel_rfl)
     ·exact hf5.t 6 _ (by kernel_rfl)
     ·exact hf5.t 24 _ (by kernel_rfl)
     ·exact hf5.t 7 _ (by kernel_rfl)
     ·exact hf5.t 8 _ (by kernel_rfl)
    ·have he := qx he
     simp only [qy8, List.mem_cons, Prod.mk.injEq, List.not_mem_nil, or_false] at he
     rcases he with ⟨rfl, rfl⟩ | ⟨rfl, rfl⟩ | ⟨rfl, rfl⟩ | ⟨rfl, rfl⟩ | ⟨rfl, rfl⟩
     ·exact hf5.m 0 _ (by kernel_rfl)
     ·exact hc5
     ·exact hf5.m 3 _ (by kernel_rfl)
     ·exact hf5.m 6 _ (by kernel_rfl)
     ·exact hf5.m 8 _ (by kernel_rfl)
   refine ⟨⟨y, _, sk, o, hy, hh, hb5, hf6, hd4, hz4, h4, h5, hb4.but.size, fun q b hq => ?_, fun b hb => ?_⟩, hb4.but.size, fun b hlt hb => hb4.but.block b hlt ?_⟩
   ·unfold q5r at hq
    split at hq
    ·exact .inl (hp3 q b hq)
    ·rcases q73 (q := qC) (c := jn c2 p2 s0 n8 W1 a9) hb3 hb4 hq with ⟨q', -, hq'⟩ | h
     ·exact .inl (hp3 q' b hq')
     ·exact .inr h
   ·exact hG b hb
   ·rintro ⟨q, hq⟩
    have hq := (q49 hq).2
    rcases hb with hb | hb
    ·have := hp3 q b hq
     omega
    ·exact hAh b (hb3.pa q b hq) hb
 ·rintro k N B a1 W W' ⟨y, p4, sk, o, hy, hh, hb4, hf4, hd4, hz4, h4, h5, h6, hp4, hG⟩ hb
  obtain ⟨q1, q2⟩ := qke hSh hAh hFh hb4 hb
  exact ⟨y, p4, sk, o, hy, hh, q1, SF.same q2 hf4, hd4, hz4, h4, h5, Nat.le_trans h6 hb.size, hp4, hG⟩
 ·-- a round
  rintro k N B a1 W hkl ⟨y, p4, sk, o, hy, hh, hb4, hf4, hd4, hz4, h4, h5, h6, hp4, hG⟩
  obtain ⟨hrun, hok, hgr, hlen⟩ := hh
  have hdr : (yf s0 x0).drop k = y :: (yf s0 x0).drop (k + 1) := by
   obtain ⟨hlt, e⟩ := List.getElem?_eq_some_iff.1 hy
   rw [List.drop_eq_getElem_cons hlt, e]
  rw [hdr] at hrun hok
  unfold qa0 at hok
  simp only [Bool.and_eq_true, Bool.or_eq_true, decide_eq_true_eq] at hok
  obtain ⟨hv, hok⟩ := hok
  have hKp : ∀ {W2 : World} {S : Nat → Prop}, But S W W2 → (∀ b, S b → ∃ q, p4 q = some b) → KpN w9 (n8 + 1) m N B W W2 := fun {W2 S} hbu hS => ⟨hbu.size, fun b hlt hb => hbu.block b (by omega) fun h => by
   obtain ⟨q, hq⟩ := hS b h
   rcases hb with hb | hb
   ·have := hp4 q b hq
    omega
   ·exact hAh b (hb4.pa q b hq) hb⟩
  by_cases he : (zm wk.val sk y).2.2.1 = 0
  ·-- the put succeeds
   rcases hok with hok | hok
   ·exact absurd he hok
   rw [qik] at hrun
   rw [if_pos he] at hrun
   have hcs := hf4.m 2 ⟨.tok 2, zj, [(0, 33)], []⟩ (by kernel_rfl)
   obtain ⟨vc, tc1, tc2⟩ := hf4.t 2 (.sn 2 (.ref 2 [] 0 zj)) (by kernel_rfl)
   have hbA := qmx (q := qC) (F' := (jn c2 p2 s0 n8 W1 a9).F) hb4 hb4.flo.anew fun _ h => h
   have hfA := qno (q := qC) (hf4.weak (τ := qu9) (by kernel_rfl)) (by kernel_rfl) (by kernel_rfl)
   rw [z0i]
   refine q14 qfi ?_
   refine q8j (c := { (jn c2 p2 s0 n8 W1 a9) with A := q9h (jn c2 p2 s0 n8 W1 a9).A qC p4 }) (z := 69) (some (w9.heap.size + 1)) 3 (quf s0) hfm (qrq s0) qfi (n := 7) (ann := q6j) (R := fun q => q = [eS (zm wk.val sk y).2.2.2, eC (zm wk.val sk y).1]) (B := fun _ _ => False) (ts := []) (ms := qzc) (kill := []) (σk := z5t) (l := q64 wk sk o dw y) (σ := qu9) (d := []) (w0 := W) (S0 := pinned (unP qC p4)) (p := unP qC p4)
    (by
     show (q3w Try.prog (q04 s0) q6j c2.lo 69 qfi 7 qu9 (toN [] qzc [] z5t)).go _ _ _ _
     rw [hlo]
     have e := zef s0.cs.length s0.ys.length s0.tr.length s0.wk.length
     unfold q04
     rw [e]
     exact zhu hv hgr he rfl) rfl hbA hfA hd4 hz4 (fun st p5 W2 a2 hR hst hb5 hf5 hd5 hz5 => ?_)
   have hR : st = [eS (zm wk.val sk y).2.2.2, eC (zm wk.val sk y).1] := hR
   subst hR
   rw [show q1u [] qzc 7 (q16 [] qzc [] 7 z5t) = qz1 from z9n] at hf5
   obtain ⟨l9, hl9⟩ : ∃ l9, l9 = q64 wk sk o dw y ++ [eS (zm wk.val sk y).2.2.2, eC (zm wk.val sk y).1] := ⟨_, rfl⟩
   have hb6 := qu8 hb4 hb5 (hb4.flo.trans hb5.flo)
   have hf6 := qru (c := (jn c2 p2 s0 n8 W1 a9).at (qe (q04 s0)) (q64 wk sk o dw y ++ [eS (zm wk.val sk y).2.2.2, eC (zm wk.val sk y).1])) (q := qC) hb4 hb5 hf5 (by kernel_rfl) (by kernel_rfl)
   have hc6 := ql8 (c := (jn c2 p2 s0 n8 W1 a9).at (qe (q04 s0)) (q64 wk sk o dw y)) (q := qC) (k := 2) (e := ⟨.tok 2, zj, [(0, 33)], []⟩) hb4 hb5 hcs (by kernel_rfl) (by kernel_rfl)
   have ht6 := qui (c := (jn c2 p2 s0 n8 W1 a9).at (qe (q04 s0)) (q64 wk sk o dw y)) (q := qC) (x := .sn 2 (.ref 2 [] 0 zj)) hb4 hb5 tc2 (by kernel_rfl) (by kernel_rfl)
   have hp6 : ∀ q b, q5r qC p4 p5 q = some b → b < N ∨ B ≤ b := fun q b hq => by
    unfold q5r at hq
    split at hq
    ·exact hp4 q b hq
    ·rcases q73 (q := qC) (c := jn c2 p2 s0 n8 W1 a9) hb4 hb5 hq with ⟨q', -, hq'⟩ | h
     ·exact hp4 q' b hq'
     ·exact .inr (by omega)
   have hG6 : WkG p2 s0 (q5r qC p4 p5) := fun b hb => hG b hb
   have hbu6 : KpN w9 (n8 + 1) m N B W W2 := hKp hb5.but fun b ⟨q, hq⟩ => ⟨q, (q49 hq).2⟩
   generalize hp66 : q5r qC p4 p5 = p6 at *
   -- the cell is appended
   obtain ⟨c0, hc0⟩ : ∃ c0 : Cx, c0 = { (jn c2 p2 s0 n8 W1 a9) with F := ⟨fun _ => 0, fun _ => 0, (jn c2 p2 s0 n8 W1 a9).F.fr⟩ } := ⟨_, rfl⟩
   have hc0A : c0.A = (jn c2 p2 s0 n8 W1 a9).A := by rw [hc0]
   have hF0 : Flo ⟨fun _ => 0, fun _ => 0, (jn c2 p2 s0 n8 W1 a9).F.fr⟩ W2 W2 := fun k h => absurd h (Nat.lt_irrefl 0)
   have hsf : SF (c0.at (qe []) [.r (o.map eC), eC (zm wk.val sk y).1]) qul p6 W2 a2 := by
    refine ⟨fun t x hx => ?_, fun j e he => ?_⟩
    ·have hx := qx hx
     simp only [qul, qoi, List.cons_append, List.nil_append, List.mem_cons, Prod.mk.injEq, List.not_mem_nil, or_false] at hx
     have sn : ∀ t z, lkA qz1.t t = some (.sn t z) → ∃ v, a2.tmps[t]? = some v ∧ (AV.sn t .any).pd (c0.at (qe []) [.r (o.map eC), eC (zm wk.val sk y).1]) p6 W2 v := fun t z hl => by
      obtain ⟨v, e1, e2, -⟩ := hf6.t t _ hl
      exact ⟨v, e1, by rw [hc0]; exact e2, trivial⟩
     rcases hx with ⟨rfl, rfl⟩ | ⟨rfl, rfl⟩ | ⟨rfl, rfl⟩ | ⟨rfl, rfl⟩ | ⟨rfl, rfl⟩ | ⟨rfl, rfl⟩ | ⟨rfl, rfl⟩
     ·exact sn 0 (.ref 0 [] 0 qj) (by kernel_rfl)
     ·exact sn 1 (.bx 1 37 (.ref 0 [] 0 qj)) (by kernel_rfl)
     ·obtain ⟨v, e1, e2, -⟩ := hf6.t 2 (.sn 2 .any) (by kernel_rfl)
      obtain ⟨e3, -⟩ := id tc2
      have e4 : v = vc := e2.trans e3.symm
      refine ⟨v, e1, ?_⟩
      rw [e4, hc0]
      exact ht6
     ·exact sn 3 (.ref 3 [] 0 zu) (by kernel_rfl)
     ·exact sn 6 (.ref 6 [] 0 zs) (by kernel_rfl)
     ·exact sn 24 (.v (.tok 4) q2s [(0, 385)] []) (by kernel_rfl)
     ·rw [hc0]
      exact hf6.t 10 (.ref 10 [] 0 qn) (by kernel_rfl)
    ·have he := qx he
     simp only [qul, List.mem_cons, Prod.mk.injEq, List.not_mem_nil, or_false] at he
     rcases he with ⟨rfl, rfl⟩ | ⟨rfl, rfl⟩
     ·rw [hc0]
      exact hc6
     ·rw [hc0]
      exact hf6.m 10 ⟨.tok 8, qn, [], []⟩ (by kernel_rfl)
   have hbB := qmx (q := qO) (F' := ⟨fun _ => 0, fun _ => 0, (jn c2 p2 s0 n8 W1 a9).F.fr⟩) hb6 hF0 fun _ h => h
   have hfB := qno (q := qO) hsf (by kernel_rfl) (by kernel_rfl)
   have hlen2 : (o.length : Int) + 1 ≤ 8796093021952 := by
    have : k < (yf s0 x0).length := hkl
    omega
   have pre := q8j (c := { c0 with A := q9h c0.A qO p6 }) (z := 69) (some (w9.heap.size + 1)) 3 .nil (fun te => by rw [hc0]; exact Nat.zero_le _) rfl [z16] (n := 2) (ann := q6j) (R := fun q => q = [.r ((o ++ [(zm wk.val sk y).1]).map eC)]) (B := fun _ _ => False) (ts := []) (ms := qz3) (kill := []) (σk := ⟨qoi, []⟩) (l := [.r (o.map eC), eC (zm wk.val sk y).1]) (σ := qul) (d := []) (w0 := W2) (S0 := pinned (unP qO p6)) (p := unP qO p6) (Q := fun _ _ _ => False)
    (K := fun a2 W3 => KpN w9 (n8 + 1) m N B W W3 ∧ WkI c2 p2 w9 W1 a9 m n8 wk s0 x0 o0 dw (k + 1) W3.heap.size W3)
    (by
     show (q3w Try.prog [] q6j c0.lo 69 [z16] 2 qul (toN [] qz3 [] ⟨qoi, []⟩)).go _ _ _ _
     rw [show c0.lo = 1 by rw [hc0]; exact hlo, z4y]
     unfold zdl
     rw [qa]
     refine ⟨⟨?_, trivial⟩, ?_⟩
     ·show (D.b (decide ((((o.map eC).length : Nat) : Int) + 1 ≤ 8796093021952))).tt = true
      rw [List.length_map, q4k, decide_eq_true_eq]
      exact hlen2
     ·show [D.r (o.map eC ++ [eC (zm wk.val sk y).1])] = _
      rw [List.map_append]
      rfl) rfl (by rw [hc0]; exact hbB) hfB hd5 hz5 (fun st p7 W3 a3 hR hst hb7 hf7 hd7 hz7 => ?_)
   ·refine wpIn_mono pre fun e a3 W3 hq => ?_
    cases e with
    | normal => exact ⟨hq.1, .inl ⟨rfl, hq.2⟩⟩
    | _ => exact hq.elim
   ·have hR : st = [.r ((o ++ [(zm wk.val sk y).1]).map eC)] := hR
    subst hR
    rw [show q1u [] qz3 2 (q16 [] qz3 [] 2 ⟨qoi, []⟩) = zav from zb6] at hf7
    rw [hc0] at hb7
    have hb7 : Bs (q9h (jn c2 p2 s0 n8 W1 a9).A qO p6) ⟨fun _ => 0, fun _ => 0, (jn c2 p2 s0 n8 W1 a9).F.fr⟩ W2 (pinned (unP qO p6)) p7 W3 := hb7
    have hfl : ∀ x b, qO x = false → p6 x = some b → (jn c2 p2 s0 n8 W1 a9).F.fl b = 0 := fun x b hx hxb => by
     rcases ziz hx with rfl | rfl | rfl
     ·obtain ⟨g, cs, T, hg, hh, hT, hcon⟩ := hsf.m 2 _ (by kernel_rfl : lkA qul.m 2 = some ⟨.tok 0, zj, [(0, 33)], []⟩)
      rw [show p6 32 = some g from hg] at hxb
      injection hxb with hxb
      subst hxb
      exact z7c hb6.flo hh hT (by rw [← Array.length_toList]; exact hcon.len.1) (by kernel_rfl)
     ·exact hG6 b hxb
     ·obtain ⟨g, cs, T, hg, hh, hT, hcon⟩ := hsf.m 10 _ (by kernel_rfl : lkA qul.m 10 = some ⟨.tok 1, qn, [], []⟩)
      rw [show p6 160 = some g from hg] at hxb
      injection hxb with hxb
      subst hxb
      exact z7c hb6.flo hh hT (by rw [← Array.length_toList]; exact hcon.len.1) (by kernel_rfl)
    have hflo : Flo (jn c2 p2 s0 n8 W1 a9).F W1 W3 := hb6.flo.same fun b hb hfb => qai (q := qO) (c := jn c2 p2 s0 n8 W1 a9) hb6 hb7 hb fun x hx hxb => by
     have := hfl x b hx hxb
     omega
    have hb8 := qu8 (q := qO) (c := jn c2 p2 s0 n8 W1 a9) hb6 hb7 hflo
    have hf7 : SF { (c0.at (qe []) ([.r (o.map eC), eC (zm wk.val sk y).1] ++ [.r ((o ++ [(zm wk.val sk y).1]).map eC)])) with A := q9h c0.A qO p6 } zav p7 W3 a3 := hf7
    have hf8 := qru (c := c0.at (qe []) ([.r (o.map eC), eC (zm wk.val sk y).1] ++ [.r ((o ++ [(zm wk.val sk y).1]).map eC)])) (q := qO) (F := (jn c2 p2 s0 n8 W1 a9).F) (w0 := W1) (S0 := wkS p2 w9 n8 m) (w := W2) (p := p6) (by rw [hc0]; exact hb6) (by rw [hc0]; exact hb7) hf7 (by kernel_rfl) (by kernel_rfl)
    -- what was set aside
    have back : ∀ (x : AV) (v : Value), x.pd ((jn c2 p2 s0 n8 W1 a9).at (qe (q04 s0)) (q64 wk sk o dw y ++ [eS (zm wk.val sk y).2.2.2, eC (zm wk.val sk y).1])) p6 W2 v → x.pins.all qO = true → x.keys.all qO = true → x.pd ((jn c2 p2 s0 n8 W1 a9).at (qe (q04 s0)) (q64 wk sk o dw y ++ [eS (zm wk.val sk y).2.2.2, eC (zm wk.val sk y).1])) (q5r qO p6 p7) W3 v := fun x v hx h1 h2 => qui (c := ((jn c2 p2 s0 n8 W1 a9).at (qe (q04 s0)) (q64 wk sk o dw y ++ [eS (zm wk.val sk y).2.2.2, eC (zm wk.val sk y).1]))) (q := qO) hb6 hb7 hx h1 h2
    have backE : ∀ (j : Nat) (e : Ent), q0g ((jn c2 p2 s0 n8 W1 a9).at (qe (q04 s0)) (q64 wk sk o dw y ++ [eS (zm wk.val sk y).2.2.2, eC (zm wk.val sk y).1])) p6 W2 j e → qO (j * 16) = true → e.pins.all qO = true → q0g ((jn c2 p2 s0 n8 W1 a9).at (qe (q04 s0)) (q64 wk sk o dw y ++ [eS (zm wk.val sk y).2.2.2, eC (zm wk.val sk y).1])) (q5r qO p6 p7) W3 j e := fun j e hx h1 h2 => ql8 (c := ((jn c2 p2 s0 n8 W1 a9).at (qe (q04 s0)) (q64 wk sk o dw y ++ [eS (zm wk.val sk y).2.2.2, eC (zm wk.val sk y).1]))) (q := qO) hb6 hb7 hx h1 h2
    have ha9 : ∀ t, t < 69 → a9.tmps[t]? = some ((jn c2 p2 s0 n8 W1 a9).snap t) := fun t ht => by
     show _ = some (a9.tmps.getD t Go.undef)
     rw [Array.getD_eq_getD_getElem?, Array.getElem?_eq_getElem (by omega)]
     rfl
    have hfin : SF ((jn c2 p2 s0 n8 W1 a9).at (qe (q04 s0)) [eW wk, eS (zm wk.val sk y).2.2.2, .r ((o ++ [(zm wk.val sk y).1]).map eC), .i 0, dw]) qu0 (q5r qO p6 p7) W3 a9 := by
     refine ⟨fun t x hx => ?_, fun j e he => ?_⟩
     ·have hx := qx hx
      have old : ∀ t z, lkA qz1.t t = some (.sn t z) → t < 69 → z.pins.all qO = true → z.keys.all qO = true → ∃ v, a9.tmps[t]? = some v ∧ (AV.sn t z).pd ((jn c2 p2 s0 n8 W1 a9).at (qe (q04 s0)) (q64 wk sk o dw y ++ [eS (zm wk.val sk y).2.2.2, eC (zm wk.val sk y).1])) (q5r qO p6 p7) W3 v := fun t z hl ht h1 h2 => by
       obtain ⟨v, e1, e2⟩ := hf6.t t _ hl
       obtain ⟨e3, -⟩ := id e2
       have e3 : v = (jn c2 p2 s0 n8 W1 a9).snap t := e3
       exact ⟨v, by rw [e3]; exact ha9 t ht, back _ _ e2 h1 h2⟩
      simp only [qu0, qi6, List.mem_cons, Prod.mk.injEq, List.not_mem_nil, or_false] at hx
      rcases hx with ⟨rfl, rfl⟩ | ⟨rfl, rfl⟩ | ⟨rfl, rfl⟩ | ⟨rfl, rfl⟩ | ⟨rfl, rfl⟩ | ⟨rfl, rfl⟩
      ·exact old 0 (.ref 0 [] 0 qj) (by kernel_rfl) (by decide) (by kernel_rfl) (by kernel_rfl)
      ·exact old 1 (.bx 1 37 (.ref 0 [] 0 qj)) (by kernel_rfl) (by decide) (by kernel_rfl) (by kernel_rfl)
      ·obtain ⟨v, e1, e2⟩ := hf8.t 2 (.sn 2 (.ref 2 [] 0 zj)) (by kernel_rfl)
       rw [hc0] at e2
       obtain ⟨e3, -⟩ := id e2
       have e3 : v = (jn c2 p2 s0 n8 W1 a9).snap 2 := e3
       exact ⟨v, by rw [e3]; exact ha9 2 (by decide), e2⟩
      ·exact old 3 (.ref 3 [] 0 zu) (by kernel_rfl) (by decide) (by kernel_rfl) (by kernel_rfl)
      ·exact old 6 (.ref 6 [] 0 zs) (by kernel_rfl) (by decide) (by kernel_rfl) (by kernel_rfl)
      ·exact old 24 (.v (.tok 4) q2s [(0, 385)] []) (by kernel_rfl) (by decide) (by kernel_rfl) (by kernel_rfl)
     ·have he := qx he
      simp only [qu0, z7w, List.mem_cons, Prod.mk.injEq, List.not_mem_nil, or_false] at he
      rcases he with ⟨rfl, rfl⟩ | ⟨rfl, rfl⟩ | ⟨rfl, rfl⟩ | ⟨rfl, rfl⟩
      ·exact backE 0 _ (hf6.m 0 _ (by kernel_rfl : lkA qz1.m 0 = some ⟨.tok 7, qj, qu 0 qj, []⟩)) (by kernel_rfl) (by kernel_rfl)
      ·have := hf8.m 2 _ (by kernel_rfl : lkA zav.m 2 = some ⟨.tok 2, zj, [(0, 33)], []⟩)
       rw [hc0] at this
       exact this
      ·exact backE 3 _ (hf6.m 3 _ (by kernel_rfl : lkA qz1.m 3 = some ⟨.tok 3, zu, [], []⟩)) (by kernel_rfl) (by kernel_rfl)
      ·exact backE 6 _ (hf6.m 6 _ (by kernel_rfl : lkA qz1.m 6 = some ⟨.tok 0, zs, [], []⟩)) (by kernel_rfl) (by kernel_rfl)
    refine ⟨⟨by have h1 := hbu6.1; have h2 := hb7.but.size; omega, fun b hlt hb => ?_⟩, by have h1 := hbu6.1; have h2 := hb7.but.size; omega, Nat.le_refl _, _, _, _, ⟨hrun, hok, hgr.trans (quw hv), by simp; omega⟩, hb8, hfin, fun x b hx => hb8.bd x b hx, fun b hb => ?_⟩
    ·have h1 := hbu6.1
     refine (hb7.but.block b (by omega) ?_).trans (hbu6.2 b hlt hb)
     rintro ⟨q, hq⟩
     have hq := (q49 hq).2
     rcases hb with hb | hb
     ·have := hp6 q b hq
      omega
     ·exact hAh b (hb6.pa q b hq) hb
    ·have hb : p7 33 = some b := hb
     rcases q73 (q := qO) (c := jn c2 p2 s0 n8 W1 a9) hb6 hb7 hb with ⟨x, hx, hxb⟩ | hlt
     ·exact hfl x b hx hxb
     ·refine hfl0 hflo ?_
      have := hb6.but.size
      omega
  ·-- the put fails
   rw [qik] at hrun
   rw [if_neg he] at hrun
   rw [z0i]
   refine q14 qfi ?_
   refine q7e (c := jn c2 p2 s0 n8 W1 a9) (z := 69) (some (w9.heap.size + 1)) 3 (quf s0) hfm (qrq s0) qfi (n := 7) (ann := q6j) (R := fun q => q = [eS (zm wk.val sk y).2.2.2, .r [], .i (zm wk.val sk y).2.2.1]) (B := fun _ _ => False) (d := []) (l := q64 wk sk o dw y) (σ := qy8) (k := zgl) (by
     show (q3w Try.prog (q04 s0) q6j c2.lo 69 qfi 7 qy8 zgl).go _ _ _ _
     rw [hlo]
     have e := zge s0.cs.length s0.ys.length s0.tr.length s0.wk.length
     unfold q04
     rw [e]
     exact zin hv hgr he rfl) rfl hb4.anew hf4 hd4 hz4 fun n' r σ' l' B' p' w' a' hl' hpre hgo hb' hf' hd' hz' => ?_
   cases r with
   | normal => exact hgo.elim
   | exit i => exact hgo.elim
   | ret =>
    obtain ⟨st, p5, hR, -, hb5, hf5⟩ := qft (n' := n') (c := jn c2 p2 s0 n8 W1 a9) hgo hpre rfl hb' hf'
    have hR : st = [eS (zm wk.val sk y).2.2.2, .r [], .i (zm wk.val sk y).2.2.1] := hR
    subst hR
    rw [show q1u [] z5d 7 (q16 [] z5d [] 7 zfw) = zek from zay] at hf5
    refine ⟨hKp hb5.but fun b h => h, .inr ⟨rfl, ?_⟩⟩
    unfold WkJ
    rw [← hrun]
    exact ⟨he, p5, q64 wk sk o dw y, hb4.comp hb5, hf5.snapA (by rw [hz]; kernel_rfl) fun t ht => by
     show _ = some (a9.tmps.getD t Go.undef)
     rw [Array.getD_eq_getD_getElem?, Array.getElem?_eq_getElem ht]
     rfl, rfl⟩
 ·rintro W W' ⟨he, p3, l, hb3, hf3, hl⟩ hb
  obtain ⟨q1, q2⟩ := qke hSh hAh hFh hb3 hb
  exact ⟨he, p3, l, q1, SF.same q2 hf3, hl⟩
end
end
section
open Go.RowKit Go.Shelf
section
variable {w : World} {a : Act} {o : Oper} {v u : Value}
theorem z7v {ops : Array Oper} {rest : List Oper} {Q : Act → Prop} (hg : o.guard = none) (h : (execOp a.eval o).run Try.prog w = .ok (.value v) w) (hk : wpStill Try.prog ops w Q rest (a.put o.dst v)) : wpStill Try.prog ops w Q (o :: rest) a := by
 unfold wpStill
 rw [if_pos (by simp [Region.wanted, hg])]
 unfold Oper.still
 rw [h]
 exact ⟨rfl, hk⟩
theorem qig {t : Nat} (h : a.tmps[t]? = some v) : a.eval (.tmp t) = v := by
 show a.tmps.getD t undef = v
 rw [Array.getD_eq_getD_getElem?, h]
 rfl
theorem qbo {k t : Nat} (h : k ≠ t) : (a.put (some k) v).tmps[t]? = a.tmps[t]? := by
 simp only [Act.put]
 rw [Array.getElem?_setIfInBounds_ne h]
theorem qqd {k : Nat} (h : k < a.tmps.size) : (a.put (some k) v).tmps[k]? = some v := by
 simp only [Act.put]
 rw [Array.getElem?_setIfInBounds_self, if_pos h]
theorem q6n {k : Option Nat} : (a.put k v).tmps.size = a.tmps.size := by
 cases k <;> simp [Act.put]
theorem qqr {k : Option Nat} : (a.put k v).defers = a.defers := by
 cases k <;> simp [Act.put]
theorem qzb {T : TypeId} {y : Operand} (heq : o.op = .load T y) (hy : a.eval y = u) (hr : (Instr.loadAt T u).run Try.prog w = .ok v w) : (execOp a.eval o).run Try.prog w = .ok (.value v) w := by
 subst hy
 generalize a.eval = r at *
 simp [execOp, heq, hr]
theorem zat {T : TypeId} {y : Operand} {j : Nat} (heq : o.op = .fieldAddr T y j) (hy : a.eval y = u) (hr : (Instr.fieldAt T u j).run Try.prog w = .ok v w) : (execOp a.eval o).run Try.prog w = .ok (.value v) w := by
 subst hy
 generalize a.eval = r at *
 simp [execOp, heq, hr]
theorem zh1 {y : Operand} {ad : Addr} (heq : o.op = .nilCheck y) (hy : a.eval y = .pointer (some ad)) : (execOp a.eval o).run Try.prog w = .ok (.value (.pointer (some ad))) w := by
 generalize a.eval = r at *
 simp [execOp, heq, hy]
end
section
variable {w : World} {a : Act} {g1 gs g6 : Nat} {v0 v1 v2 v3 v4 v5 u0 u1 u2 u3 u4 : Value} {T1 T T6 : TypeId} {d d6 : D} {F0 F6 : Nat → Prop}
set_option maxHeartbeats 1000000 in
theorem zib (hz : a.tmps.size = 69) (e1 : a.tmps[1]? = some (.pointer (some ⟨g1, 0, none⟩))) (hg1 : w.heap[g1]? = some (.cells #[.pointer (some ⟨gs, 0, none⟩)] T1 (0, 0))) (hgs : w.heap[gs]? = some (.cells #[v0, v1, v2, v3, v4, v5] T (0, 0))) (rd : Rd w F0 d qj [v0, v1, v2, v3, v4, v5])
  (e6 : a.tmps[6]? = some (.pointer (some ⟨g6, 0, none⟩))) (hg6 : w.heap[g6]? = some (.cells #[u0, u1, u2, u3, u4] T6 (0, 0))) (rd6 : Rd w F6 d6 qn [u1, u2]) {Q : Exit → Act → World → Prop}
  (hk : ∀ a', a'.defers = a.defers → a'.tmps.size = 69 → (∀ t, t < 30 → a'.tmps[t]? = a.tmps[t]?) → a'.tmps[35]? = some (.func (.func 72) #[] #[ptV w.heap.size, ptV (w.heap.size + 1)]) →
   Q .normal a' ((w.drew.alloc (.cells #[v0, v1, v2, v3, v4, v5] 27)).alloc (.cells #[u1, u2] 33))) : wkY.wp Try.prog Q a w := by
 rw [z99]
 refine wp_region_still_tail 5 (by kernel_rfl) (by kernel_rfl) ?_
 generalize z7s.toArray = ops
 show wpStill Try.prog ops w.drew (fun a' => wpList Try.prog ops Q (z7s.drop 5) a' w.drew) (z7s.take 5) a
 simp only [z7s, List.take_succ_cons, List.take_zero, List.drop_succ_cons, List.drop_zero]
 refine z7v rfl (qzb (v := .pointer (some ⟨gs, 0, none⟩)) rfl (qig e1) (qaf (by kernel_rfl) (show w.drew.heap[g1]? = _ from hg1))) ?_
 refine z7v rfl (zh1 (ad := ⟨gs, 0, none⟩) rfl (qig (qqd (by omega)))) ?_
 obtain ⟨va, hva, hpa⟩ := q61 (w := w.drew) (F := F0) (T := 27) (t := qj) (by kernel_rfl) (b := gs) (o := 0) (cs := [v0, v1, v2, v3, v4, v5]) (fun i v hv => by
  rw [qag (show w.drew.heap[gs]? = _ from hgs), Nat.zero_add]
  simpa using hv) (d := d) (Rd.keeps (w := w) (w' := w.drew) (F := F0) (F' := F0) (fun b o h ho => ⟨ho, h⟩) _ rd)
 have hpa : va = .agg #[v0, v1, v2, v3, v4, v5] := hpa
 subst hpa
 refine z7v rfl (qzb rfl (qig (qqd (by rw [q6n]; omega))) hva) ?_
 refine z7v rfl (zat (v := .pointer (some ⟨g6, 1, none⟩)) (u := .pointer (some ⟨g6, 0, none⟩)) rfl (qig (by
  rw [qbo (by decide), qbo (by decide), qbo (by decide)]
  exact e6)) (by
  have h := q7m (w := w.drew) (T := 65) (S := match zs with | .st S => S | _ => 0) (by kernel_rfl) (fs := [.int .i64, qn, qn]) (by kernel_rfl) (j := 1) (t := qn) rfl g6 0
  exact h)) ?_
 obtain ⟨vb, hvb, hpb⟩ := q61 (w := w.drew) (F := F6) (T := 33) (t := qn) (by kernel_rfl) (b := g6) (o := 1) (cs := [u1, u2]) (fun i v hv => by
  rw [qag (show w.drew.heap[g6]? = _ from hg6)]
  rcases i with _ | _ | i
  ·exact hv
  ·exact hv
  ·cases hv) (d := d6) (Rd.keeps (w := w) (w' := w.drew) (F := F6) (F' := F6) (fun b o h ho => ⟨ho, h⟩) _ rd6)
 have hpb : vb = .agg #[u1, u2] := hpb
 subst hpb
 refine z7v rfl (qzb rfl (qig (qqd (by rw [q6n, q6n, q6n]; omega))) hvb) ?_
 refine wpStill_nil ?_
 -- the call
 obtain ⟨a5, ha5⟩ : ∃ a5 : Act, a5 = ((((a.put (some 30) (.pointer (some ⟨gs, 0, none⟩))).put (some 31) (.pointer (some ⟨gs, 0, none⟩))).put (some 32) (.agg #[v0, v1, v2, v3, v4, v5])).put (some 33) (.pointer (some ⟨g6, 1, none⟩))).put (some 34) (.agg #[u1, u2]) := ⟨_, rfl⟩
 have h32 : a5.eval (.tmp 32) = .agg #[v0, v1, v2, v3, v4, v5] := qig (by
  rw [ha5, qbo (by decide), qbo (by decide), qqd (by rw [q6n, q6n]; omega)])
 have h34 : a5.eval (.tmp 34) = .agg #[u1, u2] := qig (by
  rw [ha5, qqd (by rw [q6n, q6n, q6n, q6n]; omega)])
 have h5z : a5.tmps.size = 69 := by rw [ha5, q6n, q6n, q6n, q6n, q6n]; exact hz
 have h5d : a5.defers = a.defers := by rw [ha5, qqr, qqr, qqr, qqr, qqr]
 have h5t : ∀ t, t < 30 → a5.tmps[t]? = a.tmps[t]? := fun t ht => by
  rw [ha5, qbo (by omega), qbo (by omega), qbo (by omega), qbo (by omega), qbo (by omega)]
 show wpList Try.prog ops Q _ _ w.drew
 rw [show ((((a.put (some 30) (.pointer (some ⟨gs, 0, none⟩))).put (some 31) (.pointer (some ⟨gs, 0, none⟩))).put (some 32) (.agg #[v0, v1, v2, v3, v4, v5])).put (some 33) (.pointer (some ⟨g6, 1, none⟩))).put (some 34) (.agg #[u1, u2]) = a5 from ha5.symm]
 unfold wpList
 rw [if_pos (by simp [Region.wanted])]
 refine .inl ?_
 unfold Oper.wp
 rw [show (execOp a5.eval _).run Try.prog w.drew = .ok (.enter 49 #[.agg #[v0, v1, v2, v3, v4, v5], .agg #[u1, u2]]) w.drew by
  have hen := qx5 (49, 72, 27, 33) (by simp [qrg]) #[.agg #[v0, v1, v2, v3, v4, v5], .agg #[u1, u2]] w.drew
  have hfv : a5.eval (.func 49) = .func (.func 49) #[] #[] := rfl
  generalize a5.eval = r at *
  simp [execOp, resolve, Deferred.ofValue, hfv, invoke, h32, h34, hen]]
 show Calls Try.prog 49 _ w.drew _
 refine (z1y w.drew v0 v1 v2 v3 v4 v5 u1 u2).mono ?_
 rintro e w' ⟨rfl, rfl⟩
 show wpList Try.prog ops Q [] (a5.put (some 35) _) _
 refine hk _ (by rw [qqr]; exact h5d) (by rw [q6n]; exact h5z) (fun t ht => by rw [qbo (by omega)]; exact h5t t ht) (qqd (by omega))
end
end
section
open Go.RowKit Go.Shelf
theorem zi9 {w : World} {F : Nat → Prop} {k : Wk} {cs : List Value} (h : Rd w F (eW k) zs cs) : cs = [.int .i64 k.ser, .int .i64 k.att.t, .int .i64 k.att.n, .int .i64 k.val.t, .int .i64 k.val.n] ∧ Rd w F (eC k.att) qn [.int .i64 k.att.t, .int .i64 k.att.n] ∧ k.att.ok := by
 have hfl : flds (match zs with | .st S => S | _ => 0) = some [.int .i64, qn, qn] := by kernel_rfl
 obtain ⟨l, e, hF⟩ := Ins.of_rdS hfl h
 injection e with e
 subst e
 obtain ⟨d, l', c1, c2, e1, rfl, h1, hG⟩ := Ins.of_rdF hF
 obtain ⟨d2, l2, c3, c4, e2, rfl, h2, hH⟩ := Ins.of_rdF hG
 obtain ⟨d3, l3, c5, c6, e3, rfl, h3, hI⟩ := Ins.of_rdF hH
 obtain ⟨rfl, rfl⟩ := Ins.of_rdN hI
 injection e1 with e1 e1'
 subst e1 e1'
 injection e2 with e2 e2'
 subst e2 e2'
 injection e3 with e3 _
 subst e3
 obtain ⟨n1, -, q1, rfl⟩ := Ins.of_rdI h1
 injection q1 with q1
 subst q1
 have hok := qzw h2
 obtain rfl := qrf h2
 obtain rfl := qrf h3
 exact ⟨rfl, h2, hok⟩
noncomputable def zie : Nat := match wkF with
 | .rangeFunc _ _ _ (.block i _) => i
 | _ => 0
theorem zfd : wkF = .rangeFunc (.tmp 35) #[36, 37] z4i (.block zie qy9) := by kernel_rfl
theorem ItOk.blk {w : World} {a : Act} {n bs bc m : Nat} {ti tx : Tmp} {assign body : Code} {css : List Value} {s : So} {c0 : Ce} {I : Nat → Nat → World → Prop} {M : Nat → Nat → Nat → Act → World → Prop} {J : World → Prop} (h : ItOk w a n bs bc m ti tx assign body css s c0 I M J) (i : Nat) : ItOk w a n bs bc m ti tx assign (.block i body) css s c0 I M J :=
 ⟨h.rd, h.step, h.assign, h.mstep, fun k N B a1 W hk hM => wpIn_block (wpIn_mono (h.body k N B a1 W hk hM) fun e a w hq => by
  rcases hq with ⟨h1, ⟨rfl, h2⟩ | ⟨rfl, h2⟩⟩
  ·exact ⟨h1, .inl ⟨rfl, h2⟩⟩
  ·exact ⟨h1, .inr ⟨rfl, h2⟩⟩), h.stop⟩
section
variable {c2 : Cx} {p8 : ql} {w8 : World} {a8 : Act} {s sk : So} {ws kk : D} {o : List Ce} {wk : Wk} {i2 : Nat}
set_option maxHeartbeats 2000000 in
theorem z6a (hlo : c2.lo = 1) (hfz : ∀ te, c2.F.mx te = 0) (hb : Bs c2.A c2.F w8 (pinned p8) p8 w8) (hf : SF (c2.at (qe q44) [eS s, ws, kk, eS sk, .r (o.map eC), .i 0, eS sk, .r (o.map eC), .i 0, eW wk]) zbd p8 w8 a8) (hz : a8.tmps.size = 69) (hok : qa0 wk.val sk (yf sk wk.att) = true) (hob : o.length + (yf sk wk.att).length + 1 ≤ 8796093021952) (so : sk.ok) {Q : Exit → Act → World → Prop}
  (hN : ∀ A3 p' W' a' D, (∀ b, A3 b → c2.A b) → ¬ A3 D → w8.heap.size ≤ D → W'.heap[D]? = some (.deferred (some [])) → a'.defers = ql3 D :: a8.defers → a'.tmps.size = 69 → (∀ b, b < w8.heap.size → ¬ pinned p8 b → W'.heap[b]? = w8.heap[b]?) → Bs c2.A c2.F w8 (pinned p8) p' W' → Bs A3 c2.F W' (pinned p') p' W' →
   (jf wk.val sk o (yf sk wk.att)).2.2 = 0 → SF (({ c2 with A := A3 } : Cx).at (qe q44) [eS s, ws, kk, eS (jf wk.val sk o (yf sk wk.att)).1, .r ((jf wk.val sk o (yf sk wk.att)).2.1.map eC), .i 0]) q45 p' W' a' → (jf wk.val sk o (yf sk wk.att)).2.1.length ≤ o.length + (yf sk wk.att).length → Q .normal a' W')
  (hR : ∀ A3 p' W' a' D, (∀ b, A3 b → c2.A b) → ¬ A3 D → w8.heap.size ≤ D → W'.heap[D]? = some (.deferred (some [])) → a'.defers = ql3 D :: a8.defers → a'.tmps.size = 69 → (∀ b, b < w8.heap.size → ¬ pinned p8 b → W'.heap[b]? = w8.heap[b]?) → Bs c2.A c2.F w8 (pinned p8) p' W' → Bs A3 c2.F W' (pinned p') p' W' →
   ¬ (jf wk.val sk o (yf sk wk.att)).2.2 = 0 → SF (({ c2 with A := A3 } : Cx).at (qe q44) [eS s, eS (jf wk.val sk o (yf sk wk.att)).1, .r [], .i (jf wk.val sk o (yf sk wk.att)).2.2]) wkE p' W' a' → Q .ret a' W') :
  (Code.seq wkY (.block i2 wkF)).wpIn (FR none) 5 Try.prog Q a8 w8 := by
 -- what is known before the copies
 obtain ⟨g1', t1, g1, u1, ⟨hp1, -⟩, rfl, hg1, gs', hgs', rfl, -⟩ := hf.t 1 (.bx 1 37 (.ref 0 [] 0 qj)) (by kernel_rfl)
 obtain ⟨gs, cs, T, hgs, hh, hT, hcon⟩ := hf.m 0 ⟨.tok 6, qj, qu 0 qj, []⟩ (by kernel_rfl)
 have hcon : Con c2.A p8 w8 (eS sk) qj (qu 0 qj) [] cs.toList := hcon
 have hgs' : p8 (0 * 16) = some gs' := hgs'
 rw [hgs] at hgs'
 injection hgs' with hgs'
 subst hgs'
 obtain ⟨v0, v1, v2, v3, ecs, q0, q1, q2, q3, r1, r2⟩ := qxr hcon
 obtain ⟨cs⟩ := cs
 have ecs : cs = _ := ecs
 subst ecs
 have rd0 : Rd w8 (FFD c2.A p8 ([] ++ (qu 0 qj).map (·.2))) (eS sk) qj [v0, v1, v2, v3, .int .i64 sk.ser, .int .i64 sk.mx] := Con.rd hcon (fun x hx => List.mem_append_left _ hx) (fun x hx => List.mem_append_right _ hx)
 obtain ⟨g6', t6, g6, hp6, rfl, -⟩ := hf.t 6 (.ref 6 [] 0 zs) (by kernel_rfl)
 obtain ⟨gw, csw, Tw, hgw, hhw, hTw, hcw⟩ := hf.m 6 ⟨.tok 9, zs, [], []⟩ (by kernel_rfl)
 have hp6 : p8 (6 * 16) = some g6 := hp6
 rw [hp6] at hgw
 injection hgw with hgw
 subst hgw
 have rdw : Rd w8 (FFD c2.A p8 []) (eW wk) zs csw.toList := Con.rd (show Con c2.A p8 w8 (eW wk) zs [] [] csw.toList from hcw) (fun _ h => h) (fun _ h => nomatch h)
 obtain ⟨ecw, rda, wo⟩ := zi9 rdw
 obtain ⟨csw⟩ := csw
 have ecw : csw = _ := ecw
 subst ecw
 refine wpIn_seq ((wpIn_wide (n := 5)).2 (zib hz t1 hg1 hh rd0 t6 hhw rda fun a9 hd9 hz9 ht9 h35 => ?_))
 obtain ⟨w9, hw9⟩ : ∃ w9, w9 = ((w8.drew.alloc (.cells #[v0, v1, v2, v3, .int .i64 sk.ser, .int .i64 sk.mx] 27)).alloc (.cells #[.int .i64 wk.att.t, .int .i64 wk.att.n] 33)) := ⟨_, rfl⟩
 rw [← hw9]
 have h9s : w9.heap.size = w8.heap.size + 2 := by rw [hw9]; simp
 have hb9 : But Nil w8 w9 := by rw [hw9]; exact (((But.refl _ _).drew).alloc _).alloc _
 have h9a : w9.heap[w8.heap.size]? = some (.cells #[v0, v1, v2, v3, .int .i64 sk.ser, .int .i64 sk.mx] 27 (0, 0)) := by rw [hw9]; exact q1c (jk rfl)
 have h9b : w9.heap[w8.heap.size + 1]? = some (.cells #[.int .i64 wk.att.t, .int .i64 wk.att.n] 33 (0, 0)) := by rw [hw9]; exact jk (by simp)
 clear hw9
 show (Code.block i2 wkF).wpIn (FR none) 5 Try.prog Q a9 w9
 refine wpIn_block ?_
 rw [zfd]
 obtain ⟨r, hr⟩ : ∃ r, r = jf wk.val sk o (yf sk wk.att) := ⟨_, rfl⟩
 rw [← hr] at hN hR
 have rd9 : Rd w9 (fun b => b ≠ w8.heap.size + 1) (eS sk) qj [v0, v1, v2, v3, .int .i64 sk.ser, .int .i64 sk.mx] := Rd.keeps (fun b o _ ho => ⟨(hb9.block b (Array.getElem?_eq_some_iff.1 ho).1 (fun h => h)).trans ho, by have : b < w8.heap.size := (Array.getElem?_eq_some_iff.1 ho).1; omega⟩) _ rd0
 refine z5p (nn := 5) (bs := w8.heap.size) (bc := w8.heap.size + 1) (css := [v0, v1, v2, v3, .int .i64 sk.ser, .int .i64 sk.mx]) (s := sk) (c0 := wk.att) (by omega) (qig h35) (by omega) ⟨_, h9a⟩ rd9 so ⟨_, by kernel_rfl, h9b⟩ wo fun m W1 hbut hm1 hm2 => ?_
 have hw1 := hbut.size
 have hbut8 : But Nil w8 W1 := hb9.trans_nil hbut
 have hp8 : ∀ x b, p8 x = some b → b < w8.heap.size := hb.bd
 -- the facts at the first round
 have hst : Stab (wkA c2.A w8.heap.size W1.heap.size) no no p8 w8 p8 W1 := ⟨hbut8.size, fun b hlt _ hfr => ⟨hbut8.block b hlt fun h => h, hfr⟩, fun _ _ _ h => h, fun x b _ hx => hbut8.block b (hp8 x b hx) fun h => h⟩
 have hf1 : SF (({ (c2.at (qe q44) [eS s, ws, kk, eS sk, .r (o.map eC), .i 0, eS sk, .r (o.map eC), .i 0, eW wk]) with A := wkA c2.A w8.heap.size W1.heap.size } : Cx)) zbd p8 W1 a8 := SF.same hst (SF.chP (A' := wkA c2.A w8.heap.size W1.heap.size) (fun b hb hA _ => ⟨hA, .inl hb⟩) hf)
 have sn9 : ∀ t v, t < 30 → a8.tmps[t]? = some v → a9.tmps[t]? = some v ∧ v = a9.tmps.getD t Go.undef := fun t v ht h => by
  have h' := (ht9 t ht).trans h
  refine ⟨h', ?_⟩
  rw [Array.getD_eq_getD_getElem?, h']
  rfl
 have hf0 : SF ((jn c2 p8 sk w8.heap.size W1 a9).at (qe (q04 sk)) [eW wk, eS sk, .r (o.map eC), .i 0, ws]) qu0 p8 W1 a9 := by
  refine ⟨fun t x hx => ?_, fun j e he => ?_⟩
  ·have hx := qx hx
   simp only [qu0, qi6, List.mem_cons, Prod.mk.injEq, List.not_mem_nil, or_false] at hx
   rcases hx with ⟨rfl, rfl⟩ | ⟨rfl, rfl⟩ | ⟨rfl, rfl⟩ | ⟨rfl, rfl⟩ | ⟨rfl, rfl⟩ | ⟨rfl, rfl⟩
   ·obtain ⟨v, e1, e2⟩ := hf1.t 0 (.ref 0 [] 0 qj) (by kernel_rfl)
    obtain ⟨e3, e4⟩ := sn9 0 v (by decide) e1
    exact ⟨v, e3, e4, e2⟩
   ·obtain ⟨v, e1, e2⟩ := hf1.t 1 (.bx 1 37 (.ref 0 [] 0 qj)) (by kernel_rfl)
    obtain ⟨e3, e4⟩ := sn9 1 v (by decide) e1
    exact ⟨v, e3, e4, e2⟩
   ·obtain ⟨v, e1, e2⟩ := hf1.t 2 (.ref 2 [] 0 zj) (by kernel_rfl)
    obtain ⟨e3, e4⟩ := sn9 2 v (by decide) e1
    exact ⟨v, e3, e4, e2⟩
   ·obtain ⟨v, e1, -, e2⟩ := hf1.t 3 (.sn (VB + 3) (.ref 3 [] 0 zu)) (by kernel_rfl)
    obtain ⟨e3, e4⟩ := sn9 3 v (by decide) e1
    exact ⟨v, e3, e4, e2⟩
   ·obtain ⟨v, e1, e2⟩ := hf1.t 6 (.ref 6 [] 0 zs) (by kernel_rfl)
    obtain ⟨e3, e4⟩ := sn9 6 v (by decide) e1
    exact ⟨v, e3, e4, e2⟩
   ·obtain ⟨v, e1, e2⟩ := hf1.t 24 (.v (.tok 1) q2s [(0, 385)] []) (by kernel_rfl)
    obtain ⟨e3, e4⟩ := sn9 24 v (by decide) e1
    exact ⟨v, e3, e4, e2⟩
  ·have he := qx he
   simp only [qu0, z7w, List.mem_cons, Prod.mk.injEq, List.not_mem_nil, or_false] at he
   rcases he with ⟨rfl, rfl⟩ | ⟨rfl, rfl⟩ | ⟨rfl, rfl⟩ | ⟨rfl, rfl⟩
   ·exact hf1.m 0 ⟨.tok 6, qj, qu 0 qj, []⟩ (by kernel_rfl)
   ·exact hf1.m 2 ⟨.tok 7, zj, [(0, 33)], []⟩ (by kernel_rfl)
   ·exact hf1.m 3 ⟨.tok 8, zu, [], []⟩ (by kernel_rfl)
   ·exact hf1.m 6 ⟨.tok 9, zs, [], []⟩ (by kernel_rfl)
 have hbs : ∀ F : Flr, F.fr = c2.F.fr → Flo F W1 W1 → Bs (wkA c2.A w8.heap.size W1.heap.size) F W1 (wkS p8 w9 w8.heap.size m) p8 W1 := fun F hfr hF =>
  ⟨hb.inj, fun x b hx => Nat.lt_of_lt_of_le (hp8 x b hx) hbut8.size, But.refl _ _, fun x b hx => .inl (.inl ⟨x, hx⟩), fun b hb' => ⟨⟨(hb.new b (by omega)).1, .inr hb'⟩, by rw [hfr]; exact (hb.new b (by omega)).2⟩, fun x b hx => ⟨hb.pa x b hx, .inl (hp8 x b hx)⟩, fun x b hx => (hb.obj x b hx).same (hbut8.block b (hp8 x b hx) fun h => h), hF⟩
 have hAD : ¬ wkA c2.A w8.heap.size W1.heap.size w9.heap.size := fun h => by
  have := h.2
  omega
 have hSp : ∀ b, wkS p8 w9 w8.heap.size m b → pinned p8 b ∨ w8.heap.size ≤ b := by
  rintro b (h | h)
  ·exact .inl h
  ·unfold q2f at h
   exact .inr (by omega)
 -- the end of the range
 have hval : ∀ {W : World} {p3 : ql} {t : Nat} {x : X} {l : List D}, t < 30 → lkA zbd.t t = some (.v x (.int .i64) [] []) → (x.ev (evl (qe q44) [eS s, ws, kk, eS sk, .r (o.map eC), .i 0, eS sk, .r (o.map eC), .i 0, eW wk]) = x.ev (evl (qe q44) l)) → ∃ v, a9.tmps[t]? = some v ∧ (AV.v x (.int .i64) [] []).pd (({ c2 with A := wkA c2.A w8.heap.size W1.heap.size } : Cx).at (qe q44) l) p3 W v := fun {W p3 t x l} ht hx he => by
  obtain ⟨v, e1, cs, e2, e3⟩ := hf.t t _ hx
  refine ⟨v, (sn9 t v ht e1).1, cs, e2, ?_⟩
  rw [show x.ev (c2.at (qe q44) _).v = x.ev (evl (qe q44) l) from he] at e3
  exact Con.of_rd (Rd.flat 8 _ (by kernel_rfl) (Con.rd e3 (dep' := []) (fun _ h => h) (fun _ h => nomatch h)))
 have hbsW : ∀ (F : Flr) p3 W, F.fr = c2.F.fr → Bs (wkA c2.A w8.heap.size W1.heap.size) F W1 (wkS p8 w9 w8.heap.size m) p3 W → Bs c2.A c2.F w8 (pinned p8) p3 W ∧ Bs (wkA c2.A w8.heap.size W1.heap.size) c2.F W (pinned p3) p3 W ∧ ∀ b, b < w8.heap.size → ¬ pinned p8 b → W.heap[b]? = w8.heap[b]? := fun F p3 W hfr h3 => by
  have h1 := h3.but.size
  have hbW : But (pinned p8) w8 W := (But.mono hbut8 fun _ h _ => h.elim).trans h3.but fun b hS hlt => by
   rcases hSp b hS with h | h
   ·exact .inl h
   ·exact .inr h
  refine ⟨⟨h3.inj, h3.bd, hbW, fun x b hx => ?_, hb.new, fun x b hx => (h3.pa x b hx).1, h3.obj, Flo.of0 hfz hb.flo⟩, ⟨h3.inj, h3.bd, But.refl _ _, fun x b hx => .inl ⟨x, hx⟩, fun b hb' => ⟨(h3.new b (by omega)).1, (hb.new b (by omega)).2⟩, h3.pa, h3.obj, Flo.of0 hfz hb.flo⟩, fun b hlt hn => hbW.block b hlt hn⟩
  rcases h3.pin x b hx with h | h
  ·exact hSp b h
  ·exact .inr (by omega)
 have fin : ∀ (F : Flr) p3 W sk' o', F.fr = c2.F.fr → Bs (wkA c2.A w8.heap.size W1.heap.size) F W1 (wkS p8 w9 w8.heap.size m) p3 W → SF ((jn c2 p8 sk w8.heap.size W1 a9).at (qe (q04 sk)) [eW wk, eS sk', .r (o'.map eC), .i 0, ws]) qu0 p3 W a9 → W.heap[w9.heap.size]? = some (.deferred (some [])) → r = (sk', o', 0) → o'.length ≤ o.length + (yf sk wk.att).length → Q .normal { a9 with defers := { target := .collected w9.heap.size, args := #[] } :: a9.defers } W := fun F p3 W sk' o' hfr h3 hs hD hre hol => by
  obtain ⟨b1, b2, b3⟩ := hbsW F p3 W hfr h3
  have e1 : r.1 = sk' := by rw [hre]
  have e2 : r.2.1 = o' := by rw [hre]
  have e3 : r.2.2 = 0 := by rw [hre]
  refine hN _ p3 W _ w9.heap.size (fun b h => h.1) hAD (by omega) hD (by show _ :: a9.defers = _; rw [hd9]; rfl) hz9 b3 b1 b2 e3 ?_ (by rw [e2]; exact hol)
  rw [e1, e2]
  refine ⟨fun t x hx => ?_, fun j e he => ?_⟩
  ·have hx := qx hx
   simp only [q45, List.mem_cons, Prod.mk.injEq, List.not_mem_nil, or_false] at hx
   rcases hx with ⟨rfl, rfl⟩ | ⟨rfl, rfl⟩ | ⟨rfl, rfl⟩ | ⟨rfl, rfl⟩ | ⟨rfl, rfl⟩ | ⟨rfl, rfl⟩ | ⟨rfl, rfl⟩
   ·obtain ⟨v, e1, -, e2⟩ := hs.t 0 (.sn 0 (.ref 0 [] 0 qj)) (by kernel_rfl)
    exact ⟨v, e1, e2⟩
   ·obtain ⟨v, e1, -, e2⟩ := hs.t 1 (.sn 1 (.bx 1 37 (.ref 0 [] 0 qj))) (by kernel_rfl)
    exact ⟨v, e1, e2⟩
   ·obtain ⟨v, e1, -, e2⟩ := hs.t 2 (.sn 2 (.ref 2 [] 0 zj)) (by kernel_rfl)
    exact ⟨v, e1, e2⟩
   ·obtain ⟨v, e1, -, e2⟩ := hs.t 3 (.sn 3 (.ref 3 [] 0 zu)) (by kernel_rfl)
    obtain ⟨v', f1, f2, -⟩ := hf.t 3 (.sn (VB + 3) (.ref 3 [] 0 zu)) (by kernel_rfl)
    have f3 := (sn9 3 v' (by decide) f1).1
    have e1' : a9.tmps[3]? = some v := e1
    rw [f3] at e1'
    injection e1' with e1'
    subst e1'
    exact ⟨v', f3, f2, e2⟩
   ·obtain ⟨v, e1, -, e2⟩ := hs.t 24 (.sn 24 (.v (.tok 4) q2s [(0, 385)] [])) (by kernel_rfl)
    exact ⟨v, e1, e2⟩
   ·exact hval (by decide) (by kernel_rfl) rfl
   ·exact hval (by decide) (by kernel_rfl) rfl
  ·have he := qx he
   simp only [q45, List.mem_cons, Prod.mk.injEq, List.not_mem_nil, or_false] at he
   rcases he with ⟨rfl, rfl⟩ | ⟨rfl, rfl⟩ | ⟨rfl, rfl⟩
   ·exact hs.m 0 ⟨.tok 1, qj, qu 0 qj, []⟩ (by kernel_rfl)
   ·exact hs.m 2 ⟨.tok 2, zj, [(0, 33)], []⟩ (by kernel_rfl)
   ·exact hs.m 3 ⟨.tok 3, zu, [], []⟩ (by kernel_rfl)
 rcases Nat.eq_zero_or_pos (yf sk wk.att).length with hnil | hpos
 ·-- no attributes
  have hnil := List.eq_nil_of_length_eq_zero hnil
  have hre : r = (sk, o, 0) := by rw [hr, hnil]; rfl
  have hF0 : Flo (⟨fun _ => 0, fun _ => 0, c2.F.fr⟩ : Flr) W1 W1 := fun k h => absurd h (Nat.lt_irrefl 0)
  refine ⟨fun k N W => w9.heap.size + 2 ≤ N ∧ N ≤ W.heap.size ∧ But (q2f w9 (w8.heap.size + 1) m) W1 W, fun _ _ _ _ _ => False, fun _ => False, ⟨?_, ?_, ?_, ?_, ?_, fun _ _ h => h.elim⟩, ⟨by omega, Nat.le_refl _, But.refl _ _⟩, ?_, fun W h => h.elim⟩
  ·rintro k N W ⟨h1, h2, h3⟩
   have hk : ∀ b o, w9.heap[b]? = some o → ¬ q2f w9 (w8.heap.size + 1) m b → W.heap[b]? = some o := fun b o ho hh => (h3.block b (by have : b < w9.heap.size := (Array.getElem?_eq_some_iff.1 ho).1; omega) hh).trans ((hbut.block b (Array.getElem?_eq_some_iff.1 ho).1 fun h => h).trans ho)
   refine ⟨h1, h2, ⟨_, hk _ _ h9a (by unfold q2f; omega)⟩, Rd.keeps (fun b o _ ho => ?_) _ rd0⟩
   have hlt : b < w8.heap.size := (Array.getElem?_eq_some_iff.1 ho).1
   exact ⟨hk b o ((hb9.block b hlt fun h => h).trans ho) (by unfold q2f; omega), by omega, by omega⟩
  ·rintro k N W W' ⟨h1, h2, h3⟩ hb'
   exact ⟨h1, Nat.le_trans h2 hb'.size, h3.trans hb' fun b h _ => .inl h⟩
  ·rintro k N W x hx
   rw [hnil] at hx
   cases hx
  ·intro k N B a1 W W' h
   exact h.elim
  ·intro k N B a1 W _ h
   exact h.elim
  ·rintro N W ⟨h1, h2, h3⟩ hD
   obtain ⟨q1, q2⟩ := qke (W1 := W1) (F := ⟨fun _ => 0, fun _ => 0, c2.F.fr⟩) (S1 := wkS p8 w9 w8.heap.size m) (A' := wkA c2.A w8.heap.size W1.heap.size) (fun b h => .inr h) (fun b h => by
    have := h.2
    unfold q2f
    omega) (fun b h => absurd h (Nat.lt_irrefl 0)) (hbs ⟨fun _ => 0, fun _ => 0, c2.F.fr⟩ rfl hF0) h3
   exact fin ⟨fun _ => 0, fun _ => 0, c2.F.fr⟩ p8 W sk o rfl q1 (SF.same q2 hf0) hD hre (by omega)
 ·-- attributes
  obtain ⟨hc2, hy2⟩ := z9t hpos
  have k9 : ∀ {pin : Nat} {E : TypeId} {te : Ty} {l : List D} {v : Value}, q1l c2.A p8 w8 [] pin E te l v → q1l c2.A p8 w9 [] pin E te l v := fun h => q1l.kept (Z := no) (L := no) h ⟨hb9.size, fun b hlt _ hfr => ⟨hb9.block b hlt fun h => h, hfr⟩, fun _ _ _ h => h, fun x b _ hx => hb9.block b (hp8 x b hx) fun h => h⟩ (fun _ h => nomatch h) ⟨rfl, rfl⟩
  have k1 : ∀ {pin : Nat} {E : TypeId} {te : Ty} {l : List D} {v : Value}, q1l c2.A p8 w8 [] pin E te l v → q1l c2.A p8 W1 [] pin E te l v := fun h => q1l.kept (Z := no) (L := no) h ⟨hbut8.size, fun b hlt _ hfr => ⟨hbut8.block b hlt fun h => h, hfr⟩, fun _ _ _ h => h, fun x b _ hx => hbut8.block b (hp8 x b hx) fun h => h⟩ (fun _ h => nomatch h) ⟨rfl, rfl⟩
  have hflo := zfx (fr := c2.F.fr) hb.inj (k1 q0) (k1 q1) (k1 q2) (k1 q3) hc2 hy2
  refine ⟨_, _, _, ItOk.blk (zhr (c2 := c2) (p2 := p8) (wk := wk) (o0 := o) (dw := ws) hlo hz9 h9s hb.inj hp8 (k9 q0) (k9 q1) (k9 q2) (k9 q3) r1 r2 ⟨_, h9a⟩ hbut hm1 hm2 hob) zie, ?_, ?_, ?_⟩
  ·refine ⟨by omega, Nat.le_refl _, p8, sk, o, ⟨rfl, by rw [List.drop_zero]; exact hok, q9x.refl _, by omega⟩, hbs _ rfl hflo, hf0, fun x b hx => by have := hp8 x b hx; omega, fun b hb33 => ?_⟩
   have ne : ∀ x, x ≠ 33 → ¬ p8 x = some b := fun x h hx => h (hb.inj x 33 b hx hb33)
   simp only [q0s, if_neg (ne 1 (by decide)), if_neg (ne 2 (by decide)), if_neg (ne 3 (by decide)), if_neg (ne 4 (by decide))]
  ·rintro N W ⟨-, -, p3, sk', o', ⟨hrun, -, -, hlen⟩, h3, hs, -, -⟩ hD
   rw [List.drop_length] at hrun
   exact fin (q0s p8 sk c2.F.fr) p3 W sk' o' rfl h3 hs hD (hr.trans hrun.symm) hlen
  ·rintro W ⟨he, p3, l, h3, hs, hl⟩ hD
   obtain ⟨b1, b2, b3⟩ := hbsW (q0s p8 sk c2.F.fr) p3 W rfl h3
   rw [← hr] at he hs
   refine hR _ p3 W _ w9.heap.size (fun b h => h.1) hAD (by omega) hD (by show _ :: a9.defers = _; rw [hd9]; rfl) hz9 b3 b1 b2 he ?_
   match l, hl with
   | [l0, l1, l2, l3, l4, l5, l6], _ =>
   refine ⟨fun t x hx => ?_, fun j e he => ?_⟩
   ·have hx := qx hx
    simp only [wkE, List.mem_cons, Prod.mk.injEq, List.not_mem_nil, or_false] at hx
    rcases hx with ⟨rfl, rfl⟩ | ⟨rfl, rfl⟩ | ⟨rfl, rfl⟩ | ⟨rfl, rfl⟩
    ·obtain ⟨v, e1, -, e2⟩ := hs.t 0 (.sn 0 (.ref 0 [] 0 qj)) (by kernel_rfl)
     exact ⟨v, e1, e2⟩
    ·obtain ⟨v, e1, -, e2⟩ := hs.t 1 (.sn 1 (.bx 1 37 (.ref 0 [] 0 qj))) (by kernel_rfl)
     exact ⟨v, e1, e2⟩
    ·obtain ⟨v, e1, -, e2⟩ := hs.t 2 (.sn 2 (.ref 2 [] 0 zj)) (by kernel_rfl)
     exact ⟨v, e1, e2⟩
    ·obtain ⟨v, e1, -, e2⟩ := hs.t 3 (.sn 3 (.ref 3 [] 0 zu)) (by kernel_rfl)
     obtain ⟨v', f1, f2, -⟩ := hf.t 3 (.sn (VB + 3) (.ref 3 [] 0 zu)) (by kernel_rfl)
     have f3 := (sn9 3 v' (by decide) f1).1
     have e1' : a9.tmps[3]? = some v := e1
     rw [f3] at e1'
     injection e1' with e1'
     subst e1'
     exact ⟨v', f3, f2, e2⟩
   ·have he := qx he
    simp only [wkE, List.mem_cons, Prod.mk.injEq, List.not_mem_nil, or_false] at he
    rcases he with ⟨rfl, rfl⟩ | ⟨rfl, rfl⟩ | ⟨rfl, rfl⟩
    ·exact hs.m 0 ⟨.tok 7, qj, qu 0 qj, []⟩ (by kernel_rfl)
    ·exact hs.m 2 ⟨.tok 8, zj, [(0, 33)], []⟩ (by kernel_rfl)
    ·exact hs.m 3 ⟨.tok 9, zu, [], []⟩ (by kernel_rfl)
end
end
section
open Go.RowKit Go.Shelf
abbrev q85 : Ty := .row 81
noncomputable def owC : Code := match Try.f37.body with
 | some c => c
 | none => .skip
noncomputable def ow1 : List Code := [sqL owC, sqL (sqR owC), sqL (sqL (sqR (sqR owC)))]
noncomputable def owL : Code := bkC (sqR (sqL (sqR (sqR owC))))
noncomputable def owZ : Code := sqR (sqR (sqR owC))
noncomputable def z9s : Code := match owL with
 | .rangeFunc _ _ a _ => a
 | _ => .skip
noncomputable def z8h : Code := match owL with
 | .rangeFunc _ _ _ b => b
 | _ => .skip
def qun : Ann := ⟨[2, 3, 4, 5, 6, 9, 18, 19, 20, 27], []⟩
noncomputable def z9v : List ResultVar := Try.f37.results.toList
def sR : St := ⟨[(4, .ref 4 [] 0 q85), (18, .ff 72 27 (.tok 0) qj 33 (.get (.fld (.tok 0) 0) (.add (.fld (.tok 1) 1) (.lit (.i 2)))) qn [])], []⟩
abbrev iR : List Item := [(4, q85, [(0, 65)], [])]
def sO1 : St := ⟨[(4, .sn 4 (.ref 4 [] 0 q85)), (19, .v (.tok 1) .str [] []), (20, .v (.tok 2) qn [] [])], [(4, ⟨.tok 0, q85, [(0, 65)], []⟩)]⟩
def sO2 : St := ⟨[(4, .sn 4 (.ref 4 [] 0 q85)), (5, .v (.tok 1) .str [] []), (6, .ref 6 [] 0 qn)], [(4, ⟨.tok 0, q85, [(0, 65)], []⟩), (6, ⟨.tok 2, qn, [], []⟩)]⟩
def sO3 : St := ⟨[(4, .sn 4 (.ref 4 [] 0 q85))], []⟩
def sO4 : St := ⟨[(4, .sn 4 (.ref 4 [] 0 q85))], [(4, ⟨.tok 0, q85, [(0, 65)], []⟩)]⟩
def sO5 : St := ⟨[(4, .ref 4 [] 0 q85)], [(4, ⟨.tok 0, q85, [(0, 65)], []⟩)]⟩
def zho : Tree := (.br (.not (.eq (.fld (.tok 1) 0) (.lit (.i 5)))) (.need [(.not (.eq (.fld (.tok 1) 0) (.lit (.i 5))))] (.leaf [(.lit (.r []))])) (.need [(.le (.lit (.i 0)) (.add (.fld (.tok 1) 1) (.lit (.i 2)))), (.lt (.add (.fld (.tok 1) 1) (.lit (.i 2))) (.len (.fld (.tok 0) 0))), (.rng .i64 (.add (.fld (.tok 1) 1) (.lit (.i 2))))] (.need [(.eq (.fld (.tok 1) 0) (.lit (.i 5)))] (.leaf [(.lit (.r []))]))))
theorem zc9 : q3w Try.prog [] qun 2 28 ow1 2 (qn9 zn) (fun n r σ => match r with | .normal => .need [.eq (.fld (.tok 1) 0) (.lit (.i 5))] (qj3 [] iR [] sR n .normal σ) | r => .need [.not (.eq (.fld (.tok 1) 0) (.lit (.i 5)))] (qa6 zn z9v n r σ)) = zho := by kernel_rfl
def zjm : Tree := (.leaf [])
theorem zbx : q3w Try.prog [] qun 2 28 [z9s] 3 sO1 (toN [] [] [] sO2) = zjm := by kernel_rfl
def zhp : Tree := (.need [(.le (.add (.len (.tok 0)) (.lit (.i 1))) (.lit (.i 4398046510976)))] (.leaf [(.app (.tok 0) (.row [(.mk [(.tok 1), (.tok 2)])]))]))
theorem zbt : q3w Try.prog [] qun 2 28 [z8h] 3 sO2 (toN [] iR [] sO3) = zhp := by kernel_rfl
def zjv : Tree := (.leaf [(.tok 0)])
theorem z8u : toT Try.prog [] qun 2 28 owZ [] 1 sO5 (qa6 zn z9v) = zjv := by kernel_rfl
end
section
open Go.RowKit Go.Shelf
theorem z6l : Try.f37.body = some owC := by kernel_rfl
theorem zfy : owC = seqs [sqL owC, sqL (sqR owC)] (.seq (.seq (sqL (sqL (sqR (sqR owC)))) (.block 0 owL)) owZ) := by kernel_rfl
theorem zft : owL = .rangeFunc (.tmp 18) #[19, 20] z9s z8h := by kernel_rfl
theorem z8o : Try.f37.ntmps = 28 := by kernel_rfl
def sOR : St := q1u [] iR 2 (q16 [] iR [] 2 sR)
theorem zkc : lkA sOR.t 4 = some (.ref 4 [] 0 q85) := by kernel_rfl
theorem zha : lkA sOR.t 18 = some (.ff 72 27 (.tok 0) qj 33 (.get (.fld (.tok 0) 0) (.add (.fld (.tok 1) 1) (.lit (.i 2)))) qn []) := by kernel_rfl
theorem zjx : lkA sOR.m 4 = some ⟨.tok 2, q85, [(0, 65)], []⟩ := by kernel_rfl
def sOB : St := q1u [] iR 3 (q16 [] iR [] 3 sO3)
theorem zk5 : lkA sOB.t 4 = some (.sn 4 (.ref 4 [] 0 q85)) := by kernel_rfl
theorem zjf : lkA sOB.m 4 = some ⟨.tok 3, q85, [(0, 65)], []⟩ := by kernel_rfl
theorem zid : q1u [] [] 3 (q16 [] [] [] 3 sO2) = sO2 := by kernel_rfl
theorem z7f {c : Cx} {p : ql} {W : World} {a : Act} {v : Value} {d : D} {S : Nat → List D → Option (List D)} (h4 : a.tmps[4]? = some v) (hsn : c.snap 4 = v) (hv : ∃ g, p 64 = some g ∧ v = .pointer (some ⟨g, 0, none⟩) ∧ c.At 4 g) (hm : q0g (c.at S [d]) p W 4 ⟨.tok 0, q85, [(0, 65)], []⟩) : SF (c.at S [d]) sO4 p W a := by
 refine ⟨fun t x hx => ?_, fun k e he => ?_⟩
 ·have hx := qx hx
  simp only [sO4, List.mem_cons, Prod.mk.injEq, List.not_mem_nil, or_false] at hx
  obtain ⟨rfl, rfl⟩ := hx
  exact ⟨v, h4, hsn.symm, hv⟩
 ·have he := qx he
  simp only [sO4, List.mem_cons, Prod.mk.injEq, List.not_mem_nil, or_false] at he
  obtain ⟨rfl, rfl⟩ := he
  exact hm
def z3s : List D → Option (List D)
 | [s, c] => if (dC c).t = 5 then (if inS (dS s) ((dC c).n + 2) ∧ (dS s).cs.length ≤ 4000000000000 then some [.r ((yf (dS s) (cellAt (dS s) ((dC c).n + 2))).map eA)] else none) else some [.r []]
 | _ => none
theorem qaj (s : So) : ∀ (k : Nat) (c : Ce) (met : List ByteArray), (q99 s k c met).length ≤ k
 | 0, _, _ => Nat.le_refl _
 | k + 1, c, met => by
  unfold q99
  split
  ·simp
  ·rename_i nm tl vl _
   have := qaj s k tl (nm :: met)
   split <;> simp <;> omega
theorem z9k {A A' : Nat → Prop} {p : ql} {w w' : World} {pin : Nat} {dep : List Nat} {cs : List Value} (h : Con A p w (.r []) q85 [(0, pin)] dep cs) (hk : ∀ g, p pin = some g → w'.heap[g]? = w.heap[g]?) : Con A' p w' (.r []) q85 [(0, pin)] dep cs := by
 rcases h with ⟨E, te, l, v, e1, hte, e2, e3, hv⟩ | ⟨K, V, kt, vt, l, g, es, clock, e1, hK, hV, e2, -⟩
 ·injection e2 with e2
  subst e2
  refine .inl ⟨E, te, [], v, e1, hte, rfl, e3, ?_⟩
  rcases hv with ⟨rfl, -⟩ | ⟨g, cap, cur, rfl, hg, hh, h1, h2, h3, h4, h5⟩
  ·exact .inl ⟨rfl, rfl⟩
  ·exact .inr ⟨g, cap, cur, rfl, hg, (hk g hg).trans hh, h1, h2, h3, h4, fun i hi => absurd hi (Nat.not_lt_zero _)⟩
 ·cases e2
section
variable {c c' : Cx} {p p2 : ql} {w w' W1 : World} {a a' : Act} {m g : Nat} {s : So} {x0 : Ce} {cs1 : List Value} {v4 : Value}
def qim (c : Cx) (w' : World) (g m : Nat) (b : Nat) : Prop := c.A b ∧ b ≠ g ∧ ¬ q2f w' (g + 1) m b
def zap (p2 : ql) (w' : World) (g m : Nat) (b : Nat) : Prop := pinned p2 b ∨ q2f w' (g + 1) m b
def OwI (c : Cx) (p2 : ql) (w' W1 : World) (g m : Nat) (s : So) (x0 : Ce) (a' : Act) (c' : Cx) (k N : Nat) (W : World) : Prop := w'.heap.size + 2 ≤ N ∧ N ≤ W.heap.size ∧ ∃ p3, Bs (qim c w' g m) c.F W1 (zap p2 w' g m) p3 W ∧ SF (c'.at (qe []) [.r (((yf s x0).take k).map eA)]) sO4 p3 W a' ∧ ∀ y b, p3 y = some b → b < N
def OwM (c : Cx) (p2 : ql) (w' W1 : World) (g m : Nat) (s : So) (x0 : Ce) (c' : Cx) (k N B : Nat) (a1 : Act) (W : World) : Prop := ∃ y p4, (yf s x0)[k]? = some y ∧ Bs (qim c w' g m) c.F W1 (zap p2 w' g m) p4 W ∧ SF (c'.at (qe []) [.r (((yf s x0).take k).map eA), .s y.name, eC y.val]) sO2 p4 W a1 ∧ a1.defers = [] ∧ a1.tmps.size = 28 ∧ w'.heap.size + 2 ≤ N ∧ N ≤ B ∧ B ≤ W.heap.size ∧ ∀ q b, p4 q = some b → b < N ∨ B ≤ b
theorem z58 {S1 : Nat → Prop} {A' : Nat → Prop} {F : Flr} (hfz : ∀ te, F.mx te = 0) {W W' : World} {p3 : ql} (hS : ∀ b, q2f w' (g + 1) m b → S1 b) (hA : ∀ b, A' b → ¬ q2f w' (g + 1) m b) (h : Bs A' F W1 S1 p3 W) (hb : But (q2f w' (g + 1) m) W W') : Bs A' F W1 S1 p3 W' ∧ Stab A' no no p3 W p3 W' :=
 ⟨⟨h.inj, fun x b hx => Nat.lt_of_lt_of_le (h.bd x b hx) hb.size, h.but.trans hb fun i hi _ => .inl (hS i hi), h.pin, h.new, h.pa, fun x b hx => (h.obj x b hx).same (hb.block b (h.bd x b hx) (hA b (h.pa x b hx))), Flo.of0 hfz h.flo⟩,
  hb.size, fun b hlt ha hf => ⟨hb.block b hlt (hA b ha), hf⟩, fun x b _ hx => hx, fun x b _ hx => hb.block b (h.bd x b hx) (hA b (h.pa x b hx))⟩
theorem zg9 (hln : s.cs.length ≤ 4000000000000) (hlo : c.lo = 2) (hfz : ∀ te, c.F.mx te = 0) (hz : a'.tmps.size = 28) (so : s.ok) (hc' : c' = { c with A := qim c w' g m, snap := fun t => a'.tmps.getD t Go.undef }) (h4 : a'.tmps[4]? = some v4)
  (hg : ∃ T, w'.heap[g]? = some (.cells cs1.toArray T (0, 0))) (hfg : q4n p2 g) (hbut : But Nil w' W1) (hm1 : w'.heap.size + 2 ≤ m) (hm2 : m < W1.heap.size) (r1 : Rd w' (fun b => FFD c.A p2 [] b ∧ b < g) (eS s) qj cs1) :
  ItOk w' a' 3 g (g + 1) m 19 20 z9s z8h cs1 s x0 (OwI c p2 w' W1 g m s x0 a' c') (OwM c p2 w' W1 g m s x0 c') fun _ => False := by
 obtain ⟨T, hg⟩ := hg
 have hgl := qt hg
 have hAh : ∀ b, qim c w' g m b → ¬ q2f w' (g + 1) m b := fun b h => h.2.2
 have hSh : ∀ b, q2f w' (g + 1) m b → zap p2 w' g m b := fun b h => .inr h
 have hfm : ∀ te, c'.F.mx te ≤ flM [] te := fun te => by rw [hc']; show c.F.mx te ≤ _; rw [hfz]; exact Nat.zero_le _
 have hcA : c'.A = qim c w' g m := by rw [hc']
 have hcF : c'.F = c.F := by rw [hc']
 have hcl : c'.lo = 2 := by rw [hc']; exact hlo
 have hsn : c'.snap 4 = v4 := by
  rw [hc']
  show a'.tmps.getD 4 Go.undef = v4
  simp [Array.getD_eq_getD_getElem?, h4]
 have hcT : c'.At = c.At := by rw [hc']
 refine ⟨?_, ?_, ?_, ?_, ?_, fun _ _ h => h.elim⟩
 ·rintro k N W ⟨h1, h2, p3, hb3, hf3, hp3⟩
  have hk : ∀ b o, w'.heap[b]? = some o → q4n p2 b → ¬ q2f w' (g + 1) m b → W.heap[b]? = some o := fun b o ho hf hh => by
   have hlt : b < w'.heap.size := (Array.getElem?_eq_some_iff.1 ho).1
   refine (hb3.but.block b (Nat.lt_of_lt_of_le hlt hbut.size) ?_).trans ((hbut.block b hlt (fun h => h)).trans ho)
   rintro (⟨x, hx⟩ | h)
   ·exact hf x hx
   ·exact hh h
  have hng : ¬ q2f w' (g + 1) m g := by unfold q2f; omega
  refine ⟨h1, h2, ⟨T, hk g _ hg hfg hng⟩, Rd.keeps (fun b o hb ho => ?_) _ r1⟩
  obtain ⟨hb1, hb2⟩ := hb
  rcases hb1 with ⟨-, hf⟩ | ⟨y, hy, -⟩
  ·refine ⟨hk b o ho hf (by unfold q2f; omega), by omega, by omega⟩
  ·cases hy
 ·rintro k N W W' ⟨h1, h2, p3, hb3, hf3, hp3⟩ hb
  obtain ⟨q1, q2⟩ := z58 hfz hSh hAh hb3 hb
  exact ⟨h1, Nat.le_trans h2 hb.size, p3, q1, SF.same (by show Stab c'.A no no p3 W p3 W'; rw [hcA]; exact q2) hf3, hp3⟩
 ·rintro k N W y hy hyo ⟨h1, h2, p3, hb3, hf3, hp3⟩
  obtain ⟨v, t4, hv⟩ := hf3.t 4 _ (by kernel_rfl : lkA sO4.t 4 = some (.sn 4 (.ref 4 [] 0 q85)))
  have hm := hf3.m 4 _ (by kernel_rfl : lkA sO4.m 4 = some ⟨.tok 0, q85, [(0, 65)], []⟩)
  rw [h4] at t4
  injection t4 with t4
  subst t4
  have hsf : SF (c'.at (qe []) [.r (((yf s x0).take k).map eA), .s y.name, eC y.val]) sO1 p3 W { tmps := (a'.tmps.setIfInBounds 19 (.string y.name)).setIfInBounds 20 (.agg (ceL y.val).toArray), defers := [] } := by
   refine ⟨fun t x hx => ?_, fun j e he => ?_⟩
   ·have hx := qx hx
    simp only [sO1, List.mem_cons, Prod.mk.injEq, List.not_mem_nil, or_false] at hx
    rcases hx with ⟨rfl, rfl⟩ | ⟨rfl, rfl⟩ | ⟨rfl, rfl⟩
    ·exact ⟨v4, by rw [Array.getElem?_setIfInBounds_ne (by decide), Array.getElem?_setIfInBounds_ne (by decide)]; exact h4, hv⟩
    ·refine ⟨.string y.name, by rw [Array.getElem?_setIfInBounds_ne (by decide), Array.getElem?_setIfInBounds_self_of_lt (by omega)], _, rfl, Con.of_rd (show Rd W _ (.s y.name) .str _ from ⟨rfl, rfl, hyo.1⟩)⟩
    ·refine ⟨.agg (ceL y.val).toArray, by rw [Array.getElem?_setIfInBounds_self_of_lt (by simp; omega)], ceL y.val, rfl, Con.of_rd (show Rd W _ (eC y.val) qn _ from qrd hyo.2)⟩
   ·have he := qx he
    simp only [sO1, List.mem_cons, Prod.mk.injEq, List.not_mem_nil, or_false] at he
    obtain ⟨rfl, rfl⟩ := he
    exact hm
  have pre := q8j (c := c') (z := 28) (some (w'.heap.size + 1)) 3 .nil hfm rfl [z9s] (n := 3) (ann := qun) (R := fun o => o = []) (B := fun _ _ => False) (ts := []) (ms := []) (kill := []) (σk := sO2) (l := [.r (((yf s x0).take k).map eA), .s y.name, eC y.val]) (σ := sO1) (d := []) (w0 := W) (S0 := pinned p3) (p := p3) (Q := fun _ _ _ => False)
   (K := fun a1 W2 => OwM c p2 w' W1 g m s x0 c' k N W.heap.size a1 W2 ∧ KpN w' (g + 1) m N W.heap.size W W2)
   (by rw [hcl, zbx]; rfl) rfl (by rw [hcA, hcF]; exact hb3.anew) hsf rfl (by simp; exact hz) (fun st p4 W2 a2 hR hst hb4 hf4 hd4 hz4 => ?_)
  ·exact pre
  ·have hR : st = [] := hR
   subst hR
   rw [zid] at hf4
   rw [hcA, hcF] at hb4
   refine ⟨⟨y, p4, hy, hb3.comp hb4, hf4, hd4, hz4, h1, h2, hb4.but.size, fun q b hq => ?_⟩, hb4.but.size, fun b hlt hb => hb4.but.block b hlt ?_⟩
   ·rcases hb4.pin q b hq with ⟨q', hq'⟩ | h
    ·exact .inl (hp3 q' b hq')
    ·exact .inr h
   ·rintro ⟨q, hq⟩
    rcases hb with hb | hb
    ·have := hp3 q b hq
     omega
    ·exact hAh b (hb3.pa q b hq) hb
 ·rintro k N B a1 W W' ⟨y, p4, hy, hb4, hf4, hd4, hz4, h1, h2, h3, hp4⟩ hb
  obtain ⟨q1, q2⟩ := z58 hfz hSh hAh hb4 hb
  exact ⟨y, p4, hy, q1, SF.same (by show Stab c'.A no no p4 W p4 W'; rw [hcA]; exact q2) hf4, hd4, hz4, h1, h2, Nat.le_trans h3 hb.size, hp4⟩
 ·rintro k N B a1 W hkl ⟨y, p4, hy, hb4, hf4, hd4, hz4, h1, h2, h3, hp4⟩
  have hlen : ((yf s x0).take k).length ≤ 4000000000000 := by
   have h1 := qaj s s.cs.length x0 []
   simp only [List.length_take]
   unfold yf at *
   omega
  have pre := q8j (c := c') (z := 28) (some (w'.heap.size + 1)) 3 .nil hfm rfl [z8h] (n := 3) (ann := qun) (R := fun o => o = [.r (((yf s x0).take k).map eA ++ [eA y])]) (B := fun _ _ => False) (ts := []) (ms := iR) (kill := []) (σk := sO3) (l := [.r (((yf s x0).take k).map eA), .s y.name, eC y.val]) (σ := sO2) (d := []) (w0 := W) (S0 := pinned p4) (p := p4) (Q := fun _ _ _ => False)
   (K := fun a2 W2 => KpN w' (g + 1) m N B W W2 ∧ OwI c p2 w' W1 g m s x0 a' c' (k + 1) W2.heap.size W2)
   (by
    rw [hcl, zbt]
    unfold zhp
    rw [qa]
    refine ⟨⟨?_, trivial⟩, ?_⟩
    ·show (D.b (decide (((((yf s x0).take k).map eA).length : Int) + 1 ≤ 4398046510976))).tt = true
     rw [List.length_map, q4k, decide_eq_true_eq]
     omega
    ·rfl) rfl (by rw [hcA, hcF]; exact hb4.anew) hf4 hd4 hz4 (fun st p5 W2 a2 hR hst hb5 hf5 hd5 hz5 => ?_)
  ·refine wpIn_mono pre fun e a2 W2 hq => ?_
   cases e with
   | normal => exact ⟨hq.1, .inl ⟨rfl, hq.2⟩⟩
   | _ => exact hq.elim
  ·have hR : st = [.r (((yf s x0).take k).map eA ++ [eA y])] := hR
   subst hR
   rw [hcA, hcF] at hb5
   have hf5 : SF (c'.at (qe []) [.r (((yf s x0).take k).map eA), .s y.name, eC y.val, .r (((yf s x0).take k).map eA ++ [eA y])]) sOB p5 W2 a2 := hf5
   obtain ⟨v, t4, ev, g4, hg4, eg, hat⟩ := hf5.t 4 _ zk5
   have hm := hf5.m 4 _ zjf
   refine ⟨⟨hb5.but.size, fun b hlt hb => hb5.but.block b (by omega) ?_⟩, by have := hb5.but.size; omega, Nat.le_refl _, p5, hb4.comp hb5, ?_, fun q b hq => hb5.bd q b hq⟩
   ·rintro ⟨q, hq⟩
    rcases hb with hb | hb
    ·have := hp4 q b hq
     omega
    ·exact hAh b (hb4.pa q b hq) hb
   ·have e : ((yf s x0).take (k + 1)).map eA = ((yf s x0).take k).map eA ++ [eA y] := by
     rw [List.take_add_one, hy]
     simp
    rw [e]
    have ev : v = v4 := ev.trans hsn
    exact z7f h4 hsn ⟨g4, hg4, ev.symm.trans eg, hat⟩ hm
end
set_option maxHeartbeats 1000000 in
theorem q8w : FOk zn z3s := by
 refine z2b (qe []) Try.f37 owC Try.func37 z6l qof (by rw [z8o]; decide) fun ds outs hwf hg c p w a Q hlo hfz hfr hdl hb hf hd hz hfin => ?_
 obtain ⟨d, r, rfl, hs, e, r', rfl, hc, rfl⟩ := hwf
 obtain ⟨s, rfl, so⟩ := wfS hs
 obtain ⟨x, rfl, co⟩ := wfC hc
 simp only [z3s, ye, ju] at hg
 have hlo : c.lo = 2 := hlo
 have hz : a.tmps.size = 28 := hz.trans z8o
 have hfm : ∀ te, c.F.mx te ≤ flM [] te := fun te => by rw [hfz]; exact Nat.zero_le _
 have hcl : Code.wpIn (FR none) 5 Try.prog (seqs [sqL owC, sqL (sqR owC)] (.seq (.seq (sqL (sqL (sqR (sqR owC)))) (.block 0 owL)) owZ)) Q a w := by
  refine q14 _ ?_
  have pre : q8x (FR none) 5 Try.prog Q ow1 ((Code.block 0 owL).wpIn (FR none) 5 Try.prog (Exit.then (owZ.wpIn (FR none) 5 Try.prog Q) Q)) a w := by
   refine q7e (c := c) (z := 28) none 5 .nil hfm rfl ow1 (n := 2) (ann := qun) (R := fun o => o = [.r []]) (B := fun _ _ => False) (d := []) (l := [eS s, eC x]) (σ := qn9 zn) (by
    rw [hlo, zc9]
    unfold zho
    simp only [qg, qa, qb, qf, X.says, X.ev, X.evs, evl, List.getD_cons_zero, List.getD_cons_succ, qnv, qt8, qg6, q6i, yz, q4k, List.length_map, qqt, decide_eq_true_eq, decide_eq_false_iff_not, Bool.not_eq_true', Bool.not_eq_false', q4a]
    refine ⟨fun h => ⟨⟨h, trivial⟩, trivial⟩, fun h => ?_⟩
    rw [if_pos h] at hg
    split at hg
    ·rename_i hin
     obtain ⟨h1, h2⟩ := z8.1 hin.1
     have h3 := qdv so
     unfold i64 at *
     refine ⟨⟨by omega, by omega, by omega, trivial⟩, ⟨h, trivial⟩, trivial⟩
    ·cases hg) rfl hb hf hd hz fun n' r σ' l' B' p' w' a' hl' hpre hgo hb' hf' hd' hz' => ?_
   have tk1 : l'.getD 1 .u = eC x := by
    have : (l'.take 2).getD 1 .u = eC x := by rw [hpre]; rfl
    rw [List.getD_eq_getElem?_getD, List.getElem?_take_of_lt (by omega), ← List.getD_eq_getElem?_getD] at this
    exact this
   have ret : ∀ r' : ResD, (Tree.need [.not (.eq (.fld (.tok 1) 0) (.lit (.i 5)))] (qa6 zn z9v n' r' σ')).go (qe []) (fun o => o = [.r []]) l' B' → Q r'.exit' a' w' := fun r' hgo => by
    obtain ⟨⟨hN, -⟩, hgo⟩ := hgo
    have hN : (D.b (!(D.b (decide ((l'.getD 1 .u).fld 0 = .i 5))).tt)).tt = true := hN
    rw [tk1, qnv] at hN
    have hx : x.t ≠ 5 := by simpa [q4k] using hN
    rw [if_neg hx] at hg
    exact hfin n' r' σ' l' B' p' w' a' c hl' (z2f hgo fun o ho => ho.trans (Option.some.inj hg)) rfl rfl rfl (fun b h => h) hb' hb'.anew hf' ⟨[], by rw [hd']; rfl, by simp, fun D hD => by cases hD⟩ (hz'.trans z8o.symm)
   cases r with
   | ret => exact ret .ret hgo
   | exit i => exact ret (.exit i) hgo
   | normal =>
    obtain ⟨⟨hN, -⟩, hgo⟩ := hgo
    have hN : (D.b (decide ((l'.getD 1 .u).fld 0 = .i 5))).tt = true := hN
    rw [tk1, qnv] at hN
    have hx : x.t = 5 := by simpa [q4k] using hN
    rw [if_pos hx] at hg
    split at hg
    ·rename_i hin
     have hg := (Option.some.inj hg).symm
     obtain ⟨st, p2, hR, -, hb2, hf2⟩ := qft (c := c) hgo hpre rfl hb' hf'
     have hR : st = [.r []] := hR
     subst hR
     have hf2 : SF (c.at (qe []) [eS s, eC x, .r []]) sOR p2 w' a' := hf2
     obtain ⟨v4, t4, g4, hg4, e4, hat4⟩ := hf2.t 4 _ zkc
     obtain ⟨v18, t18, gg, cs1, cs2, e18, ⟨ha1, hf1⟩, ⟨ha2, hf2'⟩, ⟨hfr1, hfr2⟩, hh1, hh2, r1, r2⟩ := hf2.t 18 _ zha
     obtain ⟨gm, csm, Tm, hgm, hhm, htm, hcm⟩ := hf2.m 4 _ zjx
     have ex0 : (X.get (.fld (.tok 0) 0) (.add (.fld (.tok 1) 1) (.lit (.i 2)))).ev (c.at (qe []) [eS s, eC x, .r []]).v = eC (cellAt s (x.n + 2)) := by
      show ((eS s).fld 0).get (((eC x).fld 1).int + 2) = _
      rw [qg6, qt8, yz]
      exact zy hin.1
     rw [ex0] at r2
     have hs2 := r2
     obtain rfl := qrf r2
     have hfr1 := hfr gg hfr1
     have hfr2 := hfr (gg + 1) hfr2
     show (Code.block 0 owL).wpIn (FR none) 5 Try.prog (Exit.then (owZ.wpIn (FR none) 5 Try.prog Q) Q) a' w'
     refine wpIn_block ?_
     rw [zft]
     refine z5p (nn := 5) (bs := gg) (bc := gg + 1) (css := cs1) (s := s) (c0 := cellAt s (x.n + 2)) (by omega) ((q8s t18).trans e18) (by omega) ⟨_, hh1⟩ (Rd.mono (fun b _ h => by have := h.2; omega) r1) so ⟨_, by kernel_rfl, hh2⟩ (qzw hs2) fun m W1 hbut hm1 hm2 => ?_
     have hw1 := hb'.but.size
     have hw2 := hbut.size
     obtain ⟨c', hc'⟩ : ∃ c' : Cx, c' = { c with A := qim c w' gg m, snap := fun t => a'.tmps.getD t Go.undef } := ⟨_, rfl⟩
     have hcA : c'.A = qim c w' gg m := by rw [hc']
     have hcF : c'.F = c.F := by rw [hc']
     have hc2 : c'.lo = c.lo := by rw [hc']
     have hcT : c'.At = c.At := by rw [hc']
     have hgl := qt hh1
     have hgl2 := qt hh2
     have hSp : ∀ b, zap p2 w' gg m b → pinned p b ∨ w.heap.size ≤ b := by
      rintro b (⟨q, hq⟩ | h | h | h | h)
      ·exact hb2.pin q b hq
      ·exact .inr (by omega)
      ·exact .inr (by omega)
      ·exact .inr (by omega)
      ·exact .inr (by omega)
     refine ⟨_, _, _, zg9 (c := c) (c' := c') (p2 := p2) (W1 := W1) hin.2 hlo hfz hz' so hc' t4 ⟨_, hh1⟩ hf1 hbut hm1 hm2 r1, ?_, ?_, fun W h => h.elim⟩
     ·refine ⟨by omega, Nat.le_refl _, p2, ⟨hb2.inj, fun q b hq => Nat.lt_of_lt_of_le (hb2.bd q b hq) hw2, But.refl _ _, fun q b hq => .inl (.inl ⟨q, hq⟩), fun b hb => ⟨⟨(hb2.new b (by omega)).1, by omega, by unfold q2f; omega⟩, (hb2.new b (by omega)).2⟩, fun q b hq => ⟨hb2.pa q b hq, fun e => hf1 q (e ▸ hq), ?_⟩, fun q b hq => (hb2.obj q b hq).same (hbut.block b (hb2.bd q b hq) fun h => h), Flo.of0 hfz hb2.flo⟩, ?_, fun q b hq => Nat.lt_of_lt_of_le (hb2.bd q b hq) hw2⟩
      ·have := hb2.bd q b hq
       rintro (h | h | h | h)
       ·exact hf2' q (h ▸ hq)
       ·omega
       ·omega
       ·omega
      ·have hsn : c'.snap 4 = v4 := by
        rw [hc']
        show a'.tmps.getD 4 Go.undef = v4
        simp [Array.getD_eq_getD_getElem?, t4]
       have hc0 : Con c'.A p2 W1 (.r []) q85 [(0, 65)] [] csm.toList := z9k hcm fun g hg => hbut.block g (hb2.bd _ _ hg) fun h => h
       exact z7f t4 hsn ⟨g4, hg4, e4, by rw [hcT]; exact hat4⟩ ⟨gm, csm, Tm, hgm, (hbut.block gm (qt hhm) fun h => h).trans hhm, htm, hc0⟩
     ·rintro N W ⟨h1, h2, p3, hb3, hf3, hp3⟩ hD
      show owZ.wpIn (FR none) 5 Try.prog Q _ W
      have hnD : ¬ qim c w' gg m w'.heap.size := fun h => h.2.2 (.inr (.inr (.inl rfl)))
      rw [List.take_of_length_le (Nat.le_refl _)] at hf3
      have hf3' : SF (c'.at (qe []) [.r ((yf s (cellAt s (x.n + 2))).map eA)]) sO5 p3 W { a' with defers := { target := .collected w'.heap.size, args := #[] } :: a'.defers } := by
       refine ⟨fun t y hy => ?_, fun k e he => hf3.m k e he⟩
       have hy := qx hy
       simp only [sO5, List.mem_cons, Prod.mk.injEq, List.not_mem_nil, or_false] at hy
       obtain ⟨rfl, rfl⟩ := hy
       obtain ⟨v, q1, -, q2⟩ := hf3.t 4 _ (by kernel_rfl : lkA sO4.t 4 = some (.sn 4 (.ref 4 [] 0 q85)))
       exact ⟨v, q1, q2⟩
      refine qhm none 5 (c := c') (z := 28) (w0 := W) (S0 := pinned p3) (d := { target := .collected w'.heap.size, args := #[] } :: a'.defers) .nil (fun te => by rw [hcF, hfz]; exact Nat.zero_le _) owZ (ids := []) (n := 1) (ann := qun) (k := qa6 zn z9v) (R := fun o => o = outs) (B := fun _ _ => False) (l := [.r ((yf s (cellAt s (x.n + 2))).map eA)]) (σ := sO5) (p := p3) (by
       rw [hc2, hlo, z8u, hg]
       rfl) rfl (by rw [hcA, hcF]; exact hb3.anew) hf3' rfl hz' (q3e rfl) (qej rfl) fun n5 r5 σ5 l5 B5 p5 W5 a5 hl5 hpre5 _ hgo5 hb5 hf5 hd5 hz5 => ?_
      rw [hcA, hcF] at hb5
      have hb6 := hb3.comp hb5
      refine hfin n5 r5 σ5 l5 B5 p5 W5 a5 c' hl5 hgo5 hc2 hcF hcT (fun b h => by rw [hcA] at h; exact h.1) ⟨hb6.inj, hb6.bd, (hb'.but.trans_nil hbut).trans hb6.but fun b hb _ => hSp b hb, fun q b hq => ?_, hb.new, fun q b hq => (hb6.pa q b hq).1, hb6.obj, Flo.of0 hfz hb.flo⟩ (by rw [hcA, hcF]; exact hb5.anew) hf5 ⟨[w'.heap.size], by rw [hd5, hd']; rfl, by simp, fun D hD' => ?_⟩ (hz5.trans z8o.symm)
      ·rcases hb6.pin q b hq with h | h
       ·exact hSp b h
       ·exact .inr (by omega)
      ·obtain rfl : D = w'.heap.size := by simpa using hD'
       exact ⟨by omega, (hb5.stays (Array.getElem?_eq_some_iff.1 hD).1 fun q hq => hnD (hb3.pa q _ hq)).1.trans hD, by rw [hcA]; exact hnD⟩
    ·cases hg
  refine q4v (Q := Q) (Q' := Q) (fun e a w _ h => h) [sqL owC, sqL (sqR owC)] (fun a w h => ?_) (q9k [sqL owC, sqL (sqR owC)] [sqL (sqL (sqR (sqR owC)))] pre)
  refine wpIn_seq (wpIn_seq (wpIn_mono h fun e a w hq => ?_))
  cases e with
  | normal => exact hq
  | _ => exact hq
 have e := zfy
 rw [← e] at hcl
 exact hcl
end
section
open Go.RowKit Go.Shelf
theorem qc8 : jr q44 := .cons qbp (.cons zdq (.cons qtw .nil))
noncomputable def zkd : Nat := match sqL (sqR (sqR wkC)) with
 | .region i _ _ => i
 | _ => 0
theorem zei : wkC = seqs zez (.seq (.region zkd zcx.toArray false) q4x) := by kernel_rfl
noncomputable def qwo : Nat := match sqR (sqL qxu) with
 | .block i _ => i
 | _ => 0
theorem z2n : q4x = seqs [sqL q4x, sqL (sqR q4x)] (.seq (.seq (sqL (sqL qxu)) (.block qwo (.loop qcv))) wkZ) := by kernel_rfl
noncomputable def zg3 : Nat := match sqL (sqR (sqR qcv)) with
 | .block i _ => i
 | _ => 0
noncomputable def ze4 : Nat := match sqR (sqR z8c) with
 | .block i _ => i
 | _ => 0
theorem zex : qwo = 0 := by kernel_rfl
theorem qfj : qcv = seqs wkH (.seq (.block zg3 (seqs wkR (.seq wkY (.block ze4 wkF)))) (sqR (sqR (sqR qcv)))) := by kernel_rfl
theorem z3r : Try.f14.body = some wkC := by kernel_rfl
theorem zax : Try.f14.ntmps = 69 := by kernel_rfl
theorem z2k {wv : Ce} {sk : So} {c : Ce} (h : qa0 wv sk (yf sk c) = true) : (yf sk c).length ≤ 1048576 := by
 cases hl : yf sk c with
 | nil => simp
 | cons x l =>
  rw [hl] at h
  unfold qa0 at h
  simp only [Bool.and_eq_true] at h
  obtain ⟨h1, h2, h3, h4⟩ := z4t h.1
  have := qaj sk sk.cs.length c []
  rw [← hl]
  unfold yf at *
  omega
theorem Dfs.keep {A : Nat → Prop} {lb : Nat} {d : List Deferred} {w w' : World} {ds : List Deferred} {S0 : Nat → Prop} {p : ql} (h : Dfs A lb d w ds) (hk : ∀ b, b < w.heap.size → ¬ A b → w'.heap[b]? = w.heap[b]?) : Dfs A lb d w' ds := by
 obtain ⟨Ds, e, hn, hD⟩ := h
 exact ⟨Ds, e, hn, fun D hd => ⟨(hD D hd).1, (hk D (qt (hD D hd).2.1) (hD D hd).2.2).trans (hD D hd).2.1, (hD D hd).2.2⟩⟩
theorem qvo (s : So) (o : List Ce) (w : Wk) (l : List Wk) : q31 s o (w :: l) = if (jf w.val s o (yf s w.att)).2.2 = 0 then q31 (jf w.val s o (yf s w.att)).1 (jf w.val s o (yf s w.att)).2.1 l else jf w.val s o (yf s w.att) := rfl
theorem z8i {s r : So} (hc : s.cs.length ≤ r.cs.length) (hy : s.ys.length ≤ r.ys.length) (ht : s.tr.length ≤ r.tr.length) {e : Int} (he : ¬ e = 0) : q47 [.i e, eS r, eS s] = some [eS (qwq s r)] := by
 have he' : ¬ (D.i e).int = 0 := he
 simp only [q47, if_neg he', qg6, z5s, z3j, z2m, zgn, zer, q6i, List.length_map]
 rw [if_pos ⟨hc, hy, ht⟩]
 unfold qwq eS
 simp only [List.map_take]
def zgv (c : Cx) (w : World) (S0 : Nat → Prop) (dK : Deferred) (s : So) (ws : List Wk) (k : Nat) (a : Act) (W : World) : Prop := ∃ (c2 : Cx) (p3 : ql) (sk : So) (o : List Ce), c2.lo = c.lo ∧ c2.F = c.F ∧ c2.At = c.At ∧ c2.snap (VB + 3) = c.snap (VB + 3) ∧ (∀ b, c2.A b → c.A b) ∧ Bs c.A c.F w S0 p3 W ∧ Bs c2.A c2.F W (pinned p3) p3 W ∧ SF (c2.at (qe q44) [eS s, .r (ws.map eW), .i k, eS sk, .r (o.map eC), .i 0]) q45 p3 W a ∧ Dfs c2.A w.heap.size [dK] W a.defers ∧ a.tmps.size = 69 ∧
 q31 sk o (ws.drop k) = q31 s [] ws ∧ qst sk o (ws.drop k) = true ∧ q9x s sk ∧ o.length ≤ k * 1048576 ∧ k ≤ ws.length
theorem zgu {c : Cx} {p : ql} {W : World} {x : X} {sk : So} {own : List (Nat × Nat)} (h : q0g c p W 0 ⟨x, qj, own, []⟩) (hx : x.ev c.v = eS sk) : sk.ok := by
 obtain ⟨g, cs, T, hg, hh, hT, hcon⟩ := h
 have hcon : Con c.A p W (x.ev c.v) qj own [] cs.toList := hcon
 rw [hx] at hcon
 obtain ⟨s', e, hs'⟩ := wfS ⟨W, _, _, Con.rd hcon (dep' := own.map (·.2)) (fun _ h => nomatch h) (fun _ h => h)⟩
 rw [qyi e]
 exact hs'
section
variable {c : Cx} {w : World} {S0 : Nat → Prop} {dK : Deferred} {s : So} {ws : List Wk} {outs : List D} {Q : Exit → Act → World → Prop}
set_option maxHeartbeats 1000000 in
theorem qq9 (hlo : c.lo = 1) (hfz : ∀ te, c.F.mx te = 0) (hwl : ws.length ≤ 1000000)
  (ho : outs = (if (q31 s [] ws).2.2 = 0 then [.r ((q31 s [] ws).2.1.map eC), .i 0, eS { (q31 s [] ws).1 with wk := [] }] else [.r [], .i (q31 s [] ws).2.2, eS (qwq s (q31 s [] ws).1)]))
  (hfin : ∀ n' (r : ResD) σ' l' B' p' w' a' (c2 : Cx), l'.length = n' → (qdd y9 Try.f14 2 0 3 (.tok 0) n' r σ').go (qe q44) (fun o => o = outs) l' B' → l'.getD 0 .u = eS s → c2.lo = c.lo → c2.F = c.F → c2.At = c.At → c2.snap (VB + 3) = c.snap (VB + 3) → (∀ b, c2.A b → c.A b) → Bs c.A c.F w S0 p' w' → Bs c2.A c2.F w' (pinned p') p' w' → SF (c2.at (qe q44) l') σ' p' w' a' → Dfs c2.A w.heap.size [dK] w' a'.defers → a'.tmps.size = 69 → Q r.exit' a' w') :
  ∀ (f k : Nat) (a : Act) (W : World), zgv c w S0 dK s ws k a W → ws.length - k < f → Code.roundsIn (FR none) 5 Try.prog qcv (Exit.inBlock qwo (Exit.then (wkZ.wpIn (FR none) 5 Try.prog Q) Q)) f a W
 | 0, k, a, W, _, hf => absurd hf (Nat.not_lt_zero _)
 | f + 1, k, a, W, ⟨c2, p3, sk, o, e1, e2, e3, e4, hA2, hbs, hbn, hsf, hdf, hz, hrun, hok, hgr, hol, hkl⟩, hfu => by
  have hfm : ∀ te, c2.F.mx te ≤ flM q44 te := fun te => by rw [e2, hfz]; exact Nat.zero_le _
  have hfz2 : ∀ te, c2.F.mx te = 0 := fun te => by rw [e2]; exact hfz te
  have hl2 : c2.lo = 1 := e1.trans hlo
  rw [roundsIn_succ, qfj, ← qfj]
  refine (show Code.wpIn (FR none) 5 Try.prog qcv _ a W from ?_)
  rw [qfj, ← qfj]
  have hW : (seqs wkH (.seq (.block zg3 (seqs wkR (.seq wkY (.block ze4 wkF)))) (sqR (sqR (sqR qcv))))).wpIn (FR none) 5 Try.prog (Exit.then (Code.roundsIn (FR none) 5 Try.prog qcv (Exit.inBlock qwo (Exit.then (wkZ.wpIn (FR none) 5 Try.prog Q) Q)) f) (Exit.inBlock qwo (Exit.then (wkZ.wpIn (FR none) 5 Try.prog Q) Q))) a W := by
   refine q14 wkH ?_
   refine q7e (c := c2) (z := 69) none 5 qc8 hfm rfl wkH (n := 6) (ann := q6j) (R := fun q => q = []) (B := fun _ _ => False) (d := a.defers) (l := [eS s, .r (ws.map eW), .i k, eS sk, .r (o.map eC), .i 0]) (σ := q45) (k := zh8) (by
    rw [hl2, zan]
    unfold zht
    rw [qg]
    refine ⟨fun h => ?_, fun h => ?_⟩
    ·rw [qa]
     exact ⟨⟨h, trivial⟩, rfl⟩
    ·rw [qa]
     refine ⟨⟨?_, trivial⟩, rfl⟩
     show (D.b (!(X.ev _ _).tt)).tt = true
     rw [h]
     rfl) rfl hbn hsf rfl hz fun n' r σ' l' B' p' w' a' hl' hpre hgo hb' hf' hd' hz' => ?_
   cases r with
   | ret => exact hgo.elim
   | exit i =>
    match i, hgo with
    | 0, hgo =>
     -- the end of the loop
     obtain ⟨⟨hlt, -⟩, hgo⟩ := hgo
     obtain ⟨st, p5, hR, -, hb5, hf5⟩ := qft (n' := n') (c := c2) hgo hpre rfl hb' hf'
     have hR : st = [] := hR
     subst hR
     rw [z48, List.append_nil] at hf5
     have q2 : l'.getD 2 .u = .i k := by
      have : (l'.take 6).getD 2 .u = .i k := by rw [hpre]; rfl
      rw [List.getD_eq_getElem?_getD, List.getElem?_take_of_lt (by omega), ← List.getD_eq_getElem?_getD] at this
      exact this
     have q1 : l'.getD 1 .u = .r (ws.map eW) := by
      have : (l'.take 6).getD 1 .u = .r (ws.map eW) := by rw [hpre]; rfl
      rw [List.getD_eq_getElem?_getD, List.getElem?_take_of_lt (by omega), ← List.getD_eq_getElem?_getD] at this
      exact this
     have hlt : (D.b (!(D.b (decide ((l'.getD 2 .u).int < ((l'.getD 1 .u).rs.length : Nat)))).tt)).tt = true := hlt
     rw [q1, q2] at hlt
     have hk : k = ws.length := by
      have : ¬ ((k : Int) < (ws.length : Nat)) := by simpa [q4k, q6i, yz] using hlt
      omega
     subst hk
     rw [List.drop_length] at hrun
     have hrun : (sk, o, (0 : Int)) = q31 s [] ws := hrun
     rw [← hrun] at ho
     show Exit.inBlock qwo (Exit.then (wkZ.wpIn (FR none) 5 Try.prog Q) Q) (.exit 0) a' w'
     rw [zex]
     show wkZ.wpIn (FR none) 5 Try.prog Q a' w'
     have hst5 : ∀ b, b < W.heap.size → ¬ c2.A b → w'.heap[b]? = W.heap[b]? := fun b hb hn => (hb5.stays hb fun q hq => hn (hbn.pa q _ hq)).1
     have hbs5 : Bs c.A c.F w S0 p5 w' := hbs.up (show Bs c2.A c.F W (pinned p3) p5 w' from e2 ▸ hb5) hA2
     refine qhm none 5 (c := c2) (z := 69) (w0 := w') (S0 := pinned p5) (d := a'.defers) qc8 hfm wkZ (ids := []) (n := 6) (ann := q6j) (k := qdd y9 Try.f14 2 0 3 (.tok 0)) (R := fun q => q = outs) (B := fun _ _ => False) (l := [eS s, .r (ws.map eW), .i ws.length, eS sk, .r (o.map eC), .i 0]) (σ := q45) (p := p5) (by
      rw [hl2, zaf, ho]
      have hset : (X.set (.tok 3) 3 (.lit (.r []))).ev (evl (qe q44) [eS s, .r (ws.map eW), .i ws.length, eS sk, .r (o.map eC), .i 0]) = eS { sk with wk := [] } := rfl
      have hg : qe q44 2 [.i 0, eS { sk with wk := [] }, eS s] = some [eS { sk with wk := [] }] := rfl
      unfold zj4
      simp only [qa, qb, qf, X.says, X.evs, X.ev, evl, List.getD_cons_zero, List.getD_cons_succ, if_true]
      exact ⟨⟨rfl, trivial⟩, rfl⟩) rfl hb5.anew hf5 rfl hz' (q3e rfl) (qej rfl) fun n7 r7 σ7 l7 B7 p7 W7 a7 hl7 hpre7 _ hgo7 hb7 hf7 hd7 hz7 => ?_
     have q0 : l7.getD 0 .u = eS s := by
      have : (l7.take 6).getD 0 .u = eS s := by rw [hpre7]; rfl
      rw [List.getD_eq_getElem?_getD, List.getElem?_take_of_lt (by omega), ← List.getD_eq_getElem?_getD] at this
      exact this
     have hdf7 : Dfs c2.A w.heap.size [dK] W7 a7.defers := by
      rw [hd7, hd']
      exact (hdf.keep (S0 := S0) (p := p3) hst5).keep (S0 := S0) (p := p3) fun b hb hn => (hb7.stays hb fun q hq => hn (hb5.pa q _ hq)).1
     exact hfin n7 r7 σ7 l7 B7 p7 W7 a7 c2 hl7 hgo7 q0 e1 e2 e3 e4 hA2 (hbs5.up (show Bs c2.A c.F w' (pinned p5) p7 W7 from e2 ▸ hb7) hA2) hb7.anew hf7 hdf7 hz7
    | i + 1, hgo => exact hgo.elim
   | normal =>
    -- a wake
    obtain ⟨⟨hlt, -⟩, hgo⟩ := hgo
    obtain ⟨st, p5, hR, -, hb5, hf5⟩ := qft (n' := n') (c := c2) hgo hpre rfl hb' hf'
    have hR : st = [] := hR
    subst hR
    rw [z48, List.append_nil] at hf5
    have q2 : l'.getD 2 .u = .i k := by
     have : (l'.take 6).getD 2 .u = .i k := by rw [hpre]; rfl
     rw [List.getD_eq_getElem?_getD, List.getElem?_take_of_lt (by omega), ← List.getD_eq_getElem?_getD] at this
     exact this
    have q1 : l'.getD 1 .u = .r (ws.map eW) := by
     have : (l'.take 6).getD 1 .u = .r (ws.map eW) := by rw [hpre]; rfl
     rw [List.getD_eq_getElem?_getD, List.getElem?_take_of_lt (by omega), ← List.getD_eq_getElem?_getD] at this
     exact this
    have hlt : (D.b (decide ((l'.getD 2 .u).int < ((l'.getD 1 .u).rs.length : Nat)))).tt = true := hlt
    rw [q1, q2] at hlt
    have hk : k < ws.length := by
     have : ((k : Int) < (ws.length : Nat)) := by simpa [q4k, q6i, yz] using hlt
     omega
    have hst5 : ∀ b, b < W.heap.size → ¬ c2.A b → w'.heap[b]? = W.heap[b]? := fun b hb hn => (hb5.stays hb fun q hq => hn (hbn.pa q _ hq)).1
    have hbs5 : Bs c.A c.F w S0 p5 w' := hbs.up (show Bs c2.A c.F W (pinned p3) p5 w' from e2 ▸ hb5) hA2
    have hdf5 : Dfs c2.A w.heap.size [dK] w' a'.defers := by
     rw [hd']
     exact hdf.keep (S0 := S0) (p := p3) hst5
    obtain ⟨wk, hwk⟩ : ∃ wk, ws[k] = wk := ⟨_, rfl⟩
    have hdr : ws.drop k = wk :: ws.drop (k + 1) := by rw [List.drop_eq_getElem_cons hk, hwk]
    rw [hdr] at hrun hok
    unfold qst at hok
    rw [qvo] at hrun
    simp only [Bool.and_eq_true, Bool.or_eq_true, decide_eq_true_eq] at hok
    have hab := z2k hok.1
    show (Code.seq (.block zg3 (seqs wkR (.seq wkY (.block ze4 wkF)))) (sqR (sqR (sqR qcv)))).wpIn (FR none) 5 Try.prog _ a' w'
    refine wpIn_seq (wpIn_block (q14 wkR ?_))
    refine q8j (c := c2) (z := 69) none 5 qc8 hfm rfl wkR (n := 6) (ann := q6j) (R := fun q => q = [eS sk, .r (o.map eC), .i 0, eW wk]) (B := fun _ _ => False) (ts := []) (ms := zb0) (kill := []) (σk := z9o) (d := a'.defers) (l := [eS s, .r (ws.map eW), .i k, eS sk, .r (o.map eC), .i 0]) (σ := q45) (w0 := w') (S0 := pinned p5) (p := p5) (by
     rw [hl2, zar]
     unfold zik
     rw [qa]
     refine ⟨⟨?_, ?_, trivial⟩, ?_⟩
     ·show (D.b (decide ((0 : Int) ≤ (k : Int)))).tt = true
      rw [q4k, decide_eq_true_eq]
      omega
     ·show (D.b (decide ((k : Int) < (((ws.map eW).length : Nat) : Int)))).tt = true
      rw [q4k, decide_eq_true_eq, List.length_map]
      omega
     ·show [eS sk, D.r (o.map eC), D.i 0, (D.r (ws.map eW)).get (k : Int)] = _
      have : (D.r (ws.map eW)).get (k : Int) = eW wk := by
       show ((ws.map eW)[((k : Int)).toNat]?).getD .u = _
       simp [hk, hwk]
      rw [this]) rfl hb5.anew hf5 rfl hz' fun st p6 W6 a6 hR hst hb6 hf6 hd6 hz6 => ?_
    have hR : st = [eS sk, .r (o.map eC), .i 0, eW wk] := hR
    subst hR
    rw [z8t] at hf6
    have hst6 : ∀ b, b < w'.heap.size → ¬ c2.A b → W6.heap[b]? = w'.heap[b]? := fun b hb hn => (hb6.stays hb fun q hq => hn (hb5.pa q _ hq)).1
    have hbs6 : Bs c.A c.F w S0 p6 W6 := hbs5.up (show Bs c2.A c.F w' (pinned p5) p6 W6 from e2 ▸ hb6) hA2
    have hdf6 : Dfs c2.A w.heap.size [dK] W6 a6.defers := by
     rw [hd6]
     exact hdf5.keep (S0 := S0) (p := p3) hst6
    have so : sk.ok := zgu (hf6.m 0 ⟨.tok 6, qj, qu 0 qj, []⟩ (by kernel_rfl)) rfl
    have hnew : ∀ {A3 : Nat → Prop} {W' : World} {a2 : Act} {D : Nat}, (∀ b, A3 b → c2.A b) → ¬ A3 D → W6.heap.size ≤ D → W'.heap[D]? = some (.deferred (some [])) → a2.defers = ql3 D :: a6.defers → (∀ b, b < W6.heap.size → ¬ pinned p6 b → W'.heap[b]? = W6.heap[b]?) → Dfs A3 w.heap.size [dK] W' a2.defers := fun {A3 W' a2 D} hA3 hD hDl hDh hde hold => by
     obtain ⟨Ds, f1, f2, f3⟩ := hdf6
     have hs6 := hbs6.but.size
     refine ⟨D :: Ds, by rw [hde, f1]; rfl, List.nodup_cons.2 ⟨fun hm => ?_, f2⟩, fun D' hm => ?_⟩
     ·have := qt (f3 D hm).2.1
      omega
     ·rcases List.mem_cons.1 hm with rfl | hm
      ·exact ⟨by omega, hDh, hD⟩
      ·obtain ⟨g1, g2, g3⟩ := f3 D' hm
       exact ⟨g1, (hold D' (qt g2) fun ⟨q, hq⟩ => g3 (hb6.pa q _ hq)).trans g2, fun h => g3 (hA3 _ h)⟩
    refine z6a (c2 := c2) (p8 := p6) hl2 hfz2 hb6.anew hf6 hz6 hok.1 (by omega) so (fun A3 p' W' a2 D hA3 hD hDl hDh hde hz2 hold hb8 hbn8 he hs8 hlen => ?_) (fun A3 p' W' a2 D hA3 hD hDl hDh hde hz2 hold hb8 hbn8 he hs8 => ?_)
    ·-- the next wake
     show (sqR (sqR (sqR qcv))).wpIn (FR none) 5 Try.prog _ a2 W'
     have hdf8 := hnew hA3 hD hDl hDh hde hold
     have hbs8 : Bs c.A c.F w S0 p' W' := hbs6.up (show Bs c2.A c.F W6 (pinned p6) p' W' from e2 ▸ hb8) hA2
     obtain ⟨r, hr⟩ : ∃ r, r = jf wk.val sk o (yf sk wk.att) := ⟨_, rfl⟩
     rw [← hr] at hs8 he hlen hrun hok
     obtain ⟨c3, hc3⟩ : ∃ c3 : Cx, c3 = { c2 with A := A3 } := ⟨_, rfl⟩
     have hc3A : c3.A = A3 := by rw [hc3]
     have hc3F : c3.F = c2.F := by rw [hc3]
     have hc3l : c3.lo = 1 := by rw [hc3]; exact hl2
     have pre := q8j (c := c3) (z := 69) none 5 qc8 (fun te => by rw [hc3F]; exact hfm te) rfl wkN (n := 6) (ann := q6j) (R := fun q => q = [.i ((k + 1 : Nat) : Int)]) (B := fun _ _ => False) (ts := [(26, .int .i64, [], [])]) (ms := []) (kill := []) (σk := ⟨q45.t.filter (fun e => !Nat.beq e.1 26), q45.m⟩) (d := a2.defers) (l := [eS s, .r (ws.map eW), .i k, eS r.1, .r (r.2.1.map eC), .i 0]) (σ := q45) (w0 := W') (S0 := pinned p') (p := p') (a := a2) (w := W') (Q := fun _ _ _ => False) (K := fun a3 W3 => zgv c w S0 dK s ws (k + 1) a3 W3) (by
      rw [hc3l, zao]
      unfold zi4
      rw [qa]
      have hr : i64 ((k : Int) + 1) := by
       unfold i64
       omega
      simp only [qf, X.says, X.ev, evl, List.getD_cons_zero, List.getD_cons_succ, yz, q4k, q4a, hr, and_self, true_and]
      rfl) rfl (by rw [hc3A, hc3F]; exact hbn8) (by rw [hc3]; exact hs8) rfl hz2 fun st p9 W9 a9 hR9 hst9 hb9 hf9 hd9 hz9 => ?_
     ·refine wpIn_mono pre fun e a3 W3 hq => ?_
      cases e with
      | normal => exact qq9 hlo hfz hwl ho hfin f (k + 1) a3 W3 hq (by omega)
      | _ => exact hq.elim
     ·have hR9 : st = [.i ((k + 1 : Nat) : Int)] := hR9
      subst hR9
      rw [show q1u [(26, .int .i64, [], [])] [] 6 (q16 [(26, .int .i64, [], [])] [] [] 6 ⟨q45.t.filter (fun e => !Nat.beq e.1 26), q45.m⟩) = zhg from z8r] at hf9
      have hst9 : ∀ b, b < W'.heap.size → ¬ A3 b → W9.heap[b]? = W'.heap[b]? := fun b hb hn => (hb9.stays hb fun q hq => hn (hbn8.pa q _ hq)).1
      rw [hc3A, hc3F] at hb9
      refine ⟨c3, p9, r.1, r.2.1, by rw [hc3]; exact e1, by rw [hc3]; exact e2, by rw [hc3]; exact e3, by rw [hc3]; exact e4, fun b h => hA2 b (hA3 b (by rw [← hc3A]; exact h)), hbs8.up (show Bs A3 c.F W' (pinned p') p9 W9 from e2 ▸ hb9) fun b h => hA2 b (hA3 b h), by rw [hc3A, hc3F]; exact hb9.anew, ?_, ?_, hz9, ?_, ?_, ?_, ?_, hk⟩
      ·refine ⟨fun t x hx => ?_, fun j e he => ?_⟩
       ·have hx := qx hx
        simp only [q45, List.mem_cons, Prod.mk.injEq, List.not_mem_nil, or_false] at hx
        rcases hx with ⟨rfl, rfl⟩ | ⟨rfl, rfl⟩ | ⟨rfl, rfl⟩ | ⟨rfl, rfl⟩ | ⟨rfl, rfl⟩ | ⟨rfl, rfl⟩ | ⟨rfl, rfl⟩
        ·exact hf9.t 0 (.ref 0 [] 0 qj) (by kernel_rfl)
        ·exact hf9.t 1 (.bx 1 37 (.ref 0 [] 0 qj)) (by kernel_rfl)
        ·exact hf9.t 2 (.ref 2 [] 0 zj) (by kernel_rfl)
        ·exact hf9.t 3 (.sn (VB + 3) (.ref 3 [] 0 zu)) (by kernel_rfl)
        ·exact hf9.t 24 (.v (.tok 1) q2s [(0, 385)] []) (by kernel_rfl)
        ·exact hf9.t 25 (.v (.len (.tok 1)) (.int .i64) [] []) (by kernel_rfl)
        ·exact hf9.t 26 (.v (.tok 6) (.int .i64) [] []) (by kernel_rfl)
       ·have he := qx he
        simp only [q45, List.mem_cons, Prod.mk.injEq, List.not_mem_nil, or_false] at he
        rcases he with ⟨rfl, rfl⟩ | ⟨rfl, rfl⟩ | ⟨rfl, rfl⟩
        ·exact hf9.m 0 ⟨.tok 3, qj, qu 0 qj, []⟩ (by kernel_rfl)
        ·exact hf9.m 2 ⟨.tok 4, zj, [(0, 33)], []⟩ (by kernel_rfl)
        ·exact hf9.m 3 ⟨.tok 5, zu, [], []⟩ (by kernel_rfl)
      ·rw [hd9, hc3A]
       exact hdf8.keep (S0 := S0) (p := p3) hst9
      ·rw [if_pos he] at hrun
       exact hrun
      ·rcases hok.2 with h | h
       ·exact absurd he h
       ·exact h
      ·rw [hr]
       exact hgr.trans (qef _ _ _ _ hok.1)
      ·have : r.2.1.length ≤ o.length + (yf sk wk.att).length := hlen
       omega
    ·-- the return from within
     have hdf8 := hnew hA3 hD hDl hDh hde hold
     have hbs8 : Bs c.A c.F w S0 p' W' := hbs6.up (show Bs c2.A c.F W6 (pinned p6) p' W' from e2 ▸ hb8) hA2
     rw [if_neg he] at hrun
     have hgt : q9x s (jf wk.val sk o (yf sk wk.att)).1 := hgr.trans (qef _ _ _ _ hok.1)
     obtain ⟨r, hr⟩ : ∃ r, r = jf wk.val sk o (yf sk wk.att) := ⟨_, rfl⟩
     rw [← hr] at hs8 he hrun hgt
     rw [← hrun, if_neg he] at ho
     show Q .ret a2 W'
     refine hfin 4 .ret wkE [eS s, eS r.1, .r [], .i r.2.2] (fun _ _ => False) p' W' a2 { c2 with A := A3 } rfl ?_ rfl e1 e2 e3 e4 (fun b h => hA2 b (hA3 b h)) hbs8 hbn8 hs8 hdf8 hz2
     rw [zc2, ho]
     have hg : qe q44 2 [.i r.2.2, eS r.1, eS s] = some [eS (qwq s r.1)] := z8i hgt.1 hgt.2.1 (by rw [hgt.2.2.2.1]; exact Nat.le_refl _) he
     unfold zi7
     simp only [qa, qb, qf, X.says, X.evs, X.ev, evl, List.getD_cons_zero, List.getD_cons_succ, hg]
     exact ⟨⟨rfl, trivial⟩, rfl⟩
  have e := qfj
  rw [← e] at hW
  exact hW
end
set_option maxHeartbeats 1000000 in
theorem qpf : FOk y9 zfh := by
 refine z22 Try.f14 2 wkC qc8 (fun l => rfl) Try.func14 z3r q1p (by rw [zax]; decide) rfl zei (ann := q6j) wkK fun ds outs hwf hg => ?_
 obtain ⟨d, r', rfl, hs, rfl⟩ := hwf
 obtain ⟨s, rfl, so⟩ := wfS hs
 simp only [zfh, ye] at hg
 split at hg
 case isFalse => cases hg
 rename_i hcond
 obtain ⟨hw1, hc1, hwb⟩ := hcond
 have hg := (Option.some.inj hg).symm
 refine ⟨fun q => q = [.r (s.wk.map eW), .i ((s.wk.map eW).length : Nat), .i 0, eS s, .r [], .i 0], fun _ _ => False, ?_, ?_⟩
 ·show (q3w Try.prog q44 q6j 1 Try.f14.ntmps zez 1 (qn9 y9) _).go _ _ _ _
  rw [zax, zby]
  have hq : z7z 3518437208780 (.r (s.wk.map eW)) = true := by
   simp only [z7z, q6i, List.length_map, decide_eq_true_eq]
   omega
  have h0 : qe q44 0 [.r (s.wk.map eW)] = some [.r (s.wk.map eW)] := by
   have ht : qe q44 0 = gCl 3518437208780 := rfl
   rw [ht]
   simp only [gCl, hq, if_true]
  have h1 : qe q44 1 [.r (s.wk.map eW)] = some [] := by
   have ht : qe q44 1 = zaq := rfl
   rw [ht]
   simp only [zaq, q6i, List.length_map, if_pos hw1]
  unfold zhh
  simp only [qa, qb, qf, X.says, X.evs, X.ev, evl, List.getD_cons_zero, List.getD_cons_succ, z2m, h0, h1, Option.getD_some, Option.isSome_some, q6i, q4k, and_self, and_true, true_and]
 ·intro c p w a S0 Q l n σ ks te was B dK hgo hl hpre hup hlo hfz hp0 hfr0 hb hf hd hz hfin
  unfold wkK at hgo
  split at hgo
  case isFalse => exact hgo.elim
  rename_i hok
  simp only [Bool.and_eq_true] at hok
  obtain ⟨h1, h2, h3, h4⟩ := hok
  obtain rfl := Nat.eq_of_beq_eq_true h1
  obtain rfl := Nat.eq_of_beq_eq_true h2
  obtain rfl := Nat.eq_of_beq_eq_true h3
  obtain rfl := X.beq_ok _ _ h4
  have hlo : c.lo = 1 := hlo
  have hz : a.tmps.size = 69 := hz.trans zax
  have hl1 : l = [eS s] := by
   have e : l.take 1 = [eS s] := hpre
   rw [← e, List.take_of_length_le (by omega)]
  subst hl1
  have hcl : Code.wpIn (FR none) 5 Try.prog (seqs [sqL q4x, sqL (sqR q4x)] (.seq (.seq (sqL (sqL qxu)) (.block qwo (.loop qcv))) wkZ)) Q a w := by
   refine q14 _ ?_
   have pre : q8x (FR none) 5 Try.prog Q zf9 (fun a1 W1 => (Code.block qwo (.loop qcv)).wpIn (FR none) 5 Try.prog (Exit.then (wkZ.wpIn (FR none) 5 Try.prog Q) Q) a1 W1) a w := by
    refine q8j (c := c) (z := 69) none 5 qc8 (fun te => by rw [hfz]; exact Nat.zero_le _) rfl zf9 (n := 1) (ann := q6j) (R := fun q => q = [.r (s.wk.map eW), .i ((s.wk.map eW).length : Nat), .i 0, eS s, .r [], .i 0]) (B := B) (ts := wkI) (ms := wkM) (kill := []) (σk := wkQ) (d := [dK]) (l := [eS s]) (σ := σ) (w0 := w) (S0 := S0) (p := p) (by rw [hlo]; exact hgo) rfl hb hf hd hz fun st p1 W1 a1 hR hst hb1 hf1 hd1 hz1 => ?_
    have hR : st = [.r (s.wk.map eW), .i ((s.wk.map eW).length : Nat), .i 0, eS s, .r [], .i 0] := hR
    subst hR
    rw [show q1u wkI wkM 1 (q16 wkI wkM [] 1 wkQ) = zim from z8l] at hf1
    refine wpIn_block (wpIn_loop_rounds (s.wk.length + 1) ?_)
    refine qq9 (c := c) (w := w) (S0 := S0) (dK := dK) (s := s) (ws := s.wk) (outs := outs) hlo hfz (by omega) ?_ ?_ (s.wk.length + 1) 0 a1 W1 ?_ (by omega)
    ·rw [hg]
     unfold z1g
     split <;> rfl
    ·intro n' r σ' l' B' p' w' a' c2 q1 q2 q3 q4 q5 q6 q7 q8 q9 q10 q11 q12 q13
     exact hfin n' r σ' l' B' p' w' a' c2 q1 q2 q3 q4 q5 q6 q7 q8 q9 q10 q11 q12 (q13.trans zax.symm)
    ·refine ⟨c, p1, s, [], rfl, rfl, rfl, rfl, fun _ h => h, hb1, hb1.anew, ?_, ⟨[], by rw [hd1]; rfl, by simp, fun D hD => nomatch hD⟩, hz1, rfl, hwb, q9x.refl s, by simp, Nat.zero_le _⟩
     refine ⟨fun t x hx => ?_, fun j e he => ?_⟩
     ·have hx := qx hx
      simp only [q45, List.mem_cons, Prod.mk.injEq, List.not_mem_nil, or_false] at hx
      rcases hx with ⟨rfl, rfl⟩ | ⟨rfl, rfl⟩ | ⟨rfl, rfl⟩ | ⟨rfl, rfl⟩ | ⟨rfl, rfl⟩ | ⟨rfl, rfl⟩ | ⟨rfl, rfl⟩
      ·exact hf1.t 0 (.ref 0 [] 0 qj) (by kernel_rfl)
      ·exact hf1.t 1 (.bx 1 37 (.ref 0 [] 0 qj)) (by kernel_rfl)
      ·exact hf1.t 2 (.ref 2 [] 0 zj) (by kernel_rfl)
      ·exact hf1.t 3 (.sn (VB + 3) (.ref 3 [] 0 zu)) (by kernel_rfl)
      ·exact hf1.t 24 (.v (.tok 1) q2s [(0, 385)] []) (by kernel_rfl)
      ·exact hf1.t 25 (.v (.tok 2) (.int .i64) [] []) (by kernel_rfl)
      ·exact hf1.t 26 (.v (.tok 3) (.int .i64) [] []) (by kernel_rfl)
     ·have he := qx he
      simp only [q45, List.mem_cons, Prod.mk.injEq, List.not_mem_nil, or_false] at he
      rcases he with ⟨rfl, rfl⟩ | ⟨rfl, rfl⟩ | ⟨rfl, rfl⟩
      ·exact hf1.m 0 ⟨.tok 4, qj, qu 0 qj, []⟩ (by kernel_rfl)
      ·exact hf1.m 2 ⟨.tok 5, zj, [(0, 33)], []⟩ (by kernel_rfl)
      ·exact hf1.m 3 ⟨.tok 6, zu, [], []⟩ (by kernel_rfl)
   refine q4v (Q := Q) (Q' := Q) (fun e a w _ h => h) [sqL q4x, sqL (sqR q4x)] (fun a w h => ?_) (q9k [sqL q4x, sqL (sqR q4x)] [sqL (sqL qxu)] pre)
   refine wpIn_seq (wpIn_seq (wpIn_mono h fun e a w hq => ?_))
   cases e with
   | normal => exact hq
   | _ => exact hq
  have e := z2n
  rw [← e] at hcl
  exact hcl
end
def q01 : Ct := ⟨20, [], [(.st 26, true), (.st 32, false), (.bool, false)], [], none, [], []⟩
theorem qd6 : EnZ q01 := fun _ _ => by kernel_rfl
def qf4 : Ann := ⟨[0, 1, 2, 3, 4, 5, 6, 7], []⟩
def q3i : Tree := (.need [(.ok 0 [(.lit (.i 100))])] (.need [(.ok 1 [(.call 0 0 [(.lit (.i 100))])])] (.need [(.ok 3 [(.call 1 2 [(.call 0 0 [(.lit (.i 100))])]), (.call 1 0 [(.call 0 0 [(.lit (.i 100))])]), (.lit (.s ⟨#[97]⟩)), (.call 2 0 [(.lit (.i 1))])]), (.ok 2 [(.lit (.i 1))])] (.leaf [(.call 3 1 [(.call 1 2 [(.call 0 0 [(.lit (.i 100))])]), (.call 1 0 [(.call 0 0 [(.lit (.i 100))])]), (.lit (.s ⟨#[97]⟩)), (.call 2 0 [(.lit (.i 1))])]), (.call 1 0 [(.call 0 0 [(.lit (.i 100))])]), (.and (.and (.eq (.call 0 1 [(.lit (.i 100))]) (.lit (.i 0))) (.eq (.call 1 1 [(.call 0 0 [(.lit (.i 100))])]) (.lit (.i 0)))) (.eq (.call 3 0 [(.call 1 2 [(.call 0 0 [(.lit (.i 100))])]), (.call 1 0 [(.call 0 0 [(.lit (.i 100))])]), (.lit (.s ⟨#[97]⟩)), (.call 2 0 [(.lit (.i 1))])]) (.lit (.i 0))))]))))
theorem qe1 (g0 g1 g2 g3 : GfZ) : CdZ [(q0l, g0), (qy, g1), (jq, g2), (q0a, g3)] qf4 q01 Try.f20 q3i := fun cd h => by injection h with h; subst h; kernel_rfl
theorem qf1 {g0 g1 g2 g3 g : GfZ} (h0 : FOk q0l g0) (h1 : FOk qy g1) (h2 : FOk jq g2) (h3 : FOk q0a g3) (h : HgZ q3i q01 [(q0l, g0), (qy, g1), (jq, g2), (q0a, g3)] g) : FOk q01 g := jc (qe1 g0 g1 g2 g3) (.cons h0 (.cons h1 (.cons h2 (.cons h3 .nil)))) rfl rfl qd6 (by decide) h
def yk : Ct := ⟨21, [.val (.int .i64), .val (.int .i64), .val (.int .i64), .rref (.st 26)], [(.bool, false)], [], none, [], []⟩
theorem q7v : EnZ yk := fun _ _ => by kernel_rfl
def q9b : Ann := ⟨[0, 1, 2, 3, 7], []⟩
def q18 : Tree := (.need [(.le (.lit (.i 0)) (.tok 0)), (.lt (.tok 0) (.len (.fld (.tok 3) 0)))] (.leaf [(.eq (.get (.fld (.tok 3) 0) (.tok 0)) (.mk [(.tok 1), (.tok 2)]))]))
theorem q89 : CdZ [] q9b yk Try.f21 q18 := fun cd h => by injection h with h; subst h; kernel_rfl
theorem q98 {g : GfZ} (h : HgZ q18 yk [] g) : FOk yk g := jc (q89) .nil rfl rfl q7v (by decide) h
def q48 : Ct := ⟨8, [], [(.bool, false)], [], none, [], []⟩
theorem qeu : EnZ q48 := fun _ _ => by kernel_rfl
def qas : Ann := ⟨[0, 1, 2, 3, 4, 5, 6, 7, 8, 9, 48, 59], []⟩
def q25 : Ct := ⟨4, [], [(.bool, false)], [], none, [], []⟩
theorem q9d : EnZ q25 := fun _ _ => by kernel_rfl
def q4e : Ann := ⟨[0, 1, 2, 3, 4, 5, 7, 8, 9, 10, 11, 12, 13, 32], []⟩
def q1w (s : So) (d : Ce) : List At := if d.t = 5 then yf s (cellAt s (d.n + 2)) else []
abbrev z5w (s : So) : Bool := decide (s.cs.length ≤ 4000000000000)
theorem qlc (s : So) (d : Ce) (h : s.cs.length ≤ 4000000000000) : (q1w s d).length ≤ 4000000000000 := by
 unfold q1w
 split
 ·exact Nat.le_trans (qaj s s.cs.length _ []) h
 ·simp
theorem qb3 {s : So} {v : Ce} (hb : z5w s = true) (h : (zb s v).2 = true) : z3s [eS s, eC (zb s v).1] = some [.r ((q1w s (zb s v).1).map eA)] := by
 simp only [z3s, ye, ju, q1w]
 by_cases h5 : (zb s v).1.t = 5
 ·have hin : inS s ((zb s v).1.n + 2) = true := by
   unfold zb at h h5 ⊢
   split at h
   ·rename_i hv
    rw [if_pos hv] at h5
    split at h
    ·rename_i h0
     rw [if_pos h0] at h5
     have h5 : (jz s v).t = 5 := h5
     omega
    ·rename_i h0
     rw [if_neg h0] at h5
     split at h
     ·rename_i h1
      simp only [if_pos hv, if_neg h0, if_pos h1]
      simp only [Bool.and_eq_true] at h
      exact h.2
     ·rename_i h1
      rw [if_neg h1] at h5
      exact absurd h5 (by decide)
   ·cases h
  rw [if_pos h5, if_pos ⟨hin, of_decide_eq_true hb⟩, if_pos h5]
 ·rw [if_neg h5, if_neg h5]
  rfl
def zgt (l : List At) (nm : ByteArray) : Ce × Bool := if q2b l nm < 0 then (⟨0, 0⟩, false) else ((l.getD (q2b l nm).toNat default).val, true)
def zfa (s : So) (v : Ce) (nm : ByteArray) : Ce × Bool := if (zb s v).2 then zgt (q1w s (zb s v).1) nm else (⟨0, 0⟩, false)
def z1x : List D → Option (List D)
 | [s, v, nm] => if z5w (dS s) then some [eC (zfa (dS s) (dC v) nm.str).1, .b (zfa (dS s) (dC v) nm.str).2] else none
 | _ => none
theorem qsg {l : List At} {nm : ByteArray} (h : ¬ q2b l nm < 0) : 0 ≤ q2b l nm ∧ q2b l nm < l.length := by
 unfold q2b at h ⊢
 split
 ·rename_i i hi
  have := (List.findIdx?_eq_some_iff_getElem.1 hi).1
  omega
 ·rename_i hi
  rw [hi] at h
  exact absurd (by decide) h
theorem qil : FOk q2g z1x := qsn q1n q8w qab fun ds outs hw hg => by
 obtain ⟨d, r, rfl, hd, e, r', rfl, he, f, r2, rfl, hf, rfl⟩ := hw
 obtain ⟨s, rfl, hs⟩ := wfS hd
 obtain ⟨v, rfl, hv⟩ := wfC he
 obtain ⟨nm, rfl, hn⟩ := hf.str
 simp only [z1x, ye, ju, q4p, Option.ite_none_right_eq_some, Option.some.injEq] at hg
 obtain ⟨hb, rfl⟩ := hg
 have ez : D.a [.i 0, .i 0] = eC ⟨0, 0⟩ := rfl
 simp only [q91, qa, qg, qb, qd, qf, X.says, X.ev, X.evs, evl, qe, gnA, z5, ez, zfa]
 cases h : (zb s v).2 with
 | false => simp
 | true =>
  simp only [qb3 hb h, zi, qr, q4p, qa, qg, qb, qd, qf, X.says, X.ev, X.evs, evl, qe, gnA, zgt]
  by_cases hp : q2b (q1w s (zb s v).1) nm < 0
  ·simp [hp]
  ·obtain ⟨h1, h2⟩ := qsg hp
   have hk : (q2b (q1w s (zb s v).1) nm).toNat < (q1w s (zb s v).1).length := by omega
   have eg : (D.r ((q1w s (zb s v).1).map eA)).get (q2b (q1w s (zb s v).1) nm) = eA ((q1w s (zb s v).1).getD (q2b (q1w s (zb s v).1) nm).toNat default) := qwd eA h1 h2
   simp [hp, h1, h2, eg, zj8]
def z7m (s : So) (v : Ce) : List ByteArray := if (zb s v).2 then (q1w s (zb s v).1).map At.name else []
def z59 : List D → Option (List D)
 | [s, v] => if z5w (dS s) then some [.r ((z7m (dS s) (dC v)).map .s)] else none
 | _ => none
theorem qoy : FOk q21 z59 := qod q1n q8w fun ds outs hw hg => by
 obtain ⟨d, r, rfl, hd, e, r', rfl, he, rfl⟩ := hw
 obtain ⟨s, rfl, hs⟩ := wfS hd
 obtain ⟨v, rfl, hv⟩ := wfC he
 simp only [z59, ye, ju, Option.ite_none_right_eq_some, Option.some.injEq] at hg
 obtain ⟨hb, rfl⟩ := hg
 simp only [q69, qa, qg, qb, qd, qf, X.says, X.ev, X.evs, evl, qe, gnA, z5, z7m]
 cases h : (zb s v).2 with
 | false => simp
 | true =>
  have hl := qlc s (zb s v).1 (of_decide_eq_true hb)
  simp only [qb3 hb h, qa, qg, qb, qd, qf, X.says, X.ev, X.evs, evl, qe, gnA, true_implies, Bool.not_true, Bool.false_eq_true, false_implies, true_and, if_true, Option.isSome_some]
  have e1 : ((z3s [eS s, ((z5 [eS s, eC v]).getD []).getD 0 D.u]).getD []).getD 0 D.u = .r ((q1w s (zb s v).1).map eA) := by
   simp only [z5, ye, ju, Option.getD_some, List.getD_cons_zero, qb3 hb h]
  generalize q1w s (zb s v).1 = l at *
  rw [jm]
  refine ⟨fun st => ∃ k : Nat, k ≤ l.length ∧ st = [.r (((l.take k).map At.name).map .s), .i k], fun st => l.length - (st.getD 1 .u).int.toNat, ⟨0, Nat.zero_le _, rfl⟩, ?_⟩
  rintro st - ⟨k, hk, rfl⟩
  rw [qg]
  refine ⟨fun hlt => ?_, fun hlt => ?_⟩
  ·simp only [qa, qg, qb, qd, qf, X.says, X.ev, X.evs, evl, qe, gnA, e1] at hlt
   have hkl : k < l.length := by omega
   have e2 : (l.take (k + 1)).map At.name = (l.take k).map At.name ++ [(l.getD k default).name] := by
    rw [List.take_add_one, List.getElem?_eq_getElem hkl, List.map_append, List.getD_eq_getElem?_getD, List.getElem?_eq_getElem hkl]
    rfl
   simp only [qa, qg, qb, qd, qf, X.says, X.ev, X.evs, evl, qe, gnA, e1, qba eA hkl, zf5]
   refine ⟨⟨by omega, by omega⟩, by rw [List.length_take]; omega, ⟨by omega, by omega⟩, ?_⟩
   rw [q3l, if_pos rfl]
   refine ⟨⟨k + 1, by omega, ?_⟩, by simp [D.int]; omega⟩
   rw [e2]
   simp [q6i]
  ·simp only [qa, qg, qb, qd, qf, X.says, X.ev, X.evs, evl, qe, gnA, e1] at hlt ⊢
   have hkl : k = l.length := by omega
   subst hkl
   rw [List.take_length]
section
namespace Dl
open Go.RowKit Go.Shelf
attribute [local go_sem] Oper.semAt_some
theorem z2o (w : World) {ops : Array Oper} {rest : List Oper} {o : Oper} {a : Act} {Q : Exit → Act → World → Prop} (hgd : o.guard = none) (s x : Operand) (t t' : TypeId)
  (ho : o.op = .call { callee := .builtin .append, args := #[s, x], argTypes := #[t, t'] }) (v u : Value) (hs : a.eval s = v) (hx : a.eval x = u) {v' : Value} {w' : World}
  (hr : (Builtin.append_ #[t, t'] o.type #[v, u]).run Try.prog w = .ok v' w') (h : wpList Try.prog ops Q rest (a.put o.dst v') w') : wpList Try.prog ops Q (o :: rest) a w :=
 wpList_plain hgd fun _ hK => by
  unfold Oper.wp execOp
  simp only [ho, resolve, invoke, builtin, Sem.run_bind, Sem.run_pure, Result.andThen_ok, List.map_toArray, List.map_cons, List.map_nil, hs, hx, hr]
  exact hK _ _ h
theorem z8q (w : World) (b cap n i : Nat) (hi : i < n) (hcap : n ≤ cap) (hc63 : cap ≤ 9223372036854775807) (w1 w2 : World)
  (happ : ∀ o : Addr, o.block = b → (i + 1 < n → o = ⟨b, (i + 1) * 3, none⟩) → (Builtin.append_ #[77, 77] 77 #[.slice (some ⟨b, 0, none⟩) i cap, .slice (some o) (n - (i + 1)) (cap - (i + 1))]).run Try.prog w.drew = .ok (.slice (some ⟨b, 0, none⟩) (n - 1) cap) w1)
  (hclr : (Builtin.clear_ #[77] 0 #[.slice (some ⟨b, (n - 1) * 3, none⟩) 1 (cap - (n - 1))]).run Try.prog w1 = .ok (.tuple #[]) w2) : Calls Try.prog 59 #[.slice (some ⟨b, 0, none⟩) n cap, .int .i64 (i : Nat), .int .i64 ((i : Nat) + 1)] w fun e w' => e = .returned (.slice (some ⟨b, 0, none⟩) (n - 1) cap) ∧ w' = w2 := by
 have hne : ¬ ((i : Int) = (i : Int) + 1) := by omega
 have h1 : i ≤ cap := by omega
 have h2 : i + 1 ≤ n := by omega
 have h3 : i + 1 ≤ cap := by omega
 have h4 : (0 : Int) ≤ (i : Int) + 1 ∧ (i : Int) + 1 ≤ (n : Int) := by omega
 go_enter Try.func59, Try.ntmps59
 go_wp2_with fail
 go_still_tail 6, (by kernel_rfl)
 change wpList _ _ _ _ _ w.drew
 obtain ⟨o, ho⟩ : ∃ o : Addr, (if cap = i + 1 then some (⟨b, 0, none⟩ : Addr) else some ⟨b, (i + 1) * 3, none⟩) = some o := by
  by_cases e : cap = i + 1
  ·exact ⟨_, if_pos e⟩
  ·exact ⟨_, if_neg e⟩
 have ho1 : o.block = b := by
  split at ho <;> (injection ho with ho; subst ho; rfl)
 have ho2 : i + 1 < n → o = ⟨b, (i + 1) * 3, none⟩ := fun h => by
  rw [if_neg (by omega)] at ho
  injection ho with ho
  exact ho.symm
 rw [ho]
 have ha := happ o ho1 ho2
 refine z2o _ rfl _ _ _ _ rfl _ _ rfl rfl ha ?_
 have k1 : n - 1 ≤ n := by omega
 have k2 : n ≤ cap := hcap
 have k3 : ((n - 1 : Nat) : Int) ≤ (n : Int) := by omega
 have k4 : n - (n - 1) = 1 := by omega
 have k5 : ¬ cap = n - 1 := by omega
 go_wp2_with fail
 exact bodyPost_ret (v := .slice (some ⟨b, 0, none⟩) (n - 1) cap) (by simp [results, Try.results59, go_sem]) rfl ⟨rfl, rfl⟩
end Dl
end
section
namespace Dl
open Go.RowKit Go.Shelf
abbrev tAt : TypeId := 81
abbrev quj : TypeId := 77
theorem wA : (Ty.st aS).w = 3 := by kernel_rfl
def flT (a : At) : List Value := [.string a.name, .int .i64 a.val.t, .int .i64 a.val.n]
def rwA (l : List At) : List Value := l.flatMap flT
theorem qa3 (l : List At) : (rwA l).length = l.length * 3 := by
 induction l with
 | nil => rfl
 | cons x l ih => simp [rwA, flT] at ih ⊢; omega
theorem qu3 (l m : List At) : rwA (l ++ m) = rwA l ++ rwA m := List.flatMap_append
theorem qvj (x : At) (l : List At) : rwA (x :: l) = flT x ++ rwA l := rfl
theorem zbp {l : List At} : ∀ v ∈ rwA l, v.oneCell' = true := fun v hv => by
 obtain ⟨x, -, hx⟩ := List.mem_flatMap.1 hv
 simp only [flT, List.mem_cons, List.not_mem_nil, or_false] at hx
 rcases hx with rfl | rfl | rfl <;> rfl
theorem zgr {x : At} (h : x.ok) (w : World) (F : Nat → Prop) : Rd w F (eA x) (.st aS) (flT x) :=
 ⟨_, _, rfl, flA, .str, [qn], [.string x.name], ceL x.val, rfl, rfl, ⟨rfl, rfl, h.1⟩, qn, [], ceL x.val, [], rfl, by simp, qrd h.2, rfl, rfl⟩
theorem zem {w : World} {F : Nat → Prop} {d : D} {cs : List Value} (h : Rd w F d (.st aS) cs) : ∃ x : At, x.ok ∧ d = eA x ∧ cs = flT x := by
 obtain ⟨l, rfl, hF⟩ := Ins.of_rdS flA h
 obtain ⟨d1, l1, c1, c2, rfl, rfl, h1, hG⟩ := Ins.of_rdF hF
 obtain ⟨d2, l2, c3, c4, rfl, rfl, h2, hH⟩ := Ins.of_rdF hG
 obtain ⟨rfl, rfl⟩ := Ins.of_rdN hH
 obtain ⟨x, ha, hx⟩ := wfA ⟨w, F, _, h⟩
 obtain ⟨n, v⟩ := x
 have e := congrArg D.fs ha
 simp only [eA, D.fs, List.cons.injEq, and_true] at e
 obtain ⟨rfl, rfl⟩ := e
 obtain rfl := qrf h2
 obtain ⟨-, rfl, -⟩ := h1
 exact ⟨⟨n, v⟩, hx, rfl, rfl⟩
theorem qqo {w : World} {F : Nat → Prop} {b o : Nat} {cur : Array Value} {T : TypeId} (hc : w.heap[b]? = some (.cells cur T (0, 0))) : ∀ {rs : List D} {i : Nat}, RdE w F rs (.st aS) (some ⟨b, o, none⟩) i → ∃ L : List At, rs = L.map eA ∧ (∀ x ∈ L, x.ok) ∧ cur.toList.drop (o + i * 3) = rwA L ++ cur.toList.drop (o + (i + rs.length) * 3)
 | [], i, _ => ⟨[], rfl, fun x hx => (by cases hx), by simp [rwA]⟩
 | d :: rs, i, ⟨⟨b', o', cs, e, hF, hr, hd⟩, h⟩ => by
  injection e with e
  injection e with e1 e2
  subst e1 e2
  obtain ⟨x, hx, rfl, rfl⟩ := zem hd
  obtain ⟨L, rfl, hL, hdr⟩ := qqo hc h
  rw [wA] at hr
  refine ⟨x :: L, rfl, fun y hy => (List.mem_cons.1 hy).elim (fun e => e ▸ hx) (hL y), ?_⟩
  have := Ins.range_drop3 hc hr
  rw [this, show o + i * 3 + 3 = o + (i + 1) * 3 by omega, hdr, show i + 1 + (L.map eA).length = i + (eA x :: L.map eA).length by simp; omega]
  rfl
theorem z21 {A : Nat → Prop} {p : ql} {w : World} {dep : List Nat} {pin : Nat} {l : List D} {v : Value} (h : q1l A p w dep pin tAt (.st aS) l v) (h0 : 0 < l.length) :
  ∃ g cap L post, v = .slice (some ⟨g, 0, none⟩) l.length cap ∧ p pin = some g ∧ l = L.map eA ∧ (∀ x ∈ L, x.ok) ∧ w.heap[g]? = some (.cells (rwA L ++ post).toArray tAt (0, 0)) ∧ l.length ≤ cap ∧ cap ≤ maxLen ∧ post.length = (cap - l.length) * 3 := by
 rcases h with ⟨-, rfl⟩ | ⟨g, cap, cur, rfl, hg, hh, h1, h2, h3, h4, h5⟩
 ·simp at h0
 ·obtain ⟨L, hL, hok, hdr⟩ := qqo (F := FFD A p (pin :: dep)) (o := 0) hh (rs := l) (i := 0) (q0i.2 fun j hj => by
   obtain ⟨cs, hr, hx⟩ := h5 j hj
   exact ⟨g, 0, cs, rfl, .inr ⟨pin, by simp, hg⟩, by simpa using hr, hx.mono fun b _ hb => hb.mono fun x hx => List.mem_cons_of_mem _ hx⟩)
  have hl := qa3 L
  have hll : l.length = L.length := by rw [hL, List.length_map]
  simp only [Nat.zero_mul, Nat.zero_add, List.drop_zero] at hdr
  rw [wA] at h3
  have hcl := congrArg List.length hdr
  rw [List.length_append, List.length_drop, Array.length_toList] at hcl
  refine ⟨g, cap, L, cur.toList.drop (l.length * 3), rfl, hg, hL, hok, ?_, h1, h2, ?_⟩
  ·rw [← hdr]
   exact hh
  ·rw [List.length_drop, Array.length_toList]
   omega
theorem z1c : ∀ {l : List At} {i : Nat} (h : i < l.length) {j : Nat} {v : Value}, (flT l[i])[j]? = some v → (rwA l)[i * 3 + j]? = some v
 | x :: l, 0, _, j, v, hj => by
  rw [Nat.zero_mul, Nat.zero_add, qvj]
  exact List.getElem?_append_left (by have := (List.getElem?_eq_some_iff.1 hj).1; exact this) ▸ hj
 | x :: l, i + 1, h, j, v, hj => by
  have := z1c (l := l) (i := i) (by simpa using h) (j := j) (v := v) (by simpa using hj)
  rw [qvj, show (i + 1) * 3 + j = i * 3 + j + 3 by omega]
  exact this
theorem qqg {w : World} {b k : Nat} {cs : List Value} {T : TypeId} (h : w.heap[b]? = some (.cells cs.toArray T (0, 0))) {v : Value} (hv : cs[k]? = some v) : w.cell? ⟨b, k, none⟩ = some v := by
 have := cell_of_row w b k _ T (0, 0) h
 rw [this]
 simpa using hv
theorem za1 {A : Nat → Prop} {p : ql} {w : World} {pin g cap : Nat} {M : List At} {post : List Value} (hp : p pin = some g) (hM : ∀ x ∈ M, x.ok) (hh : w.heap[g]? = some (.cells (rwA M ++ post).toArray tAt (0, 0))) (h1 : M.length ≤ cap) (h2 : cap ≤ maxLen) (h3 : post.length = (cap - M.length) * 3) (h4 : M.length ≤ 4398046510976) :
  q1l A p w [] pin tAt (.st aS) (M.map eA) (.slice (some ⟨g, 0, none⟩) M.length cap) := by
 have hl := qa3 M
 refine .inr ⟨g, cap, _, by rw [List.length_map], hp, hh, by rw [List.length_map]; exact h1, h2, by rw [List.size_toArray, List.length_append, wA]; omega, by rw [List.length_map, lmA]; exact h4, fun i hi => ?_⟩
 have hi' : i < M.length := by simpa using hi
 refine ⟨flT M[i], fun j v hj => ?_, by simpa using zgr (hM _ (List.getElem_mem hi')) _ _⟩
 rw [wA]
 have := z1c hi' hj
 exact qqg hh (List.getElem?_append_left (by have := (List.getElem?_eq_some_iff.1 this).1; exact this) ▸ this)
theorem z5a : Try.prog.underlying quj = some (.slice tAt) := by kernel_rfl
theorem zah : (Try.prog.info? tAt).map (fun i => i.size) = some 3 := by kernel_rfl
theorem z8e (w : World) : (zeroValue tAt).run Try.prog w = .ok (.agg #[.string ⟨#[]⟩, .int .i64 0, .int .i64 0]) w := by kernel_rfl
theorem qya (w : World) (g i m cap mc : Nat) (a : Addr) (cur : Array Value) (t : TypeId) (cs : List Value)
  (hg : w.heap[g]? = some (.cells cur t (0, 0))) (hl : cs.length = m * 3) (hsrc : ∀ j v, cs[j]? = some v → w.cell? (a.add j) = some v) (hroom : i + m ≤ cap) (hfit : i * 3 + cs.length ≤ cur.size) (h1 : ∀ v ∈ cs, v.oneCell' = true) :
  (Builtin.append_ #[quj, quj] quj #[.slice (some ⟨g, 0, none⟩) i cap, .slice (some a) m mc]).run Try.prog w =
   .ok (.slice (some ⟨g, 0, none⟩) (i + m) cap) (w.setRow g (cur.toList.take (i * 3) ++ cs ++ cur.toList.drop (i * 3 + cs.length)).toArray) := by
 have hld := run_loadCells_list (P := Try.prog) w a cs hsrc
 have hst := run_storeCells_at Try.prog g (i * 3) t cs 0 cur w hg (by simpa using hfit) h1
 obtain ⟨ti, hi, e⟩ := Option.map_eq_some_iff.1 zah
 have e : ti.size = 3 := e
 rw [hl] at hld
 simp [Builtin.append_, run_underlying z5a, Builtin.lenOf, Builtin.firstCells, sizeOf, typeInfo, hi, e, hroom, hld, hst, Addr.add_lit]
def zAt : List Value := [.string ⟨#[]⟩, .int .i64 0, .int .i64 0]
theorem qyp (w : World) (g q c : Nat) (cur : Array Value) (t : TypeId) (hg : w.heap[g]? = some (.cells cur t (0, 0))) (hfit : q + 3 ≤ cur.size) :
  (Builtin.clear_ #[quj] 0 #[.slice (some ⟨g, q, none⟩) 1 c]).run Try.prog w = .ok (.tuple #[]) (w.setRow g (cur.toList.take q ++ zAt ++ cur.toList.drop (q + 3)).toArray) := by
 have hst := run_storeCells_at Try.prog g q t zAt 0 cur w hg (by simpa [zAt] using hfit) (fun v hv => by
  simp only [zAt, List.mem_cons, List.not_mem_nil, or_false] at hv
  rcases hv with rfl | rfl | rfl <;> rfl)
 have hz : (Builtin.zeroCells #[.string ⟨#[]⟩, .int .i64 0, .int .i64 0] 1).toList = zAt := by kernel_rfl
 have hl : zAt.length = 3 := rfl
 rw [hl] at hst
 simp only [Nat.add_zero] at hst
 simp only [Builtin.clear_, List.getElem?_toArray, List.getElem?_cons_zero, Sem.run_bind, run_underlying z5a, Result.andThen_ok, z8e, Value.cells, hz, hst, Sem.run_pure]
end Dl
end
section
open Go.RowKit Go.Shelf
open Dl
def z77 : List D → Option (List D)
 | [l, i, j] => if 0 ≤ i.int ∧ i.int < l.rs.length ∧ j.int = i.int + 1 then some [.r (l.rs.take i.int.toNat ++ l.rs.drop (i.int.toNat + 1))] else none
 | _ => none
theorem za0 {A : Nat → Prop} {p : ql} {w : World} {d : D} {pin : Nat} {cs : List Value} (h : Con A p w d (.row tAt) [(0, pin)] [] cs) : ∃ l v, d = .r l ∧ cs = [v] ∧ q1l A p w [] pin tAt (.st aS) l v := by
 rcases h with ⟨E, te, l, v, e, hte, rfl, rfl, h⟩ | ⟨K, V, kt, vt, l, g, es, clock, e, -⟩
 ·injection e with e
  subst e
  obtain rfl := Option.some.inj (hte.symm.trans tyA)
  exact ⟨l, v, rfl, rfl, h⟩
 ·cases e
set_option maxHeartbeats 1000000 in
theorem q7q : FOk yu z77 := FOk.of_at q5q fun ds outs hw hg => by
 obtain ⟨d, r, rfl, hd, e, r', rfl, he, e2, r2, rfl, he2, hw⟩ := hw
 obtain rfl : r2 = [] := hw
 obtain ⟨l, te, rfl, hte, hl, -⟩ := hd.row
 obtain ⟨n, rfl, hn⟩ := wfI he
 obtain ⟨m, rfl, hm⟩ := wfI he2
 have hg' : (if 0 ≤ n ∧ n < l.length ∧ m = n + 1 then some [D.r (l.take n.toNat ++ l.drop (n.toNat + 1))] else none) = some outs := hg
 split at hg'
 case isFalse => cases hg'
 rename_i hc
 obtain ⟨h1, h2, rfl⟩ := hc
 injection hg' with hg'
 subst hg'
 clear hg
 intro A F p w vs us hfl hfo hpre hvl hargs
 have hF0 : ∀ te, F.mx te = 0 := fun te => hfl.zero rfl te
 obtain ⟨v0, r0, d0, ds0, e0, e00, ⟨cs0, hpk0, hc0⟩, v1, r1, d1, ds1, e1, e11, ⟨cs1, hpk1, hc1⟩, v2, r2, d2, ds2, e2', e22, ⟨cs2, hpk2, hc2⟩, hr⟩ := hargs
 obtain rfl : r2 = [] := hr.1
 subst e1 e2'
 obtain ⟨rfl, rfl⟩ := List.cons.inj e00
 obtain ⟨rfl, rfl⟩ := List.cons.inj e11
 obtain ⟨rfl, -⟩ := List.cons.inj e22
 clear e00 e11 e22 hr
 obtain ⟨rfl, rfl⟩ : vs = [v0, v1, v2] ∧ us = [] := by
  have hl3 : vs.length = 3 := hvl
  have hus : us.length = 0 := by
   have := congrArg List.length e0
   simp at this
   omega
  obtain rfl := List.length_eq_zero_iff.1 hus
  exact ⟨by simpa using e0, rfl⟩
 clear e0
 have hc0 : Con A p w (D.r l) (.row tAt) [(0, 1)] [] cs0 := hc0
 obtain ⟨l', u0, q0, rfl, ho0⟩ := za0 hc0
 injection q0 with q0
 subst q0
 obtain rfl : u0 = v0 := (List.cons.inj hpk0).1
 obtain ⟨n', -, e, rfl⟩ := Ins.of_rdI hc1
 injection e with e
 subst e
 obtain rfl : Value.int .i64 n = v1 := (List.cons.inj hpk1).1
 obtain ⟨n', -, e, rfl⟩ := Ins.of_rdI hc2
 injection e with e
 subst e
 obtain rfl : Value.int .i64 (n + 1) = v2 := (List.cons.inj hpk2).1
 obtain ⟨g, cap, L, post, rfl, hpg, hL, hLo, hg, hcap, hcm, hpost⟩ := z21 ho0 (by omega)
 have hLl : l.length = L.length := by rw [hL, List.length_map]
 obtain ⟨i, rfl⟩ : ∃ i : Nat, n = i := ⟨n.toNat, by omega⟩
 have hi : i < L.length := by omega
 have hlm : cap ≤ 9223372036854775807 := by unfold maxLen at hcm; omega
 have hout : l.take (i : Int).toNat ++ l.drop ((i : Int).toNat + 1) = (L.take i ++ L.drop (i + 1)).map eA := by
  rw [hL, Int.toNat_natCast]
  simp
 have hNo : ∀ y ∈ L.take i ++ L.drop (i + 1), y.ok := fun y hy => by
  rcases List.mem_append.1 hy with h | h
  ·exact hLo y (List.mem_of_mem_take h)
  ·exact hLo y (List.mem_of_mem_drop h)
 have hNl : (L.take i ++ L.drop (i + 1)).length = L.length - 1 := by simp; omega
 have hlL := qa3 L
 have hlD := qa3 (L.drop (i + 1))
 have hlN := qa3 (L.take i ++ L.drop (i + 1))
 have hlT := qa3 (L.take i)
 rw [List.length_drop] at hlD
 rw [List.length_take, Nat.min_eq_left (by omega)] at hlT
 rw [hNl] at hlN
 have hsp : rwA L = rwA (L.take i) ++ rwA (L.drop i) := by rw [← qu3, List.take_append_drop]
 have hsp2 : rwA L = rwA (L.take (i + 1)) ++ rwA (L.drop (i + 1)) := by rw [← qu3, List.take_append_drop]
 have hlT2 := qa3 (L.take (i + 1))
 rw [List.length_take, Nat.min_eq_left (by omega)] at hlT2
 have hgd : w.drew.heap[g]? = some (.cells (rwA L ++ post).toArray tAt (0, 0)) := hg
 -- the cells behind the append
 have hc1' : ((rwA L ++ post).take (i * 3) ++ rwA (L.drop (i + 1)) ++ (rwA L ++ post).drop (i * 3 + (rwA (L.drop (i + 1))).length)) = rwA (L.take i ++ L.drop (i + 1)) ++ (rwA L ++ post).drop ((L.length - 1) * 3) := by
  rw [qu3, hlD]
  congr 1
  ·congr 1
   rw [hsp, List.append_assoc, ← hlT, List.take_left]
  ·congr 1
   omega
 have hsz : (rwA L ++ post).length = cap * 3 := by rw [List.length_append, hlL, hpost, hLl]; omega
 have happ : ∀ o : Addr, o.block = g → (i + 1 < L.length → o = ⟨g, (i + 1) * 3, none⟩) → (Builtin.append_ #[quj, quj] quj #[.slice (some ⟨g, 0, none⟩) i cap, .slice (some o) (L.length - (i + 1)) (cap - (i + 1))]).run Try.prog w.drew = .ok (.slice (some ⟨g, 0, none⟩) (L.length - 1) cap) (w.drew.setRow g (rwA (L.take i ++ L.drop (i + 1)) ++ (rwA L ++ post).drop ((L.length - 1) * 3)).toArray) := fun o ho1 ho2 => by
  have := qya w.drew g i (L.length - (i + 1)) cap (cap - (i + 1)) o (rwA L ++ post).toArray tAt (rwA (L.drop (i + 1))) hgd hlD (fun j v hj => ?_) (by omega) (by rw [hlD]; simp only [List.size_toArray, hsz]; omega) zbp
  ·rw [this, show i + (L.length - (i + 1)) = L.length - 1 by omega]
   rw [← hc1']
  ·have hj' := (List.getElem?_eq_some_iff.1 hj).1
   rw [hlD] at hj'
   rw [ho2 (by omega)]
   rw [Addr.add_lit]
   refine qqg hgd ?_
   rw [List.getElem?_append_left (by rw [hlL]; omega), hsp2, List.getElem?_append_right (by omega), hlT2, show (i + 1) * 3 + j - (i + 1) * 3 = j by omega]
   exact hj
 have hg1 := setRow_heap w.drew g _ (rwA (L.take i ++ L.drop (i + 1)) ++ (rwA L ++ post).drop ((L.length - 1) * 3)).toArray tAt (0, 0) hgd
 have hclr := qyp (w.drew.setRow g (rwA (L.take i ++ L.drop (i + 1)) ++ (rwA L ++ post).drop ((L.length - 1) * 3)).toArray) g ((L.length - 1) * 3) (cap - (L.length - 1)) _ tAt hg1 (by simp only [List.size_toArray, List.length_append, hlN, List.length_drop]; simp only [List.length_append] at hsz; omega)
 have hc2' : ((rwA (L.take i ++ L.drop (i + 1)) ++ (rwA L ++ post).drop ((L.length - 1) * 3)).toArray.toList.take ((L.length - 1) * 3) ++ zAt ++ (rwA (L.take i ++ L.drop (i + 1)) ++ (rwA L ++ post).drop ((L.length - 1) * 3)).toArray.toList.drop ((L.length - 1) * 3 + 3)) = rwA (L.take i ++ L.drop (i + 1)) ++ (zAt ++ post) := by
  show ((rwA (L.take i ++ L.drop (i + 1)) ++ (rwA L ++ post).drop ((L.length - 1) * 3)).take ((L.length - 1) * 3) ++ zAt ++ (rwA (L.take i ++ L.drop (i + 1)) ++ (rwA L ++ post).drop ((L.length - 1) * 3)).drop ((L.length - 1) * 3 + 3)) = _
  rw [← hlN, List.take_left, List.append_assoc]
  congr 2
  rw [List.drop_append, List.drop_eq_nil_of_le (by omega), List.nil_append, List.drop_drop, hlN, show (L.length - 1) * 3 + ((L.length - 1) * 3 + 3 - (L.length - 1) * 3) = (rwA L).length by rw [hlL]; omega, List.drop_left]
 rw [hc2', setRow_setRow] at hclr
 rw [show (List.length l) = L.length from hLl]
 refine Calls.mono (z8q w g cap L.length i hi (by omega) hlm _ _ happ hclr) ?_
 rintro e w' ⟨rfl, rfl⟩
 have hbut : But (pinned p) w (w.drew.setRow g (rwA (L.take i ++ L.drop (i + 1)) ++ (zAt ++ post)).toArray) := q50 (But.refl (pinned p) w).drew (.inl ⟨_, hpg⟩) _
 have hh := setRow_heap w.drew g _ (rwA (L.take i ++ L.drop (i + 1)) ++ (zAt ++ post)).toArray tAt (0, 0) hgd
 have hp' : ∀ y b, (fun y => if y = 49 then some g else none : ql) y = some b → y = 49 ∧ b = g := fun y b h => by
  by_cases hy : y = 49
  ·subst hy
   exact ⟨rfl, (Option.some.inj h).symm⟩
  ·simp [hy] at h
 refine .inr ⟨[.slice (some ⟨g, 0, none⟩) (L.length - 1) cap], fun y => if y = 49 then some g else none, rfl, ⟨?_, ?_, hbut, ?_, hpre.new, ?_, ?_, Flo.of0 hF0 hfo⟩, ?_, rfl⟩
 ·intro y z b h1 h2
  rw [(hp' y b h1).1, (hp' z b h2).1]
 ·intro y b h
  rw [(hp' y b h).2]
  exact qt hh
 ·intro y b h
  rw [(hp' y b h).2]
  exact .inl ⟨_, hpg⟩
 ·intro y b h
  rw [(hp' y b h).2]
  exact hpre.pa _ _ hpg
 ·intro y b h
  rw [(hp' y b h).2]
  exact .inl ⟨_, _, hh⟩
 ·refine ⟨_, _, _, _, rfl, rfl, ⟨[.slice (some ⟨g, 0, none⟩) (L.length - 1) cap], rfl, ?_⟩, rfl⟩
  refine .inl ⟨tAt, .st aS, _, _, rfl, tyA, rfl, rfl, ?_⟩
  rw [hout, ← hNl]
  refine za1 rfl hNo hh (by rw [hNl]; omega) hcm (by rw [hNl, List.length_append, hpost]; show 3 + _ = _; omega) ?_
  rw [hNl]
  have := hl
  obtain rfl := Option.some.inj (hte.symm.trans tyA)
  rw [lmA] at hl
  omega
end
end Go.Proofs.Ytdaadonfbnedaaa
