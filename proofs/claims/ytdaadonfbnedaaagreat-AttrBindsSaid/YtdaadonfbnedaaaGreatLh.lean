/-
 Lemmas of the walk and plain laws, put together. No condition.
-/
import Derived.ChangeArms
import Derived.Deep.AppendSrc
import Derived.OpenShut
import Derived.ProofKit
import Derived.SizedLaws
import Derived.StillTailTactics
import Derived.TacticsInMore
import Derived.Test.YtdaadonfbnedaaaGreatRows
import Derived.Test.YtdaadonfbnedaaaGreatLg
namespace Go.Proofs.YtdaadonfbnedaaaGreat
open Go.RowKit
set_option linter.unusedVariables false
set_option linter.unusedSimpArgs false
set_option maxRecDepth 100000
set_option linter.unusedSectionVars false
section
open Go.RowKit Go.Shelf
noncomputable def wkC : Code := match Tryz.f23.body with
 | some c => c
 | none => .skip
def rgO : Code → List Oper
 | .region _ ops _ => ops.toList
 | _ => []
noncomputable def zka : List Code := [sqL wkC, sqL (sqR wkC)]
noncomputable def zhm : List Oper := rgO (sqL (sqR (sqR wkC)))
noncomputable def q5w : Code := sqR (sqR (sqR wkC))
noncomputable def z3f : Code := sqR (sqR q5w)
noncomputable def zjw : List Code := [sqL q5w, sqL (sqR q5w), sqL (sqL z3f)]
noncomputable def qeh : Code := lpC (bkC (sqR (sqL z3f)))
noncomputable def wkZ : Code := sqR z3f
noncomputable def zcw : Code := bkC (sqL (sqR (sqR qeh)))
noncomputable def wkH : List Code := [sqL qeh, sqL (sqR qeh)]
noncomputable def wkR : List Code := [sqL zcw]
noncomputable def wkY : Code := sqL (sqR zcw)
noncomputable def zof : Nat := match wkY with
 | .region i _ _ => i
 | _ => 0
def z8m : List Oper := [(.mk (.some 30) (.load 41 (.tmp 1)) 41 "attr.go:278" (.mk []) .none), (.mk (.some 31) (.nilCheck (.tmp 30)) 0 "attr.go:278" (.mk [(.mk 0 .data)]) .none), (.mk (.some 32) (.load 27 (.tmp 31)) 27 "attr.go:278" (.mk [(.mk 1 .data)]) .none), (.mk (.some 33) (.fieldAddr 73 (.tmp 6) 1) 0 "attr.go:278" (.mk []) .none), (.mk (.some 34) (.load 29 (.tmp 33)) 29 "attr.go:278" (.mk [(.mk 3 .data)]) .none), (.mk (.some 35) (.call (.mk (.value (.func 63)) (.mk [(.tmp 32), (.tmp 34)]) (.mk [27, 29]))) 96 "attr.go:278" (.mk [(.mk 2 .data), (.mk 4 .data)]) .none)]
noncomputable def wkN : List Code := [sqR (sqR (sqR qeh))]
noncomputable def wkF : Code := bkC (sqR (sqR zcw))
noncomputable def z9e : Code := match wkF with
 | .rangeFunc _ _ a _ => a
 | _ => .skip
noncomputable def z48 : Code := match wkF with
 | .rangeFunc _ _ _ b => bkC b
 | _ => .skip
def q75 : Ann := ⟨[0, 1, 2, 3, 4, 6, 7, 8, 9, 10, 12, 14, 16, 24, 25, 26, 27, 35, 36, 37, 58], []⟩
def q56 : Tbl := [(jn, gCl 3518437208780), (zu, zeh), (qdc, q4y)]
def qtm (m0 m1 m2 m3 : Int) : Tbl := [(ja yk.f qn, fun _ => some [.i m0]), (ja yk.f jb, fun _ => some [.i m1]), (ja yk.f q1q, fun _ => some [.i m2]), (ja yk.f yb, fun _ => some [.i m3]), (zq, gSt qbm), (q14, zed), (j6, gSL ql8), (zn, z7t)]
abbrev wkI : List Item := [(24, q3l, [(0, 385)], []), (25, .int .i64, [], []), (26, .int .i64, [], [])]
abbrev wkM : List Item := [(0, qi, qv 0 qi, []), (2, zo, [(0, 33)], []), (3, y8, [], [])]
def wkQ : St := ⟨[(0, .ref 0 [] 0 qi), (1, .bx 1 41 (.ref 0 [] 0 qi)), (2, .ref 2 [] 0 zo), (3, .sn (VB + 3) (.ref 3 [] 0 y8)), (24, .any), (25, .any), (26, .any)], []⟩
def zld : St := (.mk [(24, (.v (.tok 1) (.row 73) [(0, 385)] [])), (25, (.v (.tok 2) (.int .i64) [] [])), (26, (.v (.tok 3) (.int .i64) [] [])), (0, (.ref 0 [] 0 (.st 26))), (1, (.bx 1 41 (.ref 0 [] 0 (.st 26)))), (2, (.ref 2 [] 0 (.row 29))), (3, (.sn 100003 (.ref 3 [] 0 (.int .i64))))] [(0, (.mk (.tok 4) (.st 26) [(0, 1), (1, 2), (2, 3), (3, 4)] [])), (2, (.mk (.tok 5) (.row 29) [(0, 33)] [])), (3, (.mk (.tok 6) (.int .i64) [] []))])
theorem zg6 : q2a wkI wkM 1 (q1p wkI wkM [] 1 wkQ) = zld := by kernel_rfl
noncomputable def wkK : Nat → St → Nat → Nat → X → Tree := fun n σ ks te was => if Nat.beq n 1 && (Nat.beq ks 0 && (Nat.beq te 3 && X.beq was (.tok 0))) then q4q Tryz.prog q56 q75 1 69 zjw n σ (toN wkI wkM [] wkQ) else .bad 4
theorem zd1 : wkY = .region zof z8m.toArray true := by kernel_rfl
def zng : Tree := (.need [(.ok 0 [(.fld (.tok 0) 3)])] (.need [(.ok 1 [(.call 0 0 [(.fld (.tok 0) 3)])])] (.leaf [(.call 0 0 [(.fld (.tok 0) 3)]), (.len (.call 0 0 [(.fld (.tok 0) 3)])), (.lit (.i 0)), (.tok 0), (.lit (.r [])), (.lit (.i 0))])))
theorem zd8 : q4q Tryz.prog q56 q75 1 69 zka 1 (qql yk) (zjg Tryz.prog q56 yk Tryz.f23 zhm wkK) = zng := by kernel_rfl
def q4r : St := ⟨[(0, .ref 0 [] 0 qi), (1, .bx 1 41 (.ref 0 [] 0 qi)), (2, .ref 2 [] 0 zo), (3, .sn (VB + 3) (.ref 3 [] 0 y8)), (24, .v (.tok 1) q3l [(0, 385)] []), (25, .v (.len (.tok 1)) (.int .i64) [] []), (26, .v (.tok 2) (.int .i64) [] [])], [(0, ⟨.tok 3, qi, qv 0 qi, []⟩), (2, ⟨.tok 4, zo, [(0, 33)], []⟩), (3, ⟨.tok 5, y8, [], []⟩)]⟩
theorem zcd : q2a [] [] 6 (q1p [] [] [] 6 q4r) = q4r := by kernel_rfl
def zmk : St := (.mk [(26, (.v (.tok 6) (.int .i64) [] [])), (0, (.ref 0 [] 0 (.st 26))), (1, (.bx 1 41 (.ref 0 [] 0 (.st 26)))), (2, (.ref 2 [] 0 (.row 29))), (3, (.sn 100003 (.ref 3 [] 0 (.int .i64)))), (24, (.v (.tok 1) (.row 73) [(0, 385)] [])), (25, (.v (.len (.tok 1)) (.int .i64) [] []))] [(0, (.mk (.tok 3) (.st 26) [(0, 1), (1, 2), (2, 3), (3, 4)] [])), (2, (.mk (.tok 4) (.row 29) [(0, 33)] [])), (3, (.mk (.tok 5) (.int .i64) [] []))])
theorem ze1 : q2a [(26, .int .i64, [], [])] [] 6 (q1p [(26, .int .i64, [], [])] [] [] 6 ⟨q4r.t.filter (fun e => !Nat.beq e.1 26), q4r.m⟩) = zmk := by kernel_rfl
def zm9 : Nat → ResD → St → Tree := fun n r σ => match r with
 | .normal => .need [.lt (.tok 2) (.len (.tok 1))] (qn8 [] [] [] q4r n .normal σ)
 | .exit 0 => .need [.not (.lt (.tok 2) (.len (.tok 1)))] (qn8 [] [] [] q4r n .normal σ)
 | _ => .bad 1
def zlz : Tree := (.br (.lt (.tok 2) (.len (.tok 1))) (.need [(.lt (.tok 2) (.len (.tok 1)))] (.leaf [])) (.need [(.not (.lt (.tok 2) (.len (.tok 1))))] (.leaf [])))
theorem zdj : q4q Tryz.prog q56 q75 1 69 wkH 6 q4r zm9 = zlz := by kernel_rfl
def zgd : St := ⟨q4r.t ++ [(6, .ref 6 [] 0 yb)], []⟩
abbrev zfg : List Item := [(0, qi, qv 0 qi, []), (2, zo, [(0, 33)], []), (3, y8, [], []), (6, yb, [], [])]
def zgb : St := ⟨zgd.t, [(0, ⟨.tok 6, qi, qv 0 qi, []⟩), (2, ⟨.tok 7, zo, [(0, 33)], []⟩), (3, ⟨.tok 8, y8, [], []⟩), (6, ⟨.tok 9, yb, [], []⟩)]⟩
theorem zdq : q2a [] zfg 6 (q1p [] zfg [] 6 zgd) = zgb := by kernel_rfl
def zn7 : Tree := (.need [(.le (.lit (.i 0)) (.tok 2)), (.lt (.tok 2) (.len (.tok 1)))] (.leaf [(.tok 3), (.tok 4), (.tok 5), (.get (.tok 1) (.tok 2))]))
theorem zex : q4q Tryz.prog q56 q75 1 69 wkR 6 q4r (toN [] zfg [] zgd) = zn7 := by kernel_rfl
def ql4 : List (Nat × AV) := [(0, .sn 0 (.ref 0 [] 0 qi)), (1, .sn 1 (.bx 1 41 (.ref 0 [] 0 qi))), (2, .sn 2 (.ref 2 [] 0 zo)), (3, .sn 3 (.ref 3 [] 0 y8)), (6, .sn 6 (.ref 6 [] 0 yb)), (24, .sn 24 (.v (.tok 4) q3l [(0, 385)] []))]
def zb2 : List (Nat × Ent) := [(0, ⟨.tok 1, qi, qv 0 qi, []⟩), (2, ⟨.tok 2, zo, [(0, 33)], []⟩), (3, ⟨.tok 3, y8, [], []⟩), (6, ⟨.tok 0, yb, [], []⟩)]
def qyj : St := ⟨ql4, zb2⟩
noncomputable def qib : List Code := [sqL z48, sqL (sqR z48), sqL (sqR (sqR z48))]
noncomputable def z4h : Code := sqR (sqR (sqR z48))
theorem z5u : z48 = seqs qib z4h := by kernel_rfl
def zj7 : List (Nat × AV) := [(0, .sn 0 (.ref 0 [] 0 qi)), (1, .sn 1 (.bx 1 41 (.ref 0 [] 0 qi))), (2, .sn 2 .any), (3, .sn 3 (.ref 3 [] 0 y8)), (6, .sn 6 (.ref 6 [] 0 yb)), (24, .sn 24 (.v (.tok 4) q3l [(0, 385)] []))]
def zd9 : St := ⟨zj7 ++ [(36, .v (.tok 5) .str [] []), (37, .v (.tok 6) qn [] [])], [(0, ⟨.tok 1, qi, qv 0 qi, []⟩), (3, ⟨.tok 3, y8, [], []⟩), (6, ⟨.tok 0, yb, [], []⟩)]⟩
def qz2 : St := ⟨zj7 ++ [(7, .v (.tok 5) .str [] []), (8, .ref 8 [] 0 qn)], [(0, ⟨.tok 1, qi, qv 0 qi, []⟩), (3, ⟨.tok 3, y8, [], []⟩), (6, ⟨.tok 0, yb, [], []⟩), (8, ⟨.tok 6, qn, [], []⟩)]⟩
def zoh : Tree := (.leaf [])
theorem zkc (m0 m1 m2 m3 : Int) : q4q Tryz.prog (qtm m0 m1 m2 m3) q75 1 69 [z9e] 7 zd9 (toN [] [] [] qz2) = zoh := by kernel_rfl
abbrev z3d : List Item := [(0, qi, qv 0 qi, []), (10, qn, [], [])]
def zao : St := ⟨zj7 ++ [(10, .ref 10 [] 0 qn)], [(3, ⟨.tok 3, y8, [], []⟩), (6, ⟨.tok 0, yb, [], []⟩)]⟩
def z2p : St := (.mk [(0, (.sn 0 (.ref 0 [] 0 (.st 26)))), (1, (.sn 1 (.bx 1 41 (.ref 0 [] 0 (.st 26))))), (2, (.sn 2 .any)), (3, (.sn 3 (.ref 3 [] 0 (.int .i64)))), (6, (.sn 6 (.ref 6 [] 0 (.st 72)))), (24, (.sn 24 (.v (.tok 4) (.row 73) [(0, 385)] []))), (10, (.ref 10 [] 0 (.st 28)))] [(0, (.mk (.tok 7) (.st 26) [(0, 1), (1, 2), (2, 3), (3, 4)] [])), (10, (.mk (.tok 8) (.st 28) [] [])), (3, (.mk (.tok 3) (.int .i64) [] [])), (6, (.mk (.tok 0) (.st 72) [] []))])
theorem zg2 : q2a [] z3d 7 (q1p [] z3d [] 7 zao) = z2p := by kernel_rfl
def zii : Tree :=
 let c : X := .tok 1
 let d : X := .lit (.i 0)
 let a : X := .call 6 0 [(.lit (.s ⟨#[97, 116, 116, 114, 95, 104, 111, 111, 107]⟩)), (.row [(.call 4 0 [(.tok 5)]), (.call 5 0 [d]), (.call 5 0 [(.lit (.i 1))])])]
 let b : X := .row [(.mk [d, (.tok 6)]), (.mk [(.lit (.i 1)), (.fld (.tok 0) 2)])]
 (.need [(.ok 4 [(.tok 5)]), (.ok 5 [d]), (.ok 5 [(.lit (.i 1))]), (.ok 6 [(.lit (.s ⟨#[97, 116, 116, 114, 95, 104, 111, 111, 107]⟩)), (.row [(.call 4 0 [(.tok 5)]), (.call 5 0 [d]), (.call 5 0 [(.lit (.i 1))])])])] (.need [(.ok 7 [c, a, b]), (.le (.call 0 0 []) (.len (.fld c 0))), (.le (.call 1 0 []) (.len (.fld c 1))), (.le (.call 2 0 []) (.len (.fld c 2))), (.le (.call 3 0 []) (.len (.fld c 3)))] (.br (.not (.eq (.call 7 2 [c, a, b]) d)) (.bad 15001) (.leaf [(.call 7 3 [c, a, b]), (.call 7 0 [c, a, b])]))))
theorem zjl (m0 m1 m2 m3 : Int) : q4q Tryz.prog (qtm m0 m1 m2 m3) q75 1 69 qib 7 qz2 (toN [] z3d [] zao) = zii := by kernel_rfl
def z3h : St := ⟨ql4 ++ [(7, .v (.tok 5) .str [] []), (8, .ref 8 [] 0 qn)], [(0, ⟨.tok 1, qi, qv 0 qi, []⟩), (2, ⟨.tok 2, zo, [(0, 33)], []⟩), (3, ⟨.tok 3, y8, [], []⟩), (6, ⟨.tok 0, yb, [], []⟩), (8, ⟨.tok 6, qn, [], []⟩)]⟩
abbrev zbg : List Item := [(0, qi, qv 0 qi, []), (2, zo, [(0, 33)], []), (3, y8, [], [])]
def ziw : St := ⟨ql4, []⟩
def zjn : St := (.mk [(0, (.sn 0 (.ref 0 [] 0 (.st 26)))), (1, (.sn 1 (.bx 1 41 (.ref 0 [] 0 (.st 26))))), (2, (.sn 2 (.ref 2 [] 0 (.row 29)))), (3, (.sn 3 (.ref 3 [] 0 (.int .i64)))), (6, (.sn 6 (.ref 6 [] 0 (.st 72)))), (24, (.sn 24 (.v (.tok 4) (.row 73) [(0, 385)] [])))] [(0, (.mk (.tok 7) (.st 26) [(0, 1), (1, 2), (2, 3), (3, 4)] [])), (2, (.mk (.tok 8) (.row 29) [(0, 33)] [])), (3, (.mk (.tok 9) (.int .i64) [] []))])
theorem zf7 : q2a [] zbg 7 (q1p [] zbg [] 7 ziw) = zjn := by kernel_rfl
def zjd : Nat → ResD → St → Tree := fun n r σ => match r with
 | .ret => qn8 [] zbg [] ziw n .normal σ
 | _ => .bad 1
def zk5 : Tree :=
 let c : X := .tok 1
 let d : X := .lit (.i 0)
 let a : X := .call 6 0 [(.lit (.s ⟨#[97, 116, 116, 114, 95, 104, 111, 111, 107]⟩)), (.row [(.call 4 0 [(.tok 5)]), (.call 5 0 [d]), (.call 5 0 [(.lit (.i 1))])])]
 let b : X := .row [(.mk [d, (.tok 6)]), (.mk [(.lit (.i 1)), (.fld (.tok 0) 2)])]
 (.need [(.ok 4 [(.tok 5)]), (.ok 5 [d]), (.ok 5 [(.lit (.i 1))]), (.ok 6 [(.lit (.s ⟨#[97, 116, 116, 114, 95, 104, 111, 111, 107]⟩)), (.row [(.call 4 0 [(.tok 5)]), (.call 5 0 [d]), (.call 5 0 [(.lit (.i 1))])])])] (.need [(.ok 7 [c, a, b]), (.le (.call 0 0 []) (.len (.fld c 0))), (.le (.call 1 0 []) (.len (.fld c 1))), (.le (.call 2 0 []) (.len (.fld c 2))), (.le (.call 3 0 []) (.len (.fld c 3)))] (.br (.not (.eq (.call 7 2 [c, a, b]) d)) (.leaf [(.call 7 3 [c, a, b]), (.lit (.r [])), (.call 7 2 [c, a, b])]) (.bad 1))))
theorem zkd (m0 m1 m2 m3 : Int) : q4q Tryz.prog (qtm m0 m1 m2 m3) q75 1 69 qib 7 z3h zjd = zk5 := by kernel_rfl
def qr3 : List (Nat × AV) := [(0, .sn 0 .any), (1, .sn 1 .any), (2, .sn 2 (.ref 2 [] 0 zo)), (3, .sn 3 .any), (6, .sn 6 .any), (24, .sn 24 .any)]
def z0q : St := ⟨qr3 ++ [(10, .ref 10 [] 0 qn)], [(2, ⟨.tok 0, zo, [(0, 33)], []⟩), (10, ⟨.tok 1, qn, [], []⟩)]⟩
abbrev z2c : List Item := [(2, zo, [(0, 33)], [])]
def zez : St := (.mk [(0, (.sn 0 .any)), (1, (.sn 1 .any)), (2, (.sn 2 (.ref 2 [] 0 (.row 29)))), (3, (.sn 3 .any)), (6, (.sn 6 .any)), (24, (.sn 24 .any))] [(2, (.mk (.tok 2) (.row 29) [(0, 33)] []))])
theorem zgn : q2a [] z2c 2 (q1p [] z2c [] 2 ⟨qr3, []⟩) = zez := by kernel_rfl
def zhb : Tree := (.need [(.le (.add (.len (.tok 0)) (.lit (.i 1))) (.lit (.i 8796093021952)))] (.leaf [(.app (.tok 0) (.row [(.tok 1)]))]))
theorem z8h : q4q Tryz.prog [] q75 1 69 [z4h] 2 z0q (toN [] z2c [] ⟨qr3, []⟩) = zhb := by kernel_rfl
def zm0 : Tree := (.need [(.rng .i64 (.add (.tok 2) (.lit (.i 1))))] (.leaf [(.add (.tok 2) (.lit (.i 1)))]))
theorem zfk : q4q Tryz.prog q56 q75 1 69 wkN 6 q4r (toN [(26, .int .i64, [], [])] [] [] ⟨q4r.t.filter (fun e => !Nat.beq e.1 26), q4r.m⟩) = zm0 := by kernel_rfl
def zn3 : Tree := (.need [(.ok 2 [(.lit (.i 0)), (.set (.tok 3) 3 (.lit (.r []))), (.tok 0)])] (.leaf [(.tok 4), (.lit (.i 0)), (.call 2 0 [(.lit (.i 0)), (.set (.tok 3) 3 (.lit (.r []))), (.tok 0)])]))
theorem ze2 : toT Tryz.prog q56 q75 1 69 wkZ [] 6 q4r (qf0 yk Tryz.f23 2 0 3 (.tok 0)) = zn3 := by kernel_rfl
def wkE : St := ⟨[(0, .ref 0 [] 0 qi), (1, .bx 1 41 (.ref 0 [] 0 qi)), (2, .ref 2 [] 0 zo), (3, .sn (VB + 3) (.ref 3 [] 0 y8))], [(0, ⟨.tok 1, qi, qv 0 qi, []⟩), (2, ⟨.tok 2, zo, [(0, 33)], []⟩), (3, ⟨.tok 3, y8, [], []⟩)]⟩
def zn9 : Tree := (.need [(.ok 2 [(.tok 3), (.tok 1), (.tok 0)])] (.leaf [(.tok 2), (.tok 3), (.call 2 0 [(.tok 3), (.tok 1), (.tok 0)])]))
theorem zfn : qf0 yk Tryz.f23 2 0 3 (.tok 0) 4 .ret wkE = zn9 := by kernel_rfl
end
def z06 : ByteArray := ⟨#[97, 116, 116, 114, 95, 104, 111, 111, 107]⟩
def z9g (nm : ByteArray) : Te := ql8 z06 [qbm nm, vaT 0, vaT 1]
def zhv (x wv : Ce) : List Vc := [⟨0, x⟩, ⟨1, wv⟩]
def zt (wv : Ce) (s : So) (x : At) : Ce × List Vc × Int × So := z03 s (z9g x.name) (zhv x.val wv)
def jj (wv : Ce) : So → List Ce → List At → So × List Ce × Int
 | s, o, [] => (s, o, 0)
 | s, o, x :: l => if (zt wv s x).2.2.1 = 0 then jj wv (zt wv s x).2.2.2 (o ++ [(zt wv s x).1]) l else ((zt wv s x).2.2.2, [], (zt wv s x).2.2.1)
def qba (wv : Ce) : So → List At → Bool
 | s, [] => true
 | s, x :: l => y9 s && (decide (¬ (zt wv s x).2.2.1 = 0) || qba wv (zt wv s x).2.2.2 l)
def q3w : So → List Ce → List Wk → So × List Ce × Int
 | s, o, [] => (s, o, 0)
 | s, o, w :: l => if (jj w.val s o (yf s w.att)).2.2 = 0 then q3w (jj w.val s o (yf s w.att)).1 (jj w.val s o (yf s w.att)).2.1 l else jj w.val s o (yf s w.att)
def qwg : So → List Ce → List Wk → Bool
 | s, o, [] => true
 | s, o, w :: l => qba w.val s (yf s w.att) && (decide (¬ (jj w.val s o (yf s w.att)).2.2 = 0) || qwg (jj w.val s o (yf s w.att)).1 (jj w.val s o (yf s w.att)).2.1 l)
def qzf (s r : So) : So := { r with cs := r.cs.take s.cs.length, ys := r.ys.take s.ys.length, tr := r.tr.take s.tr.length, ser := s.ser }
def z63 (s : So) : List Ce × Int × So := if (q3w s [] s.wk).2.2 = 0 then ((q3w s [] s.wk).2.1, 0, { (q3w s [] s.wk).1 with wk := [] }) else ([], (q3w s [] s.wk).2.2, qzf s (q3w s [] s.wk).1)
def zky : List D → Option (List D)
 | [s] => if (dS s).wk.length ≤ 1 ∧ (dS s).cs.length ≤ 1000000 ∧ qwg (dS s) [] (dS s).wk = true then some [.r ((z63 (dS s)).1.map eC), .i (z63 (dS s)).2.1, eS (z63 (dS s)).2.2] else none
 | _ => none
def qaq (s s' : So) : Prop := s.cs.length ≤ s'.cs.length ∧ s.ys.length ≤ s'.ys.length ∧ Rst s s'
theorem qaq.refl (s : So) : qaq s s := ⟨Nat.le_refl _, Nat.le_refl _, Rst.refl s⟩
theorem qaq.trans {a b c : So} (h : qaq a b) (k : qaq b c) : qaq a c := ⟨Nat.le_trans h.1 k.1, Nat.le_trans h.2.1 k.2.1, h.2.2.trans k.2.2⟩
theorem z1u {s : So} {t : Te} {l : List Vc} (hv : y9 s = true) : qaq s (z03 s t l).2.2.2 := by
 unfold z03
 split
 ·rename_i h
  split
  ·rename_i hr
   simp only [gnB] at h
   have hq := z11 hv h.1 h.2 hr
   simp only [z1s, gnB, gnD] at hq
   obtain ⟨h1, h2, h3, h4⟩ := qse t (s, l) (-1) hq.1 hq.2.1
   refine ⟨by rw [h1]; exact Nat.le_add_right _ _, ?_, h3⟩
   rw [h2]
   exact qiv _ _
  ·exact qaq.refl s
 ·exact qaq.refl s
theorem qg7 (wv : Ce) : ∀ (l : List At) (s : So) (o : List Ce), qba wv s l = true → qaq s (jj wv s o l).1
 | [], s, o, _ => qaq.refl s
 | x :: l, s, o, h => by
  unfold qba at h
  simp only [gnB, Bool.or_eq_true, gnD] at h
  have h1 : qaq s (zt wv s x).2.2.2 := z1u h.1
  unfold jj
  split
  ·rename_i h0
   rcases h.2 with h2 | h2
   ·exact absurd h0 h2
   ·exact h1.trans (qg7 wv l _ _ h2)
  ·exact h1
variable {b pin : Nat} {d : D} {E T : TypeId} {te : Ty} {cs : List Value} {cur : Array Value} {v : Value} {dep : List Nat}
section
open Go.RowKit Go.Shelf
section
variable {A : Nat → Prop} {p : qm} {w W : World} {dep : List Nat}
theorem qny (hte : qo E = some te) (h : Fl A p w dep (some pin) d (.row E) cs) : ∃ l v, d = .r l ∧ cs = [v] ∧ q21 A p w dep pin E te l v := by
 rcases h with ⟨E', te', l, v, e, hte', rfl, rfl, hv⟩ | ⟨K, V, kt, vt, l, g, es, clock, e, -⟩
 ·injection e with e
  subst e
  obtain rfl := gnI (hte.symm.trans hte')
  exact ⟨l, v, rfl, rfl, hv⟩
 ·cases e
theorem za9 : qo 29 = some qn ∧ qo 87 = some jb ∧ qo 71 = some q1q ∧ qo 73 = some yb := ⟨by kernel_rfl, by kernel_rfl, by kernel_rfl, by kernel_rfl⟩
theorem z39 {s : So} (h : Con A p w (eS s) qi (qv 0 qi) dep cs) : ∃ v0 v1 v2 v3, cs = [v0, v1, v2, v3, .int .i64 s.ser, .int .i64 s.mx] ∧ q21 A p w dep 1 29 qn (s.cs.map eC) v0 ∧ q21 A p w dep 2 87 jb (s.ys.map eY) v1 ∧ q21 A p w dep 3 71 q1q (s.tr.map eU) v2 ∧ q21 A p w dep 4 73 yb (s.wk.map eW) v3 ∧ yz .i64 s.ser = true ∧ yz .i64 s.mx = true := by
 have h : Con A p w (eS s) (.st qpu) (qv 0 qi) dep cs := h
 obtain ⟨fs, ds, hf, he, hl⟩ := h
 rw [qoc] at hf
 injection hf with hf
 subst hf
 obtain ⟨d0, ds, c0, cs, rfl, rfl, h0, hl⟩ := q44 hl
 obtain ⟨d1, ds, c1, cs, rfl, rfl, h1, hl⟩ := q44 hl
 obtain ⟨d2, ds, c2, cs, rfl, rfl, h2, hl⟩ := q44 hl
 obtain ⟨d3, ds, c3, cs, rfl, rfl, h3, hl⟩ := q44 hl
 obtain ⟨d4, ds, c4, cs, rfl, rfl, h4, hl⟩ := q44 hl
 obtain ⟨d5, ds, c5, cs, rfl, rfl, h5, hl⟩ := q44 hl
 obtain ⟨rfl, rfl⟩ := zcs hl
 obtain ⟨t1, t2, t3, t4⟩ := za9
 have h0 : Fl A p w dep (some 1) d0 (.row 29) c0 := h0
 have h1 : Fl A p w dep (some 2) d1 (.row 87) c1 := h1
 have h2 : Fl A p w dep (some 3) d2 (.row 71) c2 := h2
 have h3 : Fl A p w dep (some 4) d3 (.row 73) c3 := h3
 obtain ⟨l0, v0, rfl, rfl, q0⟩ := qny t1 h0
 obtain ⟨l1, v1, rfl, rfl, q1⟩ := qny t2 h1
 obtain ⟨l2, v2, rfl, rfl, q2⟩ := qny t3 h2
 obtain ⟨l3, v3, rfl, rfl, q3⟩ := qny t4 h3
 obtain ⟨x4, rfl, rfl, q4, -⟩ := qz5 h4
 obtain ⟨x5, rfl, rfl, q5, -⟩ := qz5 h5
 simp only [eS, D.a.injEq, List.cons.injEq, D.r.injEq, D.i.injEq, and_true] at he
 obtain ⟨rfl, rfl, rfl, rfl, rfl, rfl⟩ := he
 exact ⟨v0, v1, v2, v3, rfl, q0, q1, q2, q3, q4, q5⟩
theorem qaw {i : Nat} (h : w.heap[b]? = some (.cells cur T (0, 0))) : w.cell? ⟨b, i, none⟩ = cur[i]? := by
 unfold World.cell?
 simp [h]
theorem q21.stay {P : Nat → Prop} {l : List D} (h : q21 A p w dep pin E te l v) (hte : qo E = some te) (hf : zl 8 te = true)
  (hk : ∀ g cur, p pin = some g → w.heap[g]? = some (.cells cur E (0, 0)) → 0 < l.length → P g ∧ ∃ cur', W.heap[g]? = some (.cells cur' E (0, 0)) ∧ ∀ j, j < l.length * te.w → cur'[j]? = cur[j]?) : Rd W P (.r l) (.row E) [v] := by
 rcases h with ⟨rfl, rfl⟩ | ⟨g, cap, cur, rfl, hg, hh, h1, h2, h3, h4, h5⟩
 ·exact ⟨E, te, none, 0, rfl, hte, rfl, by simp, by simp, by simp [maxLen], by simp [RdE]⟩
 ·refine ⟨E, te, some ⟨g, 0, none⟩, cap, rfl, hte, rfl, h1, h4, h2, q0n.2 fun j hj => ?_⟩
  obtain ⟨cs, hr, hx⟩ := h5 j hj
  obtain ⟨hP, cur', hw', hc⟩ := hk g cur hg hh (by omega)
  refine ⟨g, 0, cs, rfl, hP, fun i v hv => ?_, Rd.flat 8 _ hf hx⟩
  have hlen : cs.length = te.w := (Rd.len _ hx).1
  have hi : i < cs.length := (gnH.1 hv).1
  have h6 := hr i v hv
  rw [qaw hw']
  rw [qaw hh] at h6
  have h7 : j * te.w + te.w ≤ l.length * te.w := by
   rw [← Nat.succ_mul]
   exact Nat.mul_le_mul_right _ hj
  simp only [Nat.zero_add] at h6 ⊢
  rw [hc _ (by omega)]
  exact h6
end
def q17 (p : qm) (s : So) (fr : Nat → Prop) : Flr where
 fl := fun b => if p 1 = some b then s.cs.length * qn.w else if p 2 = some b then s.ys.length * jb.w else if p 3 = some b then s.tr.length * q1q.w else if p 4 = some b then s.wk.length * yb.w else 0
 mx := fun te => if Ty.beq te qn then s.cs.length else if Ty.beq te jb then s.ys.length else if Ty.beq te q1q then s.tr.length else if Ty.beq te yb then s.wk.length else 0
 fr := fr
theorem zol (p : qm) (s : So) (fr : Nat → Prop) : (q17 p s fr).mx qn = s.cs.length := by
 have e : Ty.beq qn qn = true := by kernel_rfl
 simp only [q17, e, if_true]
theorem zno (p : qm) (s : So) (fr : Nat → Prop) : (q17 p s fr).mx jb = s.ys.length := by
 have e1 : Ty.beq jb qn = false := by kernel_rfl
 have e : Ty.beq jb jb = true := by kernel_rfl
 simp only [q17, e, e1, if_true, gnF, if_false]
theorem znn (p : qm) (s : So) (fr : Nat → Prop) : (q17 p s fr).mx q1q = s.tr.length := by
 have e1 : Ty.beq q1q qn = false := by kernel_rfl
 have e2 : Ty.beq q1q jb = false := by kernel_rfl
 have e : Ty.beq q1q q1q = true := by kernel_rfl
 simp only [q17, e, e1, e2, if_true, gnF, if_false]
theorem znw (p : qm) (s : So) (fr : Nat → Prop) : (q17 p s fr).mx yb = s.wk.length := by
 have e1 : Ty.beq yb qn = false := by kernel_rfl
 have e2 : Ty.beq yb jb = false := by kernel_rfl
 have e3 : Ty.beq yb q1q = false := by kernel_rfl
 have e : Ty.beq yb yb = true := by kernel_rfl
 simp only [q17, e, e1, e2, e3, if_true, gnF, if_false]
theorem zmt (m0 m1 m2 m3 : Nat) : flM (qtm m0 m1 m2 m3) qn = m0 ∧ flM (qtm m0 m1 m2 m3) jb = m1 ∧ flM (qtm m0 m1 m2 m3) q1q = m2 ∧ flM (qtm m0 m1 m2 m3) yb = m3 :=
 ⟨by show Int.toNat (m0 : Int) = _; exact Int.toNat_natCast _, by show Int.toNat (m1 : Int) = _; exact Int.toNat_natCast _, by show Int.toNat (m2 : Int) = _; exact Int.toNat_natCast _, by show Int.toNat (m3 : Int) = _; exact Int.toNat_natCast _⟩
theorem zn6 (p : qm) (s : So) (fr : Nat → Prop) (te : Ty) : (q17 p s fr).mx te ≤ flM (qtm s.cs.length s.ys.length s.tr.length s.wk.length) te := by
 obtain ⟨h1, h2, h3, h4⟩ := zmt s.cs.length s.ys.length s.tr.length s.wk.length
 unfold q17
 simp only
 split
 ·rename_i e
  rw [(Ty.beq_iff _ _).1 e, h1]
  exact Nat.le_refl _
 ·split
  ·rename_i e
   rw [(Ty.beq_iff _ _).1 e, h2]
   exact Nat.le_refl _
  ·split
   ·rename_i e
    rw [(Ty.beq_iff _ _).1 e, h3]
    exact Nat.le_refl _
   ·split
    ·rename_i e
     rw [(Ty.beq_iff _ _).1 e, h4]
     exact Nat.le_refl _
    ·exact Nat.zero_le _
section
variable {A : Nat → Prop} {p : qm} {w W : World} {s : So} {v0 v1 v2 v3 : Value} {fr : Nat → Prop}
theorem z0v (hinj : ∀ x y b, p x = some b → p y = some b → x = y) : (p 1 = some b → (q17 p s fr).fl b = s.cs.length * qn.w) ∧ (p 2 = some b → (q17 p s fr).fl b = s.ys.length * jb.w) ∧ (p 3 = some b → (q17 p s fr).fl b = s.tr.length * q1q.w) ∧ (p 4 = some b → (q17 p s fr).fl b = s.wk.length * yb.w) := by
 have ne : ∀ x y, x ≠ y → p y = some b → ¬ p x = some b := fun x y h hy hx => h (hinj x y b hx hy)
 refine ⟨fun h => ?_, fun h => ?_, fun h => ?_, fun h => ?_⟩
 ·simp only [q17, if_pos h]
 ·simp only [q17, if_neg (ne 1 2 (by decide) h), if_pos h]
 ·simp only [q17, if_neg (ne 1 3 (by decide) h), if_neg (ne 2 3 (by decide) h), if_pos h]
 ·simp only [q17, if_neg (ne 1 4 (by decide) h), if_neg (ne 2 4 (by decide) h), if_neg (ne 3 4 (by decide) h), if_pos h]
theorem qza {F : Flr} {k : Nat} {l : List D} (h : q21 A p w dep pin E te l v) (hte : qo E = some te) (hp : p pin = some k) (h0 : 0 < F.fl k) (hfl : F.fl k = l.length * te.w) (hmx : F.mx te = l.length) (hT : 2 ≤ l.length ∨ nvB te = true) : ∃ cs cs' T te, k < w.heap.size ∧ w.heap[k]? = some (.cells cs T (0, 0)) ∧ qo T = some te ∧ F.fl k ≤ F.mx te * te.w ∧ FlT te cs.size ∧ w.heap[k]? = some (.cells cs' T (0, 0)) ∧ cs'.size = cs.size ∧ ∀ j, j < F.fl k → cs'[j]? = cs[j]? := by
 have hl : 0 < l.length := by
  rcases Nat.eq_zero_or_pos l.length with e | e
  ·rw [hfl, e, Nat.zero_mul] at h0
   omega
  ·exact e
 rcases h with ⟨rfl, rfl⟩ | ⟨g, cap, cur, rfl, hg, hh, h1, h2, h3, h4, h5⟩
 ·simp at hl
 ·rw [hp] at hg
  injection hg with hg
  subst hg
  have hpos := q26 hte
  refine ⟨cur, cur, E, te, qu hh, hh, hte, by rw [hfl, hmx]; exact Nat.le_refl _, ?_, hh, rfl, fun _ _ => rfl⟩
  unfold FlT
  rw [h3]
  rcases hT with hT | hT
  ·left
   have : 2 * te.w ≤ cap * te.w := Nat.mul_le_mul_right _ (by omega)
   omega
  ·right
   refine ⟨hT, ?_⟩
   have : 1 * te.w ≤ cap * te.w := Nat.mul_le_mul_right _ (by omega)
   omega
theorem zk9 (hinj : ∀ x y b, p x = some b → p y = some b → x = y) (h0 : q21 A p w [] 1 29 qn (s.cs.map eC) v0) (h1 : q21 A p w [] 2 87 jb (s.ys.map eY) v1) (h2 : q21 A p w [] 3 71 q1q (s.tr.map eU) v2) (h3 : q21 A p w [] 4 73 yb (s.wk.map eW) v3) (hc : 2 ≤ s.cs.length) (hy : 2 ≤ s.ys.length) : Flo (q17 p s fr) w w := fun k hk => by
 obtain ⟨t1, t2, t3, t4⟩ := za9
 obtain ⟨f1, f2, f3, f4⟩ := z0v (s := s) (fr := fr) hinj (b := k)
 have hkk := hk
 unfold q17 at hkk
 simp only at hkk
 split at hkk
 ·rename_i e
  exact qza h0 t1 e hk (by rw [f1 e, List.length_map]) (by rw [zol, List.length_map]) (.inl (by rw [List.length_map]; exact hc))
 ·split at hkk
  ·rename_i e
   exact qza h1 t2 e hk (by rw [f2 e, List.length_map]) (by rw [zno, List.length_map]) (.inl (by rw [List.length_map]; exact hy))
  ·split at hkk
   ·rename_i e
    exact qza h2 t3 e hk (by rw [f3 e, List.length_map]) (by rw [znn, List.length_map]) (.inr (by kernel_rfl))
   ·split at hkk
    ·rename_i e
     exact qza h3 t4 e hk (by rw [f4 e, List.length_map]) (by rw [znw, List.length_map]) (.inr (by kernel_rfl))
    ·omega
theorem zmc (hinj : ∀ x y b, p x = some b → p y = some b → x = y) (h0 : q21 A p w [] 1 29 qn (s.cs.map eC) v0) (h1 : q21 A p w [] 2 87 jb (s.ys.map eY) v1) (h2 : q21 A p w [] 3 71 q1q (s.tr.map eU) v2) (h3 : q21 A p w [] 4 73 yb (s.wk.map eW) v3)
  (r1 : yz .i64 s.ser = true) (r2 : yz .i64 s.mx = true) {w1 : World} (hs : ∀ x b, p x = some b → w1.heap[b]? = w.heap[b]?) (hF : Flo (q17 p s fr) w1 W) : Rd W (pinned p) (eS s) qi [v0, v1, v2, v3, .int .i64 s.ser, .int .i64 s.mx] := by
 obtain ⟨t1, t2, t3, t4⟩ := za9
 have key : ∀ {pin : Nat} {E : TypeId} {te : Ty} {l : List D} {v : Value}, q21 A p w [] pin E te l v → qo E = some te → zl 8 te = true → (∀ b, p pin = some b → (q17 p s fr).fl b = l.length * te.w) → Rd W (pinned p) (.r l) (.row E) [v] := fun {pin E te l v} h hte hf hfl => by
  refine h.stay hte hf fun g cur hg hh hl => ⟨⟨pin, hg⟩, ?_⟩
  have hpos := q26 hte
  have hfg := hfl g hg
  have h0 : 0 < (q17 p s fr).fl g := by
   rw [hfg]
   exact Nat.mul_pos hl hpos
  obtain ⟨cs, cs', T, te', -, e1, -, -, -, e2, -, e3⟩ := hF g h0
  rw [hs _ _ hg, hh] at e1
  injection e1 with e1
  injection e1 with e1 e1'
  subst e1 e1'
  refine ⟨cs', e2, fun j hj => e3 j ?_⟩
  rw [hfg]
  exact hj
 have q0 := key h0 t1 (by kernel_rfl) fun b hb => by rw [(z0v (fr := fr) hinj).1 hb, List.length_map]
 have q1 := key h1 t2 (by kernel_rfl) fun b hb => by rw [(z0v (fr := fr) hinj).2.1 hb, List.length_map]
 have q2 := key h2 t3 (by kernel_rfl) fun b hb => by rw [(z0v (fr := fr) hinj).2.2.1 hb, List.length_map]
 have q3 := key h3 t4 (by kernel_rfl) fun b hb => by rw [(z0v (fr := fr) hinj).2.2.2 hb, List.length_map]
 exact ⟨qpu, _, rfl, qoc, _, _, [v0], _, rfl, rfl, q0, _, _, [v1], _, rfl, rfl, q1, _, _, [v2], _, rfl, rfl, q2, _, _, [v3], _, rfl, rfl, q3, _, _, [_], _, rfl, rfl, ⟨.i64, rfl, rfl, r1⟩, _, _, [_], _, rfl, rfl, ⟨.i64, rfl, rfl, r2⟩, rfl, rfl⟩
end
theorem ze0 {s : So} {c : Ce} (h : 0 < (yf s c).length) : 2 ≤ s.cs.length ∧ 2 ≤ s.ys.length := by
 have hn : q42 s c ≠ none := fun e => by
  unfold yf at h
  rw [qlg e] at h
  simp at h
 unfold q42 at hn
 split at hn
 ·rename_i h1
  split at hn
  ·rename_i h2
   obtain ⟨-, a2, a3, -, a4, a5, a6⟩ := q28.1 h1
   obtain ⟨-, -, -, -, b4, b5, b6⟩ := q28.1 h2
   have := z5.1 a2
   have := z5.1 a3
   refine ⟨by omega, ?_⟩
   rcases Nat.lt_or_ge s.ys.length 2 with hlt | hge
   ·exfalso
    have e1 : (cellAt s (q1o s c).n).n.toNat = 0 := by omega
    have e2 : (cellAt s (q1o s (cellAt s ((q1o s c).n + 1))).n).n.toNat = 0 := by omega
    rw [e1] at a6
    rw [e2, a6] at b6
    simp at b6
   ·exact hge
  ·exact absurd rfl hn
 ·exact absurd rfl hn
end
variable {t : Ty} {c : Cx} {p : qm} {A A' : Nat → Prop} {σ : St} {a : Act} {q : Nat → Bool}
section
section
variable {A A' : Nat → Prop} {p : qm} {w : World}
theorem FFD.chP (hA : ∀ b, b < w.heap.size → A b → q5j p b → A' b) (hb : b < w.heap.size) (h : FFD A p dep b) : FFD A' p dep b := h.imp (fun h => ⟨hA b hb h.1 h.2, h.2⟩) id
theorem Rd.chP (hA : ∀ b, b < w.heap.size → A b → q5j p b → A' b) (h : Rd w (FFD A p dep) d t cs) : Rd w (FFD A' p dep) d t cs := Rd.mono (fun b hb hf => hf.chP hA hb) h
theorem Fl.chP (hA : ∀ b, b < w.heap.size → A b → q5j p b → A' b) {o : Option Nat} (h : Fl A p w dep o d t cs) : Fl A' p w dep o d t cs := by
 cases o with
 | none => exact Rd.chP hA h
 | some pin =>
  rcases h with ⟨E, te, l, v, e1, hte, e2, e3, hv⟩ | h
  ·refine .inl ⟨E, te, l, v, e1, hte, e2, e3, ?_⟩
   rcases hv with hv | ⟨g, cap, cur, e4, hg, hh, q1, q2, q3, q4, q5⟩
   ·exact .inl hv
   ·refine .inr ⟨g, cap, cur, e4, hg, hh, q1, q2, q3, q4, fun i hi => ?_⟩
    obtain ⟨vs, hr1, hd⟩ := q5 i hi
    exact ⟨vs, hr1, Rd.chP hA hd⟩
  ·exact .inr h
theorem Fls.chP (hA : ∀ b, b < w.heap.size → A b → q5j p b → A' b) {own : List (Nat × Nat)} : ∀ {ds : List D} {j : Nat} {fs : List Ty} {cs : List Value}, Fls A p w dep own j ds fs cs → Fls A' p w dep own j ds fs cs
 | [], _, _, _, h => h
 | d :: ds, j, fs, cs, ⟨t, ts, c1, c2, e1, e2, h1, h2⟩ => ⟨t, ts, c1, c2, e1, e2, Fl.chP hA h1, Fls.chP hA h2⟩
theorem Con.chP (hA : ∀ b, b < w.heap.size → A b → q5j p b → A' b) {own : List (Nat × Nat)} (h : Con A p w d t own dep cs) : Con A' p w d t own dep cs := by
 unfold Con at h ⊢
 split
 ·obtain ⟨fs, ds, hf, e, h⟩ := h
  exact ⟨fs, ds, hf, e, Fls.chP hA h⟩
 ·rename_i hne
  split at h
  ·rename_i T; exact absurd rfl (hne T)
  ·exact Fl.chP hA h
end
mutual
theorem AV.chP {w : World} (hA : ∀ b, b < w.heap.size → c.A b → q5j p b → A' b) : ∀ (x : AV) (v : Value), x.pd c p w v → x.pd { c with A := A' } p w v
 | .any, v, h => h
 | .undef, v, h => h
 | .nilS, v, h => h
 | .nb x neg, v, h => h
 | .nilP, v, h => h
 | .ref k q o t, v, h => h
 | .v x t own dep, v, ⟨cs, hp, hc⟩ => ⟨cs, hp, hc.chP hA⟩
 | .rd x t dep wr, v, ⟨b, o, cs, e, hf, hr, h0, hd, hw⟩ => by
  refine ⟨b, o, cs, e, hf.chP hA (qbb hr h0), hr, h0, Rd.chP hA hd, ?_⟩
  match wr, hw with
  | none, _ => trivial
  | some (pin, i, pt, q, te), hw => exact hw
 | .tup l, v, ⟨vs, e, h⟩ => ⟨vs, e, qyk hA l vs h⟩
 | .gd cs a, v, h => ⟨fun hc => AV.chP hA a v (h.1 hc), h.2⟩
 | .fn f l, v, ⟨vs, e, h⟩ => ⟨vs, e, qyk hA l vs h⟩
 | .bx k T a, v, ⟨g, u, hg, e, hh, h⟩ => ⟨g, u, hg, e, hh, AV.chP hA a u h⟩
 | .ax k T n a, v, ⟨g, u, hg, e, hh, hn, h⟩ => ⟨g, u, hg, e, hh, hn, AV.chP hA a (.agg u) h⟩
 | .sn t a, v, ⟨e, h⟩ => ⟨e, AV.chP hA a v h⟩
 | .lv k t, v, h => h
 | .ar E xs dep, v, ⟨te, cs, e1, e2, h3, h⟩ => ⟨te, cs, e1, e2, h3, fun j d hj => Rd.chP hA (h j d hj)⟩
 | .pt pin i E a, v, ⟨h1, h⟩ => ⟨h1, AV.chP hA a v h⟩
 | .fr T a, v, ⟨g, u, ha, hf, e, hh, h⟩ => ⟨g, u, hA g (qu hh) ha hf, hf, e, hh, AV.chP hA a u h⟩
 | .ff f T1 x1 t1 T2 x2 t2 dep, v, ⟨g, cs1, cs2, e, ha, hb, hfr, hg, hg2, r1, r2⟩ => ⟨g, cs1, cs2, e, ⟨hA g (qu hg) ha.1 ha.2, ha.2⟩, ⟨hA (g + 1) (qu hg2) hb.1 hb.2, hb.2⟩, hfr, hg, hg2, Rd.mono (fun b hb h => ⟨h.1.imp (fun y => ⟨hA b hb y.1 y.2, y.2⟩) id, h.2⟩) r1, Rd.mono (fun b hb h => ⟨h.1.imp (fun y => ⟨hA b hb y.1 y.2, y.2⟩) id, h.2⟩) r2⟩
theorem qyk {w : World} (hA : ∀ b, b < w.heap.size → c.A b → q5j p b → A' b) : ∀ (l : List AV) (vs : List Value), pds c p w l vs → pds { c with A := A' } p w l vs
 | [], vs, h => h
 | a :: l, vs, ⟨v, r, e, ha, hl⟩ => ⟨v, r, e, AV.chP hA a v ha, qyk hA l r hl⟩
end
theorem SF.chP {w : World} (hA : ∀ b, b < w.heap.size → c.A b → q5j p b → A' b) (h : SF c σ p w a) : SF { c with A := A' } σ p w a := by
 refine ⟨fun t x hx => ?_, fun k e he => ?_⟩
 ·obtain ⟨v, h1, h2⟩ := h.t t x hx
  exact ⟨v, h1, AV.chP hA x v h2⟩
 ·obtain ⟨g, cs, T, hg, hh, hty, hc⟩ := h.m k e he
  exact ⟨g, cs, T, hg, hh, hty, hc.chP hA⟩
def z43 (q : Nat → Bool) (l : List (Nat × AV)) : Bool := l.all fun e => e.2.pins.all (fun x => !q x) && e.2.keys.all (fun x => !q x)
def z4b (q : Nat → Bool) (l : List (Nat × Ent)) : Bool := l.all fun e => !q (e.1 * 16) && e.2.pins.all (fun x => !q x)
theorem qvc {l : List (Nat × AV)} (h : z43 q l = true) {t : Nat} {x : AV} (hx : lkA l t = some x) : (∀ y ∈ x.pins, q y = false) ∧ ∀ y ∈ x.keys, q y = false := by
 have := List.all_eq_true.1 h _ (qx hx)
 simp only [gnB, List.all_eq_true, Bool.not_eq_true'] at this
 exact this
theorem qw0 {l : List (Nat × Ent)} (h : z4b q l = true) {k : Nat} {e : Ent} (hx : lkA l k = some e) : q (k * 16) = false ∧ ∀ y ∈ e.pins, q y = false := by
 have := List.all_eq_true.1 h _ (qx hx)
 simp only [gnB, List.all_eq_true, Bool.not_eq_true'] at this
 exact this
def qaj (A : Nat → Prop) (q : Nat → Bool) (p : qm) (b : Nat) : Prop := A b ∧ ∀ x, q x = true → p x ≠ some b
def q6x (q : Nat → Bool) (p p' : qm) : qm := fun x => if q x then p x else p' x
section
variable {c : Cx} {F F' : Flr} {p p' : qm} {w0 w w' : World} {S0 : Nat → Prop} {q : Nat → Bool} {σ : St} {a a' : Act}
theorem q4s {x : Nat} (h : unP q p x = some b) : q x = false ∧ p x = some b := by
 unfold unP at h
 split at h
 ·cases h
 ·rename_i hq
  exact ⟨by simpa using hq, h⟩
theorem zfb {x : Nat} (hq : q x = false) (h : p x = some b) : unP q p x = some b := by
 unfold unP
 rw [hq]
 exact h
theorem qoy (h : Bs A F w0 S0 p w) (hflo : Flo F' w w) (hfr : ∀ b, F.fr b → F'.fr b) : Bs (qaj A q p) F' w (pinned (unP q p)) (unP q p) w :=
 ⟨fun x y b hx hy => h.inj x y b (q4s hx).2 (q4s hy).2, fun x b hx => h.bd x b (q4s hx).2, But.refl _ _, fun x b hx => .inl ⟨x, hx⟩, fun b hb => by
  have := h.but.size
  refine ⟨⟨(h.new b (by omega)).1, fun x _ hx => ?_⟩, hfr b (h.new b (by omega)).2⟩
  have := h.bd x b hx
  omega, fun x b hx => ⟨h.pa x b (q4s hx).2, fun y hy hyb => by
   obtain ⟨h1, h2⟩ := q4s hx
   rw [h.inj y x b hyb h2, h1] at hy
   cases hy⟩, fun x b hx => h.obj x b (q4s hx).2, hflo⟩
theorem qpz (h : SF c σ p w a) (h1 : z43 q σ.t = true) (h2 : z4b q σ.m = true) : SF { c with A := qaj c.A q p } σ (unP q p) w a := by
 have h' := SF.chP (A' := qaj c.A q p) (fun b _ hA hf => ⟨hA, fun x _ hx => hf x hx⟩) h
 have hst : Stab (qaj c.A q p) q q p w (unP q p) w := ⟨Nat.le_refl _, fun b _ _ hf => ⟨rfl, fun x hx => hf x (q4s hx).2⟩, fun x b hq hx => zfb hq hx, fun _ _ _ _ => rfl⟩
 refine ⟨fun t x hx => ?_, fun k e he => ?_⟩
 ·obtain ⟨v, e1, e2⟩ := h'.t t x hx
  obtain ⟨o1, o2⟩ := qvc h1 hx
  exact ⟨v, e1, AV.kept hst x v (fun y hy => ⟨o1 y hy, o1 y hy⟩) o2 e2⟩
 ·obtain ⟨o1, o2⟩ := qw0 h2 he
  exact q0p.kept hst (fun y hy => ⟨o2 y hy, o2 y hy⟩) ⟨o1, o1⟩ (h'.m k e he)
theorem qbe (h : Bs c.A F w0 S0 p w) (h' : Bs (qaj c.A q p) F' w (pinned (unP q p)) p' w') (hb : b < w.heap.size) (hn : ∀ x, q x = false → p x ≠ some b) : w'.heap[b]? = w.heap[b]? :=
 h'.but.block b hb fun hp => by
  obtain ⟨x, hx⟩ := hp
  exact hn x (q4s hx).1 (q4s hx).2
theorem q83 (h : Bs c.A F w0 S0 p w) (h' : Bs (qaj c.A q p) F' w (pinned (unP q p)) p' w') {x : Nat} (hx : p' x = some b) : (∃ y, q y = false ∧ p y = some b) ∨ w.heap.size ≤ b := by
 rcases h'.pin x b hx with ⟨y, hy⟩ | h
 ·exact .inl ⟨y, q4s hy⟩
 ·exact .inr h
theorem qy4 (h : Bs c.A F w0 S0 p w) (h' : Bs (qaj c.A q p) F' w (pinned (unP q p)) p' w') (hflo : Flo F w0 w') : Bs c.A F w0 S0 (q6x q p p') w' := by
 have hsz := h'.but.size
 refine ⟨fun x y b hx hy => ?_, fun x b hx => ?_, ?_, fun x b hx => ?_, fun b hb => h.new b hb, fun x b hx => ?_, fun x b hx => ?_, hflo⟩
 ·have mix : ∀ u v, q u = true → p u = some b → p' v = some b → False := fun u v hu h1 h2 => by
   rcases q83 h h' h2 with ⟨z, hz, hzb⟩ | hlt
   ·rw [h.inj u z b h1 hzb, hz] at hu
    cases hu
   ·have := h.bd u b h1
    omega
  unfold q6x at hx hy
  cases hqx : q x <;> cases hqy : q y <;> rw [hqx] at hx <;> rw [hqy] at hy
  ·exact h'.inj x y b hx hy
  ·exact (mix y x hqy hy hx).elim
  ·exact (mix x y hqx hx hy).elim
  ·exact h.inj x y b hx hy
 ·unfold q6x at hx
  split at hx
  ·exact Nat.lt_of_lt_of_le (h.bd x b hx) hsz
  ·exact h'.bd x b hx
 ·exact h.but.trans h'.but fun b hS _ => by
   obtain ⟨x, hx⟩ := hS
   exact h.pin x b (q4s hx).2
 ·unfold q6x at hx
  split at hx
  ·exact h.pin x b hx
  ·rcases q83 h h' hx with ⟨z, hz, hzb⟩ | hlt
   ·exact h.pin z b hzb
   ·have := h.but.size
    exact .inr (by omega)
 ·unfold q6x at hx
  split at hx
  ·exact h.pa x b hx
  ·exact (h'.pa x b hx).1
 ·unfold q6x at hx
  split at hx
  ·rename_i hq
   refine (h.obj x b hx).same (qbe h h' (h.bd x b hx) fun y hy hyb => ?_)
   rw [h.inj x y b hx hyb, hy] at hq
   cases hq
  ·exact h'.obj x b hx
theorem qxw (h : Bs c.A F w0 S0 p w) (h' : Bs (qaj c.A q p) F' w (pinned (unP q p)) p' w') (hf : SF { c with A := qaj c.A q p } σ p' w' a) (h1 : z43 q σ.t = true) (h2 : z4b q σ.m = true) : SF c σ (q6x q p p') w' a := by
 have hst : Stab (qaj c.A q p) q q p' w' (q6x q p p') w' := ⟨Nat.le_refl _, fun b _ hA hf => ⟨rfl, fun x hx => by
  unfold q6x at hx
  split at hx
  ·rename_i hq
   exact hA.2 x hq hx
  ·exact hf x hx⟩, fun x b hq hx => by
  unfold q6x
  rw [hq]
  exact hx, fun _ _ _ _ => rfl⟩
 have hf' : SF { c with A := qaj c.A q p } σ (q6x q p p') w' a := by
  refine ⟨fun t x hx => ?_, fun k e he => ?_⟩
  ·obtain ⟨v, e1, e2⟩ := hf.t t x hx
   obtain ⟨o1, o2⟩ := qvc h1 hx
   exact ⟨v, e1, AV.kept hst x v (fun y hy => ⟨o1 y hy, o1 y hy⟩) o2 e2⟩
  ·obtain ⟨o1, o2⟩ := qw0 h2 he
   exact q0p.kept hst (fun y hy => ⟨o2 y hy, o2 y hy⟩) ⟨o1, o1⟩ (hf.m k e he)
 exact SF.chP (c := { c with A := qaj c.A q p }) (A' := c.A) (fun b _ hA _ => hA.1) hf'
theorem qv5 (h : Bs c.A F w0 S0 p w) (h' : Bs (qaj c.A q p) F' w (pinned (unP q p)) p' w') : Stab c.A (fun x => !q x) (fun x => !q x) p w (q6x q p p') w' :=
 ⟨h'.but.size, fun b hb hA hf => ⟨qbe h h' hb fun x _ => hf x, fun x hx => by
  unfold q6x at hx
  split at hx
  ·exact hf x hx
  ·rcases q83 h h' hx with ⟨z, hz, hzb⟩ | hlt
   ·exact hf z hzb
   ·omega⟩, fun x b hq hx => by
  unfold q6x
  have : q x = true := by simpa using hq
  rw [this]
  exact hx, fun x b hq hx => qbe h h' (h.bd x b hx) fun y hy hyb => by
  have : q x = true := by simpa using hq
  rw [h.inj x y b hx hyb, hy] at this
  cases this⟩
theorem qqc (h : Bs c.A F w0 S0 p w) (h' : Bs (qaj c.A q p) F' w (pinned (unP q p)) p' w') {k : Nat} {e : Ent} (he : q0p c p w k e) (h0 : q (k * 16) = true) (h1 : e.pins.all q = true) : q0p c (q6x q p p') w' k e :=
 q0p.kept (qv5 h h') (fun y hy => by have := List.all_eq_true.1 h1 y hy; simp [this]) (by simp [h0]) he
theorem qx8 (h : Bs c.A F w0 S0 p w) (h' : Bs (qaj c.A q p) F' w (pinned (unP q p)) p' w') {x : AV} (hx : x.pd c p w v) (h1 : x.pins.all q = true) (h2 : x.keys.all q = true) : x.pd c (q6x q p p') w' v :=
 AV.kept (qv5 h h') x v (fun y hy => by have := List.all_eq_true.1 h1 y hy; simp [this]) (fun y hy => by have := List.all_eq_true.1 h2 y hy; simp [this]) hx
end
def zb1 (y x : AV) : Bool := AV.beq y x || (match y, x with
  | _, .any => true
  | .sn s z, .sn s' .any => Nat.beq s s'
  | .sn s z, x => AV.beq z x
  | _, _ => false)
def z97 (σ τ : St) : Bool := (τ.t.all fun e => match lkA σ.t e.1 with
 | some y => zb1 y e.2
 | none => false) && τ.m.all fun e => match lkA σ.m e.1 with
 | some y => Ent.beq y e.2
 | none => false
theorem z89 {w : World} {y x : AV} (h : zb1 y x = true) (hy : y.pd c p w v) : x.pd c p w v := by
 unfold zb1 at h
 simp only [Bool.or_eq_true] at h
 rcases h with h | h
 ·have := AV.beq_ok _ _ h
  subst this
  exact hy
 ·split at h
  ·trivial
  ·obtain ⟨e, -⟩ := hy
   have := gnN h
   subst this
   exact ⟨e, trivial⟩
  ·have := AV.beq_ok _ _ h
   subst this
   exact hy.2
  ·cases h
theorem SF.weak {τ : St} {w : World} (h : SF c σ p w a) (hw : z97 σ τ = true) : SF c τ p w a := by
 unfold z97 at hw
 simp only [gnB] at hw
 refine ⟨fun t x hx => ?_, fun k e he => ?_⟩
 ·have h1 := List.all_eq_true.1 hw.1 _ (qx hx)
  simp only at h1
  split at h1
  ·rename_i y hy
   obtain ⟨v, e1, e2⟩ := h.t t y hy
   exact ⟨v, e1, z89 h1 e2⟩
  ·cases h1
 ·have h1 := List.all_eq_true.1 hw.2 _ (qx he)
  simp only at h1
  split at h1
  ·rename_i y hy
   have := Ent.beq_ok h1
   subst this
   exact h.m k y hy
  ·cases h1
def znb (z : Nat) (l : List (Nat × AV)) : Bool := l.all fun e => Nat.blt e.1 z && (match e.2 with
 | .sn t _ => Nat.beq t e.1
 | _ => false)
theorem SF.snapA {w : World} {a' : Act} (h : SF c σ p w a) (hs : znb a'.tmps.size σ.t = true) (hsn : ∀ t, t < a'.tmps.size → a'.tmps[t]? = some (c.snap t)) : SF c σ p w a' := by
 refine ⟨fun t x hx => ?_, h.m⟩
 have h1 := List.all_eq_true.1 hs _ (qx hx)
 simp only [gnB, Nat.blt_eq] at h1
 obtain ⟨h1, h2⟩ := h1
 split at h2
 ·rename_i s y
  have := gnN h2
  subst this
  obtain ⟨v, -, e2, e3⟩ := h.t _ _ hx
  subst e2
  exact ⟨_, hsn _ h1, rfl, e3⟩
 ·cases h2
end
variable {nm : ByteArray} {x : Ce} {S1 : Nat → Prop} {W : World}
section
open Go.RowKit Go.Shelf
def q0c (s : So) : Tbl := qtm s.cs.length s.ys.length s.tr.length s.wk.length
theorem qwk (s : So) : q02 (q0c s) := by
 unfold q0c qtm
 refine .cons (q0v _ q25 _ _) (.cons (q0v _ q25 _ _) (.cons (q0v _ q25 _ _) (.cons (q0v _ q25 _ _) (.cons q57 (.cons qlh (.cons q8d (.cons qi7 .nil)))))))
theorem qyb (s : So) : q7q (q0c s) = true := rfl
theorem zgz {s : So} {wv : Ce} {s1 : So} (hv : y9 s1 = true) : qb (q0c s) 7 [eS s1, eT (z9g nm), .r [.a [.i 0, eC x], .a [.i 1, eC wv]]] = some [eC (zt wv s1 ⟨nm, x⟩).1, .r ((zt wv s1 ⟨nm, x⟩).2.1.map eV), .i (zt wv s1 ⟨nm, x⟩).2.2.1, eS (zt wv s1 ⟨nm, x⟩).2.2.2] := by
 have e : dVs (.r [.a [.i 0, eC x], .a [.i 1, eC wv]]) = zhv x wv := by
  show [dV (eV ⟨0, x⟩), dV (eV ⟨1, wv⟩)] = _
  rw [qqg, qqg]
  rfl
 have ht : qb (q0c s) 7 = z7t := rfl
 rw [ht]
 unfold z7t
 simp only [zk, q1w, e]
 rw [if_pos hv]
 rfl
theorem zhs {s : So} : qb (q0c s) 6 [.s z06, .r [eT (qbm nm), eT (vaT 0), eT (vaT 1)]] = some [eT (z9g nm)] := by
 have ht : qb (q0c s) 6 = gSL ql8 := rfl
 rw [ht]
 unfold gSL
 show some [eT (ql8 z06 [dT (eT (qbm nm)), dT (eT (vaT 0)), dT (eT (vaT 1))])] = _
 rw [q1w, q1w, q1w]
 rfl
section
variable {wk : Wk} {s0 sk : So} {o : List Ce} {dw : D} {y : At} {R : List D → Prop} {B : Nat → List D → Prop}
abbrev q7e (wk : Wk) (sk : So) (o : List Ce) (dw : D) (y : At) : List D := [eW wk, eS sk, .r (o.map eC), .i 0, dw, .s y.name, eC y.val]
theorem zmg (hv : y9 sk = true) (hg : qaq s0 sk) (he : (zt wk.val sk y).2.2.1 = 0) (hR : R [eS (zt wk.val sk y).2.2.2, eC (zt wk.val sk y).1]) : zii.go (qb (q0c s0)) R (q7e wk sk o dw y) B := by
 have hp := zgz (s := s0) (nm := y.name) (x := y.val) (wv := wk.val) hv
 have hst := zhs (s := s0) (nm := y.name)
 have hN : (⟨#[97, 116, 116, 114, 95, 104, 111, 111, 107]⟩ : ByteArray) = z06 := rfl
 have t0 : qb (q0c s0) 0 [] = some [.i s0.cs.length] := rfl
 have t1 : qb (q0c s0) 1 [] = some [.i s0.ys.length] := rfl
 have t2 : qb (q0c s0) 2 [] = some [.i s0.tr.length] := rfl
 have t3 : qb (q0c s0) 3 [] = some [.i s0.wk.length] := rfl
 have t4 : qb (q0c s0) 4 [.s y.name] = some [eT (qbm y.name)] := rfl
 have t5 : qb (q0c s0) 5 [.i 0] = some [eT (vaT 0)] := rfl
 have t6 : qb (q0c s0) 5 [.i 1] = some [eT (vaT 1)] := rfl
 obtain ⟨g1, g2, -, g3, g4, -⟩ := hg
 have g3 : s0.tr.length ≤ sk.tr.length := by rw [g3]; exact Nat.le_refl _
 have g4 : s0.wk.length ≤ sk.wk.length := by rw [g4]; exact Nat.le_refl _
 unfold zii
 simp only [qa, qj, qd, qg, X.says, X.ev, X.evs, evl, List.getD_cons_zero, List.getD_cons_succ, hN, t0, t1, t2, t3, t4, t5, t6, hst, hp, zg4, Option.getD_some, Option.isSome_some, q5i, he, qp9, decide_true, Bool.not_true, gnF, false_implies, true_and, and_true, qer, zcg, z45, z24, q6i, List.length_map, yv, gnD, Int.ofNat_le, forall_const]
 exact ⟨⟨g1, g2, g3, g4⟩, hR⟩
theorem zn2 (hv : y9 sk = true) (hg : qaq s0 sk) (he : ¬ (zt wk.val sk y).2.2.1 = 0) (hR : R [eS (zt wk.val sk y).2.2.2, .r [], .i (zt wk.val sk y).2.2.1]) : zk5.go (qb (q0c s0)) R (q7e wk sk o dw y) B := by
 have hp := zgz (s := s0) (nm := y.name) (x := y.val) (wv := wk.val) hv
 have hst := zhs (s := s0) (nm := y.name)
 have hN : (⟨#[97, 116, 116, 114, 95, 104, 111, 111, 107]⟩ : ByteArray) = z06 := rfl
 have t0 : qb (q0c s0) 0 [] = some [.i s0.cs.length] := rfl
 have t1 : qb (q0c s0) 1 [] = some [.i s0.ys.length] := rfl
 have t2 : qb (q0c s0) 2 [] = some [.i s0.tr.length] := rfl
 have t3 : qb (q0c s0) 3 [] = some [.i s0.wk.length] := rfl
 have t4 : qb (q0c s0) 4 [.s y.name] = some [eT (qbm y.name)] := rfl
 have t5 : qb (q0c s0) 5 [.i 0] = some [eT (vaT 0)] := rfl
 have t6 : qb (q0c s0) 5 [.i 1] = some [eT (vaT 1)] := rfl
 obtain ⟨g1, g2, -, g3, g4, -⟩ := hg
 have g3 : s0.tr.length ≤ sk.tr.length := by rw [g3]; exact Nat.le_refl _
 have g4 : s0.wk.length ≤ sk.wk.length := by rw [g4]; exact Nat.le_refl _
 unfold zk5
 simp only [qa, qj, qd, qg, X.says, X.ev, X.evs, evl, List.getD_cons_zero, List.getD_cons_succ, hN, t0, t1, t2, t3, t4, t5, t6, hst, hp, zg4, Option.getD_some, Option.isSome_some, q5i, he, qp9, decide_false, Bool.not_false, gnF, Bool.true_eq_false, false_implies, true_and, and_true, qer, zcg, z45, z24, q6i, List.length_map, yv, gnD, Int.ofNat_le, forall_const]
 exact ⟨⟨g1, g2, g3, g4⟩, hR⟩
end
def wkA (A : Nat → Prop) (n8 N1 : Nat) (b : Nat) : Prop := A b ∧ (b < n8 ∨ N1 ≤ b)
def wkS (p2 : qm) (w9 : World) (n8 m : Nat) (b : Nat) : Prop := pinned p2 b ∨ q31 w9 (n8 + 1) m b
def ju (c2 : Cx) (p2 : qm) (s0 : So) (n8 : Nat) (W1 : World) (a9 : Act) : Cx := { c2 with A := wkA c2.A n8 W1.heap.size, F := q17 p2 s0 c2.F.fr, snap := fun t => a9.tmps.getD t Go.undef }
structure WkH (wk : Wk) (s0 : So) (o0 : List Ce) (l : List At) (k : Nat) (sk : So) (o : List Ce) : Prop where
 run : jj wk.val sk o (l.drop k) = jj wk.val s0 o0 l
 ok : qba wk.val sk (l.drop k) = true
 grow : qaq s0 sk
 len : o.length ≤ o0.length + k
def WkG (p2 : qm) (s0 : So) (p : qm) : Prop := ∀ b, p 33 = some b → (q17 p2 s0 (fun _ => True)).fl b = 0
def WkI (c2 : Cx) (p2 : qm) (w9 W1 : World) (a9 : Act) (m n8 : Nat) (wk : Wk) (s0 : So) (x0 : Ce) (o0 : List Ce) (dw : D) (k N : Nat) (W : World) : Prop := w9.heap.size + 2 ≤ N ∧ N ≤ W.heap.size ∧ ∃ p3 sk o, WkH wk s0 o0 (yf s0 x0) k sk o ∧ Bs (ju c2 p2 s0 n8 W1 a9).A (ju c2 p2 s0 n8 W1 a9).F W1 (wkS p2 w9 n8 m) p3 W ∧ SF ((ju c2 p2 s0 n8 W1 a9).at (qb (q0c s0)) [eW wk, eS sk, .r (o.map eC), .i 0, dw]) qyj p3 W a9 ∧ (∀ y b, p3 y = some b → b < N) ∧ WkG p2 s0 p3
def WkM (c2 : Cx) (p2 : qm) (w9 W1 : World) (a9 : Act) (m n8 : Nat) (wk : Wk) (s0 : So) (x0 : Ce) (o0 : List Ce) (dw : D) (k N B : Nat) (a1 : Act) (W : World) : Prop := ∃ y p4 sk o, (yf s0 x0)[k]? = some y ∧ WkH wk s0 o0 (yf s0 x0) k sk o ∧ Bs (ju c2 p2 s0 n8 W1 a9).A (ju c2 p2 s0 n8 W1 a9).F W1 (wkS p2 w9 n8 m) p4 W ∧ SF ((ju c2 p2 s0 n8 W1 a9).at (qb (q0c s0)) (q7e wk sk o dw y)) z3h p4 W a1 ∧ a1.defers = [] ∧ a1.tmps.size = 69 ∧ w9.heap.size + 2 ≤ N ∧ N ≤ B ∧ B ≤ W.heap.size ∧ (∀ q b, p4 q = some b → b < N ∨ B ≤ b) ∧ WkG p2 s0 p4
def WkJ (c2 : Cx) (p2 : qm) (w9 W1 : World) (a9 : Act) (m n8 : Nat) (wk : Wk) (s0 : So) (x0 : Ce) (o0 : List Ce) (W : World) : Prop := ¬ (jj wk.val s0 o0 (yf s0 x0)).2.2 = 0 ∧ ∃ p3 l, Bs (ju c2 p2 s0 n8 W1 a9).A (ju c2 p2 s0 n8 W1 a9).F W1 (wkS p2 w9 n8 m) p3 W ∧ SF ((ju c2 p2 s0 n8 W1 a9).at (qb (q0c s0)) (l ++ [eS (jj wk.val s0 o0 (yf s0 x0)).1, .r [], .i (jj wk.val s0 o0 (yf s0 x0)).2.2])) zjn p3 W a9 ∧ l.length = 7
theorem qo4 {w' W1 : World} {bc m : Nat} {F : Flr} {W' : World} {p3 : qm} (hS : ∀ b, q31 w' bc m b → S1 b) (hA : ∀ b, A' b → ¬ q31 w' bc m b) (hF : ∀ b, 0 < F.fl b → ¬ q31 w' bc m b) (h : Bs A' F W1 S1 p3 W) (hb : But (q31 w' bc m) W W') : Bs A' F W1 S1 p3 W' ∧ Stab A' no no p3 W p3 W' :=
 ⟨⟨h.inj, fun x b hx => Nat.lt_of_lt_of_le (h.bd x b hx) hb.size, h.but.trans hb fun i hi _ => .inl (hS i hi), h.pin, h.new, h.pa, fun x b hx => (h.obj x b hx).same (hb.block b (h.bd x b hx) (hA b (h.pa x b hx))), h.flo.same fun k hk hfl => hb.block k hk (hF k hfl)⟩,
  hb.size, fun b hlt ha hf => ⟨hb.block b hlt (hA b ha), hf⟩, fun x b _ hx => hx, fun x b _ hx => hb.block b (h.bd x b hx) (hA b (h.pa x b hx))⟩
theorem zk4 {s : So} {fr : Nat → Prop} (h : 0 < (q17 p s fr).fl b) : ∃ x, p x = some b := by
 unfold q17 at h
 simp only at h
 split at h
 ·exact ⟨_, ‹_›⟩
 ·split at h
  ·exact ⟨_, ‹_›⟩
  ·split at h
   ·exact ⟨_, ‹_›⟩
   ·split at h
    ·exact ⟨_, ‹_›⟩
    ·omega
end
section
open Go.RowKit Go.Shelf
theorem qlc (wv : Ce) (s : So) (o : List Ce) (x : At) (l : List At) : jj wv s o (x :: l) = if (zt wv s x).2.2.1 = 0 then jj wv (zt wv s x).2.2.2 (o ++ [(zt wv s x).1]) l else ((zt wv s x).2.2.2, [], (zt wv s x).2.2.1) := rfl
def qC (x : Nat) : Bool := Nat.beq x 32 || Nat.beq x 33
def qO (x : Nat) : Bool := !(Nat.beq x 32 || (Nat.beq x 33 || Nat.beq x 160))
theorem zmm {x : Nat} (h : qO x = false) : x = 32 ∨ x = 33 ∨ x = 160 := by
 unfold qO at h
 simp only [Bool.not_eq_false', Bool.or_eq_true] at h
 exact h.imp gnN fun h => h.imp gnN gnN
section
variable {c2 : Cx} {p2 : qm} {w9 W1 : World} {a9 : Act} {m n8 : Nat} {s0 : So} {x0 : Ce} {wk : Wk} {o0 : List Ce} {dw : D} {v0 v1 v2 v3 : Value}
theorem zf3 : q2a [] [] 7 (q1p [] [] [] 7 qz2) = qz2 := by kernel_rfl
theorem zaq {F : Flr} {w0 : World} (h : Flo F w0 W) {g : Nat} (hg : W.heap[g]? = some (.cells cur T (0, 0))) (hT : qo T = some t) (hs : cur.size = t.w) (hnv : nvB t = false) : F.fl g = 0 := by
 rcases Nat.eq_zero_or_pos (F.fl g) with e | e
 ·exact e
 ·have hp := q26 hT
  have := (FlW.var h hg hT hs (fun h => by rw [hnv] at h; cases h) #[] e cur T hg).1
  simp at this
  omega
theorem zmf (hlo : c2.lo = 1) (hz : a9.tmps.size = 69) (h9 : w9.heap.size = n8 + 2) (hinj : ∀ x y b, p2 x = some b → p2 y = some b → x = y) (hp2 : ∀ x b, p2 x = some b → b < n8)
  (h0 : q21 c2.A p2 w9 [] 1 29 qn (s0.cs.map eC) v0) (h1 : q21 c2.A p2 w9 [] 2 87 jb (s0.ys.map eY) v1) (h2 : q21 c2.A p2 w9 [] 3 71 q1q (s0.tr.map eU) v2) (h3 : q21 c2.A p2 w9 [] 4 73 yb (s0.wk.map eW) v3) (r1 : yz .i64 s0.ser = true) (r2 : yz .i64 s0.mx = true)
  (hg : ∃ T, w9.heap[n8]? = some (.cells [v0, v1, v2, v3, .int .i64 s0.ser, .int .i64 s0.mx].toArray T (0, 0))) (hbut : But Nil w9 W1) (hm1 : w9.heap.size + 2 ≤ m) (hm2 : m < W1.heap.size) (hob : o0.length + (yf s0 x0).length + 1 ≤ 8796093021952) :
  ItOk w9 a9 3 n8 (n8 + 1) m 36 37 z9e z48 [v0, v1, v2, v3, .int .i64 s0.ser, .int .i64 s0.mx] s0 x0 (WkI c2 p2 w9 W1 a9 m n8 wk s0 x0 o0 dw) (WkM c2 p2 w9 W1 a9 m n8 wk s0 x0 o0 dw) (WkJ c2 p2 w9 W1 a9 m n8 wk s0 x0 o0) := by
 obtain ⟨T, hg⟩ := hg
 have hw1 := hbut.size
 have hAh : ∀ b, (ju c2 p2 s0 n8 W1 a9).A b → ¬ q31 w9 (n8 + 1) m b := fun b h => by
  have h : wkA c2.A n8 W1.heap.size b := h
  obtain ⟨-, h⟩ := h
  unfold q31
  omega
 have hSh : ∀ b, q31 w9 (n8 + 1) m b → wkS p2 w9 n8 m b := fun b h => .inr h
 have hFh : ∀ b, 0 < (ju c2 p2 s0 n8 W1 a9).F.fl b → ¬ q31 w9 (n8 + 1) m b := fun b h => by
  obtain ⟨x, hx⟩ := zk4 h
  have := hp2 x b hx
  unfold q31
  omega
 have hfm : ∀ te, (ju c2 p2 s0 n8 W1 a9).F.mx te ≤ flM (q0c s0) te := fun te => zn6 p2 s0 c2.F.fr te
 have hcl : (ju c2 p2 s0 n8 W1 a9).lo = 1 := hlo
 have hfl0 : ∀ {b : Nat} {W : World}, Flo (ju c2 p2 s0 n8 W1 a9).F W1 W → W1.heap.size ≤ b → (q17 p2 s0 (fun _ => True)).fl b = 0 := fun {b W} hF hb => by
  rcases Nat.eq_zero_or_pos ((q17 p2 s0 (fun _ => True)).fl b) with e | e
  ·exact e
  ·obtain ⟨cs, cs', T, te, hlt, -⟩ := hF b e
   omega
 refine ⟨?_, ?_, ?_, ?_, ?_, ?_⟩
 ·-- the copy is readable
  rintro k N W ⟨h4, h5, p3, sk, o, hh, hb3, hf3, hp3, hG⟩
  refine ⟨h4, h5, ⟨T, ?_⟩, ?_⟩
  ·refine (hb3.but.block n8 (by omega) ?_).trans ((hbut.block n8 (by omega) (fun h => h)).trans hg)
   rintro (⟨x, hx⟩ | h)
   ·have := hp2 x n8 hx
    omega
   ·unfold q31 at h
    omega
  ·refine Rd.mono (fun b _ hb => ?_) (zmc hinj h0 h1 h2 h3 r1 r2 (w1 := W1) (W := W) (fr := c2.F.fr) (fun x b hx => hbut.block b (by have := hp2 x b hx; omega) (fun h => h)) hb3.flo)
   obtain ⟨x, hx⟩ := hb
   have := hp2 x b hx
   exact ⟨by omega, by omega⟩
 ·rintro k N W W' ⟨h4, h5, p3, sk, o, hh, hb3, hf3, hp3, hG⟩ hb
  obtain ⟨q1, q2⟩ := qo4 hSh hAh hFh hb3 hb
  exact ⟨h4, Nat.le_trans h5 hb.size, p3, sk, o, hh, q1, SF.same q2 hf3, hp3, hG⟩
 ·-- the loop's variables
  rintro k N W y hy hyo ⟨h4, h5, p3, sk, o, hh, hb3, hf3, hp3, hG⟩
  have hsf : SF ((ju c2 p2 s0 n8 W1 a9).at (qb (q0c s0)) (q7e wk sk o dw y)) ⟨ql4 ++ [(36, .v (.tok 5) .str [] []), (37, .v (.tok 6) qn [] [])], zb2⟩ p3 W { tmps := (a9.tmps.setIfInBounds 36 (.string y.name)).setIfInBounds 37 (.agg (ceL y.val).toArray), defers := [] } := by
   refine ⟨fun t x hx => ?_, fun j e he => ?_⟩
   ·have hx := qx hx
    have old : ∀ t x, lkA qyj.t t = some x → t ≠ 36 → t ≠ 37 → (∀ v, x.pd ((ju c2 p2 s0 n8 W1 a9).at (qb (q0c s0)) [eW wk, eS sk, .r (o.map eC), .i 0, dw]) p3 W v → x.pd ((ju c2 p2 s0 n8 W1 a9).at (qb (q0c s0)) (q7e wk sk o dw y)) p3 W v) → ∃ v, ((a9.tmps.setIfInBounds 36 (.string y.name)).setIfInBounds 37 (.agg (ceL y.val).toArray))[t]? = some v ∧ x.pd ((ju c2 p2 s0 n8 W1 a9).at (qb (q0c s0)) (q7e wk sk o dw y)) p3 W v := fun t x hl n1 n2 hpd => by
     obtain ⟨v, e1, e2⟩ := hf3.t t x hl
     exact ⟨v, by rw [Array.getElem?_setIfInBounds_ne (Ne.symm n2), Array.getElem?_setIfInBounds_ne (Ne.symm n1)]; exact e1, hpd v e2⟩
    simp only [ql4, List.cons_append, List.nil_append, gnM] at hx
    rcases hx with ⟨rfl, rfl⟩ | ⟨rfl, rfl⟩ | ⟨rfl, rfl⟩ | ⟨rfl, rfl⟩ | ⟨rfl, rfl⟩ | ⟨rfl, rfl⟩ | ⟨rfl, rfl⟩ | ⟨rfl, rfl⟩
    ·exact old _ _ (by kernel_rfl) (by decide) (by decide) fun v h => h
    ·exact old _ _ (by kernel_rfl) (by decide) (by decide) fun v h => h
    ·exact old _ _ (by kernel_rfl) (by decide) (by decide) fun v h => h
    ·exact old _ _ (by kernel_rfl) (by decide) (by decide) fun v h => h
    ·exact old _ _ (by kernel_rfl) (by decide) (by decide) fun v h => h
    ·exact old _ _ (by kernel_rfl) (by decide) (by decide) fun v h => h
    ·exact ⟨.string y.name, by rw [Array.getElem?_setIfInBounds_ne (by decide), Array.getElem?_setIfInBounds_self_of_lt (by omega)], _, rfl, Con.of_rd (show Rd W _ (.s y.name) .str _ from ⟨rfl, rfl, hyo.1⟩)⟩
    ·exact ⟨.agg (ceL y.val).toArray, by rw [Array.getElem?_setIfInBounds_self_of_lt (by simp; omega)], ceL y.val, rfl, Con.of_rd (show Rd W _ (eC y.val) qn _ from qvt hyo.2)⟩
   ·have he := qx he
    simp only [zb2, gnM] at he
    rcases he with ⟨rfl, rfl⟩ | ⟨rfl, rfl⟩ | ⟨rfl, rfl⟩ | ⟨rfl, rfl⟩
    ·exact hf3.m 0 _ (by kernel_rfl)
    ·exact hf3.m 2 _ (by kernel_rfl)
    ·exact hf3.m 3 _ (by kernel_rfl)
    ·exact hf3.m 6 _ (by kernel_rfl)
  have hcs := hf3.m 2 ⟨.tok 2, zo, [(0, 33)], []⟩ (by kernel_rfl)
  obtain ⟨vc, tc1, tc2⟩ := hf3.t 2 (.sn 2 (.ref 2 [] 0 zo)) (by kernel_rfl)
  have hbA := qoy (q := qC) (F' := (ju c2 p2 s0 n8 W1 a9).F) hb3 hb3.flo.anew fun _ h => h
  have hfA := qpz (q := qC) (hsf.weak (τ := zd9) (by kernel_rfl)) (by kernel_rfl) (by kernel_rfl)
  have pre := q9i (c := { (ju c2 p2 s0 n8 W1 a9) with A := qaj (ju c2 p2 s0 n8 W1 a9).A qC p3 }) (z := 69) (some (w9.heap.size + 1)) 3 (qwk s0) hfm (qyb s0) [z9e] (n := 7) (ann := q75) (R := fun o => o = []) (B := fun _ _ => False) (ts := []) (ms := []) (kill := []) (σk := qz2) (l := q7e wk sk o dw y) (σ := zd9) (d := []) (w0 := W) (S0 := pinned (unP qC p3)) (p := unP qC p3) (Q := fun _ _ _ => False)
   (K := fun a1 W2 => WkM c2 p2 w9 W1 a9 m n8 wk s0 x0 o0 dw k N W.heap.size a1 W2 ∧ KpN w9 (n8 + 1) m N W.heap.size W W2)
   (by
    show (q4q Tryz.prog (q0c s0) q75 c2.lo 69 [z9e] 7 zd9 (toN [] [] [] qz2)).go _ _ _ _
    rw [hlo]
    unfold q0c
    rw [zkc]
    rfl) rfl hbA hfA rfl (by simp; exact hz) (fun st p4 W2 a2 hR hst hb4 hf4 hd4 hz4 => ?_)
  ·exact pre
  ·have hR : st = [] := hR
   subst hR
   rw [zf3, List.append_nil] at hf4
   have hb5 := qy4 hb3 hb4 (hb3.flo.trans hb4.flo)
   have hf5 := qxw (c := (ju c2 p2 s0 n8 W1 a9).at (qb (q0c s0)) (q7e wk sk o dw y)) (q := qC) hb3 hb4 hf4 (by kernel_rfl) (by kernel_rfl)
   have hc5 := qqc (c := (ju c2 p2 s0 n8 W1 a9).at (qb (q0c s0)) (q7e wk sk o dw y)) (q := qC) (k := 2) (e := ⟨.tok 2, zo, [(0, 33)], []⟩) hb3 hb4 hcs (by kernel_rfl) (by kernel_rfl)
   have ht5 := qx8 (c := (ju c2 p2 s0 n8 W1 a9).at (qb (q0c s0)) (q7e wk sk o dw y)) (q := qC) (x := .sn 2 (.ref 2 [] 0 zo)) hb3 hb4 tc2 (by kernel_rfl) (by kernel_rfl)
   have hf6 : SF ((ju c2 p2 s0 n8 W1 a9).at (qb (q0c s0)) (q7e wk sk o dw y)) z3h (q6x qC p3 p4) W2 a2 := by
    refine ⟨fun t x hx => ?_, fun j e he => ?_⟩
    ·have hx := qx hx
     simp only [z3h, ql4, List.cons_append, List.nil_append, gnM] at hx
     rcases hx with ⟨rfl, rfl⟩ | ⟨rfl, rfl⟩ | ⟨rfl, rfl⟩ | ⟨rfl, rfl⟩ | ⟨rfl, rfl⟩ | ⟨rfl, rfl⟩ | ⟨rfl, rfl⟩ | ⟨rfl, rfl⟩
     ·exact hf5.t 0 _ (by kernel_rfl)
     ·exact hf5.t 1 _ (by kernel_rfl)
     ·obtain ⟨v, e1, e2, -⟩ := hf5.t 2 (.sn 2 .any) (by kernel_rfl)
      obtain ⟨e3, -⟩ := id tc2
      have e4 : v = vc := e2.trans e3.symm
      exact ⟨v, e1, by rw [e4]; exact ht5⟩
     ·exact hf5.t 3 _ (by kernel_rfl)
     ·exact hf5.t 6 _ (by kernel_rfl)
     ·exact hf5.t 24 _ (by kernel_rfl)
     ·exact hf5.t 7 _ (by kernel_rfl)
     ·exact hf5.t 8 _ (by kernel_rfl)
    ·have he := qx he
     simp only [z3h, gnM] at he
     rcases he with ⟨rfl, rfl⟩ | ⟨rfl, rfl⟩ | ⟨rfl, rfl⟩ | ⟨rfl, rfl⟩ | ⟨rfl, rfl⟩
     ·exact hf5.m 0 _ (by kernel_rfl)
     ·exact hc5
     ·exact hf5.m 3 _ (by kernel_rfl)
     ·exact hf5.m 6 _ (by kernel_rfl)
     ·exact hf5.m 8 _ (by kernel_rfl)
   refine ⟨⟨y, _, sk, o, hy, hh, hb5, hf6, hd4, hz4, h4, h5, hb4.but.size, fun q b hq => ?_, fun b hb => ?_⟩, hb4.but.size, fun b hlt hb => hb4.but.block b hlt ?_⟩
   ·unfold q6x at hq
    split at hq
    ·exact .inl (hp3 q b hq)
    ·rcases q83 (q := qC) (c := ju c2 p2 s0 n8 W1 a9) hb3 hb4 hq with ⟨q', -, hq'⟩ | h
     ·exact .inl (hp3 q' b hq')
     ·exact .inr h
   ·exact hG b hb
   ·rintro ⟨q, hq⟩
    have hq := (q4s hq).2
    rcases hb with hb | hb
    ·have := hp3 q b hq
     omega
    ·exact hAh b (hb3.pa q b hq) hb
 ·rintro k N B a1 W W' ⟨y, p4, sk, o, hy, hh, hb4, hf4, hd4, hz4, h4, h5, h6, hp4, hG⟩ hb
  obtain ⟨q1, q2⟩ := qo4 hSh hAh hFh hb4 hb
  exact ⟨y, p4, sk, o, hy, hh, q1, SF.same q2 hf4, hd4, hz4, h4, h5, Nat.le_trans h6 hb.size, hp4, hG⟩
 ·-- a round
  rintro k N B a1 W hkl ⟨y, p4, sk, o, hy, hh, hb4, hf4, hd4, hz4, h4, h5, h6, hp4, hG⟩
  obtain ⟨hrun, hok, hgr, hlen⟩ := hh
  have hdr : (yf s0 x0).drop k = y :: (yf s0 x0).drop (k + 1) := by
   obtain ⟨hlt, e⟩ := gnH.1 hy
   rw [List.drop_eq_getElem_cons hlt, e]
  rw [hdr] at hrun hok
  unfold qba at hok
  simp only [gnB, Bool.or_eq_true, gnD] at hok
  obtain ⟨hv, hok⟩ := hok
  have hKp : ∀ {W2 : World} {S : Nat → Prop}, But S W W2 → (∀ b, S b → ∃ q, p4 q = some b) → KpN w9 (n8 + 1) m N B W W2 := fun {W2 S} hbu hS => ⟨hbu.size, fun b hlt hb => hbu.block b (by omega) fun h => by
   obtain ⟨q, hq⟩ := hS b h
   rcases hb with hb | hb
   ·have := hp4 q b hq
    omega
   ·exact hAh b (hb4.pa q b hq) hb⟩
  by_cases he : (zt wk.val sk y).2.2.1 = 0
  ·-- the put succeeds
   rcases hok with hok | hok
   ·exact absurd he hok
   rw [qlc] at hrun
   rw [if_pos he] at hrun
   have hcs := hf4.m 2 ⟨.tok 2, zo, [(0, 33)], []⟩ (by kernel_rfl)
   obtain ⟨vc, tc1, tc2⟩ := hf4.t 2 (.sn 2 (.ref 2 [] 0 zo)) (by kernel_rfl)
   have hbA := qoy (q := qC) (F' := (ju c2 p2 s0 n8 W1 a9).F) hb4 hb4.flo.anew fun _ h => h
   have hfA := qpz (q := qC) (hf4.weak (τ := qz2) (by kernel_rfl)) (by kernel_rfl) (by kernel_rfl)
   rw [z5u]
   refine q1j qib ?_
   refine q9i (c := { (ju c2 p2 s0 n8 W1 a9) with A := qaj (ju c2 p2 s0 n8 W1 a9).A qC p4 }) (z := 69) (some (w9.heap.size + 1)) 3 (qwk s0) hfm (qyb s0) qib (n := 7) (ann := q75) (R := fun q => q = [eS (zt wk.val sk y).2.2.2, eC (zt wk.val sk y).1]) (B := fun _ _ => False) (ts := []) (ms := z3d) (kill := []) (σk := zao) (l := q7e wk sk o dw y) (σ := qz2) (d := []) (w0 := W) (S0 := pinned (unP qC p4)) (p := unP qC p4)
    (by
     show (q4q Tryz.prog (q0c s0) q75 c2.lo 69 qib 7 qz2 (toN [] z3d [] zao)).go _ _ _ _
     rw [hlo]
     have e := zjl s0.cs.length s0.ys.length s0.tr.length s0.wk.length
     unfold q0c
     rw [e]
     exact zmg hv hgr he rfl) rfl hbA hfA hd4 hz4 (fun st p5 W2 a2 hR hst hb5 hf5 hd5 hz5 => ?_)
   have hR : st = [eS (zt wk.val sk y).2.2.2, eC (zt wk.val sk y).1] := hR
   subst hR
   rw [show q2a [] z3d 7 (q1p [] z3d [] 7 zao) = z2p from zg2] at hf5
   obtain ⟨l9, hl9⟩ : ∃ l9, l9 = q7e wk sk o dw y ++ [eS (zt wk.val sk y).2.2.2, eC (zt wk.val sk y).1] := ⟨_, rfl⟩
   have hb6 := qy4 hb4 hb5 (hb4.flo.trans hb5.flo)
   have hf6 := qxw (c := (ju c2 p2 s0 n8 W1 a9).at (qb (q0c s0)) (q7e wk sk o dw y ++ [eS (zt wk.val sk y).2.2.2, eC (zt wk.val sk y).1])) (q := qC) hb4 hb5 hf5 (by kernel_rfl) (by kernel_rfl)
   have hc6 := qqc (c := (ju c2 p2 s0 n8 W1 a9).at (qb (q0c s0)) (q7e wk sk o dw y)) (q := qC) (k := 2) (e := ⟨.tok 2, zo, [(0, 33)], []⟩) hb4 hb5 hcs (by kernel_rfl) (by kernel_rfl)
   have ht6 := qx8 (c := (ju c2 p2 s0 n8 W1 a9).at (qb (q0c s0)) (q7e wk sk o dw y)) (q := qC) (x := .sn 2 (.ref 2 [] 0 zo)) hb4 hb5 tc2 (by kernel_rfl) (by kernel_rfl)
   have hp6 : ∀ q b, q6x qC p4 p5 q = some b → b < N ∨ B ≤ b := fun q b hq => by
    unfold q6x at hq
    split at hq
    ·exact hp4 q b hq
    ·rcases q83 (q := qC) (c := ju c2 p2 s0 n8 W1 a9) hb4 hb5 hq with ⟨q', -, hq'⟩ | h
     ·exact hp4 q' b hq'
     ·exact .inr (by omega)
   have hG6 : WkG p2 s0 (q6x qC p4 p5) := fun b hb => hG b hb
   have hbu6 : KpN w9 (n8 + 1) m N B W W2 := hKp hb5.but fun b ⟨q, hq⟩ => ⟨q, (q4s hq).2⟩
   generalize hp66 : q6x qC p4 p5 = p6 at *
   -- the cell is appended
   obtain ⟨c0, hc0⟩ : ∃ c0 : Cx, c0 = { (ju c2 p2 s0 n8 W1 a9) with F := ⟨fun _ => 0, fun _ => 0, (ju c2 p2 s0 n8 W1 a9).F.fr⟩ } := ⟨_, rfl⟩
   have hc0A : c0.A = (ju c2 p2 s0 n8 W1 a9).A := by rw [hc0]
   have hF0 : Flo ⟨fun _ => 0, fun _ => 0, (ju c2 p2 s0 n8 W1 a9).F.fr⟩ W2 W2 := fun k h => absurd h (Nat.lt_irrefl 0)
   have hsf : SF (c0.at (qb []) [.r (o.map eC), eC (zt wk.val sk y).1]) z0q p6 W2 a2 := by
    refine ⟨fun t x hx => ?_, fun j e he => ?_⟩
    ·have hx := qx hx
     simp only [z0q, qr3, List.cons_append, List.nil_append, gnM] at hx
     have sn : ∀ t z, lkA z2p.t t = some (.sn t z) → ∃ v, a2.tmps[t]? = some v ∧ (AV.sn t .any).pd (c0.at (qb []) [.r (o.map eC), eC (zt wk.val sk y).1]) p6 W2 v := fun t z hl => by
      obtain ⟨v, e1, e2, -⟩ := hf6.t t _ hl
      exact ⟨v, e1, by rw [hc0]; exact e2, trivial⟩
     rcases hx with ⟨rfl, rfl⟩ | ⟨rfl, rfl⟩ | ⟨rfl, rfl⟩ | ⟨rfl, rfl⟩ | ⟨rfl, rfl⟩ | ⟨rfl, rfl⟩ | ⟨rfl, rfl⟩
     ·exact sn 0 (.ref 0 [] 0 qi) (by kernel_rfl)
     ·exact sn 1 (.bx 1 41 (.ref 0 [] 0 qi)) (by kernel_rfl)
     ·obtain ⟨v, e1, e2, -⟩ := hf6.t 2 (.sn 2 .any) (by kernel_rfl)
      obtain ⟨e3, -⟩ := id tc2
      have e4 : v = vc := e2.trans e3.symm
      refine ⟨v, e1, ?_⟩
      rw [e4, hc0]
      exact ht6
     ·exact sn 3 (.ref 3 [] 0 y8) (by kernel_rfl)
     ·exact sn 6 (.ref 6 [] 0 yb) (by kernel_rfl)
     ·exact sn 24 (.v (.tok 4) q3l [(0, 385)] []) (by kernel_rfl)
     ·rw [hc0]
      exact hf6.t 10 (.ref 10 [] 0 qn) (by kernel_rfl)
    ·have he := qx he
     simp only [z0q, gnM] at he
     rcases he with ⟨rfl, rfl⟩ | ⟨rfl, rfl⟩
     ·rw [hc0]
      exact hc6
     ·rw [hc0]
      exact hf6.m 10 ⟨.tok 8, qn, [], []⟩ (by kernel_rfl)
   have hbB := qoy (q := qO) (F' := ⟨fun _ => 0, fun _ => 0, (ju c2 p2 s0 n8 W1 a9).F.fr⟩) hb6 hF0 fun _ h => h
   have hfB := qpz (q := qO) hsf (by kernel_rfl) (by kernel_rfl)
   have hlen2 : (o.length : Int) + 1 ≤ 8796093021952 := by
    have : k < (yf s0 x0).length := hkl
    omega
   have pre := q9i (c := { c0 with A := qaj c0.A qO p6 }) (z := 69) (some (w9.heap.size + 1)) 3 .nil (fun te => by rw [hc0]; exact Nat.zero_le _) rfl [z4h] (n := 2) (ann := q75) (R := fun q => q = [.r ((o ++ [(zt wk.val sk y).1]).map eC)]) (B := fun _ _ => False) (ts := []) (ms := z2c) (kill := []) (σk := ⟨qr3, []⟩) (l := [.r (o.map eC), eC (zt wk.val sk y).1]) (σ := z0q) (d := []) (w0 := W2) (S0 := pinned (unP qO p6)) (p := unP qO p6) (Q := fun _ _ _ => False)
    (K := fun a2 W3 => KpN w9 (n8 + 1) m N B W W3 ∧ WkI c2 p2 w9 W1 a9 m n8 wk s0 x0 o0 dw (k + 1) W3.heap.size W3)
    (by
     show (q4q Tryz.prog [] q75 c0.lo 69 [z4h] 2 z0q (toN [] z2c [] ⟨qr3, []⟩)).go _ _ _ _
     rw [show c0.lo = 1 by rw [hc0]; exact hlo, z8h]
     unfold zhb
     rw [qa]
     refine ⟨⟨?_, trivial⟩, ?_⟩
     ·show (D.b (decide ((((o.map eC).length : Nat) : Int) + 1 ≤ 8796093021952))).tt = true
      rw [List.length_map, q5i, gnD]
      exact hlen2
     ·show [D.r (o.map eC ++ [eC (zt wk.val sk y).1])] = _
      rw [List.map_append]
      rfl) rfl (by rw [hc0]; exact hbB) hfB hd5 hz5 (fun st p7 W3 a3 hR hst hb7 hf7 hd7 hz7 => ?_)
   ·refine wpIn_mono pre fun e a3 W3 hq => ?_
    cases e with
    | normal => exact ⟨hq.1, .inl ⟨rfl, hq.2⟩⟩
    | _ => exact hq.elim
   ·have hR : st = [.r ((o ++ [(zt wk.val sk y).1]).map eC)] := hR
    subst hR
    rw [show q2a [] z2c 2 (q1p [] z2c [] 2 ⟨qr3, []⟩) = zez from zgn] at hf7
    rw [hc0] at hb7
    have hb7 : Bs (qaj (ju c2 p2 s0 n8 W1 a9).A qO p6) ⟨fun _ => 0, fun _ => 0, (ju c2 p2 s0 n8 W1 a9).F.fr⟩ W2 (pinned (unP qO p6)) p7 W3 := hb7
    have hfl : ∀ x b, qO x = false → p6 x = some b → (ju c2 p2 s0 n8 W1 a9).F.fl b = 0 := fun x b hx hxb => by
     rcases zmm hx with rfl | rfl | rfl
     ·obtain ⟨g, cs, T, hg, hh, hT, hcon⟩ := hsf.m 2 _ (by kernel_rfl : lkA z0q.m 2 = some ⟨.tok 0, zo, [(0, 33)], []⟩)
      rw [show p6 32 = some g from hg] at hxb
      injection hxb with hxb
      subst hxb
      exact zaq hb6.flo hh hT (by rw [← Array.length_toList]; exact hcon.len.1) (by kernel_rfl)
     ·exact hG6 b hxb
     ·obtain ⟨g, cs, T, hg, hh, hT, hcon⟩ := hsf.m 10 _ (by kernel_rfl : lkA z0q.m 10 = some ⟨.tok 1, qn, [], []⟩)
      rw [show p6 160 = some g from hg] at hxb
      injection hxb with hxb
      subst hxb
      exact zaq hb6.flo hh hT (by rw [← Array.length_toList]; exact hcon.len.1) (by kernel_rfl)
    have hflo : Flo (ju c2 p2 s0 n8 W1 a9).F W1 W3 := hb6.flo.same fun b hb hfb => qbe (q := qO) (c := ju c2 p2 s0 n8 W1 a9) hb6 hb7 hb fun x hx hxb => by
     have := hfl x b hx hxb
     omega
    have hb8 := qy4 (q := qO) (c := ju c2 p2 s0 n8 W1 a9) hb6 hb7 hflo
    have hf7 : SF { (c0.at (qb []) ([.r (o.map eC), eC (zt wk.val sk y).1] ++ [.r ((o ++ [(zt wk.val sk y).1]).map eC)])) with A := qaj c0.A qO p6 } zez p7 W3 a3 := hf7
    have hf8 := qxw (c := c0.at (qb []) ([.r (o.map eC), eC (zt wk.val sk y).1] ++ [.r ((o ++ [(zt wk.val sk y).1]).map eC)])) (q := qO) (F := (ju c2 p2 s0 n8 W1 a9).F) (w0 := W1) (S0 := wkS p2 w9 n8 m) (w := W2) (p := p6) (by rw [hc0]; exact hb6) (by rw [hc0]; exact hb7) hf7 (by kernel_rfl) (by kernel_rfl)
    -- what was set aside
    have back : ∀ (x : AV) (v : Value), x.pd ((ju c2 p2 s0 n8 W1 a9).at (qb (q0c s0)) (q7e wk sk o dw y ++ [eS (zt wk.val sk y).2.2.2, eC (zt wk.val sk y).1])) p6 W2 v → x.pins.all qO = true → x.keys.all qO = true → x.pd ((ju c2 p2 s0 n8 W1 a9).at (qb (q0c s0)) (q7e wk sk o dw y ++ [eS (zt wk.val sk y).2.2.2, eC (zt wk.val sk y).1])) (q6x qO p6 p7) W3 v := fun x v hx h1 h2 => qx8 (c := ((ju c2 p2 s0 n8 W1 a9).at (qb (q0c s0)) (q7e wk sk o dw y ++ [eS (zt wk.val sk y).2.2.2, eC (zt wk.val sk y).1]))) (q := qO) hb6 hb7 hx h1 h2
    have backE : ∀ (j : Nat) (e : Ent), q0p ((ju c2 p2 s0 n8 W1 a9).at (qb (q0c s0)) (q7e wk sk o dw y ++ [eS (zt wk.val sk y).2.2.2, eC (zt wk.val sk y).1])) p6 W2 j e → qO (j * 16) = true → e.pins.all qO = true → q0p ((ju c2 p2 s0 n8 W1 a9).at (qb (q0c s0)) (q7e wk sk o dw y ++ [eS (zt wk.val sk y).2.2.2, eC (zt wk.val sk y).1])) (q6x qO p6 p7) W3 j e := fun j e hx h1 h2 => qqc (c := ((ju c2 p2 s0 n8 W1 a9).at (qb (q0c s0)) (q7e wk sk o dw y ++ [eS (zt wk.val sk y).2.2.2, eC (zt wk.val sk y).1]))) (q := qO) hb6 hb7 hx h1 h2
    have ha9 : ∀ t, t < 69 → a9.tmps[t]? = some ((ju c2 p2 s0 n8 W1 a9).snap t) := fun t ht => by
     show _ = some (a9.tmps.getD t Go.undef)
     rw [Array.getD_eq_getD_getElem?, Array.getElem?_eq_getElem (by omega)]
     rfl
    have hfin : SF ((ju c2 p2 s0 n8 W1 a9).at (qb (q0c s0)) [eW wk, eS (zt wk.val sk y).2.2.2, .r ((o ++ [(zt wk.val sk y).1]).map eC), .i 0, dw]) qyj (q6x qO p6 p7) W3 a9 := by
     refine ⟨fun t x hx => ?_, fun j e he => ?_⟩
     ·have hx := qx hx
      have old : ∀ t z, lkA z2p.t t = some (.sn t z) → t < 69 → z.pins.all qO = true → z.keys.all qO = true → ∃ v, a9.tmps[t]? = some v ∧ (AV.sn t z).pd ((ju c2 p2 s0 n8 W1 a9).at (qb (q0c s0)) (q7e wk sk o dw y ++ [eS (zt wk.val sk y).2.2.2, eC (zt wk.val sk y).1])) (q6x qO p6 p7) W3 v := fun t z hl ht h1 h2 => by
       obtain ⟨v, e1, e2⟩ := hf6.t t _ hl
       obtain ⟨e3, -⟩ := id e2
       have e3 : v = (ju c2 p2 s0 n8 W1 a9).snap t := e3
       exact ⟨v, by rw [e3]; exact ha9 t ht, back _ _ e2 h1 h2⟩
      simp only [qyj, ql4, gnM] at hx
      rcases hx with ⟨rfl, rfl⟩ | ⟨rfl, rfl⟩ | ⟨rfl, rfl⟩ | ⟨rfl, rfl⟩ | ⟨rfl, rfl⟩ | ⟨rfl, rfl⟩
      ·exact old 0 (.ref 0 [] 0 qi) (by kernel_rfl) (by decide) (by kernel_rfl) (by kernel_rfl)
      ·exact old 1 (.bx 1 41 (.ref 0 [] 0 qi)) (by kernel_rfl) (by decide) (by kernel_rfl) (by kernel_rfl)
      ·obtain ⟨v, e1, e2⟩ := hf8.t 2 (.sn 2 (.ref 2 [] 0 zo)) (by kernel_rfl)
       rw [hc0] at e2
       obtain ⟨e3, -⟩ := id e2
       have e3 : v = (ju c2 p2 s0 n8 W1 a9).snap 2 := e3
       exact ⟨v, by rw [e3]; exact ha9 2 (by decide), e2⟩
      ·exact old 3 (.ref 3 [] 0 y8) (by kernel_rfl) (by decide) (by kernel_rfl) (by kernel_rfl)
      ·exact old 6 (.ref 6 [] 0 yb) (by kernel_rfl) (by decide) (by kernel_rfl) (by kernel_rfl)
      ·exact old 24 (.v (.tok 4) q3l [(0, 385)] []) (by kernel_rfl) (by decide) (by kernel_rfl) (by kernel_rfl)
     ·have he := qx he
      simp only [qyj, zb2, gnM] at he
      rcases he with ⟨rfl, rfl⟩ | ⟨rfl, rfl⟩ | ⟨rfl, rfl⟩ | ⟨rfl, rfl⟩
      ·exact backE 0 _ (hf6.m 0 _ (by kernel_rfl : lkA z2p.m 0 = some ⟨.tok 7, qi, qv 0 qi, []⟩)) (by kernel_rfl) (by kernel_rfl)
      ·have := hf8.m 2 _ (by kernel_rfl : lkA zez.m 2 = some ⟨.tok 2, zo, [(0, 33)], []⟩)
       rw [hc0] at this
       exact this
      ·exact backE 3 _ (hf6.m 3 _ (by kernel_rfl : lkA z2p.m 3 = some ⟨.tok 3, y8, [], []⟩)) (by kernel_rfl) (by kernel_rfl)
      ·exact backE 6 _ (hf6.m 6 _ (by kernel_rfl : lkA z2p.m 6 = some ⟨.tok 0, yb, [], []⟩)) (by kernel_rfl) (by kernel_rfl)
    refine ⟨⟨by have h1 := hbu6.1; have h2 := hb7.but.size; omega, fun b hlt hb => ?_⟩, by have h1 := hbu6.1; have h2 := hb7.but.size; omega, Nat.le_refl _, _, _, _, ⟨hrun, hok, hgr.trans (z1u hv), by simp; omega⟩, hb8, hfin, fun x b hx => hb8.bd x b hx, fun b hb => ?_⟩
    ·have h1 := hbu6.1
     refine (hb7.but.block b (by omega) ?_).trans (hbu6.2 b hlt hb)
     rintro ⟨q, hq⟩
     have hq := (q4s hq).2
     rcases hb with hb | hb
     ·have := hp6 q b hq
      omega
     ·exact hAh b (hb6.pa q b hq) hb
    ·have hb : p7 33 = some b := hb
     rcases q83 (q := qO) (c := ju c2 p2 s0 n8 W1 a9) hb6 hb7 hb with ⟨x, hx, hxb⟩ | hlt
     ·exact hfl x b hx hxb
     ·refine hfl0 hflo ?_
      have := hb6.but.size
      omega
  ·-- the put fails
   rw [qlc] at hrun
   rw [if_neg he] at hrun
   rw [z5u]
   refine q1j qib ?_
   refine q90 (c := ju c2 p2 s0 n8 W1 a9) (z := 69) (some (w9.heap.size + 1)) 3 (qwk s0) hfm (qyb s0) qib (n := 7) (ann := q75) (R := fun q => q = [eS (zt wk.val sk y).2.2.2, .r [], .i (zt wk.val sk y).2.2.1]) (B := fun _ _ => False) (d := []) (l := q7e wk sk o dw y) (σ := z3h) (k := zjd) (by
     show (q4q Tryz.prog (q0c s0) q75 c2.lo 69 qib 7 z3h zjd).go _ _ _ _
     rw [hlo]
     have e := zkd s0.cs.length s0.ys.length s0.tr.length s0.wk.length
     unfold q0c
     rw [e]
     exact zn2 hv hgr he rfl) rfl hb4.anew hf4 hd4 hz4 fun n' r σ' l' B' p' w' a' hl' hpre hgo hb' hf' hd' hz' => ?_
   cases r with
   | normal => exact hgo.elim
   | exit i => exact hgo.elim
   | ret =>
    obtain ⟨st, p5, hR, -, hb5, hf5⟩ := qhw (n' := n') (c := ju c2 p2 s0 n8 W1 a9) hgo hpre rfl hb' hf'
    have hR : st = [eS (zt wk.val sk y).2.2.2, .r [], .i (zt wk.val sk y).2.2.1] := hR
    subst hR
    rw [show q2a [] zbg 7 (q1p [] zbg [] 7 ziw) = zjn from zf7] at hf5
    refine ⟨hKp hb5.but fun b h => h, .inr ⟨rfl, ?_⟩⟩
    unfold WkJ
    rw [← hrun]
    exact ⟨he, p5, q7e wk sk o dw y, hb4.comp hb5, hf5.snapA (by rw [hz]; kernel_rfl) fun t ht => by
     show _ = some (a9.tmps.getD t Go.undef)
     rw [Array.getD_eq_getD_getElem?, Array.getElem?_eq_getElem ht]
     rfl, rfl⟩
 ·rintro W W' ⟨he, p3, l, hb3, hf3, hl⟩ hb
  obtain ⟨q1, q2⟩ := qo4 hSh hAh hFh hb3 hb
  exact ⟨he, p3, l, q1, SF.same q2 hf3, hl⟩
end
end
variable {ops : Array Oper} {rest : List Oper} {y : Operand} {Q : Exit → Act → World → Prop}
section
open Go.RowKit Go.Shelf
section
variable {w : World} {a : Act} {o : Oper} {v u : Value}
theorem z95 {Q : Act → Prop} (hg : o.guard = none) (h : (execOp a.eval o).run Tryz.prog w = .ok (.value v) w) (hk : wpStill Tryz.prog ops w Q rest (a.put o.dst v)) : wpStill Tryz.prog ops w Q (o :: rest) a := by
 unfold wpStill
 rw [if_pos (by simp [Region.wanted, hg])]
 unfold Oper.still
 rw [h]
 exact ⟨rfl, hk⟩
theorem qla {t : Nat} (h : a.tmps[t]? = some v) : a.eval (.tmp t) = v := by
 show a.tmps.getD t undef = v
 rw [Array.getD_eq_getD_getElem?, h]
 rfl
theorem qdp {k t : Nat} (h : k ≠ t) : (a.put (some k) v).tmps[t]? = a.tmps[t]? := by
 simp only [Act.put]
 rw [Array.getElem?_setIfInBounds_ne h]
theorem qvj {k : Nat} (h : k < a.tmps.size) : (a.put (some k) v).tmps[k]? = some v := by
 simp only [Act.put]
 rw [Array.getElem?_setIfInBounds_self, if_pos h]
theorem q7p {k : Option Nat} : (a.put k v).tmps.size = a.tmps.size := by
 cases k <;> simp [Act.put]
theorem qw4 {k : Option Nat} : (a.put k v).defers = a.defers := by
 cases k <;> simp [Act.put]
theorem z3g (heq : o.op = .load T y) (hy : a.eval y = u) (hr : (Instr.loadAt T u).run Tryz.prog w = .ok v w) : (execOp a.eval o).run Tryz.prog w = .ok (.value v) w := by
 subst hy
 generalize a.eval = r at *
 simp [execOp, heq, hr]
theorem zfu {j : Nat} (heq : o.op = .fieldAddr T y j) (hy : a.eval y = u) (hr : (Instr.fieldAt T u j).run Tryz.prog w = .ok v w) : (execOp a.eval o).run Tryz.prog w = .ok (.value v) w := by
 subst hy
 generalize a.eval = r at *
 simp [execOp, heq, hr]
theorem zmr {ad : Addr} (heq : o.op = .nilCheck y) (hy : a.eval y = .pointer (some ad)) : (execOp a.eval o).run Tryz.prog w = .ok (.value (.pointer (some ad))) w := by
 generalize a.eval = r at *
 simp [execOp, heq, hy]
end
section
variable {w : World} {a : Act} {g1 gs g6 : Nat} {v0 v1 v2 v3 v4 v5 u0 u1 u2 u3 u4 : Value} {T1 T T6 : TypeId} {d d6 : D} {F0 F6 : Nat → Prop}
set_option maxHeartbeats 1000000 in
theorem zm2 (hz : a.tmps.size = 69) (e1 : a.tmps[1]? = some (.pointer (some ⟨g1, 0, none⟩))) (hg1 : w.heap[g1]? = some (.cells #[.pointer (some ⟨gs, 0, none⟩)] T1 (0, 0))) (hgs : w.heap[gs]? = some (.cells #[v0, v1, v2, v3, v4, v5] T (0, 0))) (rd : Rd w F0 d qi [v0, v1, v2, v3, v4, v5])
  (e6 : a.tmps[6]? = some (.pointer (some ⟨g6, 0, none⟩))) (hg6 : w.heap[g6]? = some (.cells #[u0, u1, u2, u3, u4] T6 (0, 0))) (rd6 : Rd w F6 d6 qn [u1, u2])
  (hk : ∀ a', a'.defers = a.defers → a'.tmps.size = 69 → (∀ t, t < 30 → a'.tmps[t]? = a.tmps[t]?) → a'.tmps[35]? = some (.func (.func 94) #[] #[ptV w.heap.size, ptV (w.heap.size + 1)]) →
   Q .normal a' ((w.drew.alloc (.cells #[v0, v1, v2, v3, v4, v5] 27)).alloc (.cells #[u1, u2] 29))) : wkY.wp Tryz.prog Q a w := by
 rw [zd1]
 refine wp_region_still_tail 5 (by kernel_rfl) (by kernel_rfl) ?_
 generalize z8m.toArray = ops
 show wpStill Tryz.prog ops w.drew (fun a' => wpList Tryz.prog ops Q (z8m.drop 5) a' w.drew) (z8m.take 5) a
 simp only [z8m, List.take_succ_cons, List.take_zero, List.drop_succ_cons, List.drop_zero]
 refine z95 rfl (z3g (v := .pointer (some ⟨gs, 0, none⟩)) rfl (qla e1) (qbc (by kernel_rfl) (show w.drew.heap[g1]? = _ from hg1))) ?_
 refine z95 rfl (zmr (ad := ⟨gs, 0, none⟩) rfl (qla (qvj (by omega)))) ?_
 obtain ⟨va, hva, hpa⟩ := q6o (w := w.drew) (F := F0) (T := 27) (t := qi) (by kernel_rfl) (b := gs) (o := 0) (cs := [v0, v1, v2, v3, v4, v5]) (fun i v hv => by
  rw [qaw (show w.drew.heap[gs]? = _ from hgs), Nat.zero_add]
  simpa using hv) (d := d) (Rd.keeps (w := w) (w' := w.drew) (F := F0) (F' := F0) (fun b o h ho => ⟨ho, h⟩) _ rd)
 have hpa : va = .agg #[v0, v1, v2, v3, v4, v5] := hpa
 subst hpa
 refine z95 rfl (z3g rfl (qla (qvj (by rw [q7p]; omega))) hva) ?_
 refine z95 rfl (zfu (v := .pointer (some ⟨g6, 1, none⟩)) (u := .pointer (some ⟨g6, 0, none⟩)) rfl (qla (by
  rw [qdp (by decide), qdp (by decide), qdp (by decide)]
  exact e6)) (by
  have h := q94 (w := w.drew) (T := 73) (S := match yb with | .st S => S | _ => 0) (by kernel_rfl) (fs := [.int .i64, qn, qn]) (by kernel_rfl) (j := 1) (t := qn) rfl g6 0
  exact h)) ?_
 obtain ⟨vb, hvb, hpb⟩ := q6o (w := w.drew) (F := F6) (T := 29) (t := qn) (by kernel_rfl) (b := g6) (o := 1) (cs := [u1, u2]) (fun i v hv => by
  rw [qaw (show w.drew.heap[g6]? = _ from hg6)]
  rcases i with _ | _ | i
  ·exact hv
  ·exact hv
  ·cases hv) (d := d6) (Rd.keeps (w := w) (w' := w.drew) (F := F6) (F' := F6) (fun b o h ho => ⟨ho, h⟩) _ rd6)
 have hpb : vb = .agg #[u1, u2] := hpb
 subst hpb
 refine z95 rfl (z3g rfl (qla (qvj (by rw [q7p, q7p, q7p]; omega))) hvb) ?_
 refine wpStill_nil ?_
 -- the call
 obtain ⟨a5, ha5⟩ : ∃ a5 : Act, a5 = ((((a.put (some 30) (.pointer (some ⟨gs, 0, none⟩))).put (some 31) (.pointer (some ⟨gs, 0, none⟩))).put (some 32) (.agg #[v0, v1, v2, v3, v4, v5])).put (some 33) (.pointer (some ⟨g6, 1, none⟩))).put (some 34) (.agg #[u1, u2]) := ⟨_, rfl⟩
 have h32 : a5.eval (.tmp 32) = .agg #[v0, v1, v2, v3, v4, v5] := qla (by
  rw [ha5, qdp (by decide), qdp (by decide), qvj (by rw [q7p, q7p]; omega)])
 have h34 : a5.eval (.tmp 34) = .agg #[u1, u2] := qla (by
  rw [ha5, qvj (by rw [q7p, q7p, q7p, q7p]; omega)])
 have h5z : a5.tmps.size = 69 := by rw [ha5, q7p, q7p, q7p, q7p, q7p]; exact hz
 have h5d : a5.defers = a.defers := by rw [ha5, qw4, qw4, qw4, qw4, qw4]
 have h5t : ∀ t, t < 30 → a5.tmps[t]? = a.tmps[t]? := fun t ht => by
  rw [ha5, qdp (by omega), qdp (by omega), qdp (by omega), qdp (by omega), qdp (by omega)]
 show wpList Tryz.prog ops Q _ _ w.drew
 rw [show ((((a.put (some 30) (.pointer (some ⟨gs, 0, none⟩))).put (some 31) (.pointer (some ⟨gs, 0, none⟩))).put (some 32) (.agg #[v0, v1, v2, v3, v4, v5])).put (some 33) (.pointer (some ⟨g6, 1, none⟩))).put (some 34) (.agg #[u1, u2]) = a5 from ha5.symm]
 unfold wpList
 rw [if_pos (by simp [Region.wanted])]
 refine .inl ?_
 unfold Oper.wp
 rw [show (execOp a5.eval _).run Tryz.prog w.drew = .ok (.enter 63 #[.agg #[v0, v1, v2, v3, v4, v5], .agg #[u1, u2]]) w.drew by
  have hen := qze (63, 94, 27, 29) (by simp [qvx]) #[.agg #[v0, v1, v2, v3, v4, v5], .agg #[u1, u2]] w.drew
  have hfv : a5.eval (.func 63) = .func (.func 63) #[] #[] := rfl
  generalize a5.eval = r at *
  simp [execOp, resolve, Deferred.ofValue, hfv, invoke, h32, h34, hen]]
 show Calls Tryz.prog 63 _ w.drew _
 refine (z4f w.drew v0 v1 v2 v3 v4 v5 u1 u2).mono ?_
 rintro e w' ⟨rfl, rfl⟩
 show wpList Tryz.prog ops Q [] (a5.put (some 35) _) _
 refine hk _ (by rw [qw4]; exact h5d) (by rw [q7p]; exact h5z) (fun t ht => by rw [qdp (by omega)]; exact h5t t ht) (qvj (by omega))
end
end
variable {F : Nat → Prop}
section
open Go.RowKit Go.Shelf
theorem zmw {w : World} {k : Wk} (h : Rd w F (eW k) yb cs) : cs = [.int .i64 k.ser, .int .i64 k.att.t, .int .i64 k.att.n, .int .i64 k.val.t, .int .i64 k.val.n] ∧ Rd w F (eC k.att) qn [.int .i64 k.att.t, .int .i64 k.att.n] ∧ k.att.ok := by
 have hfl : flds (match yb with | .st S => S | _ => 0) = some [.int .i64, qn, qn] := by kernel_rfl
 obtain ⟨l, e, hF⟩ := Ins.of_rdS hfl h
 injection e with e
 subst e
 obtain ⟨d, l', c1, c2, e1, rfl, h1, hG⟩ := Ins.of_rdF hF
 obtain ⟨d2, l2, c3, c4, e2, rfl, h2, hH⟩ := Ins.of_rdF hG
 obtain ⟨d3, l3, c5, c6, e3, rfl, h3, hI⟩ := Ins.of_rdF hH
 obtain ⟨rfl, rfl⟩ := Ins.of_rdN hI
 injection e1 with e1 e1'
 subst e1 e1'
 injection e2 with e2 e2'
 subst e2 e2'
 injection e3 with e3 _
 subst e3
 obtain ⟨n1, -, q1, rfl⟩ := Ins.of_rdI h1
 injection q1 with q1
 subst q1
 have hok := z4t h2
 obtain rfl := quu h2
 obtain rfl := quu h3
 exact ⟨rfl, h2, hok⟩
noncomputable def znc : Nat := match wkF with
 | .rangeFunc _ _ _ (.block i _) => i
 | _ => 0
theorem zk2 : wkF = .rangeFunc (.tmp 35) #[36, 37] z9e (.block znc z48) := by kernel_rfl
theorem ItOk.blk {w : World} {n bs bc m : Nat} {ti tx : Tmp} {assign body : Code} {css : List Value} {s : So} {c0 : Ce} {I : Nat → Nat → World → Prop} {M : Nat → Nat → Nat → Act → World → Prop} {J : World → Prop} (h : ItOk w a n bs bc m ti tx assign body css s c0 I M J) (i : Nat) : ItOk w a n bs bc m ti tx assign (.block i body) css s c0 I M J :=
 ⟨h.rd, h.step, h.assign, h.mstep, fun k N B a1 W hk hM => wpIn_block (wpIn_mono (h.body k N B a1 W hk hM) fun e a w hq => by
  rcases hq with ⟨h1, ⟨rfl, h2⟩ | ⟨rfl, h2⟩⟩
  ·exact ⟨h1, .inl ⟨rfl, h2⟩⟩
  ·exact ⟨h1, .inr ⟨rfl, h2⟩⟩), h.stop⟩
section
variable {c2 : Cx} {p8 : qm} {w8 : World} {a8 : Act} {s sk : So} {ws kk : D} {o : List Ce} {wk : Wk} {i2 : Nat}
set_option maxHeartbeats 2000000 in
theorem zcf (hlo : c2.lo = 1) (hfz : ∀ te, c2.F.mx te = 0) (hb : Bs c2.A c2.F w8 (pinned p8) p8 w8) (hf : SF (c2.at (qb q56) [eS s, ws, kk, eS sk, .r (o.map eC), .i 0, eS sk, .r (o.map eC), .i 0, eW wk]) zgb p8 w8 a8) (hz : a8.tmps.size = 69) (hok : qba wk.val sk (yf sk wk.att) = true) (hob : o.length + (yf sk wk.att).length + 1 ≤ 8796093021952) (so : sk.ok)
  (hN : ∀ A3 p' W' a' D, (∀ b, A3 b → c2.A b) → ¬ A3 D → w8.heap.size ≤ D → W'.heap[D]? = some (.deferred (some [])) → a'.defers = qre D :: a8.defers → a'.tmps.size = 69 → (∀ b, b < w8.heap.size → ¬ pinned p8 b → W'.heap[b]? = w8.heap[b]?) → Bs c2.A c2.F w8 (pinned p8) p' W' → Bs A3 c2.F W' (pinned p') p' W' →
   (jj wk.val sk o (yf sk wk.att)).2.2 = 0 → SF (({ c2 with A := A3 } : Cx).at (qb q56) [eS s, ws, kk, eS (jj wk.val sk o (yf sk wk.att)).1, .r ((jj wk.val sk o (yf sk wk.att)).2.1.map eC), .i 0]) q4r p' W' a' → (jj wk.val sk o (yf sk wk.att)).2.1.length ≤ o.length + (yf sk wk.att).length → Q .normal a' W')
  (hR : ∀ A3 p' W' a' D, (∀ b, A3 b → c2.A b) → ¬ A3 D → w8.heap.size ≤ D → W'.heap[D]? = some (.deferred (some [])) → a'.defers = qre D :: a8.defers → a'.tmps.size = 69 → (∀ b, b < w8.heap.size → ¬ pinned p8 b → W'.heap[b]? = w8.heap[b]?) → Bs c2.A c2.F w8 (pinned p8) p' W' → Bs A3 c2.F W' (pinned p') p' W' →
   ¬ (jj wk.val sk o (yf sk wk.att)).2.2 = 0 → SF (({ c2 with A := A3 } : Cx).at (qb q56) [eS s, eS (jj wk.val sk o (yf sk wk.att)).1, .r [], .i (jj wk.val sk o (yf sk wk.att)).2.2]) wkE p' W' a' → Q .ret a' W') :
  (Code.seq wkY (.block i2 wkF)).wpIn (FR none) 5 Tryz.prog Q a8 w8 := by
 -- what is known before the copies
 obtain ⟨g1', t1, g1, u1, ⟨hp1, -⟩, rfl, hg1, gs', hgs', rfl, -⟩ := hf.t 1 (.bx 1 41 (.ref 0 [] 0 qi)) (by kernel_rfl)
 obtain ⟨gs, cs, T, hgs, hh, hT, hcon⟩ := hf.m 0 ⟨.tok 6, qi, qv 0 qi, []⟩ (by kernel_rfl)
 have hcon : Con c2.A p8 w8 (eS sk) qi (qv 0 qi) [] cs.toList := hcon
 have hgs' : p8 (0 * 16) = some gs' := hgs'
 rw [hgs] at hgs'
 injection hgs' with hgs'
 subst hgs'
 obtain ⟨v0, v1, v2, v3, ecs, q0, q1, q2, q3, r1, r2⟩ := z39 hcon
 obtain ⟨cs⟩ := cs
 have ecs : cs = _ := ecs
 subst ecs
 have rd0 : Rd w8 (FFD c2.A p8 ([] ++ (qv 0 qi).map (·.2))) (eS sk) qi [v0, v1, v2, v3, .int .i64 sk.ser, .int .i64 sk.mx] := Con.rd hcon (fun x hx => List.mem_append_left _ hx) (fun x hx => List.mem_append_right _ hx)
 obtain ⟨g6', t6, g6, hp6, rfl, -⟩ := hf.t 6 (.ref 6 [] 0 yb) (by kernel_rfl)
 obtain ⟨gw, csw, Tw, hgw, hhw, hTw, hcw⟩ := hf.m 6 ⟨.tok 9, yb, [], []⟩ (by kernel_rfl)
 have hp6 : p8 (6 * 16) = some g6 := hp6
 rw [hp6] at hgw
 injection hgw with hgw
 subst hgw
 have rdw : Rd w8 (FFD c2.A p8 []) (eW wk) yb csw.toList := Con.rd (show Con c2.A p8 w8 (eW wk) yb [] [] csw.toList from hcw) (fun _ h => h) (fun _ h => nomatch h)
 obtain ⟨ecw, rda, wo⟩ := zmw rdw
 obtain ⟨csw⟩ := csw
 have ecw : csw = _ := ecw
 subst ecw
 refine wpIn_seq ((wpIn_wide (n := 5)).2 (zm2 hz t1 hg1 hh rd0 t6 hhw rda fun a9 hd9 hz9 ht9 h35 => ?_))
 obtain ⟨w9, hw9⟩ : ∃ w9, w9 = ((w8.drew.alloc (.cells #[v0, v1, v2, v3, .int .i64 sk.ser, .int .i64 sk.mx] 27)).alloc (.cells #[.int .i64 wk.att.t, .int .i64 wk.att.n] 29)) := ⟨_, rfl⟩
 rw [← hw9]
 have h9s : w9.heap.size = w8.heap.size + 2 := by rw [hw9]; simp
 have hb9 : But Nil w8 w9 := by rw [hw9]; exact (((But.refl _ _).drew).alloc _).alloc _
 have h9a : w9.heap[w8.heap.size]? = some (.cells #[v0, v1, v2, v3, .int .i64 sk.ser, .int .i64 sk.mx] 27 (0, 0)) := by rw [hw9]; exact q1x (jp rfl)
 have h9b : w9.heap[w8.heap.size + 1]? = some (.cells #[.int .i64 wk.att.t, .int .i64 wk.att.n] 29 (0, 0)) := by rw [hw9]; exact jp (by simp)
 clear hw9
 show (Code.block i2 wkF).wpIn (FR none) 5 Tryz.prog Q a9 w9
 refine wpIn_block ?_
 rw [zk2]
 obtain ⟨r, hr⟩ : ∃ r, r = jj wk.val sk o (yf sk wk.att) := ⟨_, rfl⟩
 rw [← hr] at hN hR
 have rd9 : Rd w9 (fun b => b ≠ w8.heap.size + 1) (eS sk) qi [v0, v1, v2, v3, .int .i64 sk.ser, .int .i64 sk.mx] := Rd.keeps (fun b o _ ho => ⟨(hb9.block b (Array.getElem?_eq_some_iff.1 ho).1 (fun h => h)).trans ho, by have : b < w8.heap.size := (Array.getElem?_eq_some_iff.1 ho).1; omega⟩) _ rd0
 refine z9b (nn := 5) (bs := w8.heap.size) (bc := w8.heap.size + 1) (css := [v0, v1, v2, v3, .int .i64 sk.ser, .int .i64 sk.mx]) (s := sk) (c0 := wk.att) (by omega) (qla h35) (by omega) ⟨_, h9a⟩ rd9 so ⟨_, by kernel_rfl, h9b⟩ wo fun m W1 hbut hm1 hm2 => ?_
 have hw1 := hbut.size
 have hbut8 : But Nil w8 W1 := hb9.trans_nil hbut
 have hp8 : ∀ x b, p8 x = some b → b < w8.heap.size := hb.bd
 -- the facts at the first round
 have hst : Stab (wkA c2.A w8.heap.size W1.heap.size) no no p8 w8 p8 W1 := ⟨hbut8.size, fun b hlt _ hfr => ⟨hbut8.block b hlt fun h => h, hfr⟩, fun _ _ _ h => h, fun x b _ hx => hbut8.block b (hp8 x b hx) fun h => h⟩
 have hf1 : SF (({ (c2.at (qb q56) [eS s, ws, kk, eS sk, .r (o.map eC), .i 0, eS sk, .r (o.map eC), .i 0, eW wk]) with A := wkA c2.A w8.heap.size W1.heap.size } : Cx)) zgb p8 W1 a8 := SF.same hst (SF.chP (A' := wkA c2.A w8.heap.size W1.heap.size) (fun b hb hA _ => ⟨hA, .inl hb⟩) hf)
 have sn9 : ∀ t v, t < 30 → a8.tmps[t]? = some v → a9.tmps[t]? = some v ∧ v = a9.tmps.getD t Go.undef := fun t v ht h => by
  have h' := (ht9 t ht).trans h
  refine ⟨h', ?_⟩
  rw [Array.getD_eq_getD_getElem?, h']
  rfl
 have hf0 : SF ((ju c2 p8 sk w8.heap.size W1 a9).at (qb (q0c sk)) [eW wk, eS sk, .r (o.map eC), .i 0, ws]) qyj p8 W1 a9 := by
  refine ⟨fun t x hx => ?_, fun j e he => ?_⟩
  ·have hx := qx hx
   simp only [qyj, ql4, gnM] at hx
   rcases hx with ⟨rfl, rfl⟩ | ⟨rfl, rfl⟩ | ⟨rfl, rfl⟩ | ⟨rfl, rfl⟩ | ⟨rfl, rfl⟩ | ⟨rfl, rfl⟩
   ·obtain ⟨v, e1, e2⟩ := hf1.t 0 (.ref 0 [] 0 qi) (by kernel_rfl)
    obtain ⟨e3, e4⟩ := sn9 0 v (by decide) e1
    exact ⟨v, e3, e4, e2⟩
   ·obtain ⟨v, e1, e2⟩ := hf1.t 1 (.bx 1 41 (.ref 0 [] 0 qi)) (by kernel_rfl)
    obtain ⟨e3, e4⟩ := sn9 1 v (by decide) e1
    exact ⟨v, e3, e4, e2⟩
   ·obtain ⟨v, e1, e2⟩ := hf1.t 2 (.ref 2 [] 0 zo) (by kernel_rfl)
    obtain ⟨e3, e4⟩ := sn9 2 v (by decide) e1
    exact ⟨v, e3, e4, e2⟩
   ·obtain ⟨v, e1, -, e2⟩ := hf1.t 3 (.sn (VB + 3) (.ref 3 [] 0 y8)) (by kernel_rfl)
    obtain ⟨e3, e4⟩ := sn9 3 v (by decide) e1
    exact ⟨v, e3, e4, e2⟩
   ·obtain ⟨v, e1, e2⟩ := hf1.t 6 (.ref 6 [] 0 yb) (by kernel_rfl)
    obtain ⟨e3, e4⟩ := sn9 6 v (by decide) e1
    exact ⟨v, e3, e4, e2⟩
   ·obtain ⟨v, e1, e2⟩ := hf1.t 24 (.v (.tok 1) q3l [(0, 385)] []) (by kernel_rfl)
    obtain ⟨e3, e4⟩ := sn9 24 v (by decide) e1
    exact ⟨v, e3, e4, e2⟩
  ·have he := qx he
   simp only [qyj, zb2, gnM] at he
   rcases he with ⟨rfl, rfl⟩ | ⟨rfl, rfl⟩ | ⟨rfl, rfl⟩ | ⟨rfl, rfl⟩
   ·exact hf1.m 0 ⟨.tok 6, qi, qv 0 qi, []⟩ (by kernel_rfl)
   ·exact hf1.m 2 ⟨.tok 7, zo, [(0, 33)], []⟩ (by kernel_rfl)
   ·exact hf1.m 3 ⟨.tok 8, y8, [], []⟩ (by kernel_rfl)
   ·exact hf1.m 6 ⟨.tok 9, yb, [], []⟩ (by kernel_rfl)
 have hbs : ∀ F : Flr, F.fr = c2.F.fr → Flo F W1 W1 → Bs (wkA c2.A w8.heap.size W1.heap.size) F W1 (wkS p8 w9 w8.heap.size m) p8 W1 := fun F hfr hF =>
  ⟨hb.inj, fun x b hx => Nat.lt_of_lt_of_le (hp8 x b hx) hbut8.size, But.refl _ _, fun x b hx => .inl (.inl ⟨x, hx⟩), fun b hb' => ⟨⟨(hb.new b (by omega)).1, .inr hb'⟩, by rw [hfr]; exact (hb.new b (by omega)).2⟩, fun x b hx => ⟨hb.pa x b hx, .inl (hp8 x b hx)⟩, fun x b hx => (hb.obj x b hx).same (hbut8.block b (hp8 x b hx) fun h => h), hF⟩
 have hAD : ¬ wkA c2.A w8.heap.size W1.heap.size w9.heap.size := fun h => by
  have := h.2
  omega
 have hSp : ∀ b, wkS p8 w9 w8.heap.size m b → pinned p8 b ∨ w8.heap.size ≤ b := by
  rintro b (h | h)
  ·exact .inl h
  ·unfold q31 at h
   exact .inr (by omega)
 -- the end of the range
 have hval : ∀ {W : World} {p3 : qm} {t : Nat} {x : X} {l : List D}, t < 30 → lkA zgb.t t = some (.v x (.int .i64) [] []) → (x.ev (evl (qb q56) [eS s, ws, kk, eS sk, .r (o.map eC), .i 0, eS sk, .r (o.map eC), .i 0, eW wk]) = x.ev (evl (qb q56) l)) → ∃ v, a9.tmps[t]? = some v ∧ (AV.v x (.int .i64) [] []).pd (({ c2 with A := wkA c2.A w8.heap.size W1.heap.size } : Cx).at (qb q56) l) p3 W v := fun {W p3 t x l} ht hx he => by
  obtain ⟨v, e1, cs, e2, e3⟩ := hf.t t _ hx
  refine ⟨v, (sn9 t v ht e1).1, cs, e2, ?_⟩
  rw [show x.ev (c2.at (qb q56) _).v = x.ev (evl (qb q56) l) from he] at e3
  exact Con.of_rd (Rd.flat 8 _ (by kernel_rfl) (Con.rd e3 (dep' := []) (fun _ h => h) (fun _ h => nomatch h)))
 have hbsW : ∀ (F : Flr) p3 W, F.fr = c2.F.fr → Bs (wkA c2.A w8.heap.size W1.heap.size) F W1 (wkS p8 w9 w8.heap.size m) p3 W → Bs c2.A c2.F w8 (pinned p8) p3 W ∧ Bs (wkA c2.A w8.heap.size W1.heap.size) c2.F W (pinned p3) p3 W ∧ ∀ b, b < w8.heap.size → ¬ pinned p8 b → W.heap[b]? = w8.heap[b]? := fun F p3 W hfr h3 => by
  have h1 := h3.but.size
  have hbW : But (pinned p8) w8 W := (But.mono hbut8 fun _ h _ => h.elim).trans h3.but fun b hS hlt => by
   rcases hSp b hS with h | h
   ·exact .inl h
   ·exact .inr h
  refine ⟨⟨h3.inj, h3.bd, hbW, fun x b hx => ?_, hb.new, fun x b hx => (h3.pa x b hx).1, h3.obj, Flo.of0 hfz hb.flo⟩, ⟨h3.inj, h3.bd, But.refl _ _, fun x b hx => .inl ⟨x, hx⟩, fun b hb' => ⟨(h3.new b (by omega)).1, (hb.new b (by omega)).2⟩, h3.pa, h3.obj, Flo.of0 hfz hb.flo⟩, fun b hlt hn => hbW.block b hlt hn⟩
  rcases h3.pin x b hx with h | h
  ·exact hSp b h
  ·exact .inr (by omega)
 have fin : ∀ (F : Flr) p3 W sk' o', F.fr = c2.F.fr → Bs (wkA c2.A w8.heap.size W1.heap.size) F W1 (wkS p8 w9 w8.heap.size m) p3 W → SF ((ju c2 p8 sk w8.heap.size W1 a9).at (qb (q0c sk)) [eW wk, eS sk', .r (o'.map eC), .i 0, ws]) qyj p3 W a9 → W.heap[w9.heap.size]? = some (.deferred (some [])) → r = (sk', o', 0) → o'.length ≤ o.length + (yf sk wk.att).length → Q .normal { a9 with defers := { target := .collected w9.heap.size, args := #[] } :: a9.defers } W := fun F p3 W sk' o' hfr h3 hs hD hre hol => by
  obtain ⟨b1, b2, b3⟩ := hbsW F p3 W hfr h3
  have e1 : r.1 = sk' := by rw [hre]
  have e2 : r.2.1 = o' := by rw [hre]
  have e3 : r.2.2 = 0 := by rw [hre]
  refine hN _ p3 W _ w9.heap.size (fun b h => h.1) hAD (by omega) hD (by show _ :: a9.defers = _; rw [hd9]; rfl) hz9 b3 b1 b2 e3 ?_ (by rw [e2]; exact hol)
  rw [e1, e2]
  refine ⟨fun t x hx => ?_, fun j e he => ?_⟩
  ·have hx := qx hx
   simp only [q4r, gnM] at hx
   rcases hx with ⟨rfl, rfl⟩ | ⟨rfl, rfl⟩ | ⟨rfl, rfl⟩ | ⟨rfl, rfl⟩ | ⟨rfl, rfl⟩ | ⟨rfl, rfl⟩ | ⟨rfl, rfl⟩
   ·obtain ⟨v, e1, -, e2⟩ := hs.t 0 (.sn 0 (.ref 0 [] 0 qi)) (by kernel_rfl)
    exact ⟨v, e1, e2⟩
   ·obtain ⟨v, e1, -, e2⟩ := hs.t 1 (.sn 1 (.bx 1 41 (.ref 0 [] 0 qi))) (by kernel_rfl)
    exact ⟨v, e1, e2⟩
   ·obtain ⟨v, e1, -, e2⟩ := hs.t 2 (.sn 2 (.ref 2 [] 0 zo)) (by kernel_rfl)
    exact ⟨v, e1, e2⟩
   ·obtain ⟨v, e1, -, e2⟩ := hs.t 3 (.sn 3 (.ref 3 [] 0 y8)) (by kernel_rfl)
    obtain ⟨v', f1, f2, -⟩ := hf.t 3 (.sn (VB + 3) (.ref 3 [] 0 y8)) (by kernel_rfl)
    have f3 := (sn9 3 v' (by decide) f1).1
    have e1' : a9.tmps[3]? = some v := e1
    rw [f3] at e1'
    injection e1' with e1'
    subst e1'
    exact ⟨v', f3, f2, e2⟩
   ·obtain ⟨v, e1, -, e2⟩ := hs.t 24 (.sn 24 (.v (.tok 4) q3l [(0, 385)] [])) (by kernel_rfl)
    exact ⟨v, e1, e2⟩
   ·exact hval (by decide) (by kernel_rfl) rfl
   ·exact hval (by decide) (by kernel_rfl) rfl
  ·have he := qx he
   simp only [q4r, gnM] at he
   rcases he with ⟨rfl, rfl⟩ | ⟨rfl, rfl⟩ | ⟨rfl, rfl⟩
   ·exact hs.m 0 ⟨.tok 1, qi, qv 0 qi, []⟩ (by kernel_rfl)
   ·exact hs.m 2 ⟨.tok 2, zo, [(0, 33)], []⟩ (by kernel_rfl)
   ·exact hs.m 3 ⟨.tok 3, y8, [], []⟩ (by kernel_rfl)
 rcases Nat.eq_zero_or_pos (yf sk wk.att).length with hnil | hpos
 ·-- no attributes
  have hnil := List.eq_nil_of_length_eq_zero hnil
  have hre : r = (sk, o, 0) := by rw [hr, hnil]; rfl
  have hF0 : Flo (⟨fun _ => 0, fun _ => 0, c2.F.fr⟩ : Flr) W1 W1 := fun k h => absurd h (Nat.lt_irrefl 0)
  refine ⟨fun k N W => w9.heap.size + 2 ≤ N ∧ N ≤ W.heap.size ∧ But (q31 w9 (w8.heap.size + 1) m) W1 W, fun _ _ _ _ _ => False, fun _ => False, ⟨?_, ?_, ?_, ?_, ?_, fun _ _ h => h.elim⟩, ⟨by omega, Nat.le_refl _, But.refl _ _⟩, ?_, fun W h => h.elim⟩
  ·rintro k N W ⟨h1, h2, h3⟩
   have hk : ∀ b o, w9.heap[b]? = some o → ¬ q31 w9 (w8.heap.size + 1) m b → W.heap[b]? = some o := fun b o ho hh => (h3.block b (by have : b < w9.heap.size := (Array.getElem?_eq_some_iff.1 ho).1; omega) hh).trans ((hbut.block b (Array.getElem?_eq_some_iff.1 ho).1 fun h => h).trans ho)
   refine ⟨h1, h2, ⟨_, hk _ _ h9a (by unfold q31; omega)⟩, Rd.keeps (fun b o _ ho => ?_) _ rd0⟩
   have hlt : b < w8.heap.size := (Array.getElem?_eq_some_iff.1 ho).1
   exact ⟨hk b o ((hb9.block b hlt fun h => h).trans ho) (by unfold q31; omega), by omega, by omega⟩
  ·rintro k N W W' ⟨h1, h2, h3⟩ hb'
   exact ⟨h1, Nat.le_trans h2 hb'.size, h3.trans hb' fun b h _ => .inl h⟩
  ·rintro k N W x hx
   rw [hnil] at hx
   cases hx
  ·intro k N B a1 W W' h
   exact h.elim
  ·intro k N B a1 W _ h
   exact h.elim
  ·rintro N W ⟨h1, h2, h3⟩ hD
   obtain ⟨q1, q2⟩ := qo4 (W1 := W1) (F := ⟨fun _ => 0, fun _ => 0, c2.F.fr⟩) (S1 := wkS p8 w9 w8.heap.size m) (A' := wkA c2.A w8.heap.size W1.heap.size) (fun b h => .inr h) (fun b h => by
    have := h.2
    unfold q31
    omega) (fun b h => absurd h (Nat.lt_irrefl 0)) (hbs ⟨fun _ => 0, fun _ => 0, c2.F.fr⟩ rfl hF0) h3
   exact fin ⟨fun _ => 0, fun _ => 0, c2.F.fr⟩ p8 W sk o rfl q1 (SF.same q2 hf0) hD hre (by omega)
 ·-- attributes
  obtain ⟨hc2, hy2⟩ := ze0 hpos
  have k9 : ∀ {pin : Nat} {E : TypeId} {te : Ty} {l : List D} {v : Value}, q21 c2.A p8 w8 [] pin E te l v → q21 c2.A p8 w9 [] pin E te l v := fun h => q21.kept (Z := no) (L := no) h ⟨hb9.size, fun b hlt _ hfr => ⟨hb9.block b hlt fun h => h, hfr⟩, fun _ _ _ h => h, fun x b _ hx => hb9.block b (hp8 x b hx) fun h => h⟩ (fun _ h => nomatch h) ⟨rfl, rfl⟩
  have k1 : ∀ {pin : Nat} {E : TypeId} {te : Ty} {l : List D} {v : Value}, q21 c2.A p8 w8 [] pin E te l v → q21 c2.A p8 W1 [] pin E te l v := fun h => q21.kept (Z := no) (L := no) h ⟨hbut8.size, fun b hlt _ hfr => ⟨hbut8.block b hlt fun h => h, hfr⟩, fun _ _ _ h => h, fun x b _ hx => hbut8.block b (hp8 x b hx) fun h => h⟩ (fun _ h => nomatch h) ⟨rfl, rfl⟩
  have hflo := zk9 (fr := c2.F.fr) hb.inj (k1 q0) (k1 q1) (k1 q2) (k1 q3) hc2 hy2
  refine ⟨_, _, _, ItOk.blk (zmf (c2 := c2) (p2 := p8) (wk := wk) (o0 := o) (dw := ws) hlo hz9 h9s hb.inj hp8 (k9 q0) (k9 q1) (k9 q2) (k9 q3) r1 r2 ⟨_, h9a⟩ hbut hm1 hm2 hob) znc, ?_, ?_, ?_⟩
  ·refine ⟨by omega, Nat.le_refl _, p8, sk, o, ⟨rfl, by rw [List.drop_zero]; exact hok, qaq.refl _, by omega⟩, hbs _ rfl hflo, hf0, fun x b hx => by have := hp8 x b hx; omega, fun b hb33 => ?_⟩
   have ne : ∀ x, x ≠ 33 → ¬ p8 x = some b := fun x h hx => h (hb.inj x 33 b hx hb33)
   simp only [q17, if_neg (ne 1 (by decide)), if_neg (ne 2 (by decide)), if_neg (ne 3 (by decide)), if_neg (ne 4 (by decide))]
  ·rintro N W ⟨-, -, p3, sk', o', ⟨hrun, -, -, hlen⟩, h3, hs, -, -⟩ hD
   rw [List.drop_length] at hrun
   exact fin (q17 p8 sk c2.F.fr) p3 W sk' o' rfl h3 hs hD (hr.trans hrun.symm) hlen
  ·rintro W ⟨he, p3, l, h3, hs, hl⟩ hD
   obtain ⟨b1, b2, b3⟩ := hbsW (q17 p8 sk c2.F.fr) p3 W rfl h3
   rw [← hr] at he hs
   refine hR _ p3 W _ w9.heap.size (fun b h => h.1) hAD (by omega) hD (by show _ :: a9.defers = _; rw [hd9]; rfl) hz9 b3 b1 b2 he ?_
   match l, hl with
   | [l0, l1, l2, l3, l4, l5, l6], _ =>
   refine ⟨fun t x hx => ?_, fun j e he => ?_⟩
   ·have hx := qx hx
    simp only [wkE, gnM] at hx
    rcases hx with ⟨rfl, rfl⟩ | ⟨rfl, rfl⟩ | ⟨rfl, rfl⟩ | ⟨rfl, rfl⟩
    ·obtain ⟨v, e1, -, e2⟩ := hs.t 0 (.sn 0 (.ref 0 [] 0 qi)) (by kernel_rfl)
     exact ⟨v, e1, e2⟩
    ·obtain ⟨v, e1, -, e2⟩ := hs.t 1 (.sn 1 (.bx 1 41 (.ref 0 [] 0 qi))) (by kernel_rfl)
     exact ⟨v, e1, e2⟩
    ·obtain ⟨v, e1, -, e2⟩ := hs.t 2 (.sn 2 (.ref 2 [] 0 zo)) (by kernel_rfl)
     exact ⟨v, e1, e2⟩
    ·obtain ⟨v, e1, -, e2⟩ := hs.t 3 (.sn 3 (.ref 3 [] 0 y8)) (by kernel_rfl)
     obtain ⟨v', f1, f2, -⟩ := hf.t 3 (.sn (VB + 3) (.ref 3 [] 0 y8)) (by kernel_rfl)
     have f3 := (sn9 3 v' (by decide) f1).1
     have e1' : a9.tmps[3]? = some v := e1
     rw [f3] at e1'
     injection e1' with e1'
     subst e1'
     exact ⟨v', f3, f2, e2⟩
   ·have he := qx he
    simp only [wkE, gnM] at he
    rcases he with ⟨rfl, rfl⟩ | ⟨rfl, rfl⟩ | ⟨rfl, rfl⟩
    ·exact hs.m 0 ⟨.tok 7, qi, qv 0 qi, []⟩ (by kernel_rfl)
    ·exact hs.m 2 ⟨.tok 8, zo, [(0, 33)], []⟩ (by kernel_rfl)
    ·exact hs.m 3 ⟨.tok 9, y8, [], []⟩ (by kernel_rfl)
end
end
section
open Go.RowKit Go.Shelf
abbrev q9c : Ty := .row 66
noncomputable def owC : Code := match Tryz.f33.body with
 | some c => c
 | none => .skip
noncomputable def ow1 : List Code := [sqL owC, sqL (sqR owC), sqL (sqL (sqR (sqR owC)))]
noncomputable def owL : Code := bkC (sqR (sqL (sqR (sqR owC))))
noncomputable def owZ : Code := sqR (sqR (sqR owC))
noncomputable def zft : Code := match owL with
 | .rangeFunc _ _ a _ => a
 | _ => .skip
noncomputable def zdr : Code := match owL with
 | .rangeFunc _ _ _ b => b
 | _ => .skip
def z23 : Ann := ⟨[2, 3, 4, 5, 6, 9, 18, 19, 20, 27], []⟩
noncomputable def zfx : List ResultVar := Tryz.f33.results.toList
def sR : St := ⟨[(4, .ref 4 [] 0 q9c), (18, .ff 94 27 (.tok 0) qi 29 (.get (.fld (.tok 0) 0) (.add (.fld (.tok 1) 1) (.lit (.i 2)))) qn [])], []⟩
abbrev iR : List Item := [(4, q9c, [(0, 65)], [])]
def sO1 : St := ⟨[(4, .sn 4 (.ref 4 [] 0 q9c)), (19, .v (.tok 1) .str [] []), (20, .v (.tok 2) qn [] [])], [(4, ⟨.tok 0, q9c, [(0, 65)], []⟩)]⟩
def sO2 : St := ⟨[(4, .sn 4 (.ref 4 [] 0 q9c)), (5, .v (.tok 1) .str [] []), (6, .ref 6 [] 0 qn)], [(4, ⟨.tok 0, q9c, [(0, 65)], []⟩), (6, ⟨.tok 2, qn, [], []⟩)]⟩
def sO3 : St := ⟨[(4, .sn 4 (.ref 4 [] 0 q9c))], []⟩
def sO4 : St := ⟨[(4, .sn 4 (.ref 4 [] 0 q9c))], [(4, ⟨.tok 0, q9c, [(0, 65)], []⟩)]⟩
def sO5 : St := ⟨[(4, .ref 4 [] 0 q9c)], [(4, ⟨.tok 0, q9c, [(0, 65)], []⟩)]⟩
def zl3 : Tree := (.br (.not (.eq (.fld (.tok 1) 0) (.lit (.i 5)))) (.need [(.not (.eq (.fld (.tok 1) 0) (.lit (.i 5))))] (.leaf [(.lit (.r []))])) (.need [(.le (.lit (.i 0)) (.add (.fld (.tok 1) 1) (.lit (.i 2)))), (.lt (.add (.fld (.tok 1) 1) (.lit (.i 2))) (.len (.fld (.tok 0) 0))), (.rng .i64 (.add (.fld (.tok 1) 1) (.lit (.i 2))))] (.need [(.eq (.fld (.tok 1) 0) (.lit (.i 5)))] (.leaf [(.lit (.r []))]))))
theorem zdu : q4q Tryz.prog [] z23 2 28 ow1 2 (qql zi) (fun n r σ => match r with | .normal => .need [.eq (.fld (.tok 1) 0) (.lit (.i 5))] (qn8 [] iR [] sR n .normal σ) | r => .need [.not (.eq (.fld (.tok 1) 0) (.lit (.i 5)))] (qap zi zfx n r σ)) = zl3 := by kernel_rfl
def zo1 : Tree := (.leaf [])
theorem zdy : q4q Tryz.prog [] z23 2 28 [zft] 3 sO1 (toN [] [] [] sO2) = zo1 := by kernel_rfl
def zl6 : Tree := (.need [(.le (.add (.len (.tok 0)) (.lit (.i 1))) (.lit (.i 4398046510976)))] (.leaf [(.app (.tok 0) (.row [(.mk [(.tok 1), (.tok 2)])]))]))
theorem zd7 : q4q Tryz.prog [] z23 2 28 [zdr] 3 sO2 (toN [] iR [] sO3) = zl6 := by kernel_rfl
def zoe : Tree := (.leaf [(.tok 0)])
theorem zg0 : toT Tryz.prog [] z23 2 28 owZ [] 1 sO5 (qap zi zfx) = zoe := by kernel_rfl
end
section
open Go.RowKit Go.Shelf
theorem z8g : Tryz.f33.body = some owC := by kernel_rfl
theorem zko : owC = seqs [sqL owC, sqL (sqR owC)] (.seq (.seq (sqL (sqL (sqR (sqR owC)))) (.block 0 owL)) owZ) := by kernel_rfl
theorem zkh : owL = .rangeFunc (.tmp 18) #[19, 20] zft zdr := by kernel_rfl
theorem zd3 : Tryz.f33.ntmps = 28 := by kernel_rfl
def sOR : St := q2a [] iR 2 (q1p [] iR [] 2 sR)
theorem znx : lkA sOR.t 4 = some (.ref 4 [] 0 q9c) := by kernel_rfl
theorem zln : lkA sOR.t 18 = some (.ff 94 27 (.tok 0) qi 29 (.get (.fld (.tok 0) 0) (.add (.fld (.tok 1) 1) (.lit (.i 2)))) qn []) := by kernel_rfl
theorem zoj : lkA sOR.m 4 = some ⟨.tok 2, q9c, [(0, 65)], []⟩ := by kernel_rfl
def sOB : St := q2a [] iR 3 (q1p [] iR [] 3 sO3)
theorem zny : lkA sOB.t 4 = some (.sn 4 (.ref 4 [] 0 q9c)) := by kernel_rfl
theorem zob : lkA sOB.m 4 = some ⟨.tok 3, q9c, [(0, 65)], []⟩ := by kernel_rfl
theorem zlq : q2a [] [] 3 (q1p [] [] [] 3 sO2) = sO2 := by kernel_rfl
theorem z8x {S : Nat → List D → Option (List D)} (h4 : a.tmps[4]? = some v) (hsn : c.snap 4 = v) (hv : ∃ g, p 64 = some g ∧ v = .pointer (some ⟨g, 0, none⟩) ∧ c.At 4 g) (hm : q0p (c.at S [d]) p W 4 ⟨.tok 0, q9c, [(0, 65)], []⟩) : SF (c.at S [d]) sO4 p W a := by
 refine ⟨fun t x hx => ?_, fun k e he => ?_⟩
 ·have hx := qx hx
  simp only [sO4, gnM] at hx
  obtain ⟨rfl, rfl⟩ := hx
  exact ⟨v, h4, hsn.symm, hv⟩
 ·have he := qx he
  simp only [sO4, gnM] at he
  obtain ⟨rfl, rfl⟩ := he
  exact hm
def z21 : List D → Option (List D)
 | [s, c] => if (dC c).t = 5 then (if inS (dS s) ((dC c).n + 2) ∧ (dS s).cs.length ≤ 4000000000000 then some [.r ((yf (dS s) (cellAt (dS s) ((dC c).n + 2))).map eA)] else none) else some [.r []]
 | _ => none
theorem qb0 (s : So) : ∀ (k : Nat) (c : Ce) (met : List ByteArray), (q7b s k c met).length ≤ k
 | 0, _, _ => Nat.le_refl _
 | k + 1, c, met => by
  unfold q7b
  split
  ·simp
  ·rename_i nm tl vl _
   have := qb0 s k tl (nm :: met)
   split <;> simp <;> omega
theorem zgh {w w' : World} (h : Con A p w (.r []) q9c [(0, pin)] dep cs) (hk : ∀ g, p pin = some g → w'.heap[g]? = w.heap[g]?) : Con A' p w' (.r []) q9c [(0, pin)] dep cs := by
 rcases h with ⟨E, te, l, v, e1, hte, e2, e3, hv⟩ | ⟨K, V, kt, vt, l, g, es, clock, e1, hK, hV, e2, -⟩
 ·injection e2 with e2
  subst e2
  refine .inl ⟨E, te, [], v, e1, hte, rfl, e3, ?_⟩
  rcases hv with ⟨rfl, -⟩ | ⟨g, cap, cur, rfl, hg, hh, h1, h2, h3, h4, h5⟩
  ·exact .inl ⟨rfl, rfl⟩
  ·exact .inr ⟨g, cap, cur, rfl, hg, (hk g hg).trans hh, h1, h2, h3, h4, fun i hi => absurd hi (Nat.not_lt_zero _)⟩
 ·cases e2
section
variable {c c' : Cx} {p p2 : qm} {w w' W1 : World} {a a' : Act} {m g : Nat} {s : So} {x0 : Ce} {cs1 : List Value} {v4 : Value}
def qlj (c : Cx) (w' : World) (g m : Nat) (b : Nat) : Prop := c.A b ∧ b ≠ g ∧ ¬ q31 w' (g + 1) m b
def zgg (p2 : qm) (w' : World) (g m : Nat) (b : Nat) : Prop := pinned p2 b ∨ q31 w' (g + 1) m b
def OwI (c : Cx) (p2 : qm) (w' W1 : World) (g m : Nat) (s : So) (x0 : Ce) (a' : Act) (c' : Cx) (k N : Nat) (W : World) : Prop := w'.heap.size + 2 ≤ N ∧ N ≤ W.heap.size ∧ ∃ p3, Bs (qlj c w' g m) c.F W1 (zgg p2 w' g m) p3 W ∧ SF (c'.at (qb []) [.r (((yf s x0).take k).map eA)]) sO4 p3 W a' ∧ ∀ y b, p3 y = some b → b < N
def OwM (c : Cx) (p2 : qm) (w' W1 : World) (g m : Nat) (s : So) (x0 : Ce) (c' : Cx) (k N B : Nat) (a1 : Act) (W : World) : Prop := ∃ y p4, (yf s x0)[k]? = some y ∧ Bs (qlj c w' g m) c.F W1 (zgg p2 w' g m) p4 W ∧ SF (c'.at (qb []) [.r (((yf s x0).take k).map eA), .s y.name, eC y.val]) sO2 p4 W a1 ∧ a1.defers = [] ∧ a1.tmps.size = 28 ∧ w'.heap.size + 2 ≤ N ∧ N ≤ B ∧ B ≤ W.heap.size ∧ ∀ q b, p4 q = some b → b < N ∨ B ≤ b
theorem zb9 {F : Flr} (hfz : ∀ te, F.mx te = 0) {W' : World} {p3 : qm} (hS : ∀ b, q31 w' (g + 1) m b → S1 b) (hA : ∀ b, A' b → ¬ q31 w' (g + 1) m b) (h : Bs A' F W1 S1 p3 W) (hb : But (q31 w' (g + 1) m) W W') : Bs A' F W1 S1 p3 W' ∧ Stab A' no no p3 W p3 W' :=
 ⟨⟨h.inj, fun x b hx => Nat.lt_of_lt_of_le (h.bd x b hx) hb.size, h.but.trans hb fun i hi _ => .inl (hS i hi), h.pin, h.new, h.pa, fun x b hx => (h.obj x b hx).same (hb.block b (h.bd x b hx) (hA b (h.pa x b hx))), Flo.of0 hfz h.flo⟩,
  hb.size, fun b hlt ha hf => ⟨hb.block b hlt (hA b ha), hf⟩, fun x b _ hx => hx, fun x b _ hx => hb.block b (h.bd x b hx) (hA b (h.pa x b hx))⟩
theorem zir (hln : s.cs.length ≤ 4000000000000) (hlo : c.lo = 2) (hfz : ∀ te, c.F.mx te = 0) (hz : a'.tmps.size = 28) (so : s.ok) (hc' : c' = { c with A := qlj c w' g m, snap := fun t => a'.tmps.getD t Go.undef }) (h4 : a'.tmps[4]? = some v4)
  (hg : ∃ T, w'.heap[g]? = some (.cells cs1.toArray T (0, 0))) (hfg : q5j p2 g) (hbut : But Nil w' W1) (hm1 : w'.heap.size + 2 ≤ m) (hm2 : m < W1.heap.size) (r1 : Rd w' (fun b => FFD c.A p2 [] b ∧ b < g) (eS s) qi cs1) :
  ItOk w' a' 3 g (g + 1) m 19 20 zft zdr cs1 s x0 (OwI c p2 w' W1 g m s x0 a' c') (OwM c p2 w' W1 g m s x0 c') fun _ => False := by
 obtain ⟨T, hg⟩ := hg
 have hgl := qu hg
 have hAh : ∀ b, qlj c w' g m b → ¬ q31 w' (g + 1) m b := fun b h => h.2.2
 have hSh : ∀ b, q31 w' (g + 1) m b → zgg p2 w' g m b := fun b h => .inr h
 have hfm : ∀ te, c'.F.mx te ≤ flM [] te := fun te => by rw [hc']; show c.F.mx te ≤ _; rw [hfz]; exact Nat.zero_le _
 have hcA : c'.A = qlj c w' g m := by rw [hc']
 have hcF : c'.F = c.F := by rw [hc']
 have hcl : c'.lo = 2 := by rw [hc']; exact hlo
 have hsn : c'.snap 4 = v4 := by
  rw [hc']
  show a'.tmps.getD 4 Go.undef = v4
  simp [Array.getD_eq_getD_getElem?, h4]
 have hcT : c'.At = c.At := by rw [hc']
 refine ⟨?_, ?_, ?_, ?_, ?_, fun _ _ h => h.elim⟩
 ·rintro k N W ⟨h1, h2, p3, hb3, hf3, hp3⟩
  have hk : ∀ b o, w'.heap[b]? = some o → q5j p2 b → ¬ q31 w' (g + 1) m b → W.heap[b]? = some o := fun b o ho hf hh => by
   have hlt : b < w'.heap.size := (Array.getElem?_eq_some_iff.1 ho).1
   refine (hb3.but.block b (Nat.lt_of_lt_of_le hlt hbut.size) ?_).trans ((hbut.block b hlt (fun h => h)).trans ho)
   rintro (⟨x, hx⟩ | h)
   ·exact hf x hx
   ·exact hh h
  have hng : ¬ q31 w' (g + 1) m g := by unfold q31; omega
  refine ⟨h1, h2, ⟨T, hk g _ hg hfg hng⟩, Rd.keeps (fun b o hb ho => ?_) _ r1⟩
  obtain ⟨hb1, hb2⟩ := hb
  rcases hb1 with ⟨-, hf⟩ | ⟨y, hy, -⟩
  ·refine ⟨hk b o ho hf (by unfold q31; omega), by omega, by omega⟩
  ·cases hy
 ·rintro k N W W' ⟨h1, h2, p3, hb3, hf3, hp3⟩ hb
  obtain ⟨q1, q2⟩ := zb9 hfz hSh hAh hb3 hb
  exact ⟨h1, Nat.le_trans h2 hb.size, p3, q1, SF.same (by show Stab c'.A no no p3 W p3 W'; rw [hcA]; exact q2) hf3, hp3⟩
 ·rintro k N W y hy hyo ⟨h1, h2, p3, hb3, hf3, hp3⟩
  obtain ⟨v, t4, hv⟩ := hf3.t 4 _ (by kernel_rfl : lkA sO4.t 4 = some (.sn 4 (.ref 4 [] 0 q9c)))
  have hm := hf3.m 4 _ (by kernel_rfl : lkA sO4.m 4 = some ⟨.tok 0, q9c, [(0, 65)], []⟩)
  rw [h4] at t4
  injection t4 with t4
  subst t4
  have hsf : SF (c'.at (qb []) [.r (((yf s x0).take k).map eA), .s y.name, eC y.val]) sO1 p3 W { tmps := (a'.tmps.setIfInBounds 19 (.string y.name)).setIfInBounds 20 (.agg (ceL y.val).toArray), defers := [] } := by
   refine ⟨fun t x hx => ?_, fun j e he => ?_⟩
   ·have hx := qx hx
    simp only [sO1, gnM] at hx
    rcases hx with ⟨rfl, rfl⟩ | ⟨rfl, rfl⟩ | ⟨rfl, rfl⟩
    ·exact ⟨v4, by rw [Array.getElem?_setIfInBounds_ne (by decide), Array.getElem?_setIfInBounds_ne (by decide)]; exact h4, hv⟩
    ·refine ⟨.string y.name, by rw [Array.getElem?_setIfInBounds_ne (by decide), Array.getElem?_setIfInBounds_self_of_lt (by omega)], _, rfl, Con.of_rd (show Rd W _ (.s y.name) .str _ from ⟨rfl, rfl, hyo.1⟩)⟩
    ·refine ⟨.agg (ceL y.val).toArray, by rw [Array.getElem?_setIfInBounds_self_of_lt (by simp; omega)], ceL y.val, rfl, Con.of_rd (show Rd W _ (eC y.val) qn _ from qvt hyo.2)⟩
   ·have he := qx he
    simp only [sO1, gnM] at he
    obtain ⟨rfl, rfl⟩ := he
    exact hm
  have pre := q9i (c := c') (z := 28) (some (w'.heap.size + 1)) 3 .nil hfm rfl [zft] (n := 3) (ann := z23) (R := fun o => o = []) (B := fun _ _ => False) (ts := []) (ms := []) (kill := []) (σk := sO2) (l := [.r (((yf s x0).take k).map eA), .s y.name, eC y.val]) (σ := sO1) (d := []) (w0 := W) (S0 := pinned p3) (p := p3) (Q := fun _ _ _ => False)
   (K := fun a1 W2 => OwM c p2 w' W1 g m s x0 c' k N W.heap.size a1 W2 ∧ KpN w' (g + 1) m N W.heap.size W W2)
   (by rw [hcl, zdy]; rfl) rfl (by rw [hcA, hcF]; exact hb3.anew) hsf rfl (by simp; exact hz) (fun st p4 W2 a2 hR hst hb4 hf4 hd4 hz4 => ?_)
  ·exact pre
  ·have hR : st = [] := hR
   subst hR
   rw [zlq] at hf4
   rw [hcA, hcF] at hb4
   refine ⟨⟨y, p4, hy, hb3.comp hb4, hf4, hd4, hz4, h1, h2, hb4.but.size, fun q b hq => ?_⟩, hb4.but.size, fun b hlt hb => hb4.but.block b hlt ?_⟩
   ·rcases hb4.pin q b hq with ⟨q', hq'⟩ | h
    ·exact .inl (hp3 q' b hq')
    ·exact .inr h
   ·rintro ⟨q, hq⟩
    rcases hb with hb | hb
    ·have := hp3 q b hq
     omega
    ·exact hAh b (hb3.pa q b hq) hb
 ·rintro k N B a1 W W' ⟨y, p4, hy, hb4, hf4, hd4, hz4, h1, h2, h3, hp4⟩ hb
  obtain ⟨q1, q2⟩ := zb9 hfz hSh hAh hb4 hb
  exact ⟨y, p4, hy, q1, SF.same (by show Stab c'.A no no p4 W p4 W'; rw [hcA]; exact q2) hf4, hd4, hz4, h1, h2, Nat.le_trans h3 hb.size, hp4⟩
 ·rintro k N B a1 W hkl ⟨y, p4, hy, hb4, hf4, hd4, hz4, h1, h2, h3, hp4⟩
  have hlen : ((yf s x0).take k).length ≤ 4000000000000 := by
   have h1 := qb0 s s.cs.length x0 []
   simp only [List.length_take]
   unfold yf at *
   omega
  have pre := q9i (c := c') (z := 28) (some (w'.heap.size + 1)) 3 .nil hfm rfl [zdr] (n := 3) (ann := z23) (R := fun o => o = [.r (((yf s x0).take k).map eA ++ [eA y])]) (B := fun _ _ => False) (ts := []) (ms := iR) (kill := []) (σk := sO3) (l := [.r (((yf s x0).take k).map eA), .s y.name, eC y.val]) (σ := sO2) (d := []) (w0 := W) (S0 := pinned p4) (p := p4) (Q := fun _ _ _ => False)
   (K := fun a2 W2 => KpN w' (g + 1) m N B W W2 ∧ OwI c p2 w' W1 g m s x0 a' c' (k + 1) W2.heap.size W2)
   (by
    rw [hcl, zd7]
    unfold zl6
    rw [qa]
    refine ⟨⟨?_, trivial⟩, ?_⟩
    ·show (D.b (decide (((((yf s x0).take k).map eA).length : Int) + 1 ≤ 4398046510976))).tt = true
     rw [List.length_map, q5i, gnD]
     omega
    ·rfl) rfl (by rw [hcA, hcF]; exact hb4.anew) hf4 hd4 hz4 (fun st p5 W2 a2 hR hst hb5 hf5 hd5 hz5 => ?_)
  ·refine wpIn_mono pre fun e a2 W2 hq => ?_
   cases e with
   | normal => exact ⟨hq.1, .inl ⟨rfl, hq.2⟩⟩
   | _ => exact hq.elim
  ·have hR : st = [.r (((yf s x0).take k).map eA ++ [eA y])] := hR
   subst hR
   rw [hcA, hcF] at hb5
   have hf5 : SF (c'.at (qb []) [.r (((yf s x0).take k).map eA), .s y.name, eC y.val, .r (((yf s x0).take k).map eA ++ [eA y])]) sOB p5 W2 a2 := hf5
   obtain ⟨v, t4, ev, g4, hg4, eg, hat⟩ := hf5.t 4 _ zny
   have hm := hf5.m 4 _ zob
   refine ⟨⟨hb5.but.size, fun b hlt hb => hb5.but.block b (by omega) ?_⟩, by have := hb5.but.size; omega, Nat.le_refl _, p5, hb4.comp hb5, ?_, fun q b hq => hb5.bd q b hq⟩
   ·rintro ⟨q, hq⟩
    rcases hb with hb | hb
    ·have := hp4 q b hq
     omega
    ·exact hAh b (hb4.pa q b hq) hb
   ·have e : ((yf s x0).take (k + 1)).map eA = ((yf s x0).take k).map eA ++ [eA y] := by
     rw [List.take_add_one, hy]
     simp
    rw [e]
    have ev : v = v4 := ev.trans hsn
    exact z8x h4 hsn ⟨g4, hg4, ev.symm.trans eg, hat⟩ hm
end
set_option maxHeartbeats 1000000 in
theorem q6p : FOk zi z21 := by
 refine z79 (qb []) Tryz.f33 owC Tryz.func33 z8g qsh (by rw [zd3]; decide) fun ds outs hwf hg c p w a Q hlo hfz hfr hdl hb hf hd hz hfin => ?_
 obtain ⟨d, r, rfl, hs, e, r', rfl, hc, rfl⟩ := hwf
 obtain ⟨s, rfl, so⟩ := wfS hs
 obtain ⟨x, rfl, co⟩ := wfC hc
 simp only [z21, zk, yw] at hg
 have hlo : c.lo = 2 := hlo
 have hz : a.tmps.size = 28 := hz.trans zd3
 have hfm : ∀ te, c.F.mx te ≤ flM [] te := fun te => by rw [hfz]; exact Nat.zero_le _
 have hcl : Code.wpIn (FR none) 5 Tryz.prog (seqs [sqL owC, sqL (sqR owC)] (.seq (.seq (sqL (sqL (sqR (sqR owC)))) (.block 0 owL)) owZ)) Q a w := by
  refine q1j _ ?_
  have pre : q9r (FR none) 5 Tryz.prog Q ow1 ((Code.block 0 owL).wpIn (FR none) 5 Tryz.prog (Exit.then (owZ.wpIn (FR none) 5 Tryz.prog Q) Q)) a w := by
   refine q90 (c := c) (z := 28) none 5 .nil hfm rfl ow1 (n := 2) (ann := z23) (R := fun o => o = [.r []]) (B := fun _ _ => False) (d := []) (l := [eS s, eC x]) (σ := qql zi) (by
    rw [hlo, zdu]
    unfold zl3
    simp only [qj, qa, qd, qg, X.says, X.ev, X.evs, evl, List.getD_cons_zero, List.getD_cons_succ, qnd, qtt, qer, q6i, yv, q5i, List.length_map, qp9, gnD, decide_eq_false_iff_not, Bool.not_eq_true', Bool.not_eq_false', q52]
    refine ⟨fun h => ⟨⟨h, trivial⟩, trivial⟩, fun h => ?_⟩
    rw [if_pos h] at hg
    split at hg
    ·rename_i hin
     obtain ⟨h1, h2⟩ := z5.1 hin.1
     have h3 := qx6 so
     unfold i64 at *
     refine ⟨⟨by omega, by omega, by omega, trivial⟩, ⟨h, trivial⟩, trivial⟩
    ·cases hg) rfl hb hf hd hz fun n' r σ' l' B' p' w' a' hl' hpre hgo hb' hf' hd' hz' => ?_
   have tk1 : l'.getD 1 .u = eC x := by
    have : (l'.take 2).getD 1 .u = eC x := by rw [hpre]; rfl
    rw [gnG, List.getElem?_take_of_lt (by omega), ← gnG] at this
    exact this
   have ret : ∀ r' : ResD, (Tree.need [.not (.eq (.fld (.tok 1) 0) (.lit (.i 5)))] (qap zi zfx n' r' σ')).go (qb []) (fun o => o = [.r []]) l' B' → Q r'.exit' a' w' := fun r' hgo => by
    obtain ⟨⟨hN, -⟩, hgo⟩ := hgo
    have hN : (D.b (!(D.b (decide ((l'.getD 1 .u).fld 0 = .i 5))).tt)).tt = true := hN
    rw [tk1, qnd] at hN
    have hx : x.t ≠ 5 := by simpa [q5i] using hN
    rw [if_neg hx] at hg
    exact hfin n' r' σ' l' B' p' w' a' c hl' (z7m hgo fun o ho => ho.trans (gnI hg)) rfl rfl rfl (fun b h => h) hb' hb'.anew hf' ⟨[], by rw [hd']; rfl, by simp, fun D hD => by cases hD⟩ (hz'.trans zd3.symm)
   cases r with
   | ret => exact ret .ret hgo
   | exit i => exact ret (.exit i) hgo
   | normal =>
    obtain ⟨⟨hN, -⟩, hgo⟩ := hgo
    have hN : (D.b (decide ((l'.getD 1 .u).fld 0 = .i 5))).tt = true := hN
    rw [tk1, qnd] at hN
    have hx : x.t = 5 := by simpa [q5i] using hN
    rw [if_pos hx] at hg
    split at hg
    ·rename_i hin
     have hg := (gnI hg).symm
     obtain ⟨st, p2, hR, -, hb2, hf2⟩ := qhw (c := c) hgo hpre rfl hb' hf'
     have hR : st = [.r []] := hR
     subst hR
     have hf2 : SF (c.at (qb []) [eS s, eC x, .r []]) sOR p2 w' a' := hf2
     obtain ⟨v4, t4, g4, hg4, e4, hat4⟩ := hf2.t 4 _ znx
     obtain ⟨v18, t18, gg, cs1, cs2, e18, ⟨ha1, hf1⟩, ⟨ha2, hf2'⟩, ⟨hfr1, hfr2⟩, hh1, hh2, r1, r2⟩ := hf2.t 18 _ zln
     obtain ⟨gm, csm, Tm, hgm, hhm, htm, hcm⟩ := hf2.m 4 _ zoj
     have ex0 : (X.get (.fld (.tok 0) 0) (.add (.fld (.tok 1) 1) (.lit (.i 2)))).ev (c.at (qb []) [eS s, eC x, .r []]).v = eC (cellAt s (x.n + 2)) := by
      show ((eS s).fld 0).get (((eC x).fld 1).int + 2) = _
      rw [qer, qtt, yv]
      exact ze hin.1
     rw [ex0] at r2
     have hs2 := r2
     obtain rfl := quu r2
     have hfr1 := hfr gg hfr1
     have hfr2 := hfr (gg + 1) hfr2
     show (Code.block 0 owL).wpIn (FR none) 5 Tryz.prog (Exit.then (owZ.wpIn (FR none) 5 Tryz.prog Q) Q) a' w'
     refine wpIn_block ?_
     rw [zkh]
     refine z9b (nn := 5) (bs := gg) (bc := gg + 1) (css := cs1) (s := s) (c0 := cellAt s (x.n + 2)) (by omega) ((q9l t18).trans e18) (by omega) ⟨_, hh1⟩ (Rd.mono (fun b _ h => by have := h.2; omega) r1) so ⟨_, by kernel_rfl, hh2⟩ (z4t hs2) fun m W1 hbut hm1 hm2 => ?_
     have hw1 := hb'.but.size
     have hw2 := hbut.size
     obtain ⟨c', hc'⟩ : ∃ c' : Cx, c' = { c with A := qlj c w' gg m, snap := fun t => a'.tmps.getD t Go.undef } := ⟨_, rfl⟩
     have hcA : c'.A = qlj c w' gg m := by rw [hc']
     have hcF : c'.F = c.F := by rw [hc']
     have hc2 : c'.lo = c.lo := by rw [hc']
     have hcT : c'.At = c.At := by rw [hc']
     have hgl := qu hh1
     have hgl2 := qu hh2
     have hSp : ∀ b, zgg p2 w' gg m b → pinned p b ∨ w.heap.size ≤ b := by
      rintro b (⟨q, hq⟩ | h | h | h | h)
      ·exact hb2.pin q b hq
      ·exact .inr (by omega)
      ·exact .inr (by omega)
      ·exact .inr (by omega)
      ·exact .inr (by omega)
     refine ⟨_, _, _, zir (c := c) (c' := c') (p2 := p2) (W1 := W1) hin.2 hlo hfz hz' so hc' t4 ⟨_, hh1⟩ hf1 hbut hm1 hm2 r1, ?_, ?_, fun W h => h.elim⟩
     ·refine ⟨by omega, Nat.le_refl _, p2, ⟨hb2.inj, fun q b hq => Nat.lt_of_lt_of_le (hb2.bd q b hq) hw2, But.refl _ _, fun q b hq => .inl (.inl ⟨q, hq⟩), fun b hb => ⟨⟨(hb2.new b (by omega)).1, by omega, by unfold q31; omega⟩, (hb2.new b (by omega)).2⟩, fun q b hq => ⟨hb2.pa q b hq, fun e => hf1 q (e ▸ hq), ?_⟩, fun q b hq => (hb2.obj q b hq).same (hbut.block b (hb2.bd q b hq) fun h => h), Flo.of0 hfz hb2.flo⟩, ?_, fun q b hq => Nat.lt_of_lt_of_le (hb2.bd q b hq) hw2⟩
      ·have := hb2.bd q b hq
       rintro (h | h | h | h)
       ·exact hf2' q (h ▸ hq)
       ·omega
       ·omega
       ·omega
      ·have hsn : c'.snap 4 = v4 := by
        rw [hc']
        show a'.tmps.getD 4 Go.undef = v4
        simp [Array.getD_eq_getD_getElem?, t4]
       have hc0 : Con c'.A p2 W1 (.r []) q9c [(0, 65)] [] csm.toList := zgh hcm fun g hg => hbut.block g (hb2.bd _ _ hg) fun h => h
       exact z8x t4 hsn ⟨g4, hg4, e4, by rw [hcT]; exact hat4⟩ ⟨gm, csm, Tm, hgm, (hbut.block gm (qu hhm) fun h => h).trans hhm, htm, hc0⟩
     ·rintro N W ⟨h1, h2, p3, hb3, hf3, hp3⟩ hD
      show owZ.wpIn (FR none) 5 Tryz.prog Q _ W
      have hnD : ¬ qlj c w' gg m w'.heap.size := fun h => h.2.2 (.inr (.inr (.inl rfl)))
      rw [List.take_of_length_le (Nat.le_refl _)] at hf3
      have hf3' : SF (c'.at (qb []) [.r ((yf s (cellAt s (x.n + 2))).map eA)]) sO5 p3 W { a' with defers := { target := .collected w'.heap.size, args := #[] } :: a'.defers } := by
       refine ⟨fun t y hy => ?_, fun k e he => hf3.m k e he⟩
       have hy := qx hy
       simp only [sO5, gnM] at hy
       obtain ⟨rfl, rfl⟩ := hy
       obtain ⟨v, q1, -, q2⟩ := hf3.t 4 _ (by kernel_rfl : lkA sO4.t 4 = some (.sn 4 (.ref 4 [] 0 q9c)))
       exact ⟨v, q1, q2⟩
      refine qkt none 5 (c := c') (z := 28) (w0 := W) (S0 := pinned p3) (d := { target := .collected w'.heap.size, args := #[] } :: a'.defers) .nil (fun te => by rw [hcF, hfz]; exact Nat.zero_le _) owZ (ids := []) (n := 1) (ann := z23) (k := qap zi zfx) (R := fun o => o = outs) (B := fun _ _ => False) (l := [.r ((yf s (cellAt s (x.n + 2))).map eA)]) (σ := sO5) (p := p3) (by
       rw [hc2, hlo, zg0, hg]
       rfl) rfl (by rw [hcA, hcF]; exact hb3.anew) hf3' rfl hz' (q49 rfl) (qgu rfl) fun n5 r5 σ5 l5 B5 p5 W5 a5 hl5 hpre5 _ hgo5 hb5 hf5 hd5 hz5 => ?_
      rw [hcA, hcF] at hb5
      have hb6 := hb3.comp hb5
      refine hfin n5 r5 σ5 l5 B5 p5 W5 a5 c' hl5 hgo5 hc2 hcF hcT (fun b h => by rw [hcA] at h; exact h.1) ⟨hb6.inj, hb6.bd, (hb'.but.trans_nil hbut).trans hb6.but fun b hb _ => hSp b hb, fun q b hq => ?_, hb.new, fun q b hq => (hb6.pa q b hq).1, hb6.obj, Flo.of0 hfz hb.flo⟩ (by rw [hcA, hcF]; exact hb5.anew) hf5 ⟨[w'.heap.size], by rw [hd5, hd']; rfl, by simp, fun D hD' => ?_⟩ (hz5.trans zd3.symm)
      ·rcases hb6.pin q b hq with h | h
       ·exact hSp b h
       ·exact .inr (by omega)
      ·obtain rfl : D = w'.heap.size := by simpa using hD'
       exact ⟨by omega, (hb5.stays (Array.getElem?_eq_some_iff.1 hD).1 fun q hq => hnD (hb3.pa q _ hq)).1.trans hD, by rw [hcA]; exact hnD⟩
    ·cases hg
  refine q5v (Q := Q) (Q' := Q) (fun e a w _ h => h) [sqL owC, sqL (sqR owC)] (fun a w h => ?_) (qah [sqL owC, sqL (sqR owC)] [sqL (sqL (sqR (sqR owC)))] pre)
  refine wpIn_seq (wpIn_seq (wpIn_mono h fun e a w hq => ?_))
  cases e with
  | normal => exact hq
  | _ => exact hq
 have e := zko
 rw [← e] at hcl
 exact hcl
end
section
open Go.RowKit Go.Shelf
theorem qdu : q02 q56 := .cons qdk (.cons zkt (.cons qwe .nil))
noncomputable def znm : Nat := match sqL (sqR (sqR wkC)) with
 | .region i _ _ => i
 | _ => 0
theorem zid : wkC = seqs zka (.seq (.region znm zhm.toArray false) q5w) := by kernel_rfl
noncomputable def z0a : Nat := match sqR (sqL z3f) with
 | .block i _ => i
 | _ => 0
theorem z7u : q5w = seqs [sqL q5w, sqL (sqR q5w)] (.seq (.seq (sqL (sqL z3f)) (.block z0a (.loop qeh))) wkZ) := by kernel_rfl
noncomputable def zjy : Nat := match sqL (sqR (sqR qeh)) with
 | .block i _ => i
 | _ => 0
noncomputable def zik : Nat := match sqR (sqR zcw) with
 | .block i _ => i
 | _ => 0
theorem zkg : z0a = 0 := by kernel_rfl
theorem qic : qeh = seqs wkH (.seq (.block zjy (seqs wkR (.seq wkY (.block zik wkF)))) (sqR (sqR (sqR qeh)))) := by kernel_rfl
theorem zb5 : Tryz.f23.body = some wkC := by kernel_rfl
theorem zd5 : Tryz.f23.ntmps = 69 := by kernel_rfl
theorem z7e {wv : Ce} {sk : So} {c : Ce} (h : qba wv sk (yf sk c) = true) : (yf sk c).length ≤ 1048576 := by
 cases hl : yf sk c with
 | nil => simp
 | cons x l =>
  rw [hl] at h
  unfold qba at h
  simp only [gnB] at h
  obtain ⟨h1, h2, h3, h4⟩ := zc5 h.1
  have := qb0 sk sk.cs.length c []
  rw [← hl]
  unfold yf at *
  omega
theorem Dfs.keep {lb : Nat} {d : List Deferred} {w w' : World} {ds : List Deferred} {S0 : Nat → Prop} {p : qm} (h : Dfs A lb d w ds) (hk : ∀ b, b < w.heap.size → ¬ A b → w'.heap[b]? = w.heap[b]?) : Dfs A lb d w' ds := by
 obtain ⟨Ds, e, hn, hD⟩ := h
 exact ⟨Ds, e, hn, fun D hd => ⟨(hD D hd).1, (hk D (qu (hD D hd).2.1) (hD D hd).2.2).trans (hD D hd).2.1, (hD D hd).2.2⟩⟩
theorem z0s (s : So) (o : List Ce) (w : Wk) (l : List Wk) : q3w s o (w :: l) = if (jj w.val s o (yf s w.att)).2.2 = 0 then q3w (jj w.val s o (yf s w.att)).1 (jj w.val s o (yf s w.att)).2.1 l else jj w.val s o (yf s w.att) := rfl
theorem zef {s r : So} (hc : s.cs.length ≤ r.cs.length) (hy : s.ys.length ≤ r.ys.length) (ht : s.tr.length ≤ r.tr.length) {e : Int} (he : ¬ e = 0) : q4y [.i e, eS r, eS s] = some [eS (qzf s r)] := by
 have he' : ¬ (D.i e).int = 0 := he
 simp only [q4y, if_neg he', qer, zcg, z45, z24, zkp, zi4, q6i, List.length_map]
 rw [if_pos ⟨hc, hy, ht⟩]
 unfold qzf eS
 simp only [List.map_take]
def zlo (c : Cx) (w : World) (S0 : Nat → Prop) (dK : Deferred) (s : So) (ws : List Wk) (k : Nat) (a : Act) (W : World) : Prop := ∃ (c2 : Cx) (p3 : qm) (sk : So) (o : List Ce), c2.lo = c.lo ∧ c2.F = c.F ∧ c2.At = c.At ∧ c2.snap (VB + 3) = c.snap (VB + 3) ∧ (∀ b, c2.A b → c.A b) ∧ Bs c.A c.F w S0 p3 W ∧ Bs c2.A c2.F W (pinned p3) p3 W ∧ SF (c2.at (qb q56) [eS s, .r (ws.map eW), .i k, eS sk, .r (o.map eC), .i 0]) q4r p3 W a ∧ Dfs c2.A w.heap.size [dK] W a.defers ∧ a.tmps.size = 69 ∧
 q3w sk o (ws.drop k) = q3w s [] ws ∧ qwg sk o (ws.drop k) = true ∧ qaq s sk ∧ o.length ≤ k * 1048576 ∧ k ≤ ws.length
theorem zlh {x : X} {sk : So} {own : List (Nat × Nat)} (h : q0p c p W 0 ⟨x, qi, own, []⟩) (hx : x.ev c.v = eS sk) : sk.ok := by
 obtain ⟨g, cs, T, hg, hh, hT, hcon⟩ := h
 have hcon : Con c.A p W (x.ev c.v) qi own [] cs.toList := hcon
 rw [hx] at hcon
 obtain ⟨s', e, hs'⟩ := wfS ⟨W, _, _, Con.rd hcon (dep' := own.map (·.2)) (fun _ h => nomatch h) (fun _ h => h)⟩
 rw [z3s e]
 exact hs'
section
variable {c : Cx} {w : World} {S0 : Nat → Prop} {dK : Deferred} {s : So} {ws : List Wk} {outs : List D} {Q : Exit → Act → World → Prop}
set_option maxHeartbeats 1000000 in
theorem qw1 (hlo : c.lo = 1) (hfz : ∀ te, c.F.mx te = 0) (hwl : ws.length ≤ 1000000)
  (ho : outs = (if (q3w s [] ws).2.2 = 0 then [.r ((q3w s [] ws).2.1.map eC), .i 0, eS { (q3w s [] ws).1 with wk := [] }] else [.r [], .i (q3w s [] ws).2.2, eS (qzf s (q3w s [] ws).1)]))
  (hfin : ∀ n' (r : ResD) σ' l' B' p' w' a' (c2 : Cx), l'.length = n' → (qf0 yk Tryz.f23 2 0 3 (.tok 0) n' r σ').go (qb q56) (fun o => o = outs) l' B' → l'.getD 0 .u = eS s → c2.lo = c.lo → c2.F = c.F → c2.At = c.At → c2.snap (VB + 3) = c.snap (VB + 3) → (∀ b, c2.A b → c.A b) → Bs c.A c.F w S0 p' w' → Bs c2.A c2.F w' (pinned p') p' w' → SF (c2.at (qb q56) l') σ' p' w' a' → Dfs c2.A w.heap.size [dK] w' a'.defers → a'.tmps.size = 69 → Q r.exit' a' w') :
  ∀ (f k : Nat) (a : Act) (W : World), zlo c w S0 dK s ws k a W → ws.length - k < f → Code.roundsIn (FR none) 5 Tryz.prog qeh (Exit.inBlock z0a (Exit.then (wkZ.wpIn (FR none) 5 Tryz.prog Q) Q)) f a W
 | 0, k, a, W, _, hf => absurd hf (Nat.not_lt_zero _)
 | f + 1, k, a, W, ⟨c2, p3, sk, o, e1, e2, e3, e4, hA2, hbs, hbn, hsf, hdf, hz, hrun, hok, hgr, hol, hkl⟩, hfu => by
  have hfm : ∀ te, c2.F.mx te ≤ flM q56 te := fun te => by rw [e2, hfz]; exact Nat.zero_le _
  have hfz2 : ∀ te, c2.F.mx te = 0 := fun te => by rw [e2]; exact hfz te
  have hl2 : c2.lo = 1 := e1.trans hlo
  rw [roundsIn_succ, qic, ← qic]
  refine (show Code.wpIn (FR none) 5 Tryz.prog qeh _ a W from ?_)
  rw [qic, ← qic]
  have hW : (seqs wkH (.seq (.block zjy (seqs wkR (.seq wkY (.block zik wkF)))) (sqR (sqR (sqR qeh))))).wpIn (FR none) 5 Tryz.prog (Exit.then (Code.roundsIn (FR none) 5 Tryz.prog qeh (Exit.inBlock z0a (Exit.then (wkZ.wpIn (FR none) 5 Tryz.prog Q) Q)) f) (Exit.inBlock z0a (Exit.then (wkZ.wpIn (FR none) 5 Tryz.prog Q) Q))) a W := by
   refine q1j wkH ?_
   refine q90 (c := c2) (z := 69) none 5 qdu hfm rfl wkH (n := 6) (ann := q75) (R := fun q => q = []) (B := fun _ _ => False) (d := a.defers) (l := [eS s, .r (ws.map eW), .i k, eS sk, .r (o.map eC), .i 0]) (σ := q4r) (k := zm9) (by
    rw [hl2, zdj]
    unfold zlz
    rw [qj]
    refine ⟨fun h => ?_, fun h => ?_⟩
    ·rw [qa]
     exact ⟨⟨h, trivial⟩, rfl⟩
    ·rw [qa]
     refine ⟨⟨?_, trivial⟩, rfl⟩
     show (D.b (!(X.ev _ _).tt)).tt = true
     rw [h]
     rfl) rfl hbn hsf rfl hz fun n' r σ' l' B' p' w' a' hl' hpre hgo hb' hf' hd' hz' => ?_
   cases r with
   | ret => exact hgo.elim
   | exit i =>
    match i, hgo with
    | 0, hgo =>
     -- the end of the loop
     obtain ⟨⟨hlt, -⟩, hgo⟩ := hgo
     obtain ⟨st, p5, hR, -, hb5, hf5⟩ := qhw (n' := n') (c := c2) hgo hpre rfl hb' hf'
     have hR : st = [] := hR
     subst hR
     rw [zcd, List.append_nil] at hf5
     have q2 : l'.getD 2 .u = .i k := by
      have : (l'.take 6).getD 2 .u = .i k := by rw [hpre]; rfl
      rw [gnG, List.getElem?_take_of_lt (by omega), ← gnG] at this
      exact this
     have q1 : l'.getD 1 .u = .r (ws.map eW) := by
      have : (l'.take 6).getD 1 .u = .r (ws.map eW) := by rw [hpre]; rfl
      rw [gnG, List.getElem?_take_of_lt (by omega), ← gnG] at this
      exact this
     have hlt : (D.b (!(D.b (decide ((l'.getD 2 .u).int < ((l'.getD 1 .u).rs.length : Nat)))).tt)).tt = true := hlt
     rw [q1, q2] at hlt
     have hk : k = ws.length := by
      have : ¬ ((k : Int) < (ws.length : Nat)) := by simpa [q5i, q6i, yv] using hlt
      omega
     subst hk
     rw [List.drop_length] at hrun
     have hrun : (sk, o, (0 : Int)) = q3w s [] ws := hrun
     rw [← hrun] at ho
     show Exit.inBlock z0a (Exit.then (wkZ.wpIn (FR none) 5 Tryz.prog Q) Q) (.exit 0) a' w'
     rw [zkg]
     show wkZ.wpIn (FR none) 5 Tryz.prog Q a' w'
     have hst5 : ∀ b, b < W.heap.size → ¬ c2.A b → w'.heap[b]? = W.heap[b]? := fun b hb hn => (hb5.stays hb fun q hq => hn (hbn.pa q _ hq)).1
     have hbs5 : Bs c.A c.F w S0 p5 w' := hbs.up (show Bs c2.A c.F W (pinned p3) p5 w' from e2 ▸ hb5) hA2
     refine qkt none 5 (c := c2) (z := 69) (w0 := w') (S0 := pinned p5) (d := a'.defers) qdu hfm wkZ (ids := []) (n := 6) (ann := q75) (k := qf0 yk Tryz.f23 2 0 3 (.tok 0)) (R := fun q => q = outs) (B := fun _ _ => False) (l := [eS s, .r (ws.map eW), .i ws.length, eS sk, .r (o.map eC), .i 0]) (σ := q4r) (p := p5) (by
      rw [hl2, ze2, ho]
      have hset : (X.set (.tok 3) 3 (.lit (.r []))).ev (evl (qb q56) [eS s, .r (ws.map eW), .i ws.length, eS sk, .r (o.map eC), .i 0]) = eS { sk with wk := [] } := rfl
      have hg : qb q56 2 [.i 0, eS { sk with wk := [] }, eS s] = some [eS { sk with wk := [] }] := rfl
      unfold zn3
      simp only [qa, qd, qg, X.says, X.evs, X.ev, evl, List.getD_cons_zero, List.getD_cons_succ, if_true]
      exact ⟨⟨rfl, trivial⟩, rfl⟩) rfl hb5.anew hf5 rfl hz' (q49 rfl) (qgu rfl) fun n7 r7 σ7 l7 B7 p7 W7 a7 hl7 hpre7 _ hgo7 hb7 hf7 hd7 hz7 => ?_
     have q0 : l7.getD 0 .u = eS s := by
      have : (l7.take 6).getD 0 .u = eS s := by rw [hpre7]; rfl
      rw [gnG, List.getElem?_take_of_lt (by omega), ← gnG] at this
      exact this
     have hdf7 : Dfs c2.A w.heap.size [dK] W7 a7.defers := by
      rw [hd7, hd']
      exact (hdf.keep (S0 := S0) (p := p3) hst5).keep (S0 := S0) (p := p3) fun b hb hn => (hb7.stays hb fun q hq => hn (hb5.pa q _ hq)).1
     exact hfin n7 r7 σ7 l7 B7 p7 W7 a7 c2 hl7 hgo7 q0 e1 e2 e3 e4 hA2 (hbs5.up (show Bs c2.A c.F w' (pinned p5) p7 W7 from e2 ▸ hb7) hA2) hb7.anew hf7 hdf7 hz7
    | i + 1, hgo => exact hgo.elim
   | normal =>
    -- a wake
    obtain ⟨⟨hlt, -⟩, hgo⟩ := hgo
    obtain ⟨st, p5, hR, -, hb5, hf5⟩ := qhw (n' := n') (c := c2) hgo hpre rfl hb' hf'
    have hR : st = [] := hR
    subst hR
    rw [zcd, List.append_nil] at hf5
    have q2 : l'.getD 2 .u = .i k := by
     have : (l'.take 6).getD 2 .u = .i k := by rw [hpre]; rfl
     rw [gnG, List.getElem?_take_of_lt (by omega), ← gnG] at this
     exact this
    have q1 : l'.getD 1 .u = .r (ws.map eW) := by
     have : (l'.take 6).getD 1 .u = .r (ws.map eW) := by rw [hpre]; rfl
     rw [gnG, List.getElem?_take_of_lt (by omega), ← gnG] at this
     exact this
    have hlt : (D.b (decide ((l'.getD 2 .u).int < ((l'.getD 1 .u).rs.length : Nat)))).tt = true := hlt
    rw [q1, q2] at hlt
    have hk : k < ws.length := by
     have : ((k : Int) < (ws.length : Nat)) := by simpa [q5i, q6i, yv] using hlt
     omega
    have hst5 : ∀ b, b < W.heap.size → ¬ c2.A b → w'.heap[b]? = W.heap[b]? := fun b hb hn => (hb5.stays hb fun q hq => hn (hbn.pa q _ hq)).1
    have hbs5 : Bs c.A c.F w S0 p5 w' := hbs.up (show Bs c2.A c.F W (pinned p3) p5 w' from e2 ▸ hb5) hA2
    have hdf5 : Dfs c2.A w.heap.size [dK] w' a'.defers := by
     rw [hd']
     exact hdf.keep (S0 := S0) (p := p3) hst5
    obtain ⟨wk, hwk⟩ : ∃ wk, ws[k] = wk := ⟨_, rfl⟩
    have hdr : ws.drop k = wk :: ws.drop (k + 1) := by rw [List.drop_eq_getElem_cons hk, hwk]
    rw [hdr] at hrun hok
    unfold qwg at hok
    rw [z0s] at hrun
    simp only [gnB, Bool.or_eq_true, gnD] at hok
    have hab := z7e hok.1
    show (Code.seq (.block zjy (seqs wkR (.seq wkY (.block zik wkF)))) (sqR (sqR (sqR qeh)))).wpIn (FR none) 5 Tryz.prog _ a' w'
    refine wpIn_seq (wpIn_block (q1j wkR ?_))
    refine q9i (c := c2) (z := 69) none 5 qdu hfm rfl wkR (n := 6) (ann := q75) (R := fun q => q = [eS sk, .r (o.map eC), .i 0, eW wk]) (B := fun _ _ => False) (ts := []) (ms := zfg) (kill := []) (σk := zgd) (d := a'.defers) (l := [eS s, .r (ws.map eW), .i k, eS sk, .r (o.map eC), .i 0]) (σ := q4r) (w0 := w') (S0 := pinned p5) (p := p5) (by
     rw [hl2, zex]
     unfold zn7
     rw [qa]
     refine ⟨⟨?_, ?_, trivial⟩, ?_⟩
     ·show (D.b (decide ((0 : Int) ≤ (k : Int)))).tt = true
      rw [q5i, gnD]
      omega
     ·show (D.b (decide ((k : Int) < (((ws.map eW).length : Nat) : Int)))).tt = true
      rw [q5i, gnD, List.length_map]
      omega
     ·show [eS sk, D.r (o.map eC), D.i 0, (D.r (ws.map eW)).get (k : Int)] = _
      have : (D.r (ws.map eW)).get (k : Int) = eW wk := by
       show ((ws.map eW)[((k : Int)).toNat]?).getD .u = _
       simp [hk, hwk]
      rw [this]) rfl hb5.anew hf5 rfl hz' fun st p6 W6 a6 hR hst hb6 hf6 hd6 hz6 => ?_
    have hR : st = [eS sk, .r (o.map eC), .i 0, eW wk] := hR
    subst hR
    rw [zdq] at hf6
    have hst6 : ∀ b, b < w'.heap.size → ¬ c2.A b → W6.heap[b]? = w'.heap[b]? := fun b hb hn => (hb6.stays hb fun q hq => hn (hb5.pa q _ hq)).1
    have hbs6 : Bs c.A c.F w S0 p6 W6 := hbs5.up (show Bs c2.A c.F w' (pinned p5) p6 W6 from e2 ▸ hb6) hA2
    have hdf6 : Dfs c2.A w.heap.size [dK] W6 a6.defers := by
     rw [hd6]
     exact hdf5.keep (S0 := S0) (p := p3) hst6
    have so : sk.ok := zlh (hf6.m 0 ⟨.tok 6, qi, qv 0 qi, []⟩ (by kernel_rfl)) rfl
    have hnew : ∀ {A3 : Nat → Prop} {W' : World} {a2 : Act} {D : Nat}, (∀ b, A3 b → c2.A b) → ¬ A3 D → W6.heap.size ≤ D → W'.heap[D]? = some (.deferred (some [])) → a2.defers = qre D :: a6.defers → (∀ b, b < W6.heap.size → ¬ pinned p6 b → W'.heap[b]? = W6.heap[b]?) → Dfs A3 w.heap.size [dK] W' a2.defers := fun {A3 W' a2 D} hA3 hD hDl hDh hde hold => by
     obtain ⟨Ds, f1, f2, f3⟩ := hdf6
     have hs6 := hbs6.but.size
     refine ⟨D :: Ds, by rw [hde, f1]; rfl, List.nodup_cons.2 ⟨fun hm => ?_, f2⟩, fun D' hm => ?_⟩
     ·have := qu (f3 D hm).2.1
      omega
     ·rcases List.mem_cons.1 hm with rfl | hm
      ·exact ⟨by omega, hDh, hD⟩
      ·obtain ⟨g1, g2, g3⟩ := f3 D' hm
       exact ⟨g1, (hold D' (qu g2) fun ⟨q, hq⟩ => g3 (hb6.pa q _ hq)).trans g2, fun h => g3 (hA3 _ h)⟩
    refine zcf (c2 := c2) (p8 := p6) hl2 hfz2 hb6.anew hf6 hz6 hok.1 (by omega) so (fun A3 p' W' a2 D hA3 hD hDl hDh hde hz2 hold hb8 hbn8 he hs8 hlen => ?_) (fun A3 p' W' a2 D hA3 hD hDl hDh hde hz2 hold hb8 hbn8 he hs8 => ?_)
    ·-- the next wake
     show (sqR (sqR (sqR qeh))).wpIn (FR none) 5 Tryz.prog _ a2 W'
     have hdf8 := hnew hA3 hD hDl hDh hde hold
     have hbs8 : Bs c.A c.F w S0 p' W' := hbs6.up (show Bs c2.A c.F W6 (pinned p6) p' W' from e2 ▸ hb8) hA2
     obtain ⟨r, hr⟩ : ∃ r, r = jj wk.val sk o (yf sk wk.att) := ⟨_, rfl⟩
     rw [← hr] at hs8 he hlen hrun hok
     obtain ⟨c3, hc3⟩ : ∃ c3 : Cx, c3 = { c2 with A := A3 } := ⟨_, rfl⟩
     have hc3A : c3.A = A3 := by rw [hc3]
     have hc3F : c3.F = c2.F := by rw [hc3]
     have hc3l : c3.lo = 1 := by rw [hc3]; exact hl2
     have pre := q9i (c := c3) (z := 69) none 5 qdu (fun te => by rw [hc3F]; exact hfm te) rfl wkN (n := 6) (ann := q75) (R := fun q => q = [.i ((k + 1 : Nat) : Int)]) (B := fun _ _ => False) (ts := [(26, .int .i64, [], [])]) (ms := []) (kill := []) (σk := ⟨q4r.t.filter (fun e => !Nat.beq e.1 26), q4r.m⟩) (d := a2.defers) (l := [eS s, .r (ws.map eW), .i k, eS r.1, .r (r.2.1.map eC), .i 0]) (σ := q4r) (w0 := W') (S0 := pinned p') (p := p') (a := a2) (w := W') (Q := fun _ _ _ => False) (K := fun a3 W3 => zlo c w S0 dK s ws (k + 1) a3 W3) (by
      rw [hc3l, zfk]
      unfold zm0
      rw [qa]
      have hr : i64 ((k : Int) + 1) := by
       unfold i64
       omega
      simp only [qg, X.says, X.ev, evl, List.getD_cons_zero, List.getD_cons_succ, yv, q5i, q52, hr, and_self, true_and]
      rfl) rfl (by rw [hc3A, hc3F]; exact hbn8) (by rw [hc3]; exact hs8) rfl hz2 fun st p9 W9 a9 hR9 hst9 hb9 hf9 hd9 hz9 => ?_
     ·refine wpIn_mono pre fun e a3 W3 hq => ?_
      cases e with
      | normal => exact qw1 hlo hfz hwl ho hfin f (k + 1) a3 W3 hq (by omega)
      | _ => exact hq.elim
     ·have hR9 : st = [.i ((k + 1 : Nat) : Int)] := hR9
      subst hR9
      rw [show q2a [(26, .int .i64, [], [])] [] 6 (q1p [(26, .int .i64, [], [])] [] [] 6 ⟨q4r.t.filter (fun e => !Nat.beq e.1 26), q4r.m⟩) = zmk from ze1] at hf9
      have hst9 : ∀ b, b < W'.heap.size → ¬ A3 b → W9.heap[b]? = W'.heap[b]? := fun b hb hn => (hb9.stays hb fun q hq => hn (hbn8.pa q _ hq)).1
      rw [hc3A, hc3F] at hb9
      refine ⟨c3, p9, r.1, r.2.1, by rw [hc3]; exact e1, by rw [hc3]; exact e2, by rw [hc3]; exact e3, by rw [hc3]; exact e4, fun b h => hA2 b (hA3 b (by rw [← hc3A]; exact h)), hbs8.up (show Bs A3 c.F W' (pinned p') p9 W9 from e2 ▸ hb9) fun b h => hA2 b (hA3 b h), by rw [hc3A, hc3F]; exact hb9.anew, ?_, ?_, hz9, ?_, ?_, ?_, ?_, hk⟩
      ·refine ⟨fun t x hx => ?_, fun j e he => ?_⟩
       ·have hx := qx hx
        simp only [q4r, gnM] at hx
        rcases hx with ⟨rfl, rfl⟩ | ⟨rfl, rfl⟩ | ⟨rfl, rfl⟩ | ⟨rfl, rfl⟩ | ⟨rfl, rfl⟩ | ⟨rfl, rfl⟩ | ⟨rfl, rfl⟩
        ·exact hf9.t 0 (.ref 0 [] 0 qi) (by kernel_rfl)
        ·exact hf9.t 1 (.bx 1 41 (.ref 0 [] 0 qi)) (by kernel_rfl)
        ·exact hf9.t 2 (.ref 2 [] 0 zo) (by kernel_rfl)
        ·exact hf9.t 3 (.sn (VB + 3) (.ref 3 [] 0 y8)) (by kernel_rfl)
        ·exact hf9.t 24 (.v (.tok 1) q3l [(0, 385)] []) (by kernel_rfl)
        ·exact hf9.t 25 (.v (.len (.tok 1)) (.int .i64) [] []) (by kernel_rfl)
        ·exact hf9.t 26 (.v (.tok 6) (.int .i64) [] []) (by kernel_rfl)
       ·have he := qx he
        simp only [q4r, gnM] at he
        rcases he with ⟨rfl, rfl⟩ | ⟨rfl, rfl⟩ | ⟨rfl, rfl⟩
        ·exact hf9.m 0 ⟨.tok 3, qi, qv 0 qi, []⟩ (by kernel_rfl)
        ·exact hf9.m 2 ⟨.tok 4, zo, [(0, 33)], []⟩ (by kernel_rfl)
        ·exact hf9.m 3 ⟨.tok 5, y8, [], []⟩ (by kernel_rfl)
      ·rw [hd9, hc3A]
       exact hdf8.keep (S0 := S0) (p := p3) hst9
      ·rw [if_pos he] at hrun
       exact hrun
      ·rcases hok.2 with h | h
       ·exact absurd he h
       ·exact h
      ·rw [hr]
       exact hgr.trans (qg7 _ _ _ _ hok.1)
      ·have : r.2.1.length ≤ o.length + (yf sk wk.att).length := hlen
       omega
    ·-- the return from within
     have hdf8 := hnew hA3 hD hDl hDh hde hold
     have hbs8 : Bs c.A c.F w S0 p' W' := hbs6.up (show Bs c2.A c.F W6 (pinned p6) p' W' from e2 ▸ hb8) hA2
     rw [if_neg he] at hrun
     have hgt : qaq s (jj wk.val sk o (yf sk wk.att)).1 := hgr.trans (qg7 _ _ _ _ hok.1)
     obtain ⟨r, hr⟩ : ∃ r, r = jj wk.val sk o (yf sk wk.att) := ⟨_, rfl⟩
     rw [← hr] at hs8 he hrun hgt
     rw [← hrun, if_neg he] at ho
     show Q .ret a2 W'
     refine hfin 4 .ret wkE [eS s, eS r.1, .r [], .i r.2.2] (fun _ _ => False) p' W' a2 { c2 with A := A3 } rfl ?_ rfl e1 e2 e3 e4 (fun b h => hA2 b (hA3 b h)) hbs8 hbn8 hs8 hdf8 hz2
     rw [zfn, ho]
     have hg : qb q56 2 [.i r.2.2, eS r.1, eS s] = some [eS (qzf s r.1)] := zef hgt.1 hgt.2.1 (by rw [hgt.2.2.2.1]; exact Nat.le_refl _) he
     unfold zn9
     simp only [qa, qd, qg, X.says, X.evs, X.ev, evl, List.getD_cons_zero, List.getD_cons_succ, hg]
     exact ⟨⟨rfl, trivial⟩, rfl⟩
  have e := qic
  rw [← e] at hW
  exact hW
end
set_option maxHeartbeats 1000000 in
theorem qtk : FOk yk zky := by
 refine z81 Tryz.f23 2 wkC qdu (fun l => rfl) Tryz.func23 zb5 q25 (by rw [zd5]; decide) rfl zid (ann := q75) wkK fun ds outs hwf hg => ?_
 obtain ⟨d, r', rfl, hs, rfl⟩ := hwf
 obtain ⟨s, rfl, so⟩ := wfS hs
 simp only [zky, zk] at hg
 split at hg
 case isFalse => cases hg
 rename_i hcond
 obtain ⟨hw1, hc1, hwb⟩ := hcond
 have hg := (gnI hg).symm
 refine ⟨fun q => q = [.r (s.wk.map eW), .i ((s.wk.map eW).length : Nat), .i 0, eS s, .r [], .i 0], fun _ _ => False, ?_, ?_⟩
 ·show (q4q Tryz.prog q56 q75 1 Tryz.f23.ntmps zka 1 (qql yk) _).go _ _ _ _
  rw [zd5, zd8]
  have hq : zc0 3518437208780 (.r (s.wk.map eW)) = true := by
   simp only [zc0, q6i, List.length_map, gnD]
   omega
  have h0 : qb q56 0 [.r (s.wk.map eW)] = some [.r (s.wk.map eW)] := by
   have ht : qb q56 0 = gCl 3518437208780 := rfl
   rw [ht]
   simp only [gCl, hq, if_true]
  have h1 : qb q56 1 [.r (s.wk.map eW)] = some [] := by
   have ht : qb q56 1 = zeh := rfl
   rw [ht]
   simp only [zeh, q6i, List.length_map, if_pos hw1]
  unfold zng
  simp only [qa, qd, qg, X.says, X.evs, X.ev, evl, List.getD_cons_zero, List.getD_cons_succ, z24, h0, h1, Option.getD_some, Option.isSome_some, q6i, q5i, and_self, and_true, true_and]
 ·intro c p w a S0 Q l n σ ks te was B dK hgo hl hpre hup hlo hfz hp0 hfr0 hb hf hd hz hfin
  unfold wkK at hgo
  split at hgo
  case isFalse => exact hgo.elim
  rename_i hok
  simp only [gnB] at hok
  obtain ⟨h1, h2, h3, h4⟩ := hok
  obtain rfl := gnN h1
  obtain rfl := gnN h2
  obtain rfl := gnN h3
  obtain rfl := X.beq_ok _ _ h4
  have hlo : c.lo = 1 := hlo
  have hz : a.tmps.size = 69 := hz.trans zd5
  have hl1 : l = [eS s] := by
   have e : l.take 1 = [eS s] := hpre
   rw [← e, List.take_of_length_le (by omega)]
  subst hl1
  have hcl : Code.wpIn (FR none) 5 Tryz.prog (seqs [sqL q5w, sqL (sqR q5w)] (.seq (.seq (sqL (sqL z3f)) (.block z0a (.loop qeh))) wkZ)) Q a w := by
   refine q1j _ ?_
   have pre : q9r (FR none) 5 Tryz.prog Q zjw (fun a1 W1 => (Code.block z0a (.loop qeh)).wpIn (FR none) 5 Tryz.prog (Exit.then (wkZ.wpIn (FR none) 5 Tryz.prog Q) Q) a1 W1) a w := by
    refine q9i (c := c) (z := 69) none 5 qdu (fun te => by rw [hfz]; exact Nat.zero_le _) rfl zjw (n := 1) (ann := q75) (R := fun q => q = [.r (s.wk.map eW), .i ((s.wk.map eW).length : Nat), .i 0, eS s, .r [], .i 0]) (B := B) (ts := wkI) (ms := wkM) (kill := []) (σk := wkQ) (d := [dK]) (l := [eS s]) (σ := σ) (w0 := w) (S0 := S0) (p := p) (by rw [hlo]; exact hgo) rfl hb hf hd hz fun st p1 W1 a1 hR hst hb1 hf1 hd1 hz1 => ?_
    have hR : st = [.r (s.wk.map eW), .i ((s.wk.map eW).length : Nat), .i 0, eS s, .r [], .i 0] := hR
    subst hR
    rw [show q2a wkI wkM 1 (q1p wkI wkM [] 1 wkQ) = zld from zg6] at hf1
    refine wpIn_block (wpIn_loop_rounds (s.wk.length + 1) ?_)
    refine qw1 (c := c) (w := w) (S0 := S0) (dK := dK) (s := s) (ws := s.wk) (outs := outs) hlo hfz (by omega) ?_ ?_ (s.wk.length + 1) 0 a1 W1 ?_ (by omega)
    ·rw [hg]
     unfold z63
     split <;> rfl
    ·intro n' r σ' l' B' p' w' a' c2 q1 q2 q3 q4 q5 q6 q7 q8 q9 q10 q11 q12 q13
     exact hfin n' r σ' l' B' p' w' a' c2 q1 q2 q3 q4 q5 q6 q7 q8 q9 q10 q11 q12 (q13.trans zd5.symm)
    ·refine ⟨c, p1, s, [], rfl, rfl, rfl, rfl, fun _ h => h, hb1, hb1.anew, ?_, ⟨[], by rw [hd1]; rfl, by simp, fun D hD => nomatch hD⟩, hz1, rfl, hwb, qaq.refl s, by simp, Nat.zero_le _⟩
     refine ⟨fun t x hx => ?_, fun j e he => ?_⟩
     ·have hx := qx hx
      simp only [q4r, gnM] at hx
      rcases hx with ⟨rfl, rfl⟩ | ⟨rfl, rfl⟩ | ⟨rfl, rfl⟩ | ⟨rfl, rfl⟩ | ⟨rfl, rfl⟩ | ⟨rfl, rfl⟩ | ⟨rfl, rfl⟩
      ·exact hf1.t 0 (.ref 0 [] 0 qi) (by kernel_rfl)
      ·exact hf1.t 1 (.bx 1 41 (.ref 0 [] 0 qi)) (by kernel_rfl)
      ·exact hf1.t 2 (.ref 2 [] 0 zo) (by kernel_rfl)
      ·exact hf1.t 3 (.sn (VB + 3) (.ref 3 [] 0 y8)) (by kernel_rfl)
      ·exact hf1.t 24 (.v (.tok 1) q3l [(0, 385)] []) (by kernel_rfl)
      ·exact hf1.t 25 (.v (.tok 2) (.int .i64) [] []) (by kernel_rfl)
      ·exact hf1.t 26 (.v (.tok 3) (.int .i64) [] []) (by kernel_rfl)
     ·have he := qx he
      simp only [q4r, gnM] at he
      rcases he with ⟨rfl, rfl⟩ | ⟨rfl, rfl⟩ | ⟨rfl, rfl⟩
      ·exact hf1.m 0 ⟨.tok 4, qi, qv 0 qi, []⟩ (by kernel_rfl)
      ·exact hf1.m 2 ⟨.tok 5, zo, [(0, 33)], []⟩ (by kernel_rfl)
      ·exact hf1.m 3 ⟨.tok 6, y8, [], []⟩ (by kernel_rfl)
   refine q5v (Q := Q) (Q' := Q) (fun e a w _ h => h) [sqL q5w, sqL (sqR q5w)] (fun a w h => ?_) (qah [sqL q5w, sqL (sqR q5w)] [sqL (sqL z3f)] pre)
   refine wpIn_seq (wpIn_seq (wpIn_mono h fun e a w hq => ?_))
   cases e with
   | normal => exact hq
   | _ => exact hq
  have e := z7u
  rw [← e] at hcl
  exact hcl
end
section
section
variable {s : So} (hv : y9 s = true)
include hv
theorem zne (c : Ce) : vcP s c = vcR s c := (qk5 hv).vc c
theorem tagz (n : Int) : 0 ≤ q2e s n ↔ inS s n = true := by
 have := (qk5 hv).tag_in n
 rw [← this]
 simp
theorem zhr : ∀ (k : Nat) (c : Ce), z2h s k c = qad s k c
 | 0, c => rfl
 | k + 1, c => by
  unfold z2h qad
  by_cases h : c.t = 0 ∧ inS s c.n = true ∧ cellAt s c.n ≠ c
  ·rw [if_pos h, if_pos ⟨h.1, (tagz hv _).2 h.2.1, h.2.2⟩, zhr k]
  ·rw [if_neg h, if_neg (fun q => h ⟨q.1, (tagz hv _).1 q.2.1, q.2.2⟩)]
theorem derz (c : Ce) : q1o s c = q35 s c := by
 unfold q1o q35
 rw [zne hv]
 cases h : vcR s c with
 | false => rfl
 | true => rw [if_pos rfl, if_pos rfl, zhr hv, z6e hv h]
theorem qya {c : Ce} (hc : vcR s c = true) (h3 : c.t = 3) : inS s c.n = true ∧ (cellAt s c.n).t = 4 ∧ 0 ≤ (cellAt s c.n).n ∧ (cellAt s c.n).n < s.ys.length ∧ arS s (cellAt s c.n).n = (qar s (cellAt s c.n).n).ar ∧ ∀ j : Nat, (j : Int) < (qar s (cellAt s c.n).n).ar → inS s (c.n + 1 + j) = true ∧ vcR s (cellAt s (c.n + 1 + j)) = true := by
 unfold vcR at hc
 rw [if_neg (by omega), if_neg (by omega), if_neg (by omega), if_pos h3] at hc
 have h4 : q2e s c.n = 4 := of_decide_eq_true hc
 have hi : inS s c.n = true := by
  unfold q2e at h4
  split at h4
  ·assumption
  ·omega
 rw [q5c hi] at h4
 obtain ⟨a1, a2, a3⟩ := zju hv hi h4
 obtain ⟨b1, b2, b3⟩ := z8r (show 0 ≤ arS s (cellAt s c.n).n by omega)
 exact ⟨hi, h4, b1, b2, b3, fun j hj => a3 j (by rw [b3]; exact hj)⟩
end
def qt0 (s : So) (c : Ce) (nm : ByteArray) (k : Int) : Bool := decide (c.t = 3) && decide (qar s (cellAt s c.n).n = ⟨nm, k⟩)
def z4v : List D → Option (List D)
 | [s, c, nm, k] => if y9 (dS s) && vcR (dS s) (dC c) then some [.b (qt0 (dS s) (dC c) nm.str k.int)] else none
 | _ => none
theorem qix : FOk jq z4v := qhm fun ds outs hw hg => by
 obtain ⟨d, r, rfl, hd, e, r', rfl, he, f, r2, rfl, hf, g, r3, rfl, hk, rfl⟩ := hw
 obtain ⟨s, rfl, hs⟩ := wfS hd
 obtain ⟨c, rfl, hc⟩ := wfC he
 obtain ⟨nm, rfl, hn⟩ := hf.str
 obtain ⟨k, rfl, hk⟩ := wfI hk
 simp only [z4v, zk, yw, q2s, yv, Option.ite_none_right_eq_some, Option.some.injEq, gnB] at hg
 obtain ⟨⟨hv, hcv⟩, rfl⟩ := hg
 have ek : D.a [.s nm, .i k] = eY ⟨nm, k⟩ := rfl
 by_cases h3 : c.t = 3
 ·obtain ⟨a1, a2, a3, a4, a5, -⟩ := qya hv hcv h3
  have i1 := z5.1 a1
  have eg : (D.r (s.ys.map eY)).get (cellAt s c.n).n = eY (qar s (cellAt s c.n).n) := quj eY a3 a4
  simp only [q2c, gnZ, ze a1, eg, ek, h3, qt0]
  simp [a3, a4, i1.1, i1.2, h3]
 ·simp only [q2c, gnZ, h3, qt0]
  simp [h3]
def qu9 (l : List ByteArray) (nm : ByteArray) : Int := match l.findIdx? fun a => decide (a = nm) with
 | some i => i
 | none => -1
def qvf : List D → Option (List D)
 | [l, nm] => some [.i (qu9 (l.rs.map D.str) nm.str)]
 | _ => none
theorem qus {s : So} (hv : y9 s = true) (h : vcR s x = true) (h5 : x.t = 5) : inS s x.n = true ∧ cellAt s x.n = x ∧ inS s (x.n + 2) = true ∧ vcR s (cellAt s (x.n + 2)) = true := by
 unfold vcR at h
 rw [if_neg (by omega), if_neg (by omega), if_neg (by omega), if_neg (by omega), if_pos h5] at h
 have ht : q2e s x.n = 5 := of_decide_eq_true h
 have hi : inS s x.n = true := by
  unfold q2e at ht
  split at ht
  ·assumption
  ·omega
 rw [q5c hi] at ht
 have hc := qob hv hi
 unfold q9p at hc
 rw [if_neg (by omega)] at hc
 simp only [gnB, Bool.or_eq_true, Bool.not_eq_true', decide_eq_false_iff_not, gnD] at hc
 obtain ⟨hn, hg⟩ : (cellAt s x.n).n = x.n ∧ qkd s x.n = true := by
  rcases hc.2.2 with q | q
  ·exact (q ht).elim
  ·exact q
 simp only [qkd, gnB, gnD, Bool.not_eq_true', decide_eq_false_iff_not] at hg
 have h2 : inS s (x.n + 2) = true := (tagz hv _).1 hg.2.2.2.1
 refine ⟨hi, Ce.ext' (ht.trans h5.symm) hn, h2, z6o hv h2 ?_⟩
 have := hg.2.2.2.2.1
 rwa [q5c h2] at this
def z5r : List D → Option (List D)
 | [s, c] => if y9 (dS s) then some [eC (q35 (dS s) (dC c)), .b (vcR (dS s) (dC c) && (decide ((q35 (dS s) (dC c)).t = 0) || decide ((q35 (dS s) (dC c)).t = 5)))] else none
 | _ => none
theorem qfp : FOk jd z5r := qfx qcu q1n fun ds outs hw hg => by
 obtain ⟨d, r, rfl, hd, e, r', rfl, he, rfl⟩ := hw
 obtain ⟨s, rfl, hs⟩ := wfS hd
 obtain ⟨c, rfl, hc⟩ := wfC he
 simp only [z5r, zk, yw, Option.ite_none_right_eq_some, Option.some.injEq] at hg
 obtain ⟨hv, rfl⟩ := hg
 simp [q3x, gnZ, z2u, qb8, hv]
theorem varz {s : So} (hv : y9 s = true) (v : Ce) : q50 s v = if vcR s v && (decide ((q35 s v).t = 0) || decide ((q35 s v).t = 5)) then (q35 s v, true) else (⟨0, 0⟩, false) := by
 unfold q50
 rw [zne hv, derz hv]
 cases hc : vcR s v with
 | false => rfl
 | true =>
  have hd := qhu hv hc
  simp only [if_true, Bool.true_and]
  by_cases h0 : (q35 s v).t = 0
  ·simp [h0, (qxu hd h0).1]
  ·by_cases h5 : (q35 s v).t = 5
   ·obtain ⟨a1, -, a3, -⟩ := qus hv hd h5
    simp [h0, h5, a1, a3]
   ·simp [h0, h5]
end
def q1h : Ct := ⟨25, [], [(.st 26, true), (.st 28, false), (.bool, false)], [], none, [], []⟩
theorem qed : EnZ q1h := fun _ _ => by kernel_rfl
def qih : Ann := ⟨[0, 1, 2, 3, 4, 5, 6, 7], []⟩
def q4f : Tree := (.need [(.ok 0 [(.lit (.i 100))])] (.need [(.ok 1 [(.call 0 0 [(.lit (.i 100))])])] (.need [(.ok 3 [(.call 1 2 [(.call 0 0 [(.lit (.i 100))])]), (.call 1 0 [(.call 0 0 [(.lit (.i 100))])]), (.lit (.s ⟨#[97]⟩)), (.call 2 0 [(.lit (.i 1))])]), (.ok 2 [(.lit (.i 1))])] (.leaf [(.call 3 1 [(.call 1 2 [(.call 0 0 [(.lit (.i 100))])]), (.call 1 0 [(.call 0 0 [(.lit (.i 100))])]), (.lit (.s ⟨#[97]⟩)), (.call 2 0 [(.lit (.i 1))])]), (.call 1 0 [(.call 0 0 [(.lit (.i 100))])]), (.and (.and (.eq (.call 0 1 [(.lit (.i 100))]) (.lit (.i 0))) (.eq (.call 1 1 [(.call 0 0 [(.lit (.i 100))])]) (.lit (.i 0)))) (.eq (.call 3 0 [(.call 1 2 [(.call 0 0 [(.lit (.i 100))])]), (.call 1 0 [(.call 0 0 [(.lit (.i 100))])]), (.lit (.s ⟨#[97]⟩)), (.call 2 0 [(.lit (.i 1))])]) (.lit (.i 0))))]))))
theorem qgo (g0 g1 g2 g3 : GfZ) : CdZ [(q0s, g0), (qz, g1), (q06, g2), (q19, g3)] qih q1h Tryz.f25 q4f := fun cd h => by injection h with h; subst h; kernel_rfl
theorem qh6 {g0 g1 g2 g3 g : GfZ} (h0 : FOk q0s g0) (h1 : FOk qz g1) (h2 : FOk q06 g2) (h3 : FOk q19 g3) (h : HgZ q4f q1h [(q0s, g0), (qz, g1), (q06, g2), (q19, g3)] g) : FOk q1h g := yh (qgo g0 g1 g2 g3) (.cons h0 (.cons h1 (.cons h2 (.cons h3 .nil)))) rfl rfl qed (by decide) h
def q29 : Ct := ⟨8, [], [(.bool, false)], [], none, [], []⟩
theorem qhy : EnZ q29 := fun _ _ => by kernel_rfl
def qbp : Ann := ⟨[0, 1, 2, 3, 4, 5, 6, 7, 8, 9, 48, 59], []⟩
section
namespace Dl
open Go.RowKit Go.Shelf
attribute [local go_sem] Oper.semAt_some
theorem z7g (w : World) {o : Oper} (hgd : o.guard = none) (s x : Operand) (t t' : TypeId)
  (ho : o.op = .call { callee := .builtin .append, args := #[s, x], argTypes := #[t, t'] }) (v u : Value) (hs : a.eval s = v) (hx : a.eval x = u) {v' : Value} {w' : World}
  (hr : (Builtin.append_ #[t, t'] o.type #[v, u]).run Tryz.prog w = .ok v' w') (h : wpList Tryz.prog ops Q rest (a.put o.dst v') w') : wpList Tryz.prog ops Q (o :: rest) a w :=
 wpList_plain hgd fun _ hK => by
  unfold Oper.wp execOp
  simp only [ho, resolve, invoke, builtin, Sem.run_bind, Sem.run_pure, Result.andThen_ok, List.map_toArray, List.map_cons, List.map_nil, hs, hx, hr]
  exact hK _ _ h
theorem zfj (w : World) (b cap n i : Nat) (hi : i < n) (hcap : n ≤ cap) (hc63 : cap ≤ 9223372036854775807) (w1 w2 : World)
  (happ : ∀ o : Addr, o.block = b → (i + 1 < n → o = ⟨b, (i + 1) * 3, none⟩) → (Builtin.append_ #[62, 62] 62 #[.slice (some ⟨b, 0, none⟩) i cap, .slice (some o) (n - (i + 1)) (cap - (i + 1))]).run Tryz.prog w.drew = .ok (.slice (some ⟨b, 0, none⟩) (n - 1) cap) w1)
  (hclr : (Builtin.clear_ #[62] 0 #[.slice (some ⟨b, (n - 1) * 3, none⟩) 1 (cap - (n - 1))]).run Tryz.prog w1 = .ok (.tuple #[]) w2) : Calls Tryz.prog 46 #[.slice (some ⟨b, 0, none⟩) n cap, .int .i64 (i : Nat), .int .i64 ((i : Nat) + 1)] w fun e w' => e = .returned (.slice (some ⟨b, 0, none⟩) (n - 1) cap) ∧ w' = w2 := by
 have hne : ¬ ((i : Int) = (i : Int) + 1) := by omega
 have h1 : i ≤ cap := by omega
 have h2 : i + 1 ≤ n := by omega
 have h3 : i + 1 ≤ cap := by omega
 have h4 : (0 : Int) ≤ (i : Int) + 1 ∧ (i : Int) + 1 ≤ (n : Int) := by omega
 go_enter Tryz.func46, Tryz.ntmps46
 go_wp2_with fail
 go_still_tail 6, (by kernel_rfl)
 change wpList _ _ _ _ _ w.drew
 obtain ⟨o, ho⟩ : ∃ o : Addr, (if cap = i + 1 then some (⟨b, 0, none⟩ : Addr) else some ⟨b, (i + 1) * 3, none⟩) = some o := by
  by_cases e : cap = i + 1
  ·exact ⟨_, if_pos e⟩
  ·exact ⟨_, if_neg e⟩
 have ho1 : o.block = b := by
  split at ho <;> (injection ho with ho; subst ho; rfl)
 have ho2 : i + 1 < n → o = ⟨b, (i + 1) * 3, none⟩ := fun h => by
  rw [if_neg (by omega)] at ho
  injection ho with ho
  exact ho.symm
 rw [ho]
 have ha := happ o ho1 ho2
 refine z7g _ rfl _ _ _ _ rfl _ _ rfl rfl ha ?_
 have k1 : n - 1 ≤ n := by omega
 have k2 : n ≤ cap := hcap
 have k3 : ((n - 1 : Nat) : Int) ≤ (n : Int) := by omega
 have k4 : n - (n - 1) = 1 := by omega
 have k5 : ¬ cap = n - 1 := by omega
 go_wp2_with fail
 exact bodyPost_ret (v := .slice (some ⟨b, 0, none⟩) (n - 1) cap) (by simp [results, Tryz.results46, go_sem]) rfl ⟨rfl, rfl⟩
end Dl
end
section
namespace Dl
open Go.RowKit Go.Shelf
abbrev tAt : TypeId := 66
abbrev qzh : TypeId := 62
theorem wA : (Ty.st aS).w = 3 := by kernel_rfl
def flT (a : At) : List Value := [.string a.name, .int .i64 a.val.t, .int .i64 a.val.n]
def rwA (l : List At) : List Value := l.flatMap flT
theorem qas (l : List At) : (rwA l).length = l.length * 3 := by
 induction l with
 | nil => rfl
 | cons x l ih => simp [rwA, flT] at ih ⊢; omega
theorem qwu (l m : List At) : rwA (l ++ m) = rwA l ++ rwA m := List.flatMap_append
theorem qzy (x : At) (l : List At) : rwA (x :: l) = flT x ++ rwA l := rfl
theorem zg5 {l : List At} : ∀ v ∈ rwA l, v.oneCell' = true := fun v hv => by
 obtain ⟨x, -, hx⟩ := List.mem_flatMap.1 hv
 simp only [flT, List.mem_cons, List.not_mem_nil, or_false] at hx
 rcases hx with rfl | rfl | rfl <;> rfl
theorem znf {x : At} (h : x.ok) (w : World) (F : Nat → Prop) : Rd w F (eA x) (.st aS) (flT x) :=
 ⟨_, _, rfl, flA, .str, [qn], [.string x.name], ceL x.val, rfl, rfl, ⟨rfl, rfl, h.1⟩, qn, [], ceL x.val, [], rfl, by simp, qvt h.2, rfl, rfl⟩
theorem zjk {w : World} (h : Rd w F d (.st aS) cs) : ∃ x : At, x.ok ∧ d = eA x ∧ cs = flT x := by
 obtain ⟨l, rfl, hF⟩ := Ins.of_rdS flA h
 obtain ⟨d1, l1, c1, c2, rfl, rfl, h1, hG⟩ := Ins.of_rdF hF
 obtain ⟨d2, l2, c3, c4, rfl, rfl, h2, hH⟩ := Ins.of_rdF hG
 obtain ⟨rfl, rfl⟩ := Ins.of_rdN hH
 obtain ⟨x, ha, hx⟩ := wfA ⟨w, F, _, h⟩
 obtain ⟨n, v⟩ := x
 have e := congrArg D.fs ha
 simp only [eA, D.fs, List.cons.injEq, and_true] at e
 obtain ⟨rfl, rfl⟩ := e
 obtain rfl := quu h2
 obtain ⟨-, rfl, -⟩ := h1
 exact ⟨⟨n, v⟩, hx, rfl, rfl⟩
theorem qw3 {w : World} {o : Nat} (hc : w.heap[b]? = some (.cells cur T (0, 0))) : ∀ {rs : List D} {i : Nat}, RdE w F rs (.st aS) (some ⟨b, o, none⟩) i → ∃ L : List At, rs = L.map eA ∧ (∀ x ∈ L, x.ok) ∧ cur.toList.drop (o + i * 3) = rwA L ++ cur.toList.drop (o + (i + rs.length) * 3)
 | [], i, _ => ⟨[], rfl, fun x hx => (by cases hx), by simp [rwA]⟩
 | d :: rs, i, ⟨⟨b', o', cs, e, hF, hr, hd⟩, h⟩ => by
  injection e with e
  injection e with e1 e2
  subst e1 e2
  obtain ⟨x, hx, rfl, rfl⟩ := zjk hd
  obtain ⟨L, rfl, hL, hdr⟩ := qw3 hc h
  rw [wA] at hr
  refine ⟨x :: L, rfl, fun y hy => (List.mem_cons.1 hy).elim (fun e => e ▸ hx) (hL y), ?_⟩
  have := Ins.range_drop3 hc hr
  rw [this, show o + i * 3 + 3 = o + (i + 1) * 3 by omega, hdr, show i + 1 + (L.map eA).length = i + (eA x :: L.map eA).length by simp; omega]
  rfl
theorem z83 {w : World} {l : List D} (h : q21 A p w dep pin tAt (.st aS) l v) (h0 : 0 < l.length) :
  ∃ g cap L post, v = .slice (some ⟨g, 0, none⟩) l.length cap ∧ p pin = some g ∧ l = L.map eA ∧ (∀ x ∈ L, x.ok) ∧ w.heap[g]? = some (.cells (rwA L ++ post).toArray tAt (0, 0)) ∧ l.length ≤ cap ∧ cap ≤ maxLen ∧ post.length = (cap - l.length) * 3 := by
 rcases h with ⟨-, rfl⟩ | ⟨g, cap, cur, rfl, hg, hh, h1, h2, h3, h4, h5⟩
 ·simp at h0
 ·obtain ⟨L, hL, hok, hdr⟩ := qw3 (F := FFD A p (pin :: dep)) (o := 0) hh (rs := l) (i := 0) (q0n.2 fun j hj => by
   obtain ⟨cs, hr, hx⟩ := h5 j hj
   exact ⟨g, 0, cs, rfl, .inr ⟨pin, by simp, hg⟩, by simpa using hr, hx.mono fun b _ hb => hb.mono fun x hx => List.mem_cons_of_mem _ hx⟩)
  have hl := qas L
  have hll : l.length = L.length := by rw [hL, List.length_map]
  simp only [Nat.zero_mul, Nat.zero_add, List.drop_zero] at hdr
  rw [wA] at h3
  have hcl := congrArg List.length hdr
  rw [List.length_append, List.length_drop, Array.length_toList] at hcl
  refine ⟨g, cap, L, cur.toList.drop (l.length * 3), rfl, hg, hL, hok, ?_, h1, h2, ?_⟩
  ·rw [← hdr]
   exact hh
  ·rw [List.length_drop, Array.length_toList]
   omega
theorem z6g : ∀ {l : List At} {i : Nat} (h : i < l.length) {j : Nat} {v : Value}, (flT l[i])[j]? = some v → (rwA l)[i * 3 + j]? = some v
 | x :: l, 0, _, j, v, hj => by
  rw [Nat.zero_mul, Nat.zero_add, qzy]
  exact List.getElem?_append_left (by have := (gnH.1 hj).1; exact this) ▸ hj
 | x :: l, i + 1, h, j, v, hj => by
  have := z6g (l := l) (i := i) (by simpa using h) (j := j) (v := v) (by simpa using hj)
  rw [qzy, show (i + 1) * 3 + j = i * 3 + j + 3 by omega]
  exact this
theorem quz {w : World} {k : Nat} (h : w.heap[b]? = some (.cells cs.toArray T (0, 0))) (hv : cs[k]? = some v) : w.cell? ⟨b, k, none⟩ = some v := by
 have := cell_of_row w b k _ T (0, 0) h
 rw [this]
 simpa using hv
theorem zgc {w : World} {g cap : Nat} {M : List At} {post : List Value} (hp : p pin = some g) (hM : ∀ x ∈ M, x.ok) (hh : w.heap[g]? = some (.cells (rwA M ++ post).toArray tAt (0, 0))) (h1 : M.length ≤ cap) (h2 : cap ≤ maxLen) (h3 : post.length = (cap - M.length) * 3) (h4 : M.length ≤ 4398046510976) :
  q21 A p w [] pin tAt (.st aS) (M.map eA) (.slice (some ⟨g, 0, none⟩) M.length cap) := by
 have hl := qas M
 refine .inr ⟨g, cap, _, by rw [List.length_map], hp, hh, by rw [List.length_map]; exact h1, h2, by rw [List.size_toArray, List.length_append, wA]; omega, by rw [List.length_map, lmA]; exact h4, fun i hi => ?_⟩
 have hi' : i < M.length := by simpa using hi
 refine ⟨flT M[i], fun j v hj => ?_, by simpa using znf (hM _ (List.getElem_mem hi')) _ _⟩
 rw [wA]
 have := z6g hi' hj
 exact quz hh (List.getElem?_append_left (by have := (gnH.1 this).1; exact this) ▸ this)
theorem za1 : Tryz.prog.underlying qzh = some (.slice tAt) := by kernel_rfl
theorem zgr : (Tryz.prog.info? tAt).map (fun i => i.size) = some 3 := by kernel_rfl
theorem zdc (w : World) : (zeroValue tAt).run Tryz.prog w = .ok (.agg #[.string ⟨#[]⟩, .int .i64 0, .int .i64 0]) w := by kernel_rfl
theorem z3e (w : World) (g i m cap mc : Nat) (a : Addr) (cur : Array Value) (t : TypeId) (cs : List Value)
  (hg : w.heap[g]? = some (.cells cur t (0, 0))) (hl : cs.length = m * 3) (hsrc : ∀ j v, cs[j]? = some v → w.cell? (a.add j) = some v) (hroom : i + m ≤ cap) (hfit : i * 3 + cs.length ≤ cur.size) (h1 : ∀ v ∈ cs, v.oneCell' = true) :
  (Builtin.append_ #[qzh, qzh] qzh #[.slice (some ⟨g, 0, none⟩) i cap, .slice (some a) m mc]).run Tryz.prog w =
   .ok (.slice (some ⟨g, 0, none⟩) (i + m) cap) (w.setRow g (cur.toList.take (i * 3) ++ cs ++ cur.toList.drop (i * 3 + cs.length)).toArray) := by
 have hld := run_loadCells_list (P := Tryz.prog) w a cs hsrc
 have hst := run_storeCells_at Tryz.prog g (i * 3) t cs 0 cur w hg (by simpa using hfit) h1
 obtain ⟨ti, hi, e⟩ := Option.map_eq_some_iff.1 zgr
 have e : ti.size = 3 := e
 rw [hl] at hld
 simp [Builtin.append_, run_underlying za1, Builtin.lenOf, Builtin.firstCells, sizeOf, typeInfo, hi, e, hroom, hld, hst, Addr.add_lit]
def zAt : List Value := [.string ⟨#[]⟩, .int .i64 0, .int .i64 0]
theorem z2j (w : World) (g q c : Nat) (cur : Array Value) (t : TypeId) (hg : w.heap[g]? = some (.cells cur t (0, 0))) (hfit : q + 3 ≤ cur.size) :
  (Builtin.clear_ #[qzh] 0 #[.slice (some ⟨g, q, none⟩) 1 c]).run Tryz.prog w = .ok (.tuple #[]) (w.setRow g (cur.toList.take q ++ zAt ++ cur.toList.drop (q + 3)).toArray) := by
 have hst := run_storeCells_at Tryz.prog g q t zAt 0 cur w hg (by simpa [zAt] using hfit) (fun v hv => by
  simp only [zAt, List.mem_cons, List.not_mem_nil, or_false] at hv
  rcases hv with rfl | rfl | rfl <;> rfl)
 have hz : (Builtin.zeroCells #[.string ⟨#[]⟩, .int .i64 0, .int .i64 0] 1).toList = zAt := by kernel_rfl
 have hl : zAt.length = 3 := rfl
 rw [hl] at hst
 simp only [Nat.add_zero] at hst
 simp only [Builtin.clear_, List.getElem?_toArray, List.getElem?_cons_zero, Sem.run_bind, run_underlying za1, Result.andThen_ok, zdc, Value.cells, hz, hst, Sem.run_pure]
end Dl
end
section
open Go.RowKit Go.Shelf
open Dl
def zi2 : List D → Option (List D)
 | [l, i, j] => if 0 ≤ i.int ∧ i.int < l.rs.length ∧ j.int = i.int + 1 then some [.r (l.rs.take i.int.toNat ++ l.rs.drop (i.int.toNat + 1))] else none
 | _ => none
theorem zdp {w : World} (h : Con A p w d (.row tAt) [(0, pin)] [] cs) : ∃ l v, d = .r l ∧ cs = [v] ∧ q21 A p w [] pin tAt (.st aS) l v := by
 rcases h with ⟨E, te, l, v, e, hte, rfl, rfl, h⟩ | ⟨K, V, kt, vt, l, g, es, clock, e, -⟩
 ·injection e with e
  subst e
  obtain rfl := gnI (hte.symm.trans tyA)
  exact ⟨l, v, rfl, rfl, h⟩
 ·cases e
set_option maxHeartbeats 1000000 in
theorem q8e : FOk yj zi2 := FOk.of_at q6w fun ds outs hw hg => by
 obtain ⟨d, r, rfl, hd, e, r', rfl, he, e2, r2, rfl, he2, hw⟩ := hw
 obtain rfl : r2 = [] := hw
 obtain ⟨l, te, rfl, hte, hl, -⟩ := hd.row
 obtain ⟨n, rfl, hn⟩ := wfI he
 obtain ⟨m, rfl, hm⟩ := wfI he2
 have hg' : (if 0 ≤ n ∧ n < l.length ∧ m = n + 1 then some [D.r (l.take n.toNat ++ l.drop (n.toNat + 1))] else none) = some outs := hg
 split at hg'
 case isFalse => cases hg'
 rename_i hc
 obtain ⟨h1, h2, rfl⟩ := hc
 injection hg' with hg'
 subst hg'
 clear hg
 intro A F p w vs us hfl hfo hpre hvl hargs
 have hF0 : ∀ te, F.mx te = 0 := fun te => hfl.zero rfl te
 obtain ⟨v0, r0, d0, ds0, e0, e00, ⟨cs0, hpk0, hc0⟩, v1, r1, d1, ds1, e1, e11, ⟨cs1, hpk1, hc1⟩, v2, r2, d2, ds2, e2', e22, ⟨cs2, hpk2, hc2⟩, hr⟩ := hargs
 obtain rfl : r2 = [] := hr.1
 subst e1 e2'
 obtain ⟨rfl, rfl⟩ := List.cons.inj e00
 obtain ⟨rfl, rfl⟩ := List.cons.inj e11
 obtain ⟨rfl, -⟩ := List.cons.inj e22
 clear e00 e11 e22 hr
 obtain ⟨rfl, rfl⟩ : vs = [v0, v1, v2] ∧ us = [] := by
  have hl3 : vs.length = 3 := hvl
  have hus : us.length = 0 := by
   have := congrArg List.length e0
   simp at this
   omega
  obtain rfl := List.length_eq_zero_iff.1 hus
  exact ⟨by simpa using e0, rfl⟩
 clear e0
 have hc0 : Con A p w (D.r l) (.row tAt) [(0, 1)] [] cs0 := hc0
 obtain ⟨l', u0, q0, rfl, ho0⟩ := zdp hc0
 injection q0 with q0
 subst q0
 obtain rfl : u0 = v0 := (List.cons.inj hpk0).1
 obtain ⟨n', -, e, rfl⟩ := Ins.of_rdI hc1
 injection e with e
 subst e
 obtain rfl : Value.int .i64 n = v1 := (List.cons.inj hpk1).1
 obtain ⟨n', -, e, rfl⟩ := Ins.of_rdI hc2
 injection e with e
 subst e
 obtain rfl : Value.int .i64 (n + 1) = v2 := (List.cons.inj hpk2).1
 obtain ⟨g, cap, L, post, rfl, hpg, hL, hLo, hg, hcap, hcm, hpost⟩ := z83 ho0 (by omega)
 have hLl : l.length = L.length := by rw [hL, List.length_map]
 obtain ⟨i, rfl⟩ : ∃ i : Nat, n = i := ⟨n.toNat, by omega⟩
 have hi : i < L.length := by omega
 have hlm : cap ≤ 9223372036854775807 := by unfold maxLen at hcm; omega
 have hout : l.take (i : Int).toNat ++ l.drop ((i : Int).toNat + 1) = (L.take i ++ L.drop (i + 1)).map eA := by
  rw [hL, Int.toNat_natCast]
  simp
 have hNo : ∀ y ∈ L.take i ++ L.drop (i + 1), y.ok := fun y hy => by
  rcases List.mem_append.1 hy with h | h
  ·exact hLo y (List.mem_of_mem_take h)
  ·exact hLo y (List.mem_of_mem_drop h)
 have hNl : (L.take i ++ L.drop (i + 1)).length = L.length - 1 := by simp; omega
 have hlL := qas L
 have hlD := qas (L.drop (i + 1))
 have hlN := qas (L.take i ++ L.drop (i + 1))
 have hlT := qas (L.take i)
 rw [List.length_drop] at hlD
 rw [List.length_take, Nat.min_eq_left (by omega)] at hlT
 rw [hNl] at hlN
 have hsp : rwA L = rwA (L.take i) ++ rwA (L.drop i) := by rw [← qwu, List.take_append_drop]
 have hsp2 : rwA L = rwA (L.take (i + 1)) ++ rwA (L.drop (i + 1)) := by rw [← qwu, List.take_append_drop]
 have hlT2 := qas (L.take (i + 1))
 rw [List.length_take, Nat.min_eq_left (by omega)] at hlT2
 have hgd : w.drew.heap[g]? = some (.cells (rwA L ++ post).toArray tAt (0, 0)) := hg
 -- the cells behind the append
 have hc1' : ((rwA L ++ post).take (i * 3) ++ rwA (L.drop (i + 1)) ++ (rwA L ++ post).drop (i * 3 + (rwA (L.drop (i + 1))).length)) = rwA (L.take i ++ L.drop (i + 1)) ++ (rwA L ++ post).drop ((L.length - 1) * 3) := by
  rw [qwu, hlD]
  congr 1
  ·congr 1
   rw [hsp, List.append_assoc, ← hlT, List.take_left]
  ·congr 1
   omega
 have hsz : (rwA L ++ post).length = cap * 3 := by rw [List.length_append, hlL, hpost, hLl]; omega
 have happ : ∀ o : Addr, o.block = g → (i + 1 < L.length → o = ⟨g, (i + 1) * 3, none⟩) → (Builtin.append_ #[qzh, qzh] qzh #[.slice (some ⟨g, 0, none⟩) i cap, .slice (some o) (L.length - (i + 1)) (cap - (i + 1))]).run Tryz.prog w.drew = .ok (.slice (some ⟨g, 0, none⟩) (L.length - 1) cap) (w.drew.setRow g (rwA (L.take i ++ L.drop (i + 1)) ++ (rwA L ++ post).drop ((L.length - 1) * 3)).toArray) := fun o ho1 ho2 => by
  have := z3e w.drew g i (L.length - (i + 1)) cap (cap - (i + 1)) o (rwA L ++ post).toArray tAt (rwA (L.drop (i + 1))) hgd hlD (fun j v hj => ?_) (by omega) (by rw [hlD]; simp only [List.size_toArray, hsz]; omega) zg5
  ·rw [this, show i + (L.length - (i + 1)) = L.length - 1 by omega]
   rw [← hc1']
  ·have hj' := (gnH.1 hj).1
   rw [hlD] at hj'
   rw [ho2 (by omega)]
   rw [Addr.add_lit]
   refine quz hgd ?_
   rw [List.getElem?_append_left (by rw [hlL]; omega), hsp2, List.getElem?_append_right (by omega), hlT2, show (i + 1) * 3 + j - (i + 1) * 3 = j by omega]
   exact hj
 have hg1 := setRow_heap w.drew g _ (rwA (L.take i ++ L.drop (i + 1)) ++ (rwA L ++ post).drop ((L.length - 1) * 3)).toArray tAt (0, 0) hgd
 have hclr := z2j (w.drew.setRow g (rwA (L.take i ++ L.drop (i + 1)) ++ (rwA L ++ post).drop ((L.length - 1) * 3)).toArray) g ((L.length - 1) * 3) (cap - (L.length - 1)) _ tAt hg1 (by simp only [List.size_toArray, List.length_append, hlN, List.length_drop]; simp only [List.length_append] at hsz; omega)
 have hc2' : ((rwA (L.take i ++ L.drop (i + 1)) ++ (rwA L ++ post).drop ((L.length - 1) * 3)).toArray.toList.take ((L.length - 1) * 3) ++ zAt ++ (rwA (L.take i ++ L.drop (i + 1)) ++ (rwA L ++ post).drop ((L.length - 1) * 3)).toArray.toList.drop ((L.length - 1) * 3 + 3)) = rwA (L.take i ++ L.drop (i + 1)) ++ (zAt ++ post) := by
  show ((rwA (L.take i ++ L.drop (i + 1)) ++ (rwA L ++ post).drop ((L.length - 1) * 3)).take ((L.length - 1) * 3) ++ zAt ++ (rwA (L.take i ++ L.drop (i + 1)) ++ (rwA L ++ post).drop ((L.length - 1) * 3)).drop ((L.length - 1) * 3 + 3)) = _
  rw [← hlN, List.take_left, List.append_assoc]
  congr 2
  rw [List.drop_append, List.drop_eq_nil_of_le (by omega), List.nil_append, List.drop_drop, hlN, show (L.length - 1) * 3 + ((L.length - 1) * 3 + 3 - (L.length - 1) * 3) = (rwA L).length by rw [hlL]; omega, List.drop_left]
 rw [hc2', setRow_setRow] at hclr
 rw [show (List.length l) = L.length from hLl]
 refine Calls.mono (zfj w g cap L.length i hi (by omega) hlm _ _ happ hclr) ?_
 rintro e w' ⟨rfl, rfl⟩
 have hbut : But (pinned p) w (w.drew.setRow g (rwA (L.take i ++ L.drop (i + 1)) ++ (zAt ++ post)).toArray) := q5s (But.refl (pinned p) w).drew (.inl ⟨_, hpg⟩) _
 have hh := setRow_heap w.drew g _ (rwA (L.take i ++ L.drop (i + 1)) ++ (zAt ++ post)).toArray tAt (0, 0) hgd
 have hp' : ∀ y b, (fun y => if y = 49 then some g else none : qm) y = some b → y = 49 ∧ b = g := fun y b h => by
  by_cases hy : y = 49
  ·subst hy
   exact ⟨rfl, (gnI h).symm⟩
  ·simp [hy] at h
 refine .inr ⟨[.slice (some ⟨g, 0, none⟩) (L.length - 1) cap], fun y => if y = 49 then some g else none, rfl, ⟨?_, ?_, hbut, ?_, hpre.new, ?_, ?_, Flo.of0 hF0 hfo⟩, ?_, rfl⟩
 ·intro y z b h1 h2
  rw [(hp' y b h1).1, (hp' z b h2).1]
 ·intro y b h
  rw [(hp' y b h).2]
  exact qu hh
 ·intro y b h
  rw [(hp' y b h).2]
  exact .inl ⟨_, hpg⟩
 ·intro y b h
  rw [(hp' y b h).2]
  exact hpre.pa _ _ hpg
 ·intro y b h
  rw [(hp' y b h).2]
  exact .inl ⟨_, _, hh⟩
 ·refine ⟨_, _, _, _, rfl, rfl, ⟨[.slice (some ⟨g, 0, none⟩) (L.length - 1) cap], rfl, ?_⟩, rfl⟩
  refine .inl ⟨tAt, .st aS, _, _, rfl, tyA, rfl, rfl, ?_⟩
  rw [hout, ← hNl]
  refine zgc rfl hNo hh (by rw [hNl]; omega) hcm (by rw [hNl, List.length_append, hpost]; show 3 + _ = _; omega) ?_
  rw [hNl]
  have := hl
  obtain rfl := gnI (hte.symm.trans tyA)
  rw [lmA] at hl
  omega
end
def qqq : List D → Option (List D) := q8h [] 60 qa0
theorem qhg : FOk q16 qqq := qxk  fun ds outs hw hg => q0a (fuel := 60) hg
def qj1 : List D → Option (List D) := q8h [] 60 q8m
theorem qf6 : FOk q06 qj1 := qtv  fun ds outs hw hg => q0a (fuel := 60) hg
def qvh : List D → Option (List D) := q8h [(yg, gTb q2w), (jk, gTi fun t => min (szT t : Int) 2001), (zr, gTb jv), (zw, gTT z33)] 60 q8z
theorem qts : FOk q0y qvh := qtl qa4 qhj qid qcp fun ds outs hw hg => q0a (fuel := 60) hg
def qge : List D → Option (List D) := q8h [(zq, gSt qbm), (q14, zed), (j6, gSL ql8), (q0y, qvh), (zn, z7t)] 60 q7h
theorem qd8 : FOk yq qge := qq6 q57 qlh q8d qts qi7 fun ds outs hw hg => q0a (fuel := 60) hg
def qpd : List D → Option (List D) := q8h [(qs, qf8), (zp, z62), (ql, qb8 vcP), (zi, z21), (y7, qho), (yq, qge), (zg, z1p vcP q8x), (qdc, q4y)] 60 q9y
theorem qhc : FOk q19 qpd := qyg q1i qaa yy q6p q7v qd8 q59 fun ds outs hw hg => q0a (fuel := 60) hg
def z0e : List D → Option (List D) := q8h [(qs, qf8), (zi, z21), (y7, qho), (zp, z62), (yj, zi2), (yq, qge), (zg, z1p vcP q8x), (qdc, q4y)] 60 qa3
theorem qyi : FOk q4p z0e := qyx q1i q6p q7v qaa q8e qd8 q59 fun ds outs hw hg => q0a (fuel := 60) hg
def z0t : List D → Option (List D) := q8h [(qs, qf8), (zi, z21), (y7, qho)] 60 q6n
theorem qxs : FOk q1c z0t := qhl q1i q6p q7v fun ds outs hw hg => q0a (fuel := 60) hg
def qvm : List D → Option (List D) := q8h [(q0b, q4t), (zg, z1p vcP q8x)] 60 q51
theorem qto : FOk q08 qvm := qf1 qbd q59 fun ds outs hw hg => q0a (fuel := 60) hg
def qv3 : List D → Option (List D) := q8h [(qs, qf8), (ql, qb8 vcP), (zb, qcq), (zg, z1p vcP q8x), (q08, qvm), (jm, qa7 inS), (z8, zei), (q0d, gOr)] 60 q8a
theorem qtw : FOk q3k qv3 := qt1 q1i yy q47 q59 qto qgk q6u qsx fun ds outs hw hg => q0a (fuel := 60) hg
def z0l (r : List D → Option (List D)) : List D → Option (List D) := q8h [(yi, r), (zb, qcq), (q16, qqq), (yp, q82 arS), (zq, gSt qbm), (yo, q82 q2e)] 60 q61
def qr2 : List D → Option (List D) := upN z0l 6
theorem qmd : FOk yi qr2 := qqy q9o (fun r hr => qm8 hr q47 qhg qd0 q57 q80 fun ds outs hw hg => q0a (fuel := 60) hg) 6
def qvg : List D → Option (List D) := q8h [(yi, qr2), (ql, qb8 vcP)] 60 q93
theorem qsw : FOk q39 qvg := qt7 qmd yy fun ds outs hw hg => q0a (fuel := 60) hg
def qz6 (r : List D → Option (List D)) : List D → Option (List D) := q8h [(yd, r)] 60 q3a
def ql7 : List D → Option (List D) := upN qz6 6
theorem qmx : FOk yd ql7 := qqy q58 (fun r hr => qbq hr fun ds outs hw hg => q0a (fuel := 60) hg) 6
def qpp : List D → Option (List D) := q8h [(yd, ql7)] 60 q45
theorem qpk : FOk jw qpp := qcl qmx fun ds outs hw hg => q0a (fuel := 60) hg
def qrf : List D → Option (List D) := q8h [] 60 q48
theorem qpt : FOk jx qrf := qcz  fun ds outs hw hg => q0a (fuel := 60) hg
def qxp (r : List D → Option (List D)) : List D → Option (List D) := q8h [(jx, qrf), (zz, r)] 60 q3b
def qle : List D → Option (List D) := upN qxp 6
theorem qmt : FOk zz qle := qqy q5f (fun r hr => qbl qpt hr fun ds outs hw hg => q0a (fuel := 60) hg) 6
def qld : List D → Option (List D) := q8h [(jw, qpp), (zz, qle)] 60 q37
theorem qnk : FOk ji qld := qbr qpk qmt fun ds outs hw hg => q0a (fuel := 60) hg
def qit (r : List D → Option (List D)) : List D → Option (List D) := q8h [(zd, r)] 60 q2z
def qbu : List D → Option (List D) := upN qit 6
theorem qeq : FOk zd qbu := qqy q5n (fun r hr => qel hr fun ds outs hw hg => q0a (fuel := 60) hg) 6
def qrx : List D → Option (List D) := q8h [(ji, qld), (zd, qbu)] 60 q7l
theorem qrj : FOk q2h qrx := qq0 qnk qeq fun ds outs hw hg => q0a (fuel := 60) hg
def qvq : List D → Option (List D) := q8h [] 60 q95
theorem qsq : FOk q0s qvq := qui  fun ds outs hw hg => q0a (fuel := 60) hg
def qfe : List D → Option (List D) := q8h [(q0s, qvq), (qz, qz3), (q06, qj1), (q19, qpd)] 60 q4f
theorem qhi : FOk q1h qfe := qh6 qsq qcm qf6 qhc fun ds outs hw hg => q0a (fuel := 60) hg
theorem z2f {ct : Ct} {tbl : Tbl} {outs : List D} {fuel : Nat} (ann : Ann) (fn : Func) (cd : Code) (htb : q02 tbl) (hf : Tryz.prog.funcs[ct.f]? = some fn) (hb : fn.body = some cd)
  (hen : ∀ args w, (callFunc ct.f args).run Tryz.prog w = .ok (.enter ct.f args) w) (hsz : ct.ar.length ≤ fn.ntmps) (har : ct.ars = []) (hden : q8h tbl fuel (qck Tryz.prog tbl ann ct fn cd) [] = some outs) (hnp : q7q tbl = true) (hkp : ct.kp = []) (hfl : ct.fl = []) : FOk ct fun _ => some outs :=
 zak ann fn cd htb hf hb hen hsz (fun ds o hw hg => by
  rw [har] at hw
  obtain rfl : ds = [] := hw
  injection hg with hg
  subst hg
  exact q0a hden) hnp hkp hfl
def z4n : Ct := ⟨26, [], [(.st 4242424242, true)], [], none, [], []⟩
theorem zer : FOk z4n fun _ => none := ⟨qc0, (fun A F p w vs us ds outs h => by cases h), fun h => absurd rfl h⟩
noncomputable def awC : Code := match Tryz.f8.body with
 | some c => c
 | none => .skip
def zkk : Tbl := [(z4n, fun _ => none), (q1h, qfe), (q1c, z0t), (q06, qj1), (q19, qpd), (q4p, z0e), (q3k, qv3), (yk, zky), (q39, qvg), (zq, gSt qbm), (q16, qqq), (j6, gSL ql8), (q2h, qrx)]
theorem zfa : q02 zkk := .cons zer (.cons qhi (.cons qxs (.cons qf6 (.cons qhc (.cons qyi (.cons qtw (.cons qtk (.cons qsw (.cons q57 (.cons qhg (.cons q8d (.cons qrj .nil))))))))))))
theorem zjj : q8h zkk 12 (qck Tryz.prog zkk qbp q29 Tryz.f8 awC) [] = some [.b true] := by kernel_rfl
theorem qp3 : FOk q29 fun _ => some [.b true] := z2f qbp Tryz.f8 awC zfa (by kernel_rfl) (by kernel_rfl) qhy (by decide) (by kernel_rfl) zjj (by kernel_rfl) (by kernel_rfl) (by kernel_rfl)
def ct_attr_Bind_n : Ct := ⟨21, [.nilp, .val (.st 28), .val (.st 28)], [(.int .i64, false)], [], none, [], []⟩
theorem enter_attr_Bind_n : EnZ ct_attr_Bind_n := fun _ _ => by kernel_rfl
def ct_trail_Set_n : Ct := ⟨45, [.nilp, .val (.int .i64), .val (.st 28)], [(.int .i64, false)], [], none, [], []⟩
theorem enter_trail_Set_n : EnZ ct_trail_Set_n := fun _ _ => by kernel_rfl
def ct_attr_bind_n : Ct := ⟨54, [.nilp, .val (.st 28), .val (.st 28)], [(.int .i64, false)], [], none, [], []⟩
theorem enter_attr_bind_n : EnZ ct_attr_bind_n := fun _ _ => by kernel_rfl
def ann_attr_Bind_n : Ann := ⟨[0, 1, 2, 4, 5, 6, 7, 8, 9, 11, 34, 40, 44, 53, 61, 107], []⟩
def tree_attr_Bind_n : Tree := (.leaf [(.lit (.i 1))])
theorem code_attr_Bind_n (g0 g1 g2 g3 g4 g5 g6 g7 : GfZ) : CdZ [(qs, g0), (ql, g1), (zb, g2), (ct_trail_Set_n, g3), (ct_attr_bind_n, g4), (jm, g5), (z8, g6), (q0d, g7)] ann_attr_Bind_n ct_attr_Bind_n Tryz.f21 tree_attr_Bind_n := fun cd h => by injection h with h; subst h; kernel_rfl
theorem fok_attr_Bind_n {g0 g1 g2 g3 g4 g5 g6 g7 g : GfZ} (h0 : FOk qs g0) (h1 : FOk ql g1) (h2 : FOk zb g2) (h3 : FOk ct_trail_Set_n g3) (h4 : FOk ct_attr_bind_n g4) (h5 : FOk jm g5) (h6 : FOk z8 g6) (h7 : FOk q0d g7) (h : HgZ tree_attr_Bind_n ct_attr_Bind_n [(qs, g0), (ql, g1), (zb, g2), (ct_trail_Set_n, g3), (ct_attr_bind_n, g4), (jm, g5), (z8, g6), (q0d, g7)] g) : FOk ct_attr_Bind_n g := yh (code_attr_Bind_n g0 g1 g2 g3 g4 g5 g6 g7) (.cons h0 (.cons h1 (.cons h2 (.cons h3 (.cons h4 (.cons h5 (.cons h6 (.cons h7 .nil)))))))) rfl rfl enter_attr_Bind_n (by decide) h
def ct_law32_AttrBinds : Ct := ⟨5, [.val (.st 26), .val (.st 28), .val (.st 28)], [(.bool, false)], [], none, [], []⟩
theorem enter_law32_AttrBinds : EnZ ct_law32_AttrBinds := fun _ _ => by kernel_rfl
def ann_law32_AttrBinds : Ann := ⟨[0, 1, 2, 3, 4, 5, 6, 7, 8, 9, 10, 13, 22], []⟩
def tree_law32_AttrBinds : Tree :=
 let d : X := .tok 1
 let e : X := .tok 2
 let f : X := .tok 0
 let g : X := .call 1 0 []
 let b : X := .call 2 0 [f]
 let a : X := .and (.eq (.call 3 0 [b, d, e]) (.call 5 0 [b, d, e])) (.call 6 0 [(.call 3 1 [b, d, e]), (.call 5 1 [b, d, e])])
 let c : X := .and a (.eq (.call 7 0 [d, e]) (.lit (.i 1)))
 (.need [(.ok 0 [f])] (.br (.not (.call 0 0 [f])) (.need [(.ok 1 [])] (.leaf [g])) (.need [(.ok 2 [f])] (.need [(.ok 3 [b, d, e])] (.need [(.ok 4 [f])] (.br (.not (.call 4 0 [f])) (.need [(.ok 1 [])] (.leaf [g])) (.need [(.ok 2 [f])] (.need [(.ok 5 [b, d, e])] (.need [(.imp (.eq (.call 3 0 [b, d, e]) (.call 5 0 [b, d, e])) (.ok 6 [(.call 3 1 [b, d, e]), (.call 5 1 [b, d, e])])), (.imp a (.ok 7 [d, e])), (.imp c (.ok 1 []))] (.leaf [(.and c g)]))))))))))
theorem code_law32_AttrBinds (g0 g1 g2 g3 g4 g5 g6 g7 : GfZ) : CdZ [(q0h, g0), (q29, g1), (ct_ref30_Clone, g2), (q3k, g3), (q0k, g4), (ct_ref32_Bind, g5), (ct_ref30_Same, g6), (ct_attr_Bind_n, g7)] ann_law32_AttrBinds ct_law32_AttrBinds Tryz.f5 tree_law32_AttrBinds := fun cd h => by injection h with h; subst h; kernel_rfl
theorem fok_law32_AttrBinds {g0 g1 g2 g3 g4 g5 g6 g7 g : GfZ} (h0 : FOk q0h g0) (h1 : FOk q29 g1) (h2 : FOk ct_ref30_Clone g2) (h3 : FOk q3k g3) (h4 : FOk q0k g4) (h5 : FOk ct_ref32_Bind g5) (h6 : FOk ct_ref30_Same g6) (h7 : FOk ct_attr_Bind_n g7) (h : HgZ tree_law32_AttrBinds ct_law32_AttrBinds [(q0h, g0), (q29, g1), (ct_ref30_Clone, g2), (q3k, g3), (q0k, g4), (ct_ref32_Bind, g5), (ct_ref30_Same, g6), (ct_attr_Bind_n, g7)] g) : FOk ct_law32_AttrBinds g := yh (code_law32_AttrBinds g0 g1 g2 g3 g4 g5 g6 g7) (.cons h0 (.cons h1 (.cons h2 (.cons h3 (.cons h4 (.cons h5 (.cons h6 (.cons h7 .nil)))))))) rfl rfl enter_law32_AttrBinds (by decide) h
def qzd (s : So) : Bool := decide (s.cs.length ≤ 300) && decide (s.ys.length ≤ 100) && decide (s.tr.length ≤ 300) && decide (s.wk.length ≤ 50)
theorem qqz : FOk q0h (gSb qzd) := qm3 fun ds outs hw hg => by
 obtain ⟨d, r, rfl, hd, rfl⟩ := hw
 obtain ⟨s, rfl, hs⟩ := wfS hd
 simp only [gSb, zk, Option.some.injEq] at hg
 subst hg
 have h1 : decide ((s.cs.length : Int) ≤ 300) = decide (s.cs.length ≤ 300) := decide_eq_decide.2 (by omega)
 have h2 : decide ((s.ys.length : Int) ≤ 100) = decide (s.ys.length ≤ 100) := decide_eq_decide.2 (by omega)
 have h3 : decide ((s.tr.length : Int) ≤ 300) = decide (s.tr.length ≤ 300) := decide_eq_decide.2 (by omega)
 have h4 : decide ((s.wk.length : Int) ≤ 50) = decide (s.wk.length ≤ 50) := decide_eq_decide.2 (by omega)
 simp only [q65, gnZ, qzd, h1, h2, h3, h4]
section
theorem vc_tag {s : So} (h : vcR s x = true) : x.t = 0 ∨ x.t = 1 ∨ x.t = 2 ∨ x.t = 3 ∨ x.t = 5 := by
 unfold vcR at h
 by_cases h0 : x.t = 0
 ·exact .inl h0
 by_cases h1 : x.t = 1
 ·exact .inr (.inl h1)
 by_cases h2 : x.t = 2
 ·exact .inr (.inr (.inl h2))
 by_cases h3 : x.t = 3
 ·exact .inr (.inr (.inr (.inl h3)))
 by_cases h5 : x.t = 5
 ·exact .inr (.inr (.inr (.inr h5)))
 ·rw [if_neg h0, if_neg h1, if_neg h2, if_neg h3, if_neg h5] at h
  cases h
section
variable {s : So} (hv : y9 s = true)
include hv
theorem derN_rdz : ∀ (k : Nat) (c : Ce), vcR s c = true → (c.t = 0 → q2y s k c.n = true) → (qad s k c).t = 0 → cellAt s (qad s k c).n = qad s k c
 | 0, c, hc, he, h0 => by cases he h0
 | k + 1, c, hc, he, h0 => by
  unfold qad at h0 ⊢
  by_cases h : c.t = 0 ∧ inS s c.n = true ∧ cellAt s c.n ≠ c
  ·rw [if_pos h] at h0 ⊢
   refine derN_rdz k _ (z6o hv h.2.1 (qxu hc h.1).2) (fun ht => ?_) h0
   have hn : Ns s c.n := ⟨(q5c h.2.1).trans ht, fun q => h.2.2 (Ce.ext' (ht.trans h.1.symm) q)⟩
   have := he h.1
   rwa [q91 hn] at this
  ·rw [if_neg h] at h0 ⊢
   exact Classical.byContradiction fun q => h ⟨h0, (qxu hc h0).1, q⟩
theorem derS_rdz {c : Ce} (h : vcR s c = true) (h0 : (q35 s c).t = 0) : cellAt s (q35 s c).n = q35 s c := by
 unfold q35 at h0 ⊢
 rw [if_pos h] at h0 ⊢
 exact derN_rdz hv _ _ h (fun h0 => zgj hv (qxu h h0).1) h0
theorem sett_z {a : Int} (hi : inS s a = true) : q8x s a = settR s a := by
 unfold q8x settR
 have hc := qob hv hi
 unfold q9p at hc
 by_cases h0 : (cellAt s a).t = 0
 ·rw [if_pos h0, if_pos (.inl h0)]
 rw [if_neg h0]
 by_cases h5 : (cellAt s a).t = 5
 ·rw [if_pos h5, if_pos (.inr h5)]
  rw [if_neg (by omega)] at hc
  simp only [gnB, Bool.or_eq_true, Bool.not_eq_true', decide_eq_false_iff_not, gnD] at hc
  rcases hc.2.2 with q | q
  ·exact (q h5).elim
  ·simp [q.1]
 have hR : ¬ ((cellAt s a).t = 0 ∨ (cellAt s a).t = 5) := by omega
 rw [if_neg h5, if_neg hR]
 by_cases h4 : (cellAt s a).t = 4
 ·have hL : ¬ ((cellAt s a).t = 1 ∨ (cellAt s a).t = 2 ∨ (cellAt s a).t = 3) := by omega
  rw [if_neg hL]
  simp [h4]
 ·rw [if_neg h4] at hc
  simp only [gnB] at hc
  rcases vc_tag hc.1 with q | q | q | q | q
  ·exact (h0 q).elim
  ·rw [if_pos (.inl q)]
   simp [q]
  ·rw [if_pos (.inr (.inl q))]
   simp [q]
  ·rw [if_pos (.inr (.inr q))]
   simp [q]
  ·exact (h5 q).elim
theorem setOk_z (a : Int) (c : Ce) : qbs vcR settR s a c = qbs vcP q8x s a c := by
 unfold qbs
 rw [zne hv]
 cases hi : inS s a with
 | false => rfl
 | true => rw [sett_z hv hi]
theorem setA_z {c : Ce} (hx : inS s x.n = true ∧ cellAt s x.n = x) (h5 : x.t = 5 ∨ x.t = 0) (hc : vcR s c = true) (hc0 : c.t ≠ 0) (hne : c ≠ x) : qbs vcP q8x s x.n c = true := by
 obtain ⟨hi, hce⟩ := hx
 simp only [qbs, gnB, Bool.not_eq_true', zne hv]
 refine ⟨hi, hc, ?_, ?_⟩
 ·unfold q8x
  rw [hce]
  rcases h5 with h5 | h0
  ·rw [if_neg (by omega), if_pos h5]
  ·rw [if_pos h0]
   simp
 ·unfold qz9 qkj q3m
  by_cases hc5 : c.t = 5
  ·obtain ⟨hi', hce', -, -⟩ := qus hv hc hc5
   have hn : ¬ c.n = x.n := fun e => hne (by rw [← hce', e, hce])
   rw [if_pos hc5, if_pos ⟨rfl, hi'⟩]
   show (if c.n = x.n then true else qkj s x.n s.cs.length (cellAt s c.n)) = false
   rw [if_neg hn, hce']
   cases s.cs.length with
   | zero => rfl
   | succ k =>
    unfold qkj
    rw [if_neg (fun q => by omega)]
  ·rw [if_neg hc5, if_neg (fun q => hc0 q.1)]
theorem set_z (hr : s.tr.length < 5864062014634) (a : Int) (c : Ce) : z1p vcR settR [eS s, .i a, eC c] = some [.i (qso s a c).1, eS (qso s a c).2] := by
 simp only [z1p, zk, yw, yv, qso, setOk_z hv]
 cases qbs vcP q8x s a c <;> simp [hr]
end
def gRBndZ : List D → Option (List D)
 | [s, a, c] => if y9 (dS s) && (z4y (dS s) && (inS (dS s) a.int && inS (dS s) (a.int + 2))) then some [eS { (qso (dS s) a.int (dC c)).2 with wk := (dS s).wk ++ [⟨(cellAt (dS s) (a.int + 1)).n, cellAt (dS s) (a.int + 2), q3m (dC c)⟩] }] else none
 | _ => none
theorem ok_ref32_bindZ : FOk ct_ref32_bind gRBndZ := fok_ref32_bind qu8 ok_ref31_Set fun ds outs hw hg => by
 obtain ⟨d, r, rfl, hd, e, r', rfl, he, f, r2, rfl, hf, rfl⟩ := hw
 obtain ⟨s, rfl, hs⟩ := wfS hd
 obtain ⟨a, rfl, ha⟩ := wfI he
 obtain ⟨c, rfl, hc⟩ := wfC hf
 simp only [gRBndZ, zk, yw, yv, Option.ite_none_right_eq_some, Option.some.injEq] at hg
 obtain ⟨hq, rfl⟩ := hg
 simp only [gnB] at hq
 obtain ⟨hv, hr, hi, hi2⟩ := hq
 simp only [z4y, gnB, gnD] at hr
 obtain ⟨hr1, hr2⟩ := hr
 have hl := hs.cs.1
 have h1 := z5.1 hi
 have h2 := z5.1 hi2
 have hi1 : inS s (a + 1) = true := z5.2 ⟨by omega, by omega⟩
 have hset := set_z hv hr1 a c
 have hwk := zfo s a c
 have ew : D.a [.i (cellAt s (a + 1)).n, eC (cellAt s (a + 2)), eC (q3m c)] = eW ⟨(cellAt s (a + 1)).n, cellAt s (a + 2), q3m c⟩ := rfl
 simp only [tree_ref32_bind, gnZ, q4t, hset, ze hi1, ze hi2, hwk, ew, zix]
 repeat' apply And.intro
 all_goals first | omega | rfl
def gBindR : List D → Option (List D)
 | [s, v, to] => if y9 (dS s) && z4y (dS s) then some [.i (bindAP (dS s) (dC v) (dC to)).1, eS (bindAP (dS s) (dC v) (dC to)).2] else none
 | _ => none
theorem ok_ref32_BindZ : FOk ct_ref32_Bind gBindR := fok_ref32_Bind qfp q1n qcu ok_ref31_Set ok_ref32_bindZ fun ds outs hw hg => by
  obtain ⟨d, r, rfl, hd, e, r', rfl, he, f, r2, rfl, hf, rfl⟩ := hw
  obtain ⟨s, rfl, hs⟩ := wfS hd
  obtain ⟨v, rfl, hvv⟩ := wfC he
  obtain ⟨t, rfl, ht⟩ := wfC hf
  simp only [gBindR, zk, yw, Option.ite_none_right_eq_some, Option.some.injEq, gnB] at hg
  obtain ⟨⟨hv, hr⟩, rfl⟩ := hg
  have hr' := hr
  simp only [z4y, gnB, gnD] at hr'
  have hl := qxg hv
  have hV : z5r [eS s, eC v] = some [eC (q35 s v), .b (vcR s v && (decide ((q35 s v).t = 0) || decide ((q35 s v).t = 5)))] := by
    simp only [z5r, zk, yw, hv, if_true]
  have hD : z2u [eS s, eC t] = some [eC (q35 s t)] := by
    simp only [z2u, zk, yw]
    rw [if_pos hv]
  have hC : qb8 vcR [eS s, eC t] = some [.b (vcR s t)] := by
    simp only [qb8, zk, yw]
  simp only [tree_ref32_Bind, gnZ, hV, hD, hC]
  have hvar := varz hv v
  cases hcv : vcR s v with
  | false =>
    rw [hcv] at hvar
    have hb : bindAP s v t = (1, s) := by
      unfold bindAP
      rw [hvar]
      rfl
    simp [hb]
  | true =>
  have hd := qhu hv hcv
  rw [hcv] at hvar
  by_cases h5 : (q35 s v).t = 5
  case neg =>
    have hb : bindAP s v t = (1, s) := by
      unfold bindAP
      rw [hvar]
      by_cases h0 : (q35 s v).t = 0
      · simp [h0]
      · simp [h0, h5]
    simp [hb, h5]
  rw [show (true && (decide ((q35 s v).t = 0) || decide ((q35 s v).t = 5))) = true by simp [h5], if_pos rfl] at hvar
  generalize hx : q35 s v = x at *
  obtain ⟨x1, x2, x3, -⟩ := qus hv hd h5
  have px := z5.1 x1
  have px3 := z5.1 x3
  have xi1 : inS s (x.n + 1) = true := z5.2 ⟨by omega, by omega⟩
  cases hct : vcR s t with
  | false =>
    have hb : bindAP s v t = (1, s) := by
      unfold bindAP
      rw [hvar, zne hv, hct]
      simp
    simp [hb, h5]
  | true =>
  have htd := qhu hv hct
  have hb0 : bindAP s v t = if q35 s t = x then (0, s) else if (q35 s t).t = 0 then qso s (q35 s t).n x else if (q35 s t).t = 5 then
      (if inS s (q35 s t).n && inS s ((q35 s t).n + 2) then (if 0 < laterP s x (q35 s t) then z6k s x (q35 s t) else z6k s (q35 s t) x) else (1, s))
      else z6k s x (q35 s t) := by
    unfold bindAP
    rw [hvar, zne hv, hct, derz hv]
    simp [h5]
  have hrd := fun h0 => derS_rdz hv hct h0
  generalize hy : q35 s t = y at *
  simp only [h5]
  have hset : ∀ a c, z1p vcR settR [eS s, .i a, eC c] = some [.i (qso s a c).1, eS (qso s a c).2] := fun a c => set_z hv hr'.1 a c
  have hset1 : ∀ {a : Int} {c : Ce}, qbs vcP q8x s a c = true → (qso s a c).1 = 0 := fun {a c} h => by
    unfold qso
    rw [if_pos h]
  have hbnd : ∀ {u c : Ce}, inS s u.n = true → inS s (u.n + 2) = true → gRBndZ [eS s, .i u.n, eC c] = some [eS { (qso s u.n c).2 with wk := s.wk ++ [⟨(cellAt s (u.n + 1)).n, cellAt s (u.n + 2), q3m c⟩] }] := fun {u c} h1 h2 => by
    simp only [gRBndZ, zk, yw, yv]
    rw [hv, hr, h1, h2]
    rfl
  have hbF : ∀ {u c : Ce}, qbs vcP q8x s u.n c = true → z6k s u c = (0, { (qso s u.n c).2 with wk := s.wk ++ [⟨(cellAt s (u.n + 1)).n, cellAt s (u.n + 2), q3m c⟩] }) := fun {u c} h => by
    unfold z6k
    rw [if_pos (hset1 h)]
  rw [hb0]
  by_cases hyx : y = x
  · simp [hyx]
  by_cases hy0 : y.t = 0
  · have hyc := hrd hy0
    have hyi := (qxu htd hy0).1
    have hs1 := setA_z hv (x := y) (c := x) ⟨hyi, hyc⟩ (.inr hy0) hd (by omega) (fun e => hyx e.symm)
    simp [hyx, hy0, hset, hset1 hs1]
  by_cases hy5 : y.t = 5
  · obtain ⟨y1, y2, y3, -⟩ := qus hv htd hy5
    have py := z5.1 y1
    have py3 := z5.1 y3
    have yi1 : inS s (y.n + 1) = true := z5.2 ⟨by omega, by omega⟩
    have hs1 := setA_z hv (x := x) (c := y) ⟨x1, x2⟩ (.inl h5) htd (by omega) hyx
    have hs2 := setA_z hv (x := y) (c := x) ⟨y1, y2⟩ (.inl hy5) hd (by omega) (fun e => hyx e.symm)
    have hlat : (0 < laterP s x y) ↔ ((cellAt s (y.n + 1)).n < (cellAt s (x.n + 1)).n ∨ (cellAt s (x.n + 1)).n = (cellAt s (y.n + 1)).n ∧ y.n < x.n) := by
      unfold laterP orI cmpI orI orI
      split <;> split <;> (try split) <;> (try split) <;> omega
    have ho : (decide ((cellAt s (y.n + 1)).n < (cellAt s (x.n + 1)).n) || (decide ((cellAt s (x.n + 1)).n = (cellAt s (y.n + 1)).n) && decide (y.n < x.n))) = decide (0 < laterP s x y) := by
      rw [Bool.eq_iff_iff]
      simp only [Bool.or_eq_true, gnB, gnD]
      exact hlat.symm
    simp only [gnZ, hyx, hy0, hy5, if_false, if_true, y1, y3, Bool.and_self, ze xi1, ze yi1, hbnd x1 x3, hbnd y1 y3, hbF hs1, hbF hs2, ho]
    by_cases hlt : 0 < laterP s x y
    · simp [hlt, hyx]
      repeat' apply And.intro
      all_goals first | omega | (simp only [q52]; omega)
    · simp [hlt, hyx]
      repeat' apply And.intro
      all_goals first | omega | (simp only [q52]; omega)
  · have hs1 := setA_z hv (x := x) (c := y) ⟨x1, x2⟩ (.inl h5) htd hy0 hyx
    simp [hyx, hy0, hy5, hbnd x1 x3, hbF hs1]
theorem ok_attr_Bind_n : FOk ct_attr_Bind_n (fun _ => some [.i 1]) := fok_attr_Bind_n q1i yy q47 (FOk.none enter_trail_Set_n) (FOk.none enter_attr_bind_n) qgk q6u qsx fun ds outs hw hg => by
 injection hg with hg
set_option maxHeartbeats 1000000 in
theorem law_AttrBinds : FOk ct_law32_AttrBinds fun _ => some [.b true] := fok_law32_AttrBinds qqz qp3 ok_ref30_Clone ok_attr_Bind qpy ok_ref32_BindZ ok_ref30_Same ok_attr_Bind_n fun ds outs hw hg => by
 obtain ⟨d, r, rfl, hd, e, r', rfl, he, f, r2, rfl, hf, rfl⟩ := hw
 obtain ⟨s, rfl, hs⟩ := wfS hd
 obtain ⟨v, rfl, hc⟩ := wfC he
 obtain ⟨t, rfl, ht⟩ := wfC hf
 injection hg with hg
 subst hg
 have hcl : gClone [eS s] = some [eS s] := by
  simp only [gClone, zk]
  rw [if_pos (clQ_of hs)]
 simp only [tree_law32_AttrBinds, gnZ, gSb, hcl]
 cases hsm : qzd s with
 | false => simp
 | true =>
  have hrm : z4y s = true := by
   unfold qzd at hsm
   unfold z4y
   simp only [gnB, gnD] at hsm ⊢
   omega
  have hB : gBindAP [eS s, eC v, eC t] = some [.i (bindAP s v t).1, eS (bindAP s v t).2] := by
   simp only [gBindAP, zk, yw]
   rw [if_pos hrm]
  simp only [gnZ, hB]
  cases hv : y9 s with
  | false => simp
  | true =>
   have hB2 : gBindR [eS s, eC v, eC t] = some [.i (bindAP s v t).1, eS (bindAP s v t).2] := by
    simp only [gBindR, zk, yw]
    rw [hv, hrm]
    rfl
   have hS : gSame [eS (bindAP s v t).2, eS (bindAP s v t).2] = some [.b true] := by
    simp [gSame]
   simp only [gnZ, hB2, hS]
   simp
end
section
open Go.ChangeShapes Go.WideShapes Go.ChangeAt Go.RowKit
theorem z7v : ownKnob Tryz.prog.godebug = none := by kernel_rfl
theorem qkk : laidOutB Tryz.prog = true := by kernel_rfl
section
variable {H : Type} {enc : TypeId × Value → H} {W : World} {base : Nat} {spare : Nat → Bool} {held : Bool}
def qax (t : TypeId) (d : DataW H) : Prop := ∀ n ∈ d.weights Tryz.prog t, n ≤ reachBytes
theorem qbx {e : TypeId} : ∀ {l : List (DataW H)} {d : DataW H}, d ∈ l → ∀ n ∈ d.weights Tryz.prog e, n ∈ DataW.weightsAll Tryz.prog e l
 | [], _, h, _, _ => by cases h
 | x :: l, d, h, n, hn => by
  simp only [DataW.weightsAll, List.mem_append]
  rcases List.mem_cons.1 h with rfl | h
  ·exact .inl hn
  ·exact .inr (qbx h n hn)
theorem qax.each {ts : List TypeId} {l : List (DataW H)} {k : Nat} {t : TypeId} {d : DataW H} (h : ∀ n ∈ DataW.weightsEach Tryz.prog ts l, n ≤ reachBytes) (ht : ts[k]? = some t) (hd : l[k]? = some d) : qax t d := fun n hn =>
 h n (DataW.weights_mem_each ht hd n hn)
theorem qvw : reachBytes = LIM := rfl
theorem qwm (h : qo T = some t) : Tryz.prog.cellsOf T = t.w := by
 obtain ⟨i, hi, h1, -⟩ := q32 h
 simp [Program.cellsOf, hi, h1]
theorem zkz {k : IntKind} {t : TypeId} (ht : qo t = some (.int k)) {n : Int} (h : (Lit.int k n).wf = true) : yz k n = true := by
 have h0 := (q3f ht).2.1
 cases k <;> first | (simp [yz] at h0; done) | (simp [Lit.wf, IntKind.min, IntKind.max, IntKind.signed, IntKind.bits] at h; simp [yz]; omega)
theorem z3k {a : Addr} (h : W.cell? a = some v) : a.spot = none := by
 unfold World.cell? at h
 split at h
 ·split at h
  ·cases h
  ·rename_i hs; simpa using hs
 ·cases h
theorem zcq : ∀ {fl : List Field} {fs : List Ty} {o : Nat}, q2n fl fs o = true → (∀ (j : Nat) (f : Field) (t : Ty), fl[j]? = some f → fs[j]? = some t → ∃ y, Rd W F y t ((cs.drop f.offset).take t.w)) → cs.length = o + widths fs → ∃ ds, RdF W F ds fs (cs.drop o)
 | [], [], o, _, _, hl => by
  simp [widths] at hl
  exact ⟨[], rfl, by rw [List.drop_eq_nil_iff]; omega⟩
 | f :: l, t :: ts, o, hb, hf, hl => by
  simp only [q2n, gnB] at hb
  obtain ⟨⟨⟨h1, -⟩, -⟩, h3⟩ := hb
  have ho := gnN h1
  rw [q6y] at hl
  obtain ⟨ds, hds⟩ := zcq h3 (fun j f' t' hj ht => hf (j + 1) f' t' (by simpa using hj) (by simpa using ht)) (by omega)
  obtain ⟨y, hy⟩ := hf 0 f t rfl rfl
  refine ⟨y :: ds, t, ts, (cs.drop o).take t.w, cs.drop (o + t.w), rfl, ?_, by rw [← ho]; exact hy, hds⟩
  rw [← List.drop_drop, List.take_append_drop]
 | [], _ :: _, o, hb, _, _ => by cases hb
 | _ :: _, [], o, hb, _, _ => by cases hb
theorem z7i : ∀ (fuel : Nat) {T : TypeId} {t : Ty} (cs : List Value) (x : DataW H × List MemPlace), qo T = some t → qa5 t = false → DataW.trod enc Tryz.prog W base spare held fuel T cs = some x → qax T x.1 → ∃ y, Rd W (fun _ => True) y t cs := by
 intro fuel
 induction fuel with
 | zero => intro T t cs x _ _ h; simp [DataW.trod] at h
 | succ fuel ih =>
  intro T t cs x hT hM h hL
  cases t with
  | map K V => cases hM
  | int k =>
   obtain ⟨n, rfl, -, hw⟩ := DataW.trod_int (q3f hT).1 h
   exact ⟨.i n, k, rfl, rfl, zkz hT hw⟩
  | bool =>
   obtain ⟨b, rfl, -⟩ := DataW.trod_bool (q3z hT).1 h
   exact ⟨.b b, rfl, rfl⟩
  | str =>
   obtain ⟨s, rfl, rfl, -⟩ := DataW.trod_string (q3c hT).1 h
   have := hL s.data.toList.length (by simp [DataW.weights])
   exact ⟨.s s, rfl, rfl, by rw [qvw] at this; simpa using this⟩
  | st S =>
   obtain ⟨fields, fs, zc, i, hu, hfs, hfb, hi, hsz, -, -, -, -⟩ := q4d hT
   obtain ⟨xs, n, hn, hx, hlen, hxl, hf⟩ := DataW.trod_struct hu h
   obtain rfl : fuel = n := by omega
   have hw : ∀ n ∈ DataW.weightsEach Tryz.prog (fields.toList.map (·.type)) (xs.map (·.1)), n ≤ reachBytes := fun n hn => hL n (by rw [hx]; simp only [DataW.weights, hu]; exact hn)
   have hcl : cs.length = 0 + widths fs := by rw [hlen, qwm hT, (qod hfs).1]; omega
   obtain ⟨ds, hds⟩ := zcq (W := W) (F := fun _ => True) hfb (fun j f t hj ht => by
    obtain ⟨f', hf', ho, hty, -⟩ := q72 hfb ht
    obtain rfl := gnI (hj.symm.trans hf')
    have h5 := hf j f (by rw [← Array.getElem?_toList]; exact hj)
    have hjl : j < fields.toList.length := (gnH.1 hj).1
    have hjx : j < xs.length := by rw [hxl]; simpa using hjl
    rw [qwm hty, gnK hjx] at h5
    refine ih _ _ hty (zeb hfs (List.mem_of_getElem? ht)) h5 (qax.each (k := j) hw ?_ ?_)
    ·rw [List.getElem?_map, hj]; rfl
    ·rw [List.getElem?_map, gnK hjx]; rfl) hcl
   exact ⟨.a ds, S, fs, rfl, hfs, by simpa using hds⟩
  | row E =>
   obtain ⟨hu, ⟨te, hte⟩, -⟩ := q0t hT
   rcases DataW.trod_slice hu h with ⟨rfl, hx⟩ | ⟨a, len, cap, elems, rest, n, hn, rfl, hx, hb, hl, hm, hlen, hel, -⟩
   ·exact ⟨.r [], E, te, none, 0, rfl, hte, rfl, by simp, by simp, by simp [maxLen], by simp [RdE]⟩
   ·obtain rfl : fuel = n := by omega
    have hwd := q26 hte
    rw [qwm hte] at hel
    have hw := hL
    rw [hx] at hw
    simp only [qax, DataW.weights, hu, List.mem_cons, List.mem_append] at hw
    have hlen2 : len ≤ LM te := by
     have := hw _ (.inl rfl)
     rw [qvw] at this
     have hbe : Tryz.prog.bytesOf E = te.by := by
      obtain ⟨i, hi, -⟩ := q32 hte
      simp [Program.bytesOf, hi, qj5 hte hi]
     refine (Nat.le_div_iff_mul_le (za7 hte).1).2 ?_
     simp [hbe] at this
     have h2 : len * te.by ≤ (elems.length + rest.length) * te.by := Nat.mul_le_mul_right _ (by omega)
     exact Nat.le_trans h2 this
    have spot : 0 < len → a.spot = none := fun h0 => by
     have h2 := hel 0 h0
     rw [gnK (by omega)] at h2
     cases hc0 : W.cells? base (a.add (0 * te.w)) te.w with
     | none => rw [hc0] at h2; cases h2
     | some cs0 =>
      obtain ⟨_, hcl0, hat0⟩ := World.cells?_some hc0
      have hp : 0 < cs0.length := by omega
      have := hat0 0 (by omega)
      rw [gnK hp] at this
      exact z3k (a := a) (v := cs0[0]) (by simpa [Addr.add] using this)
    have each : ∀ i, i < len → ∃ y, zjz W (fun _ => True) y te (some a) i := fun i hi => by
     have h1 := hel i hi
     rw [gnK (by omega)] at h1
     cases hc : W.cells? base (a.add (i * te.w)) te.w with
     | none => rw [hc] at h1; cases h1
     | some cs' =>
      rw [hc] at h1
      obtain ⟨_, hcl, hat⟩ := World.cells?_some hc
      obtain ⟨y, hy⟩ := ih cs' _ hte (zgs hT hte) h1 (fun n hn => hw n (.inr (.inl (qbx (List.mem_map.2 ⟨_, List.getElem_mem (by omega), rfl⟩) n hn))))
      have hsp := spot (by omega)
      obtain ⟨b, o, sp⟩ := a
      obtain rfl : sp = none := hsp
      have add : ∀ k, (Addr.add ⟨b, o, none⟩ (i * te.w)).add k = ⟨b, o + i * te.w + k, none⟩ := fun k => by
       unfold Addr.add
       split <;> split <;> simp <;> omega
      refine ⟨y, b, o, cs', rfl, trivial, fun j v hj => ?_, hy⟩
      have hj' := (gnH.1 hj).1
      have := hat j (by omega)
      rw [add, hj] at this
      exact this
    have pick : ∀ n, n ≤ len → ∃ l : List D, l.length = n ∧ ∀ i (h : i < l.length), zjz W (fun _ => True) l[i] te (some a) i := by
     intro n
     induction n with
     | zero => exact fun _ => ⟨[], rfl, fun i hi => by simp at hi⟩
     | succ n ihn =>
      intro hn
      obtain ⟨l, hl1, hl2⟩ := ihn (by omega)
      obtain ⟨t, ht⟩ := each n (by omega)
      refine ⟨l ++ [t], by simp [hl1], fun i hi => ?_⟩
      by_cases hin : i < l.length
      ·rw [List.getElem_append_left hin]; exact hl2 i hin
      ·obtain rfl : i = l.length := by simp at hi; omega
       rw [List.getElem_append_right (by omega)]
       simp [hl1]
       exact ht
    obtain ⟨l, hl1, hl2⟩ := pick len (Nat.le_refl _)
    exact ⟨.r l, E, te, some a, cap, rfl, hte, by rw [hl1], by omega, by omega, hm, q0n.2 fun j hj => by rw [Nat.zero_add]; exact hl2 j hj⟩
theorem z2t (hT : qo T = some t) (hM : qa5 t = false) {d : DataW H} {p : List MemPlace} {b0 : Nat} {r : Reach} (hv : Value.okWide Tryz.prog W r b0 T v) (h : DataW.Trod enc Tryz.prog W base spare held T v d p) (hL : qax T d) :
  ∃ x cs, yr t cs v ∧ Rd W (fun b => b < W.heap.size) x t cs := by
 obtain ⟨fuel, hf⟩ := h
 obtain ⟨y, hy⟩ := z7i fuel _ _ hT hM hf hL
 refine ⟨y, v.cells.toList, ?_, Rd.keeps (fun b o _ ho => ⟨ho, qu ho⟩) _ hy⟩
 cases t with
 | int k => obtain ⟨n, rfl⟩ := okWide_int (q3f hT).1 hv; rfl
 | bool => obtain ⟨n, rfl⟩ := okWide_bool (q3z hT).1 hv; rfl
 | str => obtain ⟨n, rfl⟩ := okWide_string (q3c hT).1 hv; rfl
 | map K V => cases hM
 | row E => obtain ⟨A, l, c, rfl⟩ := okWide_slice (q0t hT).1 hv; rfl
 | st S =>
  obtain ⟨fields, fs, zc, i, hu, -⟩ := q4d hT
  obtain ⟨cs, rfl, -⟩ := okWide_struct hu hv
  simp [yr, Value.cells]
end
def qv1 (W : World) : List Ar → List Value → List D → Prop
 | [], vs, ds => vs = [] ∧ ds = []
 | .val t :: l, vs, ds => ∃ v r d ds', vs = v :: r ∧ ds = d :: ds' ∧ (∃ cs, yr t cs v ∧ Rd W (FFD (fun _ => True) (fun _ => none) []) d t cs) ∧ qv1 W l r ds'
 | _ :: _, _, _ => False
theorem qv1.ok {V : List Value} : ∀ {i : Nat} {ar : List Ar} {vs : List Value} {ds : List D}, qv1 W ar vs ds → ym V (fun _ => True) (fun _ => none) W (idx i ar) vs ds ∧ vs.length = ar.length
 | _, [], vs, ds, h => ⟨h, by rw [h.1]; rfl⟩
 | i, .val t :: l, vs, ds, ⟨v, r, d, ds', e1, e2, h1, h⟩ => by
  obtain ⟨h2, h3⟩ := qv1.ok (V := V) (i := i + 1) h
  exact ⟨⟨v, r, d, ds', e1, e2, h1, h2⟩, by rw [e1]; simp [h3]⟩
 | _, .ref _ _ :: _, _, _, h => h.elim
 | _, .rref _ :: _, _, _, h => h.elim
 | _, .own _ :: _, _, _, h => h.elim
 | _, .mref _ :: _, _, _, h => h.elim
 | _, .nils :: _, _, _, h => h.elim
 | _, .nilp :: _, _, _, h => h.elim
 | _, .fn _ _ :: _, _, _, h => h.elim
 | _, .cell _ _ :: _, _, _, h => h.elim
theorem z7x {ct : Ct} {g : List D → Option (List D)} (h : FOk ct g) (hrs : ct.rs = [(.bool, false)]) (hvr : ct.vr = []) {vs : List Value} {ds : List D} (ha : qv1 W ct.ar vs ds) (hg : g ds = some [.b true]) :
  Calls Tryz.prog ct.f vs.toArray W fun e W' => e = .returned (.bool true) ∧ But Nil W W' := by
 obtain ⟨h1, h2⟩ := qv1.ok (V := vs ++ []) (i := 0) ha
 refine (h.call (fun _ => True) .no (fun _ => none) W vs [] ds _ hg (qg6.of0 fun _ => rfl) Flo.no (by constructor <;> simp [Flr.no]) h2 (by simpa [Ct.all, hvr, idx] using h1)).mono ?_
 rintro e W' (⟨T, -, ho, -⟩ | ⟨rs, p', rfl, hb, hr, -⟩)
 ·cases ho
 rw [hrs] at hr
 obtain ⟨v, r, d, ds', rfl, hd, ⟨cs, hp, hc⟩, rfl⟩ := hr
 simp at hd
 obtain ⟨rfl, rfl⟩ := hd
 obtain ⟨e1, e2⟩ : D.b true = .b true ∧ cs = [.bool true] := ⟨rfl, by
  have hc' : Rd W' (FFD (fun _ => True) p' []) (.b true) .bool cs := hc
  exact hc'.2⟩
 subst e2
 have hpv : [Value.bool true] = [v] := hp
 injection hpv with hpv
 subst hpv
 exact ⟨rfl, hb.but.mono fun i hi _ => by obtain ⟨x, hx⟩ := hi; cases hx⟩
end
end Go.Proofs.YtdaadonfbnedaaaGreat
