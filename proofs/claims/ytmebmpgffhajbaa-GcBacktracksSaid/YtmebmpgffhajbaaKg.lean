/-
  Lemmas of the walk and plain laws, put together. No condition.
-/
import Derived.ChangeArms
import Derived.OpenShut
import Derived.ProofKit
import Derived.SizedLaws
import Derived.Test.YtmebmpgffhajbaaRows
import Derived.Test.YtmebmpgffhajbaaKf
namespace Go.Proofs.Ytmebmpgffhajbaa
open Go.RowKit
set_option linter.unusedVariables false
set_option maxRecDepth 100000

def q1b : Ct := ⟨53, [.rref (.st 27), .val (.int .i64), .val (.int .i64)], [(.bool, false)], [], none⟩
theorem enter_trail_marked (args : Array Value) (w : World) : (callFunc q1b.f args).run Try.prog w = .ok (.enter q1b.f args) w := by kernel_rfl
def ann_trail_marked : Ann := ⟨[0, 1, 2, 6], []⟩
def q2l : Tree := (.leaf [(.and (.and (.and (.le (.lit (.i 0)) (.tok 1)) (.le (.tok 1) (.len (.fld (.tok 0) 2)))) (.le (.lit (.i 0)) (.tok 2))) (.le (.tok 2) (.len (.fld (.tok 0) 0))))])
set_option maxRecDepth 100000 in
theorem code_trail_marked : ∀ cd, Try.f53.body = some cd → treeOf Try.prog [] ann_trail_marked q1b Try.f53 cd = q2l := by
  intro cd h
  injection h with h
  subst h
  kernel_rfl
theorem fok_trail_marked {g : List D → Option (List D)}  (h : ∀ ds outs, WfA q1b.ars ds → g ds = some outs → q2l.go (tblS []) (fun o => o = outs) ds fun _ _ => False) : FOk q1b g :=
  q0a ann_trail_marked Try.f53 _ .nil rfl rfl enter_trail_marked (by decide) fun ds outs hw hg => by rw [code_trail_marked  _ rfl]; exact h ds outs hw hg

def q1y : Ct := ⟨55, [.rref (.st 27), .val (.int .i64)], [(.bool, false)], [], none⟩
theorem enter_trail_in (args : Array Value) (w : World) : (callFunc q1y.f args).run Try.prog w = .ok (.enter q1y.f args) w := by kernel_rfl
def ann_trail_in : Ann := ⟨[0, 1, 4], []⟩
def tree_trail_in : Tree := (.leaf [(.and (.le (.lit (.i 0)) (.tok 1)) (.lt (.tok 1) (.len (.fld (.tok 0) 0))))])
set_option maxRecDepth 100000 in
theorem code_trail_in : ∀ cd, Try.f55.body = some cd → treeOf Try.prog [] ann_trail_in q1y Try.f55 cd = tree_trail_in := by
  intro cd h
  injection h with h
  subst h
  kernel_rfl
theorem fok_trail_in {g : List D → Option (List D)}  (h : ∀ ds outs, WfA q1y.ars ds → g ds = some outs → tree_trail_in.go (tblS []) (fun o => o = outs) ds fun _ _ => False) : FOk q1y g :=
  q0a ann_trail_in Try.f55 _ .nil rfl rfl enter_trail_in (by decide) fun ds outs hw hg => by rw [code_trail_in  _ rfl]; exact h ds outs hw hg

def q1p : Ct := ⟨29, [.ref (.st 27), .val (.int .i64), .val (.int .i64)], [(.int .i64, false)], [], none⟩
theorem enter_trail_Undo (args : Array Value) (w : World) : (callFunc q1p.f args).run Try.prog w = .ok (.enter q1p.f args) w := by kernel_rfl
def ann_trail_Undo : Ann := ⟨[0, 1, 2, 3, 6, 8, 13, 20, 21, 22, 26], [(4, ⟨[], [0], [8, 23, 24, 25, 26, 27, 28, 29, 30, 31, 32, 33, 34, 35], []⟩)]⟩
def q3f : Tree := (.need [(.ok 0 [(.tok 0), (.tok 1), (.tok 2)])] (.br (.not (.call 0 0 [(.tok 0), (.tok 1), (.tok 2)])) (.leaf [(.lit (.i 1)), (.tok 0)]) (.need [(.le (.lit (.i 0)) (.tok 1)), (.le (.tok 1) (.len (.fld (.tok 0) 2)))] (.loop 4 3 [(.tok 0), (.sub (.len (.cut (.fld (.tok 0) 2) (.tok 1) (.len (.fld (.tok 0) 2)))) (.lit (.i 1)))] (.br (.le (.lit (.i 0)) (.tok 4)) (.need [(.ok 1 [(.tok 3), (.fld (.get (.cut (.fld (.tok 0) 2) (.tok 1) (.len (.fld (.tok 0) 2))) (.tok 4)) 0)])] (.br (.call 1 0 [(.tok 3), (.fld (.get (.cut (.fld (.tok 0) 2) (.tok 1) (.len (.fld (.tok 0) 2))) (.tok 4)) 0)]) (.need [(.le (.lit (.i 0)) (.fld (.get (.cut (.fld (.tok 0) 2) (.tok 1) (.len (.fld (.tok 0) 2))) (.tok 4)) 0)), (.lt (.fld (.get (.cut (.fld (.tok 0) 2) (.tok 1) (.len (.fld (.tok 0) 2))) (.tok 4)) 0) (.len (.fld (.tok 3) 0)))] (.back 4 [(.set (.tok 3) 0 (.put (.fld (.tok 3) 0) (.fld (.get (.cut (.fld (.tok 0) 2) (.tok 1) (.len (.fld (.tok 0) 2))) (.tok 4)) 0) (.fld (.get (.cut (.fld (.tok 0) 2) (.tok 1) (.len (.fld (.tok 0) 2))) (.tok 4)) 1))), (.sub (.tok 4) (.lit (.i 1)))])) (.back 4 [(.tok 3), (.sub (.tok 4) (.lit (.i 1)))]))) (.need [(.le (.lit (.i 0)) (.tok 1)), (.le (.tok 1) (.len (.fld (.tok 3) 2)))] (.need [(.le (.lit (.i 0)) (.tok 2)), (.le (.tok 2) (.len (.fld (.set (.tok 3) 2 (.cut (.fld (.tok 3) 2) (.lit (.i 0)) (.tok 1))) 0)))] (.leaf [(.lit (.i 0)), (.set (.set (.tok 3) 2 (.cut (.fld (.tok 3) 2) (.lit (.i 0)) (.tok 1))) 0 (.cut (.fld (.set (.tok 3) 2 (.cut (.fld (.tok 3) 2) (.lit (.i 0)) (.tok 1))) 0) (.lit (.i 0)) (.tok 2)))]))))))))
set_option maxRecDepth 100000 in
theorem code_trail_Undo (g0 g1 : List D → Option (List D)) : ∀ cd, Try.f29.body = some cd → treeU Try.prog [(q1b, g0), (q1y, g1)] ann_trail_Undo q1p Try.f29 cd = q3f := by
  intro cd h
  injection h with h
  subst h
  kernel_rfl
theorem fok_trail_Undo {g0 g1 : List D → Option (List D)} {g : List D → Option (List D)} (h0 : FOk q1b g0) (h1 : FOk q1y g1) (h : ∀ ds outs, WfA q1p.ars ds → g ds = some outs → q3f.go (tblS [(q1b, g0), (q1y, g1)]) (fun o => o = outs) ds fun _ _ => False) : FOk q1p g :=
  fok_ofU ann_trail_Undo Try.f29 _ (.cons h0 (.cons h1 .nil)) bw_enter2 rfl rfl enter_trail_Undo (by decide) fun ds outs hw hg => by rw [code_trail_Undo g0 g1 _ rfl]; exact h ds outs hw hg

def q1d : Ct := ⟨8, [.val (.st 27), .val (.st 34), .val (.int .i64)], [(.bool, false)], [], none⟩
theorem q41 (args : Array Value) (w : World) : (callFunc q1d.f args).run Try.prog w = .ok (.enter q1d.f args) w := by kernel_rfl
def q2v : Ann := ⟨[0, 1, 2, 3, 4, 6, 7, 8, 9, 10, 11, 12, 40, 55, 58, 92, 109, 114, 123], [(15, ⟨[(10, .row 31, false), (11, .row 31, false), (12, .int .i64, false)], [], [110, 111, 112, 113, 114, 117, 118, 119, 120, 121, 122, 123, 124, 125, 126, 127, 128, 129, 130, 131, 132, 133, 134, 135, 136, 137, 138, 139, 115, 116], []⟩)]⟩
def q22 : Tree := (.need [(.ok 0 [(.tok 0), (.tok 1)]), (.imp (.not (.not (.call 0 0 [(.tok 0), (.tok 1)]))) (.ok 1 [(.tok 0), (.tok 1)]))] (.br (.or (.or (.or (.or (.not (.call 0 0 [(.tok 0), (.tok 1)])) (.not (.call 1 0 [(.tok 0), (.tok 1)]))) (.lt (.tok 2) (.lit (.i 0)))) (.le (.len (.fld (.tok 1) 2)) (.tok 2))) (.le (.len (.fld (.tok 1) 1)) (.tok 2))) (.need [(.ok 2 [])] (.leaf [(.call 2 0 [])])) (.need [(.ok 3 [(.tok 0)])] (.need [(.ok 4 [(.call 3 0 [(.tok 0)]), (.get (.fld (.tok 1) 2) (.tok 2)), (.get (.fld (.tok 1) 1) (.tok 2))]), (.le (.lit (.i 0)) (.tok 2)), (.lt (.tok 2) (.len (.fld (.tok 1) 1))), (.le (.lit (.i 0)) (.tok 2)), (.lt (.tok 2) (.len (.fld (.tok 1) 2)))] (.br (.not (.eq (.call 4 0 [(.call 3 0 [(.tok 0)]), (.get (.fld (.tok 1) 2) (.tok 2)), (.get (.fld (.tok 1) 1) (.tok 2))]) (.lit (.i 0)))) (.leaf [(.lit (.b .false))]) (.need [(.ok 5 [(.call 4 1 [(.call 3 0 [(.tok 0)]), (.get (.fld (.tok 1) 2) (.tok 2)), (.get (.fld (.tok 1) 1) (.tok 2))])])] (.br (.not (.call 5 0 [(.call 4 1 [(.call 3 0 [(.tok 0)]), (.get (.fld (.tok 1) 2) (.tok 2)), (.get (.fld (.tok 1) 1) (.tok 2))])])) (.need [(.ok 2 [])] (.leaf [(.call 2 0 [])])) (.need [(.ok 6 [(.tok 1)]), (.ok 6 [(.tok 1)]), (.ok 3 [(.tok 0)]), (.ok 3 [(.tok 0)]), (.ok 3 [(.tok 0)])] (.need [(.ok 7 [(.call 3 0 [(.tok 0)]), (.call 6 0 [(.tok 1)])])] (.br (.or (.or (.or (.not (.eq (.call 7 0 [(.call 3 0 [(.tok 0)]), (.call 6 0 [(.tok 1)])]) (.lit (.i 0)))) (.not (.eq (.len (.fld (.call 7 2 [(.call 3 0 [(.tok 0)]), (.call 6 0 [(.tok 1)])]) 2)) (.len (.fld (.tok 1) 2))))) (.not (.eq (.len (.fld (.call 7 2 [(.call 3 0 [(.tok 0)]), (.call 6 0 [(.tok 1)])]) 1)) (.len (.fld (.tok 1) 1))))) (.not (.eq (.len (.fld (.call 7 2 [(.call 3 0 [(.tok 0)]), (.call 6 0 [(.tok 1)])]) 0)) (.len (.fld (.tok 1) 0))))) (.leaf [(.lit (.b .false))]) (.need [(.imp (.not (.not (.eq (.call 4 0 [(.call 7 1 [(.call 3 0 [(.tok 0)]), (.call 6 0 [(.tok 1)])]), (.get (.fld (.call 7 2 [(.call 3 0 [(.tok 0)]), (.call 6 0 [(.tok 1)])]) 2) (.tok 2)), (.get (.fld (.call 7 2 [(.call 3 0 [(.tok 0)]), (.call 6 0 [(.tok 1)])]) 1) (.tok 2))]) (.lit (.i 0))))) (.ok 5 [(.call 4 1 [(.call 7 1 [(.call 3 0 [(.tok 0)]), (.call 6 0 [(.tok 1)])]), (.get (.fld (.call 7 2 [(.call 3 0 [(.tok 0)]), (.call 6 0 [(.tok 1)])]) 2) (.tok 2)), (.get (.fld (.call 7 2 [(.call 3 0 [(.tok 0)]), (.call 6 0 [(.tok 1)])]) 1) (.tok 2))])])), (.ok 4 [(.call 7 1 [(.call 3 0 [(.tok 0)]), (.call 6 0 [(.tok 1)])]), (.get (.fld (.call 7 2 [(.call 3 0 [(.tok 0)]), (.call 6 0 [(.tok 1)])]) 2) (.tok 2)), (.get (.fld (.call 7 2 [(.call 3 0 [(.tok 0)]), (.call 6 0 [(.tok 1)])]) 1) (.tok 2))]), (.le (.lit (.i 0)) (.tok 2)), (.lt (.tok 2) (.len (.fld (.call 7 2 [(.call 3 0 [(.tok 0)]), (.call 6 0 [(.tok 1)])]) 1))), (.le (.lit (.i 0)) (.tok 2)), (.lt (.tok 2) (.len (.fld (.call 7 2 [(.call 3 0 [(.tok 0)]), (.call 6 0 [(.tok 1)])]) 2)))] (.br (.or (.not (.eq (.call 4 0 [(.call 7 1 [(.call 3 0 [(.tok 0)]), (.call 6 0 [(.tok 1)])]), (.get (.fld (.call 7 2 [(.call 3 0 [(.tok 0)]), (.call 6 0 [(.tok 1)])]) 2) (.tok 2)), (.get (.fld (.call 7 2 [(.call 3 0 [(.tok 0)]), (.call 6 0 [(.tok 1)])]) 1) (.tok 2))]) (.lit (.i 0)))) (.not (.call 5 0 [(.call 4 1 [(.call 7 1 [(.call 3 0 [(.tok 0)]), (.call 6 0 [(.tok 1)])]), (.get (.fld (.call 7 2 [(.call 3 0 [(.tok 0)]), (.call 6 0 [(.tok 1)])]) 2) (.tok 2)), (.get (.fld (.call 7 2 [(.call 3 0 [(.tok 0)]), (.call 6 0 [(.tok 1)])]) 1) (.tok 2))])]))) (.leaf [(.lit (.b .false))]) (.loop 15 3 [(.lit (.r [])), (.lit (.r [])), (.lit (.i 0))] (.br (.lt (.tok 5) (.len (.fld (.tok 1) 0))) (.need [(.ok 8 [(.call 4 1 [(.call 3 0 [(.tok 0)]), (.get (.fld (.tok 1) 2) (.tok 2)), (.get (.fld (.tok 1) 1) (.tok 2))]), (.get (.fld (.tok 1) 0) (.tok 5))]), (.le (.lit (.i 0)) (.tok 5)), (.lt (.tok 5) (.len (.fld (.tok 1) 0)))] (.br (.call 8 0 [(.call 4 1 [(.call 3 0 [(.tok 0)]), (.get (.fld (.tok 1) 2) (.tok 2)), (.get (.fld (.tok 1) 1) (.tok 2))]), (.get (.fld (.tok 1) 0) (.tok 5))]) (.need [(.le (.lit (.i 0)) (.tok 5)), (.lt (.tok 5) (.len (.fld (.tok 1) 0))), (.le (.add (.len (.tok 3)) (.lit (.i 1))) (.lit (.i 8796093021952)))] (.need [(.le (.lit (.i 0)) (.tok 5)), (.lt (.tok 5) (.len (.fld (.call 7 2 [(.call 3 0 [(.tok 0)]), (.call 6 0 [(.tok 1)])]) 0))), (.le (.add (.len (.tok 4)) (.lit (.i 1))) (.lit (.i 8796093021952)))] (.need [(.rng .i64 (.add (.tok 5) (.lit (.i 1))))] (.back 15 [(.app (.tok 3) (.row [(.get (.fld (.tok 1) 0) (.tok 5))])), (.app (.tok 4) (.row [(.get (.fld (.call 7 2 [(.call 3 0 [(.tok 0)]), (.call 6 0 [(.tok 1)])]) 0) (.tok 5))])), (.add (.tok 5) (.lit (.i 1)))])))) (.need [(.rng .i64 (.add (.tok 5) (.lit (.i 1))))] (.back 15 [(.tok 3), (.tok 4), (.add (.tok 5) (.lit (.i 1)))])))) (.need [(.ok 9 [(.call 4 1 [(.call 3 0 [(.tok 0)]), (.get (.fld (.tok 1) 2) (.tok 2)), (.get (.fld (.tok 1) 1) (.tok 2))]), (.call 4 1 [(.call 7 1 [(.call 3 0 [(.tok 0)]), (.call 6 0 [(.tok 1)])]), (.get (.fld (.call 7 2 [(.call 3 0 [(.tok 0)]), (.call 6 0 [(.tok 1)])]) 2) (.tok 2)), (.get (.fld (.call 7 2 [(.call 3 0 [(.tok 0)]), (.call 6 0 [(.tok 1)])]) 1) (.tok 2))]), (.tok 3), (.tok 4)]), (.imp (.call 9 0 [(.call 4 1 [(.call 3 0 [(.tok 0)]), (.get (.fld (.tok 1) 2) (.tok 2)), (.get (.fld (.tok 1) 1) (.tok 2))]), (.call 4 1 [(.call 7 1 [(.call 3 0 [(.tok 0)]), (.call 6 0 [(.tok 1)])]), (.get (.fld (.call 7 2 [(.call 3 0 [(.tok 0)]), (.call 6 0 [(.tok 1)])]) 2) (.tok 2)), (.get (.fld (.call 7 2 [(.call 3 0 [(.tok 0)]), (.call 6 0 [(.tok 1)])]) 1) (.tok 2))]), (.tok 3), (.tok 4)]) (.ok 2 []))] (.leaf [(.and (.call 9 0 [(.call 4 1 [(.call 3 0 [(.tok 0)]), (.get (.fld (.tok 1) 2) (.tok 2)), (.get (.fld (.tok 1) 1) (.tok 2))]), (.call 4 1 [(.call 7 1 [(.call 3 0 [(.tok 0)]), (.call 6 0 [(.tok 1)])]), (.get (.fld (.call 7 2 [(.call 3 0 [(.tok 0)]), (.call 6 0 [(.tok 1)])]) 2) (.tok 2)), (.get (.fld (.call 7 2 [(.call 3 0 [(.tok 0)]), (.call 6 0 [(.tok 1)])]) 1) (.tok 2))]), (.tok 3), (.tok 4)]) (.call 2 0 []))]))))))))))))))))
set_option maxRecDepth 100000 in
theorem code_law34_GcBacktracks (g0 g1 g2 g3 g4 g5 g6 g7 g8 g9 : List D → Option (List D)) : ∀ cd, Try.f8.body = some cd → treeOf Try.prog [(q1o, g0), (q0o, g1), (q1j, g2), (q1m, g3), (q1p, g4), (q0n, g5), (q1l, g6), (q0v, g7), (q05, g8), (q1i, g9)] q2v q1d Try.f8 cd = q22 := by
  intro cd h
  injection h with h
  subst h
  kernel_rfl
theorem fok_law34_GcBacktracks {g0 g1 g2 g3 g4 g5 g6 g7 g8 g9 : List D → Option (List D)} {g : List D → Option (List D)} (h0 : FOk q1o g0) (h1 : FOk q0o g1) (h2 : FOk q1j g2) (h3 : FOk q1m g3) (h4 : FOk q1p g4) (h5 : FOk q0n g5) (h6 : FOk q1l g6) (h7 : FOk q0v g7) (h8 : FOk q05 g8) (h9 : FOk q1i g9) (h : ∀ ds outs, WfA q1d.ars ds → g ds = some outs → q22.go (tblS [(q1o, g0), (q0o, g1), (q1j, g2), (q1m, g3), (q1p, g4), (q0n, g5), (q1l, g6), (q0v, g7), (q05, g8), (q1i, g9)]) (fun o => o = outs) ds fun _ _ => False) : FOk q1d g :=
  q0a q2v Try.f8 _ (.cons h0 (.cons h1 (.cons h2 (.cons h3 (.cons h4 (.cons h5 (.cons h6 (.cons h7 (.cons h8 (.cons h9 .nil)))))))))) rfl rfl q41 (by decide) fun ds outs hw hg => by rw [code_law34_GcBacktracks g0 g1 g2 g3 g4 g5 g6 g7 g8 g9 _ rfl]; exact h ds outs hw hg

end Go.Proofs.Ytmebmpgffhajbaa


namespace Go.Proofs.Ytmebmpgffhajbaa
open Go.RowKit
set_option linter.unusedVariables false
set_option linter.unusedSimpArgs false

theorem ok_trail_in : FOk q1y (gSIb inS) := fok_trail_in fun ds outs hw hg => by
  obtain ⟨d, r, rfl, hd, e, r', rfl, he, rfl⟩ := hw
  obtain ⟨s, rfl, hs⟩ := wfS hd
  obtain ⟨i, rfl, hi⟩ := wfI he
  simp only [gSIb, dS_eS, int_i, Option.some.injEq] at hg
  subst hg
  simp only [tree_trail_in, q00, go_br, q01, q02, allSay, X.says, X.ev, X.evs, evl, tblS, List.getD_cons_zero, List.getD_cons_succ, List.getElem?_cons_zero, List.getElem?_cons_succ, tt_b, int_i, str_s, rs_r, Option.isSome_some, Option.getD_some, decide_eq_true_eq, decide_eq_false_iff_not, gnE, List.length_map, gnF, gnL, decide_true, decide_false, Bool.or_true, true_and, and_true, inS]
theorem fld_s2 {s : So} {x : D} : (D.a ((eS s).fs.set 2 x)).fld 0 = .r (s.cs.map eC) := rfl
def markedB (s : So) (m t : Int) : Bool := decide (0 ≤ m) && (decide (m ≤ s.tr.length) && (decide (0 ≤ t) && decide (t ≤ s.cs.length)))
def gSIIb (f : So → Int → Int → Bool) : List D → Option (List D)
  | [s, m, t] => some [.b (f (dS s) m.int t.int)]
  | _ => none
theorem ok_trail_marked : FOk q1b (gSIIb markedB) := fok_trail_marked fun ds outs hw hg => by
  obtain ⟨d, r, rfl, hd, e, r', rfl, he, f, r2, rfl, hf, rfl⟩ := hw
  obtain ⟨s, rfl, hs⟩ := wfS hd
  obtain ⟨m, rfl, hm⟩ := wfI he
  obtain ⟨t, rfl, ht⟩ := wfI hf
  simp only [gSIIb, dS_eS, int_i, Option.some.injEq] at hg
  subst hg
  simp only [q2l, q00, go_br, q01, q02, allSay, X.says, X.ev, X.evs, evl, tblS, List.getD_cons_zero, List.getD_cons_succ, List.getElem?_cons_zero, List.getElem?_cons_succ, tt_b, int_i, str_s, rs_r, Option.isSome_some, Option.getD_some, decide_eq_true_eq, decide_eq_false_iff_not, gnE, List.length_map, gnF, gnL, decide_true, decide_false, Bool.or_true, true_and, and_true, markedB, Bool.and_assoc]
def putU (u : Un) (cs : List Ce) : List Ce := if 0 ≤ u.at' ∧ u.at' < cs.length then cs.set u.at'.toNat u.old else cs
def undoC (cs : List Ce) (l : List Un) : List Ce := l.foldr putU cs
theorem putU_len (u : Un) (cs : List Ce) : (putU u cs).length = cs.length := by
  unfold putU
  split <;> simp
theorem undoC_len (cs : List Ce) : ∀ l, (undoC cs l).length = cs.length
  | [] => rfl
  | u :: l => (putU_len _ _).trans (undoC_len cs l)
theorem drop_get {α : Type} [Inhabited α] {l : List α} {k : Nat} (h : k < l.length) : l.drop k = l.getD k default :: l.drop (k + 1) := by
  rw [List.drop_eq_getElem_cons h]
  simp [List.getD_eq_getElem?_getD, h]
def undoS (s : So) (m t : Int) : So := { s with cs := (undoC s.cs (s.tr.drop m.toNat)).take t.toNat, tr := s.tr.take m.toNat }
def gUndo : List D → Option (List D)
  | [s, m, t] => if markedB (dS s) m.int t.int then some [.i 0, eS (undoS (dS s) m.int t.int)] else some [.i 1, eS (dS s)]
  | _ => none
theorem put_eq {s : So} {cs : List Ce} {u : Un} (h : 0 ≤ u.at' ∧ u.at' < cs.length) : D.a ((eS { s with cs := cs }).fs.set 0 (.r ((cs.map eC).set u.at'.toNat (eC u.old)))) = eS { s with cs := putU u cs } := by
  simp [putU, h, eS, D.fs, List.map_set]
theorem markedB_iff {s : So} {m t : Int} : markedB s m t = true ↔ 0 ≤ m ∧ m ≤ s.tr.length ∧ 0 ≤ t ∧ t ≤ s.cs.length := by simp [markedB]
theorem ok_trail_Undo : FOk q1p gUndo := fok_trail_Undo ok_trail_marked ok_trail_in fun ds outs hw hg => by
  obtain ⟨d, r, rfl, hd, e, r', rfl, he, f, r2, rfl, hf, rfl⟩ := hw
  obtain ⟨s, rfl, hs⟩ := wfS hd
  obtain ⟨m, rfl, hm⟩ := wfI he
  obtain ⟨t, rfl, ht⟩ := wfI hf
  simp only [gUndo, dS_eS, int_i] at hg
  rw [q3f, q00]
  refine ⟨by simp only [q00, go_br, q01, q02, allSay, X.says, X.ev, X.evs, evl, tblS, List.getD_cons_zero, List.getD_cons_succ, List.getElem?_cons_zero, List.getElem?_cons_succ, tt_b, int_i, str_s, rs_r, Option.isSome_some, Option.getD_some, decide_eq_true_eq, decide_eq_false_iff_not, gnE, List.length_map, gnF, gnL, decide_true, decide_false, Bool.or_true, true_and, and_true, gSIIb], ?_⟩
  rw [go_br]
  cases hk : markedB s m t with
  | false =>
    simp only [hk, Bool.false_eq_true, if_false, Option.some.injEq] at hg
    subst hg
    refine ⟨fun _ => by simp only [q00, go_br, q01, q02, allSay, X.says, X.ev, X.evs, evl, tblS, List.getD_cons_zero, List.getD_cons_succ, List.getElem?_cons_zero, List.getElem?_cons_succ, tt_b, int_i, str_s, rs_r, Option.isSome_some, Option.getD_some, decide_eq_true_eq, decide_eq_false_iff_not, gnE, List.length_map, gnF, gnL, decide_true, decide_false, Bool.or_true, true_and, and_true, gSIIb], fun h => ?_⟩
    simp [X.ev, X.evs, evl, tblS, gSIIb, dS_eS, int_i, hk, D.tt] at h
  | true =>
    simp only [hk, if_true, Option.some.injEq] at hg
    subst hg
    refine ⟨fun h => ?_, fun _ => ?_⟩
    · simp [X.ev, X.evs, evl, tblS, gSIIb, dS_eS, int_i, hk, D.tt] at h
    obtain ⟨q1, q2, q3, q4⟩ := markedB_iff.1 hk
    rw [q00]
    refine ⟨by simp only [q00, go_br, q01, q02, allSay, X.says, X.ev, X.evs, evl, tblS, List.getD_cons_zero, List.getD_cons_succ, List.getElem?_cons_zero, List.getElem?_cons_succ, tt_b, int_i, str_s, rs_r, Option.isSome_some, Option.getD_some, decide_eq_true_eq, decide_eq_false_iff_not, gnE, List.length_map, gnF, gnL, decide_true, decide_false, Bool.or_true, true_and, and_true]; exact ⟨q1, q2⟩, ?_⟩
    have ecut : ((s.tr.map eU).take ((s.tr.length : Nat) : Int).toNat).drop m.toNat = (s.tr.drop m.toNat).map eU := by
      rw [List.take_of_length_le (by simp), List.map_drop]
    have hll : (s.tr.drop m.toNat).length ≤ s.tr.length := by simp
    have hl := hs.tr.1
    rw [q17]
    generalize hL : s.tr.drop m.toNat = L at ecut hll
    refine ⟨fun st => ∃ k : Nat, k ≤ L.length ∧ st = [eS { s with cs := undoC s.cs (L.drop k) }, .i ((k : Int) - 1)], fun st => ((st.getD 1 .u).int + 1).toNat, ⟨L.length, Nat.le_refl _, ?_⟩, ?_⟩
    · simp only [q00, go_br, q01, q02, allSay, X.says, X.ev, X.evs, evl, tblS, List.getD_cons_zero, List.getD_cons_succ, List.getElem?_cons_zero, List.getElem?_cons_succ, tt_b, int_i, str_s, rs_r, Option.isSome_some, Option.getD_some, decide_eq_true_eq, decide_eq_false_iff_not, gnE, List.length_map, gnF, gnL, decide_true, decide_false, Bool.or_true, true_and, and_true, ecut]
      simp [undoC]
    rintro st - ⟨k, hkl, rfl⟩
    simp only [q00, go_br, q01, q02, allSay, X.says, X.ev, X.evs, evl, tblS, List.getD_cons_zero, List.getD_cons_succ, List.getElem?_cons_zero, List.getElem?_cons_succ, tt_b, int_i, str_s, rs_r, Option.isSome_some, Option.getD_some, decide_eq_true_eq, decide_eq_false_iff_not, gnE, List.length_map, gnF, gnL, decide_true, decide_false, Bool.or_true, true_and, and_true, gSIb, ecut]
    refine ⟨fun hlt => ?_, fun hlt => ?_⟩
    · have hk1 : ((k : Int) - 1).toNat = k - 1 := by omega
      have hkn : k - 1 < L.length := by omega
      have hget : (D.r (L.map eU)).get ((k : Int) - 1) = eU (L.getD (k - 1) default) := by
        rw [get_r eU (by omega) (by omega), hk1]
      have hdr : undoC s.cs (L.drop (k - 1)) = putU (L.getD (k - 1) default) (undoC s.cs (L.drop k)) := by
        rw [drop_get hkn, show k - 1 + 1 = k by omega]
        rfl
      simp only [hget, eU_0, eU_1, int_i]
      generalize L.getD (k - 1) default = u at hdr
      refine ⟨fun hin => ?_, fun hin => ?_⟩
      · have h1 := inS_iff.1 hin
        rw [updB, if_pos rfl, put_eq h1, ← hdr]
        refine ⟨⟨h1.1, h1.2⟩, ⟨k - 1, by omega, by simp; omega⟩, ?_⟩
        simp [D.int]
        omega
      · have h1 : ¬ (0 ≤ u.at' ∧ u.at' < (undoC s.cs (L.drop k)).length) := fun q => by
          have : inS { s with cs := undoC s.cs (L.drop k) } u.at' = true := inS_iff.2 q
          rw [this] at hin
          cases hin
        have : putU u (undoC s.cs (L.drop k)) = undoC s.cs (L.drop k) := if_neg h1
        rw [updB, if_pos rfl]
        refine ⟨⟨k - 1, by omega, ?_⟩, ?_⟩
        · rw [hdr, this]
          simp
          omega
        · simp [D.int]
          omega
    · have hk0 : k = 0 := by omega
      subst hk0
      simp only [fld_s2, rs_r, List.length_map, undoC_len, List.drop_zero]
      refine ⟨⟨q1, q2⟩, ⟨q3, q4⟩, ?_⟩
      simp [undoS, eS, D.fs, D.fld, D.rs, hL, List.map_take]
end Go.Proofs.Ytmebmpgffhajbaa


namespace Go.Proofs.Ytmebmpgffhajbaa
open Go.RowKit
set_option linter.unusedVariables false
set_option linter.unusedSimpArgs false

def hp (f : Nat → Bool) (cs : List Ce) (n : Nat) : List Ce := ((List.range n).filter f).map fun i => mvC f (cs.getD i default)
theorem heap_hp (f : Nat → Bool) (s : So) (n : Nat) : heapF f s n = hp f s.cs n := rfl
theorem hp_succ (f : Nat → Bool) (cs : List Ce) (n : Nat) : hp f cs (n + 1) = hp f cs n ++ if f n then [mvC f (cs.getD n default)] else [] := by
  unfold hp
  rw [List.range_succ, List.filter_append, List.map_append]
  congr 1
  cases h : f n <;> simp [h]
theorem hp_len (f : Nat → Bool) (cs : List Ce) (n : Nat) : (hp f cs n).length = bef f n := by
  induction n with
  | zero => rfl
  | succ n ih =>
    rw [hp_succ, List.length_append, ih, bef]
    split <;> simp
theorem getD_set_ne {cs : List Ce} {a n : Nat} {x : Ce} (h : a ≠ n) : (cs.set a x).getD n default = cs.getD n default := by
  simp [List.getD_eq_getElem?_getD, List.getElem?_set_ne h]
theorem getD_set_eq {cs : List Ce} {a : Nat} {x : Ce} (h : a < cs.length) : (cs.set a x).getD a default = x := by
  simp [List.getD_eq_getElem?_getD, h]
theorem hp_set (f : Nat → Bool) {cs : List Ce} {a : Nat} (x : Ce) (ha : a < cs.length) : ∀ n, hp f (cs.set a x) n = if f a = true ∧ a < n then (hp f cs n).set (bef f a) (mvC f x) else hp f cs n
  | 0 => by rw [if_neg (by omega)]; rfl
  | n + 1 => by
    rw [hp_succ, hp_succ, hp_set f x ha n]
    by_cases hf : f a = true
    · rcases Nat.lt_trichotomy a n with h | h | h
      · rw [if_pos (show f a = true ∧ a < n from ⟨hf, h⟩), if_pos (show f a = true ∧ a < n + 1 from ⟨hf, by omega⟩), getD_set_ne (show a ≠ n by omega), List.set_append_left _ _ (by rw [hp_len]; exact bef_lt hf h)]
      · subst h
        rw [if_neg (show ¬ (f a = true ∧ a < a) from fun q => by omega), if_pos (show f a = true ∧ a < a + 1 from ⟨hf, by omega⟩), getD_set_eq ha]
        simp only [hf, if_true]
        rw [List.set_append_right _ _ (by rw [hp_len]; exact Nat.le_refl _), hp_len, Nat.sub_self]
        rfl
      · rw [if_neg (show ¬ (f a = true ∧ a < n) from fun q => by omega), if_neg (show ¬ (f a = true ∧ a < n + 1) from fun q => by omega), getD_set_ne (show a ≠ n by omega)]
    · rw [if_neg (show ¬ (f a = true ∧ a < n) from fun q => hf q.1), if_neg (show ¬ (f a = true ∧ a < n + 1) from fun q => hf q.1)]
      by_cases h : a = n
      · subst h
        rw [if_neg hf, if_neg hf]
      · rw [getD_set_ne h]
theorem hp_put {f : Nat → Bool} {cs : List Ce} {u : Un} (h0 : 0 ≤ u.at') (h1 : u.at' < cs.length) : hp f (putU u cs) cs.length = if onTr f u then putU (mvU f u) (hp f cs cs.length) else hp f cs cs.length := by
  have ha : u.at'.toNat < cs.length := by omega
  unfold putU
  rw [if_pos ⟨h0, h1⟩, hp_set f u.old ha]
  unfold onTr
  by_cases hf : f u.at'.toNat = true
  · rw [if_pos ⟨hf, ha⟩, if_pos hf, if_pos]
    · simp [mvU]
    · have := bef_lt hf ha
      rw [hp_len]
      simp only [mvU]
      omega
  · rw [if_neg fun q => hf q.1, if_neg hf]
theorem hp_undo {f : Nat → Bool} {cs : List Ce} : ∀ (l : List Un), (∀ u ∈ l, 0 ≤ u.at' ∧ u.at' < cs.length) → hp f (undoC cs l) cs.length = undoC (hp f cs cs.length) ((l.filter (onTr f)).map (mvU f))
  | [], _ => rfl
  | u :: l, h => by
    have ih := hp_undo (f := f) l fun x hx => h x (List.mem_cons_of_mem _ hx)
    have hu := h u List.mem_cons_self
    have e : undoC cs (u :: l) = putU u (undoC cs l) := rfl
    have hl := undoC_len cs l
    have := hp_put (f := f) (cs := undoC cs l) (u := u) hu.1 (by rw [hl]; exact hu.2)
    rw [hl] at this
    rw [e, this, ih]
    cases hf : onTr f u with
    | true =>
      rw [if_pos rfl, List.filter_cons_of_pos hf]
      rfl
    | false =>
      rw [if_neg (by decide), List.filter_cons_of_neg (by rw [hf]; decide)]
theorem hp_take (f : Nat → Bool) (cs : List Ce) (n : Nat) : ∀ j, (hp f cs (n + j)).take (bef f n) = hp f cs n
  | 0 => by
    rw [Nat.add_zero]
    exact List.take_of_length_le (by rw [hp_len]; exact Nat.le_refl _)
  | j + 1 => by
    have hle : bef f n ≤ (hp f cs (n + j)).length := by rw [hp_len]; exact bef_mono f (by omega)
    rw [show n + (j + 1) = (n + j) + 1 by omega, hp_succ, List.take_append_of_le_length hle, hp_take f cs n j]
theorem hp_cut (f : Nat → Bool) (cs : List Ce) (n : Nat) : hp f (cs.take n) n = hp f cs n := by
  unfold hp
  refine List.map_congr_left fun i hi => ?_
  have := List.mem_range.1 (List.mem_filter.1 hi).1
  simp [List.getD_eq_getElem?_getD, List.getElem?_take, this]

section
variable {s : So} {r : Ro}
theorem undo_col (f : Nat → Bool) {m t : Nat} (hm : m ≤ s.tr.length) (ht : t ≤ s.cs.length) (hu : ∀ u ∈ s.tr, 0 ≤ u.at' ∧ u.at' < s.cs.length) : undoS (colS f s) (keptF f s m : Nat) (bef f t : Nat) = colS f (undoS s (m : Nat) (t : Nat)) := by
  have hdr : (colS f s).tr = ((s.tr.take m).filter (onTr f)).map (mvU f) ++ ((s.tr.drop m).filter (onTr f)).map (mvU f) := by
    show ((s.tr.take s.tr.length).filter (onTr f)).map (mvU f) = _
    rw [List.take_length, ← List.map_append, ← List.filter_append, List.take_append_drop]
  have hk : keptF f s m = (((s.tr.take m).filter (onTr f)).map (mvU f)).length := by rw [List.length_map]; rfl
  have e1 : (colS f s).tr.drop (keptF f s m) = ((s.tr.drop m).filter (onTr f)).map (mvU f) := by
    rw [hdr, hk, List.drop_left]
  have e2 : (colS f s).tr.take (keptF f s m) = ((s.tr.take m).filter (onTr f)).map (mvU f) := by
    rw [hdr, hk, List.take_left]
  have e3 : trailF f (undoS s (m : Nat) (t : Nat)) (undoS s (m : Nat) (t : Nat)).tr.length = ((s.tr.take m).filter (onTr f)).map (mvU f) := by
    show (((s.tr.take m).take (s.tr.take m).length).filter (onTr f)).map (mvU f) = _
    rw [List.take_length]
  have hcl : (undoS s (m : Nat) (t : Nat)).cs.length = t := by
    show ((undoC s.cs (s.tr.drop m)).take t).length = t
    rw [List.length_take, undoC_len]
    omega
  have e4 : heapF f (undoS s (m : Nat) (t : Nat)) (undoS s (m : Nat) (t : Nat)).cs.length = (undoC (heapF f s s.cs.length) (((s.tr.drop m).filter (onTr f)).map (mvU f))).take (bef f t) := by
    rw [hcl, heap_hp, heap_hp, ← hp_undo (s.tr.drop m) fun u h => hu u (List.mem_of_mem_drop h)]
    show hp f ((undoC s.cs (s.tr.drop m)).take t) t = _
    rw [hp_cut]
    have := hp_take f (undoC s.cs (s.tr.drop m)) t (s.cs.length - t)
    rw [show t + (s.cs.length - t) = s.cs.length by omega] at this
    exact this.symm
  have hL : undoS (colS f s) (keptF f s m : Nat) (bef f t : Nat) = { s with cs := (undoC (heapF f s s.cs.length) ((colS f s).tr.drop (keptF f s m))).take (bef f t), tr := (colS f s).tr.take (keptF f s m), wk := s.wk.map (mvW f) } := rfl
  have hR : colS f (undoS s (m : Nat) (t : Nat)) = { s with cs := heapF f (undoS s (m : Nat) (t : Nat)) (undoS s (m : Nat) (t : Nat)).cs.length, tr := trailF f (undoS s (m : Nat) (t : Nat)) (undoS s (m : Nat) (t : Nat)).tr.length, wk := s.wk.map (mvW f) } := rfl
  rw [hL, hR, e1, e2, e3, e4]

theorem undo_get (cs : List Ce) (y : Nat) : ∀ (l : List Un), (undoC cs l).getD y default = cs.getD y default ∨ ∃ u ∈ l, 0 ≤ u.at' ∧ u.at'.toNat = y ∧ (undoC cs l).getD y default = u.old
  | [] => .inl rfl
  | u :: l => by
    have e : undoC cs (u :: l) = putU u (undoC cs l) := rfl
    rw [e]
    unfold putU
    by_cases h : 0 ≤ u.at' ∧ u.at' < (undoC cs l).length
    · rw [if_pos h]
      by_cases hy : u.at'.toNat = y
      · refine .inr ⟨u, List.mem_cons_self, h.1, hy, ?_⟩
        rw [← hy, getD_set_eq (by omega)]
      · rw [getD_set_ne hy]
        rcases undo_get cs y l with h1 | ⟨v, hv, h1⟩
        · exact .inl h1
        · exact .inr ⟨v, List.mem_cons_of_mem _ hv, h1⟩
    · rw [if_neg h]
      rcases undo_get cs y l with h1 | ⟨v, hv, h1⟩
      · exact .inl h1
      · exact .inr ⟨v, List.mem_cons_of_mem _ hv, h1⟩
theorem undo_at {m t y : Nat} (hy : y < (undoS s (m : Nat) (t : Nat)).cs.length) : cellAt (undoS s (m : Nat) (t : Nat)) (y : Nat) = cellAt s (y : Nat) ∨ ∃ u ∈ s.tr, 0 ≤ u.at' ∧ u.at'.toNat = y ∧ cellAt (undoS s (m : Nat) (t : Nat)) (y : Nat) = u.old := by
  have hyt : y < t := by
    have : y < ((undoC s.cs (s.tr.drop m)).take t).length := hy
    rw [List.length_take] at this
    omega
  have e : cellAt (undoS s (m : Nat) (t : Nat)) (y : Nat) = (undoC s.cs (s.tr.drop m)).getD y default := by
    show ((undoC s.cs (s.tr.drop m)).take t).getD y default = _
    simp [List.getD_eq_getElem?_getD, List.getElem?_take, hyt]
  rw [e]
  rcases undo_get s.cs y (s.tr.drop m) with h | ⟨u, hu, h0, h1, h2⟩
  · exact .inl h
  · exact .inr ⟨u, List.mem_of_mem_drop hu, h0, h1, h2⟩
theorem old_t {u : Un} (h : oldR s u = true) : u.old.t ≠ 4 := fun h4 => by
  unfold oldR oldB at h
  rw [Bool.and_eq_true, if_neg (by omega), if_neg (by omega), if_neg (by omega)] at h
  cases h.2
theorem undo_cf (hok : okR validR vcR s r = true) {m t : Nat} (hb : validR (undoS s (m : Nat) (t : Nat)) = true) : Cf (Mk s r) (undoS s (m : Nat) (t : Nat)) ∧ ∀ c, vcR (undoS s (m : Nat) (t : Nat)) c = true → Clo s r c → Gof (Mk s r) (undoS s (m : Nat) (t : Nat)) c := by
  obtain ⟨hv, -, -, -⟩ := okR_parts hok
  have hlen : (undoS s (m : Nat) (t : Nat)).cs.length ≤ s.cs.length := by
    show ((undoC s.cs (s.tr.drop m)).take t).length ≤ _
    rw [List.length_take, undoC_len]
    omega
  -- a functor is where it was
  have hfun : ∀ y : Nat, y < (undoS s (m : Nat) (t : Nat)).cs.length → (cellAt (undoS s (m : Nat) (t : Nat)) (y : Nat)).t = 4 → cellAt (undoS s (m : Nat) (t : Nat)) (y : Nat) = cellAt s (y : Nat) := fun y hy h4 => by
    rcases undo_at hy with h | ⟨u, hu, h0, h1, h2⟩
    · exact h
    · rw [h2] at h4
      exact absurd h4 (old_t (vr_old hv hu))
  have hys : (undoS s (m : Nat) (t : Nat)).ys = s.ys := rfl
  have key : ∀ c, vcR (undoS s (m : Nat) (t : Nat)) c = true → Clo s r c → Clf (Mk s r) (undoS s (m : Nat) (t : Nat)) c := fun c hc hcl => by
    intro x hx
    refine hcl x ?_
    obtain ⟨j, hj, rfl⟩ := tg_mem.1 hx
    refine tg_mem.2 ⟨j, ?_, rfl⟩
    have : cntS s c = cntS (undoS s (m : Nat) (t : Nat)) c := by
      unfold cntS
      by_cases h3 : c.t = 3
      · have h4 := vc_str hc h3
        have hi := tag_in' (by decide) h4
        have hi' := inS_iff.1 hi
        rw [tagS_in hi] at h4
        have hcn : ((c.n.toNat : Nat) : Int) = c.n := by omega
        have := hfun c.n.toNat (by omega) (by rw [hcn]; exact h4)
        rw [hcn] at this
        rw [if_neg (by omega), if_pos h3, if_neg (by omega), if_pos h3, this, hys]
      · by_cases h0 : c.t = 0
        · rw [if_pos h0, if_pos h0]
        · rw [if_neg h0, if_neg h3, if_neg h0, if_neg h3]
    omega
  refine ⟨⟨hb, fun y hy hf => ?_, fun u hu hf => ?_, fun w hw => ?_, fun x hx hf h4 j hj => ?_⟩, fun c h1 h2 => ⟨h1, key c h1 h2⟩⟩
  · by_cases h4 : (cellAt (undoS s (m : Nat) (t : Nat)) (y : Nat)).t = 4
    · intro x hx
      obtain ⟨j, hj, -⟩ := tg_mem.1 hx
      unfold cntS at hj
      rw [if_neg (by omega), if_neg (by omega), if_neg (by omega)] at hj
      omega
    · refine key _ (vr_vc hb (inS_iff.2 ⟨by omega, by omega⟩) h4) ?_
      rcases undo_at hy with h | ⟨u, hu, h0, h1, h2⟩
      · rw [h]
        exact cl_cell hf
      · rw [h2]
        exact cl_old hu h0 (by rw [h1]; exact hf)
  · have hu' : u ∈ s.tr := List.mem_of_mem_take hu
    have hold := vr_old hb hu
    have h0 : 0 ≤ u.at' := (inS_iff.1 (gce_old hb hold).1).1
    have hcl := cl_old hu' h0 hf
    by_cases ht : u.old.t = 1 ∨ u.old.t = 2 ∨ u.old.t = 3
    · exact key _ (old_vc hold ht) hcl
    · intro x hx
      refine hcl x ?_
      obtain ⟨j, hj, rfl⟩ := tg_mem.1 hx
      refine tg_mem.2 ⟨j, ?_, rfl⟩
      unfold cntS at hj ⊢
      rw [if_neg (show ¬ u.old.t = 3 by omega)] at hj ⊢
      exact hj
  · have hwk := vr_wk hb hw
    simp only [wkB, Bool.and_eq_true] at hwk
    have hw' : w ∈ s.wk := hw
    have m1 : w.att ∈ rootsC s r := List.mem_append_right _ (List.mem_flatMap.2 ⟨w, hw', by simp⟩)
    have m2 : w.val ∈ rootsC s r := List.mem_append_right _ (List.mem_flatMap.2 ⟨w, hw', by simp⟩)
    exact ⟨key _ hwk.2.2.1 (cl_root m1), key _ hwk.2.2.2 (cl_root m2)⟩
  · have hin : inS (undoS s (m : Nat) (t : Nat)) (x : Nat) = true := inS_iff.2 ⟨by omega, by omega⟩
    rw [tagS_in hin] at h4
    have e := hfun x hx h4
    rw [e] at h4 hj
    exact fun_all hok (Mk_iff.1 hf) (by rw [tagS_in (inS_iff.2 ⟨by omega, by omega⟩)]; exact h4) j hj
end
end Go.Proofs.Ytmebmpgffhajbaa


namespace Go.Proofs.Ytmebmpgffhajbaa
open Go.RowKit
set_option linter.unusedVariables false
set_option linter.unusedSimpArgs false

theorem undo_ok {s : So} {m t : Nat} (hm : m ≤ s.tr.length) (ht : t ≤ s.cs.length) : gUndo [eS s, .i (m : Nat), .i (t : Nat)] = some [.i 0, eS (undoS s (m : Nat) (t : Nat))] := by
  have : markedB s (m : Nat) (t : Nat) = true := markedB_iff.2 ⟨by omega, by omega, by omega, by omega⟩
  simp only [gUndo, dS_eS, int_i, this, if_true]
theorem valid1_at (s : So) : gSb validP [eS s] = some [.b (validR s)] := by
  simp only [gSb, dS_eS, valid_eq]
theorem vcell_at {s : So} (hv : validR s = true) (c : Ce) : gSCb vcP [eS s, eC c] = some [.b (vcR s c)] := by
  simp only [gSCb, dS_eS, dC_eC, (validR_vs hv).vc]
def selC (b : So) (l : List Ce) : List Ce := l.filter (vcR b)
theorem selC_succ {b : So} {l : List Ce} {k : Nat} (h : k < l.length) : selC b (l.take (k + 1)) = selC b (l.take k) ++ if vcR b (l.getD k default) then [l.getD k default] else [] := by
  unfold selC
  rw [take_snoc h, List.filter_append]
  congr 1
  generalize l.getD k default = c
  cases hc : vcR b c <;> simp [hc]
theorem law_GcBacktracks : FOk q1d fun _ => some [.b true] := fok_law34_GcBacktracks ok_law34_small ok_gc_Valid ok_law34_awake ok_cells_Clone ok_trail_Undo ok_cells_Valid ok_ref34_Clone ok_gc_Collect q1f ok_law34_alike fun ds outs hw hg => by
  obtain ⟨d, r0, rfl, hd, e, r', rfl, he, q, r2, rfl, hq, rfl⟩ := hw
  obtain ⟨s, rfl, hs⟩ := wfS hd
  obtain ⟨r, rfl, hr⟩ := wfR he
  obtain ⟨i, rfl, hi⟩ := wfI hq
  injection hg with hg
  subst hg
  have h1 := clone_at hs
  have h2 := rclone_at r
  have h3 := valid_at validP vcP s r
  rw [okR_eq] at h3
  have h7 := small_at s r
  rw [q22, q00]
  cases hsm : smallB s r with
  | false =>
    rw [hsm] at h7
    simp [q00, go_br, q01, allSay, X.says, X.ev, X.evs, evl, tblS, h7, gYesA, D.tt]
  | true =>
  rw [hsm] at h7
  cases hok : okR validR vcR s r with
  | false =>
    rw [hok] at h3
    simp [q00, go_br, q01, allSay, X.says, X.ev, X.evs, evl, tblS, h3, h7, gYesA, D.tt]
  | true =>
  rw [hok] at h3
  refine ⟨by simp [allSay, X.says, X.ev, X.evs, evl, tblS, h3, h7, D.tt], ?_⟩
  rw [go_br]
  refine ⟨fun hb => by simp [q00, q01, allSay, X.says, X.ev, X.evs, evl, tblS, gYesA, D.tt], fun hb => ?_⟩
  have hin : 0 ≤ i ∧ i < r.ms.length ∧ i < r.tp.length := by
    simp only [q00, go_br, q01, q02, allSay, X.says, X.ev, X.evs, evl, tblS, List.getD_cons_zero, List.getD_cons_succ, List.getElem?_cons_zero, List.getElem?_cons_succ, tt_b, int_i, str_s, rs_r, Option.isSome_some, Option.getD_some, decide_eq_true_eq, decide_eq_false_iff_not, gnE, List.length_map, gnF, gnL, decide_true, decide_false, Bool.or_true, true_and, and_true, h3, h7, eR_1, eR_2] at hb
    simp only [Bool.not_true, Bool.false_or, Bool.or_eq_false_iff, decide_eq_false_iff_not] at hb
    omega
  obtain ⟨n, hn⟩ := Int.eq_ofNat_of_zero_le hin.1
  subst hn
  have hc : GcQ s r := ⟨hok, hsm⟩
  have h9 := col_at hc
  obtain ⟨hval, hvr, htp, hms⟩ := okR_parts hok
  have hm := hms _ (getD_mem (show n < r.ms.length by omega))
  have ht := htp _ (getD_mem (show n < r.tp.length by omega))
  have gm := get_i (show n < r.ms.length by omega)
  have gt := get_i (show n < r.tp.length by omega)
  obtain ⟨m, hm'⟩ := Int.eq_ofNat_of_zero_le hm.1
  obtain ⟨t, ht'⟩ := Int.eq_ofNat_of_zero_le ht.1
  rw [hm'] at hm gm
  rw [ht'] at ht gt
  have hu := undo_ok (s := s) (m := m) (t := t) (by omega) (by omega)
  rw [q00]
  refine ⟨by simp only [q00, go_br, q01, q02, allSay, X.says, X.ev, X.evs, evl, tblS, List.getD_cons_zero, List.getD_cons_succ, List.getElem?_cons_zero, List.getElem?_cons_succ, tt_b, int_i, str_s, rs_r, Option.isSome_some, Option.getD_some, decide_eq_true_eq, decide_eq_false_iff_not, gnE, List.length_map, gnF, gnL, decide_true, decide_false, Bool.or_true, true_and, and_true, h1, eR_1, eR_2, gm, gt, hu, hin.1, hin.2.1, hin.2.2], ?_⟩
  repeat' (rw [q00]; refine ⟨by simp only [q00, go_br, q01, q02, allSay, X.says, X.ev, X.evs, evl, tblS, List.getD_cons_zero, List.getD_cons_succ, List.getElem?_cons_zero, List.getElem?_cons_succ, tt_b, int_i, str_s, rs_r, Option.isSome_some, Option.getD_some, decide_eq_true_eq, decide_eq_false_iff_not, gnE, List.length_map, gnF, gnL, decide_true, decide_false, Bool.or_true, true_and, and_true, h1, eR_1, eR_2, gm, gt, hu, hin.1, hin.2.1, hin.2.2], ?_⟩)
  rw [go_br]
  refine ⟨fun hb => absurd hb (by simp [X.ev, X.evs, evl, tblS, h1, eR_1, eR_2, int_i, gm, gt, hu, D.tt]), fun _ => ?_⟩
  have hv1 := valid1_at (undoS s (m : Nat) (t : Nat))
  rw [q00]
  refine ⟨by simp only [q00, go_br, q01, q02, allSay, X.says, X.ev, X.evs, evl, tblS, List.getD_cons_zero, List.getD_cons_succ, List.getElem?_cons_zero, List.getElem?_cons_succ, tt_b, int_i, str_s, rs_r, Option.isSome_some, Option.getD_some, decide_eq_true_eq, decide_eq_false_iff_not, gnE, List.length_map, gnF, gnL, decide_true, decide_false, Bool.or_true, true_and, and_true, h1, eR_1, eR_2, gm, gt, hu, hv1], ?_⟩
  rw [go_br]
  cases hbv : validR (undoS s (m : Nat) (t : Nat)) with
  | false =>
    rw [hbv] at hv1
    refine ⟨fun _ => by simp [q00, q01, allSay, X.says, X.ev, X.evs, evl, tblS, gYesA, D.tt], fun hb => absurd hb (by simp [X.ev, X.evs, evl, tblS, h1, eR_1, eR_2, int_i, gm, gt, hu, hv1, D.tt])⟩
  | true =>
  rw [hbv] at hv1
  refine ⟨fun hb => absurd hb (by simp [X.ev, X.evs, evl, tblS, h1, eR_1, eR_2, int_i, gm, gt, hu, hv1, D.tt]), fun _ => ?_⟩
  obtain ⟨hcf, hgo⟩ := undo_cf hok hbv
  have hcol := undo_col (s := s) (Mk s r) (m := m) (t := t) (by omega) (by omega) fun u hu => by
    have := (vg_of hok).old u hu
    exact ⟨this.1, this.2.1⟩
  have hvA := valid1_at (colS (Mk s r) (undoS s (m : Nat) (t : Nat)))
  rw [vr_colG hcf] at hvA
  have gmP : (D.r ((colR (Mk s r) s r).ms.map D.i)).get (n : Int) = .i (keptF (Mk s r) s m : Nat) := by
    have := get_i (l := (colR (Mk s r) s r).ms) (k := n) (by show n < (r.ms.map _).length; rw [List.length_map]; omega)
    rw [this]
    show D.i ((r.ms.map fun t => ((keptF (Mk s r) s t.toNat : Nat) : Int)).getD n default) = _
    rw [List.getD_eq_getElem?_getD, List.getElem?_map, List.getElem?_eq_getElem (show n < r.ms.length by omega)]
    have e : r.ms[n]'(by omega) = (m : Int) := by rw [← hm']; simp [List.getD_eq_getElem?_getD, show n < r.ms.length by omega]
    simp [e]
  have gtP : (D.r ((colR (Mk s r) s r).tp.map D.i)).get (n : Int) = .i (bef (Mk s r) t : Nat) := by
    have := get_i (l := (colR (Mk s r) s r).tp) (k := n) (by show n < (r.tp.map _).length; rw [List.length_map]; omega)
    rw [this]
    show D.i ((r.tp.map fun t => ((bef (Mk s r) t.toNat : Nat) : Int)).getD n default) = _
    rw [List.getD_eq_getElem?_getD, List.getElem?_map, List.getElem?_eq_getElem (show n < r.tp.length by omega)]
    have e : r.tp[n]'(by omega) = (t : Int) := by rw [← ht']; simp [List.getD_eq_getElem?_getD, show n < r.tp.length by omega]
    simp [e]
  have hkl : keptF (Mk s r) s m ≤ (colS (Mk s r) s).tr.length := by
    show _ ≤ (trailF (Mk s r) s s.tr.length).length
    rw [trailF_len]
    exact kept_mono _ _ (by omega)
  have htl : bef (Mk s r) t ≤ (colS (Mk s r) s).cs.length := by
    show _ ≤ (heapF (Mk s r) s s.cs.length).length
    rw [heapF_len]
    exact bef_mono _ (by omega)
  have huA := undo_ok (s := colS (Mk s r) s) hkl htl
  rw [hcol] at huA
  have l0 : (colR (Mk s r) s r).cs.length = r.cs.length := List.length_map ..
  have l1 : (colR (Mk s r) s r).tp.length = r.tp.length := List.length_map ..
  have l2 : (colR (Mk s r) s r).ms.length = r.ms.length := List.length_map ..
  have hcP : ∀ k, k < r.cs.length → (D.r ((colR (Mk s r) s r).cs.map eC)).get (k : Int) = eC (mvC (Mk s r) (r.cs.getD k default)) := fun k hk => by
    have := get_n eC (l := (colR (Mk s r) s r).cs) (i := k) (by omega)
    rw [this]
    show eC ((r.cs.map (mvC (Mk s r))).getD k default) = _
    simp [List.getD_eq_getElem?_getD, hk]
  have halk : alkB (undoS s (m : Nat) (t : Nat)) (colS (Mk s r) (undoS s (m : Nat) (t : Nat))) (selC (undoS s (m : Nat) (t : Nat)) r.cs) ((selC (undoS s (m : Nat) (t : Nat)) r.cs).map (mvC (Mk s r))) = true := alk_colG hcf fun c hc => by
    obtain ⟨h1, h2⟩ := List.mem_filter.1 hc
    exact hgo c h2 (cl_root (List.mem_append_left _ h1))
  have hvA2 := vr_colG hcf
  have hvc : ∀ c, gSCb vcP [eS (undoS s (m : Nat) (t : Nat)), eC c] = some [.b (vcR (undoS s (m : Nat) (t : Nat)) c)] := vcell_at hbv
  obtain ⟨z1, z2, z3, z4, z5, z6, z7⟩ := small_parts hsm
  have hak := alk_at (l := selC (undoS s (m : Nat) (t : Nat)) r.cs) (m := (selC (undoS s (m : Nat) (t : Nat)) r.cs).map (mvC (Mk s r))) hbv hvA2
  rw [halk] at hak
  have e0 := eR_0 (colR (Mk s r) s r)
  have e1 := eR_1 (colR (Mk s r) s r)
  have e2 := eR_2 (colR (Mk s r) s r)
  generalize hf : Mk s r = f at *
  generalize colS f (undoS s (m : Nat) (t : Nat)) = A2 at *
  generalize colR f s r = P at *
  generalize colS f s = A at *
  generalize undoS s (m : Nat) (t : Nat) = b at *
  rw [q00]
  refine ⟨by simp only [q00, go_br, q01, q02, allSay, X.says, X.ev, X.evs, evl, tblS, List.getD_cons_zero, List.getD_cons_succ, List.getElem?_cons_zero, List.getElem?_cons_succ, tt_b, int_i, str_s, rs_r, Option.isSome_some, Option.getD_some, decide_eq_true_eq, decide_eq_false_iff_not, gnE, List.length_map, gnF, gnL, decide_true, decide_false, Bool.or_true, true_and, and_true, h1, h2, h9], ?_⟩
  rw [q00]
  refine ⟨by simp only [q00, go_br, q01, q02, allSay, X.says, X.ev, X.evs, evl, tblS, List.getD_cons_zero, List.getD_cons_succ, List.getElem?_cons_zero, List.getElem?_cons_succ, tt_b, int_i, str_s, rs_r, Option.isSome_some, Option.getD_some, decide_eq_true_eq, decide_eq_false_iff_not, gnE, List.length_map, gnF, gnL, decide_true, decide_false, Bool.or_true, true_and, and_true, h1, h2, h9], ?_⟩
  rw [go_br]
  refine ⟨fun hb => absurd hb (by simp [X.ev, X.evs, evl, tblS, h1, h2, h9, D.tt, e0, e1, e2, eR_0, eR_1, eR_2, rs_r, int_i, l0, l1, l2]), fun _ => ?_⟩
  have lt1 : (n : Int) < P.tp.length := by omega
  have lt2 : (n : Int) < P.ms.length := by omega
  rw [q00]
  refine ⟨by simp only [q00, go_br, q01, q02, allSay, X.says, X.ev, X.evs, evl, tblS, List.getD_cons_zero, List.getD_cons_succ, List.getElem?_cons_zero, List.getElem?_cons_succ, tt_b, int_i, str_s, rs_r, Option.isSome_some, Option.getD_some, decide_eq_true_eq, decide_eq_false_iff_not, gnE, List.length_map, gnF, gnL, decide_true, decide_false, Bool.or_true, true_and, and_true, h1, h2, h9, e0, e1, e2, gmP, gtP, huA, hvA, lt1, lt2, hin.1], ?_⟩
  rw [go_br]
  refine ⟨fun hb => absurd hb (by simp [X.ev, X.evs, evl, tblS, h1, h2, h9, D.tt, e0, e1, e2, rs_r, int_i, gmP, gtP, huA, hvA]), fun _ => ?_⟩
  rw [q17]
  refine ⟨fun st => ∃ k : Nat, k ≤ r.cs.length ∧ st = [.r ((selC b (r.cs.take k)).map eC), .r (((selC b (r.cs.take k)).map (mvC f)).map eC), .i k], fun st => r.cs.length - (st.getD 2 .u).int.toNat, ⟨0, Nat.zero_le _, by simp [X.evs, X.ev, selC]⟩, ?_⟩
  rintro st - ⟨k, hk, rfl⟩
  rw [go_br]
  refine ⟨fun hlt => ?_, fun hlt => ?_⟩
  · have hkl : k < r.cs.length := by
      simp only [q00, go_br, q01, q02, allSay, X.says, X.ev, X.evs, evl, tblS, List.getD_cons_zero, List.getD_cons_succ, List.getElem?_cons_zero, List.getElem?_cons_succ, tt_b, int_i, str_s, rs_r, Option.isSome_some, Option.getD_some, decide_eq_true_eq, decide_eq_false_iff_not, gnE, List.length_map, gnF, gnL, decide_true, decide_false, Bool.or_true, true_and, and_true, eR_0] at hlt
      omega
    have gk := get_n eC (l := r.cs) (i := k) hkl
    have gP := hcP k hkl
    have hb := hvc (r.cs.getD k default)
    have hsl : (selC b (r.cs.take k)).length ≤ 50 := by
      refine Nat.le_trans (List.length_filter_le _ _) ?_
      rw [List.length_take]
      omega
    have hs1 := selC_succ (b := b) hkl
    have hki : (0 : Int) ≤ k ∧ (k : Int) < r.cs.length ∧ (k : Int) < P.cs.length := ⟨by omega, by omega, by omega⟩
    rw [q00]
    refine ⟨by simp only [q00, go_br, q01, q02, allSay, X.says, X.ev, X.evs, evl, tblS, List.getD_cons_zero, List.getD_cons_succ, List.getElem?_cons_zero, List.getElem?_cons_succ, tt_b, int_i, str_s, rs_r, Option.isSome_some, Option.getD_some, decide_eq_true_eq, decide_eq_false_iff_not, gnE, List.length_map, gnF, gnL, decide_true, decide_false, Bool.or_true, true_and, and_true, h1, eR_0, eR_1, eR_2, gm, gt, hu, gk, hb, hki.1, hki.2.1], ?_⟩
    rw [go_br]
    cases hcc : vcR b (r.cs.getD k default) with
    | true =>
      rw [hcc] at hb hs1
      rw [if_pos rfl] at hs1
      refine ⟨fun _ => ?_, fun hx => absurd hx (by simp only [q00, go_br, q01, q02, allSay, X.says, X.ev, X.evs, evl, tblS, List.getD_cons_zero, List.getD_cons_succ, List.getElem?_cons_zero, List.getElem?_cons_succ, tt_b, int_i, str_s, rs_r, Option.isSome_some, Option.getD_some, decide_eq_true_eq, decide_eq_false_iff_not, gnE, List.length_map, gnF, gnL, decide_true, decide_false, Bool.or_true, true_and, and_true, h1, eR_0, eR_1, eR_2, gm, gt, hu, gk, hb]; decide)⟩
      have a1 : (selC b (r.cs.take k)).map eC ++ [eC (r.cs.getD k default)] = (selC b (r.cs.take (k + 1))).map eC := by rw [hs1]; simp
      have a2 : ((selC b (r.cs.take k)).map (mvC f)).map eC ++ [eC (mvC f (r.cs.getD k default))] = ((selC b (r.cs.take (k + 1))).map (mvC f)).map eC := by rw [hs1]; simp
      simp only [q00, go_br, q01, q02, allSay, X.says, X.ev, X.evs, evl, tblS, List.getD_cons_zero, List.getD_cons_succ, List.getElem?_cons_zero, List.getElem?_cons_succ, tt_b, int_i, str_s, rs_r, Option.isSome_some, Option.getD_some, decide_eq_true_eq, decide_eq_false_iff_not, gnE, List.length_map, gnF, gnL, decide_true, decide_false, Bool.or_true, true_and, and_true, h1, h2, h9, e0, eR_0, gk, gP, a1, a2]
      refine ⟨⟨by omega, by omega, by omega⟩, ⟨by omega, by omega, by omega⟩, ⟨by omega, by omega⟩, ?_⟩
      rw [updB, if_pos rfl]
      exact ⟨⟨k + 1, hkl, by simp⟩, by simp [D.int]; omega⟩
    | false =>
      rw [hcc] at hb hs1
      rw [if_neg (by decide), List.append_nil] at hs1
      refine ⟨fun hx => absurd hx (by simp only [q00, go_br, q01, q02, allSay, X.says, X.ev, X.evs, evl, tblS, List.getD_cons_zero, List.getD_cons_succ, List.getElem?_cons_zero, List.getElem?_cons_succ, tt_b, int_i, str_s, rs_r, Option.isSome_some, Option.getD_some, decide_eq_true_eq, decide_eq_false_iff_not, gnE, List.length_map, gnF, gnL, decide_true, decide_false, Bool.or_true, true_and, and_true, h1, eR_0, eR_1, eR_2, gm, gt, hu, gk, hb]; decide), fun _ => ?_⟩
      simp only [q00, go_br, q01, q02, allSay, X.says, X.ev, X.evs, evl, tblS, List.getD_cons_zero, List.getD_cons_succ, List.getElem?_cons_zero, List.getElem?_cons_succ, tt_b, int_i, str_s, rs_r, Option.isSome_some, Option.getD_some, decide_eq_true_eq, decide_eq_false_iff_not, gnE, List.length_map, gnF, gnL, decide_true, decide_false, Bool.or_true, true_and, and_true]
      refine ⟨⟨by omega, by omega⟩, ?_⟩
      rw [updB, if_pos rfl]
      exact ⟨⟨k + 1, hkl, by rw [hs1]; simp⟩, by simp [D.int]; omega⟩
  · have hkl : k = r.cs.length := by
      simp only [q00, go_br, q01, q02, allSay, X.says, X.ev, X.evs, evl, tblS, List.getD_cons_zero, List.getD_cons_succ, List.getElem?_cons_zero, List.getElem?_cons_succ, tt_b, int_i, str_s, rs_r, Option.isSome_some, Option.getD_some, decide_eq_true_eq, decide_eq_false_iff_not, gnE, List.length_map, gnF, gnL, decide_true, decide_false, Bool.or_true, true_and, and_true, eR_0] at hlt
      omega
    subst hkl
    rw [List.take_length]
    simp only [q00, go_br, q01, q02, allSay, X.says, X.ev, X.evs, evl, tblS, List.getD_cons_zero, List.getD_cons_succ, List.getElem?_cons_zero, List.getElem?_cons_succ, tt_b, int_i, str_s, rs_r, Option.isSome_some, Option.getD_some, decide_eq_true_eq, decide_eq_false_iff_not, gnE, List.length_map, gnF, gnL, decide_true, decide_false, Bool.or_true, true_and, and_true, h1, h2, h9, eR_1, eR_2, e1, e2, gm, gt, gmP, gtP, hu, huA, hak, gYesA, Bool.and_self]
end Go.Proofs.Ytmebmpgffhajbaa


namespace Go.Proofs.Ytmebmpgffhajbaa
open Go.ChangeShapes Go.WideShapes Go.ChangeAt Go.RowKit
set_option linter.unusedVariables false
set_option maxRecDepth 100000

theorem own_knobD : ownKnob Try.prog.godebug = none := by kernel_rfl
theorem laid_outD : laidOutB Try.prog = true := by kernel_rfl

section
variable {H : Type} {enc : TypeId × Value → H} {W : World} {base : Nat} {spare : Nat → Bool} {held : Bool}

def LightD (t : TypeId) (d : DataW H) : Prop := ∀ n ∈ d.weights Try.prog t, n ≤ reachBytes

theorem weightsAll_memD {e : TypeId} : ∀ {l : List (DataW H)} {d : DataW H}, d ∈ l → ∀ n ∈ d.weights Try.prog e, n ∈ DataW.weightsAll Try.prog e l
  | [], _, h, _, _ => by cases h
  | x :: l, d, h, n, hn => by
    simp only [DataW.weightsAll, List.mem_append]
    rcases List.mem_cons.1 h with rfl | h
    · exact .inl hn
    · exact .inr (weightsAll_memD h n hn)

theorem LightD.each {ts : List TypeId} {l : List (DataW H)} {k : Nat} {t : TypeId} {d : DataW H} (h : ∀ n ∈ DataW.weightsEach Try.prog ts l, n ≤ reachBytes) (ht : ts[k]? = some t) (hd : l[k]? = some d) : LightD t d := fun n hn =>
  h n (DataW.weights_mem_each ht hd n hn)

theorem reach_eqD : reachBytes = LIM := rfl

theorem cells_w {T : TypeId} {t : Ty} (h : tyOf T = some t) : Try.prog.cellsOf T = t.w := by
  obtain ⟨i, hi, h1, -⟩ := row_info h
  simp [Program.cellsOf, hi, h1]

theorem rng_wf {k : IntKind} {t : TypeId} (ht : tyOf t = some (.int k)) {n : Int} (h : (Lit.int k n).wf = true) : rngB k n = true := by
  have h0 := (row_int ht).2.1
  cases k <;> first | (simp [rngB] at h0; done) | (simp [Lit.wf, IntKind.min, IntKind.max, IntKind.signed, IntKind.bits] at h; simp [rngB]; omega)

theorem spot_noneD {a : Addr} {v : Value} (h : W.cell? a = some v) : a.spot = none := by
  unfold World.cell? at h
  split at h
  · split at h
    · cases h
    · rename_i hs; simpa using hs
  · cases h

theorem rdF_of {F : Nat → Prop} {cs : List Value} : ∀ {fl : List Field} {fs : List Ty} {o : Nat}, fieldsB fl fs o = true → (∀ (j : Nat) (f : Field) (t : Ty), fl[j]? = some f → fs[j]? = some t → ∃ y, Rd W F y t ((cs.drop f.offset).take t.w)) → cs.length = o + widths fs → ∃ ds, RdF W F ds fs (cs.drop o)
  | [], [], o, _, _, hl => by
    simp [widths] at hl
    exact ⟨[], rfl, by rw [List.drop_eq_nil_iff]; omega⟩
  | f :: l, t :: ts, o, hb, hf, hl => by
    simp only [fieldsB, Bool.and_eq_true] at hb
    obtain ⟨⟨⟨h1, -⟩, -⟩, h3⟩ := hb
    have ho := Nat.eq_of_beq_eq_true h1
    rw [widths_cons] at hl
    obtain ⟨ds, hds⟩ := rdF_of h3 (fun j f' t' hj ht => hf (j + 1) f' t' (by simpa using hj) (by simpa using ht)) (by omega)
    obtain ⟨y, hy⟩ := hf 0 f t rfl rfl
    refine ⟨y :: ds, t, ts, (cs.drop o).take t.w, cs.drop (o + t.w), rfl, ?_, by rw [← ho]; exact hy, hds⟩
    rw [← List.drop_drop, List.take_append_drop]
  | [], _ :: _, o, hb, _, _ => by cases hb
  | _ :: _, [], o, hb, _, _ => by cases hb

theorem open_recD : ∀ (fuel : Nat) {T : TypeId} {t : Ty} (cs : List Value) (x : DataW H × List MemPlace), tyOf T = some t → isMp t = false → DataW.trod enc Try.prog W base spare held fuel T cs = some x → LightD T x.1 → ∃ y, Rd W (fun _ => True) y t cs := by
  intro fuel
  induction fuel with
  | zero => intro T t cs x _ _ h; simp [DataW.trod] at h
  | succ fuel ih =>
    intro T t cs x hT hM h hL
    cases t with
    | map K V => cases hM
    | int k =>
      obtain ⟨n, rfl, -, hw⟩ := DataW.trod_int (row_int hT).1 h
      exact ⟨.i n, k, rfl, rfl, rng_wf hT hw⟩
    | bool =>
      obtain ⟨b, rfl, -⟩ := DataW.trod_bool (row_bool hT).1 h
      exact ⟨.b b, rfl, rfl⟩
    | str =>
      obtain ⟨s, rfl, rfl, -⟩ := DataW.trod_string (row_str hT).1 h
      have := hL s.data.toList.length (by simp [DataW.weights])
      exact ⟨.s s, rfl, rfl, by rw [reach_eqD] at this; simpa using this⟩
    | st S =>
      obtain ⟨fields, fs, zc, i, hu, hfs, hfb, hi, hsz, -, -, -, -⟩ := row_st hT
      obtain ⟨xs, n, hn, hx, hlen, hxl, hf⟩ := DataW.trod_struct hu h
      obtain rfl : fuel = n := by omega
      have hw : ∀ n ∈ DataW.weightsEach Try.prog (fields.toList.map (·.type)) (xs.map (·.1)), n ≤ reachBytes := fun n hn => hL n (by rw [hx]; simp only [DataW.weights, hu]; exact hn)
      have hcl : cs.length = 0 + widths fs := by rw [hlen, cells_w hT, (fld_okD hfs).1]; omega
      obtain ⟨ds, hds⟩ := rdF_of (W := W) (F := fun _ => True) hfb (fun j f t hj ht => by
        obtain ⟨f', hf', ho, hty, -⟩ := fieldsB_get hfb ht
        obtain rfl := Option.some.inj (hj.symm.trans hf')
        have h5 := hf j f (by rw [← Array.getElem?_toList]; exact hj)
        have hjl : j < fields.toList.length := (List.getElem?_eq_some_iff.1 hj).1
        have hjx : j < xs.length := by rw [hxl]; simpa using hjl
        rw [cells_w hty, List.getElem?_eq_getElem hjx] at h5
        refine ih _ _ hty (fld_noM hfs (List.mem_of_getElem? ht)) h5 (LightD.each (k := j) hw ?_ ?_)
        · rw [List.getElem?_map, hj]; rfl
        · rw [List.getElem?_map, List.getElem?_eq_getElem hjx]; rfl) hcl
      exact ⟨.a ds, S, fs, rfl, hfs, by simpa using hds⟩
    | row E =>
      obtain ⟨hu, ⟨te, hte⟩, -⟩ := row_row hT
      rcases DataW.trod_slice hu h with ⟨rfl, hx⟩ | ⟨a, len, cap, elems, rest, n, hn, rfl, hx, hb, hl, hm, hlen, hel, -⟩
      · exact ⟨.r [], E, te, none, 0, rfl, hte, rfl, by simp, by simp, by simp [maxLen], by simp [RdE]⟩
      · obtain rfl : fuel = n := by omega
        have hwd := tyOf_pos hte
        rw [cells_w hte] at hel
        have hw := hL
        rw [hx] at hw
        simp only [LightD, DataW.weights, hu, List.mem_cons, List.mem_append] at hw
        have hlen2 : len ≤ LM te := by
          have := hw _ (.inl rfl)
          rw [reach_eqD] at this
          have hbe : Try.prog.bytesOf E = te.by := by
            obtain ⟨i, hi, -⟩ := row_info hte
            simp [Program.bytesOf, hi, row_bytes hte hi]
          refine (Nat.le_div_iff_mul_le (by_pos hte).1).2 ?_
          simp [hbe] at this
          have h2 : len * te.by ≤ (elems.length + rest.length) * te.by := Nat.mul_le_mul_right _ (by omega)
          exact Nat.le_trans h2 this
        have spot : 0 < len → a.spot = none := fun h0 => by
          have h2 := hel 0 h0
          rw [List.getElem?_eq_getElem (by omega)] at h2
          cases hc0 : W.cells? base (a.add (0 * te.w)) te.w with
          | none => rw [hc0] at h2; cases h2
          | some cs0 =>
            obtain ⟨_, hcl0, hat0⟩ := World.cells?_some hc0
            have hp : 0 < cs0.length := by omega
            have := hat0 0 (by omega)
            rw [List.getElem?_eq_getElem hp] at this
            exact spot_noneD (a := a) (v := cs0[0]) (by simpa [Addr.add] using this)
        have each : ∀ i, i < len → ∃ y, RdEl W (fun _ => True) y te (some a) i := fun i hi => by
          have h1 := hel i hi
          rw [List.getElem?_eq_getElem (by omega)] at h1
          cases hc : W.cells? base (a.add (i * te.w)) te.w with
          | none => rw [hc] at h1; cases h1
          | some cs' =>
            rw [hc] at h1
            obtain ⟨_, hcl, hat⟩ := World.cells?_some hc
            obtain ⟨y, hy⟩ := ih cs' _ hte (row_noM hT hte) h1 (fun n hn => hw n (.inr (.inl (weightsAll_memD (List.mem_map.2 ⟨_, List.getElem_mem (by omega), rfl⟩) n hn))))
            have hsp := spot (by omega)
            obtain ⟨b, o, sp⟩ := a
            obtain rfl : sp = none := hsp
            have add : ∀ k, (Addr.add ⟨b, o, none⟩ (i * te.w)).add k = ⟨b, o + i * te.w + k, none⟩ := fun k => by
              unfold Addr.add
              split <;> split <;> simp <;> omega
            refine ⟨y, b, o, cs', rfl, trivial, fun j v hj => ?_, hy⟩
            have hj' := (List.getElem?_eq_some_iff.1 hj).1
            have := hat j (by omega)
            rw [add, hj] at this
            exact this
        have pick : ∀ n, n ≤ len → ∃ l : List D, l.length = n ∧ ∀ i (h : i < l.length), RdEl W (fun _ => True) l[i] te (some a) i := by
          intro n
          induction n with
          | zero => exact fun _ => ⟨[], rfl, fun i hi => by simp at hi⟩
          | succ n ihn =>
            intro hn
            obtain ⟨l, hl1, hl2⟩ := ihn (by omega)
            obtain ⟨t, ht⟩ := each n (by omega)
            refine ⟨l ++ [t], by simp [hl1], fun i hi => ?_⟩
            by_cases hin : i < l.length
            · rw [List.getElem_append_left hin]; exact hl2 i hin
            · obtain rfl : i = l.length := by simp at hi; omega
              rw [List.getElem_append_right (by omega)]
              simp [hl1]
              exact ht
        obtain ⟨l, hl1, hl2⟩ := pick len (Nat.le_refl _)
        exact ⟨.r l, E, te, some a, cap, rfl, hte, by rw [hl1], by omega, by omega, hm, rdE_iff.2 fun j hj => by rw [Nat.zero_add]; exact hl2 j hj⟩

theorem open_D {T : TypeId} {t : Ty} (hT : tyOf T = some t) (hM : isMp t = false) {v : Value} {d : DataW H} {p : List MemPlace} {b0 : Nat} {r : Reach} (hv : Value.okWide Try.prog W r b0 T v) (h : DataW.Trod enc Try.prog W base spare held T v d p) (hL : LightD T d) :
    ∃ x cs, Pack t cs v ∧ Rd W (fun b => b < W.heap.size) x t cs := by
  obtain ⟨fuel, hf⟩ := h
  obtain ⟨y, hy⟩ := open_recD fuel _ _ hT hM hf hL
  refine ⟨y, v.cells.toList, ?_, Rd.keeps (fun b o _ ho => ⟨ho, lt_of_heap ho⟩) _ hy⟩
  cases t with
  | int k => obtain ⟨n, rfl⟩ := okWide_int (row_int hT).1 hv; rfl
  | bool => obtain ⟨n, rfl⟩ := okWide_bool (row_bool hT).1 hv; rfl
  | str => obtain ⟨n, rfl⟩ := okWide_string (row_str hT).1 hv; rfl
  | map K V => cases hM
  | row E => obtain ⟨A, l, c, rfl⟩ := okWide_slice (row_row hT).1 hv; rfl
  | st S =>
    obtain ⟨fields, fs, zc, i, hu, -⟩ := row_st hT
    obtain ⟨cs, rfl, -⟩ := okWide_struct hu hv
    simp [Pack, Value.cells]
end

def ArgsV (W : World) : List Ar → List Value → List D → Prop
  | [], vs, ds => vs = [] ∧ ds = []
  | .val t :: l, vs, ds => ∃ v r d ds', vs = v :: r ∧ ds = d :: ds' ∧ (∃ cs, Pack t cs v ∧ Rd W (FFD (fun _ => True) (fun _ => none) []) d t cs) ∧ ArgsV W l r ds'
  | _ :: _, _, _ => False
theorem ArgsV.ok {W : World} {V : List Value} : ∀ {i : Nat} {ar : List Ar} {vs : List Value} {ds : List D}, ArgsV W ar vs ds → ArgsOk V (fun _ => True) (fun _ => none) W (idx i ar) vs ds ∧ vs.length = ar.length
  | _, [], vs, ds, h => ⟨h, by rw [h.1]; rfl⟩
  | i, .val t :: l, vs, ds, ⟨v, r, d, ds', e1, e2, h1, h⟩ => by
    obtain ⟨h2, h3⟩ := ArgsV.ok (V := V) (i := i + 1) h
    exact ⟨⟨v, r, d, ds', e1, e2, h1, h2⟩, by rw [e1]; simp [h3]⟩
  | _, .ref _ :: _, _, _, h => h.elim
  | _, .rref _ :: _, _, _, h => h.elim
  | _, .own _ :: _, _, _, h => h.elim
  | _, .mref _ :: _, _, _, h => h.elim
  | _, .nils :: _, _, _, h => h.elim
  | _, .nilp :: _, _, _, h => h.elim
  | _, .fn _ _ :: _, _, _, h => h.elim
  | _, .cell _ _ :: _, _, _, h => h.elim
theorem law_calls {ct : Ct} {g : List D → Option (List D)} (h : FOk ct g) (hrs : ct.rs = [(.bool, false)]) (hvr : ct.vr = []) {W : World} {vs : List Value} {ds : List D} (ha : ArgsV W ct.ar vs ds) (hg : g ds = some [.b true]) :
    Calls Try.prog ct.f vs.toArray W fun e W' => e = .returned (.bool true) ∧ But Nil W W' := by
  obtain ⟨h1, h2⟩ := ArgsV.ok (V := vs ++ []) (i := 0) ha
  refine (h.call (fun _ => True) (fun _ => none) W vs [] ds _ hg (by constructor <;> simp) h2 (by simpa [Ct.all, hvr, idx] using h1)).mono ?_
  rintro e W' (⟨T, -, ho, -⟩ | ⟨rs, p', rfl, hb, hr, -⟩)
  · cases ho
  rw [hrs] at hr
  obtain ⟨v, r, d, ds', rfl, hd, ⟨cs, hp, hc⟩, rfl⟩ := hr
  simp at hd
  obtain ⟨rfl, rfl⟩ := hd
  obtain ⟨e1, e2⟩ : D.b true = .b true ∧ cs = [.bool true] := ⟨rfl, by
    have hc' : Rd W' (FFD (fun _ => True) p' []) (.b true) .bool cs := hc
    exact hc'.2⟩
  subst e2
  have hpv : [Value.bool true] = [v] := hp
  injection hpv with hpv
  subst hpv
  exact ⟨rfl, hb.but.mono fun i hi _ => by obtain ⟨x, hx⟩ := hi; cases hx⟩
end Go.Proofs.Ytmebmpgffhajbaa

