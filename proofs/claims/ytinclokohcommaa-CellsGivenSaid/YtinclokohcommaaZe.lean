/-
  Lemmas of the walk and plain laws, put together. No condition.
-/
import Derived.Deep.RegionLaw
import Derived.Lib.AppendZerosOnto
import Derived.Shelf.Spec.SlicesInsert
import Derived.StillTailTactics
import Derived.TacticsInMore
import Derived.Test.YtinclokohcommaaZd
namespace Go.Proofs.Ytinclokohcommaa
open Go.RowKit
set_option linter.unusedVariables false
set_option maxRecDepth 100000

def q0u : Ct := ⟨80, [.val (.row 72)], [(.bool, false)], [], none⟩
theorem q5s (args : Array Value) (w : World) : (callFunc q0u.f args).run Try.prog w = .ok (.enter q0u.f args) w := by kernel_rfl
def q4j : Ann := ⟨[0, 2, 3, 5, 8, 12, 13, 14, 15, 36], [(5, ⟨[(2, .bool, false), (14, .int .i64, false), (3, .map 72 4, false)], [], [15, 16, 17, 5, 18, 19, 20, 21, 22, 23, 24, 25, 26, 27, 28, 29, 30, 31, 32, 33, 34, 35, 36, 37, 38, 39, 11], []⟩)]⟩
def q2v : Tree := (.br (.lt (.lit (.i 1048576)) (.len (.tok 0))) (.leaf [(.lit (.b .false))]) (.loop 5 1 [(.lit (.b .false)), (.lit (.i 0)), (.lit (.mp []))] (.br (.lt (.tok 2) (.len (.tok 0))) (.need [(.le (.lit (.i 0)) (.tok 2)), (.lt (.tok 2) (.len (.tok 0)))] (.br (.or (.or (.or (.lt (.lit (.i 100)) (.slen (.fld (.get (.tok 0) (.tok 2)) 0))) (.lt (.fld (.get (.tok 0) (.tok 2)) 1) (.lit (.i 0)))) (.lt (.lit (.i 8)) (.fld (.get (.tok 0) (.tok 2)) 1))) (.fn 0 [(.tok 3), (.get (.tok 0) (.tok 2)), (.lit (.b .false))])) (.leaf [(.lit (.b .false))]) (.need [(.rng .i64 (.add (.tok 2) (.lit (.i 1))))] (.back 5 [(.tok 1), (.add (.tok 2) (.lit (.i 1))), (.fn 2 [(.tok 3), (.get (.tok 0) (.tok 2)), (.lit (.b .true))])])))) (.leaf [(.lit (.b .true))]))))
set_option maxRecDepth 100000 in
theorem code_cells_validSymbols : ∀ cd, Try.f80.body = some cd → treeOf Try.prog [] q4j q0u Try.f80 cd = q2v := by
  intro cd h
  injection h with h
  subst h
  kernel_rfl
theorem fok_cells_validSymbols {g : List D → Option (List D)}  (h : ∀ ds outs, WfA q0u.ars ds → g ds = some outs → q2v.go (tblS []) (fun o => o = outs) ds fun _ _ => False) : FOk q0u g :=
  q08 q4j Try.f80 _ .nil rfl rfl q5s (by decide) fun ds outs hw hg => by rw [code_cells_validSymbols  _ rfl]; exact h ds outs hw hg

def q1c : Ct := ⟨108, [.val (.st 26), .val (.int .i64)], [(.bool, false)], [], none⟩
theorem enter_cells_group (args : Array Value) (w : World) : (callFunc q1c.f args).run Try.prog w = .ok (.enter q1c.f args) w := by kernel_rfl
def ann_cells_group : Ann := ⟨[0, 1, 2, 4, 5, 6, 11], []⟩
def q4o : Tree := (.need [(.rng .i64 (.add (.tok 1) (.lit (.i 1)))), (.ok 0 [(.tok 0), (.add (.tok 1) (.lit (.i 1)))])] (.br (.not (.eq (.call 0 0 [(.tok 0), (.add (.tok 1) (.lit (.i 1)))]) (.lit (.i 1)))) (.leaf [(.lit (.b .false))]) (.need [(.ok 0 [(.tok 0), (.add (.tok 1) (.lit (.i 2)))]), (.rng .i64 (.add (.tok 1) (.lit (.i 2)))), (.le (.lit (.i 0)) (.add (.tok 1) (.lit (.i 1)))), (.lt (.add (.tok 1) (.lit (.i 1))) (.len (.fld (.tok 0) 0))), (.rng .i64 (.add (.tok 1) (.lit (.i 1))))] (.leaf [(.and (.and (.and (.and (.le (.lit (.i 1)) (.fld (.get (.fld (.tok 0) 0) (.add (.tok 1) (.lit (.i 1)))) 1)) (.le (.fld (.get (.fld (.tok 0) 0) (.add (.tok 1) (.lit (.i 1)))) 1) (.fld (.tok 0) 4))) (.le (.lit (.i 0)) (.call 0 0 [(.tok 0), (.add (.tok 1) (.lit (.i 2)))]))) (.not (.eq (.call 0 0 [(.tok 0), (.add (.tok 1) (.lit (.i 2)))]) (.lit (.i 4))))) (.not (.eq (.call 0 0 [(.tok 0), (.add (.tok 1) (.lit (.i 2)))]) (.lit (.i 5)))))]))))
set_option maxRecDepth 100000 in
theorem code_cells_group (g0 : List D → Option (List D)) : ∀ cd, Try.f108.body = some cd → treeOf Try.prog [(q0d, g0)] ann_cells_group q1c Try.f108 cd = q4o := by
  intro cd h
  injection h with h
  subst h
  kernel_rfl
theorem fok_cells_group {g0 : List D → Option (List D)} {g : List D → Option (List D)} (h0 : FOk q0d g0) (h : ∀ ds outs, WfA q1c.ars ds → g ds = some outs → q4o.go (tblS [(q0d, g0)]) (fun o => o = outs) ds fun _ _ => False) : FOk q1c g :=
  q08 ann_cells_group Try.f108 _ (.cons h0 .nil) rfl rfl enter_cells_group (by decide) fun ds outs hw hg => by rw [code_cells_group g0 _ rfl]; exact h ds outs hw hg

def q1x : Ct := ⟨81, [.val (.st 26), .val (.int .i64)], [(.bool, false)], [], none⟩
theorem enter_cells_fits (args : Array Value) (w : World) : (callFunc q1x.f args).run Try.prog w = .ok (.enter q1x.f args) w := by kernel_rfl
def ann_cells_fits : Ann := ⟨[0, 1, 2, 4, 5, 6, 7, 8, 15, 16, 23, 30, 41, 42], [(8, ⟨[(4, .bool, false), (7, .int .i64, false)], [], [26, 27, 28, 29, 30, 33, 34, 35, 8, 36, 37, 38, 39, 40, 41, 31, 32], []⟩)]⟩
def q4y : Tree := (.need [(.le (.lit (.i 0)) (.tok 1)), (.lt (.tok 1) (.len (.fld (.tok 0) 0)))] (.br (.eq (.fld (.get (.fld (.tok 0) 0) (.tok 1)) 0) (.lit (.i 4))) (.need [(.ok 0 [(.tok 0), (.fld (.get (.fld (.tok 0) 0) (.tok 1)) 1)])] (.br (.lt (.call 0 0 [(.tok 0), (.fld (.get (.fld (.tok 0) 0) (.tok 1)) 1)]) (.lit (.i 1))) (.leaf [(.lit (.b .false))]) (.need [(.rng .i64 (.add (.tok 1) (.lit (.i 1))))] (.loop 8 2 [(.lit (.b .false)), (.add (.tok 1) (.lit (.i 1)))] (.need [(.rng .i64 (.add (.tok 1) (.call 0 0 [(.tok 0), (.fld (.get (.fld (.tok 0) 0) (.tok 1)) 1)])))] (.br (.le (.tok 3) (.add (.tok 1) (.call 0 0 [(.tok 0), (.fld (.get (.fld (.tok 0) 0) (.tok 1)) 1)]))) (.need [(.ok 1 [(.tok 0), (.tok 3)])] (.br (.or (.lt (.call 1 0 [(.tok 0), (.tok 3)]) (.lit (.i 0))) (.eq (.call 1 0 [(.tok 0), (.tok 3)]) (.lit (.i 4)))) (.leaf [(.lit (.b .false))]) (.need [(.rng .i64 (.add (.tok 3) (.lit (.i 1))))] (.back 8 [(.tok 2), (.add (.tok 3) (.lit (.i 1)))])))) (.leaf [(.lit (.b .true))]))))))) (.br (.eq (.fld (.get (.fld (.tok 0) 0) (.tok 1)) 0) (.lit (.i 5))) (.need [(.imp (.eq (.fld (.get (.fld (.tok 0) 0) (.tok 1)) 1) (.tok 1)) (.ok 2 [(.tok 0), (.tok 1)]))] (.leaf [(.and (.eq (.fld (.get (.fld (.tok 0) 0) (.tok 1)) 1) (.tok 1)) (.call 2 0 [(.tok 0), (.tok 1)]))])) (.need [(.ok 3 [(.tok 0), (.get (.fld (.tok 0) 0) (.tok 1))])] (.leaf [(.call 3 0 [(.tok 0), (.get (.fld (.tok 0) 0) (.tok 1))])])))))
set_option maxRecDepth 100000 in
theorem code_cells_fits (g0 g1 g2 g3 : List D → Option (List D)) : ∀ cd, Try.f81.body = some cd → treeOf Try.prog [(q0p, g0), (q0d, g1), (q1c, g2), (q06, g3)] ann_cells_fits q1x Try.f81 cd = q4y := by
  intro cd h
  injection h with h
  subst h
  kernel_rfl
theorem fok_cells_fits {g0 g1 g2 g3 : List D → Option (List D)} {g : List D → Option (List D)} (h0 : FOk q0p g0) (h1 : FOk q0d g1) (h2 : FOk q1c g2) (h3 : FOk q06 g3) (h : ∀ ds outs, WfA q1x.ars ds → g ds = some outs → q4y.go (tblS [(q0p, g0), (q0d, g1), (q1c, g2), (q06, g3)]) (fun o => o = outs) ds fun _ _ => False) : FOk q1x g :=
  q08 ann_cells_fits Try.f81 _ (.cons h0 (.cons h1 (.cons h2 (.cons h3 .nil)))) rfl rfl enter_cells_fits (by decide) fun ds outs hw hg => by rw [code_cells_fits g0 g1 g2 g3 _ rfl]; exact h ds outs hw hg

def q1i : Ct := ⟨82, [.val (.st 26)], [(.bool, false)], [], none⟩
theorem enter_cells_acyclic (args : Array Value) (w : World) : (callFunc q1i.f args).run Try.prog w = .ok (.enter q1i.f args) w := by kernel_rfl
def ann_cells_acyclic : Ann := ⟨[0, 1, 2, 3, 4, 5, 6, 7, 9, 16, 17, 18, 25, 46, 53, 54, 55, 56, 57], [(3, ⟨[(2, .bool, false), (17, .int .i64, false), (3, .row 3, false)], [], [18, 19, 4, 5, 20, 6, 21, 22, 23, 24, 25, 26, 27, 28, 29, 30, 31, 32, 33, 34, 35, 36, 37, 7, 38, 39, 40, 41, 42, 43, 44, 45, 46, 47, 48, 49, 50, 51, 52, 53, 54, 55, 56, 57, 58, 59, 9, 60, 61, 62, 63, 64, 13], []⟩),
  (7, ⟨[(5, .row 3, false), (6, .int .i64, false), (2, .bool, false), (3, .row 3, false)], [], [21, 22, 23, 24, 25, 26, 27, 28, 29, 30, 31, 32, 33, 34, 35, 36, 37, 7, 38, 39, 40, 41, 42, 43, 44, 45, 46, 47, 48, 49, 50, 51, 52, 53, 13, 60], []⟩),
  (16, ⟨[(56, .int .i64, false), (3, .row 3, false)], [], [57, 58, 59, 9, 60, 61, 62, 63, 13, 21, 26, 49], []⟩)]⟩
def q3y : Tree := (.need [(.le (.lit (.i 0)) (.len (.fld (.tok 0) 0))), (.le (.len (.fld (.tok 0) 0)) (.lit (.i 16777216)))] (.loop 3 1 [(.lit (.b .false)), (.lit (.i 0)), (.rep (.len (.fld (.tok 0) 0)) (.lit (.i 0)))] (.br (.lt (.tok 2) (.len (.fld (.tok 0) 0))) (.loop 7 4 [(.lit (.r [])), (.tok 2), (.tok 1), (.tok 3)] (.need [(.le (.lit (.i 0)) (.tok 5)), (.lt (.tok 5) (.len (.tok 7)))] (.br (.eq (.get (.tok 7) (.tok 5)) (.lit (.i 0))) (.need [(.le (.lit (.i 0)) (.tok 5)), (.lt (.tok 5) (.len (.tok 7)))] (.need [(.le (.add (.len (.tok 4)) (.lit (.i 1))) (.lit (.i 17592186043904)))] (.need [(.le (.lit (.i 0)) (.tok 5)), (.lt (.tok 5) (.len (.fld (.tok 0) 0)))] (.br (.or (.not (.eq (.fld (.get (.fld (.tok 0) 0) (.tok 5)) 0) (.lit (.i 0)))) (.eq (.fld (.get (.fld (.tok 0) 0) (.tok 5)) 1) (.tok 5))) (.loop 16 8 [(.lit (.i 0)), (.put (.tok 7) (.tok 5) (.lit (.i 1)))] (.br (.lt (.tok 8) (.len (.app (.tok 4) (.row [(.tok 5)])))) (.need [(.le (.lit (.i 0)) (.tok 8)), (.lt (.tok 8) (.len (.app (.tok 4) (.row [(.tok 5)]))))] (.need [(.le (.lit (.i 0)) (.get (.app (.tok 4) (.row [(.tok 5)])) (.tok 8))), (.lt (.get (.app (.tok 4) (.row [(.tok 5)])) (.tok 8)) (.len (.tok 9)))] (.need [(.rng .i64 (.add (.tok 8) (.lit (.i 1))))] (.back 16 [(.add (.tok 8) (.lit (.i 1))), (.put (.tok 9) (.get (.app (.tok 4) (.row [(.tok 5)])) (.tok 8)) (.lit (.i 2)))])))) (.need [(.rng .i64 (.add (.tok 2) (.lit (.i 1))))] (.back 3 [(.tok 6), (.add (.tok 2) (.lit (.i 1))), (.tok 9)])))) (.need [(.le (.lit (.i 0)) (.fld (.get (.fld (.tok 0) 0) (.tok 5)) 1)), (.lt (.fld (.get (.fld (.tok 0) 0) (.tok 5)) 1) (.len (.put (.tok 7) (.tok 5) (.lit (.i 1)))))] (.br (.eq (.get (.put (.tok 7) (.tok 5) (.lit (.i 1))) (.fld (.get (.fld (.tok 0) 0) (.tok 5)) 1)) (.lit (.i 1))) (.leaf [(.lit (.b .false))]) (.back 7 [(.app (.tok 4) (.row [(.tok 5)])), (.fld (.get (.fld (.tok 0) 0) (.tok 5)) 1), (.tok 6), (.put (.tok 7) (.tok 5) (.lit (.i 1)))]))))))) (.loop 16 8 [(.lit (.i 0)), (.tok 7)] (.br (.lt (.tok 8) (.len (.tok 4))) (.need [(.le (.lit (.i 0)) (.tok 8)), (.lt (.tok 8) (.len (.tok 4)))] (.need [(.le (.lit (.i 0)) (.get (.tok 4) (.tok 8))), (.lt (.get (.tok 4) (.tok 8)) (.len (.tok 9)))] (.need [(.rng .i64 (.add (.tok 8) (.lit (.i 1))))] (.back 16 [(.add (.tok 8) (.lit (.i 1))), (.put (.tok 9) (.get (.tok 4) (.tok 8)) (.lit (.i 2)))])))) (.need [(.rng .i64 (.add (.tok 2) (.lit (.i 1))))] (.back 3 [(.tok 6), (.add (.tok 2) (.lit (.i 1))), (.tok 9)]))))))) (.leaf [(.lit (.b .true))]))))
set_option maxRecDepth 100000 in
theorem code_cells_acyclic : ∀ cd, Try.f82.body = some cd → treeOf Try.prog [] ann_cells_acyclic q1i Try.f82 cd = q3y := by
  intro cd h
  injection h with h
  subst h
  kernel_rfl
theorem fok_cells_acyclic {g : List D → Option (List D)}  (h : ∀ ds outs, WfA q1i.ars ds → g ds = some outs → q3y.go (tblS []) (fun o => o = outs) ds fun _ _ => False) : FOk q1i g :=
  q08 ann_cells_acyclic Try.f82 _ .nil rfl rfl enter_cells_acyclic (by decide) fun ds outs hw hg => by rw [code_cells_acyclic  _ rfl]; exact h ds outs hw hg

def q17 : Ct := ⟨83, [.val (.st 26), .val (.st 79)], [(.bool, false)], [], none⟩
theorem enter_cells_validUndo (args : Array Value) (w : World) : (callFunc q17.f args).run Try.prog w = .ok (.enter q17.f args) w := by kernel_rfl
def q53 : Ann := ⟨[0, 1, 2, 3, 4, 5, 11, 14, 15, 22, 41], []⟩
def q3c : Tree := (.need [(.ok 0 [(.tok 0), (.fld (.tok 1) 0)])] (.br (.lt (.call 0 0 [(.tok 0), (.fld (.tok 1) 0)]) (.lit (.i 0))) (.leaf [(.lit (.b .false))]) (.br (.eq (.fld (.fld (.tok 1) 1) 0) (.lit (.i 0))) (.leaf [(.eq (.fld (.fld (.tok 1) 1) 1) (.fld (.tok 1) 0))]) (.br (.eq (.fld (.fld (.tok 1) 1) 0) (.lit (.i 5))) (.need [(.imp (.eq (.fld (.fld (.tok 1) 1) 1) (.fld (.tok 1) 0)) (.ok 1 [(.tok 0), (.fld (.tok 1) 0)])), (.imp (.and (.eq (.fld (.fld (.tok 1) 1) 1) (.fld (.tok 1) 0)) (.call 1 0 [(.tok 0), (.fld (.tok 1) 0)])) (.rng .i64 (.sub (.fld (.tok 1) 0) (.lit (.i 1))))), (.imp (.and (.eq (.fld (.fld (.tok 1) 1) 1) (.fld (.tok 1) 0)) (.call 1 0 [(.tok 0), (.fld (.tok 1) 0)])) (.ok 0 [(.tok 0), (.sub (.fld (.tok 1) 0) (.lit (.i 1)))]))] (.leaf [(.and (.and (.eq (.fld (.fld (.tok 1) 1) 1) (.fld (.tok 1) 0)) (.call 1 0 [(.tok 0), (.fld (.tok 1) 0)])) (.not (.eq (.call 0 0 [(.tok 0), (.sub (.fld (.tok 1) 0) (.lit (.i 1)))]) (.lit (.i 5)))))])) (.br (.eq (.fld (.fld (.tok 1) 1) 0) (.lit (.i 1))) (.br (.eq (.fld (.fld (.tok 1) 1) 0) (.lit (.i 1))) (.need [(.ok 2 [(.tok 0), (.fld (.tok 1) 1)])] (.leaf [(.call 2 0 [(.tok 0), (.fld (.tok 1) 1)])])) (.leaf [(.lit (.b .false))])) (.br (.eq (.fld (.fld (.tok 1) 1) 0) (.lit (.i 2))) (.br (.eq (.fld (.fld (.tok 1) 1) 0) (.lit (.i 2))) (.need [(.ok 2 [(.tok 0), (.fld (.tok 1) 1)])] (.leaf [(.call 2 0 [(.tok 0), (.fld (.tok 1) 1)])])) (.leaf [(.lit (.b .false))])) (.br (.eq (.fld (.fld (.tok 1) 1) 0) (.lit (.i 3))) (.need [(.ok 2 [(.tok 0), (.fld (.tok 1) 1)])] (.leaf [(.call 2 0 [(.tok 0), (.fld (.tok 1) 1)])])) (.leaf [(.lit (.b .false))]))))))))
set_option maxRecDepth 100000 in
theorem code_cells_validUndo (g0 g1 g2 : List D → Option (List D)) : ∀ cd, Try.f83.body = some cd → treeOf Try.prog [(q0d, g0), (q1c, g1), (q06, g2)] q53 q17 Try.f83 cd = q3c := by
  intro cd h
  injection h with h
  subst h
  kernel_rfl
theorem fok_cells_validUndo {g0 g1 g2 : List D → Option (List D)} {g : List D → Option (List D)} (h0 : FOk q0d g0) (h1 : FOk q1c g1) (h2 : FOk q06 g2) (h : ∀ ds outs, WfA q17.ars ds → g ds = some outs → q3c.go (tblS [(q0d, g0), (q1c, g1), (q06, g2)]) (fun o => o = outs) ds fun _ _ => False) : FOk q17 g :=
  q08 q53 Try.f83 _ (.cons h0 (.cons h1 (.cons h2 .nil))) rfl rfl enter_cells_validUndo (by decide) fun ds outs hw hg => by rw [code_cells_validUndo g0 g1 g2 _ rfl]; exact h ds outs hw hg

def q21 : Ct := ⟨37, [.val (.st 26)], [(.bool, false)], [], none⟩
theorem enter_cells_Valid (args : Array Value) (w : World) : (callFunc q21.f args).run Try.prog w = .ok (.enter q21.f args) w := by kernel_rfl
def ann_cells_Valid : Ann := ⟨[0, 1, 2, 3, 5, 7, 34, 37, 38, 39, 44, 48, 50, 51, 52, 53, 59, 62, 63, 64, 65, 91], [(4, ⟨[(2, .bool, false), (38, .int .i64, false)], [], [39, 40, 3, 41, 42, 43, 44, 45], []⟩),
  (12, ⟨[(2, .bool, false), (52, .int .i64, false)], [], [53, 54, 55, 5, 56, 57, 58, 59, 60], []⟩),
  (18, ⟨[(2, .bool, false), (64, .int .i64, false)], [], [65, 66, 67, 7, 68, 69, 70, 71, 72, 73, 74, 75, 76, 77, 78, 79, 80, 81, 82, 83, 84, 85, 86, 87, 88, 89, 90, 91, 92], []⟩)]⟩
def q4p : Tree := (.need [(.imp (.not (.or (.or (.or (.lt (.fld (.tok 0) 5) (.lit (.i 1))) (.lt (.lit (.i 1048576)) (.fld (.tok 0) 5))) (.lt (.fld (.tok 0) 5) (.len (.fld (.tok 0) 0)))) (.lt (.fld (.tok 0) 4) (.lit (.i 0))))) (.ok 0 [(.fld (.tok 0) 1)]))] (.br (.or (.or (.or (.or (.lt (.fld (.tok 0) 5) (.lit (.i 1))) (.lt (.lit (.i 1048576)) (.fld (.tok 0) 5))) (.lt (.fld (.tok 0) 5) (.len (.fld (.tok 0) 0)))) (.lt (.fld (.tok 0) 4) (.lit (.i 0)))) (.not (.call 0 0 [(.fld (.tok 0) 1)]))) (.leaf [(.lit (.b .false))]) (.loop 4 1 [(.lit (.b .false)), (.lit (.i 0))] (.br (.lt (.tok 2) (.len (.fld (.tok 0) 0))) (.need [(.ok 1 [(.tok 0), (.tok 2)])] (.br (.not (.call 1 0 [(.tok 0), (.tok 2)])) (.leaf [(.lit (.b .false))]) (.need [(.rng .i64 (.add (.tok 2) (.lit (.i 1))))] (.back 4 [(.tok 1), (.add (.tok 2) (.lit (.i 1)))])))) (.need [(.ok 2 [(.tok 0)])] (.br (.not (.call 2 0 [(.tok 0)])) (.leaf [(.lit (.b .false))]) (.loop 12 3 [(.tok 1), (.lit (.i 0))] (.br (.lt (.tok 4) (.len (.fld (.tok 0) 2))) (.need [(.le (.lit (.i 0)) (.tok 4)), (.lt (.tok 4) (.len (.fld (.tok 0) 2)))] (.need [(.ok 3 [(.tok 0), (.get (.fld (.tok 0) 2) (.tok 4))])] (.br (.not (.call 3 0 [(.tok 0), (.get (.fld (.tok 0) 2) (.tok 4))])) (.leaf [(.lit (.b .false))]) (.need [(.rng .i64 (.add (.tok 4) (.lit (.i 1))))] (.back 12 [(.tok 3), (.add (.tok 4) (.lit (.i 1)))]))))) (.loop 18 5 [(.tok 3), (.lit (.i 0))] (.br (.lt (.tok 6) (.len (.fld (.tok 0) 3))) (.need [(.le (.lit (.i 0)) (.tok 6)), (.lt (.tok 6) (.len (.fld (.tok 0) 3)))] (.need [(.imp (.not (.or (.lt (.fld (.get (.fld (.tok 0) 3) (.tok 6)) 0) (.lit (.i 1))) (.lt (.fld (.tok 0) 4) (.fld (.get (.fld (.tok 0) 3) (.tok 6)) 0)))) (.ok 4 [(.tok 0), (.fld (.get (.fld (.tok 0) 3) (.tok 6)) 1)])), (.imp (.not (.or (.or (.lt (.fld (.get (.fld (.tok 0) 3) (.tok 6)) 0) (.lit (.i 1))) (.lt (.fld (.tok 0) 4) (.fld (.get (.fld (.tok 0) 3) (.tok 6)) 0))) (.not (.call 4 0 [(.tok 0), (.fld (.get (.fld (.tok 0) 3) (.tok 6)) 1)])))) (.ok 4 [(.tok 0), (.fld (.get (.fld (.tok 0) 3) (.tok 6)) 2)]))] (.br (.or (.or (.or (.lt (.fld (.get (.fld (.tok 0) 3) (.tok 6)) 0) (.lit (.i 1))) (.lt (.fld (.tok 0) 4) (.fld (.get (.fld (.tok 0) 3) (.tok 6)) 0))) (.not (.call 4 0 [(.tok 0), (.fld (.get (.fld (.tok 0) 3) (.tok 6)) 1)]))) (.not (.call 4 0 [(.tok 0), (.fld (.get (.fld (.tok 0) 3) (.tok 6)) 2)]))) (.leaf [(.lit (.b .false))]) (.need [(.rng .i64 (.add (.tok 6) (.lit (.i 1))))] (.back 18 [(.tok 5), (.add (.tok 6) (.lit (.i 1)))]))))) (.leaf [(.lit (.b .true))])))))))))))
set_option maxRecDepth 100000 in
theorem code_cells_Valid (g0 g1 g2 g3 g4 : List D → Option (List D)) : ∀ cd, Try.f37.body = some cd → treeOf Try.prog [(q0u, g0), (q1x, g1), (q1i, g2), (q17, g3), (q06, g4)] ann_cells_Valid q21 Try.f37 cd = q4p := by
  intro cd h
  injection h with h
  subst h
  kernel_rfl
theorem fok_cells_Valid {g0 g1 g2 g3 g4 : List D → Option (List D)} {g : List D → Option (List D)} (h0 : FOk q0u g0) (h1 : FOk q1x g1) (h2 : FOk q1i g2) (h3 : FOk q17 g3) (h4 : FOk q06 g4) (h : ∀ ds outs, WfA q21.ars ds → g ds = some outs → q4p.go (tblS [(q0u, g0), (q1x, g1), (q1i, g2), (q17, g3), (q06, g4)]) (fun o => o = outs) ds fun _ _ => False) : FOk q21 g :=
  q08 ann_cells_Valid Try.f37 _ (.cons h0 (.cons h1 (.cons h2 (.cons h3 (.cons h4 .nil))))) rfl rfl enter_cells_Valid (by decide) fun ds outs hw hg => by rw [code_cells_Valid g0 g1 g2 g3 g4 _ rfl]; exact h ds outs hw hg

end Go.Proofs.Ytinclokohcommaa


namespace Go.Proofs.Ytinclokohcommaa
open Go.RowKit
set_option linter.unusedVariables false
set_option linter.unusedSimpArgs false

def cellAt (s : So) (i : Int) : Ce := s.cs.getD i.toNat default
def inS (s : So) (i : Int) : Bool := decide (0 ≤ i) && decide (i < s.cs.length)
def tagS (s : So) (i : Int) : Int := if inS s i then (cellAt s i).t else -1
def arS (s : So) (n : Int) : Int := if 0 ≤ n ∧ n < s.ys.length then (s.ys.getD n.toNat default).ar else -1
def vcR (s : So) (c : Ce) : Bool := if c.t = 0 then inS s c.n && !decide (tagS s c.n = 4) else if c.t = 1 then true else if c.t = 2 then decide (arS s c.n = 0) else if c.t = 3 then decide (tagS s c.n = 4) else if c.t = 5 then decide (tagS s c.n = 5) else false
def vcP (s : So) (c : Ce) : Bool := if c.t = 0 then decide (0 ≤ tagS s c.n) && !decide (tagS s c.n = 4) else if c.t = 1 then true else if c.t = 2 then decide (arS s c.n = 0) else if c.t = 3 then decide (tagS s c.n = 4) else if c.t = 5 then decide (tagS s c.n = 5) else false
def groupS (s : So) (i : Int) : Bool := decide (tagS s (i + 1) = 1) && (decide (1 ≤ (cellAt s (i + 1)).n) && (decide ((cellAt s (i + 1)).n ≤ s.ser) && (decide (0 ≤ tagS s (i + 2)) && (!decide (tagS s (i + 2) = 4) && !decide (tagS s (i + 2) = 5)))))

def gSIi (f : So → Int → Int) : List D → Option (List D)
  | [s, i] => some [.i (f (dS s) i.int)]
  | _ => none
def gSIb (f : So → Int → Bool) : List D → Option (List D)
  | [s, i] => some [.b (f (dS s) i.int)]
  | _ => none
def gSIbP (q : So → Int → Bool) (f : So → Int → Bool) : List D → Option (List D)
  | [s, i] => if q (dS s) i.int then some [.b (f (dS s) i.int)] else none
  | _ => none
def gSCb (f : So → Ce → Bool) : List D → Option (List D)
  | [s, c] => some [.b (f (dS s) (dC c))]
  | _ => none
def gSUb (f : So → Un → Bool) : List D → Option (List D)
  | [s, c] => some [.b (f (dS s) (dU c))]
  | _ => none
def gSb (f : So → Bool) : List D → Option (List D)
  | [s] => some [.b (f (dS s))]
  | _ => none
def gSbP (q : So → Bool) (f : So → Bool) : List D → Option (List D)
  | [s] => if q (dS s) then some [.b (f (dS s))] else none
  | _ => none

theorem inS_iff {s : So} {i : Int} : inS s i = true ↔ 0 ≤ i ∧ i < s.cs.length := by simp [inS]
theorem cell_get {s : So} {i : Int} (h : inS s i = true) : (D.r (s.cs.map eC)).get i = eC (cellAt s i) := get_r eC (inS_iff.1 h).1 (inS_iff.1 h).2
theorem So.ok.cell {s : So} (hs : s.ok) {i : Int} (h : inS s i = true) : (cellAt s i).ok := hs.cs.2 _ (getD_mem (by have := inS_iff.1 h; omega))
theorem tagS_in {s : So} {i : Int} (h : inS s i = true) : tagS s i = (cellAt s i).t := if_pos h
theorem tagS_out {s : So} {i : Int} (h : inS s i = false) : tagS s i = -1 := if_neg (by rw [h]; decide)

theorem q3m : FOk q0k (gSIb inS) := fok_ref30_ranged fun ds outs hw hg => by
  obtain ⟨d, r, rfl, hd, e, r', rfl, he, rfl⟩ := hw
  obtain ⟨s, rfl, hs⟩ := wfS hd
  obtain ⟨i, rfl, hi⟩ := wfI he
  simp only [gSIb, dS_eS, int_i, Option.some.injEq] at hg
  subst hg
  simp only [q4g, Tree.go, allSay, X.says, X.ev, X.evs, evl, tblS, List.getD_cons_zero, List.getD_cons_succ, List.getElem?_cons_zero, List.getElem?_cons_succ, tt_b, int_i, str_s, rs_r, Option.isSome_some, Option.getD_some, decide_eq_true_eq, decide_eq_false_iff_not, dS_eS, dC_eC, dU_eU, dW_eW, dY_eY, eC_0, eC_1, eU_0, eU_1, eW_0, eW_1, eW_2, eY_0, eY_1, eS_0, eS_1, eS_2, eS_3, eS_4, eS_5, List.length_map, i_inj, b_inj, s_inj, eC_eq, eU_eq, eW_eq, eY_eq, eS_eq, rng64, List.take_succ_cons, List.take_zero, List.nil_append, List.cons_append, decide_true, decide_false, Bool.or_true, true_and, and_true, inS]
theorem q44 : FOk q0q (gSIi tagS) := fok_ref30_tag q3m fun ds outs hw hg => by
  obtain ⟨d, r, rfl, hd, e, r', rfl, he, rfl⟩ := hw
  obtain ⟨s, rfl, hs⟩ := wfS hd
  obtain ⟨i, rfl, hi⟩ := wfI he
  simp only [gSIi, dS_eS, int_i, Option.some.injEq] at hg
  subst hg
  simp only [q5j, Tree.go, allSay, X.says, X.ev, X.evs, evl, tblS, List.getD_cons_zero, List.getD_cons_succ, List.getElem?_cons_zero, List.getElem?_cons_succ, tt_b, int_i, str_s, rs_r, Option.isSome_some, Option.getD_some, decide_eq_true_eq, decide_eq_false_iff_not, dS_eS, dC_eC, dU_eU, dW_eW, dY_eY, eC_0, eC_1, eU_0, eU_1, eW_0, eW_1, eW_2, eY_0, eY_1, eS_0, eS_1, eS_2, eS_3, eS_4, eS_5, List.length_map, i_inj, b_inj, s_inj, eC_eq, eU_eq, eW_eq, eY_eq, eS_eq, rng64, List.take_succ_cons, List.take_zero, List.nil_append, List.cons_append, decide_true, decide_false, Bool.or_true, true_and, and_true, gSIb, true_and]
  cases h : inS s i with
  | false => simp [tagS_out h]
  | true =>
    have h' := inS_iff.1 h
    simp [cell_get h, eC_0, tagS_in h, h']
theorem q33 : FOk q0d (gSIi tagS) := fok_cells_tag fun ds outs hw hg => by
  obtain ⟨d, r, rfl, hd, e, r', rfl, he, rfl⟩ := hw
  obtain ⟨s, rfl, hs⟩ := wfS hd
  obtain ⟨i, rfl, hi⟩ := wfI he
  simp only [gSIi, dS_eS, int_i, Option.some.injEq] at hg
  subst hg
  simp only [q48, Tree.go, allSay, X.says, X.ev, X.evs, evl, tblS, List.getD_cons_zero, List.getD_cons_succ, List.getElem?_cons_zero, List.getElem?_cons_succ, tt_b, int_i, str_s, rs_r, Option.isSome_some, Option.getD_some, decide_eq_true_eq, decide_eq_false_iff_not, dS_eS, dC_eC, dU_eU, dW_eW, dY_eY, eC_0, eC_1, eU_0, eU_1, eW_0, eW_1, eW_2, eY_0, eY_1, eS_0, eS_1, eS_2, eS_3, eS_4, eS_5, List.length_map, i_inj, b_inj, s_inj, eC_eq, eU_eq, eW_eq, eY_eq, eS_eq, rng64, List.take_succ_cons, List.take_zero, List.nil_append, List.cons_append, decide_true, decide_false, Bool.or_true, true_and, and_true, true_and]
  cases h : inS s i with
  | false =>
    have h' : ¬ (0 ≤ i ∧ i < s.cs.length) := fun q => by rw [inS_iff.2 q] at h; cases h
    have h2 : i < 0 ∨ (s.cs.length : Int) ≤ i := by omega
    simp [tagS_out h]
    omega
  | true =>
    have h' := inS_iff.1 h
    have h1 : ¬ i < 0 := by omega
    have h2 : ¬ (s.cs.length : Int) ≤ i := by omega
    simp [cell_get h, eC_0, tagS_in h, h', h1, h2]
theorem ar_get {s : So} {i : Int} (h : 0 ≤ i ∧ i < s.ys.length) : (D.r (s.ys.map eY)).get i = eY (s.ys.getD i.toNat default) := get_r eY h.1 h.2
theorem ok_ref30_arity : FOk q19 (gSIi arS) := fok_ref30_arity fun ds outs hw hg => by
  obtain ⟨d, r, rfl, hd, e, r', rfl, he, rfl⟩ := hw
  obtain ⟨s, rfl, hs⟩ := wfS hd
  obtain ⟨i, rfl, hi⟩ := wfI he
  simp only [gSIi, dS_eS, int_i, Option.some.injEq] at hg
  subst hg
  simp only [q4l, Tree.go, allSay, X.says, X.ev, X.evs, evl, tblS, List.getD_cons_zero, List.getD_cons_succ, List.getElem?_cons_zero, List.getElem?_cons_succ, tt_b, int_i, str_s, rs_r, Option.isSome_some, Option.getD_some, decide_eq_true_eq, decide_eq_false_iff_not, dS_eS, dC_eC, dU_eU, dW_eW, dY_eY, eC_0, eC_1, eU_0, eU_1, eW_0, eW_1, eW_2, eY_0, eY_1, eS_0, eS_1, eS_2, eS_3, eS_4, eS_5, List.length_map, i_inj, b_inj, s_inj, eC_eq, eU_eq, eW_eq, eY_eq, eS_eq, rng64, List.take_succ_cons, List.take_zero, List.nil_append, List.cons_append, decide_true, decide_false, Bool.or_true, true_and, and_true, true_and]
  by_cases h : 0 ≤ i ∧ i < s.ys.length
  · have h1 : ¬ i < 0 := by omega
    have h2 : ¬ (s.ys.length : Int) ≤ i := by omega
    simp [ar_get h, eY_1, arS, h, h1, h2]
  · simp [arS, h]
theorem q5h : FOk q0p (gSIi arS) := fok_cells_arity fun ds outs hw hg => by
  obtain ⟨d, r, rfl, hd, e, r', rfl, he, rfl⟩ := hw
  obtain ⟨s, rfl, hs⟩ := wfS hd
  obtain ⟨i, rfl, hi⟩ := wfI he
  simp only [gSIi, dS_eS, int_i, Option.some.injEq] at hg
  subst hg
  simp only [q39, Tree.go, allSay, X.says, X.ev, X.evs, evl, tblS, List.getD_cons_zero, List.getD_cons_succ, List.getElem?_cons_zero, List.getElem?_cons_succ, tt_b, int_i, str_s, rs_r, Option.isSome_some, Option.getD_some, decide_eq_true_eq, decide_eq_false_iff_not, dS_eS, dC_eC, dU_eU, dW_eW, dY_eY, eC_0, eC_1, eU_0, eU_1, eW_0, eW_1, eW_2, eY_0, eY_1, eS_0, eS_1, eS_2, eS_3, eS_4, eS_5, List.length_map, i_inj, b_inj, s_inj, eC_eq, eU_eq, eW_eq, eY_eq, eS_eq, rng64, List.take_succ_cons, List.take_zero, List.nil_append, List.cons_append, decide_true, decide_false, Bool.or_true, true_and, and_true, true_and]
  by_cases h : 0 ≤ i ∧ i < s.ys.length
  · have h1 : ¬ i < 0 := by omega
    have h2 : ¬ (s.ys.length : Int) ≤ i := by omega
    simp [ar_get h, eY_1, arS, h, h1, h2]
  · simp [arS, h]
theorem q2x : FOk q0c (gSCb vcR) := fok_ref30_ValidCell q3m q44 ok_ref30_arity fun ds outs hw hg => by
  obtain ⟨d, r, rfl, hd, e, r', rfl, he, rfl⟩ := hw
  obtain ⟨s, rfl, hs⟩ := wfS hd
  obtain ⟨c, rfl, hc⟩ := wfC he
  simp only [gSCb, dS_eS, dC_eC, Option.some.injEq] at hg
  subst hg
  simp only [q3e, Tree.go, allSay, X.says, X.ev, X.evs, evl, tblS, List.getD_cons_zero, List.getD_cons_succ, List.getElem?_cons_zero, List.getElem?_cons_succ, tt_b, int_i, str_s, rs_r, Option.isSome_some, Option.getD_some, decide_eq_true_eq, decide_eq_false_iff_not, dS_eS, dC_eC, dU_eU, dW_eW, dY_eY, eC_0, eC_1, eU_0, eU_1, eW_0, eW_1, eW_2, eY_0, eY_1, eS_0, eS_1, eS_2, eS_3, eS_4, eS_5, List.length_map, i_inj, b_inj, s_inj, eC_eq, eU_eq, eW_eq, eY_eq, eS_eq, rng64, List.take_succ_cons, List.take_zero, List.nil_append, List.cons_append, decide_true, decide_false, Bool.or_true, true_and, and_true, gSIb, gSIi, vcR, true_and]
  by_cases h0 : c.t = 0
  · simp [h0]
  · by_cases h1 : c.t = 1
    · simp [h1]
    · by_cases h2 : c.t = 2
      · simp [h2]
      · by_cases h3 : c.t = 3
        · simp [h3]
        · by_cases h5 : c.t = 5
          · simp [h5]
          · simp [h0, h1, h2, h3, h5]
theorem q2b : FOk q06 (gSCb vcP) := q59 q5h q33 fun ds outs hw hg => by
  obtain ⟨d, r, rfl, hd, e, r', rfl, he, rfl⟩ := hw
  obtain ⟨s, rfl, hs⟩ := wfS hd
  obtain ⟨c, rfl, hc⟩ := wfC he
  simp only [gSCb, dS_eS, dC_eC, Option.some.injEq] at hg
  subst hg
  simp only [q2m, Tree.go, allSay, X.says, X.ev, X.evs, evl, tblS, List.getD_cons_zero, List.getD_cons_succ, List.getElem?_cons_zero, List.getElem?_cons_succ, tt_b, int_i, str_s, rs_r, Option.isSome_some, Option.getD_some, decide_eq_true_eq, decide_eq_false_iff_not, dS_eS, dC_eC, dU_eU, dW_eW, dY_eY, eC_0, eC_1, eU_0, eU_1, eW_0, eW_1, eW_2, eY_0, eY_1, eS_0, eS_1, eS_2, eS_3, eS_4, eS_5, List.length_map, i_inj, b_inj, s_inj, eC_eq, eU_eq, eW_eq, eY_eq, eS_eq, rng64, List.take_succ_cons, List.take_zero, List.nil_append, List.cons_append, decide_true, decide_false, Bool.or_true, true_and, and_true, gSIi, vcP, true_and]
  by_cases h0 : c.t = 0
  · simp [h0]
  · by_cases h1 : c.t = 1
    · simp [h1]
    · by_cases h2 : c.t = 2
      · simp [h2]
      · by_cases h3 : c.t = 3
        · simp [h3]
        · by_cases h5 : c.t = 5
          · simp [h5]
          · simp [h0, h1, h2, h3, h5]
theorem tag_in {s : So} {i : Int} (h : tagS s i = 1) : inS s i = true := by
  cases hi : inS s i with
  | true => rfl
  | false => rw [tagS_out hi] at h; cases h
theorem ok_ref30_group : FOk q1b (gSIbP inS groupS) := fok_ref30_group q44 fun ds outs hw hg => by
  obtain ⟨d, r, rfl, hd, e, r', rfl, he, rfl⟩ := hw
  obtain ⟨s, rfl, hs⟩ := wfS hd
  obtain ⟨i, rfl, hi⟩ := wfI he
  simp only [gSIbP, dS_eS, int_i, Option.ite_none_right_eq_some, Option.some.injEq] at hg
  obtain ⟨hin, rfl⟩ := hg
  have h1 := inS_iff.1 hin
  have hl := hs.cs.1
  have r1 : i64 (i + 1) := ⟨by omega, by omega⟩
  have r2 : i64 (i + 2) := ⟨by omega, by omega⟩
  simp only [q4r, Tree.go, allSay, X.says, X.ev, X.evs, evl, tblS, List.getD_cons_zero, List.getD_cons_succ, List.getElem?_cons_zero, List.getElem?_cons_succ, tt_b, int_i, str_s, rs_r, Option.isSome_some, Option.getD_some, decide_eq_true_eq, decide_eq_false_iff_not, dS_eS, dC_eC, dU_eU, dW_eW, dY_eY, eC_0, eC_1, eU_0, eU_1, eW_0, eW_1, eW_2, eY_0, eY_1, eS_0, eS_1, eS_2, eS_3, eS_4, eS_5, List.length_map, i_inj, b_inj, s_inj, eC_eq, eU_eq, eW_eq, eY_eq, eS_eq, rng64, List.take_succ_cons, List.take_zero, List.nil_append, List.cons_append, decide_true, decide_false, Bool.or_true, true_and, and_true, gSIi, true_and, groupS, r1, r2]
  by_cases ht : tagS s (i + 1) = 1
  · have h2 := tag_in ht
    have h3 := inS_iff.1 h2
    simp [ht, cell_get h2, eC_1, h3.1, h3.2, int_i, Bool.and_assoc, rng64, r1.1, r1.2]
  · simp [ht]
theorem ok_cells_group : FOk q1c (gSIbP inS groupS) := fok_cells_group q33 fun ds outs hw hg => by
  obtain ⟨d, r, rfl, hd, e, r', rfl, he, rfl⟩ := hw
  obtain ⟨s, rfl, hs⟩ := wfS hd
  obtain ⟨i, rfl, hi⟩ := wfI he
  simp only [gSIbP, dS_eS, int_i, Option.ite_none_right_eq_some, Option.some.injEq] at hg
  obtain ⟨hin, rfl⟩ := hg
  have h1 := inS_iff.1 hin
  have hl := hs.cs.1
  have r1 : i64 (i + 1) := ⟨by omega, by omega⟩
  have r2 : i64 (i + 2) := ⟨by omega, by omega⟩
  simp only [q4o, Tree.go, allSay, X.says, X.ev, X.evs, evl, tblS, List.getD_cons_zero, List.getD_cons_succ, List.getElem?_cons_zero, List.getElem?_cons_succ, tt_b, int_i, str_s, rs_r, Option.isSome_some, Option.getD_some, decide_eq_true_eq, decide_eq_false_iff_not, dS_eS, dC_eC, dU_eU, dW_eW, dY_eY, eC_0, eC_1, eU_0, eU_1, eW_0, eW_1, eW_2, eY_0, eY_1, eS_0, eS_1, eS_2, eS_3, eS_4, eS_5, List.length_map, i_inj, b_inj, s_inj, eC_eq, eU_eq, eW_eq, eY_eq, eS_eq, rng64, List.take_succ_cons, List.take_zero, List.nil_append, List.cons_append, decide_true, decide_false, Bool.or_true, true_and, and_true, gSIi, true_and, groupS, r1, r2]
  by_cases ht : tagS s (i + 1) = 1
  · have h2 := tag_in ht
    have h3 := inS_iff.1 h2
    simp [ht, cell_get h2, eC_1, h3.1, h3.2, int_i, Bool.and_assoc, rng64, r1.1, r1.2]
  · simp [ht]
end Go.Proofs.Ytinclokohcommaa


namespace Go.Proofs.Ytinclokohcommaa
open Go.RowKit
set_option linter.unusedVariables false
set_option linter.unusedSimpArgs false

theorem mfind_mset {k k' v : D} : ∀ {l : List D}, mfind k (mset k' v l) = if k' = k then some v else mfind k l
  | [] => by simp [mset, mfind, D.fld, D.fs]
  | p :: l => by
    unfold mset
    split
    · rename_i h
      by_cases hk : k' = k
      · simp [mfind, D.fld, D.fs, hk]
      · have : ¬ (p.fld 0 = k) := fun e => hk (h.symm.trans e)
        simp [mfind, D.fld, D.fs, hk, this]
        intro e
        exact absurd e this
    · rename_i h
      unfold mfind
      by_cases hk : p.fld 0 = k
      · have : ¬ (k' = k) := fun e => h (hk.trans e.symm)
        simp [hk, this]
      · simp only [if_neg hk]
        exact mfind_mset

def okY (y : Sy) : Bool := decide (y.name.size ≤ 100) && (decide (0 ≤ y.ar) && decide (y.ar ≤ 8))
def symAt (l : List Sy) (k : Nat) : Bool := okY (l.getD k default) && !decide (l.getD k default ∈ l.take k)
def symsB (l : List Sy) : Bool := decide (l.length ≤ 1048576) && (List.range l.length).all (symAt l)
def gYsb (f : List Sy → Bool) : List D → Option (List D)
  | [l] => some [.b (f (l.rs.map dY))]
  | _ => none

def Seen (x : D) (l : List Sy) (k : Nat) (L : List D) : Prop := ∀ y, mfind (eY y) L = if y ∈ l.take k then some x else none
theorem Seen.nil {x : D} {l : List Sy} : Seen x l 0 [] := fun y => by simp [mfind]
theorem Seen.put {x : D} {l : List Sy} {k : Nat} {L : List D} (h : Seen x l k L) (hk : k < l.length) : Seen x l (k + 1) (mset (eY (l.getD k default)) x L) := fun y => by
  rw [mfind_mset, take_snoc hk, h y]
  generalize l.getD k default = z
  by_cases hy : y = z
  · subst hy; simp
  · have : ¬ (z = y) := fun e => hy e.symm
    simp [eY_eq, this, hy]

theorem ok_ref30_symbols : FOk q1h (gYsb symsB) := fok_ref30_symbols fun ds outs hw hg => by
  obtain ⟨d, r, rfl, hd, rfl⟩ := hw
  obtain ⟨l, rfl, hl, hok⟩ := wfYs hd
  simp only [gYsb, rs_r, map_id' dY_eY, Option.some.injEq] at hg
  subst hg
  simp only [q3z, Tree.go, allSay, X.says, X.ev, X.evs, evl, tblS, List.getD_cons_zero, List.getD_cons_succ, List.getElem?_cons_zero, List.getElem?_cons_succ, tt_b, int_i, str_s, rs_r, Option.isSome_some, Option.getD_some, decide_eq_true_eq, decide_eq_false_iff_not, dS_eS, dC_eC, dU_eU, dW_eW, dY_eY, eC_0, eC_1, eU_0, eU_1, eW_0, eW_1, eW_2, eY_0, eY_1, eS_0, eS_1, eS_2, eS_3, eS_4, eS_5, List.length_map, i_inj, b_inj, s_inj, eC_eq, eU_eq, eW_eq, eY_eq, eS_eq, rng64, List.take_succ_cons, List.take_zero, List.nil_append, List.cons_append, decide_true, decide_false, Bool.or_true, true_and, and_true, symsB]
  refine ⟨fun h => ?_, fun h => ?_⟩
  · have : ¬ (l.length ≤ 1048576) := by omega
    simp [this]
  · have h0 : l.length ≤ 1048576 := by omega
    refine ⟨fun st => ∃ (k : Nat) (L : List D), k ≤ l.length ∧ st = [.b false, .i k, .mp L] ∧ (∀ j, j < k → symAt l j = true) ∧ Seen (.i 1) l k L, fun st => l.length - (st.getD 1 .u).int.toNat, ⟨0, [], Nat.zero_le _, rfl, (fun j hj => absurd hj (Nat.not_lt_zero _)), Seen.nil⟩, ?_⟩
    rintro st - ⟨k, L, hk, rfl, hP, hL⟩
    simp only [Tree.go, allSay, X.says, X.ev, X.evs, evl, tblS, List.getD_cons_zero, List.getD_cons_succ, List.getElem?_cons_zero, List.getElem?_cons_succ, tt_b, int_i, str_s, rs_r, Option.isSome_some, Option.getD_some, decide_eq_true_eq, decide_eq_false_iff_not, dS_eS, dC_eC, dU_eU, dW_eW, dY_eY, eC_0, eC_1, eU_0, eU_1, eW_0, eW_1, eW_2, eY_0, eY_1, eS_0, eS_1, eS_2, eS_3, eS_4, eS_5, List.length_map, i_inj, b_inj, s_inj, eC_eq, eU_eq, eW_eq, eY_eq, eS_eq, rng64, List.take_succ_cons, List.take_zero, List.nil_append, List.cons_append, decide_true, decide_false, Bool.or_true, true_and, and_true]
    refine ⟨fun hlt => ?_, fun hlt => ?_⟩
    · have hkl : k < l.length := by omega
      have hp : (0 : Int) ≤ k := by omega
      simp only [hlt, hp, get_n eY hkl, eY_0, eY_1, str_s, int_i, true_and, Bool.or_true, decide_true, and_true, Int.toNat_natCast, fnD, ms_mp, hL (l.getD k default)]
      have hr : i64 ((k : Int) + 1) := ⟨by omega, by omega⟩
      have e : (if l.getD k default ∈ l.take k then some (D.i 1) else none).getD (.i 0) = .i (if l.getD k default ∈ l.take k then 1 else 0) := by split <;> rfl
      rw [e]
      refine ⟨fun hb => ?_, fun hb => ⟨hr, ?_⟩⟩
      · have : symAt l k = false := by
          simp only [symAt, okY]
          generalize l.getD k default = z at hb ⊢
          by_cases hm : z ∈ l.take k
          · simp [hm]
          · simp [hm] at hb ⊢
            intro h1 h2
            omega
        rw [all_not hkl this]
        simp
      · have hs : symAt l k = true := by
          simp only [symAt, okY]
          generalize l.getD k default = z at hb ⊢
          by_cases hm : z ∈ l.take k
          · simp [hm] at hb
          · simp [hm] at hb ⊢
            omega
        rw [updB, if_pos rfl]
        refine ⟨⟨k + 1, _, hkl, ?_, upto_succ hP hs, hL.put hkl⟩, ?_⟩
        · simp
        · simp [D.int]
          omega
    · have : k = l.length := by omega
      subst this
      rw [all_yes hP]
      simp [h0]
theorem ok_cells_validSymbols : FOk q0u (gYsb symsB) := fok_cells_validSymbols fun ds outs hw hg => by
  obtain ⟨d, r, rfl, hd, rfl⟩ := hw
  obtain ⟨l, rfl, hl, hok⟩ := wfYs hd
  simp only [gYsb, rs_r, map_id' dY_eY, Option.some.injEq] at hg
  subst hg
  simp only [q2v, Tree.go, allSay, X.says, X.ev, X.evs, evl, tblS, List.getD_cons_zero, List.getD_cons_succ, List.getElem?_cons_zero, List.getElem?_cons_succ, tt_b, int_i, str_s, rs_r, Option.isSome_some, Option.getD_some, decide_eq_true_eq, decide_eq_false_iff_not, dS_eS, dC_eC, dU_eU, dW_eW, dY_eY, eC_0, eC_1, eU_0, eU_1, eW_0, eW_1, eW_2, eY_0, eY_1, eS_0, eS_1, eS_2, eS_3, eS_4, eS_5, List.length_map, i_inj, b_inj, s_inj, eC_eq, eU_eq, eW_eq, eY_eq, eS_eq, rng64, List.take_succ_cons, List.take_zero, List.nil_append, List.cons_append, decide_true, decide_false, Bool.or_true, true_and, and_true, symsB]
  refine ⟨fun h => ?_, fun h => ?_⟩
  · have : ¬ (l.length ≤ 1048576) := by omega
    simp [this]
  · have h0 : l.length ≤ 1048576 := by omega
    refine ⟨fun st => ∃ (k : Nat) (L : List D), k ≤ l.length ∧ st = [.b false, .i k, .mp L] ∧ (∀ j, j < k → symAt l j = true) ∧ Seen (.b true) l k L, fun st => l.length - (st.getD 1 .u).int.toNat, ⟨0, [], Nat.zero_le _, rfl, (fun j hj => absurd hj (Nat.not_lt_zero _)), Seen.nil⟩, ?_⟩
    rintro st - ⟨k, L, hk, rfl, hP, hL⟩
    simp only [Tree.go, allSay, X.says, X.ev, X.evs, evl, tblS, List.getD_cons_zero, List.getD_cons_succ, List.getElem?_cons_zero, List.getElem?_cons_succ, tt_b, int_i, str_s, rs_r, Option.isSome_some, Option.getD_some, decide_eq_true_eq, decide_eq_false_iff_not, dS_eS, dC_eC, dU_eU, dW_eW, dY_eY, eC_0, eC_1, eU_0, eU_1, eW_0, eW_1, eW_2, eY_0, eY_1, eS_0, eS_1, eS_2, eS_3, eS_4, eS_5, List.length_map, i_inj, b_inj, s_inj, eC_eq, eU_eq, eW_eq, eY_eq, eS_eq, rng64, List.take_succ_cons, List.take_zero, List.nil_append, List.cons_append, decide_true, decide_false, Bool.or_true, true_and, and_true]
    refine ⟨fun hlt => ?_, fun hlt => ?_⟩
    · have hkl : k < l.length := by omega
      have hp : (0 : Int) ≤ k := by omega
      simp only [hlt, hp, get_n eY hkl, eY_0, eY_1, str_s, int_i, true_and, Bool.or_true, decide_true, and_true, Int.toNat_natCast, fnD, ms_mp, hL (l.getD k default)]
      have hr : i64 ((k : Int) + 1) := ⟨by omega, by omega⟩
      have e : ((if l.getD k default ∈ l.take k then some (D.b true) else none).getD (.b false)).tt = decide (l.getD k default ∈ l.take k) := by
        by_cases hm : l.getD k default ∈ l.take k
        · rw [if_pos hm, decide_eq_true hm]; rfl
        · rw [if_neg hm, decide_eq_false hm]; rfl
      rw [e]
      refine ⟨fun hb => ?_, fun hb => ⟨hr, ?_⟩⟩
      · have : symAt l k = false := by
          simp only [symAt, okY]
          generalize l.getD k default = z at hb ⊢
          by_cases hm : z ∈ l.take k
          · simp [hm]
          · simp [hm] at hb ⊢
            intro h1 h2
            omega
        rw [all_not hkl this]
        simp
      · have hs : symAt l k = true := by
          simp only [symAt, okY]
          generalize l.getD k default = z at hb ⊢
          by_cases hm : z ∈ l.take k
          · simp [hm] at hb
          · simp [hm] at hb ⊢
            omega
        rw [updB, if_pos rfl]
        refine ⟨⟨k + 1, _, hkl, ?_, upto_succ hP hs, hL.put hkl⟩, ?_⟩
        · simp
        · simp [D.int]
          omega
    · have : k = l.length := by omega
      subst this
      rw [all_yes hP]
      simp [h0]
end Go.Proofs.Ytinclokohcommaa


namespace Go.Proofs.Ytinclokohcommaa
open Go.RowKit
set_option linter.unusedVariables false
set_option linter.unusedSimpArgs false

theorem symsB_ar {s : So} (h : symsB s.ys = true) (n : Int) : -1 ≤ arS s n ∧ arS s n ≤ 8 := by
  unfold arS
  split
  · rename_i hn
    simp only [symsB, Bool.and_eq_true] at h
    have := all_of h.2 (k := n.toNat) (by omega)
    simp only [symAt, okY, Bool.and_eq_true, decide_eq_true_eq] at this
    omega
  · omega
def endsN (s : So) : Nat → Int → Bool
  | 0, _ => false
  | k + 1, n => if tagS s n = 0 ∧ ¬ (cellAt s n).n = n then endsN s k (cellAt s n).n else true
def endsB (s : So) (n : Int) : Bool := endsN s (s.cs.length + 1) n

theorem tag_in' {s : So} {i : Int} {t : Int} (ht : t ≠ -1) (h : tagS s i = t) : inS s i = true := by
  cases hi : inS s i with
  | true => rfl
  | false => rw [tagS_out hi] at h; exact absurd h.symm ht

theorem ok_ref30_ends : FOk q27 (gSIb endsB) := fok_ref30_ends q44 fun ds outs hw hg => by
  obtain ⟨d, r, rfl, hd, e, r', rfl, he, rfl⟩ := hw
  obtain ⟨s, rfl, hs⟩ := wfS hd
  obtain ⟨i, rfl, hi⟩ := wfI he
  simp only [gSIb, dS_eS, int_i, Option.some.injEq] at hg
  subst hg
  have hl := hs.cs.1
  simp only [q51, Tree.go, allSay, X.says, X.ev, X.evs, evl, tblS, List.getD_cons_zero, List.getD_cons_succ, List.getElem?_cons_zero, List.getElem?_cons_succ, tt_b, int_i, str_s, rs_r, Option.isSome_some, Option.getD_some, decide_eq_true_eq, decide_eq_false_iff_not, dS_eS, dC_eC, dU_eU, dW_eW, dY_eY, eC_0, eC_1, eU_0, eU_1, eW_0, eW_1, eW_2, eY_0, eY_1, eS_0, eS_1, eS_2, eS_3, eS_4, eS_5, List.length_map, i_inj, b_inj, s_inj, eC_eq, eU_eq, eW_eq, eY_eq, eS_eq, rng64, List.take_succ_cons, List.take_zero, List.nil_append, List.cons_append, decide_true, decide_false, Bool.or_true, true_and, and_true, gSIi]
  refine ⟨fun st => ∃ (k : Nat) (m : Int), k ≤ s.cs.length + 1 ∧ st = [.b false, .i m, .i k] ∧ endsN s (s.cs.length + 1 - k) m = endsB s i, fun st => s.cs.length + 1 - (st.getD 2 .u).int.toNat, ⟨0, i, Nat.zero_le _, rfl, rfl⟩, ?_⟩
  rintro st - ⟨k, m, hk, rfl, hP⟩
  simp only [Tree.go, allSay, X.says, X.ev, X.evs, evl, tblS, List.getD_cons_zero, List.getD_cons_succ, List.getElem?_cons_zero, List.getElem?_cons_succ, tt_b, int_i, str_s, rs_r, Option.isSome_some, Option.getD_some, decide_eq_true_eq, decide_eq_false_iff_not, dS_eS, dC_eC, dU_eU, dW_eW, dY_eY, eC_0, eC_1, eU_0, eU_1, eW_0, eW_1, eW_2, eY_0, eY_1, eS_0, eS_1, eS_2, eS_3, eS_4, eS_5, List.length_map, i_inj, b_inj, s_inj, eC_eq, eU_eq, eW_eq, eY_eq, eS_eq, rng64, List.take_succ_cons, List.take_zero, List.nil_append, List.cons_append, decide_true, decide_false, Bool.or_true, true_and, and_true, gSIi]
  refine ⟨fun hlt => ?_, fun hlt => ?_⟩
  · have hkl : k ≤ s.cs.length := by omega
    have hr : i64 ((k : Int) + 1) := ⟨by omega, by omega⟩
    obtain ⟨n, hn⟩ : ∃ n, s.cs.length + 1 - k = n + 1 := ⟨s.cs.length - k, by omega⟩
    rw [hn] at hP
    unfold endsN at hP
    have hn2 : s.cs.length + 1 - (k + 1) = n := by omega
    by_cases ht : tagS s m = 0
    · have hin := tag_in' (by decide) ht
      have h3 := inS_iff.1 hin
      simp only [ht, cell_get hin, eC_1, h3.1, h3.2, int_i, i_inj, hr] at hP ⊢
      refine ⟨by simp, fun hx => ?_, fun hx => ?_⟩
      · have : (cellAt s m).n = m := by simpa using hx
        rw [if_neg (by simp [this])] at hP
        simp [← hP]
      · have hx' : ¬ (cellAt s m).n = m := by simpa using hx
        rw [if_pos ⟨trivial, hx'⟩] at hP
        refine ⟨⟨trivial, trivial⟩, ⟨trivial, trivial⟩, ?_⟩
        rw [updB, if_pos rfl]
        refine ⟨⟨k + 1, (cellAt s m).n, by omega, by simp, by rw [hn2]; exact hP⟩, ?_⟩
        simp [D.int]
        omega
    · rw [if_neg (by simp [ht])] at hP
      simp [ht, ← hP]
  · have : k = s.cs.length + 1 := by omega
    subst this
    rw [Nat.sub_self] at hP
    simp [← hP, endsN]

def cellR (s : So) (i : Int) : Bool :=
  if (cellAt s i).t = 4 then decide (1 ≤ arS s (cellAt s i).n) && (inS s (i + arS s (cellAt s i).n) && (List.range (arS s (cellAt s i).n).toNat).all fun j => !decide (tagS s (i + ((j : Int) + 1)) = 4))
  else vcR s (cellAt s i) && (endsB s i && (!decide ((cellAt s i).t = 5) || (decide ((cellAt s i).n = i) && groupS s i)))
def cellQ (s : So) (i : Int) : Bool := inS s i && symsB s.ys

theorem ok_ref30_cell : FOk q1w (gSIbP cellQ cellR) := fok_ref30_cell ok_ref30_arity q3m q44 q2x ok_ref30_ends ok_ref30_group fun ds outs hw hg => by
  obtain ⟨d, r, rfl, hd, e, r', rfl, he, rfl⟩ := hw
  obtain ⟨s, rfl, hs⟩ := wfS hd
  obtain ⟨i, rfl, hi⟩ := wfI he
  simp only [gSIbP, dS_eS, int_i, Option.ite_none_right_eq_some, Option.some.injEq, cellQ, Bool.and_eq_true] at hg
  obtain ⟨⟨hin, hy⟩, rfl⟩ := hg
  have h1 := inS_iff.1 hin
  have hl := hs.cs.1
  obtain ⟨ha, hb⟩ := symsB_ar hy (cellAt s i).n
  simp only [q50, Tree.go, allSay, X.says, X.ev, X.evs, evl, tblS, List.getD_cons_zero, List.getD_cons_succ, List.getElem?_cons_zero, List.getElem?_cons_succ, tt_b, int_i, str_s, rs_r, Option.isSome_some, Option.getD_some, decide_eq_true_eq, decide_eq_false_iff_not, dS_eS, dC_eC, dU_eU, dW_eW, dY_eY, eC_0, eC_1, eU_0, eU_1, eW_0, eW_1, eW_2, eY_0, eY_1, eS_0, eS_1, eS_2, eS_3, eS_4, eS_5, List.length_map, i_inj, b_inj, s_inj, eC_eq, eU_eq, eW_eq, eY_eq, eS_eq, rng64, List.take_succ_cons, List.take_zero, List.nil_append, List.cons_append, decide_true, decide_false, Bool.or_true, true_and, and_true, gSIi, gSIb, gSCb, gSIbP, cell_get hin, h1.1, h1.2, hin, if_true]
  unfold cellR
  generalize arS s (cellAt s i).n = K at ha hb ⊢
  refine ⟨fun h4 => ?_, fun h4 => ?_⟩
  · have hr : i64 (i + K) := ⟨by omega, by omega⟩
    simp only [h4, hr, if_true]
    refine ⟨by simp [rng64, hr.1, hr.2], fun hx => ?_, fun hx => ?_⟩
    · have hx' : K < 1 ∨ inS s (i + K) = false := by simpa using hx
      rcases hx' with hx | hx
      · have : ¬ (1 ≤ K) := by omega
        simp [this]
      · simp [hx]
    · have hx' : 1 ≤ K ∧ inS s (i + K) = true := by simpa using hx
      obtain ⟨hk, hin2⟩ := hx'
      simp only [hk, hin2]
      refine ⟨fun st => ∃ (j : Nat), (j : Int) ≤ K ∧ st = [.b false, .i ((j : Int) + 1)] ∧ ∀ m : Nat, m < j → (!decide (tagS s (i + ((m : Int) + 1)) = 4)) = true, fun st => K.toNat + 1 - (st.getD 1 .u).int.toNat, ⟨0, by omega, by simp, fun m hm => absurd hm (Nat.not_lt_zero _)⟩, ?_⟩
      rintro st - ⟨j, hj, rfl, hP⟩
      simp only [Tree.go, allSay, X.says, X.ev, X.evs, evl, tblS, List.getD_cons_zero, List.getD_cons_succ, List.getElem?_cons_zero, List.getElem?_cons_succ, tt_b, int_i, str_s, rs_r, Option.isSome_some, Option.getD_some, decide_eq_true_eq, decide_eq_false_iff_not, dS_eS, dC_eC, dU_eU, dW_eW, dY_eY, eC_0, eC_1, eU_0, eU_1, eW_0, eW_1, eW_2, eY_0, eY_1, eS_0, eS_1, eS_2, eS_3, eS_4, eS_5, List.length_map, i_inj, b_inj, s_inj, eC_eq, eU_eq, eW_eq, eY_eq, eS_eq, rng64, List.take_succ_cons, List.take_zero, List.nil_append, List.cons_append, decide_true, decide_false, Bool.or_true, true_and, and_true, gSIi]
      refine ⟨fun hlt => ?_, fun hlt => ?_⟩
      · have hr2 : i64 (i + ((j : Int) + 1)) := ⟨by omega, by omega⟩
        have hr3 : i64 (((j : Int) + 1) + 1) := ⟨by omega, by omega⟩
        refine ⟨hr2, fun hx => ?_, fun hx => ⟨hr3, ?_⟩⟩
        · rw [all_not (k := j) (by omega) (by simp [hx])]
          simp
        · rw [updB, if_pos rfl]
          refine ⟨⟨j + 1, by omega, by simp, upto_succ hP (by simp [hx])⟩, ?_⟩
          simp [D.int]
          omega
      · have : j = K.toNat := by omega
        subst this
        rw [all_yes hP]
        simp
  · simp only [h4, if_false]
    refine ⟨fun hx => ?_, fun hx => ?_⟩
    · have hx' : vcR s (cellAt s i) = false ∨ endsB s i = false := by simpa using hx
      rcases hx' with hx | hx <;> simp [hx]
    · have hx' : vcR s (cellAt s i) = true ∧ endsB s i = true := by simpa using hx
      simp [hx'.1, hx'.2]

def fitsP (s : So) (i : Int) : Bool :=
  if (cellAt s i).t = 4 then decide (1 ≤ arS s (cellAt s i).n) && (List.range (arS s (cellAt s i).n).toNat).all fun j => decide (0 ≤ tagS s (i + ((j : Int) + 1))) && !decide (tagS s (i + ((j : Int) + 1)) = 4)
  else if (cellAt s i).t = 5 then decide ((cellAt s i).n = i) && groupS s i else vcP s (cellAt s i)
theorem ok_cells_fits : FOk q1x (gSIbP cellQ fitsP) := fok_cells_fits q5h q33 ok_cells_group q2b fun ds outs hw hg => by
  obtain ⟨d, r, rfl, hd, e, r', rfl, he, rfl⟩ := hw
  obtain ⟨s, rfl, hs⟩ := wfS hd
  obtain ⟨i, rfl, hi⟩ := wfI he
  simp only [gSIbP, dS_eS, int_i, Option.ite_none_right_eq_some, Option.some.injEq, cellQ, Bool.and_eq_true] at hg
  obtain ⟨⟨hin, hy⟩, rfl⟩ := hg
  have h1 := inS_iff.1 hin
  have hl := hs.cs.1
  obtain ⟨ha, hb⟩ := symsB_ar hy (cellAt s i).n
  simp only [q4y, Tree.go, allSay, X.says, X.ev, X.evs, evl, tblS, List.getD_cons_zero, List.getD_cons_succ, List.getElem?_cons_zero, List.getElem?_cons_succ, tt_b, int_i, str_s, rs_r, Option.isSome_some, Option.getD_some, decide_eq_true_eq, decide_eq_false_iff_not, dS_eS, dC_eC, dU_eU, dW_eW, dY_eY, eC_0, eC_1, eU_0, eU_1, eW_0, eW_1, eW_2, eY_0, eY_1, eS_0, eS_1, eS_2, eS_3, eS_4, eS_5, List.length_map, i_inj, b_inj, s_inj, eC_eq, eU_eq, eW_eq, eY_eq, eS_eq, rng64, List.take_succ_cons, List.take_zero, List.nil_append, List.cons_append, decide_true, decide_false, Bool.or_true, true_and, and_true, gSIi, gSIb, gSCb, gSIbP, cell_get hin, h1.1, h1.2, hin, if_true]
  unfold fitsP
  generalize arS s (cellAt s i).n = K at ha hb ⊢
  refine ⟨fun h4 => ?_, fun h4 => ?_⟩
  · have hr : i64 (i + K) := ⟨by omega, by omega⟩
    have hr1 : i64 (i + 1) := ⟨by omega, by omega⟩
    simp only [h4, hr, hr1, if_true]
    refine ⟨fun hx => ?_, fun hx => ⟨⟨trivial, trivial⟩, ?_⟩⟩
    · have : ¬ (1 ≤ K) := by omega
      simp [this]
    · have hk : 1 ≤ K := by omega
      simp only [hk]
      refine ⟨fun st => ∃ (j : Nat), (j : Int) ≤ K ∧ st = [.b false, .i (i + ((j : Int) + 1))] ∧ ∀ m : Nat, m < j → (decide (0 ≤ tagS s (i + ((m : Int) + 1))) && !decide (tagS s (i + ((m : Int) + 1)) = 4)) = true, fun st => (i + K + 1 - (st.getD 1 .u).int).toNat, ⟨0, by omega, by simp, fun m hm => absurd hm (Nat.not_lt_zero _)⟩, ?_⟩
      rintro st - ⟨j, hj, rfl, hP⟩
      simp only [Tree.go, allSay, X.says, X.ev, X.evs, evl, tblS, List.getD_cons_zero, List.getD_cons_succ, List.getElem?_cons_zero, List.getElem?_cons_succ, tt_b, int_i, str_s, rs_r, Option.isSome_some, Option.getD_some, decide_eq_true_eq, decide_eq_false_iff_not, dS_eS, dC_eC, dU_eU, dW_eW, dY_eY, eC_0, eC_1, eU_0, eU_1, eW_0, eW_1, eW_2, eY_0, eY_1, eS_0, eS_1, eS_2, eS_3, eS_4, eS_5, List.length_map, i_inj, b_inj, s_inj, eC_eq, eU_eq, eW_eq, eY_eq, eS_eq, rng64, List.take_succ_cons, List.take_zero, List.nil_append, List.cons_append, decide_true, decide_false, Bool.or_true, true_and, and_true, gSIi]
      refine ⟨fun hlt => ?_, fun hlt => ?_⟩
      · have hr3 : i64 ((i + ((j : Int) + 1)) + 1) := ⟨by omega, by omega⟩
        refine ⟨fun hx => ?_, fun hx => ⟨hr3, ?_⟩⟩
        · have hx' : tagS s (i + ((j : Int) + 1)) < 0 ∨ tagS s (i + ((j : Int) + 1)) = 4 := by simpa using hx
          rw [all_not (k := j) (by omega)]
          · simp
          · rcases hx' with h | h
            · have : ¬ (0 ≤ tagS s (i + ((j : Int) + 1))) := by omega
              simp [this]
            · simp [h]
        · have hx' : ¬ tagS s (i + ((j : Int) + 1)) < 0 ∧ ¬ tagS s (i + ((j : Int) + 1)) = 4 := by simpa using hx
          rw [updB, if_pos rfl]
          refine ⟨⟨j + 1, by omega, by simp; omega, upto_succ hP (by simp [hx'.2]; omega)⟩, ?_⟩
          simp [D.int]
          omega
      · have : j = K.toNat := by omega
        subst this
        rw [all_yes hP]
        simp
  · simp only [h4, if_false]
    refine ⟨fun hx => ?_, fun hx => ?_⟩
    · simp [hx]
    · simp [hx]

def oldB (vc : So → Ce → Bool) (rg : So → Int → Bool) (s : So) (u : Un) : Bool :=
  rg s u.at' && if u.old.t = 0 then decide (u.old.n = u.at') else if u.old.t = 5 then decide (u.old.n = u.at') && (groupS s u.at' && !decide (tagS s (u.at' - 1) = 5)) else if u.old.t = 1 ∨ u.old.t = 2 ∨ u.old.t = 3 then vc s u.old else false
def oldR : So → Un → Bool := oldB vcR inS
def oldP : So → Un → Bool := oldB vcP fun s i => decide (0 ≤ tagS s i)
theorem ok_ref30_old : FOk q25 (gSUb oldR) := fok_ref30_old q3m ok_ref30_group q44 q2x fun ds outs hw hg => by
  obtain ⟨d, r, rfl, hd, e, r', rfl, he, rfl⟩ := hw
  obtain ⟨s, rfl, hs⟩ := wfS hd
  obtain ⟨u, rfl, hu⟩ := wfU he
  simp only [gSUb, dS_eS, dU_eU, Option.some.injEq] at hg
  subst hg
  have hl := hs.cs.1
  simp only [q5c, Tree.go, allSay, X.says, X.ev, X.evs, evl, tblS, List.getD_cons_zero, List.getD_cons_succ, List.getElem?_cons_zero, List.getElem?_cons_succ, tt_b, int_i, str_s, rs_r, Option.isSome_some, Option.getD_some, decide_eq_true_eq, decide_eq_false_iff_not, dS_eS, dC_eC, dU_eU, dW_eW, dY_eY, eC_0, eC_1, eU_0, eU_1, eW_0, eW_1, eW_2, eY_0, eY_1, eS_0, eS_1, eS_2, eS_3, eS_4, eS_5, List.length_map, i_inj, b_inj, s_inj, eC_eq, eU_eq, eW_eq, eY_eq, eS_eq, rng64, List.take_succ_cons, List.take_zero, List.nil_append, List.cons_append, decide_true, decide_false, Bool.or_true, true_and, and_true, gSIi, gSIb, gSCb, gSIbP, oldR, oldB]
  cases hin : inS s u.at' with
  | false => simp
  | true =>
    have h1 := inS_iff.1 hin
    have hr : i64 (u.at' - 1) := ⟨by omega, by omega⟩
    simp only [hr, if_true]
    by_cases h0 : u.old.t = 0
    · simp [h0]
    · by_cases h5 : u.old.t = 5
      · simp [h5, Bool.and_assoc, tt_b, rng64, hr.1, hr.2]
      · by_cases h2 : u.old.t = 1
        · simp [h2]
        · by_cases h3 : u.old.t = 2
          · simp [h3]
          · by_cases h4 : u.old.t = 3
            · simp [h4]
            · simp [h0, h5, h2, h3, h4]
theorem ok_cells_validUndo : FOk q17 (gSUb oldP) := fok_cells_validUndo q33 ok_cells_group q2b fun ds outs hw hg => by
  obtain ⟨d, r, rfl, hd, e, r', rfl, he, rfl⟩ := hw
  obtain ⟨s, rfl, hs⟩ := wfS hd
  obtain ⟨u, rfl, hu⟩ := wfU he
  simp only [gSUb, dS_eS, dU_eU, Option.some.injEq] at hg
  subst hg
  have hl := hs.cs.1
  simp only [q3c, Tree.go, allSay, X.says, X.ev, X.evs, evl, tblS, List.getD_cons_zero, List.getD_cons_succ, List.getElem?_cons_zero, List.getElem?_cons_succ, tt_b, int_i, str_s, rs_r, Option.isSome_some, Option.getD_some, decide_eq_true_eq, decide_eq_false_iff_not, dS_eS, dC_eC, dU_eU, dW_eW, dY_eY, eC_0, eC_1, eU_0, eU_1, eW_0, eW_1, eW_2, eY_0, eY_1, eS_0, eS_1, eS_2, eS_3, eS_4, eS_5, List.length_map, i_inj, b_inj, s_inj, eC_eq, eU_eq, eW_eq, eY_eq, eS_eq, rng64, List.take_succ_cons, List.take_zero, List.nil_append, List.cons_append, decide_true, decide_false, Bool.or_true, true_and, and_true, gSIi, gSIb, gSCb, gSIbP, oldP, oldB]
  by_cases ht : 0 ≤ tagS s u.at'
  · have ht' : ¬ (tagS s u.at' < 0) := by omega
    have hin : inS s u.at' = true := by
      cases hin : inS s u.at' with
      | true => rfl
      | false => rw [tagS_out hin] at ht; omega
    have h1 := inS_iff.1 hin
    have hr : i64 (u.at' - 1) := ⟨by omega, by omega⟩
    simp only [hr, hin, ht, ht', if_true]
    by_cases h0 : u.old.t = 0
    · simp [h0]
    · by_cases h5 : u.old.t = 5
      · simp [h5, Bool.and_assoc, tt_b, rng64, hr.1, hr.2]
      · by_cases h2 : u.old.t = 1
        · simp [h2]
        · by_cases h3 : u.old.t = 2
          · simp [h3]
          · by_cases h4 : u.old.t = 3
            · simp [h4]
            · simp [h0, h5, h2, h3, h4]
  · have ht' : tagS s u.at' < 0 := by omega
    simp [ht, ht']
end Go.Proofs.Ytinclokohcommaa


namespace Go.Proofs.Ytinclokohcommaa
open Go.RowKit
set_option linter.unusedVariables false
set_option linter.unusedSimpArgs false

section
variable {s : So}

def Ns (s : So) (n : Int) : Prop := tagS s n = 0 ∧ ¬ (cellAt s n).n = n
abbrev nx (s : So) (n : Int) : Int := (cellAt s n).n
theorem endsN_ns {k : Nat} {n : Int} (h : Ns s n) : endsN s (k + 1) n = endsN s k (nx s n) := if_pos h
theorem endsN_st {k : Nat} {n : Int} (h : ¬ Ns s n) : endsN s (k + 1) n = true := if_neg h
theorem Ns.inS {n : Int} (h : Ns s n) : inS s n = true := tag_in' (by decide) h.1
theorem endsN_up {k : Nat} : ∀ {n : Int}, endsN s k n = true → endsN s (k + 1) n = true := by
  induction k with
  | zero => intro n h; cases h
  | succ k ih =>
    intro n h
    by_cases hn : Ns s n
    · rw [endsN_ns hn] at h ⊢
      exact ih h
    · exact endsN_st hn
theorem endsN_le {k j : Nat} (hk : k ≤ j) {n : Int} (h : endsN s k n = true) : endsN s j n = true := by
  obtain ⟨d, rfl⟩ := Nat.exists_eq_add_of_le hk
  clear hk
  induction d with
  | zero => exact h
  | succ d ih => exact endsN_up ih
def En (s : So) (n : Int) : Prop := ∃ k, endsN s k n = true
theorem En.st {n : Int} (h : ¬ Ns s n) : En s n := ⟨1, endsN_st h⟩
theorem En.ns {n : Int} (h : Ns s n) (he : En s (nx s n)) : En s n := let ⟨k, hk⟩ := he; ⟨k + 1, (endsN_ns h).trans hk⟩

theorem nodup_lt : ∀ (n : Nat) (l : List Nat), l.Nodup → (∀ x ∈ l, x < n) → l.length ≤ n
  | 0, [], _, _ => Nat.le_refl _
  | 0, x :: l, _, h => absurd (h x List.mem_cons_self) (Nat.not_lt_zero _)
  | n + 1, l, hn, h => by
    have h1 := nodup_lt n (l.erase n) (hn.erase n) fun x hx => by
      have h2 := (hn.mem_erase_iff).1 hx
      have := h x h2.2
      have := h2.1
      omega
    have h2 := List.length_erase (a := n) (l := l)
    split at h2 <;> omega

theorem rank_list : ∀ (k : Nat) (n : Int), endsN s (k + 1) n = true → endsN s k n = false → ∃ l : List Int, l.length = k ∧ l.Nodup ∧ (∀ x ∈ l, inS s x = true) ∧ ∀ x ∈ l, ∃ j, j ≤ k ∧ endsN s (j + 1) x = true
  | 0, n, _, _ => ⟨[], rfl, List.nodup_nil, (fun x hx => by cases hx), fun x hx => by cases hx⟩
  | k + 1, n, h1, h2 => by
    have hn : Ns s n := Classical.byContradiction fun hn => by rw [endsN_st hn] at h2; cases h2
    rw [endsN_ns hn] at h1 h2
    obtain ⟨l, e1, e2, e3, e4⟩ := rank_list k _ h1 h2
    refine ⟨n :: l, by simp [e1], ?_, fun x hx => ?_, fun x hx => ?_⟩
    · refine List.nodup_cons.2 ⟨fun hm => ?_, e2⟩
      obtain ⟨j, hj, he⟩ := e4 n hm
      rw [endsN_ns hn] at he
      rw [endsN_le hj he] at h2
      cases h2
    · rcases List.mem_cons.1 hx with rfl | hx
      · exact hn.inS
      · exact e3 x hx
    · rcases List.mem_cons.1 hx with rfl | hx
      · exact ⟨k + 1, Nat.le_refl _, by rw [endsN_ns hn]; exact h1⟩
      · obtain ⟨j, hj, he⟩ := e4 x hx
        exact ⟨j, by omega, he⟩
theorem En.ends {n : Int} (h : En s n) : endsB s n = true := by
  obtain ⟨k, hk⟩ := h
  induction k with
  | zero => cases hk
  | succ k ih =>
    cases hk' : endsN s k n with
    | true => exact ih hk'
    | false =>
      obtain ⟨l, e1, e2, e3, -⟩ := rank_list k n hk hk'
      have h1 := nodup_lt s.cs.length (l.map Int.toNat) ?_ ?_
      · rw [List.length_map, e1] at h1
        exact endsN_le (by omega) hk
      · refine List.Pairwise.map _ (fun a b h => h) ?_
        refine List.Pairwise.imp_of_mem (R := fun a b => a ≠ b) (fun {a b} ha hb hab e => hab ?_) e2
        have h1 := inS_iff.1 (e3 a ha)
        have h2 := inS_iff.1 (e3 b hb)
        omega
      · intro x hx
        obtain ⟨a, ha, rfl⟩ := List.mem_map.1 hx
        have h1 := inS_iff.1 (e3 a ha)
        omega

def Ch (s : So) : List Int → Int → Prop
  | [], _ => True
  | q :: l, a => Ns s q ∧ nx s q = l.headD a ∧ Ch s l a
theorem Ch.snoc : ∀ {l : List Int} {a b : Int}, Ch s l a → Ns s a → nx s a = b → Ch s (l ++ [a]) b
  | [], a, b, _, h1, h2 => ⟨h1, h2, trivial⟩
  | q :: l, a, b, ⟨g1, g2, g3⟩, h1, h2 => ⟨g1, by cases l <;> exact g2, Ch.snoc g3 h1 h2⟩
theorem Ch.en : ∀ {l : List Int} {a : Int}, Ch s l a → En s a → ∀ q ∈ l, En s q
  | [], a, _, _, q, hq => by cases hq
  | q :: l, a, ⟨g1, g2, g3⟩, he, x, hx => by
    have ih := Ch.en g3 he
    rcases List.mem_cons.1 hx with rfl | hx
    · refine En.ns g1 ?_
      rw [g2]
      cases l with
      | nil => exact he
      | cons y l => exact ih y List.mem_cons_self
    · exact ih x hx
theorem Ch.next : ∀ {l : List Int} {a : Int}, Ch s l a → ∀ q ∈ l, Ns s q ∧ (nx s q ∈ l ∨ nx s q = a)
  | [], a, _, q, hq => by cases hq
  | q :: l, a, ⟨g1, g2, g3⟩, x, hx => by
    rcases List.mem_cons.1 hx with rfl | hx
    · refine ⟨g1, ?_⟩
      rw [g2]
      cases l with
      | nil => exact .inr rfl
      | cons y l => exact .inl (by simp)
    · obtain ⟨h1, h2⟩ := Ch.next g3 x hx
      exact ⟨h1, h2.imp (List.mem_cons_of_mem _) id⟩
theorem closed_no {Q : List Int} (h : ∀ q ∈ Q, Ns s q ∧ nx s q ∈ Q) : ∀ (k : Nat) (q : Int), q ∈ Q → endsN s k q = false
  | 0, q, _ => rfl
  | k + 1, q, hq => by
    rw [endsN_ns (h q hq).1]
    exact closed_no h k _ (h q hq).2

def acyP (s : So) : Bool := (List.range s.cs.length).all fun i => endsB s (i : Nat)
def acyQ (s : So) : Bool := decide (s.cs.length ≤ 16777216) && (List.range s.cs.length).all fun i => !decide ((cellAt s (i : Nat)).t = 0) || inS s (cellAt s (i : Nat)).n

structure Mk0 (s : So) (m : List Int) : Prop where
  len : m.length = s.cs.length
  en : ∀ j : Nat, m.getD j 0 = 2 → En s j
theorem marks_get {m : List Int} {i : Int} (h0 : 0 ≤ i) (h : i < m.length) : (D.r (m.map D.i)).get i = .i (m.getD i.toNat 0) := by
  have : i.toNat < m.length := by omega
  simp [D.get, D.rs, List.getD_eq_getElem?_getD, this]
theorem marks_set {m : List Int} {k : Nat} {x : Int} : (m.map D.i).set k (.i x) = (m.set k x).map D.i := by simp
theorem getD_set {m : List Int} {k j : Nat} {x : Int} (hk : k < m.length) : (m.set k x).getD j 0 = if k = j then x else m.getD j 0 := by
  simp only [List.getD_eq_getElem?_getD, List.getElem?_set, hk]
  split <;> simp_all
end
end Go.Proofs.Ytinclokohcommaa


namespace Go.Proofs.Ytinclokohcommaa
open Go.RowKit
set_option linter.unusedVariables false
set_option linter.unusedSimpArgs false

def markT (P M : X) : Tree := .loop 16 8 [(.lit (.i 0)), M] (.br (.lt (.tok 8) (.len P)) (.need [(.le (.lit (.i 0)) (.tok 8)), (.lt (.tok 8) (.len P))] (.need [(.le (.lit (.i 0)) (.get P (.tok 8))), (.lt (.get P (.tok 8)) (.len (.tok 9)))] (.need [(.rng .i64 (.add (.tok 8) (.lit (.i 1))))] (.back 16 [(.add (.tok 8) (.lit (.i 1))), (.put (.tok 9) (.get P (.tok 8)) (.lit (.i 2)))])))) (.need [(.rng .i64 (.add (.tok 2) (.lit (.i 1))))] (.back 3 [(.tok 6), (.add (.tok 2) (.lit (.i 1))), (.tok 9)])))

theorem take_mem_snoc {l : List Int} {k : Nat} (h : k < l.length) (x : Int) : x ∈ l.take (k + 1) ↔ x ∈ l.take k ∨ x = l.getD k default := by
  rw [take_snoc h]
  simp

theorem mark_ok {S : Nat → List D → Option (List D)} {R : List D → Prop} {L : List D} {B : Nat → List D → Prop} {P M : X} {l m : List Int} {i : Nat} (hL : L.length = 8) (hP : ∀ e, P.ev (evl S (L ++ e)) = .r (l.map D.i)) (hM : M.ev (evl S L) = .r (m.map D.i))
    (h2 : L.getD 2 .u = .i i) (hi : i64 ((i : Int) + 1)) (hl : ∀ x ∈ l, 0 ≤ x ∧ x < m.length) (hll : l.length ≤ 16777216)
    (hB : ∀ f : List Int, f.length = m.length → (∀ j : Nat, j < m.length → f.getD j 0 = if (j : Int) ∈ l then 2 else m.getD j 0) → B 3 [L.getD 6 .u, .i ((i : Int) + 1), .r (f.map D.i)]) : (markT P M).go S R L B := by
  unfold markT
  rw [q1j]
  have hM' : (evl S L) = ⟨fun k => L.getD k .u, S⟩ := rfl
  refine ⟨fun st => ∃ (k : Nat) (f : List Int), k ≤ l.length ∧ st = [.i k, .r (f.map D.i)] ∧ f.length = m.length ∧ ∀ j : Nat, j < m.length → f.getD j 0 = if (j : Int) ∈ l.take k then 2 else m.getD j 0, fun st => l.length - (st.getD 0 .u).int.toNat, ⟨0, m, Nat.zero_le _, by simp [X.evs, X.ev, hM], rfl, fun j _ => by simp⟩, ?_⟩
  rintro st - ⟨k, f, hk, rfl, hfl, hf⟩
  rw [List.take_of_length_le (by omega)]
  have t : ∀ j, j < 8 → (L ++ [D.i k, D.r (f.map D.i)]).getD j .u = L.getD j .u := fun j hj => by
    simp only [List.getD_eq_getElem?_getD]
    rw [List.getElem?_append_left (by omega)]
  have t8 : (L ++ [D.i k, D.r (f.map D.i)]).getD 8 .u = .i k := by
    simp only [List.getD_eq_getElem?_getD]
    rw [List.getElem?_append_right (by omega), hL]
    rfl
  have t9 : (L ++ [D.i k, D.r (f.map D.i)]).getD 9 .u = .r (f.map D.i) := by
    simp only [List.getD_eq_getElem?_getD]
    rw [List.getElem?_append_right (by omega), hL]
    rfl
  have hP' := hP [D.i k, D.r (f.map D.i)]
  have e2 : (L ++ [D.i k, D.r (f.map D.i)]).getD 2 .u = .i i := (t 2 (by omega)).trans h2
  have e6 := t 6 (by omega)
  generalize hg : evl S (L ++ [D.i k, D.r (f.map D.i)]) = g at hP'
  have hE : ∀ n, g.E n = (L ++ [D.i k, D.r (f.map D.i)]).getD n .u := fun n => by rw [← hg]; rfl
  simp only [q00, go_br, q02, allSay, X.says, hg, X.evs, X.ev, hP', hE, t8, t9, e2, e6, int_i, rs_r, tt_b, List.length_map, decide_eq_true_eq, decide_eq_false_iff_not, and_true]
  refine ⟨fun hlt => ?_, fun hlt => ?_⟩
  · have hkl : k < l.length := by omega
    have hm := getD_mem hkl
    have hr := hl _ hm
    have hget : (D.r (l.map D.i)).get (k : Int) = .i (l.getD k default) := get_n D.i hkl
    rw [hget]
    generalize hx : l.getD k default = x at hm hr
    simp only [int_i]
    refine ⟨⟨by omega, hlt⟩, ⟨hr.1, by omega⟩, rng64.2 ⟨by omega, by omega⟩, ?_⟩
    rw [updB, if_pos rfl]
    refine ⟨⟨k + 1, f.set x.toNat 2, hkl, by simp, by simp [hfl], fun j hj => ?_⟩, ?_⟩
    · rw [getD_set (by omega), hf j hj]
      by_cases hjx : x.toNat = j
      · have : (j : Int) ∈ l.take (k + 1) := (take_mem_snoc hkl _).2 (.inr (by omega))
        rw [if_pos hjx, if_pos this]
      · rw [if_neg hjx]
        by_cases hm2 : (j : Int) ∈ l.take k
        · rw [if_pos hm2, if_pos ((take_mem_snoc hkl _).2 (.inl hm2))]
        · rw [if_neg hm2, if_neg fun h => ?_]
          rcases (take_mem_snoc hkl _).1 h with h | h
          · exact hm2 h
          · omega
    · simp [D.int]
      omega
  · have : k = l.length := by omega
    subst this
    refine ⟨rng64.2 hi, ?_⟩
    rw [updB, if_neg (by decide)]
    rw [List.take_length] at hf
    exact hB f hfl hf

instance {s : So} {n : Int} : Decidable (Ns s n) := inferInstanceAs (Decidable (_ ∧ _))

theorem ok_cells_acyclic : FOk q1i (gSbP acyQ acyP) := fok_cells_acyclic fun ds outs hw hg => by
  obtain ⟨d, r, rfl, hd, rfl⟩ := hw
  obtain ⟨s, rfl, hs⟩ := wfS hd
  simp only [gSbP, dS_eS, Option.ite_none_right_eq_some, Option.some.injEq, acyQ, Bool.and_eq_true, decide_eq_true_eq] at hg
  obtain ⟨⟨hlen, hrf⟩, rfl⟩ := hg
  have hrange : ∀ n : Int, Ns s n → inS s (nx s n) = true := fun n hn => by
    have h1 := inS_iff.1 hn.inS
    have h2 := all_of hrf (k := n.toNat) (by omega)
    have e : ((n.toNat : Nat) : Int) = n := by omega
    have h0 : (cellAt s n).t = 0 := by rw [← tagS_in hn.inS]; exact hn.1
    rw [e] at h2
    simpa [h0] using h2
  rw [q3y, q00]
  refine ⟨by simp only [q00, go_br, q01, q02, allSay, X.says, X.ev, X.evs, evl, tblS, List.getD_cons_zero, List.getD_cons_succ, List.getElem?_cons_zero, List.getElem?_cons_succ, tt_b, int_i, str_s, rs_r, Option.isSome_some, Option.getD_some, decide_eq_true_eq, decide_eq_false_iff_not, dS_eS, dC_eC, dU_eU, dW_eW, dY_eY, eC_0, eC_1, eU_0, eU_1, eW_0, eW_1, eW_2, eY_0, eY_1, eS_0, eS_1, eS_2, eS_3, eS_4, eS_5, List.length_map, i_inj, b_inj, s_inj, eC_eq, eU_eq, eW_eq, eY_eq, eS_eq, rng64, List.take_succ_cons, List.take_zero, List.nil_append, List.cons_append, decide_true, decide_false, Bool.or_true, true_and, and_true]; omega, ?_⟩
  rw [q1j]
  refine ⟨fun st => ∃ (i : Nat) (m : List Int), i ≤ s.cs.length ∧ st = [.b false, .i i, .r (m.map D.i)] ∧ Mk0 s m ∧ (∀ j : Nat, j < s.cs.length → m.getD j 0 = 0 ∨ m.getD j 0 = 2) ∧ ∀ j : Nat, j < i → En s j, fun st => s.cs.length - (st.getD 1 .u).int.toNat,
    ⟨0, List.replicate s.cs.length 0, Nat.zero_le _, by simp [X.evs, X.ev, evl, eS_0, D.int, D.rs], ⟨by simp, fun j hj => ?_⟩, fun j hj => ?_, fun j hj => absurd hj (Nat.not_lt_zero _)⟩, ?_⟩
  · exfalso
    simp only [List.getD_eq_getElem?_getD, List.getElem?_replicate] at hj
    split at hj <;> simp at hj
  · left
    simp [List.getD_eq_getElem?_getD, List.getElem?_replicate, hj]
  rintro st - ⟨i, m, hi, rfl, hm, hm02, hdone⟩
  rw [go_br]
  refine ⟨fun hlt => ?_, fun hlt => ?_⟩
  · have hil : i < s.cs.length := by simpa [X.ev, evl, eS_0, D.int, D.rs, D.tt] using hlt
    rw [q1j]
    refine ⟨fun st => ∃ (l : List Int) (a : Int) (f : List Int), st = [.r (l.map D.i), .i a, .b false, .r (f.map D.i)] ∧ inS s a = true ∧ f.length = s.cs.length ∧ Ch s l a ∧ l.headD a = (i : Int) ∧ (∀ x ∈ l, inS s x = true) ∧ l.length ≤ s.cs.length - f.count 0 ∧ ¬ f.getD a.toNat 0 = 1 ∧
      ∀ j : Nat, j < s.cs.length → f.getD j 0 = if (j : Int) ∈ l then 1 else m.getD j 0, fun st => ((st.getD 3 .u).rs.map D.int).count 0, ⟨[], i, m, by simp [X.evs, X.ev, evl], inS_iff.2 ⟨by omega, by omega⟩, hm.len, trivial, rfl, (fun x hx => by cases hx), Nat.zero_le _, ?_, fun j hj => by simp⟩, ?_⟩
    · have := hm02 i hil
      simp only [Int.toNat_natCast]
      omega
    rintro st - ⟨l, a, f, rfl, hin, hfl, hch, hhd, hl, hll, hna, hf⟩
    have ha := inS_iff.1 hin
    have hfa : (f.getD a.toNat 0) = if a ∈ l then 1 else m.getD a.toNat 0 := by
      have := hf a.toNat (by omega)
      rwa [show ((a.toNat : Nat) : Int) = a by omega] at this
    have hal : a ∉ l := fun h => hna (by rw [hfa, if_pos h])
    rw [if_neg hal] at hfa
    have hmark : (D.r (f.map D.i)).get a = .i (f.getD a.toNat 0) := marks_get ha.1 (by omega)
    rw [q00]
    refine ⟨by simp only [q00, go_br, q01, q02, allSay, X.says, X.ev, X.evs, evl, tblS, List.getD_cons_zero, List.getD_cons_succ, List.getElem?_cons_zero, List.getElem?_cons_succ, tt_b, int_i, str_s, rs_r, Option.isSome_some, Option.getD_some, decide_eq_true_eq, decide_eq_false_iff_not, dS_eS, dC_eC, dU_eU, dW_eW, dY_eY, eC_0, eC_1, eU_0, eU_1, eW_0, eW_1, eW_2, eY_0, eY_1, eS_0, eS_1, eS_2, eS_3, eS_4, eS_5, List.length_map, i_inj, b_inj, s_inj, eC_eq, eU_eq, eW_eq, eY_eq, eS_eq, rng64, List.take_succ_cons, List.take_zero, List.nil_append, List.cons_append, decide_true, decide_false, Bool.or_true, true_and, and_true]; omega, ?_⟩
    rw [go_br]
    -- what the marks are when a path is done
    have finish : ∀ (p : List Int), (∀ x ∈ p, inS s x = true) → (∀ x ∈ p, En s x) → En s i → (∀ x ∈ l, x ∈ p) → ∀ (f' : List Int), f'.length = s.cs.length → (∀ j : Nat, j < s.cs.length → f'.getD j 0 = if (j : Int) ∈ p then 2 else m.getD j 0) →
        updB (fun x x_1 => False) 3 (fun st' => (∃ (i : Nat) (m : List Int), i ≤ s.cs.length ∧ st' = [.b false, .i i, .r (m.map D.i)] ∧ Mk0 s m ∧ (∀ j : Nat, j < s.cs.length → m.getD j 0 = 0 ∨ m.getD j 0 = 2) ∧ ∀ j : Nat, j < i → En s j) ∧ s.cs.length - (st'.getD 1 .u).int.toNat < s.cs.length - (([D.b false, D.i i, D.r (m.map D.i)] : List D).getD 1 .u).int.toNat) 3 [.b false, .i ((i : Int) + 1), .r (f'.map D.i)] := by
      intro p hp1 hp2 hei hlp f' hf1 hf2
      rw [updB, if_pos rfl]
      refine ⟨⟨i + 1, f', hil, by simp, ⟨hf1, fun j hj => ?_⟩, fun j hj => ?_, fun j hj => ?_⟩, ?_⟩
      · by_cases hjl : j < s.cs.length
        · rw [hf2 j hjl] at hj
          split at hj
          · rename_i hjp; exact hp2 _ hjp
          · exact hm.en j hj
        · rw [List.getD_eq_getElem?_getD, List.getElem?_eq_none (by omega)] at hj
          cases hj
      · rw [hf2 j hj]
        split
        · exact .inr rfl
        · exact hm02 j hj
      · rcases Nat.lt_succ_iff_lt_or_eq.1 hj with h | h
        · exact hdone j h
        · rw [h]; exact hei
      · simp [D.int]
        omega
    have hend : En s a → En s i := fun he => by
      cases l with
      | nil => rw [← hhd]; exact he
      | cons y l => rw [← hhd]; exact hch.en he y List.mem_cons_self
    refine ⟨fun hz => ?_, fun hz => ?_⟩
    · -- an unknown cell
      have hz' : f.getD a.toNat 0 = 0 := by
        simp only [q00, go_br, q01, q02, allSay, X.says, X.ev, X.evs, evl, tblS, List.getD_cons_zero, List.getD_cons_succ, List.getElem?_cons_zero, List.getElem?_cons_succ, tt_b, int_i, str_s, rs_r, Option.isSome_some, Option.getD_some, decide_eq_true_eq, decide_eq_false_iff_not, dS_eS, dC_eC, dU_eU, dW_eW, dY_eY, eC_0, eC_1, eU_0, eU_1, eW_0, eW_1, eW_2, eY_0, eY_1, eS_0, eS_1, eS_2, eS_3, eS_4, eS_5, List.length_map, i_inj, b_inj, s_inj, eC_eq, eU_eq, eW_eq, eY_eq, eS_eq, rng64, List.take_succ_cons, List.take_zero, List.nil_append, List.cons_append, decide_true, decide_false, Bool.or_true, true_and, and_true, hmark] at hz
        exact hz
      have hc0 : 0 < f.count 0 := List.count_pos_iff.2 (by
        rw [List.getD_eq_getElem?_getD, List.getElem?_eq_getElem (by omega)] at hz'
        have : f[a.toNat] = 0 := hz'
        exact List.mem_iff_getElem.2 ⟨a.toNat, by omega, this⟩)
      have hcl : f.count 0 ≤ f.length := List.count_le_length
      have hset : (f.set a.toNat 1).count 0 = f.count 0 - 1 := by
        rw [List.count_set (by omega)]
        have : f[a.toNat]'(by omega) = 0 := by
          rw [List.getD_eq_getElem?_getD, List.getElem?_eq_getElem (by omega)] at hz'
          exact hz'
        simp [this]
      rw [q00, q00, q00]
      refine ⟨by simp only [q00, go_br, q01, q02, allSay, X.says, X.ev, X.evs, evl, tblS, List.getD_cons_zero, List.getD_cons_succ, List.getElem?_cons_zero, List.getElem?_cons_succ, tt_b, int_i, str_s, rs_r, Option.isSome_some, Option.getD_some, decide_eq_true_eq, decide_eq_false_iff_not, dS_eS, dC_eC, dU_eU, dW_eW, dY_eY, eC_0, eC_1, eU_0, eU_1, eW_0, eW_1, eW_2, eY_0, eY_1, eS_0, eS_1, eS_2, eS_3, eS_4, eS_5, List.length_map, i_inj, b_inj, s_inj, eC_eq, eU_eq, eW_eq, eY_eq, eS_eq, rng64, List.take_succ_cons, List.take_zero, List.nil_append, List.cons_append, decide_true, decide_false, Bool.or_true, true_and, and_true]; omega, by simp only [q00, go_br, q01, q02, allSay, X.says, X.ev, X.evs, evl, tblS, List.getD_cons_zero, List.getD_cons_succ, List.getElem?_cons_zero, List.getElem?_cons_succ, tt_b, int_i, str_s, rs_r, Option.isSome_some, Option.getD_some, decide_eq_true_eq, decide_eq_false_iff_not, dS_eS, dC_eC, dU_eU, dW_eW, dY_eY, eC_0, eC_1, eU_0, eU_1, eW_0, eW_1, eW_2, eY_0, eY_1, eS_0, eS_1, eS_2, eS_3, eS_4, eS_5, List.length_map, i_inj, b_inj, s_inj, eC_eq, eU_eq, eW_eq, eY_eq, eS_eq, rng64, List.take_succ_cons, List.take_zero, List.nil_append, List.cons_append, decide_true, decide_false, Bool.or_true, true_and, and_true]; omega, by simp only [q00, go_br, q01, q02, allSay, X.says, X.ev, X.evs, evl, tblS, List.getD_cons_zero, List.getD_cons_succ, List.getElem?_cons_zero, List.getElem?_cons_succ, tt_b, int_i, str_s, rs_r, Option.isSome_some, Option.getD_some, decide_eq_true_eq, decide_eq_false_iff_not, dS_eS, dC_eC, dU_eU, dW_eW, dY_eY, eC_0, eC_1, eU_0, eU_1, eW_0, eW_1, eW_2, eY_0, eY_1, eS_0, eS_1, eS_2, eS_3, eS_4, eS_5, List.length_map, i_inj, b_inj, s_inj, eC_eq, eU_eq, eW_eq, eY_eq, eS_eq, rng64, List.take_succ_cons, List.take_zero, List.nil_append, List.cons_append, decide_true, decide_false, Bool.or_true, true_and, and_true]; omega, ?_⟩
      rw [go_br]
      have hcond : (X.ev (evl (tblS []) ([eS s, D.b false, D.i i, D.r (m.map D.i)] ++ [D.r (l.map D.i), D.i a, D.b false, D.r (f.map D.i)])) ((.or (.not (.eq (.fld (.get (.fld (.tok 0) 0) (.tok 5)) 0) (.lit (.i 0)))) (.eq (.fld (.get (.fld (.tok 0) 0) (.tok 5)) 1) (.tok 5))))).tt = !decide (Ns s a) := by
        simp only [q00, go_br, q01, q02, allSay, X.says, X.ev, X.evs, evl, tblS, List.getD_cons_zero, List.getD_cons_succ, List.getElem?_cons_zero, List.getElem?_cons_succ, tt_b, int_i, str_s, rs_r, Option.isSome_some, Option.getD_some, decide_eq_true_eq, decide_eq_false_iff_not, dS_eS, dC_eC, dU_eU, dW_eW, dY_eY, eC_0, eC_1, eU_0, eU_1, eW_0, eW_1, eW_2, eY_0, eY_1, eS_0, eS_1, eS_2, eS_3, eS_4, eS_5, List.length_map, i_inj, b_inj, s_inj, eC_eq, eU_eq, eW_eq, eY_eq, eS_eq, rng64, List.take_succ_cons, List.take_zero, List.nil_append, List.cons_append, decide_true, decide_false, Bool.or_true, true_and, and_true, cell_get hin, Ns, tagS_in hin]
        by_cases h0 : (cellAt s a).t = 0 <;> simp [h0]
      refine ⟨fun hst => ?_, fun hst => ?_⟩
      · have hns : ¬ Ns s a := by
          have := hcond.symm.trans hst
          simpa using this
        have hea := En.st hns
        refine mark_ok (P := .app (.tok 4) (.row [.tok 5])) (l := l ++ [a]) (m := f.set a.toNat 1) (i := i) rfl (fun e => by simp [X.ev, X.evs, evl, D.rs]) (by simp [X.ev, evl, D.rs, D.int]) rfl ⟨by omega, by omega⟩ (fun x hx => ?_) (by simp; omega) fun f' hf1 hf2 => ?_
        · rcases List.mem_append.1 hx with hx | hx
          · have := inS_iff.1 (hl x hx); simp; omega
          · obtain rfl : x = a := by simpa using hx
            simp; omega
        · refine finish (l ++ [a]) (fun x hx => ?_) (fun x hx => ?_) (hend hea) (fun x hx => List.mem_append_left _ hx) f' (by simpa [hfl] using hf1) fun j hj => ?_
          · rcases List.mem_append.1 hx with hx | hx
            · exact hl x hx
            · obtain rfl : x = a := by simpa using hx
              exact hin
          · rcases List.mem_append.1 hx with hx | hx
            · exact hch.en hea x hx
            · obtain rfl : x = a := by simpa using hx
              exact hea
          · rw [hf2 j (by simp; omega)]
            by_cases hjm : (j : Int) ∈ l ++ [a]
            · rw [if_pos hjm, if_pos hjm]
            · rw [if_neg hjm, if_neg hjm, getD_set (by omega), if_neg, hf j hj, if_neg fun h => hjm (List.mem_append_left _ h)]
              intro e
              exact hjm (List.mem_append_right _ (by simp; omega))
      · have hns : Ns s a := by
          have := hcond.symm.trans hst
          simpa using this
        have hin2 : inS s (cellAt s a).n = true := hrange a hns
        have hb := inS_iff.1 hin2
        have hgb : (D.r ((f.set a.toNat 1).map D.i)).get ((cellAt s a).n) = .i ((f.set a.toNat 1).getD ((cellAt s a).n).toNat 0) := marks_get hb.1 (by simp; omega)
        have hput : D.r ((f.map D.i).set a.toNat (.i 1)) = D.r ((f.set a.toNat 1).map D.i) := by rw [marks_set]
        rw [q00]
        refine ⟨by simp only [q00, go_br, q01, q02, allSay, X.says, X.ev, X.evs, evl, tblS, List.getD_cons_zero, List.getD_cons_succ, List.getElem?_cons_zero, List.getElem?_cons_succ, tt_b, int_i, str_s, rs_r, Option.isSome_some, Option.getD_some, decide_eq_true_eq, decide_eq_false_iff_not, dS_eS, dC_eC, dU_eU, dW_eW, dY_eY, eC_0, eC_1, eU_0, eU_1, eW_0, eW_1, eW_2, eY_0, eY_1, eS_0, eS_1, eS_2, eS_3, eS_4, eS_5, List.length_map, i_inj, b_inj, s_inj, eC_eq, eU_eq, eW_eq, eY_eq, eS_eq, rng64, List.take_succ_cons, List.take_zero, List.nil_append, List.cons_append, decide_true, decide_false, Bool.or_true, true_and, and_true, cell_get hin, List.length_set]; omega, ?_⟩
        rw [go_br]
        simp only [q00, go_br, q01, q02, allSay, X.says, X.ev, X.evs, evl, tblS, List.getD_cons_zero, List.getD_cons_succ, List.getElem?_cons_zero, List.getElem?_cons_succ, tt_b, int_i, str_s, rs_r, Option.isSome_some, Option.getD_some, decide_eq_true_eq, decide_eq_false_iff_not, dS_eS, dC_eC, dU_eU, dW_eW, dY_eY, eC_0, eC_1, eU_0, eU_1, eW_0, eW_1, eW_2, eY_0, eY_1, eS_0, eS_1, eS_2, eS_3, eS_4, eS_5, List.length_map, i_inj, b_inj, s_inj, eC_eq, eU_eq, eW_eq, eY_eq, eS_eq, rng64, List.take_succ_cons, List.take_zero, List.nil_append, List.cons_append, decide_true, decide_false, Bool.or_true, true_and, and_true, cell_get hin, hput, hgb]
        have hf' : ∀ j : Nat, j < s.cs.length → (f.set a.toNat 1).getD j 0 = if (j : Int) ∈ l ++ [a] then 1 else m.getD j 0 := fun j hj => by
          rw [getD_set (by omega), hf j hj]
          by_cases hja : a.toNat = j
          · rw [if_pos hja, if_pos (List.mem_append_right _ (by simp; omega))]
          · rw [if_neg hja]
            by_cases hjl : (j : Int) ∈ l
            · rw [if_pos hjl, if_pos (List.mem_append_left _ hjl)]
            · rw [if_neg hjl, if_neg fun h => ?_]
              rcases List.mem_append.1 h with h | h
              · exact hjl h
              · simp at h; omega
        refine ⟨fun hact => ?_, fun hact => ?_⟩
        · have hmem : (cellAt s a).n ∈ l ++ [a] := by
            rw [hf' _ (by omega), show ((((cellAt s a).n).toNat : Nat) : Int) = (cellAt s a).n by omega] at hact
            split at hact
            · assumption
            · have := hm02 ((cellAt s a).n).toNat (by omega)
              omega
          have hcl := closed_no (s := s) (Q := l ++ [a]) fun q hq => by
            rcases List.mem_append.1 hq with hq | hq
            · obtain ⟨g1, g2⟩ := hch.next q hq
              refine ⟨g1, g2.elim (List.mem_append_left _) fun e => List.mem_append_right _ (by simp [e])⟩
            · obtain rfl : q = a := by simpa using hq
              exact ⟨hns, hmem⟩
          have : acyP s = false := all_not hil (hcl _ _ (by
            rw [← hhd]
            cases l <;> simp))
          rw [this]
        · rw [updB, if_pos rfl]
          refine ⟨⟨l ++ [a], (cellAt s a).n, f.set a.toNat 1, by simp, hin2, by simp [hfl], hch.snoc hns rfl, by cases l <;> simpa using hhd, fun x hx => ?_, ?_, hact, hf'⟩, ?_⟩
          · rcases List.mem_append.1 hx with hx | hx
            · exact hl x hx
            · obtain rfl : x = a := by simpa using hx
              exact hin
          · rw [hset]
            simp
            omega
          · show List.count 0 (((f.set a.toNat 1).map D.i).map D.int) < List.count 0 ((f.map D.i).map D.int)
            rw [map_id' int_i, map_id' int_i, hset]
            omega
    · -- a cell that is done
      have hz' : ¬ f.getD a.toNat 0 = 0 := by
        simp only [q00, go_br, q01, q02, allSay, X.says, X.ev, X.evs, evl, tblS, List.getD_cons_zero, List.getD_cons_succ, List.getElem?_cons_zero, List.getElem?_cons_succ, tt_b, int_i, str_s, rs_r, Option.isSome_some, Option.getD_some, decide_eq_true_eq, decide_eq_false_iff_not, dS_eS, dC_eC, dU_eU, dW_eW, dY_eY, eC_0, eC_1, eU_0, eU_1, eW_0, eW_1, eW_2, eY_0, eY_1, eS_0, eS_1, eS_2, eS_3, eS_4, eS_5, List.length_map, i_inj, b_inj, s_inj, eC_eq, eU_eq, eW_eq, eY_eq, eS_eq, rng64, List.take_succ_cons, List.take_zero, List.nil_append, List.cons_append, decide_true, decide_false, Bool.or_true, true_and, and_true, hmark] at hz
        exact hz
      have hea : En s a := by
        have h2 : m.getD a.toNat 0 = 2 := by
          have := hm02 a.toNat (by omega)
          omega
        have := hm.en _ h2
        rwa [show ((a.toNat : Nat) : Int) = a by omega] at this
      refine mark_ok (P := .tok 4) (l := l) (m := f) (i := i) rfl (fun e => by simp [X.ev, evl]) (by simp [X.ev, evl]) rfl ⟨by omega, by omega⟩ (fun x hx => ?_) (by omega) fun f' hf1 hf2 => ?_
      · have := inS_iff.1 (hl x hx); omega
      · refine finish l hl (hch.en hea) (hend hea) (fun x hx => hx) f' (by omega) fun j hj => ?_
        rw [hf2 j (by omega)]
        by_cases hjm : (j : Int) ∈ l
        · rw [if_pos hjm, if_pos hjm]
        · rw [if_neg hjm, if_neg hjm, hf j hj, if_neg hjm]
  · have : i = s.cs.length := by
      have : ¬ (i < s.cs.length) := by simpa [X.ev, evl, eS_0, D.int, D.rs, D.tt] using hlt
      omega
    subst this
    have : acyP s = true := all_yes fun j hj => (hdone j hj).ends
    rw [this]
    rfl
end Go.Proofs.Ytinclokohcommaa


namespace Go.Proofs.Ytinclokohcommaa
open Go.RowKit
set_option linter.unusedVariables false
set_option linter.unusedSimpArgs false

theorem scan_ok {S : Nat → List D → Option (List D)} {R : List D → Prop} {id n : Nat} {x0 : X} {body : Tree} {l : List D} {B : Nat → List D → Prop} {v0 : D} (N : Nat) (P : Nat → Bool) (h0 : x0.ev (evl S l) = v0)
    (h : ∀ (k : Nat) (B' : Nat → List D → Prop), k ≤ N → (∀ j, j < k → P j = true) → (k < N → P k = true → B' id [v0, .i ((k : Int) + 1)]) → (∀ j, j ≠ id → B' j = B j) → body.go S R (l.take n ++ [v0, .i k]) B') : (Tree.loop id n [x0, .lit (.i 0)] body).go S R l B := by
  rw [q1j]
  refine ⟨fun st => ∃ k : Nat, k ≤ N ∧ st = [v0, .i k] ∧ ∀ j, j < k → P j = true, fun st => N - (st.getD 1 .u).int.toNat, ⟨0, Nat.zero_le _, by simp [X.evs, X.ev, h0], fun j hj => absurd hj (Nat.not_lt_zero _)⟩, ?_⟩
  rintro st - ⟨k, hk, rfl, hP⟩
  refine h k _ hk hP (fun hlt hp => ?_) fun j hj => by rw [updB, if_neg hj]
  rw [updB, if_pos rfl]
  refine ⟨⟨k + 1, hlt, by simp, upto_succ hP hp⟩, ?_⟩
  simp [D.int]
  omega

def wkB (vc : So → Ce → Bool) (s : So) (w : Wk) : Bool := decide (1 ≤ w.ser) && (decide (w.ser ≤ s.ser) && (vc s w.att && vc s w.val))
def headB (s : So) : Bool := decide (1 ≤ s.mx) && (decide (s.mx ≤ 1048576) && (decide ((s.cs.length : Int) ≤ s.mx) && (decide (0 ≤ s.ser) && symsB s.ys)))
def validR (s : So) : Bool := headB s && ((List.range s.cs.length).all (fun i => cellR s (i : Nat)) && ((List.range s.tr.length).all (fun i => oldR s (s.tr.getD i default)) && (List.range s.wk.length).all fun i => wkB vcR s (s.wk.getD i default)))
def validP (s : So) : Bool := headB s && ((List.range s.cs.length).all (fun i => fitsP s (i : Nat)) && (acyP s && ((List.range s.tr.length).all (fun i => oldP s (s.tr.getD i default)) && (List.range s.wk.length).all fun i => wkB vcP s (s.wk.getD i default))))

theorem tag_nn {s : So} {n : Int} (h : 0 ≤ tagS s n) : inS s n = true := by
  cases hi : inS s n with
  | true => rfl
  | false => rw [tagS_out hi] at h; omega
theorem fits_acyQ {s : So} (hh : headB s = true) (h : ∀ j, j < s.cs.length → fitsP s (j : Nat) = true) : acyQ s = true := by
  simp only [headB, Bool.and_eq_true, decide_eq_true_eq] at hh
  simp only [acyQ, Bool.and_eq_true, decide_eq_true_eq]
  refine ⟨by omega, all_yes fun j hj => ?_⟩
  have := h j hj
  by_cases h0 : (cellAt s (j : Nat)).t = 0
  · simp only [fitsP, h0, vcP] at this
    have h1 : 0 ≤ tagS s (cellAt s (j : Nat)).n := by
      simp at this
      exact this.1
    simp [tag_nn h1]
  · simp [h0]

theorem ok_ref30_Valid : FOk q22 (gSb validR) := fok_ref30_Valid ok_ref30_symbols ok_ref30_cell ok_ref30_old q2x fun ds outs hw hg => by
  obtain ⟨d, r, rfl, hd, rfl⟩ := hw
  obtain ⟨s, rfl, hs⟩ := wfS hd
  simp only [gSb, dS_eS, Option.some.injEq] at hg
  subst hg
  have hl := hs.cs.1
  have hl2 := hs.tr.1
  have hl3 := hs.wk.1
  have hsy : gYsb symsB [D.r (s.ys.map eY)] = some [.b (symsB s.ys)] := by simp [gYsb, rs_r, map_id' dY_eY]
  rw [q4s, q00]
  refine ⟨by simp only [q00, go_br, q01, q02, allSay, X.says, X.ev, X.evs, evl, tblS, List.getD_cons_zero, List.getD_cons_succ, List.getElem?_cons_zero, List.getElem?_cons_succ, tt_b, int_i, str_s, rs_r, Option.isSome_some, Option.getD_some, decide_eq_true_eq, decide_eq_false_iff_not, dS_eS, dC_eC, dU_eU, dW_eW, dY_eY, eC_0, eC_1, eU_0, eU_1, eW_0, eW_1, eW_2, eY_0, eY_1, eS_0, eS_1, eS_2, eS_3, eS_4, eS_5, List.length_map, i_inj, b_inj, s_inj, eC_eq, eU_eq, eW_eq, eY_eq, eS_eq, rng64, List.take_succ_cons, List.take_zero, List.nil_append, List.cons_append, decide_true, decide_false, Bool.or_true, true_and, and_true, hsy], ?_⟩
  rw [go_br]
  have hcond : (X.ev (evl (tblS [(q1h, gYsb symsB), (q1w, gSIbP cellQ cellR), (q25, gSUb oldR), (q0c, gSCb vcR)]) [eS s]) (.or (.or (.or (.or (.lt (.fld (.tok 0) 5) (.lit (.i 1))) (.lt (.lit (.i 1048576)) (.fld (.tok 0) 5))) (.lt (.fld (.tok 0) 5) (.len (.fld (.tok 0) 0)))) (.lt (.fld (.tok 0) 4) (.lit (.i 0)))) (.not (.call 0 0 [(.fld (.tok 0) 1)])))).tt = !headB s := by
    simp only [q00, go_br, q01, q02, allSay, X.says, X.ev, X.evs, evl, tblS, List.getD_cons_zero, List.getD_cons_succ, List.getElem?_cons_zero, List.getElem?_cons_succ, tt_b, int_i, str_s, rs_r, Option.isSome_some, Option.getD_some, decide_eq_true_eq, decide_eq_false_iff_not, dS_eS, dC_eC, dU_eU, dW_eW, dY_eY, eC_0, eC_1, eU_0, eU_1, eW_0, eW_1, eW_2, eY_0, eY_1, eS_0, eS_1, eS_2, eS_3, eS_4, eS_5, List.length_map, i_inj, b_inj, s_inj, eC_eq, eU_eq, eW_eq, eY_eq, eS_eq, rng64, List.take_succ_cons, List.take_zero, List.nil_append, List.cons_append, decide_true, decide_false, Bool.or_true, true_and, and_true, hsy, headB]
    by_cases h1 : s.mx < 1
    · have : ¬ 1 ≤ s.mx := by omega
      simp [h1, this]
    · by_cases h2 : 1048576 < s.mx
      · have : ¬ s.mx ≤ 1048576 := by omega
        simp [h2, this]
      · by_cases h3 : s.mx < s.cs.length
        · have : ¬ (s.cs.length : Int) ≤ s.mx := by omega
          simp [h3, this]
        · by_cases h4 : s.ser < 0
          · have : ¬ 0 ≤ s.ser := by omega
            simp [h4, this]
          · have a1 : 1 ≤ s.mx := by omega
            have a2 : s.mx ≤ 1048576 := by omega
            have a3 : (s.cs.length : Int) ≤ s.mx := by omega
            have a4 : 0 ≤ s.ser := by omega
            simp [h1, h2, h3, h4, a1, a2, a3, a4]
  refine ⟨fun hx => ?_, fun hx => ?_⟩
  · have hh : headB s = false := by
      have := hcond.symm.trans hx
      simpa using this
    simp [q01, X.evs, X.ev, validR, hh]
  have hh : headB s = true := by
    have := hcond.symm.trans hx
    simpa using this
  have hsy2 : symsB s.ys = true := by
    simp only [headB, Bool.and_eq_true] at hh
    exact hh.2.2.2.2
  refine scan_ok s.cs.length (fun i => cellR s (i : Nat)) (v0 := .b false) rfl fun k B' hk hP hB _ => ?_
  rw [go_br]
  refine ⟨fun hlt => ?_, fun hlt => ?_⟩
  · have hkl : k < s.cs.length := by simpa [X.ev, evl, eS_0, D.int, D.rs, D.tt] using hlt
    have hin : inS s (k : Nat) = true := inS_iff.2 ⟨by omega, by omega⟩
    have hQ : cellQ s (k : Nat) = true := by simp [cellQ, hin, hsy2]
    simp only [q00, go_br, q01, q02, allSay, X.says, X.ev, X.evs, evl, tblS, List.getD_cons_zero, List.getD_cons_succ, List.getElem?_cons_zero, List.getElem?_cons_succ, tt_b, int_i, str_s, rs_r, Option.isSome_some, Option.getD_some, decide_eq_true_eq, decide_eq_false_iff_not, dS_eS, dC_eC, dU_eU, dW_eW, dY_eY, eC_0, eC_1, eU_0, eU_1, eW_0, eW_1, eW_2, eY_0, eY_1, eS_0, eS_1, eS_2, eS_3, eS_4, eS_5, List.length_map, i_inj, b_inj, s_inj, eC_eq, eU_eq, eW_eq, eY_eq, eS_eq, rng64, List.take_succ_cons, List.take_zero, List.nil_append, List.cons_append, decide_true, decide_false, Bool.or_true, true_and, and_true, gSIbP, hQ, if_true]
    refine ⟨fun hb => ?_, fun hb => ⟨⟨by omega, by omega⟩, ?_⟩⟩
    · have : cellR s (k : Nat) = false := by simpa using hb
      have := all_not (P := fun i => cellR s (i : Nat)) hkl this
      simp [validR, this]
    · exact hB hkl (by simpa using hb)
  have hc : (List.range s.cs.length).all (fun i => cellR s (i : Nat)) = true := by
    have : k = s.cs.length := by
      have : ¬ (k < s.cs.length) := by simpa [X.ev, evl, eS_0, D.int, D.rs, D.tt] using hlt
      omega
    subst this
    exact all_yes hP
  refine scan_ok s.tr.length (fun i => oldR s (s.tr.getD i default)) (v0 := .b false) rfl fun k B' hk hP hB _ => ?_
  rw [go_br]
  refine ⟨fun hlt => ?_, fun hlt => ?_⟩
  · have hkl : k < s.tr.length := by simpa [X.ev, evl, eS_2, D.int, D.rs, D.tt] using hlt
    simp only [q00, go_br, q01, q02, allSay, X.says, X.ev, X.evs, evl, tblS, List.getD_cons_zero, List.getD_cons_succ, List.getElem?_cons_zero, List.getElem?_cons_succ, tt_b, int_i, str_s, rs_r, Option.isSome_some, Option.getD_some, decide_eq_true_eq, decide_eq_false_iff_not, dS_eS, dC_eC, dU_eU, dW_eW, dY_eY, eC_0, eC_1, eU_0, eU_1, eW_0, eW_1, eW_2, eY_0, eY_1, eS_0, eS_1, eS_2, eS_3, eS_4, eS_5, List.length_map, i_inj, b_inj, s_inj, eC_eq, eU_eq, eW_eq, eY_eq, eS_eq, rng64, List.take_succ_cons, List.take_zero, List.nil_append, List.cons_append, decide_true, decide_false, Bool.or_true, true_and, and_true, gSUb, get_n eU hkl]
    refine ⟨⟨by omega, by omega⟩, fun hb => ?_, fun hb => ⟨⟨by omega, by omega⟩, ?_⟩⟩
    · have : oldR s (s.tr.getD k default) = false := by simpa only [Bool.not_eq_true'] using hb
      have := all_not (P := fun i => oldR s (s.tr.getD i default)) hkl this
      simp only [validR, this, Bool.false_and, Bool.and_false]
    · exact hB hkl (by simpa only [Bool.not_eq_false'] using hb)
  have hc2 : (List.range s.tr.length).all (fun i => oldR s (s.tr.getD i default)) = true := by
    have : k = s.tr.length := by
      have : ¬ (k < s.tr.length) := by simpa [X.ev, evl, eS_2, D.int, D.rs, D.tt] using hlt
      omega
    subst this
    exact all_yes hP
  refine scan_ok s.wk.length (fun i => wkB vcR s (s.wk.getD i default)) (v0 := .b false) rfl fun k B' hk hP hB _ => ?_
  rw [go_br]
  refine ⟨fun hlt => ?_, fun hlt => ?_⟩
  · have hkl : k < s.wk.length := by simpa [X.ev, evl, eS_3, D.int, D.rs, D.tt] using hlt
    simp only [q00, go_br, q01, q02, allSay, X.says, X.ev, X.evs, evl, tblS, List.getD_cons_zero, List.getD_cons_succ, List.getElem?_cons_zero, List.getElem?_cons_succ, tt_b, int_i, str_s, rs_r, Option.isSome_some, Option.getD_some, decide_eq_true_eq, decide_eq_false_iff_not, dS_eS, dC_eC, dU_eU, dW_eW, dY_eY, eC_0, eC_1, eU_0, eU_1, eW_0, eW_1, eW_2, eY_0, eY_1, eS_0, eS_1, eS_2, eS_3, eS_4, eS_5, List.length_map, i_inj, b_inj, s_inj, eC_eq, eU_eq, eW_eq, eY_eq, eS_eq, rng64, List.take_succ_cons, List.take_zero, List.nil_append, List.cons_append, decide_true, decide_false, Bool.or_true, true_and, and_true, gSCb, get_n eW hkl]
    have hw : ((decide ((s.wk.getD k default).ser < 1) || decide (s.ser < (s.wk.getD k default).ser) || !vcR s (s.wk.getD k default).att || !vcR s (s.wk.getD k default).val)) = !wkB vcR s (s.wk.getD k default) := by
      generalize s.wk.getD k default = w
      simp only [wkB]
      by_cases h1 : w.ser < 1
      · have : ¬ 1 ≤ w.ser := by omega
        simp [h1, this]
      · by_cases h2 : s.ser < w.ser
        · have : ¬ w.ser ≤ s.ser := by omega
          simp [h2, this]
        · have a1 : 1 ≤ w.ser := by omega
          have a2 : w.ser ≤ s.ser := by omega
          simp [h1, h2, a1, a2]
    refine ⟨⟨by omega, by omega⟩, fun hb => ?_, fun hb => ⟨⟨by omega, by omega⟩, ?_⟩⟩
    · rw [hw] at hb
      have := all_not (P := fun i => wkB vcR s (s.wk.getD i default)) hkl (by simpa only [Bool.not_eq_true'] using hb)
      simp only [validR, this, Bool.and_false]
    · rw [hw] at hb
      exact hB hkl (by simpa only [Bool.not_eq_false'] using hb)
  have hc3 : (List.range s.wk.length).all (fun i => wkB vcR s (s.wk.getD i default)) = true := by
    have : k = s.wk.length := by
      have : ¬ (k < s.wk.length) := by simpa [X.ev, evl, eS_3, D.int, D.rs, D.tt] using hlt
      omega
    subst this
    exact all_yes hP
  simp only [q01, X.evs, X.ev, validR, hh, hc, hc2, hc3, Bool.and_true]
theorem ok_cells_Valid : FOk q21 (gSb validP) := fok_cells_Valid ok_cells_validSymbols ok_cells_fits ok_cells_acyclic ok_cells_validUndo q2b fun ds outs hw hg => by
  obtain ⟨d, r, rfl, hd, rfl⟩ := hw
  obtain ⟨s, rfl, hs⟩ := wfS hd
  simp only [gSb, dS_eS, Option.some.injEq] at hg
  subst hg
  have hl := hs.cs.1
  have hl2 := hs.tr.1
  have hl3 := hs.wk.1
  have hsy : gYsb symsB [D.r (s.ys.map eY)] = some [.b (symsB s.ys)] := by simp [gYsb, rs_r, map_id' dY_eY]
  rw [q4p, q00]
  refine ⟨by simp only [q00, go_br, q01, q02, allSay, X.says, X.ev, X.evs, evl, tblS, List.getD_cons_zero, List.getD_cons_succ, List.getElem?_cons_zero, List.getElem?_cons_succ, tt_b, int_i, str_s, rs_r, Option.isSome_some, Option.getD_some, decide_eq_true_eq, decide_eq_false_iff_not, dS_eS, dC_eC, dU_eU, dW_eW, dY_eY, eC_0, eC_1, eU_0, eU_1, eW_0, eW_1, eW_2, eY_0, eY_1, eS_0, eS_1, eS_2, eS_3, eS_4, eS_5, List.length_map, i_inj, b_inj, s_inj, eC_eq, eU_eq, eW_eq, eY_eq, eS_eq, rng64, List.take_succ_cons, List.take_zero, List.nil_append, List.cons_append, decide_true, decide_false, Bool.or_true, true_and, and_true, hsy], ?_⟩
  rw [go_br]
  have hcond : (X.ev (evl (tblS [(q0u, gYsb symsB), (q1x, gSIbP cellQ fitsP), (q1i, gSbP acyQ acyP), (q17, gSUb oldP), (q06, gSCb vcP)]) [eS s]) (.or (.or (.or (.or (.lt (.fld (.tok 0) 5) (.lit (.i 1))) (.lt (.lit (.i 1048576)) (.fld (.tok 0) 5))) (.lt (.fld (.tok 0) 5) (.len (.fld (.tok 0) 0)))) (.lt (.fld (.tok 0) 4) (.lit (.i 0)))) (.not (.call 0 0 [(.fld (.tok 0) 1)])))).tt = !headB s := by
    simp only [q00, go_br, q01, q02, allSay, X.says, X.ev, X.evs, evl, tblS, List.getD_cons_zero, List.getD_cons_succ, List.getElem?_cons_zero, List.getElem?_cons_succ, tt_b, int_i, str_s, rs_r, Option.isSome_some, Option.getD_some, decide_eq_true_eq, decide_eq_false_iff_not, dS_eS, dC_eC, dU_eU, dW_eW, dY_eY, eC_0, eC_1, eU_0, eU_1, eW_0, eW_1, eW_2, eY_0, eY_1, eS_0, eS_1, eS_2, eS_3, eS_4, eS_5, List.length_map, i_inj, b_inj, s_inj, eC_eq, eU_eq, eW_eq, eY_eq, eS_eq, rng64, List.take_succ_cons, List.take_zero, List.nil_append, List.cons_append, decide_true, decide_false, Bool.or_true, true_and, and_true, hsy, headB]
    by_cases h1 : s.mx < 1
    · have : ¬ 1 ≤ s.mx := by omega
      simp [h1, this]
    · by_cases h2 : 1048576 < s.mx
      · have : ¬ s.mx ≤ 1048576 := by omega
        simp [h2, this]
      · by_cases h3 : s.mx < s.cs.length
        · have : ¬ (s.cs.length : Int) ≤ s.mx := by omega
          simp [h3, this]
        · by_cases h4 : s.ser < 0
          · have : ¬ 0 ≤ s.ser := by omega
            simp [h4, this]
          · have a1 : 1 ≤ s.mx := by omega
            have a2 : s.mx ≤ 1048576 := by omega
            have a3 : (s.cs.length : Int) ≤ s.mx := by omega
            have a4 : 0 ≤ s.ser := by omega
            simp [h1, h2, h3, h4, a1, a2, a3, a4]
  refine ⟨fun hx => ?_, fun hx => ?_⟩
  · have hh : headB s = false := by
      have := hcond.symm.trans hx
      simpa using this
    simp [q01, X.evs, X.ev, validP, hh]
  have hh : headB s = true := by
    have := hcond.symm.trans hx
    simpa using this
  have hsy2 : symsB s.ys = true := by
    simp only [headB, Bool.and_eq_true] at hh
    exact hh.2.2.2.2
  refine scan_ok s.cs.length (fun i => fitsP s (i : Nat)) (v0 := .b false) rfl fun k B' hk hP hB _ => ?_
  rw [go_br]
  refine ⟨fun hlt => ?_, fun hlt => ?_⟩
  · have hkl : k < s.cs.length := by simpa [X.ev, evl, eS_0, D.int, D.rs, D.tt] using hlt
    have hin : inS s (k : Nat) = true := inS_iff.2 ⟨by omega, by omega⟩
    have hQ : cellQ s (k : Nat) = true := by simp [cellQ, hin, hsy2]
    simp only [q00, go_br, q01, q02, allSay, X.says, X.ev, X.evs, evl, tblS, List.getD_cons_zero, List.getD_cons_succ, List.getElem?_cons_zero, List.getElem?_cons_succ, tt_b, int_i, str_s, rs_r, Option.isSome_some, Option.getD_some, decide_eq_true_eq, decide_eq_false_iff_not, dS_eS, dC_eC, dU_eU, dW_eW, dY_eY, eC_0, eC_1, eU_0, eU_1, eW_0, eW_1, eW_2, eY_0, eY_1, eS_0, eS_1, eS_2, eS_3, eS_4, eS_5, List.length_map, i_inj, b_inj, s_inj, eC_eq, eU_eq, eW_eq, eY_eq, eS_eq, rng64, List.take_succ_cons, List.take_zero, List.nil_append, List.cons_append, decide_true, decide_false, Bool.or_true, true_and, and_true, gSIbP, hQ, if_true]
    refine ⟨fun hb => ?_, fun hb => ⟨⟨by omega, by omega⟩, ?_⟩⟩
    · have : fitsP s (k : Nat) = false := by simpa using hb
      have := all_not (P := fun i => fitsP s (i : Nat)) hkl this
      simp [validP, this]
    · exact hB hkl (by simpa using hb)
  have hc : (List.range s.cs.length).all (fun i => fitsP s (i : Nat)) = true := by
    have : k = s.cs.length := by
      have : ¬ (k < s.cs.length) := by simpa [X.ev, evl, eS_0, D.int, D.rs, D.tt] using hlt
      omega
    subst this
    exact all_yes hP
  have hq : acyQ s = true := fits_acyQ hh fun j hj => all_of (P := fun i => fitsP s (i : Nat)) hc hj
  rw [q00]
  refine ⟨by simp only [q00, go_br, q01, q02, allSay, X.says, X.ev, X.evs, evl, tblS, List.getD_cons_zero, List.getD_cons_succ, List.getElem?_cons_zero, List.getElem?_cons_succ, tt_b, int_i, str_s, rs_r, Option.isSome_some, Option.getD_some, decide_eq_true_eq, decide_eq_false_iff_not, dS_eS, dC_eC, dU_eU, dW_eW, dY_eY, eC_0, eC_1, eU_0, eU_1, eW_0, eW_1, eW_2, eY_0, eY_1, eS_0, eS_1, eS_2, eS_3, eS_4, eS_5, List.length_map, i_inj, b_inj, s_inj, eC_eq, eU_eq, eW_eq, eY_eq, eS_eq, rng64, List.take_succ_cons, List.take_zero, List.nil_append, List.cons_append, decide_true, decide_false, Bool.or_true, true_and, and_true, gSbP, hq, if_true], ?_⟩
  rw [go_br]
  refine ⟨fun hb => ?_, fun hb => ?_⟩
  · have : acyP s = false := by
      simp only [q00, go_br, q01, q02, allSay, X.says, X.ev, X.evs, evl, tblS, List.getD_cons_zero, List.getD_cons_succ, List.getElem?_cons_zero, List.getElem?_cons_succ, tt_b, int_i, str_s, rs_r, Option.isSome_some, Option.getD_some, decide_eq_true_eq, decide_eq_false_iff_not, dS_eS, dC_eC, dU_eU, dW_eW, dY_eY, eC_0, eC_1, eU_0, eU_1, eW_0, eW_1, eW_2, eY_0, eY_1, eS_0, eS_1, eS_2, eS_3, eS_4, eS_5, List.length_map, i_inj, b_inj, s_inj, eC_eq, eU_eq, eW_eq, eY_eq, eS_eq, rng64, List.take_succ_cons, List.take_zero, List.nil_append, List.cons_append, decide_true, decide_false, Bool.or_true, true_and, and_true, gSbP, hq, if_true] at hb
      simpa only [Bool.not_eq_true'] using hb
    simp only [q01, X.evs, X.ev, validP, this, Bool.false_and, Bool.and_false]
  have ha : acyP s = true := by
    simp only [q00, go_br, q01, q02, allSay, X.says, X.ev, X.evs, evl, tblS, List.getD_cons_zero, List.getD_cons_succ, List.getElem?_cons_zero, List.getElem?_cons_succ, tt_b, int_i, str_s, rs_r, Option.isSome_some, Option.getD_some, decide_eq_true_eq, decide_eq_false_iff_not, dS_eS, dC_eC, dU_eU, dW_eW, dY_eY, eC_0, eC_1, eU_0, eU_1, eW_0, eW_1, eW_2, eY_0, eY_1, eS_0, eS_1, eS_2, eS_3, eS_4, eS_5, List.length_map, i_inj, b_inj, s_inj, eC_eq, eU_eq, eW_eq, eY_eq, eS_eq, rng64, List.take_succ_cons, List.take_zero, List.nil_append, List.cons_append, decide_true, decide_false, Bool.or_true, true_and, and_true, gSbP, hq, if_true] at hb
    simpa only [Bool.not_eq_false'] using hb
  refine scan_ok s.tr.length (fun i => oldP s (s.tr.getD i default)) (v0 := .b false) rfl fun k B' hk hP hB _ => ?_
  rw [go_br]
  refine ⟨fun hlt => ?_, fun hlt => ?_⟩
  · have hkl : k < s.tr.length := by simpa [X.ev, evl, eS_2, D.int, D.rs, D.tt] using hlt
    simp only [q00, go_br, q01, q02, allSay, X.says, X.ev, X.evs, evl, tblS, List.getD_cons_zero, List.getD_cons_succ, List.getElem?_cons_zero, List.getElem?_cons_succ, tt_b, int_i, str_s, rs_r, Option.isSome_some, Option.getD_some, decide_eq_true_eq, decide_eq_false_iff_not, dS_eS, dC_eC, dU_eU, dW_eW, dY_eY, eC_0, eC_1, eU_0, eU_1, eW_0, eW_1, eW_2, eY_0, eY_1, eS_0, eS_1, eS_2, eS_3, eS_4, eS_5, List.length_map, i_inj, b_inj, s_inj, eC_eq, eU_eq, eW_eq, eY_eq, eS_eq, rng64, List.take_succ_cons, List.take_zero, List.nil_append, List.cons_append, decide_true, decide_false, Bool.or_true, true_and, and_true, gSUb, get_n eU hkl]
    refine ⟨⟨by omega, by omega⟩, fun hb => ?_, fun hb => ⟨⟨by omega, by omega⟩, ?_⟩⟩
    · have : oldP s (s.tr.getD k default) = false := by simpa only [Bool.not_eq_true'] using hb
      have := all_not (P := fun i => oldP s (s.tr.getD i default)) hkl this
      simp only [validP, this, Bool.false_and, Bool.and_false]
    · exact hB hkl (by simpa only [Bool.not_eq_false'] using hb)
  have hc2 : (List.range s.tr.length).all (fun i => oldP s (s.tr.getD i default)) = true := by
    have : k = s.tr.length := by
      have : ¬ (k < s.tr.length) := by simpa [X.ev, evl, eS_2, D.int, D.rs, D.tt] using hlt
      omega
    subst this
    exact all_yes hP
  refine scan_ok s.wk.length (fun i => wkB vcP s (s.wk.getD i default)) (v0 := .b false) rfl fun k B' hk hP hB _ => ?_
  rw [go_br]
  refine ⟨fun hlt => ?_, fun hlt => ?_⟩
  · have hkl : k < s.wk.length := by simpa [X.ev, evl, eS_3, D.int, D.rs, D.tt] using hlt
    simp only [q00, go_br, q01, q02, allSay, X.says, X.ev, X.evs, evl, tblS, List.getD_cons_zero, List.getD_cons_succ, List.getElem?_cons_zero, List.getElem?_cons_succ, tt_b, int_i, str_s, rs_r, Option.isSome_some, Option.getD_some, decide_eq_true_eq, decide_eq_false_iff_not, dS_eS, dC_eC, dU_eU, dW_eW, dY_eY, eC_0, eC_1, eU_0, eU_1, eW_0, eW_1, eW_2, eY_0, eY_1, eS_0, eS_1, eS_2, eS_3, eS_4, eS_5, List.length_map, i_inj, b_inj, s_inj, eC_eq, eU_eq, eW_eq, eY_eq, eS_eq, rng64, List.take_succ_cons, List.take_zero, List.nil_append, List.cons_append, decide_true, decide_false, Bool.or_true, true_and, and_true, gSCb, get_n eW hkl]
    have hw : ((decide ((s.wk.getD k default).ser < 1) || decide (s.ser < (s.wk.getD k default).ser) || !vcP s (s.wk.getD k default).att || !vcP s (s.wk.getD k default).val)) = !wkB vcP s (s.wk.getD k default) := by
      generalize s.wk.getD k default = w
      simp only [wkB]
      by_cases h1 : w.ser < 1
      · have : ¬ 1 ≤ w.ser := by omega
        simp [h1, this]
      · by_cases h2 : s.ser < w.ser
        · have : ¬ w.ser ≤ s.ser := by omega
          simp [h2, this]
        · have a1 : 1 ≤ w.ser := by omega
          have a2 : w.ser ≤ s.ser := by omega
          simp [h1, h2, a1, a2]
    refine ⟨⟨by omega, by omega⟩, fun hb => ?_, fun hb => ⟨⟨by omega, by omega⟩, ?_⟩⟩
    · rw [hw] at hb
      have := all_not (P := fun i => wkB vcP s (s.wk.getD i default)) hkl (by simpa only [Bool.not_eq_true'] using hb)
      simp only [validP, this, Bool.and_false]
    · rw [hw] at hb
      exact hB hkl (by simpa only [Bool.not_eq_false'] using hb)
  have hc3 : (List.range s.wk.length).all (fun i => wkB vcP s (s.wk.getD i default)) = true := by
    have : k = s.wk.length := by
      have : ¬ (k < s.wk.length) := by simpa [X.ev, evl, eS_3, D.int, D.rs, D.tt] using hlt
      omega
    subst this
    exact all_yes hP
  simp only [q01, X.evs, X.ev, validP, hh, hc, ha, hc2, hc3, Bool.and_true]
end Go.Proofs.Ytinclokohcommaa


namespace Go.Proofs.Ytinclokohcommaa
open Go.RowKit
set_option linter.unusedVariables false
set_option linter.unusedSimpArgs false

def rowQ (n : Nat) (d : D) : Bool := decide (d.rs.length ≤ n)
theorem rowQ_r (n : Nat) (l : List D) : (rowQ n (.r l) = true) = (l.length ≤ n) := by simp only [rowQ, decide_eq_true_eq]; rfl
def gCl (n : Nat) : List D → Option (List D)
  | [a] => if rowQ n a then some [a] else none
  | _ => none
def clT (n : Nat) : Tree := (.amb (.tok 0) .false (.leaf [(.lit (.r []))]) (.need [(.le (.add (.lit (.i 0)) (.len (.tok 0))) (.lit (.i (n : Nat))))] (.leaf [(.app (.row []) (.tok 0))])))
theorem clT_ok {S : Nat → List D → Option (List D)} {l : List D} {R : List D → Prop} {B : Nat → List D → Prop} {n : Nat} (hl : l.length ≤ n) (hR : R [.r l]) : (clT n).go S R [.r l] B := by
  refine ⟨fun h => ?_, fun _ => ?_⟩
  · have : l = [] := h rfl
    subst this
    exact hR
  · rw [q00]
    refine ⟨by simp only [q00, go_br, q01, q02, allSay, X.says, X.ev, X.evs, evl, tblS, List.getD_cons_zero, List.getD_cons_succ, List.getElem?_cons_zero, List.getElem?_cons_succ, tt_b, int_i, str_s, rs_r, Option.isSome_some, Option.getD_some, decide_eq_true_eq, decide_eq_false_iff_not, dS_eS, dC_eC, dU_eU, dW_eW, dY_eY, eC_0, eC_1, eU_0, eU_1, eW_0, eW_1, eW_2, eY_0, eY_1, eS_0, eS_1, eS_2, eS_3, eS_4, eS_5, List.length_map, i_inj, b_inj, s_inj, eC_eq, eU_eq, eW_eq, eY_eq, eS_eq, rng64, List.take_succ_cons, List.take_zero, List.nil_append, List.cons_append, decide_true, decide_false, Bool.or_true, true_and, and_true]; omega, ?_⟩
    simpa [q01, X.evs, X.ev, evl, D.rs] using hR
def clQ (s : So) : Bool := decide (s.cs.length ≤ 8796093021952) && (decide (s.ys.length ≤ 5864062014634) && (decide (s.tr.length ≤ 5864062014634) && decide (s.wk.length ≤ 3518437208780)))
def gClone : List D → Option (List D)
  | [s] => if clQ (dS s) then some [eS (dS s)] else none
  | _ => none
theorem clQ_of {s : So} (hs : s.ok) : clQ s = true := by
  simp only [clQ, Bool.and_eq_true, decide_eq_true_eq]
  exact ⟨hs.cs.1, hs.ys.1, hs.tr.1, hs.wk.1⟩
theorem ok_ref30_Clone : FOk q1y gClone := fok_ref30_Clone fun ds outs hw hg => by
  obtain ⟨d, r, rfl, hd, rfl⟩ := hw
  obtain ⟨s, rfl, hs⟩ := wfS hd
  simp only [gClone, dS_eS, Option.ite_none_right_eq_some, Option.some.injEq] at hg
  obtain ⟨hq, rfl⟩ := hg
  simp only [clQ, Bool.and_eq_true, decide_eq_true_eq] at hq
  simp only [q4q, q00, go_br, q01, q02, allSay, X.says, X.ev, X.evs, evl, tblS, List.getD_cons_zero, List.getD_cons_succ, List.getElem?_cons_zero, List.getElem?_cons_succ, tt_b, int_i, str_s, rs_r, Option.isSome_some, Option.getD_some, decide_eq_true_eq, decide_eq_false_iff_not, dS_eS, dC_eC, dU_eU, dW_eW, dY_eY, eC_0, eC_1, eU_0, eU_1, eW_0, eW_1, eW_2, eY_0, eY_1, eS_0, eS_1, eS_2, eS_3, eS_4, eS_5, List.length_map, i_inj, b_inj, s_inj, eC_eq, eU_eq, eW_eq, eY_eq, eS_eq, rng64, List.take_succ_cons, List.take_zero, List.nil_append, List.cons_append, decide_true, decide_false, Bool.or_true, true_and, and_true, eS, D.fs, D.fld]
  simp
  omega
end Go.Proofs.Ytinclokohcommaa


namespace Go.Proofs.Ytinclokohcommaa
open Go.RowKit
set_option linter.unusedVariables false
set_option maxRecDepth 100000

def g_cells_New : List D → Option (List D) := denF [] 12 q5f
theorem ok_cells_New_c : FOk q2e g_cells_New := fok_cells_New  fun ds outs hw hg => q0f hg
def g_law30_x : List D → Option (List D) := denF [] 12 tree_law30_x
theorem ok_law30_x_c : FOk q2r g_law30_x := fok_law30_x  fun ds outs hw hg => q0f hg
def g_law30_f : List D → Option (List D) := denF [] 12 tree_law30_f
theorem ok_law30_f_c : FOk q2p g_law30_f := fok_law30_f  fun ds outs hw hg => q0f hg
def g_cells_find : List D → Option (List D) := denF [] 12 q3s
theorem ok_cells_find_c : FOk q0o g_cells_find := fok_cells_find  fun ds outs hw hg => q0f hg
def g_cells_Symbol : List D → Option (List D) := denF [(q0o, g_cells_find)] 12 q2z
theorem ok_cells_Symbol_c : FOk q1e g_cells_Symbol := fok_cells_Symbol ok_cells_find_c fun ds outs hw hg => q0f hg
def g_cmp_isNaN_int64 : List D → Option (List D) := denF [] 12 q2s
theorem ok_cmp_isNaN_int64_c : FOk q12 g_cmp_isNaN_int64 := q58  fun ds outs hw hg => q0f hg
def g_cmp_Compare_int64 : List D → Option (List D) := denF [(q12, g_cmp_isNaN_int64)] 12 q2g
theorem ok_cmp_Compare_int64_c : FOk q0r g_cmp_Compare_int64 := q4t ok_cmp_isNaN_int64_c fun ds outs hw hg => q0f hg
def g_cells_byVar : List D → Option (List D) := denF [(q0r, g_cmp_Compare_int64)] 12 q3d
theorem ok_cells_byVar_c : FOk q1n g_cells_byVar := fok_cells_byVar ok_cmp_Compare_int64_c fun ds outs hw hg => q0f hg
def g_slices_BinarySearchFunc_VarCell : List D → Option (List D) := denF [(q1n, g_cells_byVar)] 12 q1g
theorem q2h : FOk q05 g_slices_BinarySearchFunc_VarCell := q2i ok_cells_byVar_c fun ds outs hw hg => q0f hg
def g_cells_kept : List D → Option (List D) := denF [] 12 q3n
theorem ok_cells_kept_c : FOk q1r g_cells_kept := fok_cells_kept  fun ds outs hw hg => q0f hg
def g_cells_Fresh : List D → Option (List D) := denF [] 12 q3b
theorem ok_cells_Fresh_c : FOk q1k g_cells_Fresh := fok_cells_Fresh  fun ds outs hw hg => q0f hg
def g_slices_Insert_VarCell : List D → Option (List D) := denF [] 12 q28
theorem q5o : FOk q0a g_slices_Insert_VarCell := q5r  fun ds outs hw hg => q0f hg
def G_cells_Put_1 (r : List D → Option (List D)) : List D → Option (List D) := denF [(q0x, r), (q1e, g_cells_Symbol), (q05, g_slices_BinarySearchFunc_VarCell), (q1r, g_cells_kept), (q1k, g_cells_Fresh), (q0a, g_slices_Insert_VarCell)] 12 q2a
def g_cells_Put_1 : List D → Option (List D) := upN G_cells_Put_1 6
theorem ok_cells_Put_1_c : FOk q0x g_cells_Put_1 := fok_up q4c (fun r hr => fok_cells_Put_1 hr ok_cells_Symbol_c q2h ok_cells_kept_c ok_cells_Fresh_c q5o fun ds outs hw hg => q0f hg) 6
def G_term_Size_1 (r : List D → Option (List D)) : List D → Option (List D) := denF [(q11, r)] 12 q3f
def g_term_Size_1 : List D → Option (List D) := upN G_term_Size_1 6
theorem ok_term_Size_1_c : FOk q11 g_term_Size_1 := fok_up q4i (fun r hr => fok_term_Size_1 hr fun ds outs hw hg => q0f hg) 6
def g_term_Size : List D → Option (List D) := denF [(q11, g_term_Size_1)] 12 q45
theorem ok_term_Size_c : FOk q1u g_term_Size := fok_term_Size ok_term_Size_1_c fun ds outs hw hg => q0f hg
def G_term_fits (r : List D → Option (List D)) : List D → Option (List D) := denF [(q0v, r)] 12 q49
def g_term_fits : List D → Option (List D) := upN G_term_fits 6
theorem ok_term_fits_c : FOk q0v g_term_fits := fok_up q4z (fun r hr => fok_term_fits hr fun ds outs hw hg => q0f hg) 6
def g_term_Valid : List D → Option (List D) := denF [(q1u, g_term_Size), (q0v, g_term_fits)] 12 q3p
theorem ok_term_Valid_c : FOk q16 g_term_Valid := fok_term_Valid ok_term_Size_c ok_term_fits_c fun ds outs hw hg => q0f hg
def g_cells_arity : List D → Option (List D) := denF [] 12 q39
theorem ok_cells_arity_c : FOk q0p g_cells_arity := fok_cells_arity  fun ds outs hw hg => q0f hg
def g_cells_tag : List D → Option (List D) := denF [] 12 q48
theorem q5i : FOk q0d g_cells_tag := fok_cells_tag  fun ds outs hw hg => q0f hg
def g_cells_ValidCell : List D → Option (List D) := denF [(q0p, g_cells_arity), (q0d, g_cells_tag)] 12 q2m
theorem q3h : FOk q06 g_cells_ValidCell := q59 ok_cells_arity_c q5i fun ds outs hw hg => q0f hg
def g_cells_validVars : List D → Option (List D) := denF [(q06, g_cells_ValidCell)] 12 q2n
theorem ok_cells_validVars_c : FOk q13 g_cells_validVars := q5b q3h fun ds outs hw hg => q0f hg
def G_cells_room_1 (r : List D → Option (List D)) : List D → Option (List D) := denF [(q0g, r), (q0o, g_cells_find)] 12 q31
def g_cells_room_1 : List D → Option (List D) := upN G_cells_room_1 6
theorem ok_cells_room_1_c : FOk q0g g_cells_room_1 := fok_up q43 (fun r hr => fok_cells_room_1 hr ok_cells_find_c fun ds outs hw hg => q0f hg) 6
def g_cells_room : List D → Option (List D) := denF [(q0g, g_cells_room_1), (q05, g_slices_BinarySearchFunc_VarCell)] 12 q3q
theorem ok_cells_room_c : FOk q1s g_cells_room := fok_cells_room ok_cells_room_1_c q2h fun ds outs hw hg => q0f hg
def g_slices_Clone_VarCell : List D → Option (List D) := denF [] 12 q2t
theorem q5q : FOk q0m g_slices_Clone_VarCell := q41  fun ds outs hw hg => q0f hg
def g_cells_Put : List D → Option (List D) := denF [(q0x, g_cells_Put_1), (q16, g_term_Valid), (q13, g_cells_validVars), (q1s, g_cells_room), (q0m, g_slices_Clone_VarCell)] 12 q47
theorem ok_cells_Put_c : FOk q1m g_cells_Put := fok_cells_Put ok_cells_Put_1_c ok_term_Valid_c ok_cells_validVars_c ok_cells_room_c q5q fun ds outs hw hg => q0f hg
def g_law30_str : List D → Option (List D) := denF [] 12 q5d
theorem ok_law30_str_c : FOk q2c g_law30_str := fok_law30_str  fun ds outs hw hg => q0f hg
def g_law30_ref : List D → Option (List D) := denF [] 12 q5g
theorem ok_law30_ref_c : FOk q2d g_law30_ref := fok_law30_ref  fun ds outs hw hg => q0f hg
def g_law30_vars : List D → Option (List D) := denF [] 12 q3l
theorem ok_law30_vars_c : FOk q1a g_law30_vars := fok_law30_vars  fun ds outs hw hg => q0f hg
def g_cells_Deref : List D → Option (List D) := denF [(q06, g_cells_ValidCell), (q0d, g_cells_tag)] 12 q38
theorem ok_cells_Deref_c : FOk q14 g_cells_Deref := fok_cells_Deref q3h q5i fun ds outs hw hg => q0f hg
def g_term_Int : List D → Option (List D) := denF [] 12 q4k
theorem ok_term_Int_c : FOk q26 g_term_Int := fok_term_Int  fun ds outs hw hg => q0f hg
def g_term_Clone_1 : List D → Option (List D) := denF [] 12 q30
theorem ok_term_Clone_1_c : FOk q1f g_term_Clone_1 := fok_term_Clone_1  fun ds outs hw hg => q0f hg
def G_term_apply (r : List D → Option (List D)) : List D → Option (List D) := denF [(q1f, g_term_Clone_1), (q15, r)] 12 q3o
def g_term_apply : List D → Option (List D) := upN G_term_apply 6
theorem ok_term_apply_c : FOk q15 g_term_apply := fok_up q4n (fun r hr => fok_term_apply ok_term_Clone_1_c hr fun ds outs hw hg => q0f hg) 6
def g_term_Clone : List D → Option (List D) := denF [(q16, g_term_Valid), (q15, g_term_apply)] 12 q3t
theorem ok_term_Clone_c : FOk q1p g_term_Clone := fok_term_Clone ok_term_Valid_c ok_term_apply_c fun ds outs hw hg => q0f hg
def g_term_Atom : List D → Option (List D) := denF [(q1p, g_term_Clone)] 12 q46
theorem ok_term_Atom_c : FOk q1v g_term_Atom := fok_term_Atom ok_term_Clone_c fun ds outs hw hg => q0f hg
def G_cells_Get_1 (r : List D → Option (List D)) : List D → Option (List D) := denF [(q0y, r), (q14, g_cells_Deref), (q26, g_term_Int), (q0p, g_cells_arity), (q1v, g_term_Atom), (q0d, g_cells_tag)] 12 q3a
def g_cells_Get_1 : List D → Option (List D) := upN G_cells_Get_1 6
theorem ok_cells_Get_1_c : FOk q0y g_cells_Get_1 := fok_up q4e (fun r hr => fok_cells_Get_1 hr ok_cells_Deref_c ok_term_Int_c ok_cells_arity_c ok_term_Atom_c q5i fun ds outs hw hg => q0f hg) 6
def g_cells_Get : List D → Option (List D) := denF [(q0y, g_cells_Get_1), (q06, g_cells_ValidCell)] 12 q4a
theorem ok_cells_Get_c : FOk q1l g_cells_Get := fok_cells_Get ok_cells_Get_1_c q3h fun ds outs hw hg => q0f hg
def G_ref03_Count (r : List D → Option (List D)) : List D → Option (List D) := denF [(q10, r)] 12 q37
def g_ref03_Count : List D → Option (List D) := upN G_ref03_Count 6
theorem ok_ref03_Count_c : FOk q10 g_ref03_Count := fok_up q4f (fun r hr => fok_ref03_Count hr fun ds outs hw hg => q0f hg) 6
def g_ref03_Size : List D → Option (List D) := denF [(q10, g_ref03_Count)] 12 q3u
theorem ok_ref03_Size_c : FOk q0s g_ref03_Size := fok_ref03_Size ok_ref03_Count_c fun ds outs hw hg => q0f hg
def g_ref03_node : List D → Option (List D) := denF [] 12 q3v
theorem ok_ref03_node_c : FOk q1q g_ref03_node := fok_ref03_node  fun ds outs hw hg => q0f hg
def G_ref03_nodes (r : List D → Option (List D)) : List D → Option (List D) := denF [(q1q, g_ref03_node), (q0z, r)] 12 q3g
def g_ref03_nodes : List D → Option (List D) := upN G_ref03_nodes 6
theorem ok_ref03_nodes_c : FOk q0z g_ref03_nodes := fok_up q4d (fun r hr => fok_ref03_nodes ok_ref03_node_c hr fun ds outs hw hg => q0f hg) 6
def g_ref03_Valid : List D → Option (List D) := denF [(q0s, g_ref03_Size), (q0z, g_ref03_nodes)] 12 q3i
theorem ok_ref03_Valid_c : FOk q0e g_ref03_Valid := fok_ref03_Valid ok_ref03_Size_c ok_ref03_nodes_c fun ds outs hw hg => q0f hg
def G_ref03_identical (r : List D → Option (List D)) : List D → Option (List D) := denF [(q0j, r)] 12 q2q
def g_ref03_identical : List D → Option (List D) := upN G_ref03_identical 6
theorem ok_ref03_identical_c : FOk q0j g_ref03_identical := fok_up q34 (fun r hr => q5a hr fun ds outs hw hg => q0f hg) 6
def g_ref03_Same : List D → Option (List D) := denF [(q0e, g_ref03_Valid), (q0j, g_ref03_identical)] 12 q3r
theorem ok_ref03_Same_c : FOk q1d g_ref03_Same := fok_ref03_Same ok_ref03_Valid_c ok_ref03_identical_c fun ds outs hw hg => q0f hg
end Go.Proofs.Ytinclokohcommaa


namespace Go.Proofs.Ytinclokohcommaa
open Go.RowKit
set_option linter.unusedVariables false
set_option maxRecDepth 100000

def gYes : List D → Option (List D) := fun _ => some [.b true]
theorem ok_law30_awake : FOk q20 gYes := fok_law30_awake ok_cells_New_c ok_law30_x_c ok_law30_f_c ok_cells_Put_c ok_law30_str_c ok_law30_ref_c ok_law30_vars_c ok_cells_Get_c ok_ref03_Same_c ok_cells_Deref_c fun ds outs hw hg => by
  obtain rfl : ds = [] := hw
  simp only [gYes, Option.some.injEq] at hg
  subst hg
  exact q0f (fuel := 12) (by kernel_rfl)
end Go.Proofs.Ytinclokohcommaa


namespace Go.Proofs.Ytinclokohcommaa
open Go.RowKit
set_option linter.unusedVariables false
set_option linter.unusedSimpArgs false

end Go.Proofs.Ytinclokohcommaa


namespace Go.Proofs.Ytinclokohcommaa
open Go.RowKit
set_option linter.unusedVariables false
set_option linter.unusedSimpArgs false

def fnd (nm : ByteArray) (ar : Int) : Nat → List Sy → Int
  | _, [] => -1
  | k, y :: l => if y.name = nm ∧ y.ar = ar then (k : Int) else fnd nm ar (k + 1) l
def findS (s : So) (nm : ByteArray) (ar : Int) : Int := fnd nm ar 0 s.ys
theorem drop_get' {α : Type} [Inhabited α] {l : List α} {k : Nat} (h : k < l.length) : l.drop k = l.getD k default :: l.drop (k + 1) := by
  rw [List.drop_eq_getElem_cons h]
  simp [List.getD_eq_getElem?_getD, h]
theorem fnd_drop {nm : ByteArray} {ar : Int} {l : List Sy} {k : Nat} (h : k < l.length) : fnd nm ar k (l.drop k) = if (l.getD k default).name = nm ∧ (l.getD k default).ar = ar then (k : Int) else fnd nm ar (k + 1) (l.drop (k + 1)) := by
  rw [drop_get' h]
  rfl
def gFind1 : List D → Option (List D)
  | [s, y] => some [.i (findS (dS s) (y.fld 0).str (y.fld 1).int)]
  | _ => none
theorem ok_cells_find : FOk q0o gFind1 := fok_cells_find fun ds outs hw hg => by
  obtain ⟨d, r, rfl, hd, e, r', rfl, he, rfl⟩ := hw
  obtain ⟨s, rfl, hs⟩ := wfS hd
  obtain ⟨y, rfl, hy⟩ := wfY he
  simp only [gFind1, dS_eS, eY_0, eY_1, str_s, int_i, Option.some.injEq] at hg
  subst hg
  have hl := hs.ys.1
  rw [q3s, q1j]
  refine ⟨fun st => ∃ k : Nat, k ≤ s.ys.length ∧ st = [.i 0, .i k] ∧ fnd y.name y.ar k (s.ys.drop k) = findS s y.name y.ar, fun st => s.ys.length - (st.getD 1 .u).int.toNat, ⟨0, Nat.zero_le _, rfl, rfl⟩, ?_⟩
  rintro st - ⟨k, hk, rfl, hf⟩
  simp only [q00, go_br, q01, q02, allSay, X.says, X.ev, X.evs, evl, tblS, List.getD_cons_zero, List.getD_cons_succ, List.getElem?_cons_zero, List.getElem?_cons_succ, tt_b, int_i, str_s, rs_r, Option.isSome_some, Option.getD_some, decide_eq_true_eq, decide_eq_false_iff_not, dS_eS, dC_eC, dU_eU, dW_eW, dY_eY, eC_0, eC_1, eU_0, eU_1, eW_0, eW_1, eW_2, eY_0, eY_1, eS_0, eS_1, eS_2, eS_3, eS_4, eS_5, List.length_map, i_inj, b_inj, s_inj, eC_eq, eU_eq, eW_eq, eY_eq, eS_eq, rng64, List.take_succ_cons, List.take_zero, List.nil_append, List.cons_append, decide_true, decide_false, Bool.or_true, true_and, and_true]
  refine ⟨fun hlt => ?_, fun hlt => ?_⟩
  · have hkn : k < s.ys.length := by omega
    rw [fnd_drop hkn] at hf
    simp only [get_n eY hkn, eY_eq]
    generalize s.ys.getD k default = z at hf
    refine ⟨⟨by omega, by omega⟩, fun he => ?_, fun he => ⟨⟨by omega, by omega⟩, ?_⟩⟩
    · have he' : z = y := by simpa using he
      subst he'
      rw [if_pos ⟨rfl, rfl⟩] at hf
      rw [← hf]
    · have he' : ¬ z = y := by simpa using he
      have hne : ¬ (z.name = y.name ∧ z.ar = y.ar) := fun h => he' (by cases z; cases y; simp_all)
      rw [if_neg hne] at hf
      rw [updB, if_pos rfl]
      refine ⟨⟨k + 1, hkn, by simp, hf⟩, ?_⟩
      simp [D.int]
      omega
  · have : k = s.ys.length := by omega
    subst this
    rw [List.drop_length] at hf
    rw [← hf]
    rfl
def symBad (nm : ByteArray) (ar : Int) : Bool := decide (100 < (nm.size : Int)) || (decide (ar < 0) || decide (8 < ar))
def gSym : List D → Option (List D)
  | [s, nm, ar] => if symBad nm.str ar.int then some [.i 0, .i 1, eS (dS s)] else if decide (0 ≤ findS (dS s) nm.str ar.int) then some [.i (findS (dS s) nm.str ar.int), .i 0, eS (dS s)]
      else if decide (1048576 ≤ (dS s).ys.length) then some [.i 0, .i 13, eS (dS s)] else some [.i (dS s).ys.length, .i 0, eS { dS s with ys := (dS s).ys ++ [⟨nm.str, ar.int⟩] }]
  | _ => none
theorem ys_app (s : So) (y : Sy) : D.a ((eS s).fs.set 1 (.r (s.ys.map eY ++ [eY y]))) = eS { s with ys := s.ys ++ [y] } := by simp [eS, D.fs]
theorem ok_cells_Symbol : FOk q1e gSym := fok_cells_Symbol ok_cells_find fun ds outs hw hg => by
  obtain ⟨d, r, rfl, hd, e, r', rfl, he, f, r2, rfl, hf', rfl⟩ := hw
  obtain ⟨s, rfl, hs⟩ := wfS hd
  obtain ⟨nm, rfl, hn⟩ := he.str
  obtain ⟨ar, rfl, ha⟩ := wfI hf'
  simp only [gSym, dS_eS, str_s, int_i] at hg
  have ey : D.a [.s nm, .i ar] = eY ⟨nm, ar⟩ := rfl
  simp only [q2z, q00, go_br, q01, q02, allSay, X.says, X.ev, X.evs, evl, tblS, List.getD_cons_zero, List.getD_cons_succ, List.getElem?_cons_zero, List.getElem?_cons_succ, tt_b, int_i, str_s, rs_r, Option.isSome_some, Option.getD_some, decide_eq_true_eq, decide_eq_false_iff_not, dS_eS, dC_eC, dU_eU, dW_eW, dY_eY, eC_0, eC_1, eU_0, eU_1, eW_0, eW_1, eW_2, eY_0, eY_1, eS_0, eS_1, eS_2, eS_3, eS_4, eS_5, List.length_map, i_inj, b_inj, s_inj, eC_eq, eU_eq, eW_eq, eY_eq, eS_eq, rng64, List.take_succ_cons, List.take_zero, List.nil_append, List.cons_append, decide_true, decide_false, Bool.or_true, true_and, and_true, gFind1, ey, ys_app]
  cases hb : symBad nm ar with
  | true =>
    simp only [hb, if_true, Option.some.injEq] at hg
    subst hg
    have hb' : (decide (100 < (nm.size : Int)) || decide (ar < 0) || decide (8 < ar)) = true := by rw [Bool.or_assoc]; exact hb
    rw [hb']
    exact ⟨fun _ => rfl, fun h => (by cases h)⟩
  | false =>
    simp only [hb, Bool.false_eq_true, if_false] at hg
    have hb' : (decide (100 < (nm.size : Int)) || decide (ar < 0) || decide (8 < ar)) = false := by rw [Bool.or_assoc]; exact hb
    rw [hb']
    refine ⟨fun h => (by cases h), fun _ => ⟨fun h0 => ?_, fun h0 => ⟨fun h1 => ?_, fun h1 => ?_⟩⟩⟩
    · rw [if_pos (decide_eq_true h0)] at hg
      exact Option.some.inj hg
    · have h1' : 1048576 ≤ s.ys.length := by omega
      rw [if_neg (by simpa using h0), if_pos (decide_eq_true h1')] at hg
      exact Option.some.inj hg
    · have h1' : ¬ 1048576 ≤ s.ys.length := by omega
      rw [if_neg (by simpa using h0), if_neg (by simpa using h1')] at hg
      have := Option.some.inj hg
      subst this
      simp [eS, D.fld, D.fs, D.rs]
      omega
def gFresh : List D → Option (List D)
  | [s] => if decide ((dS s).mx ≤ (dS s).cs.length) then some [eC ⟨0, 0⟩, .i 13, eS (dS s)] else if decide ((dS s).cs.length < 8796093021952) then some [eC ⟨0, (dS s).cs.length⟩, .i 0, eS { dS s with cs := (dS s).cs ++ [⟨0, (dS s).cs.length⟩] }] else none
  | _ => none
theorem cs_app (s : So) (y : Ce) : D.a ((eS s).fs.set 0 (.r (s.cs.map eC ++ [eC y]))) = eS { s with cs := s.cs ++ [y] } := by simp [eS, D.fs]
theorem ok_cells_Fresh : FOk q1k gFresh := fok_cells_Fresh fun ds outs hw hg => by
  obtain ⟨d, r, rfl, hd, rfl⟩ := hw
  obtain ⟨s, rfl, hs⟩ := wfS hd
  simp only [gFresh, dS_eS] at hg
  simp only [q3b, q00, go_br, q01, q02, allSay, X.says, X.ev, X.evs, evl, tblS, List.getD_cons_zero, List.getD_cons_succ, List.getElem?_cons_zero, List.getElem?_cons_succ, tt_b, int_i, str_s, rs_r, Option.isSome_some, Option.getD_some, decide_eq_true_eq, decide_eq_false_iff_not, dS_eS, dC_eC, dU_eU, dW_eW, dY_eY, eC_0, eC_1, eU_0, eU_1, eW_0, eW_1, eW_2, eY_0, eY_1, eS_0, eS_1, eS_2, eS_3, eS_4, eS_5, List.length_map, i_inj, b_inj, s_inj, eC_eq, eU_eq, eW_eq, eY_eq, eS_eq, rng64, List.take_succ_cons, List.take_zero, List.nil_append, List.cons_append, decide_true, decide_false, Bool.or_true, true_and, and_true, eC_mk, cs_app]
  refine ⟨fun h0 => ?_, fun h0 => ?_⟩
  · rw [if_pos (decide_eq_true h0)] at hg
    exact Option.some.inj hg
  · rw [if_neg (by simpa using h0)] at hg
    split at hg
    · rename_i h1
      have h1 := of_decide_eq_true h1
      have := Option.some.inj hg
      exact ⟨by omega, this⟩
    · cases hg
end Go.Proofs.Ytinclokohcommaa


namespace Go.Proofs.Ytinclokohcommaa
open Go.RowKit
set_option linter.unusedVariables false
set_option maxRecDepth 100000

end Go.Proofs.Ytinclokohcommaa


namespace Go.Proofs.Ytinclokohcommaa
open Go.RowKit
set_option linter.unusedVariables false
set_option linter.unusedSimpArgs false

structure VS (s : So) : Prop where
  tag : ∀ i : Int, inS s i = true → 0 ≤ (cellAt s i).t ∧ (cellAt s i).t ≤ 5
theorem vcR_tag {s : So} {c : Ce} (h : vcR s c = true) : c.t = 0 ∨ c.t = 1 ∨ c.t = 2 ∨ c.t = 3 ∨ c.t = 5 := by
  unfold vcR at h
  by_cases h0 : c.t = 0
  · exact .inl h0
  · by_cases h1 : c.t = 1
    · exact .inr (.inl h1)
    · by_cases h2 : c.t = 2
      · exact .inr (.inr (.inl h2))
      · by_cases h3 : c.t = 3
        · exact .inr (.inr (.inr (.inl h3)))
        · by_cases h5 : c.t = 5
          · exact .inr (.inr (.inr (.inr h5)))
          · simp [h0, h1, h2, h3, h5] at h
theorem vcP_tag {s : So} {c : Ce} (h : vcP s c = true) : c.t = 0 ∨ c.t = 1 ∨ c.t = 2 ∨ c.t = 3 ∨ c.t = 5 := by
  unfold vcP at h
  by_cases h0 : c.t = 0
  · exact .inl h0
  · by_cases h1 : c.t = 1
    · exact .inr (.inl h1)
    · by_cases h2 : c.t = 2
      · exact .inr (.inr (.inl h2))
      · by_cases h3 : c.t = 3
        · exact .inr (.inr (.inr (.inl h3)))
        · by_cases h5 : c.t = 5
          · exact .inr (.inr (.inr (.inr h5)))
          · simp [h0, h1, h2, h3, h5] at h
theorem validR_vs {s : So} (h : validR s = true) : VS s := by
  simp only [validR, Bool.and_eq_true] at h
  refine ⟨fun i hi => ?_⟩
  have h1 := inS_iff.1 hi
  have hk := all_of h.2.1 (k := i.toNat) (by omega)
  rw [show ((i.toNat : Nat) : Int) = i by omega] at hk
  unfold cellR at hk
  by_cases h4 : (cellAt s i).t = 4
  · omega
  · rw [if_neg h4] at hk
    simp only [Bool.and_eq_true] at hk
    have := vcR_tag hk.1
    omega
theorem validP_vs {s : So} (h : validP s = true) : VS s := by
  simp only [validP, Bool.and_eq_true] at h
  refine ⟨fun i hi => ?_⟩
  have h1 := inS_iff.1 hi
  have hk := all_of h.2.1 (k := i.toNat) (by omega)
  rw [show ((i.toNat : Nat) : Int) = i by omega] at hk
  unfold fitsP at hk
  by_cases h4 : (cellAt s i).t = 4
  · omega
  · rw [if_neg h4] at hk
    by_cases h5 : (cellAt s i).t = 5
    · omega
    · rw [if_neg h5] at hk
      have := vcP_tag hk
      omega
theorem VS.tag_in {s : So} (h : VS s) (n : Int) : decide (0 ≤ tagS s n) = inS s n := by
  cases hi : inS s n with
  | true =>
    rw [tagS_in hi]
    exact decide_eq_true (h.tag n hi).1
  | false =>
    rw [tagS_out hi]
    decide
theorem VS.vc {s : So} (h : VS s) (c : Ce) : vcP s c = vcR s c := by
  unfold vcP vcR
  rw [h.tag_in]
theorem VS.old {s : So} (h : VS s) (u : Un) : oldP s u = oldR s u := by
  simp only [oldP, oldR, oldB, h.tag_in, h.vc]
theorem VS.cell {s : So} (h : VS s) {i : Int} (hi : inS s i = true) : cellR s i = (fitsP s i && endsB s i) := by
  have h1 := inS_iff.1 hi
  have ht := tagS_in hi
  unfold cellR fitsP
  by_cases h4 : (cellAt s i).t = 4
  · rw [if_pos h4, if_pos h4]
    have he : endsB s i = true := (En.st (fun hn => by have := hn.1; omega)).ends
    rw [he, Bool.and_true]
    by_cases ha : 1 ≤ arS s (cellAt s i).n
    · rw [decide_eq_true ha, Bool.true_and, Bool.true_and]
      generalize harr : arS s (cellAt s i).n = ar at ha
      rw [Bool.eq_iff_iff]
      simp only [Bool.and_eq_true, List.all_eq_true, List.mem_range, Bool.not_eq_true', decide_eq_false_iff_not, decide_eq_true_eq]
      constructor
      · rintro ⟨q1, q2⟩ j hj
        refine ⟨?_, q2 j hj⟩
        have hin : inS s (i + ((j : Int) + 1)) = true := by
          have := inS_iff.1 q1
          exact inS_iff.2 ⟨by omega, by omega⟩
        rw [tagS_in hin]
        exact (h.tag _ hin).1
      · intro q
        refine ⟨?_, fun j hj => (q j hj).2⟩
        have h2 := (q (ar.toNat - 1) (by omega)).1
        have h3 := h.tag_in (i + (((ar.toNat - 1 : Nat) : Int) + 1))
        rw [decide_eq_true h2] at h3
        have e : i + (((ar.toNat - 1 : Nat) : Int) + 1) = i + ar := by omega
        rw [e] at h3
        exact h3.symm
    · rw [decide_eq_false ha]
      rfl
  · rw [if_neg h4, if_neg h4]
    by_cases h5 : (cellAt s i).t = 5
    · rw [if_pos h5]
      have hd : decide ((cellAt s i).t = 5) = true := decide_eq_true h5
      rw [hd]
      by_cases hn : (cellAt s i).n = i
      · have hv : vcR s (cellAt s i) = true := by
          unfold vcR
          simp [h5, hn, ht]
        rw [hv, decide_eq_true hn]
        simp [Bool.and_comm]
      · rw [decide_eq_false hn]
        simp
    · rw [if_neg h5, decide_eq_false h5, h.vc]
      simp
theorem all_congr {n : Nat} {P Q : Nat → Bool} (h : ∀ j, j < n → P j = Q j) : (List.range n).all P = (List.range n).all Q := by
  rw [Bool.eq_iff_iff, List.all_eq_true, List.all_eq_true]
  exact ⟨fun q j hj => (h j (List.mem_range.1 hj)) ▸ q j hj, fun q j hj => (h j (List.mem_range.1 hj)).symm ▸ q j hj⟩
theorem all_and {n : Nat} {P Q : Nat → Bool} : ((List.range n).all fun j => P j && Q j) = ((List.range n).all P && (List.range n).all Q) := by
  rw [Bool.eq_iff_iff]
  simp only [List.all_eq_true, Bool.and_eq_true]
  exact ⟨fun q => ⟨fun j hj => (q j hj).1, fun j hj => (q j hj).2⟩, fun q j hj => ⟨q.1 j hj, q.2 j hj⟩⟩
theorem VS.valid {s : So} (h : VS s) : validP s = validR s := by
  have e1 : ((List.range s.cs.length).all fun i => cellR s (i : Nat)) = ((List.range s.cs.length).all (fun i => fitsP s (i : Nat)) && acyP s) := by
    unfold acyP
    rw [← all_and]
    exact all_congr fun j hj => h.cell (inS_iff.2 ⟨by omega, by omega⟩)
  have e2 : ((List.range s.tr.length).all fun i => oldP s (s.tr.getD i default)) = (List.range s.tr.length).all fun i => oldR s (s.tr.getD i default) := all_congr fun j _ => h.old _
  have e3 : ((List.range s.wk.length).all fun i => wkB vcP s (s.wk.getD i default)) = (List.range s.wk.length).all fun i => wkB vcR s (s.wk.getD i default) := all_congr fun j _ => by
    unfold wkB
    rw [h.vc, h.vc]
  unfold validP validR
  rw [e1, e2, e3, Bool.and_assoc]
theorem valid_eq (s : So) : validP s = validR s := by
  cases hP : validP s with
  | true => rw [← (validP_vs hP).valid, hP]
  | false =>
    cases hR : validR s with
    | false => rfl
    | true => rw [(validR_vs hR).valid, hR] at hP; cases hP

end Go.Proofs.Ytinclokohcommaa


namespace Go.Proofs.Ytinclokohcommaa
open Go.RowKit
set_option linter.unusedVariables false
set_option linter.unusedSimpArgs false

theorem vr_head {s : So} (h : validR s = true) : headB s = true := by
  simp only [validR, Bool.and_eq_true] at h
  exact h.1
theorem vr_syms {s : So} (h : validR s = true) : symsB s.ys = true := by
  have := vr_head h
  simp only [headB, Bool.and_eq_true] at this
  exact this.2.2.2.2
theorem vr_len {s : So} (h : validR s = true) : s.cs.length ≤ 1048576 := by
  have := vr_head h
  simp only [headB, Bool.and_eq_true, decide_eq_true_eq] at this
  omega
theorem vr_cell {s : So} (h : validR s = true) {i : Int} (hi : inS s i = true) : cellR s i = true := by
  simp only [validR, Bool.and_eq_true] at h
  have h1 := inS_iff.1 hi
  have hk := all_of h.2.1 (k := i.toNat) (by omega)
  rwa [show ((i.toNat : Nat) : Int) = i by omega] at hk
theorem vr_vc {s : So} (h : validR s = true) {i : Int} (hi : inS s i = true) (ht : (cellAt s i).t ≠ 4) : vcR s (cellAt s i) = true := by
  have := vr_cell h hi
  unfold cellR at this
  rw [if_neg ht] at this
  simp only [Bool.and_eq_true] at this
  exact this.1
theorem vr_ends {s : So} (h : validR s = true) {i : Int} (hi : inS s i = true) : endsB s i = true := by
  by_cases ht : (cellAt s i).t = 4
  · exact (En.st (fun hn => by have := hn.1; rw [tagS_in hi] at this; omega)).ends
  · have := vr_cell h hi
    unfold cellR at this
    rw [if_neg ht] at this
    simp only [Bool.and_eq_true] at this
    exact this.2.1
theorem vc_ref {s : So} {c : Ce} (h : vcR s c = true) (ht : c.t = 0) : inS s c.n = true ∧ (cellAt s c.n).t ≠ 4 := by
  unfold vcR at h
  rw [if_pos ht] at h
  simp only [Bool.and_eq_true, Bool.not_eq_true', decide_eq_false_iff_not] at h
  rw [tagS_in h.1] at h
  exact h
theorem vr_nx {s : So} (h : validR s = true) {n : Int} (hn : Ns s n) : inS s (nx s n) = true := by
  have hi := hn.inS
  have ht : (cellAt s n).t = 0 := by have := hn.1; rwa [tagS_in hi] at this
  exact (vc_ref (vr_vc h hi (by omega)) ht).1
theorem vr_fun {s : So} (h : validR s = true) {i : Int} (hi : inS s i = true) (ht : (cellAt s i).t = 4) : 1 ≤ arS s (cellAt s i).n ∧ arS s (cellAt s i).n ≤ 8 ∧ ∀ j : Nat, (j : Int) < arS s (cellAt s i).n → inS s (i + 1 + j) = true ∧ vcR s (cellAt s (i + 1 + j)) = true := by
  have := vr_cell h hi
  unfold cellR at this
  rw [if_pos ht] at this
  simp only [Bool.and_eq_true, decide_eq_true_eq, List.all_eq_true, List.mem_range, Bool.not_eq_true', decide_eq_false_iff_not] at this
  obtain ⟨h1, h2, h3⟩ := this
  refine ⟨h1, (symsB_ar (vr_syms h) _).2, fun j hj => ?_⟩
  have q := inS_iff.1 h2
  have q1 := inS_iff.1 hi
  have hin : inS s (i + 1 + j) = true := inS_iff.2 ⟨by omega, by omega⟩
  refine ⟨hin, vr_vc h hin ?_⟩
  have := h3 j (by omega)
  rw [show i + ((j : Int) + 1) = i + 1 + j by omega, tagS_in hin] at this
  exact this
theorem ar_rng {s : So} {n : Int} (h : 0 ≤ arS s n) : 0 ≤ n ∧ n < s.ys.length ∧ arS s n = (s.ys.getD n.toNat default).ar := by
  unfold arS at h ⊢
  split at h
  · rename_i hn
    rw [if_pos hn]
    exact ⟨hn.1, hn.2, rfl⟩
  · omega
def syAt (s : So) (n : Int) : Sy := s.ys.getD n.toNat default
theorem vr_name {s : So} (h : validR s = true) {n : Int} (hn : 0 ≤ arS s n) : (syAt s n).name.size ≤ 100 := by
  obtain ⟨h0, h1, -⟩ := ar_rng hn
  have := vr_syms h
  simp only [symsB, Bool.and_eq_true] at this
  have := all_of this.2 (k := n.toNat) (by omega)
  simp only [symAt, okY, Bool.and_eq_true, decide_eq_true_eq] at this
  exact this.1.1

theorem rank_all {s : So} (hv : ∀ m, Ns s m → inS s (nx s m) = true) : ∀ (k : Nat) (n : Int), inS s n = true → endsN s (k + 1) n = true → endsN s k n = false → ∃ l : List Int, l.length = k + 1 ∧ l.Nodup ∧ (∀ x ∈ l, inS s x = true) ∧ ∀ x ∈ l, ∃ j, j ≤ k ∧ endsN s (j + 1) x = true
  | 0, n, hi, h1, _ => ⟨[n], rfl, by simp, (fun x hx => by rw [List.mem_singleton.1 hx]; exact hi), fun x hx => ⟨0, Nat.le_refl _, by rw [List.mem_singleton.1 hx]; exact h1⟩⟩
  | k + 1, n, hi, h1, h2 => by
    have hn : Ns s n := Classical.byContradiction fun hn => by rw [endsN_st hn] at h2; cases h2
    have h1' := h1
    rw [endsN_ns hn] at h1 h2
    obtain ⟨l, e1, e2, e3, e4⟩ := rank_all hv k _ (hv n hn) h1 h2
    refine ⟨n :: l, by simp [e1], ?_, fun x hx => ?_, fun x hx => ?_⟩
    · refine List.nodup_cons.2 ⟨fun hm => ?_, e2⟩
      obtain ⟨j, hj, he⟩ := e4 n hm
      rw [endsN_ns hn] at he
      rw [endsN_le hj he] at h2
      cases h2
    · rcases List.mem_cons.1 hx with rfl | hx
      · exact hi
      · exact e3 x hx
    · rcases List.mem_cons.1 hx with rfl | hx
      · exact ⟨k + 1, Nat.le_refl _, h1'⟩
      · obtain ⟨j, hj, he⟩ := e4 x hx
        exact ⟨j, by omega, he⟩
theorem vr_ends_len {s : So} (h : validR s = true) {n : Int} (hi : inS s n = true) : endsN s s.cs.length n = true := by
  cases hk' : endsN s s.cs.length n with
  | true => rfl
  | false =>
    obtain ⟨l, e1, e2, e3, -⟩ := rank_all (fun m hm => vr_nx h hm) s.cs.length n hi (vr_ends h hi) hk'
    have h1 := nodup_lt s.cs.length (l.map Int.toNat) ?_ ?_
    · rw [List.length_map, e1] at h1
      omega
    · refine List.Pairwise.map _ (fun a b h => h) ?_
      refine List.Pairwise.imp_of_mem (R := fun a b => a ≠ b) (fun {a b} ha hb hab e => hab ?_) e2
      have h1 := inS_iff.1 (e3 a ha)
      have h2 := inS_iff.1 (e3 b hb)
      omega
    · intro x hx
      obtain ⟨a, ha, rfl⟩ := List.mem_map.1 hx
      have h1 := inS_iff.1 (e3 a ha)
      omega

def derN (s : So) : Nat → Ce → Ce
  | 0, c => c
  | k + 1, c => if c.t = 0 ∧ inS s c.n = true ∧ cellAt s c.n ≠ c then derN s k (cellAt s c.n) else c
theorem derN_t {s : So} {c : Ce} (h : c.t ≠ 0) : ∀ k, derN s k c = c
  | 0 => rfl
  | k + 1 => if_neg fun q => h q.1
theorem der_stable {s : So} (j : Nat) : ∀ (k : Nat) (n : Int), endsN s k n = true → derN s (k + j) ⟨0, n⟩ = derN s k ⟨0, n⟩
  | 0, n, h => by cases h
  | k + 1, n, h => by
    rw [show k + 1 + j = (k + j) + 1 by omega]
    unfold derN
    split
    · rename_i hc
      by_cases ht : (cellAt s n).t = 0
      · have e : cellAt s n = ⟨0, nx s n⟩ := Ce.ext' ht rfl
        have hn : Ns s n := ⟨(tagS_in hc.2.1).trans ht, fun hn => hc.2.2 (Ce.ext' ht hn)⟩
        rw [endsN_ns hn] at h
        show derN s (k + j) (cellAt s n) = derN s k (cellAt s n)
        rw [e]
        exact der_stable j k _ h
      · rw [derN_t ht, derN_t ht]
    · rfl
def derS (s : So) (c : Ce) : Ce := if vcR s c then derN s (s.cs.length + 1) c else ⟨0, 0⟩
theorem der_len {s : So} (h : validR s = true) {c : Ce} (hc : vcR s c = true) : derN s s.cs.length c = derN s (s.cs.length + 1) c := by
  by_cases ht : c.t = 0
  · have e : c = ⟨0, c.n⟩ := Ce.ext' ht rfl
    rw [e]
    exact (der_stable 1 _ _ (vr_ends_len h (vc_ref hc ht).1)).symm
  · rw [derN_t ht, derN_t ht]
theorem derN_vc {s : So} (h : validR s = true) : ∀ (k : Nat) {c : Ce}, vcR s c = true → vcR s (derN s k c) = true
  | 0, c, hc => hc
  | k + 1, c, hc => by
    unfold derN
    split
    · rename_i q
      exact derN_vc h k (vr_vc h q.2.1 (vc_ref hc q.1).2)
    · exact hc
theorem derS_vc {s : So} (h : validR s = true) {c : Ce} (hc : vcR s c = true) : vcR s (derS s c) = true := by
  rw [derS, if_pos hc]
  exact derN_vc h _ hc

def getL (g : Ce → Int → Te × Int) : List Ce → Int → List Te × Int
  | [], l => ([], l)
  | c :: cs, l => if l < 0 then ([], l) else ((g c l).1 :: (getL g cs (g c l).2).1, (getL g cs (g c l).2).2)
def argsOf (s : So) (n : Int) (k : Nat) : List Ce := (List.range k).map fun j => cellAt s (n + 1 + (j : Nat))
def getN (s : So) : Nat → Ce → Int → Te × Int
  | 0, _, left => (zT, left - 1)
  | f + 1, c, left => if left - 1 < 0 then (zT, left - 1)
    else if (derS s c).t = 1 then (.mk 1 (derS s c).n ⟨#[]⟩ [], left - 1)
    else if (derS s c).t = 2 then (.mk 2 0 (syAt s (derS s c).n).name [], left - 1)
    else if (derS s c).t = 3 then (.mk 3 0 (syAt s (cellAt s (derS s c).n).n).name (getL (getN s f) (argsOf s (derS s c).n (arS s (cellAt s (derS s c).n).n).toNat) (left - 1)).1, (getL (getN s f) (argsOf s (derS s c).n (arS s (cellAt s (derS s c).n).n).toNat) (left - 1)).2)
    else (.mk 0 (derS s c).n ⟨#[]⟩ [], left - 1)
theorem getL_le {g : Ce → Int → Te × Int} (hg : ∀ c l, 0 ≤ l → (g c l).2 ≤ l - 1 ∧ -1 ≤ (g c l).2) : ∀ (cs : List Ce) (l : Int), -1 ≤ l → (getL g cs l).2 ≤ l ∧ -1 ≤ (getL g cs l).2
  | [], l, h => ⟨Int.le_refl _, h⟩
  | c :: cs, l, h => by
    unfold getL
    split
    · exact ⟨Int.le_refl _, h⟩
    · have h1 := hg c l (by omega)
      have h2 := getL_le hg cs (g c l).2 h1.2
      exact ⟨by omega, h2.2⟩
theorem getN_le (s : So) : ∀ (f : Nat) (c : Ce) (l : Int), 0 ≤ l → (getN s f c l).2 ≤ l - 1 ∧ -1 ≤ (getN s f c l).2
  | 0, c, l, h => ⟨Int.le_refl _, by simp only [getN]; omega⟩
  | f + 1, c, l, h => by
    unfold getN
    split
    · simp only; omega
    split
    · simp only; omega
    split
    · simp only; omega
    split
    · exact getL_le (getN_le s f) _ _ (by omega)
    · simp only; omega
theorem getL_ok {g : Ce → Int → Te × Int} {P : Ce → Prop} (hl : ∀ c l, 0 ≤ l → (g c l).2 ≤ l - 1 ∧ -1 ≤ (g c l).2) (hg : ∀ c l, P c → 0 ≤ l → 0 ≤ (g c l).2 → nodesT (g c l).1 = true ∧ (szT (g c l).1 : Int) = l - (g c l).2) : ∀ (cs : List Ce) (l : Int), (∀ c ∈ cs, P c) → -1 ≤ l → 0 ≤ (getL g cs l).2 → (getL g cs l).1.length = cs.length ∧ nodesTs (getL g cs l).1 = true ∧ (szTs (getL g cs l).1 : Int) = l - (getL g cs l).2
  | [], l, _, _, _ => by simp [getL, nodesTs, szTs]
  | c :: cs, l, hP, h, h0 => by
    unfold getL at h0 ⊢
    split at h0
    · simp only at h0; omega
    rename_i hn
    rw [if_neg hn]
    have h1 := hl c l (by omega)
    have h2 := getL_le hl cs (g c l).2 h1.2
    simp only at h0
    obtain ⟨q1, q2, q3⟩ := getL_ok hl hg cs (g c l).2 (fun c hc => hP c (List.mem_cons_of_mem _ hc)) h1.2 h0
    obtain ⟨q4, q5⟩ := hg c l (hP c List.mem_cons_self) (by omega) (by omega)
    simp only [List.length_cons, nodesTs, szTs, q1, q2, q4]
    refine ⟨by first | trivial | rfl, by first | trivial | rfl, ?_⟩
    omega
theorem getN_ok {s : So} (h : validR s = true) : ∀ (f : Nat) (c : Ce) (l : Int), vcR s c = true → 0 ≤ l → 0 ≤ (getN s f c l).2 → nodesT (getN s f c l).1 = true ∧ (szT (getN s f c l).1 : Int) = l - (getN s f c l).2
  | 0, c, l, _, _, h0 => by
    simp only [getN] at h0 ⊢
    exact ⟨rfl, by simp [zT, szT, szTs]; omega⟩
  | f + 1, c, l, hc, hl, h0 => by
    have hd := derS_vc h hc
    unfold getN at h0 ⊢
    split at h0
    · simp only at h0; omega
    rename_i hn
    rw [if_neg hn]
    split at h0
    · rename_i ht
      rw [if_pos ht]
      exact ⟨by simp [nodesT, nodesTs, nodeT, Te.k, Te.n, Te.s, Te.l], by simp [szT, szTs]; omega⟩
    rename_i h1
    rw [if_neg h1]
    split at h0
    · rename_i ht
      rw [if_pos ht]
      have ha : arS s (derS s c).n = 0 := by
        simp only [vcR, ht] at hd
        simpa using hd
      have := vr_name h (n := (derS s c).n) (by omega)
      refine ⟨?_, by simp [szT, szTs]; omega⟩
      have h2 : ((syAt s (derS s c).n).name.size : Int) ≤ 100 := by omega
      simp only [nodesT, nodesTs, nodeT, Te.k, Te.n, Te.s, Te.l, h2]
      rfl
    rename_i h2
    rw [if_neg h2]
    split at h0
    · rename_i ht
      rw [if_pos ht]
      have htag : tagS s (derS s c).n = 4 := by
        simp only [vcR, ht] at hd
        simpa using hd
      have hin := tag_in' (by decide) htag
      rw [tagS_in hin] at htag
      obtain ⟨a1, a2, a3⟩ := vr_fun h hin htag
      obtain ⟨q1, q2, q3⟩ := getL_ok (P := fun c => vcR s c = true) (getN_le s f) (fun c l => getN_ok h f c l) (argsOf s (derS s c).n (arS s (cellAt s (derS s c).n).n).toNat) (l - 1) (fun x hx => by
        obtain ⟨j, hj, rfl⟩ := List.mem_map.1 hx
        have := List.mem_range.1 hj
        exact (a3 j (by omega)).2) (by omega) h0
      have h3 := vr_name h (n := (cellAt s (derS s c).n).n) (by omega)
      have h4 : ((syAt s (cellAt s (derS s c).n).n).name.size : Int) ≤ 100 := by omega
      have h5 : (argsOf s (derS s c).n (arS s (cellAt s (derS s c).n).n).toNat).length = (arS s (cellAt s (derS s c).n).n).toNat := by simp [argsOf]
      rw [h5] at q1
      refine ⟨?_, by simp only [szT]; omega⟩
      simp only [nodesT, nodeT, Te.k, Te.n, Te.s, Te.l, h4, q1, q2]
      have h6 : (1 : Int) ≤ ((arS s (cellAt s (derS s c).n).n).toNat : Int) := by omega
      have h7 : ((arS s (cellAt s (derS s c).n).n).toNat : Int) ≤ 8 := by omega
      simp only [h6, h7]
      rfl
    rename_i h3
    rw [if_neg h3]
    have hin : inS s (derS s c).n = true := by
      rcases vcR_tag hd with ht | ht | ht | ht | ht
      · exact (vc_ref hd ht).1
      · exact absurd ht h1
      · exact absurd ht h2
      · exact absurd ht h3
      · simp only [vcR, ht] at hd
        exact tag_in' (t := 5) (by decide) (by simpa using hd)
    have q := inS_iff.1 hin
    have q1 := vr_len h
    refine ⟨?_, by simp [szT, szTs]; omega⟩
    have h4 : 0 ≤ (derS s c).n := q.1
    have h5 : (derS s c).n ≤ 1099511627776 := by omega
    simp only [nodesT, nodesTs, nodeT, Te.k, Te.n, Te.s, Te.l, h4, h5]
    rfl
theorem get_valid {s : So} (h : validR s = true) {f : Nat} {c : Ce} {l : Int} (hc : vcR s c = true) (hl : 0 ≤ l) (hm : l ≤ 2000) (h0 : 0 ≤ (getN s f c l).2) : validT (getN s f c l).1 = true := by
  obtain ⟨q1, q2⟩ := getN_ok h f c l hc hl h0
  simp only [validT, q1, Bool.and_true, decide_eq_true_eq]
  omega
end Go.Proofs.Ytinclokohcommaa


namespace Go.Proofs.Ytinclokohcommaa
open Go.RowKit
set_option linter.unusedVariables false
set_option maxRecDepth 100000

end Go.Proofs.Ytinclokohcommaa


namespace Go.Proofs.Ytinclokohcommaa
open Go.RowKit
set_option linter.unusedVariables false
set_option linter.unusedSimpArgs false

def gDer : List D → Option (List D)
  | [s, c] => if validR (dS s) then some [eC (derS (dS s) (dC c))] else none
  | _ => none
theorem der_0 : D.a [.i 0, .i 0] = eC ⟨0, 0⟩ := rfl
theorem ok_cells_Deref : FOk q14 gDer := fok_cells_Deref q2b q33 fun ds outs hw hg => by
  obtain ⟨d, r, rfl, hd, e, r', rfl, he, rfl⟩ := hw
  obtain ⟨s, rfl, hs⟩ := wfS hd
  obtain ⟨c, rfl, hc⟩ := wfC he
  simp only [gDer, dS_eS, dC_eC, Option.ite_none_right_eq_some, Option.some.injEq] at hg
  obtain ⟨hv, rfl⟩ := hg
  have hvs := validR_vs hv
  have hl := vr_len hv
  have hvc : ∀ c, vcP s c = vcR s c := hvs.vc
  simp only [q38, q00, go_br, q01, q02, allSay, X.says, X.ev, X.evs, evl, tblS, List.getD_cons_zero, List.getD_cons_succ, List.getElem?_cons_zero, List.getElem?_cons_succ, tt_b, int_i, str_s, rs_r, Option.isSome_some, Option.getD_some, decide_eq_true_eq, decide_eq_false_iff_not, dS_eS, dC_eC, dU_eU, dW_eW, dY_eY, eC_0, eC_1, eU_0, eU_1, eW_0, eW_1, eW_2, eY_0, eY_1, eS_0, eS_1, eS_2, eS_3, eS_4, eS_5, List.length_map, i_inj, b_inj, s_inj, eC_eq, eU_eq, eW_eq, eY_eq, eS_eq, rng64, List.take_succ_cons, List.take_zero, List.nil_append, List.cons_append, decide_true, decide_false, Bool.or_true, true_and, and_true, gSCb, hvc, der_0]
  refine ⟨fun h => ?_, fun h => ?_⟩
  · simp only [derS, show vcR s c = false by simpa using h]
    rfl
  have hvc' : vcR s c = true := by simpa using h
  rw [q1j]
  refine ⟨fun st => ∃ (k : Nat) (x : Ce), k ≤ s.cs.length ∧ st = [.i k, eC x] ∧ derN s (s.cs.length - k) x = derS s c, fun st => s.cs.length - (st.getD 0 .u).int.toNat, ⟨0, c, Nat.zero_le _, rfl, by rw [Nat.sub_zero, der_len hv hvc', derS, if_pos hvc']⟩, ?_⟩
  rintro st - ⟨k, x, hk, rfl, hP⟩
  rw [go_br]
  refine ⟨fun hlt => ?_, fun hlt => ?_⟩
  · simp only [q00, go_br, q01, q02, allSay, X.says, X.ev, X.evs, evl, tblS, List.getD_cons_zero, List.getD_cons_succ, List.getElem?_cons_zero, List.getElem?_cons_succ, tt_b, int_i, str_s, rs_r, Option.isSome_some, Option.getD_some, decide_eq_true_eq, decide_eq_false_iff_not, dS_eS, dC_eC, dU_eU, dW_eW, dY_eY, eC_0, eC_1, eU_0, eU_1, eW_0, eW_1, eW_2, eY_0, eY_1, eS_0, eS_1, eS_2, eS_3, eS_4, eS_5, List.length_map, i_inj, b_inj, s_inj, eC_eq, eU_eq, eW_eq, eY_eq, eS_eq, rng64, List.take_succ_cons, List.take_zero, List.nil_append, List.cons_append, decide_true, decide_false, Bool.or_true, true_and, and_true] at hlt
    have hkl : k < s.cs.length := by omega
    obtain ⟨n, hn⟩ : ∃ n, s.cs.length - k = n + 1 := ⟨s.cs.length - k - 1, by omega⟩
    rw [hn] at hP
    unfold derN at hP
    have hn2 : s.cs.length - (k + 1) = n := by omega
    have ht := hvs.tag_in x.n
    by_cases h0 : x.t = 0
    · cases hin : inS s x.n with
      | true =>
        have h3 := inS_iff.1 hin
        rw [hin] at ht
        have ht' : ¬ tagS s x.n < 0 := by have := of_decide_eq_true ht; omega
        simp only [q00, go_br, q01, q02, allSay, X.says, X.ev, X.evs, evl, tblS, List.getD_cons_zero, List.getD_cons_succ, List.getElem?_cons_zero, List.getElem?_cons_succ, tt_b, int_i, str_s, rs_r, Option.isSome_some, Option.getD_some, decide_eq_true_eq, decide_eq_false_iff_not, dS_eS, dC_eC, dU_eU, dW_eW, dY_eY, eC_0, eC_1, eU_0, eU_1, eW_0, eW_1, eW_2, eY_0, eY_1, eS_0, eS_1, eS_2, eS_3, eS_4, eS_5, List.length_map, i_inj, b_inj, s_inj, eC_eq, eU_eq, eW_eq, eY_eq, eS_eq, rng64, List.take_succ_cons, List.take_zero, List.nil_append, List.cons_append, decide_true, decide_false, Bool.or_true, true_and, and_true, gSIi, cell_get hin, h0, ht', h3.1, h3.2]
        refine ⟨fun hx => ?_, fun hx => ?_⟩
        · have hx' : cellAt s x.n = x := by simpa using hx
          rw [if_neg (fun q => q.2.2 hx')] at hP
          rw [hP]
        · have hx' : cellAt s x.n ≠ x := by simpa using hx
          rw [if_pos ⟨h0, hin, hx'⟩] at hP
          refine ⟨⟨by omega, by omega⟩, ?_⟩
          rw [updB, if_pos rfl]
          refine ⟨⟨k + 1, cellAt s x.n, by omega, by simp, by rw [hn2]; exact hP⟩, ?_⟩
          simp [D.int]
          omega
      | false =>
        rw [hin] at ht
        have ht' : tagS s x.n < 0 := by have := of_decide_eq_false ht; omega
        rw [if_neg (fun q => by rw [hin] at q; cases q.2.1)] at hP
        simp only [q00, go_br, q01, q02, allSay, X.says, X.ev, X.evs, evl, tblS, List.getD_cons_zero, List.getD_cons_succ, List.getElem?_cons_zero, List.getElem?_cons_succ, tt_b, int_i, str_s, rs_r, Option.isSome_some, Option.getD_some, decide_eq_true_eq, decide_eq_false_iff_not, dS_eS, dC_eC, dU_eU, dW_eW, dY_eY, eC_0, eC_1, eU_0, eU_1, eW_0, eW_1, eW_2, eY_0, eY_1, eS_0, eS_1, eS_2, eS_3, eS_4, eS_5, List.length_map, i_inj, b_inj, s_inj, eC_eq, eU_eq, eW_eq, eY_eq, eS_eq, rng64, List.take_succ_cons, List.take_zero, List.nil_append, List.cons_append, decide_true, decide_false, Bool.or_true, true_and, and_true, gSIi, h0, ht', ← hP]
        simp
    · rw [if_neg (fun q => h0 q.1)] at hP
      simp only [q00, go_br, q01, q02, allSay, X.says, X.ev, X.evs, evl, tblS, List.getD_cons_zero, List.getD_cons_succ, List.getElem?_cons_zero, List.getElem?_cons_succ, tt_b, int_i, str_s, rs_r, Option.isSome_some, Option.getD_some, decide_eq_true_eq, decide_eq_false_iff_not, dS_eS, dC_eC, dU_eU, dW_eW, dY_eY, eC_0, eC_1, eU_0, eU_1, eW_0, eW_1, eW_2, eY_0, eY_1, eS_0, eS_1, eS_2, eS_3, eS_4, eS_5, List.length_map, i_inj, b_inj, s_inj, eC_eq, eU_eq, eW_eq, eY_eq, eS_eq, rng64, List.take_succ_cons, List.take_zero, List.nil_append, List.cons_append, decide_true, decide_false, Bool.or_true, true_and, and_true, gSIi, h0, ← hP]
      simp
  · simp only [q00, go_br, q01, q02, allSay, X.says, X.ev, X.evs, evl, tblS, List.getD_cons_zero, List.getD_cons_succ, List.getElem?_cons_zero, List.getElem?_cons_succ, tt_b, int_i, str_s, rs_r, Option.isSome_some, Option.getD_some, decide_eq_true_eq, decide_eq_false_iff_not, dS_eS, dC_eC, dU_eU, dW_eW, dY_eY, eC_0, eC_1, eU_0, eU_1, eW_0, eW_1, eW_2, eY_0, eY_1, eS_0, eS_1, eS_2, eS_3, eS_4, eS_5, List.length_map, i_inj, b_inj, s_inj, eC_eq, eU_eq, eW_eq, eY_eq, eS_eq, rng64, List.take_succ_cons, List.take_zero, List.nil_append, List.cons_append, decide_true, decide_false, Bool.or_true, true_and, and_true] at hlt ⊢
    have : k = s.cs.length := by omega
    subst this
    rw [Nat.sub_self] at hP
    rw [← hP, derN]
def getQ (s : So) (c : Ce) (l : Int) (n : Nat) : Bool := validR s && (vcR s c && (decide (0 ≤ l) && decide (l < n)))
def gGet1 (n : Nat) : List D → Option (List D)
  | [c, l, s] => if getQ (dS s) (dC c) l.int n then some [eT (getN (dS s) n (dC c) l.int).1, .i (getN (dS s) n (dC c) l.int).2] else none
  | _ => none
theorem getL_neg {g : Ce → Int → Te × Int} {l : Int} (h : l < 0) : ∀ cs, getL g cs l = ([], l)
  | [] => rfl
  | c :: cs => if_pos h
theorem args_drop {s : So} {n : Int} {m k : Nat} (h : k < m) : (argsOf s n m).drop k = cellAt s (n + 1 + k) :: (argsOf s n m).drop (k + 1) := by
  have hl : k < (argsOf s n m).length := by simp [argsOf, h]
  rw [List.drop_eq_getElem_cons hl]
  simp [argsOf]
theorem sy_get {s : So} {i : Int} (h : 0 ≤ arS s i) : (D.r (s.ys.map eY)).get i = eY (syAt s i) := get_r eY (ar_rng h).1 (ar_rng h).2.1
theorem e_var (n : Int) : D.a ((D.a ((eT zT).fs.set 0 (.i 0))).fs.set 1 (.i n)) = eT (.mk 0 n ⟨#[]⟩ []) := rfl
theorem e_str (x : ByteArray) : D.a ((D.a ((eT zT).fs.set 0 (.i 3))).fs.set 2 (.s x)) = eT (.mk 3 0 x []) := rfl

theorem ok_cells_Get_1 : ∀ n, FOk q0y (gGet1 n)
  | 0 => (FOk.none q4e).sub fun ds outs h => by
    unfold gGet1 at h
    split at h
    · simp only [getQ, Option.ite_none_right_eq_some, Bool.and_eq_true, decide_eq_true_eq] at h
      omega
    · cases h
  | f + 1 => fok_cells_Get_1 (ok_cells_Get_1 f) ok_cells_Deref ok_term_Int q5h ok_term_Atom q33 fun ds outs hw hg => by
    obtain ⟨d, r, rfl, hd, e, r', rfl, he, e2, r2, rfl, he2, hw⟩ := hw
    obtain rfl : r2 = [] := hw
    obtain ⟨c, rfl, hc⟩ := wfC hd
    obtain ⟨l, rfl, hl⟩ := wfI he
    obtain ⟨s, rfl, hs⟩ := wfS he2
    simp only [gGet1, getQ, dS_eS, dC_eC, int_i, Option.ite_none_right_eq_some, Option.some.injEq, Bool.and_eq_true, decide_eq_true_eq] at hg
    obtain ⟨⟨hv, hvc, h0, hf⟩, rfl⟩ := hg
    have h0 := of_decide_eq_true h0
    have hf := of_decide_eq_true hf
    have hlen := vr_len hv
    have hd := derS_vc hv hvc
    have hder : gDer [eS s, eC c] = some [eC (derS s c)] := by simp only [gDer, dS_eS, dC_eC, hv, if_true]
    simp only [q3a, q00, go_br, q01, q02, allSay, X.says, X.ev, X.evs, evl, tblS, List.getD_cons_zero, List.getD_cons_succ, List.getElem?_cons_zero, List.getElem?_cons_succ, tt_b, int_i, str_s, rs_r, Option.isSome_some, Option.getD_some, decide_eq_true_eq, decide_eq_false_iff_not, dS_eS, dC_eC, dU_eU, dW_eW, dY_eY, eC_0, eC_1, eU_0, eU_1, eW_0, eW_1, eW_2, eY_0, eY_1, eS_0, eS_1, eS_2, eS_3, eS_4, eS_5, List.length_map, i_inj, b_inj, s_inj, eC_eq, eU_eq, eW_eq, eY_eq, eS_eq, rng64, List.take_succ_cons, List.take_zero, List.nil_append, List.cons_append, decide_true, decide_false, Bool.or_true, true_and, and_true, dT_eT, eT_0, eT_1, eT_2, eT_3, eT_eq, eT_z, hder, gIt, gSIi, gSt]
    refine ⟨⟨by omega, by omega⟩, fun hn => ?_, fun hn => ?_⟩
    · rw [getN, if_pos hn]
    have hn' : ¬ l - 1 < 0 := hn
    unfold getN
    simp only [if_neg hn']
    refine ⟨fun h1 => ?_, fun h1 => ?_⟩
    · rw [if_pos h1]
    simp only [if_neg h1]
    have h2' : (derS s c).t = 2 → arS s (derS s c).n = 0 := fun ht => by
      simp only [vcR, ht] at hd
      simpa using hd
    have h3' : (derS s c).t = 3 → tagS s (derS s c).n = 4 := fun ht => by
      simp only [vcR, ht] at hd
      simpa using hd
    by_cases h2 : (derS s c).t = 2
    · have ha := h2' h2
      have hsy := sy_get (s := s) (i := (derS s c).n) (by omega)
      have hr := ar_rng (s := s) (n := (derS s c).n) (by omega)
      have hnm := vr_name hv (n := (derS s c).n) (by omega)
      simp [h2, ha, hsy, eY_0, hr.1, hr.2.1, str_s, atomT_ok hnm]
    simp only [h2]
    by_cases h3 : (derS s c).t = 3
    · have htag := h3' h3
      have hin := tag_in' (by decide) htag
      have htag' := htag
      rw [tagS_in hin] at htag'
      obtain ⟨a1, a2, a3⟩ := vr_fun hv hin htag'
      have hr := ar_rng (s := s) (n := (cellAt s (derS s c).n).n) (by omega)
      have hsy := sy_get (s := s) (i := (cellAt s (derS s c).n).n) (by omega)
      have hi := inS_iff.1 hin
      have hge : (0 : Int) ≤ arS s (cellAt s (derS s c).n).n := by omega
      have hsr : (syAt s (cellAt s (derS s c).n).n).ar = arS s (cellAt s (derS s c).n).n := hr.2.2.symm
      simp only [h3, htag, q00, go_br, q01, q02, allSay, X.says, X.ev, X.evs, evl, tblS, List.getD_cons_zero, List.getD_cons_succ, List.getElem?_cons_zero, List.getElem?_cons_succ, tt_b, int_i, str_s, rs_r, Option.isSome_some, Option.getD_some, decide_eq_true_eq, decide_eq_false_iff_not, dS_eS, dC_eC, dU_eU, dW_eW, dY_eY, eC_0, eC_1, eU_0, eU_1, eW_0, eW_1, eW_2, eY_0, eY_1, eS_0, eS_1, eS_2, eS_3, eS_4, eS_5, List.length_map, i_inj, b_inj, s_inj, eC_eq, eU_eq, eW_eq, eY_eq, eS_eq, rng64, List.take_succ_cons, List.take_zero, List.nil_append, List.cons_append, decide_true, decide_false, Bool.or_true, true_and, and_true, dT_eT, eT_0, eT_1, eT_2, eT_3, eT_eq, eT_z, cell_get hin, hsy, hr.1, hr.2.1, hi.1, hi.2, hge]
      generalize hF : getL (getN s f) (argsOf s (derS s c).n (arS s (cellAt s (derS s c).n).n).toNat) (l - 1) = F
      generalize har : arS s (cellAt s (derS s c).n).n = ar at *
      refine ⟨fun h => by simp at h, fun _ => ⟨fun _ => ⟨⟨by omega, by omega⟩, ?_⟩, fun h => by simp at h⟩⟩
      simp only [if_false, if_true]
      rw [q1j]
      refine ⟨fun st => ∃ (k : Nat) (x : Int) (ts : List Te), (k : Int) ≤ ar ∧ -1 ≤ x ∧ x ≤ l - 1 ∧ ts.length = k ∧ st = [.i ((derS s c).n + 1 + k), .i x, eT (.mk 3 0 (syAt s (cellAt s (derS s c).n).n).name ts)] ∧ F = (ts ++ (getL (getN s f) ((argsOf s (derS s c).n ar.toNat).drop k) x).1, (getL (getN s f) ((argsOf s (derS s c).n ar.toNat).drop k) x).2), fun st => ar.toNat - ((st.getD 0 .u).int - (derS s c).n - 1).toNat, ⟨0, l - 1, [], by omega, by omega, by omega, rfl, ?_, by rw [← hF]; rfl⟩, ?_⟩
      · simp only [X.evs, q00, go_br, q01, q02, allSay, X.says, X.ev, X.evs, evl, tblS, List.getD_cons_zero, List.getD_cons_succ, List.getElem?_cons_zero, List.getElem?_cons_succ, tt_b, int_i, str_s, rs_r, Option.isSome_some, Option.getD_some, decide_eq_true_eq, decide_eq_false_iff_not, dS_eS, dC_eC, dU_eU, dW_eW, dY_eY, eC_0, eC_1, eU_0, eU_1, eW_0, eW_1, eW_2, eY_0, eY_1, eS_0, eS_1, eS_2, eS_3, eS_4, eS_5, List.length_map, i_inj, b_inj, s_inj, eC_eq, eU_eq, eW_eq, eY_eq, eS_eq, rng64, List.take_succ_cons, List.take_zero, List.nil_append, List.cons_append, decide_true, decide_false, Bool.or_true, true_and, and_true, dT_eT, eT_0, eT_1, eT_2, eT_3, eT_eq, eT_z, hder, cell_get hin, hsy, e_str]
        simp
      rintro st - ⟨k, x, ts, hk, hx1, hx2, hts, rfl, hFk⟩
      by_cases hkl : (k : Int) < ar
      · obtain ⟨b1, b2⟩ := a3 k hkl
        have b3 := inS_iff.1 b1
        have ht0 : 0 ≤ tagS s ((derS s c).n + 1 + k) := by
          have := (validR_vs hv).tag_in ((derS s c).n + 1 + k)
          rw [b1] at this
          exact of_decide_eq_true this
        have hle : (derS s c).n + 1 + k ≤ (derS s c).n + ar := by omega
        by_cases hx0 : 0 ≤ x
        · have hq : gGet1 f [eC (cellAt s ((derS s c).n + 1 + k)), .i x, eS s] = some [eT (getN s f (cellAt s ((derS s c).n + 1 + k)) x).1, .i (getN s f (cellAt s ((derS s c).n + 1 + k)) x).2] := by
            have h1 : x < f := by omega
            simp only [gGet1, getQ, dS_eS, dC_eC, int_i, hv, b2, hx0, h1, decide_true, Bool.and_true, if_true]
          have hnx := getN_le s f (cellAt s ((derS s c).n + 1 + k)) x hx0
          simp only [q00, go_br, q01, q02, allSay, X.says, X.ev, X.evs, evl, tblS, List.getD_cons_zero, List.getD_cons_succ, List.getElem?_cons_zero, List.getElem?_cons_succ, tt_b, int_i, str_s, rs_r, Option.isSome_some, Option.getD_some, decide_eq_true_eq, decide_eq_false_iff_not, dS_eS, dC_eC, dU_eU, dW_eW, dY_eY, eC_0, eC_1, eU_0, eU_1, eW_0, eW_1, eW_2, eY_0, eY_1, eS_0, eS_1, eS_2, eS_3, eS_4, eS_5, List.length_map, i_inj, b_inj, s_inj, eC_eq, eU_eq, eW_eq, eY_eq, eS_eq, rng64, List.take_succ_cons, List.take_zero, List.nil_append, List.cons_append, decide_true, decide_false, Bool.or_true, true_and, and_true, dT_eT, eT_0, eT_1, eT_2, eT_3, eT_eq, eT_z, hder, cell_get hin, cell_get b1, hsy, hsr, gSIi, hle, ht0, hq, hx0, Te_l, b3.1, b3.2]
          refine ⟨⟨by omega, by omega⟩, fun _ => ⟨by omega, ⟨by omega, by omega⟩, ?_⟩, fun h => by simp at h⟩
          rw [updB, if_pos rfl]
          refine ⟨⟨k + 1, (getN s f (cellAt s ((derS s c).n + 1 + k)) x).2, ts ++ [(getN s f (cellAt s ((derS s c).n + 1 + k)) x).1], by omega, by omega, by omega, by simp [hts], ?_, ?_⟩, ?_⟩
          · rw [eT_snoc]
            simp
            omega
          · rw [hFk, args_drop (by omega), getL, if_neg (by omega)]
            simp
          · simp [D.int]
            omega
        · simp only [q00, go_br, q01, q02, allSay, X.says, X.ev, X.evs, evl, tblS, List.getD_cons_zero, List.getD_cons_succ, List.getElem?_cons_zero, List.getElem?_cons_succ, tt_b, int_i, str_s, rs_r, Option.isSome_some, Option.getD_some, decide_eq_true_eq, decide_eq_false_iff_not, dS_eS, dC_eC, dU_eU, dW_eW, dY_eY, eC_0, eC_1, eU_0, eU_1, eW_0, eW_1, eW_2, eY_0, eY_1, eS_0, eS_1, eS_2, eS_3, eS_4, eS_5, List.length_map, i_inj, b_inj, s_inj, eC_eq, eU_eq, eW_eq, eY_eq, eS_eq, rng64, List.take_succ_cons, List.take_zero, List.nil_append, List.cons_append, decide_true, decide_false, Bool.or_true, true_and, and_true, dT_eT, eT_0, eT_1, eT_2, eT_3, eT_eq, eT_z, hder, cell_get hin, cell_get b1, hsy, hsr, gSIi, hle, ht0, hx0]
          rw [getL_neg (by omega)] at hFk
          refine ⟨⟨by omega, by omega⟩, fun h => by simp at h, fun _ => ?_⟩
          simp [hFk]
      · have hle : ¬ (derS s c).n + 1 + k ≤ (derS s c).n + ar := by omega
        have : (argsOf s (derS s c).n ar.toNat).drop k = [] := List.drop_eq_nil_of_le (by simp [argsOf]; omega)
        rw [this] at hFk
        simp only [q00, go_br, q01, q02, allSay, X.says, X.ev, X.evs, evl, tblS, List.getD_cons_zero, List.getD_cons_succ, List.getElem?_cons_zero, List.getElem?_cons_succ, tt_b, int_i, str_s, rs_r, Option.isSome_some, Option.getD_some, decide_eq_true_eq, decide_eq_false_iff_not, dS_eS, dC_eC, dU_eU, dW_eW, dY_eY, eC_0, eC_1, eU_0, eU_1, eW_0, eW_1, eW_2, eY_0, eY_1, eS_0, eS_1, eS_2, eS_3, eS_4, eS_5, List.length_map, i_inj, b_inj, s_inj, eC_eq, eU_eq, eW_eq, eY_eq, eS_eq, rng64, List.take_succ_cons, List.take_zero, List.nil_append, List.cons_append, decide_true, decide_false, Bool.or_true, true_and, and_true, dT_eT, eT_0, eT_1, eT_2, eT_3, eT_eq, eT_z, hder, cell_get hin, hsy, hsr, gSIi, hle]
        refine ⟨⟨by omega, by omega⟩, fun h => by simp at h, fun _ => ?_⟩
        simp [hFk, getL]
    · simp only [h3, q00, go_br, q01, q02, allSay, X.says, X.ev, X.evs, evl, tblS, List.getD_cons_zero, List.getD_cons_succ, List.getElem?_cons_zero, List.getElem?_cons_succ, tt_b, int_i, str_s, rs_r, Option.isSome_some, Option.getD_some, decide_eq_true_eq, decide_eq_false_iff_not, dS_eS, dC_eC, dU_eU, dW_eW, dY_eY, eC_0, eC_1, eU_0, eU_1, eW_0, eW_1, eW_2, eY_0, eY_1, eS_0, eS_1, eS_2, eS_3, eS_4, eS_5, List.length_map, i_inj, b_inj, s_inj, eC_eq, eU_eq, eW_eq, eY_eq, eS_eq, rng64, List.take_succ_cons, List.take_zero, List.nil_append, List.cons_append, decide_true, decide_false, Bool.or_true, true_and, and_true, dT_eT, eT_0, eT_1, eT_2, eT_3, eT_eq, eT_z]
      refine ⟨fun h => by simp at h, fun _ => ⟨by simp, fun h => by simp at h, fun _ => ?_⟩⟩
      simp only [e_var, if_false]

def getS (s : So) (c : Ce) : Te × Int := if vcR s c then (if (getN s 2001 c 2000).2 < 0 then (zT, 2) else ((getN s 2001 c 2000).1, 0)) else (zT, 1)
def gGet : List D → Option (List D)
  | [s, c] => if validR (dS s) then some [eT (getS (dS s) (dC c)).1, .i (getS (dS s) (dC c)).2] else none
  | _ => none
theorem ok_cells_Get : FOk q1l gGet := fok_cells_Get (ok_cells_Get_1 2001) q2b fun ds outs hw hg => by
  obtain ⟨d, r, rfl, hd, e, r', rfl, he, rfl⟩ := hw
  obtain ⟨s, rfl, hs⟩ := wfS hd
  obtain ⟨c, rfl, hc⟩ := wfC he
  simp only [gGet, dS_eS, dC_eC, Option.ite_none_right_eq_some, Option.some.injEq] at hg
  obtain ⟨hv, rfl⟩ := hg
  have hvc : ∀ c, vcP s c = vcR s c := (validR_vs hv).vc
  simp only [q4a, q00, go_br, q01, q02, allSay, X.says, X.ev, X.evs, evl, tblS, List.getD_cons_zero, List.getD_cons_succ, List.getElem?_cons_zero, List.getElem?_cons_succ, tt_b, int_i, str_s, rs_r, Option.isSome_some, Option.getD_some, decide_eq_true_eq, decide_eq_false_iff_not, dS_eS, dC_eC, dU_eU, dW_eW, dY_eY, eC_0, eC_1, eU_0, eU_1, eW_0, eW_1, eW_2, eY_0, eY_1, eS_0, eS_1, eS_2, eS_3, eS_4, eS_5, List.length_map, i_inj, b_inj, s_inj, eC_eq, eU_eq, eW_eq, eY_eq, eS_eq, rng64, List.take_succ_cons, List.take_zero, List.nil_append, List.cons_append, decide_true, decide_false, Bool.or_true, true_and, and_true, dT_eT, eT_0, eT_1, eT_2, eT_3, eT_eq, eT_z, gSCb, hvc, getS]
  cases h : vcR s c with
  | false => simp
  | true =>
    have hq : gGet1 2001 [eC c, .i 2000, eS s] = some [eT (getN s 2001 c 2000).1, .i (getN s 2001 c 2000).2] := by
      simp only [gGet1, getQ, dS_eS, dC_eC, int_i, hv, h]
      rfl
    simp only [hq]
    by_cases hn : (getN s 2001 c 2000).2 < 0
    · simp [hn, int_i]
    · simp [hn, int_i]
end Go.Proofs.Ytinclokohcommaa


namespace Go.Proofs.Ytinclokohcommaa
open Go.RowKit
set_option linter.unusedVariables false
set_option linter.unusedSimpArgs false

structure Vc where
  v : Int
  c : Ce
instance : Inhabited Vc := ⟨⟨0, default⟩⟩
def eV (x : Vc) : D := .a [.i x.v, eC x.c]
def dV (d : D) : Vc := ⟨(d.fld 0).int, dC (d.fld 1)⟩
theorem dV_eV (x : Vc) : dV (eV x) = x := rfl
theorem eV_inj {a b : Vc} (h : eV a = eV b) : a = b := by rw [← dV_eV a, h, dV_eV b]
theorem eV_eq (a b : Vc) : (eV a = eV b) = (a = b) := propext ⟨eV_inj, fun h => h ▸ rfl⟩
instance : DecidableEq Vc := fun a b => if h : eV a = eV b then .isTrue (eV_inj h) else .isFalse fun e => h (e ▸ rfl)
theorem eV_0 (x : Vc) : (eV x).fld 0 = .i x.v := rfl
theorem eV_1 (x : Vc) : (eV x).fld 1 = eC x.c := rfl
theorem eV_mk (n : Int) (c : Ce) : D.a [.i n, eC c] = eV ⟨n, c⟩ := rfl
def dVs (d : D) : List Vc := d.rs.map dV
theorem dVs_eVs (l : List Vc) : dVs (.r (l.map eV)) = l := by
  show (l.map eV).map dV = l
  rw [List.map_map]
  exact List.map_id'' (fun x => rfl) l
theorem wfV {d : D} (h : Wf d T_VarCell) : ∃ c, d = eV c ∧ i64 c.v ∧ c.c.ok := by
  obtain ⟨ds, rfl, hl⟩ := h.st_of (fs := [.int .i64, T_Cell]) rfl
  obtain ⟨a, b, rfl, ha, hb⟩ := wfL2 hl
  obtain ⟨x, rfl, hx⟩ := wfI ha
  obtain ⟨y, rfl, hy⟩ := wfC hb
  exact ⟨⟨x, y⟩, rfl, hx, hy⟩
theorem wfVs {d : D} (h : Wf d T_VarCells) : ∃ l : List Vc, d = .r (l.map eV) ∧ l.length ≤ 5864062014634 ∧ ∀ x ∈ l, i64 x.v ∧ x.c.ok := by
  obtain ⟨l, e, h1, h2⟩ := h.row_of (te := T_VarCell) rfl
  subst e
  obtain ⟨m, rfl, h3⟩ := of_all (e := eV) (P := fun x => i64 x.v ∧ x.c.ok) fun x hx => wfV (h2 x hx)
  have e : LM T_VarCell = 5864062014634 := by kernel_rfl
  rw [e, List.length_map] at h1
  exact ⟨m, rfl, h1, h3⟩

def ofV : List Vc → Int → Option Ce
  | [], _ => none
  | x :: l, v => if x.v = v then some x.c else ofV l v
def insV : List Vc → Int → Ce → List Vc
  | [], v, c => [⟨v, c⟩]
  | x :: l, v, c => if x.v < v then x :: insV l v c else ⟨v, c⟩ :: x :: l
def loV : List Vc → Int → Nat
  | [], _ => 0
  | x :: l, v => if x.v < v then loV l v + 1 else 0
def SV (l : List Vc) : Prop := l.Pairwise (fun a b => a.v < b.v) ∧ ∀ x ∈ l, 0 ≤ x.v ∧ x.v ≤ 1099511627776
instance (l : List Vc) : Decidable (SV l) := inferInstanceAs (Decidable (_ ∧ _))
theorem loV_le (v : Int) : ∀ l, loV l v ≤ l.length
  | [] => Nat.le_refl _
  | x :: l => by
    unfold loV
    have := loV_le v l
    split <;> simp <;> omega
theorem loV_lt {v : Int} : ∀ {l : List Vc} {j : Nat}, j < loV l v → (l.getD j default).v < v
  | [], j, h => by simp [loV] at h
  | x :: l, j, h => by
    unfold loV at h
    split at h
    · rename_i hx
      cases j with
      | zero => exact hx
      | succ j =>
        rw [List.getD_cons_succ]
        exact loV_lt (by omega)
    · omega
theorem loV_stop {v : Int} : ∀ {l : List Vc}, loV l v < l.length → v ≤ (l.getD (loV l v) default).v
  | [], h => by simp [loV] at h
  | x :: l, h => by
    unfold loV at h ⊢
    split at h
    · rename_i hx
      rw [if_pos hx, List.getD_cons_succ]
      exact loV_stop (by simpa using h)
    · rename_i hx
      rw [if_neg hx, List.getD_cons_zero]
      omega
theorem loV_uniq {v : Int} {l : List Vc} {i : Nat} (hi : i ≤ l.length) (h1 : ∀ j, j < i → (l.getD j default).v < v) (h2 : ∀ j, i ≤ j → j < l.length → v ≤ (l.getD j default).v) : loV l v = i := by
  rcases Nat.lt_trichotomy (loV l v) i with h | h | h
  · have := h1 _ h
    have := loV_stop (v := v) (l := l) (by omega)
    omega
  · exact h
  · have := loV_lt h
    have h3 := loV_le v l
    have := h2 i (Nat.le_refl _) (by omega)
    omega
theorem insV_eq (v : Int) (c : Ce) : ∀ l, insV l v c = l.take (loV l v) ++ ⟨v, c⟩ :: l.drop (loV l v)
  | [] => rfl
  | x :: l => by
    unfold insV loV
    split
    · rw [insV_eq v c l]
      rfl
    · rfl
theorem ofV_none {v : Int} : ∀ {l : List Vc}, (∀ y ∈ l, y.v ≠ v) → ofV l v = none
  | [], _ => rfl
  | x :: l, h => by
    unfold ofV
    rw [if_neg (h x (by simp)), ofV_none fun y hy => h y (by simp [hy])]
theorem ofV_lo {v : Int} : ∀ {l : List Vc}, SV l → ofV l v = if loV l v < l.length ∧ (l.getD (loV l v) default).v = v then some (l.getD (loV l v) default).c else none
  | [], _ => rfl
  | x :: l, h => by
    have hp := List.pairwise_cons.1 h.1
    have hl : SV l := ⟨hp.2, fun y hy => h.2 y (by simp [hy])⟩
    unfold ofV loV
    by_cases hx : x.v < v
    · rw [if_neg (by omega), if_pos hx, ofV_lo hl]
      simp
    · rw [if_neg hx]
      by_cases he : x.v = v
      · simp [he]
      · rw [if_neg he, ofV_none fun y hy => by have := hp.1 y hy; omega]
        simp [he]
theorem ofV_mem {v : Int} {c : Ce} : ∀ {l : List Vc}, ofV l v = some c → ⟨v, c⟩ ∈ l
  | [], h => by cases h
  | x :: l, h => by
    unfold ofV at h
    split at h
    · rename_i hx
      injection h with h
      subst hx h
      exact List.mem_cons_self
    · exact List.mem_cons_of_mem _ (ofV_mem h)
theorem ofV_no {v : Int} : ∀ {l : List Vc}, ofV l v = none → ∀ y ∈ l, y.v ≠ v
  | [], _, y, hy => by cases hy
  | x :: l, h, y, hy => by
    unfold ofV at h
    split at h
    · cases h
    · rename_i hx
      rcases List.mem_cons.1 hy with rfl | hy
      · exact hx
      · exact ofV_no h y hy
theorem insV_mem {v : Int} {c : Ce} {l : List Vc} {y : Vc} : y ∈ insV l v c ↔ y = ⟨v, c⟩ ∨ y ∈ l := by
  rw [insV_eq, List.mem_append, List.mem_cons]
  conv => rhs; rw [← List.take_append_drop (loV l v) l, List.mem_append]
  constructor
  · rintro (h | h | h)
    · exact .inr (.inl h)
    · exact .inl h
    · exact .inr (.inr h)
  · rintro (h | h | h)
    · exact .inr (.inl h)
    · exact .inl h
    · exact .inr (.inr h)
theorem insV_sv {v : Int} {c : Ce} (h0 : 0 ≤ v) (h1 : v ≤ 1099511627776) : ∀ {l : List Vc}, SV l → ofV l v = none → SV (insV l v c) := fun {l} h hn => by
  refine ⟨?_, fun y hy => ?_⟩
  · have hne := ofV_no hn
    have key : ∀ l : List Vc, l.Pairwise (fun a b => a.v < b.v) → (∀ y ∈ l, y.v ≠ v) → (insV l v c).Pairwise fun a b => a.v < b.v := by
      intro l
      induction l with
      | nil => intro _ _; exact List.pairwise_singleton _ _
      | cons x l ih =>
        intro hp hn
        have hp' := List.pairwise_cons.1 hp
        unfold insV
        split
        · rename_i hx
          refine List.pairwise_cons.2 ⟨fun y hy => ?_, ih hp'.2 fun y hy => hn y (by simp [hy])⟩
          rcases insV_mem.1 hy with rfl | hy
          · exact hx
          · exact hp'.1 y hy
        · rename_i hx
          have := hn x (by simp)
          refine List.pairwise_cons.2 ⟨fun y hy => ?_, hp⟩
          rcases List.mem_cons.1 hy with rfl | hy
          · show v < y.v; omega
          · have := hp'.1 y hy
            show v < y.v
            omega
    exact key l h.1 hne
  · rcases insV_mem.1 hy with rfl | hy
    · exact ⟨h0, h1⟩
    · exact h.2 y hy
theorem sv_len {b : Int} : ∀ (l : List Vc) (a : Int), a ≤ b + 1 → l.Pairwise (fun x y => x.v < y.v) → (∀ x ∈ l, a ≤ x.v ∧ x.v ≤ b) → (l.length : Int) ≤ b - a + 1
  | [], a, h, _, _ => by simp; omega
  | x :: l, a, h, hp, hr => by
    have hp' := List.pairwise_cons.1 hp
    have hx := hr x (by simp)
    have := sv_len l (x.v + 1) (by omega) hp'.2 fun y hy => ⟨by have := hp'.1 y hy; omega, (hr y (by simp [hy])).2⟩
    rw [List.length_cons]
    omega
theorem SV.len {l : List Vc} (h : SV l) : (l.length : Int) ≤ 1099511627777 := by
  have := sv_len (b := 1099511627776) l 0 (by omega) h.1 h.2
  omega
theorem SV.nil : SV [] := ⟨.nil, fun x hx => by cases hx⟩

theorem fnd_mem {nm : ByteArray} {ar : Int} : ∀ (k : Nat) (l : List Sy), 0 ≤ fnd nm ar k l ↔ (⟨nm, ar⟩ : Sy) ∈ l
  | k, [] => by simp [fnd]
  | k, y :: l => by
    unfold fnd
    split
    · rename_i h
      obtain ⟨rfl, rfl⟩ := h
      exact ⟨fun _ => by simp, fun _ => Int.natCast_nonneg _⟩
    · rename_i h
      rw [fnd_mem (k + 1) l, List.mem_cons]
      exact ⟨.inr, fun h' => h'.elim (fun e => by subst e; exact (h ⟨rfl, rfl⟩).elim) id⟩
theorem findS_mem {s : So} {nm : ByteArray} {ar : Int} : 0 ≤ findS s nm ar ↔ (⟨nm, ar⟩ : Sy) ∈ s.ys := fnd_mem 0 s.ys
def symN (s : So) (nm : ByteArray) (ar : Int) : Int × So := if 0 ≤ findS s nm ar then (findS s nm ar, s) else ((s.ys.length : Nat), { s with ys := s.ys ++ [⟨nm, ar⟩] })
def symX (ys : List Sy) (y : Sy) : List Sy := if y ∈ ys then ys else ys ++ [y]
mutual
def symsT (ys : List Sy) : Te → List Sy
  | .mk k _ nm l => symsTs (if k = 2 ∨ k = 3 then symX ys ⟨nm, (l.length : Nat)⟩ else ys) l
def symsTs (ys : List Sy) : List Te → List Sy
  | [] => ys
  | t :: l => symsTs (symsT ys t) l
end
theorem symX_len (ys : List Sy) (y : Sy) : ys.length ≤ (symX ys y).length := by
  unfold symX
  split
  · exact Nat.le_refl _
  · simp
mutual
theorem symsT_len : ∀ (t : Te) (ys : List Sy), ys.length ≤ (symsT ys t).length
  | .mk k n nm l, ys => by
    rw [symsT]
    refine Nat.le_trans ?_ (symsTs_len l _)
    split
    · exact symX_len _ _
    · exact Nat.le_refl _
theorem symsTs_len : ∀ (l : List Te) (ys : List Sy), ys.length ≤ (symsTs ys l).length
  | [], ys => Nat.le_refl _
  | t :: l, ys => by
    rw [symsTs]
    exact Nat.le_trans (symsT_len t ys) (symsTs_len l _)
end
theorem symN_cs (s : So) (nm : ByteArray) (ar : Int) : (symN s nm ar).2.cs = s.cs ∧ (symN s nm ar).2.mx = s.mx ∧ (symN s nm ar).2.ys = symX s.ys ⟨nm, ar⟩ ∧ (symN s nm ar).2.tr = s.tr ∧ (symN s nm ar).2.wk = s.wk ∧ (symN s nm ar).2.ser = s.ser := by
  unfold symN symX
  by_cases h : 0 ≤ findS s nm ar
  · rw [if_pos h, if_pos (findS_mem.1 h)]
    exact ⟨rfl, rfl, rfl, rfl, rfl, rfl⟩
  · rw [if_neg h, if_neg (fun q => h (findS_mem.2 q))]
    exact ⟨rfl, rfl, rfl, rfl, rfl, rfl⟩
def symM (ys ms : List Sy) (y : Sy) : List Sy := if y ∈ ms ∨ y ∈ ys then ms else ms ++ [y]
mutual
def visM (ys ms : List Sy) : Te → List Sy
  | .mk k _ nm l => visMs ys (if k = 2 ∨ k = 3 then symM ys ms ⟨nm, (l.length : Nat)⟩ else ms) l
def visMs (ys ms : List Sy) : List Te → List Sy
  | [] => ms
  | t :: l => visMs ys (visM ys ms t) l
end
theorem symM_X (ys ms : List Sy) (y : Sy) : ys ++ symM ys ms y = symX (ys ++ ms) y := by
  unfold symM symX
  by_cases h : y ∈ ms ∨ y ∈ ys
  · rw [if_pos h, if_pos (List.mem_append.2 h.symm)]
  · rw [if_neg h, if_neg (fun q => h (List.mem_append.1 q).symm), List.append_assoc]
mutual
theorem visM_T : ∀ (t : Te) (ys ms : List Sy), ys ++ visM ys ms t = symsT (ys ++ ms) t
  | .mk k n nm l, ys, ms => by
    rw [visM, symsT, visMs_T]
    split
    · rw [symM_X]
    · rfl
theorem visMs_T : ∀ (l : List Te) (ys ms : List Sy), ys ++ visMs ys ms l = symsTs (ys ++ ms) l
  | [], ys, ms => rfl
  | t :: l, ys, ms => by rw [visMs, symsTs, visMs_T, visM_T]
end
theorem symM_len (ys ms : List Sy) (y : Sy) : (symM ys ms y).length ≤ ms.length + 1 := by
  unfold symM
  split
  · omega
  · simp
mutual
theorem visM_len : ∀ (t : Te) (ys ms : List Sy), (visM ys ms t).length ≤ ms.length + szT t
  | .mk k n nm l, ys, ms => by
    rw [visM, szT]
    refine Nat.le_trans (visMs_len l _ _) ?_
    split
    · have := symM_len ys ms ⟨nm, (l.length : Nat)⟩
      omega
    · omega
theorem visMs_len : ∀ (l : List Te) (ys ms : List Sy), (visMs ys ms l).length ≤ ms.length + szTs l
  | [], ys, ms => by simp [visMs, szTs]
  | t :: l, ys, ms => by
    rw [visMs, szTs]
    have h1 := visM_len t ys ms
    have h2 := visMs_len l ys (visM ys ms t)
    omega
end
mutual
/-- The cells that a term needs, but for a variable that is no argument. -/
def cntT : Te → Nat
  | .mk k _ _ l => if k = 3 then 1 + l.length + cntTs l else 0
def cntTs : List Te → Nat
  | [] => 0
  | t :: l => cntT t + cntTs l
end
mutual
theorem cntT_sz : ∀ t : Te, cntT t + 1 ≤ 2 * szT t
  | .mk k n nm l => by
    rw [cntT, szT]
    have h1 := cntTs_sz l
    have h2 := szTs_len l
    split <;> omega
theorem cntTs_sz : ∀ l : List Te, cntTs l + l.length ≤ 2 * szTs l
  | [] => Nat.le_refl _
  | t :: l => by
    rw [cntTs, szTs, List.length_cons]
    have h1 := cntT_sz t
    have h2 := cntTs_sz l
    omega
end
def nedT (t : Te) (all : List Vc) : Nat := cntT t + if t.k = 0 ∧ ofV all t.n = none then 1 else 0

def keptC (c : Ce) : Ce := if c.t = 5 then ⟨0, c.n⟩ else c
abbrev Sv := So × List Vc
def setC (s : So) (i : Nat) (c : Ce) : So := { s with cs := s.cs.set i c }
mutual
/-- A term added; at: the address of the argument that it becomes. -/
def addD (q : Sv) : Te → Int → Ce × Sv
  | .mk k n nm l, at' =>
    if k = 1 then (⟨1, n⟩, q)
    else if k = 2 then (⟨2, (symN q.1 nm 0).1⟩, (symN q.1 nm 0).2, q.2)
    else if k = 0 then (match ofV q.2 n with
      | some c => (keptC c, q)
      | none => if at' < 0 then (⟨0, (q.1.cs.length : Nat)⟩, { q.1 with cs := q.1.cs ++ [⟨0, (q.1.cs.length : Nat)⟩] }, insV q.2 n ⟨0, (q.1.cs.length : Nat)⟩) else (⟨0, at'⟩, q.1, insV q.2 n ⟨0, at'⟩))
    else (⟨3, (q.1.cs.length : Nat)⟩, addAs ({ (symN q.1 nm (l.length : Nat)).2 with cs := q.1.cs ++ (⟨4, (symN q.1 nm (l.length : Nat)).1⟩ :: List.replicate l.length ⟨0, 0⟩) }, q.2) l (q.1.cs.length + 1))
def addAs (q : Sv) : List Te → Nat → Sv
  | [], _ => q
  | a :: l, to => addAs (setC (addD q a (to : Nat)).2.1 to (addD q a (to : Nat)).1, (addD q a (to : Nat)).2.2) l (to + 1)
end
theorem setC_len (s : So) (i : Nat) (c : Ce) : (setC s i c).cs.length = s.cs.length := by simp [setC]
def Rst (s s' : So) : Prop := s'.mx = s.mx ∧ s'.tr = s.tr ∧ s'.wk = s.wk ∧ s'.ser = s.ser
theorem Rst.trans {a b c : So} (h : Rst a b) (k : Rst b c) : Rst a c := ⟨k.1.trans h.1, k.2.1.trans h.2.1, k.2.2.1.trans h.2.2.1, k.2.2.2.trans h.2.2.2⟩
theorem nodeT_k (k n : Int) (s : ByteArray) (l : List Te) : nodeT (.mk k n s l) = if k = 0 then decide (0 ≤ n) && (decide (n ≤ 1099511627776) && (decide (s = ⟨#[]⟩) && decide ((l.length : Int) = 0)))
  else if k = 1 then decide (s = ⟨#[]⟩) && decide ((l.length : Int) = 0)
  else if k = 2 then decide (n = 0) && (decide ((s.size : Int) ≤ 100) && decide ((l.length : Int) = 0))
  else if k = 3 then decide (n = 0) && (decide ((s.size : Int) ≤ 100) && (decide (1 ≤ (l.length : Int)) && decide ((l.length : Int) ≤ 8)))
  else false := rfl
theorem node_cases {k n : Int} {s : ByteArray} {l : List Te} (h : nodeT (.mk k n s l) = true) : (k = 0 ∧ l = [] ∧ 0 ≤ n ∧ n ≤ 1099511627776) ∨ (k = 1 ∧ l = []) ∨ (k = 2 ∧ l = [] ∧ s.size ≤ 100) ∨ (k = 3 ∧ s.size ≤ 100 ∧ 1 ≤ l.length ∧ l.length ≤ 8) := by
  rw [nodeT_k] at h
  by_cases h0 : k = 0
  · rw [if_pos h0] at h
    simp only [Bool.and_eq_true, decide_eq_true_eq] at h
    exact .inl ⟨h0, List.length_eq_zero_iff.1 (by omega), h.1, h.2.1⟩
  rw [if_neg h0] at h
  by_cases h1 : k = 1
  · rw [if_pos h1] at h
    simp only [Bool.and_eq_true, decide_eq_true_eq] at h
    exact .inr (.inl ⟨h1, List.length_eq_zero_iff.1 (by omega)⟩)
  rw [if_neg h1] at h
  by_cases h2 : k = 2
  · rw [if_pos h2] at h
    simp only [Bool.and_eq_true, decide_eq_true_eq] at h
    exact .inr (.inr (.inl ⟨h2, List.length_eq_zero_iff.1 (by omega), by omega⟩))
  rw [if_neg h2] at h
  split at h
  · rename_i h3
    simp only [Bool.and_eq_true, decide_eq_true_eq] at h
    exact .inr (.inr (.inr ⟨h3, by omega, by omega, by omega⟩))
  · cases h
theorem addD_0 (q : Sv) (n : Int) (nm : ByteArray) (l : List Te) (a : Int) : addD q (.mk 0 n nm l) a = match ofV q.2 n with
      | some c => (keptC c, q)
      | none => if a < 0 then (⟨0, (q.1.cs.length : Nat)⟩, { q.1 with cs := q.1.cs ++ [⟨0, (q.1.cs.length : Nat)⟩] }, insV q.2 n ⟨0, (q.1.cs.length : Nat)⟩) else (⟨0, a⟩, q.1, insV q.2 n ⟨0, a⟩) := by
  rw [addD, if_neg (by decide), if_neg (by decide), if_pos rfl]
theorem addD_1 (q : Sv) (n : Int) (nm : ByteArray) (l : List Te) (a : Int) : addD q (.mk 1 n nm l) a = (⟨1, n⟩, q) := by rw [addD, if_pos rfl]
theorem addD_2 (q : Sv) (n : Int) (nm : ByteArray) (l : List Te) (a : Int) : addD q (.mk 2 n nm l) a = (⟨2, (symN q.1 nm 0).1⟩, (symN q.1 nm 0).2, q.2) := by rw [addD, if_neg (by decide), if_pos rfl]
theorem addD_3 (q : Sv) (n : Int) (nm : ByteArray) (l : List Te) (a : Int) : addD q (.mk 3 n nm l) a = (⟨3, (q.1.cs.length : Nat)⟩, addAs ({ (symN q.1 nm (l.length : Nat)).2 with cs := q.1.cs ++ (⟨4, (symN q.1 nm (l.length : Nat)).1⟩ :: List.replicate l.length ⟨0, 0⟩) }, q.2) l (q.1.cs.length + 1)) := by rw [addD, if_neg (by decide), if_neg (by decide), if_neg (by decide)]
theorem cnt_no {k n : Int} {nm : ByteArray} {l : List Te} (h : k ≠ 3) : cntT (.mk k n nm l) = 0 := by rw [cntT, if_neg h]
theorem ned_no {k n : Int} {nm : ByteArray} {l : List Te} (h : k ≠ 0) (all : List Vc) : nedT (.mk k n nm l) all = cntT (.mk k n nm l) := by
  unfold nedT
  rw [if_neg (fun q => h q.1)]
  rfl
theorem syms_no {k n : Int} {nm : ByteArray} {ys : List Sy} (h : ¬ (k = 2 ∨ k = 3)) : symsT ys (.mk k n nm []) = ys := by rw [symsT, if_neg h, symsTs]
theorem syms_2 {n : Int} {nm : ByteArray} {ys : List Sy} : symsT ys (.mk 2 n nm []) = symX ys ⟨nm, 0⟩ := by rw [symsT, if_pos (.inl rfl), symsTs]; rfl
theorem syms_3 {n : Int} {nm : ByteArray} {ys : List Sy} {l : List Te} : symsT ys (.mk 3 n nm l) = symsTs (symX ys ⟨nm, (l.length : Nat)⟩) l := by rw [symsT, if_pos (.inr rfl)]
theorem cnt_3 {n : Int} {nm : ByteArray} {l : List Te} : cntT (.mk 3 n nm l) = 1 + l.length + cntTs l := by rw [cntT, if_pos rfl]
theorem Rst.refl (s : So) : Rst s s := ⟨rfl, rfl, rfl, rfl⟩
mutual
theorem addD_len : ∀ (t : Te) (q : Sv) (a : Int), nodesT t = true → SV q.2 → (addD q t a).2.1.cs.length = q.1.cs.length + (if a < 0 then nedT t q.2 else cntT t) ∧ (addD q t a).2.1.ys = symsT q.1.ys t ∧ Rst q.1 (addD q t a).2.1 ∧ SV (addD q t a).2.2
  | .mk k n nm l, q, a, hn, hs => by
    rw [nodesT, Bool.and_eq_true] at hn
    rcases node_cases hn.1 with ⟨rfl, rfl, h1, h2⟩ | ⟨rfl, rfl⟩ | ⟨rfl, rfl, h1⟩ | ⟨rfl, h1, h2, h3⟩
    · have e1 : nedT (.mk 0 n nm []) q.2 = if ofV q.2 n = none then 1 else 0 := by
        unfold nedT
        rw [cnt_no (by decide)]
        simp [Te.k, Te.n]
      rw [addD_0, syms_no (by decide), cnt_no (by decide), e1]
      cases ho : ofV q.2 n with
      | some c => exact ⟨by simp, rfl, Rst.refl _, hs⟩
      | none =>
        by_cases ha : a < 0
        · simp only [if_pos ha]
          exact ⟨by simp, by trivial, ⟨rfl, rfl, rfl, rfl⟩, insV_sv h1 h2 hs ho⟩
        · simp only [if_neg ha]
          exact ⟨by simp, by trivial, ⟨rfl, rfl, rfl, rfl⟩, insV_sv h1 h2 hs ho⟩
    · rw [addD_1, syms_no (by decide), ned_no (by decide), cnt_no (by decide)]
      exact ⟨by simp, rfl, Rst.refl _, hs⟩
    · obtain ⟨e1, e2, e3, e4, e5, e6⟩ := symN_cs q.1 nm 0
      rw [addD_2, syms_2, ned_no (by decide), cnt_no (by decide)]
      exact ⟨by rw [e1]; simp, e3, ⟨e2, e4, e5, e6⟩, hs⟩
    · obtain ⟨e1, e2, e3, e4, e5, e6⟩ := symN_cs q.1 nm (l.length : Nat)
      rw [addD_3, syms_3, ned_no (by decide), cnt_3]
      obtain ⟨g1, g2, g3, g4⟩ := addAs_len l ({ (symN q.1 nm (l.length : Nat)).2 with cs := q.1.cs ++ (⟨4, (symN q.1 nm (l.length : Nat)).1⟩ :: List.replicate l.length ⟨0, 0⟩) }, q.2) (q.1.cs.length + 1) hn.2 hs
      refine ⟨?_, ?_, ?_, g4⟩
      · rw [g1]
        simp
        omega
      · rw [g2]
        show symsTs (symN q.1 nm (l.length : Nat)).2.ys l = _
        rw [e3]
      · exact Rst.trans ⟨e2, e4, e5, e6⟩ g3
theorem addAs_len : ∀ (l : List Te) (q : Sv) (to : Nat), nodesTs l = true → SV q.2 → (addAs q l to).1.cs.length = q.1.cs.length + cntTs l ∧ (addAs q l to).1.ys = symsTs q.1.ys l ∧ Rst q.1 (addAs q l to).1 ∧ SV (addAs q l to).2
  | [], q, to, _, hs => ⟨rfl, rfl, ⟨rfl, rfl, rfl, rfl⟩, hs⟩
  | t :: l, q, to, hn, hs => by
    rw [nodesTs, Bool.and_eq_true] at hn
    rw [addAs, cntTs, symsTs]
    obtain ⟨h1, h2, h3, h4⟩ := addD_len t q (to : Nat) hn.1 hs
    obtain ⟨g1, g2, g3, g4⟩ := addAs_len l (setC (addD q t (to : Nat)).2.1 to (addD q t (to : Nat)).1, (addD q t (to : Nat)).2.2) (to + 1) hn.2 h4
    refine ⟨?_, ?_, ?_, g4⟩
    · rw [g1, setC_len, h1, if_neg (by omega)]
      omega
    · rw [g2]
      show symsTs (addD q t (to : Nat)).2.1.ys l = _
      rw [h2]
    · exact Rst.trans h3 g3
end
end Go.Proofs.Ytinclokohcommaa


namespace Go.Proofs.Ytinclokohcommaa.Ins
open Go.RowKit Go.Shelf Go.Lib
set_option linter.unusedVariables false
set_option linter.unusedSimpArgs false
set_option maxRecDepth 100000
attribute [local go_sem] Oper.semAt_some

abbrev E3 := Int × Int × Int
def fl3 (x : E3) : List Value := [.int .i64 x.1, .int .i64 x.2.1, .int .i64 x.2.2]
def fls (l : List E3) : List Value := l.flatMap fl3
theorem fls_len (l : List E3) : (fls l).length = l.length * 3 := by
  induction l with
  | nil => rfl
  | cons x l ih => simp [fls, fl3] at *; omega
theorem fls_app (l m : List E3) : fls (l ++ m) = fls l ++ fls m := List.flatMap_append
theorem fls_one {l : List E3} : ∀ v ∈ fls l, v.oneCell' = true := fun v hv => by
  obtain ⟨x, -, hx⟩ := List.mem_flatMap.1 hv
  simp only [fl3, List.mem_cons, List.not_mem_nil, or_false] at hx
  rcases hx with rfl | rfl | rfl <;> rfl
theorem fls_cons (x : E3) (l : List E3) : fls (x :: l) = fl3 x ++ fls l := rfl

theorem und_row : Try.prog.underlying 44 = some (.slice 49) := by kernel_rfl
theorem und_int : Try.prog.underlying 3 = some (.int .i64) := by kernel_rfl
theorem info_vc : (Try.prog.info? 49).map (fun i => (i.size, i.bytes)) = some (3, 24) := by kernel_rfl
theorem info_z : (Try.prog.info? 49).map (fun i => i.zero) = some (some (.agg #[.int .i64 0, .int .i64 0, .int .i64 0])) := by kernel_rfl
theorem size_vc (w : World) : (Go.sizeOf 49).run Try.prog w = .ok 3 w := by kernel_rfl

theorem run_copy3 (w : World) (ty : TypeId) (g o dLen dCap : Nat) (a : Addr) (sLen sCap : Nat) (cur : Array Value) (t : TypeId) (cs : List Value)
    (hg : w.heap[g]? = some (.cells cur t (0, 0))) {n : Nat} (hn : n = Nat.min sLen dLen) (hl : cs.length = n * 3)
    (hsrc : ∀ j v, cs[j]? = some v → w.cell? (a.add j) = some v) (hfit : o + cs.length ≤ cur.size) (h1 : ∀ v ∈ cs, v.oneCell' = true) :
    (Builtin.copy_ #[44, 44] ty #[.slice (some ⟨g, o, none⟩) dLen dCap, .slice (some a) sLen sCap]).run Try.prog w =
      .ok (goInt n) (w.setRow g (cur.toList.take o ++ cs ++ cur.toList.drop (o + cs.length)).toArray) := by
  have hld := run_loadCells_list (P := Try.prog) w a cs hsrc
  have hst := run_storeCells_at Try.prog g o t cs 0 cur w hg (by simpa using hfit) h1
  obtain ⟨i, hi, e⟩ := Option.map_eq_some_iff.1 info_vc
  simp only [Prod.mk.injEq] at e
  rw [hl] at hld
  simp [Builtin.copy_, run_underlying und_row, Builtin.lenOf, Builtin.firstCells, sizeOf, typeInfo, hi, e.1, ← hn, hld, hst]

theorem cell_row {w : World} {b k : Nat} {cs : List Value} {T : TypeId} (h : w.heap[b]? = some (.cells cs.toArray T (0, 0))) {v : Value} (hv : cs[k]? = some v) : w.cell? ⟨b, k, none⟩ = some v := by
  rw [cell_of_row w b k _ T (0, 0) h]
  simpa using hv

theorem ins_room (w : World) (b cap vb vc i n : Nat) (L0 : List E3) (x : E3) (post vpost : List Value) (E Ev : TypeId) (hL : L0.length = n) (hi : i < n) (hcap : n + 1 ≤ cap) (hc63 : cap ≤ 9223372036854775807) (hne : vb ≠ b) (hp3 : 3 ≤ post.length)
    (hb : w.heap[b]? = some (.cells (fls L0 ++ post).toArray E (0, 0))) (hv : w.heap[vb]? = some (.cells (fl3 x ++ vpost).toArray Ev (0, 0))) :
    Calls Try.prog 62 #[.slice (some ⟨b, 0, none⟩) n cap, .int .i64 i, .slice (some ⟨vb, 0, none⟩) 1 vc] w fun e w' =>
      e = .returned (.slice (some ⟨b, 0, none⟩) (n + 1) cap) ∧ But (fun k => k = b) w w' ∧ w'.heap[b]? = some (.cells (fls (L0.take i ++ x :: L0.drop i) ++ post.drop 3).toArray E (0, 0)) := by
  have hlL := fls_len L0
  have hlt := fls_len (L0.take i)
  have hld := fls_len (L0.drop i)
  have hsplit : fls L0 = fls (L0.take i) ++ fls (L0.drop i) := by rw [← fls_app, List.take_append_drop]
  have htl : (L0.take i).length = i := by rw [List.length_take]; omega
  have hdl : (L0.drop i).length = n - i := by rw [List.length_drop, hL]
  have hov : ∀ lb cb, (callFunc 99 #[.slice (some ⟨vb, 0, none⟩) 1 vc, .slice (some ⟨b, (i + 1) * 3, none⟩) lb cb]).run Try.prog w = .ok (.value (.bool false)) w := fun lb cb => by
    rw [run_callFunc_extern Try.func99 (by kernel_rfl) (by kernel_rfl) (by kernel_rfl) (e := Extern.SlicesOverlaps.overlaps #[44, 44] #[4]) (by kernel_rfl),
      Lib.run_overlaps_apart w 44 4 49 und_row 3 size_vc ⟨vb, 0, none⟩ ⟨b, (i + 1) * 3, none⟩ 1 vc lb cb hne Ev E (fl3 x ++ vpost).toArray.size (fls L0 ++ post).toArray.size (by simp [World.shape?, hv]) (by simp [World.shape?, hb]) (by rw [List.size_toArray, List.length_append]; omega) (by simp [World.frozen?, hv]) (by simp [World.frozen?, hv])]
    rfl
  have hcp1 : ∀ ty dc sc, (Builtin.copy_ #[44, 44] ty #[.slice (some ⟨b, (i + 1) * 3, none⟩) (n - i) dc, .slice (some ⟨b, i * 3, none⟩) (n + 1 - i) sc]).run Try.prog w.drew = .ok (goInt (n - i : Nat)) (w.drew.setRow b ((fls L0 ++ post).toArray.toList.take ((i + 1) * 3) ++ fls (L0.drop i) ++ (fls L0 ++ post).toArray.toList.drop ((i + 1) * 3 + (fls (L0.drop i)).length)).toArray) := fun ty dc sc =>
    run_copy3 w.drew ty b ((i + 1) * 3) (n - i) dc ⟨b, i * 3, none⟩ (n + 1 - i) sc (fls L0 ++ post).toArray E (fls (L0.drop i)) hb (by simp only [Nat.min_def]; split <;> omega) (by rw [hld, hdl])
      (fun j v hj => by
        rw [Addr.add_lit]
        refine cell_row (w := w.drew) (T := E) hb ?_
        rw [hsplit, List.append_assoc, List.getElem?_append_right (by omega), show i * 3 + j - (fls (L0.take i)).length = j by omega]
        exact List.getElem?_append_left (by have := (List.getElem?_eq_some_iff.1 hj).1; omega) ▸ hj)
      (by simp; omega) fls_one
  obtain ⟨J, hJ, hcur⟩ : ∃ J : List Value, J.length = 3 ∧ ((fls L0 ++ post).toArray.toList.take ((i + 1) * 3) ++ fls (L0.drop i) ++ (fls L0 ++ post).toArray.toList.drop ((i + 1) * 3 + (fls (L0.drop i)).length)) = fls (L0.take i) ++ (J ++ (fls (L0.drop i) ++ post.drop 3)) := by
    refine ⟨(fls (L0.drop i)).take 3, by rw [List.length_take]; omega, ?_⟩
    have e1 : (fls L0 ++ post).take ((i + 1) * 3) = fls (L0.take i) ++ (fls (L0.drop i)).take 3 := by
      rw [hsplit, List.append_assoc, List.take_append, List.take_of_length_le (by omega), show (i + 1) * 3 - (fls (L0.take i)).length = 3 by omega, List.take_append_of_le_length (by omega)]
    have e2 : (fls L0 ++ post).drop ((i + 1) * 3 + (fls (L0.drop i)).length) = post.drop 3 := by
      rw [List.drop_append, List.drop_eq_nil_of_le (by omega), List.nil_append]
      congr 1
      omega
    show (fls L0 ++ post).take _ ++ _ ++ (fls L0 ++ post).drop _ = _
    rw [e1, e2]
    simp
  rw [hcur] at hcp1
  have hb1 : (w.drew.setRow b (fls (L0.take i) ++ (J ++ (fls (L0.drop i) ++ post.drop 3))).toArray).heap[b]? = some (.cells (fls (L0.take i) ++ (J ++ (fls (L0.drop i) ++ post.drop 3))).toArray E (0, 0)) := setRow_heap w.drew b _ _ E _ hb
  have hv1 : (w.drew.setRow b (fls (L0.take i) ++ (J ++ (fls (L0.drop i) ++ post.drop 3))).toArray).heap[vb]? = some (.cells (fl3 x ++ vpost).toArray Ev (0, 0)) := by
    rw [setRow_other w.drew b vb _ hne]
    exact hv
  obtain ⟨W1, hW1⟩ : ∃ W1, W1 = w.drew.setRow b (fls (L0.take i) ++ (J ++ (fls (L0.drop i) ++ post.drop 3))).toArray := ⟨_, rfl⟩
  rw [← hW1] at hcp1 hb1 hv1
  have hcp2 : ∀ (W : World), W.heap = W1.heap → ∀ ty dc, (Builtin.copy_ #[44, 44] ty #[.slice (some ⟨b, i * 3, none⟩) (n + 1 - i) dc, .slice (some ⟨vb, 0, none⟩) 1 vc]).run Try.prog W = .ok (goInt (1 : Nat)) (W.setRow b ((fls (L0.take i) ++ (J ++ (fls (L0.drop i) ++ post.drop 3))).toArray.toList.take (i * 3) ++ fl3 x ++ (fls (L0.take i) ++ (J ++ (fls (L0.drop i) ++ post.drop 3))).toArray.toList.drop (i * 3 + (fl3 x).length)).toArray) := fun W hW ty dc =>
    run_copy3 W ty b (i * 3) (n + 1 - i) dc ⟨vb, 0, none⟩ 1 vc _ E (fl3 x) (hW ▸ hb1) (by simp only [Nat.min_def]; split <;> omega) rfl
      (fun j v hj => by
        rw [Addr.add_lit, Nat.zero_add]
        refine cell_row (w := W) (T := Ev) (hW ▸ hv1) ?_
        exact List.getElem?_append_left (by have := (List.getElem?_eq_some_iff.1 hj).1; omega) ▸ hj)
      (by simp [fl3]; omega) (fun v hv => fls_one (l := [x]) v (by simpa [fls] using hv))
  have hcur2 : ((fls (L0.take i) ++ (J ++ (fls (L0.drop i) ++ post.drop 3))).toArray.toList.take (i * 3) ++ fl3 x ++ (fls (L0.take i) ++ (J ++ (fls (L0.drop i) ++ post.drop 3))).toArray.toList.drop (i * 3 + (fl3 x).length)) = fls (L0.take i ++ x :: L0.drop i) ++ post.drop 3 := by
    show (fls (L0.take i) ++ (J ++ (fls (L0.drop i) ++ post.drop 3))).take _ ++ _ ++ (fls (L0.take i) ++ (J ++ (fls (L0.drop i) ++ post.drop 3))).drop _ = _
    rw [show i * 3 = (fls (L0.take i)).length by omega, List.take_left, show (fls (L0.take i)).length + (fl3 x).length = (fls (L0.take i) ++ J).length by rw [List.length_append, hJ]; rfl, ← List.append_assoc (fls (L0.take i)) J, List.drop_left, fls_app, fls_cons]
    simp
  rw [hcur2] at hcp2
  have hw1 : IntKind.i64.wrap ((i : Int) + 1) = (i : Int) + 1 := by rw [IntKind.wrap_i64]; omega
  have hz2 : ¬ ((i : Int) = (n : Int)) := by omega
  have h0i : (0 : Int) ≤ (i : Int) + 1 := by omega
  have hin : i ≤ n := by omega
  have htn : ((i : Int) + 1).toNat = i + 1 := by omega
  have hb2 : ¬ (cap = i + 1) := by omega
  have hb3 : (i : Int) ≤ (n : Int) + 1 := by omega
  have hb4 : ¬ (cap = i) := by omega
  go_enter Try.func62, Try.ntmps62
  go_wp2_with (simp only [hov])
  go_region_law (refine step_copy_runI rfl _ _ 44 44 rfl _ _ (by simp [Act.eval, Act.put]) (by simp [Act.eval, Act.put]) (hcp1 _ _ _) ?_)
  go_wp2_with (at_builtin; refine wpList_copy_runI _ rfl _ _ 44 44 rfl _ _ rfl rfl (hcp2 _ rfl _ _) ?_)
  go_ret
  exact ⟨rfl, setRow_but (S := fun k => k = b) (setRow_but (S := fun k => k = b) (But.refl _ w).drew (.inl rfl) _) (.inl rfl) _, setRow_heap _ _ _ _ _ _ (by rw [← hW1]; exact hb1)⟩

theorem drop_app (a c : List Value) (k : Nat) : (a ++ c).drop (a.length + k) = c.drop k := by rw [List.drop_append, List.drop_eq_nil_of_le (Nat.le_add_right _ _), Nat.add_sub_cancel_left, List.nil_append]
theorem ins_grow (w : World) (b vb vc i n : Nat) (L0 : List E3) (x : E3) (post vpost : List Value) (E Ev : TypeId) (hL : L0.length = n) (hi : i < n) (hbig : (n + 1) * 24 ≤ 140737488355328) (hne : vb ≠ b)
    (hb : w.heap[b]? = some (.cells (fls L0 ++ post).toArray E (0, 0))) (hv : w.heap[vb]? = some (.cells (fl3 x ++ vpost).toArray Ev (0, 0))) :
    Calls Try.prog 62 #[.slice (some ⟨b, 0, none⟩) n n, .int .i64 i, .slice (some ⟨vb, 0, none⟩) 1 vc] w fun e w' =>
      ∃ (G : Nat) (rest : List Value), e = .returned (.slice (some ⟨w.heap.size, 0, none⟩) (n + 1) G) ∧ But Nil w w' ∧ n + 1 ≤ G ∧ G ≤ maxLen ∧ rest.length = (G - (n + 1)) * 3 ∧ w'.heap[w.heap.size]? = some (.cells (fls (L0.take i ++ x :: L0.drop i) ++ rest).toArray 49 (0, 0)) := by
  have hlL := fls_len L0
  have hlt := fls_len (L0.take i)
  have hld := fls_len (L0.drop i)
  have hsplit : fls L0 = fls (L0.take i) ++ fls (L0.drop i) := by rw [← fls_app, List.take_append_drop]
  have htl : (L0.take i).length = i := by rw [List.length_take]; omega
  have hdl : (L0.drop i).length = n - i := by rw [List.length_drop, hL]
  have hbw := lt_of_heap hb
  have hvw := lt_of_heap hv
  obtain ⟨i0, hi0, e0⟩ := Option.map_eq_some_iff.1 info_vc
  obtain ⟨i1, hi1, ez⟩ := Option.map_eq_some_iff.1 info_z
  obtain rfl := Option.some.inj (hi0.symm.trans hi1)
  simp only [Prod.mk.injEq] at e0
  have hold : (Builtin.firstCells i0.size i (.slice (some ⟨b, 0, none⟩) i n)).run Try.prog w.drew = .ok (fls (L0.take i)).toArray w.drew := by
    rw [e0.1]
    exact run_firstCells_some w.drew 3 i ⟨b, 0, none⟩ i n (fls (L0.take i)) (by omega) (fun j v hj => by
      rw [Addr.add_lit, Nat.zero_add]
      refine cell_row (w := w.drew) (T := E) hb ?_
      rw [hsplit, List.append_assoc]
      exact List.getElem?_append_left (by have := (List.getElem?_eq_some_iff.1 hj).1; omega) ▸ hj)
  obtain ⟨G, hG⟩ : ∃ G, G = grownCap w (n + 1) n 49 := ⟨_, rfl⟩
  have hGn : n + 1 ≤ G := by rw [hG]; exact grownCap_ge w _ _ _
  have hGm : G ≤ maxLen := by rw [hG]; exact grownCap_le_maxLen w _ _ _ (by unfold maxLen; omega)
  have hik : i + (n + 1 - i) = n + 1 := by omega
  have hkk : (n : Int) + 1 - (i : Int) = ((n + 1 - i : Nat) : Int) := by omega
  obtain ⟨Z, hZ, hrz⟩ : ∃ Z : List Value, Z.length = (n + 1 - i) * 3 + (G - (n + 1)) * 3 ∧ ∀ ty, (Builtin.append_ #[44, 3] ty #[.slice (some ⟨b, 0, none⟩) i n, .int .i64 ((n : Int) + 1 - (i : Int))]).run Try.prog w =
      .ok (.slice (some ⟨w.heap.size, 0, none⟩) (n + 1) G) (w.drew.alloc (.cells (fls (L0.take i) ++ Z).toArray 49)) := by
    refine ⟨(Builtin.zeroCells (Value.agg #[.int .i64 0, .int .i64 0, .int .i64 0]).cells (n + 1 - i)).toList ++ (Builtin.zeroCells (Value.agg #[.int .i64 0, .int .i64 0, .int .i64 0]).cells (G - (n + 1))).toList, by simp [Builtin.zeroCells, Value.cells], fun ty => ?_⟩
    have h := Lib.run_append_grow_zeros w 44 3 ty 49 i0 _ .i64 .i64 und_row und_int hi0 ez (some ⟨b, 0, none⟩) i n (fls (L0.take i)) hold (n + 1 - i) (by omega) (by omega) (by omega) (by omega) (by rw [e0.2]; omega) (by rw [e0.2, hik]; exact growslice_fits (by omega) hbig)
    rw [hik, ← hG] at h
    rw [hkk, h]
    congr 3
    simp
  have hb1 : (w.drew.alloc (.cells (fls (L0.take i) ++ Z).toArray 49)).heap[b]? = some (.cells (fls L0 ++ post).toArray E (0, 0)) := heap_old (w := w.drew) hb
  have hv1 : (w.drew.alloc (.cells (fls (L0.take i) ++ Z).toArray 49)).heap[vb]? = some (.cells (fl3 x ++ vpost).toArray Ev (0, 0)) := heap_old (w := w.drew) hv
  have hn1 : (w.drew.alloc (.cells (fls (L0.take i) ++ Z).toArray 49)).heap[w.heap.size]? = some (.cells (fls (L0.take i) ++ Z).toArray 49 (0, 0)) := heap_new (w := w.drew) rfl
  obtain ⟨W1, hW1⟩ : ∃ W1, W1 = w.drew.alloc (.cells (fls (L0.take i) ++ Z).toArray 49) := ⟨_, rfl⟩
  have hcpA : ∀ (W : World), W.heap = W1.heap → ∀ ty dc, (Builtin.copy_ #[44, 44] ty #[.slice (some ⟨w.heap.size, i * 3, none⟩) (n + 1 - i) dc, .slice (some ⟨vb, 0, none⟩) 1 vc]).run Try.prog W = .ok (goInt (1 : Nat)) (W.setRow w.heap.size ((fls (L0.take i) ++ Z).toArray.toList.take (i * 3) ++ fl3 x ++ (fls (L0.take i) ++ Z).toArray.toList.drop (i * 3 + (fl3 x).length)).toArray) := fun W hW ty dc =>
    run_copy3 W ty w.heap.size (i * 3) (n + 1 - i) dc ⟨vb, 0, none⟩ 1 vc _ 49 (fl3 x) (by rw [hW, hW1]; exact hn1) (by simp only [Nat.min_def]; split <;> omega) rfl
      (fun j v hj => by
        rw [Addr.add_lit, Nat.zero_add]
        refine cell_row (w := W) (T := Ev) (by rw [hW, hW1]; exact hv1) ?_
        exact List.getElem?_append_left (by have := (List.getElem?_eq_some_iff.1 hj).1; omega) ▸ hj)
      (by simp [fl3]; omega) (fun v hv => fls_one (l := [x]) v (by simpa [fls] using hv))
  have hcurA : ((fls (L0.take i) ++ Z).toArray.toList.take (i * 3) ++ fl3 x ++ (fls (L0.take i) ++ Z).toArray.toList.drop (i * 3 + (fl3 x).length)) = fls (L0.take i) ++ (fl3 x ++ Z.drop 3) := by
    show (fls (L0.take i) ++ Z).take _ ++ _ ++ (fls (L0.take i) ++ Z).drop _ = _
    rw [show i * 3 = (fls (L0.take i)).length by omega, List.take_left, List.drop_append, List.drop_eq_nil_of_le (by omega), show (fls (L0.take i)).length + (fl3 x).length - (fls (L0.take i)).length = 3 by simp [fl3]]
    simp
  rw [hcurA] at hcpA
  obtain ⟨W2, hW2⟩ : ∃ W2, W2 = W1.setRow w.heap.size (fls (L0.take i) ++ (fl3 x ++ Z.drop 3)).toArray := ⟨_, rfl⟩
  have hn2 : W2.heap[w.heap.size]? = some (.cells (fls (L0.take i) ++ (fl3 x ++ Z.drop 3)).toArray 49 (0, 0)) := by rw [hW2]; exact setRow_heap W1 _ _ _ _ _ (by rw [hW1]; exact hn1)
  have hb2 : W2.heap[b]? = some (.cells (fls L0 ++ post).toArray E (0, 0)) := by rw [hW2, setRow_other W1 _ b _ (by omega), hW1]; exact hb1
  have hcpB : ∀ (W : World), W.heap = W2.heap → ∀ ty dc sc, (Builtin.copy_ #[44, 44] ty #[.slice (some ⟨w.heap.size, (i + 1) * 3, none⟩) (n - i) dc, .slice (some ⟨b, i * 3, none⟩) (n - i) sc]).run Try.prog W = .ok (goInt (n - i : Nat)) (W.setRow w.heap.size ((fls (L0.take i) ++ (fl3 x ++ Z.drop 3)).toArray.toList.take ((i + 1) * 3) ++ fls (L0.drop i) ++ (fls (L0.take i) ++ (fl3 x ++ Z.drop 3)).toArray.toList.drop ((i + 1) * 3 + (fls (L0.drop i)).length)).toArray) := fun W hW ty dc sc =>
    run_copy3 W ty w.heap.size ((i + 1) * 3) (n - i) dc ⟨b, i * 3, none⟩ (n - i) sc _ 49 (fls (L0.drop i)) (by rw [hW]; exact hn2) (by simp only [Nat.min_def]; split <;> omega) (by rw [hld, hdl])
      (fun j v hj => by
        rw [Addr.add_lit]
        refine cell_row (w := W) (T := E) (by rw [hW]; exact hb2) ?_
        rw [hsplit, List.append_assoc, List.getElem?_append_right (by omega), show i * 3 + j - (fls (L0.take i)).length = j by omega]
        exact List.getElem?_append_left (by have := (List.getElem?_eq_some_iff.1 hj).1; omega) ▸ hj)
      (by simp [fl3]; omega) fls_one
  have hcurB : ((fls (L0.take i) ++ (fl3 x ++ Z.drop 3)).toArray.toList.take ((i + 1) * 3) ++ fls (L0.drop i) ++ (fls (L0.take i) ++ (fl3 x ++ Z.drop 3)).toArray.toList.drop ((i + 1) * 3 + (fls (L0.drop i)).length)) = fls (L0.take i ++ x :: L0.drop i) ++ (Z.drop 3).drop ((n - i) * 3) := by
    show (fls (L0.take i) ++ (fl3 x ++ Z.drop 3)).take _ ++ _ ++ (fls (L0.take i) ++ (fl3 x ++ Z.drop 3)).drop _ = _
    have e3 : (fls (L0.take i) ++ fl3 x).length = (i + 1) * 3 := by rw [List.length_append]; simp [fl3]; omega
    rw [← List.append_assoc, ← e3, List.take_left, drop_app, hld, hdl, fls_app, fls_cons]
    simp
  rw [hcurB] at hcpB
  have hrest : ((Z.drop 3).drop ((n - i) * 3)).length = (G - (n + 1)) * 3 := by simp; omega
  generalize (Z.drop 3).drop ((n - i) * 3) = rest at *
  have hw1 : IntKind.i64.wrap ((i : Int) + 1) = (i : Int) + 1 := by rw [IntKind.wrap_i64]; omega
  have hz2 : ¬ ((i : Int) = (n : Int)) := by omega
  have h0i : (0 : Int) ≤ (i : Int) + 1 := by omega
  have hin : i ≤ n := by omega
  have htn : ((i : Int) + 1).toNat = i + 1 := by omega
  have hgi : ¬ (G = i) := by omega
  have hgi1 : ¬ (G = i + 1) := by omega
  have hni : ¬ (n = i) := by omega
  have hlt1 : (n : Int) < (n : Int) + 1 := by omega
  have hii : (i : Int) ≤ (n : Int) := by omega
  clear hcurA hcurB hkk hik hold hG
  go_enter Try.func62, Try.ntmps62
  go_wp2_with (first
    | (at_builtin; refine Lib.wpList_append_run _ rfl _ _ _ _ rfl _ _ rfl rfl _ _ (hrz _) ?_)
    | (at_builtin; refine wpList_copy_runI _ rfl _ _ 44 44 rfl _ _ rfl rfl (hcpA _ (by rw [hW1]) _ _) ?_))
  have hcpC : ∀ ty dc sc, (Builtin.copy_ #[44, 44] ty #[.slice (some ⟨w.heap.size, (i + 1) * 3, none⟩) (n - i) dc, .slice (some ⟨b, i * 3, none⟩) (n - i) sc]).run Try.prog ((w.alloc (.cells (fls (L0.take i) ++ Z).toArray 49)).drew.setRow w.heap.size (fls (L0.take i) ++ (fl3 x ++ Z.drop 3)).toArray).drew = _ := fun ty dc sc => hcpB _ (by subst hW2 hW1; rfl) ty dc sc
  go_region_law (refine step_copy_runI rfl _ _ 44 44 rfl (.slice (some ⟨w.heap.size, (i + 1) * 3, none⟩) (n - i) (G - (i + 1))) (.slice (some ⟨b, i * 3, none⟩) (n - i) (n - i)) (by simp [Act.eval, Act.put]) (by simp [Act.eval, Act.put]) (hcpC _ _ _) ?_)
  go_wp2_with fail
  go_ret
  exact ⟨G, rest, rfl, setRow_but (S := Nil) (setRow_but (S := Nil) ((But.refl Nil w).alloc _).drew (.inr (Nat.le_refl _)) _).drew (.inr (Nat.le_refl _)) _, hGn, hGm, hrest, setRow_heap _ _ _ _ _ _ (by subst hW2 hW1; exact hn2)⟩
end Go.Proofs.Ytinclokohcommaa.Ins


namespace Go.Proofs.Ytinclokohcommaa
namespace Ins
open Go.RowKit
set_option linter.unusedVariables false
set_option linter.unusedSimpArgs false
set_option maxRecDepth 100000

def stOf (T : TypeId) : TypeId := match tyOf T with
  | some (.st S) => S
  | _ => 0
abbrev uS : TypeId := stOf 49
abbrev cS : TypeId := stOf 37
theorem tyU : tyOf 49 = some (.st uS) := by kernel_rfl
theorem flU : flds uS = some [.int .i64, .st cS] := by kernel_rfl
theorem flC : flds cS = some [.int .i64, .int .i64] := by kernel_rfl
theorem wU : (Ty.st uS).w = 3 := by kernel_rfl
theorem lmU : LM (.st uS) = 5864062014634 := by kernel_rfl

def dE (x : E3) : D := .a [.i x.1, .a [.i x.2.1, .i x.2.2]]
def okE3 (x : E3) : Prop := rngB .i64 x.1 = true ∧ rngB .i64 x.2.1 = true ∧ rngB .i64 x.2.2 = true
theorem rd_dE {x : E3} (h : okE3 x) (w : World) (F : Nat → Prop) : Rd w F (dE x) (.st uS) (fl3 x) :=
  ⟨_, _, rfl, flU, .int .i64, [.st cS], [.int .i64 x.1], [.int .i64 x.2.1, .int .i64 x.2.2], rfl, rfl, ⟨.i64, rfl, rfl, h.1⟩, .st cS, [], [.int .i64 x.2.1, .int .i64 x.2.2], [], rfl, rfl,
    ⟨_, _, rfl, flC, .int .i64, [.int .i64], [.int .i64 x.2.1], [.int .i64 x.2.2], rfl, rfl, ⟨.i64, rfl, rfl, h.2.1⟩, .int .i64, [], [.int .i64 x.2.2], [], rfl, rfl, ⟨.i64, rfl, rfl, h.2.2⟩, rfl, rfl⟩, rfl, rfl⟩
theorem of_rdI {w : World} {F : Nat → Prop} {d : D} {cs : List Value} (h : Rd w F d (.int .i64) cs) : ∃ n, rngB .i64 n = true ∧ d = .i n ∧ cs = [.int .i64 n] := by
  cases d <;> simp only [Rd, reduceCtorEq, false_and, exists_false, and_false] at h
  obtain ⟨k, e, h1, h2⟩ := h
  injection e with e
  subst e
  exact ⟨_, h2, rfl, h1⟩
theorem of_rdS {w : World} {F : Nat → Prop} {d : D} {S : TypeId} {fs : List Ty} (hfs : flds S = some fs) {cs : List Value} (h : Rd w F d (.st S) cs) : ∃ l, d = .a l ∧ RdF w F l fs cs := by
  cases d <;> simp only [Rd, reduceCtorEq, false_and, exists_false, and_false] at h
  obtain ⟨T, fs', e, h1, h2⟩ := h
  injection e with e
  subst e
  obtain rfl := Option.some.inj (h1.symm.trans hfs)
  exact ⟨_, rfl, h2⟩
theorem of_rdF {w : World} {F : Nat → Prop} {l : List D} {t : Ty} {ts : List Ty} {cs : List Value} (h : RdF w F l (t :: ts) cs) : ∃ d l' c1 c2, l = d :: l' ∧ cs = c1 ++ c2 ∧ Rd w F d t c1 ∧ RdF w F l' ts c2 := by
  cases l with
  | nil => obtain ⟨e, -⟩ := h; cases e
  | cons d l =>
    obtain ⟨t', ts', c1, c2, e, e2, h1, h2⟩ := h
    injection e with e e'
    subst e e'
    exact ⟨d, l, c1, c2, rfl, e2, h1, h2⟩
theorem of_rdN {w : World} {F : Nat → Prop} {l : List D} {cs : List Value} (h : RdF w F l [] cs) : l = [] ∧ cs = [] := by
  cases l with
  | nil => exact ⟨rfl, h.2⟩
  | cons d l => obtain ⟨t', ts', c1, c2, e, -⟩ := h; cases e
theorem of_rdE {w : World} {F : Nat → Prop} {d : D} {cs : List Value} (h : Rd w F d (.st uS) cs) : ∃ x, okE3 x ∧ d = dE x ∧ cs = fl3 x := by
  obtain ⟨l, rfl, hF⟩ := of_rdS flU h
  obtain ⟨d1, l1, c1, c2, rfl, rfl, h1, hG⟩ := of_rdF hF
  obtain ⟨d2, l2, c3, c4, rfl, rfl, h2, hH⟩ := of_rdF hG
  obtain ⟨rfl, rfl⟩ := of_rdN hH
  obtain ⟨n1, r1, rfl, rfl⟩ := of_rdI h1
  obtain ⟨l, rfl, hI⟩ := of_rdS flC h2
  obtain ⟨d3, l3, c5, c6, rfl, rfl, h3, hJ⟩ := of_rdF hI
  obtain ⟨d4, l4, c7, c8, rfl, rfl, h4, hK⟩ := of_rdF hJ
  obtain ⟨rfl, rfl⟩ := of_rdN hK
  obtain ⟨n2, r2, rfl, rfl⟩ := of_rdI h3
  obtain ⟨n3, r3, rfl, rfl⟩ := of_rdI h4
  exact ⟨(n1, n2, n3), ⟨r1, r2, r3⟩, rfl, rfl⟩
theorem range_drop3 {w : World} {b q : Nat} {cur : Array Value} {T : TypeId} (hc : w.heap[b]? = some (.cells cur T (0, 0))) {x y z : Value} (h : w.rangeAt b q [x, y, z]) : cur.toList.drop q = x :: y :: z :: cur.toList.drop (q + 3) := by
  have get : ∀ j v, ([x, y, z] : List Value)[j]? = some v → cur.toList[q + j]? = some v := fun j v hj => by
    have := h j v hj
    rw [cell_of_row w b _ cur T (0, 0) hc, ← Array.getElem?_toList] at this
    exact this
  have g0 := get 0 x rfl
  have g1 := get 1 y rfl
  have g2 := get 2 z rfl
  obtain ⟨h0, e0⟩ := List.getElem?_eq_some_iff.1 g0
  obtain ⟨h1, e1⟩ := List.getElem?_eq_some_iff.1 g1
  obtain ⟨h2, e2⟩ := List.getElem?_eq_some_iff.1 g2
  rw [List.drop_eq_getElem_cons (by omega : q < cur.toList.length), List.drop_eq_getElem_cons h1, List.drop_eq_getElem_cons (by omega : q + 1 + 1 < cur.toList.length)]
  simp only [Nat.add_zero] at e0
  rw [e0, e1]
  congr 3
theorem row_form {w : World} {F : Nat → Prop} {b o : Nat} {cur : Array Value} {T : TypeId} (hc : w.heap[b]? = some (.cells cur T (0, 0))) : ∀ {rs : List D} {i : Nat}, RdE w F rs (.st uS) (some ⟨b, o, none⟩) i → ∃ L : List E3, rs = L.map dE ∧ (∀ x ∈ L, okE3 x) ∧ cur.toList.drop (o + i * 3) = fls L ++ cur.toList.drop (o + (i + rs.length) * 3)
  | [], i, _ => ⟨[], rfl, fun x hx => (by cases hx), by simp [fls]⟩
  | d :: rs, i, ⟨⟨b', o', cs, e, hF, hr, hd⟩, h⟩ => by
    injection e with e
    injection e with e1 e2
    subst e1 e2
    obtain ⟨x, hx, rfl, rfl⟩ := of_rdE hd
    obtain ⟨L, rfl, hL, hdr⟩ := row_form hc h
    rw [wU] at hr
    refine ⟨x :: L, rfl, fun y hy => (List.mem_cons.1 hy).elim (fun e => e ▸ hx) (hL y), ?_⟩
    have := range_drop3 hc hr
    rw [this, show o + i * 3 + 3 = o + (i + 1) * 3 by omega, hdr, show i + 1 + (L.map dE).length = i + (dE x :: L.map dE).length by simp; omega]
    rfl

theorem own_form {A : Nat → Prop} {p : Pins} {w : World} {dep : List Nat} {pin : Nat} {l : List D} {v : Value} (h : OwnR A p w dep pin 49 (.st uS) l v) (h0 : 0 < l.length) :
    ∃ g cap L post, v = .slice (some ⟨g, 0, none⟩) l.length cap ∧ p pin = some g ∧ l = L.map dE ∧ (∀ x ∈ L, okE3 x) ∧ w.heap[g]? = some (.cells (fls L ++ post).toArray 49 (0, 0)) ∧ l.length ≤ cap ∧ cap ≤ maxLen ∧ post.length = (cap - l.length) * 3 := by
  rcases h with ⟨-, rfl⟩ | ⟨g, cap, cur, rfl, hg, hh, h1, h2, h3, h4, h5⟩
  · simp at h0
  · obtain ⟨L, hL, hok, hdr⟩ := row_form (F := FFD A p (pin :: dep)) (o := 0) hh (rs := l) (i := 0) (rdE_iff.2 fun j hj => by
      obtain ⟨cs, hr, hx⟩ := h5 j hj
      exact ⟨g, 0, cs, rfl, .inr ⟨pin, by simp, hg⟩, by simpa using hr, hx.mono fun b _ hb => hb.mono fun x hx => List.mem_cons_of_mem _ hx⟩)
    have hl := fls_len L
    have hll : l.length = L.length := by rw [hL, List.length_map]
    simp only [Nat.zero_mul, Nat.zero_add, List.drop_zero] at hdr
    rw [wU] at h3
    have hcl := congrArg List.length hdr
    rw [List.length_append, List.length_drop, Array.length_toList] at hcl
    refine ⟨g, cap, L, cur.toList.drop (l.length * 3), rfl, hg, hL, hok, ?_, h1, h2, ?_⟩
    · rw [← hdr]
      exact hh
    · rw [List.length_drop, Array.length_toList]
      omega
theorem fls_get : ∀ {l : List E3} {i : Nat} (h : i < l.length) {j : Nat} {v : Value}, (fl3 l[i])[j]? = some v → (fls l)[i * 3 + j]? = some v
  | x :: l, 0, _, j, v, hj => by
    rw [Nat.zero_mul, Nat.zero_add, fls_cons]
    exact List.getElem?_append_left (by have := (List.getElem?_eq_some_iff.1 hj).1; exact this) ▸ hj
  | x :: l, i + 1, h, j, v, hj => by
    have := fls_get (l := l) (i := i) (by simpa using h) (j := j) (v := v) (by simpa using hj)
    rw [fls_cons, show (i + 1) * 3 + j = i * 3 + j + 3 by omega]
    exact this
theorem own_mk {A : Nat → Prop} {p : Pins} {w : World} {pin g cap : Nat} {M : List E3} {post : List Value} (hp : p pin = some g) (hM : ∀ x ∈ M, okE3 x) (hh : w.heap[g]? = some (.cells (fls M ++ post).toArray 49 (0, 0))) (h1 : M.length ≤ cap) (h2 : cap ≤ maxLen) (h3 : post.length = (cap - M.length) * 3) (h4 : M.length ≤ 5864062014634) :
    OwnR A p w [] pin 49 (.st uS) (M.map dE) (.slice (some ⟨g, 0, none⟩) M.length cap) := by
  have hl := fls_len M
  refine .inr ⟨g, cap, _, by rw [List.length_map], hp, hh, by rw [List.length_map]; exact h1, h2, by rw [List.size_toArray, List.length_append, wU]; omega, by rw [List.length_map, lmU]; exact h4, fun i hi => ?_⟩
  have hi' : i < M.length := by simpa using hi
  refine ⟨fl3 M[i], fun j v hj => ?_, by simpa using rd_dE (hM _ (List.getElem_mem hi')) _ _⟩
  rw [wU]
  have := fls_get hi' hj
  exact cell_row hh (List.getElem?_append_left (by have := (List.getElem?_eq_some_iff.1 this).1; exact this) ▸ this)
end Ins
open Ins
open Go.RowKit
set_option maxRecDepth 100000
def gIns : List D → Option (List D)
  | [r, i, v] => if v.rs.length = 1 ∧ 0 ≤ i.int ∧ i.int ≤ r.rs.length ∧ r.rs.length + 1 ≤ 5864062014634 then some [.r (r.rs.take i.int.toNat ++ v.rs ++ r.rs.drop i.int.toNat)] else none
  | _ => none
theorem of_con {A : Nat → Prop} {p : Pins} {w : World} {d : D} {pin : Nat} {cs : List Value} (h : Con A p w d (.row 49) [(0, pin)] [] cs) : ∃ l v, d = .r l ∧ cs = [v] ∧ OwnR A p w [] pin 49 (.st uS) l v := by
  rcases h with ⟨E, te, l, v, e, hte, rfl, rfl, h⟩ | ⟨K, V, kt, vt, l, g, es, clock, e, -⟩
  · injection e with e
    subst e
    obtain rfl := Option.some.inj (hte.symm.trans tyU)
    exact ⟨l, v, rfl, rfl, h⟩
  · cases e
set_option maxHeartbeats 1000000 in
theorem q5t : FOk q0a gIns := FOk.of_at q36 fun ds outs hw hg => by
  obtain ⟨d, r, rfl, hd, e, r', rfl, he, e2, r2, rfl, he2, hw⟩ := hw
  obtain rfl : r2 = [] := hw
  obtain ⟨l, te, rfl, hte, hl, -⟩ := hd.row
  obtain ⟨n, rfl, hn⟩ := wfI he
  obtain ⟨m, te2, rfl, hte2, hm, -⟩ := he2.row
  have hg' : (if m.length = 1 ∧ 0 ≤ n ∧ n ≤ l.length ∧ l.length + 1 ≤ 5864062014634 then some [.r (l.take n.toNat ++ m ++ l.drop n.toNat)] else none) = some outs := hg
  split at hg'
  case isFalse => cases hg'
  rename_i hc
  obtain ⟨h1, h2, h3, h4⟩ := hc
  injection hg' with hg'
  subst hg'
  clear hg
  by_cases hnl : n = l.length
  · refine fat_ret q2o Try.f62 _ .nil rfl rfl (by decide) (fun e he => by cases he) (by simp) ?_
    rw [q3j _ rfl]
    subst hnl
    simp [q28, Tree.go, allSay, X.says, X.ev, X.evs, evl, D.rs, D.int, D.tt, h1]
    omega
  · intro A p w vs us hpre hvl hargs
    obtain ⟨v0, r0, d0, ds0, e0, e00, ⟨cs0, hpk0, hc0⟩, v1, r1, d1, ds1, e1, e11, ⟨cs1, hpk1, hc1⟩, v2, r2, d2, ds2, e2', e22, ⟨cs2, hpk2, hc2⟩, hr⟩ := hargs
    obtain rfl : r2 = [] := hr.1
    subst e1 e2'
    obtain ⟨rfl, rfl⟩ := List.cons.inj e00
    obtain ⟨rfl, rfl⟩ := List.cons.inj e11
    obtain ⟨rfl, -⟩ := List.cons.inj e22
    clear e00 e11 e22 hr
    obtain ⟨rfl, rfl⟩ : vs = [v0, v1, v2] ∧ us = [] := by
      have hl3 : vs.length = 3 := hvl
      have hus : us.length = 0 := by
        have := congrArg List.length e0
        simp at this
        omega
      obtain rfl := List.length_eq_zero_iff.1 hus
      exact ⟨by simpa using e0, rfl⟩
    clear e0
    have hc0 : Con A p w (D.r l) (.row 49) [(0, 1)] [] cs0 := hc0
    have hc2 : Con A p w (D.r m) (.row 49) [(0, 33)] [] cs2 := hc2
    obtain ⟨l', u0, q0, rfl, ho0⟩ := of_con hc0
    obtain ⟨m', u2, q2, rfl, ho2⟩ := of_con hc2
    injection q0 with q0
    injection q2 with q2
    subst q0 q2
    obtain rfl : u0 = v0 := (List.cons.inj hpk0).1
    obtain rfl : u2 = v2 := (List.cons.inj hpk2).1
    obtain ⟨n', -, e, rfl⟩ := of_rdI hc1
    injection e with e
    subst e
    obtain rfl : Value.int .i64 n = v1 := (List.cons.inj hpk1).1
    obtain ⟨g, cap, L, post, rfl, hpg, hL, hLo, hg, hcap, hcm, hpost⟩ := own_form ho0 (by omega)
    obtain ⟨g2, cap2, M, post2, rfl, hpg2, hM, hMo, hg2, hcap2, -, -⟩ := own_form ho2 (by omega)
    have hne : g2 ≠ g := fun e => by
      subst e
      have := hpre.inj _ _ _ hpg2 hpg
      omega
    have hLl : l.length = L.length := by rw [hL, List.length_map]
    obtain ⟨x, rfl⟩ : ∃ x, M = [x] := by
      have : M.length = 1 := by rw [← h1, hM, List.length_map]
      exact List.length_eq_one_iff.1 this
    have hx : okE3 x := hMo x (by simp)
    obtain ⟨i, rfl⟩ : ∃ i : Nat, n = i := ⟨n.toNat, by omega⟩
    have hi : i < L.length := by omega
    have hg2 : w.heap[g2]? = some (.cells (fl3 x ++ post2).toArray 49 (0, 0)) := by simpa [fls] using hg2
    have hout : l.take (i : Int).toNat ++ m ++ l.drop (i : Int).toNat = (L.take i ++ x :: L.drop i).map dE := by
      rw [hL, hM, Int.toNat_natCast]
      simp
    have hNo : ∀ y ∈ L.take i ++ x :: L.drop i, okE3 y := fun y hy => by
      rcases List.mem_append.1 hy with h | h
      · exact hLo y (List.mem_of_mem_take h)
      · rcases List.mem_cons.1 h with rfl | h
        · exact hx
        · exact hLo y (List.mem_of_mem_drop h)
    have hNl : (L.take i ++ x :: L.drop i).length = L.length + 1 := by simp; omega
    have hlm : cap ≤ 9223372036854775807 := by unfold maxLen at hcm; omega
    have fin : ∀ (g' cap' : Nat) (post' : List Value) (w' : World), A g' → (pinned p g' ∨ w.heap.size ≤ g') → But (pinned p) w w' → w'.heap[g']? = some (.cells (fls (L.take i ++ x :: L.drop i) ++ post').toArray 49 (0, 0)) → L.length + 1 ≤ cap' → cap' ≤ maxLen → post'.length = (cap' - (L.length + 1)) * 3 →
        ∃ rs p', Ending.returned (.slice (some ⟨g', 0, none⟩) (L.length + 1) cap') = .returned (retV rs) ∧ Bs A w (pinned p) p' w' ∧ ResL A p' w' q0a.rs q0a.ar.length rs (List.take q0a.rs.length [D.r (l.take (i : Int).toNat ++ m ++ l.drop (i : Int).toNat)]) ∧ RefL A p p' w' q0a.all (List.drop q0a.rs.length [D.r (l.take (i : Int).toNat ++ m ++ l.drop (i : Int).toNat)]) := by
      intro g' cap' post' w' hA hgp hb hh a1 a2 a3
      have hp' : ∀ y b, (fun y => if y = 49 then some g' else none : Pins) y = some b → y = 49 ∧ b = g' := fun y b h => by
        by_cases hy : y = 49
        · subst hy
          exact ⟨rfl, (Option.some.inj h).symm⟩
        · simp [hy] at h
      refine ⟨[.slice (some ⟨g', 0, none⟩) (L.length + 1) cap'], fun y => if y = 49 then some g' else none, rfl, ⟨?_, ?_, hb, ?_, hpre.new, ?_, ?_⟩, ?_, rfl⟩
      · intro y z b h1 h2
        rw [(hp' y b h1).1, (hp' z b h2).1]
      · intro y b h
        rw [(hp' y b h).2]
        exact lt_of_heap hh
      · intro y b h
        rw [(hp' y b h).2]
        exact hgp
      · intro y b h
        rw [(hp' y b h).2]
        exact hA
      · intro y b h
        rw [(hp' y b h).2]
        exact .inl ⟨_, _, hh⟩
      · refine ⟨_, _, _, _, rfl, rfl, ⟨[.slice (some ⟨g', 0, none⟩) (L.length + 1) cap'], rfl, ?_⟩, rfl⟩
        refine .inl ⟨49, .st uS, _, _, rfl, tyU, rfl, rfl, ?_⟩
        rw [hout, ← hNl]
        exact own_mk rfl hNo hh (by rw [hNl]; exact a1) a2 (by rw [hNl]; exact a3) (by rw [hNl]; omega)
    rw [h1, hLl]
    by_cases hroom : L.length + 1 ≤ cap
    · refine Calls.mono (ins_room w g cap g2 cap2 i L.length L x post post2 49 49 rfl hi hroom hlm hne (by rw [hpost]; omega) hg hg2) ?_
      rintro e w' ⟨rfl, hb, hh⟩
      exact .inr (fin g cap _ w' (hpre.pa _ _ hpg) (.inl ⟨_, hpg⟩) (hb.mono fun k hk _ => hk ▸ ⟨_, hpg⟩) hh hroom hcm (by rw [List.length_drop, hpost]; omega))
    · have hcl : cap = L.length := by omega
      subst hcl
      refine Calls.mono (ins_grow w g g2 cap2 i L.length L x post post2 49 49 rfl hi (by omega) hne hg hg2) ?_
      rintro e w' ⟨G, rest, rfl, hb, a1, a2, a3, hh⟩
      exact .inr (fin _ G _ w' (hpre.new _ (Nat.le_refl _)) (.inr (Nat.le_refl _)) hb.of_nil hh a1 a2 a3)
end Go.Proofs.Ytinclokohcommaa


namespace Go.Proofs.Ytinclokohcommaa
open Go.RowKit
set_option linter.unusedVariables false
set_option linter.unusedSimpArgs false

def gNan : List D → Option (List D)
  | [x] => some [.b false]
  | _ => none
theorem ok_cmp_isNaN_int64 : FOk q12 gNan := q58 fun ds outs hw hg => by
  obtain ⟨d, r, rfl, hd, rfl⟩ := hw
  simp only [gNan, Option.some.injEq] at hg
  subst hg
  simp [q2s, q00, go_br, q01, q02, allSay, X.says, X.ev, X.evs, evl, tblS, List.getD_cons_zero, List.getD_cons_succ, List.getElem?_cons_zero, List.getElem?_cons_succ, tt_b, int_i, str_s, rs_r, Option.isSome_some, Option.getD_some, decide_eq_true_eq, decide_eq_false_iff_not, dS_eS, dC_eC, dU_eU, dW_eW, dY_eY, eC_0, eC_1, eU_0, eU_1, eW_0, eW_1, eW_2, eY_0, eY_1, eS_0, eS_1, eS_2, eS_3, eS_4, eS_5, List.length_map, i_inj, b_inj, s_inj, eC_eq, eU_eq, eW_eq, eY_eq, eS_eq, rng64, List.take_succ_cons, List.take_zero, List.nil_append, List.cons_append, decide_true, decide_false, Bool.or_true, true_and, and_true, dT_eT, eT_0, eT_1, eT_2, eT_3, eT_eq, eT_z]
def gCmp : List D → Option (List D)
  | [x, v] => some [.i (if x.int < v.int then -1 else if v.int < x.int then 1 else 0)]
  | _ => none
theorem ok_cmp_Compare_int64 : FOk q0r gCmp := q4t ok_cmp_isNaN_int64 fun ds outs hw hg => by
  obtain ⟨d, r, rfl, hd, e, r', rfl, he, rfl⟩ := hw
  obtain ⟨x, rfl, hx⟩ := wfI hd
  obtain ⟨v, rfl, hv⟩ := wfI he
  simp only [gCmp, int_i, Option.some.injEq] at hg
  subst hg
  simp only [q2g, q00, go_br, q01, q02, allSay, X.says, X.ev, X.evs, evl, tblS, List.getD_cons_zero, List.getD_cons_succ, List.getElem?_cons_zero, List.getElem?_cons_succ, tt_b, int_i, str_s, rs_r, Option.isSome_some, Option.getD_some, decide_eq_true_eq, decide_eq_false_iff_not, dS_eS, dC_eC, dU_eU, dW_eW, dY_eY, eC_0, eC_1, eU_0, eU_1, eW_0, eW_1, eW_2, eY_0, eY_1, eS_0, eS_1, eS_2, eS_3, eS_4, eS_5, List.length_map, i_inj, b_inj, s_inj, eC_eq, eU_eq, eW_eq, eY_eq, eS_eq, rng64, List.take_succ_cons, List.take_zero, List.nil_append, List.cons_append, decide_true, decide_false, Bool.or_true, true_and, and_true, dT_eT, eT_0, eT_1, eT_2, eT_3, eT_eq, eT_z, gNan]
  by_cases h1 : x < v <;> by_cases h2 : v < x <;> simp [h1, h2]
def gByV : List D → Option (List D)
  | [x, v] => some [.i (if (dV x).v < v.int then -1 else if v.int < (dV x).v then 1 else 0)]
  | _ => none
theorem ok_cells_byVar : FOk q1n gByV := fok_cells_byVar ok_cmp_Compare_int64 fun ds outs hw hg => by
  obtain ⟨d, r, rfl, hd, e, r', rfl, he, rfl⟩ := hw
  obtain ⟨x, rfl, hx, -⟩ := wfV hd
  obtain ⟨v, rfl, hv⟩ := wfI he
  simp only [gByV, dV_eV, int_i, Option.some.injEq] at hg
  subst hg
  simp [q3d, q00, go_br, q01, q02, allSay, X.says, X.ev, X.evs, evl, tblS, List.getD_cons_zero, List.getD_cons_succ, List.getElem?_cons_zero, List.getElem?_cons_succ, tt_b, int_i, str_s, rs_r, Option.isSome_some, Option.getD_some, decide_eq_true_eq, decide_eq_false_iff_not, dS_eS, dC_eC, dU_eU, dW_eW, dY_eY, eC_0, eC_1, eU_0, eU_1, eW_0, eW_1, eW_2, eY_0, eY_1, eS_0, eS_1, eS_2, eS_3, eS_4, eS_5, List.length_map, i_inj, b_inj, s_inj, eC_eq, eU_eq, eW_eq, eY_eq, eS_eq, rng64, List.take_succ_cons, List.take_zero, List.nil_append, List.cons_append, decide_true, decide_false, Bool.or_true, true_and, and_true, dT_eT, eT_0, eT_1, eT_2, eT_3, eT_eq, eT_z, gCmp, eV_0]
  rfl
def gKept : List D → Option (List D)
  | [c] => some [eC (keptC (dC c))]
  | _ => none
theorem ok_cells_kept : FOk q1r gKept := fok_cells_kept fun ds outs hw hg => by
  obtain ⟨d, r, rfl, hd, rfl⟩ := hw
  obtain ⟨c, rfl, hc⟩ := wfC hd
  simp only [gKept, dC_eC, Option.some.injEq] at hg
  subst hg
  simp only [q3n, q00, go_br, q01, q02, allSay, X.says, X.ev, X.evs, evl, tblS, List.getD_cons_zero, List.getD_cons_succ, List.getElem?_cons_zero, List.getElem?_cons_succ, tt_b, int_i, str_s, rs_r, Option.isSome_some, Option.getD_some, decide_eq_true_eq, decide_eq_false_iff_not, dS_eS, dC_eC, dU_eU, dW_eW, dY_eY, eC_0, eC_1, eU_0, eU_1, eW_0, eW_1, eW_2, eY_0, eY_1, eS_0, eS_1, eS_2, eS_3, eS_4, eS_5, List.length_map, i_inj, b_inj, s_inj, eC_eq, eU_eq, eW_eq, eY_eq, eS_eq, rng64, List.take_succ_cons, List.take_zero, List.nil_append, List.cons_append, decide_true, decide_false, Bool.or_true, true_and, and_true, dT_eT, eT_0, eT_1, eT_2, eT_3, eT_eq, eT_z, keptC]
  by_cases h : c.t = 5 <;> simp [h]
  rfl
def gBin : List D → Option (List D)
  | [l, v] => if SV (dVs l) then some [.i (loV (dVs l) v.int), .b (ofV (dVs l) v.int).isSome] else none
  | _ => none
theorem rngU {n : Int} (h0 : 0 ≤ n) (h1 : n ≤ 9223372036854775807) : rngB .u64 n = true := by
  simp [rngB]
  omega
theorem cmp_lt (a v : Int) {i1 : Decidable (a < v)} {i2 : Decidable (v < a)} : ((if a < v then (-1 : Int) else if v < a then 1 else 0) < 0) ↔ a < v := by
  split
  · simp_all
  · split <;> simp_all
theorem half (i j : Nat) : ((i : Int) + (j : Int)).fdiv (2 ^ (1 : Int).toNat) = ((i + j) / 2 : Nat) := by
  rw [show (2 : Int) ^ (1 : Int).toNat = 2 from rfl, Int.fdiv_eq_ediv_of_nonneg _ (by omega)]
  omega
theorem sv_mono {l : List Vc} (h : SV l) {i j : Nat} (hij : i ≤ j) (hj : j < l.length) : (l.getD i default).v ≤ (l.getD j default).v := by
  rcases Nat.lt_or_eq_of_le hij with h1 | rfl
  · have h2 : i < l.length := by omega
    have := List.pairwise_iff_getElem.1 h.1 i j h2 hj h1
    simp only [List.getD_eq_getElem?_getD, List.getElem?_eq_getElem h2, List.getElem?_eq_getElem hj, Option.getD_some]
    omega
  · exact Int.le_refl _
theorem q2k : FOk q05 gBin := q2i ok_cells_byVar fun ds outs hw hg => by
  obtain ⟨d, r, rfl, hd, e, r', rfl, he, rfl⟩ := hw
  obtain ⟨l, rfl, hl, hok⟩ := wfVs hd
  obtain ⟨v, rfl, hv⟩ := wfI he
  simp only [gBin, dVs_eVs, int_i, Option.ite_none_right_eq_some, Option.some.injEq] at hg
  obtain ⟨hs, rfl⟩ := hg
  rw [q1g, q1j]
  refine ⟨fun st => ∃ i j : Nat, i ≤ j ∧ j ≤ l.length ∧ st = [.i i, .i j] ∧ (∀ k, k < i → (l.getD k default).v < v) ∧ (∀ k, j ≤ k → k < l.length → v ≤ (l.getD k default).v), fun st => (st.getD 1 .u).int.toNat - (st.getD 0 .u).int.toNat, ⟨0, l.length, Nat.zero_le _, Nat.le_refl _, by simp [X.evs, X.ev, evl, D.rs], fun k hk => absurd hk (Nat.not_lt_zero _), fun k h1 h2 => by omega⟩, ?_⟩
  rintro st - ⟨i, j, hij, hj, rfl, h1, h2⟩
  rw [go_br]
  refine ⟨fun hlt => ?_, fun hlt => ?_⟩
  · simp only [q00, go_br, q01, q02, allSay, X.says, X.ev, X.evs, evl, tblS, List.getD_cons_zero, List.getD_cons_succ, List.getElem?_cons_zero, List.getElem?_cons_succ, tt_b, int_i, str_s, rs_r, Option.isSome_some, Option.getD_some, decide_eq_true_eq, decide_eq_false_iff_not, dS_eS, dC_eC, dU_eU, dW_eW, dY_eY, eC_0, eC_1, eU_0, eU_1, eW_0, eW_1, eW_2, eY_0, eY_1, eS_0, eS_1, eS_2, eS_3, eS_4, eS_5, List.length_map, i_inj, b_inj, s_inj, eC_eq, eU_eq, eW_eq, eY_eq, eS_eq, rng64, List.take_succ_cons, List.take_zero, List.nil_append, List.cons_append, decide_true, decide_false, Bool.or_true, true_and, and_true, dT_eT, eT_0, eT_1, eT_2, eT_3, eT_eq, eT_z] at hlt
    have hm : (i + j) / 2 < l.length := by omega
    simp only [q00, go_br, q01, q02, allSay, X.says, X.ev, X.evs, evl, tblS, List.getD_cons_zero, List.getD_cons_succ, List.getElem?_cons_zero, List.getElem?_cons_succ, tt_b, int_i, str_s, rs_r, Option.isSome_some, Option.getD_some, decide_eq_true_eq, decide_eq_false_iff_not, dS_eS, dC_eC, dU_eU, dW_eW, dY_eY, eC_0, eC_1, eU_0, eU_1, eW_0, eW_1, eW_2, eY_0, eY_1, eS_0, eS_1, eS_2, eS_3, eS_4, eS_5, List.length_map, i_inj, b_inj, s_inj, eC_eq, eU_eq, eW_eq, eY_eq, eS_eq, rng64, List.take_succ_cons, List.take_zero, List.nil_append, List.cons_append, decide_true, decide_false, Bool.or_true, true_and, and_true, dT_eT, eT_0, eT_1, eT_2, eT_3, eT_eq, eT_z, fnD, half, get_n eV hm, gByV, dV_eV, cmp_lt]
    have hk : i + j ≤ 2 * 5864062014634 := by omega
    refine ⟨⟨⟨by omega, by omega⟩, rngU (by omega) (by omega), rngU (by omega) (by omega), by omega, by omega⟩, ⟨by omega, by omega⟩, fun hb => ⟨⟨by omega, by omega⟩, ?_⟩, fun hb => ?_⟩
    · have hlv : (l.getD ((i + j) / 2) default).v < v := (cmp_lt _ _).1 hb
      rw [updB, if_pos rfl]
      refine ⟨⟨(i + j) / 2 + 1, j, by omega, hj, by simp, fun k hk => ?_, h2⟩, ?_⟩
      · have := sv_mono hs (show k ≤ (i + j) / 2 by omega) hm
        omega
      · simp [D.int]
        omega
    · have hlv : v ≤ (l.getD ((i + j) / 2) default).v := Int.not_lt.1 fun q => hb ((cmp_lt _ _).2 q)
      rw [updB, if_pos rfl]
      refine ⟨⟨i, (i + j) / 2, by omega, by omega, by simp, h1, fun k hk hkl => ?_⟩, ?_⟩
      · have := sv_mono hs (show (i + j) / 2 ≤ k by omega) hkl
        omega
      · simp [D.int]
        omega
  · simp only [q00, go_br, q01, q02, allSay, X.says, X.ev, X.evs, evl, tblS, List.getD_cons_zero, List.getD_cons_succ, List.getElem?_cons_zero, List.getElem?_cons_succ, tt_b, int_i, str_s, rs_r, Option.isSome_some, Option.getD_some, decide_eq_true_eq, decide_eq_false_iff_not, dS_eS, dC_eC, dU_eU, dW_eW, dY_eY, eC_0, eC_1, eU_0, eU_1, eW_0, eW_1, eW_2, eY_0, eY_1, eS_0, eS_1, eS_2, eS_3, eS_4, eS_5, List.length_map, i_inj, b_inj, s_inj, eC_eq, eU_eq, eW_eq, eY_eq, eS_eq, rng64, List.take_succ_cons, List.take_zero, List.nil_append, List.cons_append, decide_true, decide_false, Bool.or_true, true_and, and_true, dT_eT, eT_0, eT_1, eT_2, eT_3, eT_eq, eT_z] at hlt
    have hl1 : loV l v = i := loV_uniq (by omega) h1 fun k hk hkl => h2 k (by omega) hkl
    rw [ofV_lo hs, hl1]
    by_cases hil : i < l.length
    · simp only [q00, go_br, q01, q02, allSay, X.says, X.ev, X.evs, evl, tblS, List.getD_cons_zero, List.getD_cons_succ, List.getElem?_cons_zero, List.getElem?_cons_succ, tt_b, int_i, str_s, rs_r, Option.isSome_some, Option.getD_some, decide_eq_true_eq, decide_eq_false_iff_not, dS_eS, dC_eC, dU_eU, dW_eW, dY_eY, eC_0, eC_1, eU_0, eU_1, eW_0, eW_1, eW_2, eY_0, eY_1, eS_0, eS_1, eS_2, eS_3, eS_4, eS_5, List.length_map, i_inj, b_inj, s_inj, eC_eq, eU_eq, eW_eq, eY_eq, eS_eq, rng64, List.take_succ_cons, List.take_zero, List.nil_append, List.cons_append, decide_true, decide_false, Bool.or_true, true_and, and_true, dT_eT, eT_0, eT_1, eT_2, eT_3, eT_eq, eT_z, get_n eV hil, gByV, dV_eV]
      have e0 : (i : Int) < l.length := by omega
      have e1 : (0 : Int) ≤ i := by omega
      have hx : v ≤ (l.getD i default).v := h2 i (by omega) hil
      generalize l.getD i default = z at hx
      simp only [e0, e1, decide_true, Bool.not_true, Bool.false_or, Bool.true_and, true_and, hil]
      by_cases hz : z.v = v
      · have h3 : ¬ z.v < v := by omega
        have h4 : ¬ v < z.v := by omega
        simp [hz]
      · have h3 : ¬ z.v < v := by omega
        have h4 : v < z.v := by omega
        simp [hz, h3, h4]
    · have e0 : ¬ (i : Int) < l.length := by omega
      simp [q00, go_br, q01, q02, allSay, X.says, X.ev, X.evs, evl, tblS, List.getD_cons_zero, List.getD_cons_succ, List.getElem?_cons_zero, List.getElem?_cons_succ, tt_b, int_i, str_s, rs_r, Option.isSome_some, Option.getD_some, decide_eq_true_eq, decide_eq_false_iff_not, dS_eS, dC_eC, dU_eU, dW_eW, dY_eY, eC_0, eC_1, eU_0, eU_1, eW_0, eW_1, eW_2, eY_0, eY_1, eS_0, eS_1, eS_2, eS_3, eS_4, eS_5, List.length_map, i_inj, b_inj, s_inj, eC_eq, eU_eq, eW_eq, eY_eq, eS_eq, rng64, List.take_succ_cons, List.take_zero, List.nil_append, List.cons_append, decide_true, decide_false, Bool.or_true, true_and, and_true, dT_eT, eT_0, eT_1, eT_2, eT_3, eT_eq, eT_z, e0, hil]

def eM (ms : List Sy) : List D := ms.map fun y => .a [eY y, .b true]
def dM (d : D) : List Sy := d.ms.map fun p => dY (p.fld 0)
theorem dM_eM (ms : List Sy) : dM (.mp (eM ms)) = ms := by
  show (ms.map fun y => D.a [eY y, .b true]).map (fun p => dY (p.fld 0)) = ms
  rw [List.map_map]
  exact List.map_id'' (fun x => rfl) ms
theorem mfind_eM (y : Sy) : ∀ ms : List Sy, mfind (eY y) (eM ms) = if y ∈ ms then some (.b true) else none
  | [] => by simp [eM, mfind]
  | z :: ms => by
    have ih := mfind_eM y ms
    show (if eY z = eY y then some (D.b true) else mfind (eY y) (eM ms)) = _
    by_cases h : z = y
    · subst h
      rw [if_pos rfl]
      simp
    · have h' : ¬ y = z := fun e => h e.symm
      rw [if_neg (fun e => h (eY_inj e)), ih]
      simp [h']
theorem mset_eM {y : Sy} : ∀ {ms : List Sy}, y ∉ ms → mset (eY y) (.b true) (eM ms) = eM (ms ++ [y])
  | [], _ => by simp [eM, mset]
  | z :: ms, h => by
    have h1 : ¬ z = y := fun e => h (by simp [e])
    have h2 : y ∉ ms := fun e => h (by simp [e])
    have ih := mset_eM h2
    show (if eY z = eY y then D.a [eY y, .b true] :: eM ms else D.a [eY z, .b true] :: mset (eY y) (.b true) (eM ms)) = _
    rw [if_neg (fun e => h1 (eY_inj e)), ih]
    rfl
theorem visMs_app (ys : List Sy) : ∀ (l m : List Te) (ms : List Sy), visMs ys ms (l ++ m) = visMs ys (visMs ys ms l) m
  | [], m, ms => rfl
  | t :: l, m, ms => by rw [List.cons_append, visMs, visMs, visMs_app ys l m]
theorem cntTs_app : ∀ (l m : List Te), cntTs (l ++ m) = cntTs l + cntTs m
  | [], m => by simp [cntTs]
  | t :: l, m => by rw [List.cons_append, cntTs, cntTs, cntTs_app l m]; omega
theorem visM_t (ys ms : List Sy) (t : Te) : visM ys ms t = visMs ys (if t.k = 2 ∨ t.k = 3 then symM ys ms ⟨t.s, (t.l.length : Nat)⟩ else ms) t.l := by
  cases t
  rw [visM]
  rfl
theorem cntT_t (t : Te) : cntT t = if t.k = 3 then 1 + t.l.length + cntTs t.l else 0 := by
  cases t
  rw [cntT]
  rfl
theorem node_l {t : Te} (h : nodeT t = true) (h3 : ¬ t.k = 3) : t.l = [] := by
  obtain ⟨k, n, nm, l⟩ := t
  rcases node_cases h with h | h | h | h
  · exact h.2.1
  · exact h.2
  · exact h.2.1
  · exact (h3 h.1).elim
def gRo1 : List D → Option (List D)
  | [t, m, n, s] => if m = .mp (eM (dM m)) ∧ nodesT (dT t) = true ∧ 0 ≤ n.int ∧ n.int + cntT (dT t) ≤ 1099511627776 then some [.mp (eM (visM (dS s).ys (dM m) (dT t))), .i (n.int + cntT (dT t))] else none
  | _ => none
theorem ok_cells_room_1 : FOk q0g gRo1 := q2u (m := mT) q43 fun N ih => fok_cells_room_1 ih ok_cells_find fun ds outs hw hg => by
  obtain ⟨d, r, rfl, hd, e, r', rfl, he, f, r2, rfl, hf, q, r3, rfl, hq, rfl⟩ := hw
  obtain ⟨t, rfl, ht⟩ := wfT hd
  obtain ⟨n, rfl, hn⟩ := wfI hf
  obtain ⟨s, rfl, hs⟩ := wfS hq
  simp only [cutM, mT, gRo1, List.getD_cons_zero, dT_eT, int_i, dS_eS, Option.ite_none_right_eq_some, Option.some.injEq] at hg
  obtain ⟨hsz, ⟨hm, hnd, h0, h1⟩, rfl⟩ := hg
  obtain ⟨ms, hms⟩ : ∃ ms, e = .mp (eM ms) := ⟨_, hm⟩
  subst hms
  rw [dM_eM]
  have hl := ht.l
  have hnl := (nodes_iff t).1 hnd
  have key : ∀ (x1 x2 : X) (ms0 : List Sy) (n0 : Int), x1.ev (evl (tblS [(q0g, cutM mT N gRo1), (q0o, gFind1)]) [eT t, .mp (eM ms), .i n, eS s]) = .mp (eM ms0) → x2.ev (evl (tblS [(q0g, cutM mT N gRo1), (q0o, gFind1)]) [eT t, .mp (eM ms), .i n, eS s]) = .i n0 → 0 ≤ n0 → n0 + cntTs t.l = n + cntT t → visMs s.ys ms0 t.l = visM s.ys ms t → Tree.go (tblS [(q0g, cutM mT N gRo1), (q0o, gFind1)]) (fun o => o = [.mp (eM (visM s.ys ms t)), .i (n + cntT t)]) (.loop 8 4 [(.lit (.i 0)), x1, x2] (.br (.lt (.tok 4) (.len (.fld (.tok 0) 3))) (.need [(.le (.lit (.i 0)) (.tok 4)), (.lt (.tok 4) (.len (.fld (.tok 0) 3)))] (.need [(.ok 0 [(.get (.fld (.tok 0) 3) (.tok 4)), (.tok 5), (.tok 6), (.tok 3)])] (.need [(.rng .i64 (.add (.tok 4) (.lit (.i 1))))] (.back 8 [(.add (.tok 4) (.lit (.i 1))), (.call 0 0 [(.get (.fld (.tok 0) 3) (.tok 4)), (.tok 5), (.tok 6), (.tok 3)]), (.call 0 1 [(.get (.fld (.tok 0) 3) (.tok 4)), (.tok 5), (.tok 6), (.tok 3)])])))) (.leaf [(.tok 5), (.tok 6)]))) [eT t, .mp (eM ms), .i n, eS s] fun _ _ => False := by
    intro x1 x2 ms0 n0 hx1 hx2 hn0 hc hv
    rw [q1j]
    refine ⟨fun st => ∃ k : Nat, k ≤ t.l.length ∧ st = [.i k, .mp (eM (visMs s.ys ms0 (t.l.take k))), .i (n0 + cntTs (t.l.take k))], fun st => t.l.length - (st.getD 0 .u).int.toNat, ⟨0, Nat.zero_le _, by simp only [X.evs, hx1, hx2, X.ev]; simp [visMs, cntTs]⟩, ?_⟩
    rintro st - ⟨k, hk, rfl⟩
    rw [go_br]
    refine ⟨fun hlt => ?_, fun hlt => ?_⟩
    · simp only [q00, go_br, q01, q02, allSay, X.says, X.ev, X.evs, evl, tblS, List.getD_cons_zero, List.getD_cons_succ, List.getElem?_cons_zero, List.getElem?_cons_succ, tt_b, int_i, str_s, rs_r, Option.isSome_some, Option.getD_some, decide_eq_true_eq, decide_eq_false_iff_not, dS_eS, dC_eC, dU_eU, dW_eW, dY_eY, eC_0, eC_1, eU_0, eU_1, eW_0, eW_1, eW_2, eY_0, eY_1, eS_0, eS_1, eS_2, eS_3, eS_4, eS_5, List.length_map, i_inj, b_inj, s_inj, eC_eq, eU_eq, eW_eq, eY_eq, eS_eq, rng64, List.take_succ_cons, List.take_zero, List.nil_append, List.cons_append, decide_true, decide_false, Bool.or_true, true_and, and_true, dT_eT, eT_0, eT_1, eT_2, eT_3, eT_eq, eT_z] at hlt
      have hkl : k < t.l.length := by omega
      have ha := arg_sz hkl
      have hsn : cntTs (t.l.take (k + 1)) = cntTs (t.l.take k) + cntT (t.l.getD k default) := by
        rw [take_snoc hkl, cntTs_app]
        simp [cntTs]
      have hle : cntTs (t.l.take (k + 1)) ≤ cntTs t.l := by
        have := cntTs_app (t.l.take (k + 1)) (t.l.drop (k + 1))
        rw [List.take_append_drop] at this
        omega
      have hvs : visMs s.ys ms0 (t.l.take (k + 1)) = visM s.ys (visMs s.ys ms0 (t.l.take k)) (t.l.getD k default) := by
        rw [take_snoc hkl, visMs_app]
        rfl
      have hq : (nodesT (t.l.getD k default) = true ∧ 0 ≤ n0 + (cntTs (t.l.take k) : Int) ∧ n0 + (cntTs (t.l.take k) : Int) + cntT (t.l.getD k default) ≤ 1099511627776) := ⟨hnl.2 k hkl, by omega, by omega⟩
      simp only [q00, go_br, q01, q02, allSay, X.says, X.ev, X.evs, evl, tblS, List.getD_cons_zero, List.getD_cons_succ, List.getElem?_cons_zero, List.getElem?_cons_succ, tt_b, int_i, str_s, rs_r, Option.isSome_some, Option.getD_some, decide_eq_true_eq, decide_eq_false_iff_not, dS_eS, dC_eC, dU_eU, dW_eW, dY_eY, eC_0, eC_1, eU_0, eU_1, eW_0, eW_1, eW_2, eY_0, eY_1, eS_0, eS_1, eS_2, eS_3, eS_4, eS_5, List.length_map, i_inj, b_inj, s_inj, eC_eq, eU_eq, eW_eq, eY_eq, eS_eq, rng64, List.take_succ_cons, List.take_zero, List.nil_append, List.cons_append, decide_true, decide_false, Bool.or_true, true_and, and_true, dT_eT, eT_0, eT_1, eT_2, eT_3, eT_eq, eT_z, get_t hkl, cutM, mT, gRo1, if_pos hq, if_pos (show szT (t.l.getD k default) < N by omega), dM_eM]
      refine ⟨⟨by omega, by omega⟩, ⟨by omega, by omega⟩, ?_⟩
      rw [updB, if_pos rfl]
      refine ⟨⟨k + 1, by omega, ?_⟩, ?_⟩
      · rw [hvs, hsn]
        simp
        omega
      · simp [D.int]
        omega
    · simp only [q00, go_br, q01, q02, allSay, X.says, X.ev, X.evs, evl, tblS, List.getD_cons_zero, List.getD_cons_succ, List.getElem?_cons_zero, List.getElem?_cons_succ, tt_b, int_i, str_s, rs_r, Option.isSome_some, Option.getD_some, decide_eq_true_eq, decide_eq_false_iff_not, dS_eS, dC_eC, dU_eU, dW_eW, dY_eY, eC_0, eC_1, eU_0, eU_1, eW_0, eW_1, eW_2, eY_0, eY_1, eS_0, eS_1, eS_2, eS_3, eS_4, eS_5, List.length_map, i_inj, b_inj, s_inj, eC_eq, eU_eq, eW_eq, eY_eq, eS_eq, rng64, List.take_succ_cons, List.take_zero, List.nil_append, List.cons_append, decide_true, decide_false, Bool.or_true, true_and, and_true, dT_eT, eT_0, eT_1, eT_2, eT_3, eT_eq, eT_z] at hlt ⊢
      have : k = t.l.length := by omega
      subst this
      rw [List.take_length, hv, hc]
  rw [q31]
  have ey : D.a [.s t.s, .i (t.l.length : Nat)] = eY ⟨t.s, (t.l.length : Nat)⟩ := rfl
  simp only [q00, go_br, q01, q02, allSay, X.says, X.ev, X.evs, evl, tblS, List.getD_cons_zero, List.getD_cons_succ, List.getElem?_cons_zero, List.getElem?_cons_succ, tt_b, int_i, str_s, rs_r, Option.isSome_some, Option.getD_some, decide_eq_true_eq, decide_eq_false_iff_not, dS_eS, dC_eC, dU_eU, dW_eW, dY_eY, eC_0, eC_1, eU_0, eU_1, eW_0, eW_1, eW_2, eY_0, eY_1, eS_0, eS_1, eS_2, eS_3, eS_4, eS_5, List.length_map, i_inj, b_inj, s_inj, eC_eq, eU_eq, eW_eq, eY_eq, eS_eq, rng64, List.take_succ_cons, List.take_zero, List.nil_append, List.cons_append, decide_true, decide_false, Bool.or_true, true_and, and_true, dT_eT, eT_0, eT_1, eT_2, eT_3, eT_eq, eT_z, gFind1, fnD, ey, ms_mp, mfind_eM]
  have hc3 : t.k = 3 → cntT t = 1 + t.l.length + cntTs t.l := fun h => by rw [cntT_t, if_pos h]
  have hc0 : ¬ t.k = 3 → cntT t = 0 ∧ cntTs t.l = 0 := fun h => by
    rw [cntT_t, if_neg h, node_l hnl.1 h]
    exact ⟨rfl, rfl⟩
  have hvm := visM_t s.ys ms t
  have hput : ∀ ms0, ms0 = symM s.ys ms ⟨t.s, (t.l.length : Nat)⟩ → (decide (t.k = 2) || decide (t.k = 3)) = true → visMs s.ys ms0 t.l = visM s.ys ms t := fun ms0 e h => by
    rw [hvm, e, if_pos (by simpa using h)]
  have hM : (X.fn 2 [.tok 1, .mk [.fld (.tok 0) 2, .len (.fld (.tok 0) 3)], .lit (.b true)]).ev (evl (tblS [(q0g, cutM mT N gRo1), (q0o, gFind1)]) [eT t, .mp (eM ms), .i n, eS s]) = .mp (mset (eY ⟨t.s, (t.l.length : Nat)⟩) (.b true) (eM ms)) := by
    simp only [q00, go_br, q01, q02, allSay, X.says, X.ev, X.evs, evl, tblS, List.getD_cons_zero, List.getD_cons_succ, List.getElem?_cons_zero, List.getElem?_cons_succ, tt_b, int_i, str_s, rs_r, Option.isSome_some, Option.getD_some, decide_eq_true_eq, decide_eq_false_iff_not, dS_eS, dC_eC, dU_eU, dW_eW, dY_eY, eC_0, eC_1, eU_0, eU_1, eW_0, eW_1, eW_2, eY_0, eY_1, eS_0, eS_1, eS_2, eS_3, eS_4, eS_5, List.length_map, i_inj, b_inj, s_inj, eC_eq, eU_eq, eW_eq, eY_eq, eS_eq, rng64, List.take_succ_cons, List.take_zero, List.nil_append, List.cons_append, decide_true, decide_false, Bool.or_true, true_and, and_true, dT_eT, eT_0, eT_1, eT_2, eT_3, eT_eq, eT_z, fnD, ey, ms_mp]
  have hN : (X.add (.tok 2) (.add (.len (.fld (.tok 0) 3)) (.lit (.i 1)))).ev (evl (tblS [(q0g, cutM mT N gRo1), (q0o, gFind1)]) [eT t, .mp (eM ms), .i n, eS s]) = .i (n + ((t.l.length : Nat) + 1)) := by
    simp only [q00, go_br, q01, q02, allSay, X.says, X.ev, X.evs, evl, tblS, List.getD_cons_zero, List.getD_cons_succ, List.getElem?_cons_zero, List.getElem?_cons_succ, tt_b, int_i, str_s, rs_r, Option.isSome_some, Option.getD_some, decide_eq_true_eq, decide_eq_false_iff_not, dS_eS, dC_eC, dU_eU, dW_eW, dY_eY, eC_0, eC_1, eU_0, eU_1, eW_0, eW_1, eW_2, eY_0, eY_1, eS_0, eS_1, eS_2, eS_3, eS_4, eS_5, List.length_map, i_inj, b_inj, s_inj, eC_eq, eU_eq, eW_eq, eY_eq, eS_eq, rng64, List.take_succ_cons, List.take_zero, List.nil_append, List.cons_append, decide_true, decide_false, Bool.or_true, true_and, and_true, dT_eT, eT_0, eT_1, eT_2, eT_3, eT_eq, eT_z]
  have hno : ((!((if (⟨t.s, (t.l.length : Nat)⟩ : Sy) ∈ ms then some (D.b true) else none).getD (D.b false)).tt && decide (findS s t.s (t.l.length : Nat) < 0)) = true) ↔ ¬ ((⟨t.s, (t.l.length : Nat)⟩ : Sy) ∈ ms ∨ (⟨t.s, (t.l.length : Nat)⟩ : Sy) ∈ s.ys) := by
    rw [← findS_mem (s := s) (nm := t.s) (ar := (t.l.length : Nat))]
    by_cases hm : (⟨t.s, (t.l.length : Nat)⟩ : Sy) ∈ ms
    · simp [hm, D.tt]
    · simp [hm, D.tt]
  refine ⟨fun h23 => ⟨fun hc => ?_, fun hc => ?_⟩, fun h23 => ?_⟩
  · have hc' := hno.1 hc
    have e1 : symM s.ys ms ⟨t.s, (t.l.length : Nat)⟩ = ms ++ [⟨t.s, (t.l.length : Nat)⟩] := by rw [symM, if_neg hc']
    rw [mset_eM fun q => hc' (.inl q), ← e1] at hM
    exact ⟨fun h3 => ⟨⟨⟨by omega, by omega⟩, by omega, by have := hc3 h3; omega⟩, key _ _ _ _ hM hN (by omega) (by have := hc3 h3; omega) (hput _ rfl h23)⟩, fun h3 => key _ _ _ _ hM rfl h0 (by have := hc0 h3; omega) (hput _ rfl h23)⟩
  · have hc' : (⟨t.s, (t.l.length : Nat)⟩ : Sy) ∈ ms ∨ (⟨t.s, (t.l.length : Nat)⟩ : Sy) ∈ s.ys := Classical.byContradiction fun q => by
      rw [hno.2 q] at hc
      cases hc
    have e1 : ms = symM s.ys ms ⟨t.s, (t.l.length : Nat)⟩ := by rw [symM, if_pos hc']
    exact ⟨fun h3 => ⟨⟨⟨by omega, by omega⟩, by omega, by have := hc3 h3; omega⟩, key _ _ _ _ rfl hN (by omega) (by have := hc3 h3; omega) (hput _ e1 h23)⟩, fun h3 => key _ _ _ _ rfl rfl h0 (by have := hc0 h3; omega) (hput _ e1 h23)⟩
  · have h3 : ¬ t.k = 3 := fun q => by simp [q] at h23
    have h4 : ¬ (t.k = 2 ∨ t.k = 3) := fun q => by
      rcases q with q | q <;> simp [q] at h23
    rw [if_neg h4] at hvm
    exact ⟨fun q => (h3 q).elim, fun _ => key _ _ _ _ rfl rfl h0 (by have := hc0 h3; omega) hvm.symm⟩
end Go.Proofs.Ytinclokohcommaa

