/-
  Lemmas of the walk and plain laws, put together. No condition.
-/
import Derived.Test.YtmebmpgffhajbaaKd
namespace Go.Proofs.Ytmebmpgffhajbaa
open Go.RowKit
set_option linter.unusedVariables false
set_option maxRecDepth 100000

abbrev T_Cells : Ty := .row 31
abbrev T_Symbols : Ty := .row 51
abbrev T_Undos : Ty := .row 37
abbrev T_Wakes : Ty := .row 63
abbrev T_Store : Ty := .st 27
abbrev T_Cell : Ty := .st 30
abbrev T_Roots : Ty := .st 34
abbrev T_Undo : Ty := .st 36
abbrev T_Symbol : Ty := .st 50
abbrev T_Wake : Ty := .st 62
abbrev T_Terms : Ty := .row 81
abbrev T_Term : Ty := .st 80
def q1o : Ct := ⟨14, [.val (.st 27), .val (.st 34)], [(.bool, false)], [], none⟩
theorem enter_law34_small (args : Array Value) (w : World) : (callFunc q1o.f args).run Try.prog w = .ok (.enter q1o.f args) w := by kernel_rfl
def ann_law34_small : Ann := ⟨[0, 1, 2, 3, 4], []⟩
def q35 : Tree := (.leaf [(.and (.and (.and (.and (.and (.and (.le (.len (.fld (.tok 0) 0)) (.lit (.i 300))) (.le (.len (.fld (.tok 0) 1)) (.lit (.i 100)))) (.le (.len (.fld (.tok 0) 2)) (.lit (.i 300)))) (.le (.len (.fld (.tok 0) 3)) (.lit (.i 50)))) (.le (.len (.fld (.tok 1) 0)) (.lit (.i 50)))) (.le (.len (.fld (.tok 1) 1)) (.lit (.i 50)))) (.le (.len (.fld (.tok 1) 2)) (.lit (.i 50))))])
set_option maxRecDepth 100000 in
theorem code_law34_small : ∀ cd, Try.f14.body = some cd → treeOf Try.prog [] ann_law34_small q1o Try.f14 cd = q35 := by
  intro cd h
  injection h with h
  subst h
  kernel_rfl
theorem fok_law34_small {g : List D → Option (List D)}  (h : ∀ ds outs, WfA q1o.ars ds → g ds = some outs → q35.go (tblS []) (fun o => o = outs) ds fun _ _ => False) : FOk q1o g :=
  q0a ann_law34_small Try.f14 _ .nil rfl rfl enter_law34_small (by decide) fun ds outs hw hg => by rw [code_law34_small  _ rfl]; exact h ds outs hw hg

def q0y : Ct := ⟨11, [.val (.int .i64), .val (.int .i64)], [(.st 30, false)], [], none⟩
theorem enter_law34_cell (args : Array Value) (w : World) : (callFunc q0y.f args).run Try.prog w = .ok (.enter q0y.f args) w := by kernel_rfl
def ann_law34_cell : Ann := ⟨[0, 1, 4], []⟩
def q3c : Tree := (.leaf [(.mk [(.tok 0), (.tok 1)])])
set_option maxRecDepth 100000 in
theorem code_law34_cell : ∀ cd, Try.f11.body = some cd → treeOf Try.prog [] ann_law34_cell q0y Try.f11 cd = q3c := by
  intro cd h
  injection h with h
  subst h
  kernel_rfl
theorem fok_law34_cell {g : List D → Option (List D)}  (h : ∀ ds outs, WfA q0y.ars ds → g ds = some outs → q3c.go (tblS []) (fun o => o = outs) ds fun _ _ => False) : FOk q0y g :=
  q0a ann_law34_cell Try.f11 _ .nil rfl rfl enter_law34_cell (by decide) fun ds outs hw hg => by rw [code_law34_cell  _ rfl]; exact h ds outs hw hg

def q1s : Ct := ⟨10, [], [(.st 27, true)], [], none⟩
theorem enter_law34_six (args : Array Value) (w : World) : (callFunc q1s.f args).run Try.prog w = .ok (.enter q1s.f args) w := by kernel_rfl
def ann_law34_six : Ann := ⟨[0], []⟩
def q3q : Tree := (.need [(.ok 0 [(.lit (.i 1)), (.lit (.i 9))]), (.ok 0 [(.lit (.i 4)), (.lit (.i 0))]), (.ok 0 [(.lit (.i 1)), (.lit (.i 7))]), (.ok 0 [(.lit (.i 0)), (.lit (.i 4))]), (.ok 0 [(.lit (.i 0)), (.lit (.i 4))]), (.ok 0 [(.lit (.i 0)), (.lit (.i 5))])] (.leaf [(.set (.set (.set (.lit (.a [(.r []), (.r []), (.r []), (.r []), (.i 0), (.i 0)])) 0 (.row [(.call 0 0 [(.lit (.i 1)), (.lit (.i 9))]), (.call 0 0 [(.lit (.i 4)), (.lit (.i 0))]), (.call 0 0 [(.lit (.i 1)), (.lit (.i 7))]), (.call 0 0 [(.lit (.i 0)), (.lit (.i 4))]), (.call 0 0 [(.lit (.i 0)), (.lit (.i 4))]), (.call 0 0 [(.lit (.i 0)), (.lit (.i 5))])])) 1 (.row [(.mk [(.lit (.s ⟨#[102]⟩)), (.lit (.i 2))])])) 5 (.lit (.i 10)))]))
set_option maxRecDepth 100000 in
theorem code_law34_six (g0 : List D → Option (List D)) : ∀ cd, Try.f10.body = some cd → treeOf Try.prog [(q0y, g0)] ann_law34_six q1s Try.f10 cd = q3q := by
  intro cd h
  injection h with h
  subst h
  kernel_rfl
theorem fok_law34_six {g0 : List D → Option (List D)} {g : List D → Option (List D)} (h0 : FOk q0y g0) (h : ∀ ds outs, WfA q1s.ars ds → g ds = some outs → q3q.go (tblS [(q0y, g0)]) (fun o => o = outs) ds fun _ _ => False) : FOk q1s g :=
  q0a ann_law34_six Try.f10 _ (.cons h0 .nil) rfl rfl enter_law34_six (by decide) fun ds outs hw hg => by rw [code_law34_six g0 _ rfl]; exact h ds outs hw hg

def q0e : Ct := ⟨43, [.val (.row 51)], [(.bool, false)], [], none⟩
theorem q42 (args : Array Value) (w : World) : (callFunc q0e.f args).run Try.prog w = .ok (.enter q0e.f args) w := by kernel_rfl
def q2s : Ann := ⟨[0, 2, 3, 5, 8, 12, 13, 14, 15, 36], [(5, ⟨[(2, .bool, false), (14, .int .i64, false), (3, .map 51 4, false)], [], [15, 16, 17, 5, 18, 19, 20, 21, 22, 23, 24, 25, 26, 27, 28, 29, 30, 31, 32, 33, 34, 35, 36, 37, 38, 39, 11], []⟩)]⟩
def q1v : Tree := (.br (.lt (.lit (.i 1048576)) (.len (.tok 0))) (.leaf [(.lit (.b .false))]) (.loop 5 1 [(.lit (.b .false)), (.lit (.i 0)), (.lit (.mp []))] (.br (.lt (.tok 2) (.len (.tok 0))) (.need [(.le (.lit (.i 0)) (.tok 2)), (.lt (.tok 2) (.len (.tok 0)))] (.br (.or (.or (.or (.lt (.lit (.i 100)) (.slen (.fld (.get (.tok 0) (.tok 2)) 0))) (.lt (.fld (.get (.tok 0) (.tok 2)) 1) (.lit (.i 0)))) (.lt (.lit (.i 8)) (.fld (.get (.tok 0) (.tok 2)) 1))) (.fn 0 [(.tok 3), (.get (.tok 0) (.tok 2)), (.lit (.b .false))])) (.leaf [(.lit (.b .false))]) (.need [(.rng .i64 (.add (.tok 2) (.lit (.i 1))))] (.back 5 [(.tok 1), (.add (.tok 2) (.lit (.i 1))), (.fn 2 [(.tok 3), (.get (.tok 0) (.tok 2)), (.lit (.b .true))])])))) (.leaf [(.lit (.b .true))]))))
set_option maxRecDepth 100000 in
theorem code_cells_validSymbols : ∀ cd, Try.f43.body = some cd → treeOf Try.prog [] q2s q0e Try.f43 cd = q1v := by
  intro cd h
  injection h with h
  subst h
  kernel_rfl
theorem q2q {g : List D → Option (List D)}  (h : ∀ ds outs, WfA q0e.ars ds → g ds = some outs → q1v.go (tblS []) (fun o => o = outs) ds fun _ _ => False) : FOk q0e g :=
  q0a q2s Try.f43 _ .nil rfl rfl q42 (by decide) fun ds outs hw hg => by rw [code_cells_validSymbols  _ rfl]; exact h ds outs hw hg

def q0f : Ct := ⟨56, [.val (.st 27), .val (.int .i64)], [(.int .i64, false)], [], none⟩
theorem enter_cells_arity (args : Array Value) (w : World) : (callFunc q0f.f args).run Try.prog w = .ok (.enter q0f.f args) w := by kernel_rfl
def ann_cells_arity : Ann := ⟨[0, 1, 2, 4, 13], []⟩
def q28 : Tree := (.br (.or (.lt (.tok 1) (.lit (.i 0))) (.le (.len (.fld (.tok 0) 1)) (.tok 1))) (.leaf [(.lit (.i (-1)))]) (.need [(.le (.lit (.i 0)) (.tok 1)), (.lt (.tok 1) (.len (.fld (.tok 0) 1)))] (.leaf [(.fld (.get (.fld (.tok 0) 1) (.tok 1)) 1)])))
set_option maxRecDepth 100000 in
theorem code_cells_arity : ∀ cd, Try.f56.body = some cd → treeOf Try.prog [] ann_cells_arity q0f Try.f56 cd = q28 := by
  intro cd h
  injection h with h
  subst h
  kernel_rfl
theorem fok_cells_arity {g : List D → Option (List D)}  (h : ∀ ds outs, WfA q0f.ars ds → g ds = some outs → q28.go (tblS []) (fun o => o = outs) ds fun _ _ => False) : FOk q0f g :=
  q0a ann_cells_arity Try.f56 _ .nil rfl rfl enter_cells_arity (by decide) fun ds outs hw hg => by rw [code_cells_arity  _ rfl]; exact h ds outs hw hg

def q09 : Ct := ⟨57, [.val (.st 27), .val (.int .i64)], [(.int .i64, false)], [], none⟩
theorem enter_cells_tag (args : Array Value) (w : World) : (callFunc q09.f args).run Try.prog w = .ok (.enter q09.f args) w := by kernel_rfl
def ann_cells_tag : Ann := ⟨[0, 1, 2, 4, 13], []⟩
def q2g : Tree := (.br (.or (.lt (.tok 1) (.lit (.i 0))) (.le (.len (.fld (.tok 0) 0)) (.tok 1))) (.leaf [(.lit (.i (-1)))]) (.need [(.le (.lit (.i 0)) (.tok 1)), (.lt (.tok 1) (.len (.fld (.tok 0) 0)))] (.leaf [(.fld (.get (.fld (.tok 0) 0) (.tok 1)) 0)])))
set_option maxRecDepth 100000 in
theorem code_cells_tag : ∀ cd, Try.f57.body = some cd → treeOf Try.prog [] ann_cells_tag q09 Try.f57 cd = q2g := by
  intro cd h
  injection h with h
  subst h
  kernel_rfl
theorem fok_cells_tag {g : List D → Option (List D)}  (h : ∀ ds outs, WfA q09.ars ds → g ds = some outs → q2g.go (tblS []) (fun o => o = outs) ds fun _ _ => False) : FOk q09 g :=
  q0a ann_cells_tag Try.f57 _ .nil rfl rfl enter_cells_tag (by decide) fun ds outs hw hg => by rw [code_cells_tag  _ rfl]; exact h ds outs hw hg

def q0k : Ct := ⟨66, [.val (.st 27), .val (.int .i64)], [(.bool, false)], [], none⟩
theorem enter_cells_group (args : Array Value) (w : World) : (callFunc q0k.f args).run Try.prog w = .ok (.enter q0k.f args) w := by kernel_rfl
def ann_cells_group : Ann := ⟨[0, 1, 2, 4, 5, 6, 11], []⟩
def q29 : Tree := (.need [(.rng .i64 (.add (.tok 1) (.lit (.i 1)))), (.ok 0 [(.tok 0), (.add (.tok 1) (.lit (.i 1)))])] (.br (.not (.eq (.call 0 0 [(.tok 0), (.add (.tok 1) (.lit (.i 1)))]) (.lit (.i 1)))) (.leaf [(.lit (.b .false))]) (.need [(.ok 0 [(.tok 0), (.add (.tok 1) (.lit (.i 2)))]), (.rng .i64 (.add (.tok 1) (.lit (.i 2)))), (.le (.lit (.i 0)) (.add (.tok 1) (.lit (.i 1)))), (.lt (.add (.tok 1) (.lit (.i 1))) (.len (.fld (.tok 0) 0))), (.rng .i64 (.add (.tok 1) (.lit (.i 1))))] (.leaf [(.and (.and (.and (.and (.le (.lit (.i 1)) (.fld (.get (.fld (.tok 0) 0) (.add (.tok 1) (.lit (.i 1)))) 1)) (.le (.fld (.get (.fld (.tok 0) 0) (.add (.tok 1) (.lit (.i 1)))) 1) (.fld (.tok 0) 4))) (.le (.lit (.i 0)) (.call 0 0 [(.tok 0), (.add (.tok 1) (.lit (.i 2)))]))) (.not (.eq (.call 0 0 [(.tok 0), (.add (.tok 1) (.lit (.i 2)))]) (.lit (.i 4))))) (.not (.eq (.call 0 0 [(.tok 0), (.add (.tok 1) (.lit (.i 2)))]) (.lit (.i 5)))))]))))
set_option maxRecDepth 100000 in
theorem code_cells_group (g0 : List D → Option (List D)) : ∀ cd, Try.f66.body = some cd → treeOf Try.prog [(q09, g0)] ann_cells_group q0k Try.f66 cd = q29 := by
  intro cd h
  injection h with h
  subst h
  kernel_rfl
theorem fok_cells_group {g0 : List D → Option (List D)} {g : List D → Option (List D)} (h0 : FOk q09 g0) (h : ∀ ds outs, WfA q0k.ars ds → g ds = some outs → q29.go (tblS [(q09, g0)]) (fun o => o = outs) ds fun _ _ => False) : FOk q0k g :=
  q0a ann_cells_group Try.f66 _ (.cons h0 .nil) rfl rfl enter_cells_group (by decide) fun ds outs hw hg => by rw [code_cells_group g0 _ rfl]; exact h ds outs hw hg

def q05 : Ct := ⟨30, [.val (.st 27), .val (.st 30)], [(.bool, false)], [], none⟩
theorem enter_cells_ValidCell (args : Array Value) (w : World) : (callFunc q05.f args).run Try.prog w = .ok (.enter q05.f args) w := by kernel_rfl
def q3m : Ann := ⟨[0, 1, 2, 3, 4, 5, 7, 8, 10, 17, 29, 36], []⟩
def q21 : Tree := (.br (.eq (.fld (.tok 1) 0) (.lit (.i 1))) (.leaf [(.lit (.b .true))]) (.br (.eq (.fld (.tok 1) 0) (.lit (.i 2))) (.need [(.ok 0 [(.tok 0), (.fld (.tok 1) 1)])] (.leaf [(.eq (.call 0 0 [(.tok 0), (.fld (.tok 1) 1)]) (.lit (.i 0)))])) (.br (.eq (.fld (.tok 1) 0) (.lit (.i 0))) (.need [(.ok 1 [(.tok 0), (.fld (.tok 1) 1)])] (.leaf [(.and (.le (.lit (.i 0)) (.call 1 0 [(.tok 0), (.fld (.tok 1) 1)])) (.not (.eq (.call 1 0 [(.tok 0), (.fld (.tok 1) 1)]) (.lit (.i 4)))))])) (.br (.eq (.fld (.tok 1) 0) (.lit (.i 3))) (.need [(.ok 1 [(.tok 0), (.fld (.tok 1) 1)])] (.leaf [(.eq (.call 1 0 [(.tok 0), (.fld (.tok 1) 1)]) (.lit (.i 4)))])) (.br (.eq (.fld (.tok 1) 0) (.lit (.i 5))) (.need [(.ok 1 [(.tok 0), (.fld (.tok 1) 1)])] (.leaf [(.eq (.call 1 0 [(.tok 0), (.fld (.tok 1) 1)]) (.lit (.i 5)))])) (.leaf [(.lit (.b .false))]))))))
set_option maxRecDepth 100000 in
theorem code_cells_ValidCell (g0 g1 : List D → Option (List D)) : ∀ cd, Try.f30.body = some cd → treeOf Try.prog [(q0f, g0), (q09, g1)] q3m q05 Try.f30 cd = q21 := by
  intro cd h
  injection h with h
  subst h
  kernel_rfl
theorem q3n {g0 g1 : List D → Option (List D)} {g : List D → Option (List D)} (h0 : FOk q0f g0) (h1 : FOk q09 g1) (h : ∀ ds outs, WfA q05.ars ds → g ds = some outs → q21.go (tblS [(q0f, g0), (q09, g1)]) (fun o => o = outs) ds fun _ _ => False) : FOk q05 g :=
  q0a q3m Try.f30 _ (.cons h0 (.cons h1 .nil)) rfl rfl enter_cells_ValidCell (by decide) fun ds outs hw hg => by rw [code_cells_ValidCell g0 g1 _ rfl]; exact h ds outs hw hg

def q13 : Ct := ⟨44, [.val (.st 27), .val (.int .i64)], [(.bool, false)], [], none⟩
theorem enter_cells_fits (args : Array Value) (w : World) : (callFunc q13.f args).run Try.prog w = .ok (.enter q13.f args) w := by kernel_rfl
def ann_cells_fits : Ann := ⟨[0, 1, 2, 4, 5, 6, 7, 8, 15, 16, 23, 30, 41, 42], [(8, ⟨[(4, .bool, false), (7, .int .i64, false)], [], [26, 27, 28, 29, 30, 33, 34, 35, 8, 36, 37, 38, 39, 40, 41, 31, 32], []⟩)]⟩
def q2e : Tree := (.need [(.le (.lit (.i 0)) (.tok 1)), (.lt (.tok 1) (.len (.fld (.tok 0) 0)))] (.br (.eq (.fld (.get (.fld (.tok 0) 0) (.tok 1)) 0) (.lit (.i 4))) (.need [(.ok 0 [(.tok 0), (.fld (.get (.fld (.tok 0) 0) (.tok 1)) 1)])] (.br (.lt (.call 0 0 [(.tok 0), (.fld (.get (.fld (.tok 0) 0) (.tok 1)) 1)]) (.lit (.i 1))) (.leaf [(.lit (.b .false))]) (.need [(.rng .i64 (.add (.tok 1) (.lit (.i 1))))] (.loop 8 2 [(.lit (.b .false)), (.add (.tok 1) (.lit (.i 1)))] (.need [(.rng .i64 (.add (.tok 1) (.call 0 0 [(.tok 0), (.fld (.get (.fld (.tok 0) 0) (.tok 1)) 1)])))] (.br (.le (.tok 3) (.add (.tok 1) (.call 0 0 [(.tok 0), (.fld (.get (.fld (.tok 0) 0) (.tok 1)) 1)]))) (.need [(.ok 1 [(.tok 0), (.tok 3)])] (.br (.or (.lt (.call 1 0 [(.tok 0), (.tok 3)]) (.lit (.i 0))) (.eq (.call 1 0 [(.tok 0), (.tok 3)]) (.lit (.i 4)))) (.leaf [(.lit (.b .false))]) (.need [(.rng .i64 (.add (.tok 3) (.lit (.i 1))))] (.back 8 [(.tok 2), (.add (.tok 3) (.lit (.i 1)))])))) (.leaf [(.lit (.b .true))]))))))) (.br (.eq (.fld (.get (.fld (.tok 0) 0) (.tok 1)) 0) (.lit (.i 5))) (.need [(.imp (.eq (.fld (.get (.fld (.tok 0) 0) (.tok 1)) 1) (.tok 1)) (.ok 2 [(.tok 0), (.tok 1)]))] (.leaf [(.and (.eq (.fld (.get (.fld (.tok 0) 0) (.tok 1)) 1) (.tok 1)) (.call 2 0 [(.tok 0), (.tok 1)]))])) (.need [(.ok 3 [(.tok 0), (.get (.fld (.tok 0) 0) (.tok 1))])] (.leaf [(.call 3 0 [(.tok 0), (.get (.fld (.tok 0) 0) (.tok 1))])])))))
set_option maxRecDepth 100000 in
theorem code_cells_fits (g0 g1 g2 g3 : List D → Option (List D)) : ∀ cd, Try.f44.body = some cd → treeOf Try.prog [(q0f, g0), (q09, g1), (q0k, g2), (q05, g3)] ann_cells_fits q13 Try.f44 cd = q2e := by
  intro cd h
  injection h with h
  subst h
  kernel_rfl
theorem fok_cells_fits {g0 g1 g2 g3 : List D → Option (List D)} {g : List D → Option (List D)} (h0 : FOk q0f g0) (h1 : FOk q09 g1) (h2 : FOk q0k g2) (h3 : FOk q05 g3) (h : ∀ ds outs, WfA q13.ars ds → g ds = some outs → q2e.go (tblS [(q0f, g0), (q09, g1), (q0k, g2), (q05, g3)]) (fun o => o = outs) ds fun _ _ => False) : FOk q13 g :=
  q0a ann_cells_fits Try.f44 _ (.cons h0 (.cons h1 (.cons h2 (.cons h3 .nil)))) rfl rfl enter_cells_fits (by decide) fun ds outs hw hg => by rw [code_cells_fits g0 g1 g2 g3 _ rfl]; exact h ds outs hw hg

def q0p : Ct := ⟨45, [.val (.st 27)], [(.bool, false)], [], none⟩
theorem enter_cells_acyclic (args : Array Value) (w : World) : (callFunc q0p.f args).run Try.prog w = .ok (.enter q0p.f args) w := by kernel_rfl
def ann_cells_acyclic : Ann := ⟨[0, 1, 2, 3, 4, 5, 6, 7, 9, 16, 17, 18, 25, 46, 53, 54, 55, 56, 57], [(3, ⟨[(2, .bool, false), (17, .int .i64, false), (3, .row 3, false)], [], [18, 19, 4, 5, 20, 6, 21, 22, 23, 24, 25, 26, 27, 28, 29, 30, 31, 32, 33, 34, 35, 36, 37, 7, 38, 39, 40, 41, 42, 43, 44, 45, 46, 47, 48, 49, 50, 51, 52, 53, 54, 55, 56, 57, 58, 59, 9, 60, 61, 62, 63, 64, 13], []⟩),
  (7, ⟨[(5, .row 3, false), (6, .int .i64, false), (2, .bool, false), (3, .row 3, false)], [], [21, 22, 23, 24, 25, 26, 27, 28, 29, 30, 31, 32, 33, 34, 35, 36, 37, 7, 38, 39, 40, 41, 42, 43, 44, 45, 46, 47, 48, 49, 50, 51, 52, 53, 13, 60], []⟩),
  (16, ⟨[(56, .int .i64, false), (3, .row 3, false)], [], [57, 58, 59, 9, 60, 61, 62, 63, 13, 21, 26, 49], []⟩)]⟩
def q23 : Tree := (.need [(.le (.lit (.i 0)) (.len (.fld (.tok 0) 0))), (.le (.len (.fld (.tok 0) 0)) (.lit (.i 16777216)))] (.loop 3 1 [(.lit (.b .false)), (.lit (.i 0)), (.rep (.len (.fld (.tok 0) 0)) (.lit (.i 0)))] (.br (.lt (.tok 2) (.len (.fld (.tok 0) 0))) (.loop 7 4 [(.lit (.r [])), (.tok 2), (.tok 1), (.tok 3)] (.need [(.le (.lit (.i 0)) (.tok 5)), (.lt (.tok 5) (.len (.tok 7)))] (.br (.eq (.get (.tok 7) (.tok 5)) (.lit (.i 0))) (.need [(.le (.lit (.i 0)) (.tok 5)), (.lt (.tok 5) (.len (.tok 7)))] (.need [(.le (.add (.len (.tok 4)) (.lit (.i 1))) (.lit (.i 17592186043904)))] (.need [(.le (.lit (.i 0)) (.tok 5)), (.lt (.tok 5) (.len (.fld (.tok 0) 0)))] (.br (.or (.not (.eq (.fld (.get (.fld (.tok 0) 0) (.tok 5)) 0) (.lit (.i 0)))) (.eq (.fld (.get (.fld (.tok 0) 0) (.tok 5)) 1) (.tok 5))) (.loop 16 8 [(.lit (.i 0)), (.put (.tok 7) (.tok 5) (.lit (.i 1)))] (.br (.lt (.tok 8) (.len (.app (.tok 4) (.row [(.tok 5)])))) (.need [(.le (.lit (.i 0)) (.tok 8)), (.lt (.tok 8) (.len (.app (.tok 4) (.row [(.tok 5)]))))] (.need [(.le (.lit (.i 0)) (.get (.app (.tok 4) (.row [(.tok 5)])) (.tok 8))), (.lt (.get (.app (.tok 4) (.row [(.tok 5)])) (.tok 8)) (.len (.tok 9)))] (.need [(.rng .i64 (.add (.tok 8) (.lit (.i 1))))] (.back 16 [(.add (.tok 8) (.lit (.i 1))), (.put (.tok 9) (.get (.app (.tok 4) (.row [(.tok 5)])) (.tok 8)) (.lit (.i 2)))])))) (.need [(.rng .i64 (.add (.tok 2) (.lit (.i 1))))] (.back 3 [(.tok 6), (.add (.tok 2) (.lit (.i 1))), (.tok 9)])))) (.need [(.le (.lit (.i 0)) (.fld (.get (.fld (.tok 0) 0) (.tok 5)) 1)), (.lt (.fld (.get (.fld (.tok 0) 0) (.tok 5)) 1) (.len (.put (.tok 7) (.tok 5) (.lit (.i 1)))))] (.br (.eq (.get (.put (.tok 7) (.tok 5) (.lit (.i 1))) (.fld (.get (.fld (.tok 0) 0) (.tok 5)) 1)) (.lit (.i 1))) (.leaf [(.lit (.b .false))]) (.back 7 [(.app (.tok 4) (.row [(.tok 5)])), (.fld (.get (.fld (.tok 0) 0) (.tok 5)) 1), (.tok 6), (.put (.tok 7) (.tok 5) (.lit (.i 1)))]))))))) (.loop 16 8 [(.lit (.i 0)), (.tok 7)] (.br (.lt (.tok 8) (.len (.tok 4))) (.need [(.le (.lit (.i 0)) (.tok 8)), (.lt (.tok 8) (.len (.tok 4)))] (.need [(.le (.lit (.i 0)) (.get (.tok 4) (.tok 8))), (.lt (.get (.tok 4) (.tok 8)) (.len (.tok 9)))] (.need [(.rng .i64 (.add (.tok 8) (.lit (.i 1))))] (.back 16 [(.add (.tok 8) (.lit (.i 1))), (.put (.tok 9) (.get (.tok 4) (.tok 8)) (.lit (.i 2)))])))) (.need [(.rng .i64 (.add (.tok 2) (.lit (.i 1))))] (.back 3 [(.tok 6), (.add (.tok 2) (.lit (.i 1))), (.tok 9)]))))))) (.leaf [(.lit (.b .true))]))))
set_option maxRecDepth 100000 in
theorem code_cells_acyclic : ∀ cd, Try.f45.body = some cd → treeOf Try.prog [] ann_cells_acyclic q0p Try.f45 cd = q23 := by
  intro cd h
  injection h with h
  subst h
  kernel_rfl
theorem fok_cells_acyclic {g : List D → Option (List D)}  (h : ∀ ds outs, WfA q0p.ars ds → g ds = some outs → q23.go (tblS []) (fun o => o = outs) ds fun _ _ => False) : FOk q0p g :=
  q0a ann_cells_acyclic Try.f45 _ .nil rfl rfl enter_cells_acyclic (by decide) fun ds outs hw hg => by rw [code_cells_acyclic  _ rfl]; exact h ds outs hw hg

def q0i : Ct := ⟨46, [.val (.st 27), .val (.st 36)], [(.bool, false)], [], none⟩
theorem enter_cells_validUndo (args : Array Value) (w : World) : (callFunc q0i.f args).run Try.prog w = .ok (.enter q0i.f args) w := by kernel_rfl
def q3o : Ann := ⟨[0, 1, 2, 3, 4, 5, 11, 14, 15, 22, 41], []⟩
def q20 : Tree := (.need [(.ok 0 [(.tok 0), (.fld (.tok 1) 0)])] (.br (.lt (.call 0 0 [(.tok 0), (.fld (.tok 1) 0)]) (.lit (.i 0))) (.leaf [(.lit (.b .false))]) (.br (.eq (.fld (.fld (.tok 1) 1) 0) (.lit (.i 0))) (.leaf [(.eq (.fld (.fld (.tok 1) 1) 1) (.fld (.tok 1) 0))]) (.br (.eq (.fld (.fld (.tok 1) 1) 0) (.lit (.i 5))) (.need [(.imp (.eq (.fld (.fld (.tok 1) 1) 1) (.fld (.tok 1) 0)) (.ok 1 [(.tok 0), (.fld (.tok 1) 0)])), (.imp (.and (.eq (.fld (.fld (.tok 1) 1) 1) (.fld (.tok 1) 0)) (.call 1 0 [(.tok 0), (.fld (.tok 1) 0)])) (.rng .i64 (.sub (.fld (.tok 1) 0) (.lit (.i 1))))), (.imp (.and (.eq (.fld (.fld (.tok 1) 1) 1) (.fld (.tok 1) 0)) (.call 1 0 [(.tok 0), (.fld (.tok 1) 0)])) (.ok 0 [(.tok 0), (.sub (.fld (.tok 1) 0) (.lit (.i 1)))]))] (.leaf [(.and (.and (.eq (.fld (.fld (.tok 1) 1) 1) (.fld (.tok 1) 0)) (.call 1 0 [(.tok 0), (.fld (.tok 1) 0)])) (.not (.eq (.call 0 0 [(.tok 0), (.sub (.fld (.tok 1) 0) (.lit (.i 1)))]) (.lit (.i 5)))))])) (.br (.eq (.fld (.fld (.tok 1) 1) 0) (.lit (.i 1))) (.br (.eq (.fld (.fld (.tok 1) 1) 0) (.lit (.i 1))) (.need [(.ok 2 [(.tok 0), (.fld (.tok 1) 1)])] (.leaf [(.call 2 0 [(.tok 0), (.fld (.tok 1) 1)])])) (.leaf [(.lit (.b .false))])) (.br (.eq (.fld (.fld (.tok 1) 1) 0) (.lit (.i 2))) (.br (.eq (.fld (.fld (.tok 1) 1) 0) (.lit (.i 2))) (.need [(.ok 2 [(.tok 0), (.fld (.tok 1) 1)])] (.leaf [(.call 2 0 [(.tok 0), (.fld (.tok 1) 1)])])) (.leaf [(.lit (.b .false))])) (.br (.eq (.fld (.fld (.tok 1) 1) 0) (.lit (.i 3))) (.need [(.ok 2 [(.tok 0), (.fld (.tok 1) 1)])] (.leaf [(.call 2 0 [(.tok 0), (.fld (.tok 1) 1)])])) (.leaf [(.lit (.b .false))]))))))))
set_option maxRecDepth 100000 in
theorem code_cells_validUndo (g0 g1 g2 : List D → Option (List D)) : ∀ cd, Try.f46.body = some cd → treeOf Try.prog [(q09, g0), (q0k, g1), (q05, g2)] q3o q0i Try.f46 cd = q20 := by
  intro cd h
  injection h with h
  subst h
  kernel_rfl
theorem q3l {g0 g1 g2 : List D → Option (List D)} {g : List D → Option (List D)} (h0 : FOk q09 g0) (h1 : FOk q0k g1) (h2 : FOk q05 g2) (h : ∀ ds outs, WfA q0i.ars ds → g ds = some outs → q20.go (tblS [(q09, g0), (q0k, g1), (q05, g2)]) (fun o => o = outs) ds fun _ _ => False) : FOk q0i g :=
  q0a q3o Try.f46 _ (.cons h0 (.cons h1 (.cons h2 .nil))) rfl rfl enter_cells_validUndo (by decide) fun ds outs hw hg => by rw [code_cells_validUndo g0 g1 g2 _ rfl]; exact h ds outs hw hg

def q0n : Ct := ⟨26, [.val (.st 27)], [(.bool, false)], [], none⟩
theorem enter_cells_Valid (args : Array Value) (w : World) : (callFunc q0n.f args).run Try.prog w = .ok (.enter q0n.f args) w := by kernel_rfl
def ann_cells_Valid : Ann := ⟨[0, 1, 2, 3, 5, 7, 34, 37, 38, 39, 44, 48, 50, 51, 52, 53, 59, 62, 63, 64, 65, 91], [(4, ⟨[(2, .bool, false), (38, .int .i64, false)], [], [39, 40, 3, 41, 42, 43, 44, 45], []⟩),
  (12, ⟨[(2, .bool, false), (52, .int .i64, false)], [], [53, 54, 55, 5, 56, 57, 58, 59, 60], []⟩),
  (18, ⟨[(2, .bool, false), (64, .int .i64, false)], [], [65, 66, 67, 7, 68, 69, 70, 71, 72, 73, 74, 75, 76, 77, 78, 79, 80, 81, 82, 83, 84, 85, 86, 87, 88, 89, 90, 91, 92], []⟩)]⟩
def q27 : Tree := (.need [(.imp (.not (.or (.or (.or (.lt (.fld (.tok 0) 5) (.lit (.i 1))) (.lt (.lit (.i 1048576)) (.fld (.tok 0) 5))) (.lt (.fld (.tok 0) 5) (.len (.fld (.tok 0) 0)))) (.lt (.fld (.tok 0) 4) (.lit (.i 0))))) (.ok 0 [(.fld (.tok 0) 1)]))] (.br (.or (.or (.or (.or (.lt (.fld (.tok 0) 5) (.lit (.i 1))) (.lt (.lit (.i 1048576)) (.fld (.tok 0) 5))) (.lt (.fld (.tok 0) 5) (.len (.fld (.tok 0) 0)))) (.lt (.fld (.tok 0) 4) (.lit (.i 0)))) (.not (.call 0 0 [(.fld (.tok 0) 1)]))) (.leaf [(.lit (.b .false))]) (.loop 4 1 [(.lit (.b .false)), (.lit (.i 0))] (.br (.lt (.tok 2) (.len (.fld (.tok 0) 0))) (.need [(.ok 1 [(.tok 0), (.tok 2)])] (.br (.not (.call 1 0 [(.tok 0), (.tok 2)])) (.leaf [(.lit (.b .false))]) (.need [(.rng .i64 (.add (.tok 2) (.lit (.i 1))))] (.back 4 [(.tok 1), (.add (.tok 2) (.lit (.i 1)))])))) (.need [(.ok 2 [(.tok 0)])] (.br (.not (.call 2 0 [(.tok 0)])) (.leaf [(.lit (.b .false))]) (.loop 12 3 [(.tok 1), (.lit (.i 0))] (.br (.lt (.tok 4) (.len (.fld (.tok 0) 2))) (.need [(.le (.lit (.i 0)) (.tok 4)), (.lt (.tok 4) (.len (.fld (.tok 0) 2)))] (.need [(.ok 3 [(.tok 0), (.get (.fld (.tok 0) 2) (.tok 4))])] (.br (.not (.call 3 0 [(.tok 0), (.get (.fld (.tok 0) 2) (.tok 4))])) (.leaf [(.lit (.b .false))]) (.need [(.rng .i64 (.add (.tok 4) (.lit (.i 1))))] (.back 12 [(.tok 3), (.add (.tok 4) (.lit (.i 1)))]))))) (.loop 18 5 [(.tok 3), (.lit (.i 0))] (.br (.lt (.tok 6) (.len (.fld (.tok 0) 3))) (.need [(.le (.lit (.i 0)) (.tok 6)), (.lt (.tok 6) (.len (.fld (.tok 0) 3)))] (.need [(.imp (.not (.or (.lt (.fld (.get (.fld (.tok 0) 3) (.tok 6)) 0) (.lit (.i 1))) (.lt (.fld (.tok 0) 4) (.fld (.get (.fld (.tok 0) 3) (.tok 6)) 0)))) (.ok 4 [(.tok 0), (.fld (.get (.fld (.tok 0) 3) (.tok 6)) 1)])), (.imp (.not (.or (.or (.lt (.fld (.get (.fld (.tok 0) 3) (.tok 6)) 0) (.lit (.i 1))) (.lt (.fld (.tok 0) 4) (.fld (.get (.fld (.tok 0) 3) (.tok 6)) 0))) (.not (.call 4 0 [(.tok 0), (.fld (.get (.fld (.tok 0) 3) (.tok 6)) 1)])))) (.ok 4 [(.tok 0), (.fld (.get (.fld (.tok 0) 3) (.tok 6)) 2)]))] (.br (.or (.or (.or (.lt (.fld (.get (.fld (.tok 0) 3) (.tok 6)) 0) (.lit (.i 1))) (.lt (.fld (.tok 0) 4) (.fld (.get (.fld (.tok 0) 3) (.tok 6)) 0))) (.not (.call 4 0 [(.tok 0), (.fld (.get (.fld (.tok 0) 3) (.tok 6)) 1)]))) (.not (.call 4 0 [(.tok 0), (.fld (.get (.fld (.tok 0) 3) (.tok 6)) 2)]))) (.leaf [(.lit (.b .false))]) (.need [(.rng .i64 (.add (.tok 6) (.lit (.i 1))))] (.back 18 [(.tok 5), (.add (.tok 6) (.lit (.i 1)))]))))) (.leaf [(.lit (.b .true))])))))))))))
set_option maxRecDepth 100000 in
theorem code_cells_Valid (g0 g1 g2 g3 g4 : List D → Option (List D)) : ∀ cd, Try.f26.body = some cd → treeOf Try.prog [(q0e, g0), (q13, g1), (q0p, g2), (q0i, g3), (q05, g4)] ann_cells_Valid q0n Try.f26 cd = q27 := by
  intro cd h
  injection h with h
  subst h
  kernel_rfl
theorem fok_cells_Valid {g0 g1 g2 g3 g4 : List D → Option (List D)} {g : List D → Option (List D)} (h0 : FOk q0e g0) (h1 : FOk q13 g1) (h2 : FOk q0p g2) (h3 : FOk q0i g3) (h4 : FOk q05 g4) (h : ∀ ds outs, WfA q0n.ars ds → g ds = some outs → q27.go (tblS [(q0e, g0), (q13, g1), (q0p, g2), (q0i, g3), (q05, g4)]) (fun o => o = outs) ds fun _ _ => False) : FOk q0n g :=
  q0a ann_cells_Valid Try.f26 _ (.cons h0 (.cons h1 (.cons h2 (.cons h3 (.cons h4 .nil))))) rfl rfl enter_cells_Valid (by decide) fun ds outs hw hg => by rw [code_cells_Valid g0 g1 g2 g3 g4 _ rfl]; exact h ds outs hw hg

def q0o : Ct := ⟨19, [.val (.st 27), .val (.st 34)], [(.bool, false)], [], none⟩
theorem enter_gc_Valid (args : Array Value) (w : World) : (callFunc q0o.f args).run Try.prog w = .ok (.enter q0o.f args) w := by kernel_rfl
def ann_gc_Valid : Ann := ⟨[0, 1, 2, 3, 4, 6, 8, 10, 13, 15, 16, 17, 18, 24, 27, 28, 29, 30, 41, 44, 45, 46, 47, 58], [(4, ⟨[(4, .bool, false), (17, .int .i64, false)], [], [18, 19, 20, 6, 21, 22, 23, 24, 25], []⟩),
  (10, ⟨[(4, .bool, false), (29, .int .i64, false)], [], [30, 31, 32, 8, 33, 34, 35, 36, 37, 38, 39, 40, 41, 42], []⟩),
  (16, ⟨[(4, .bool, false), (46, .int .i64, false)], [], [47, 48, 49, 10, 50, 51, 52, 53, 54, 55, 56, 57, 58, 59], []⟩)]⟩
def q2x : Tree := (.need [(.ok 0 [(.tok 0)])] (.br (.not (.call 0 0 [(.tok 0)])) (.leaf [(.lit (.b .false))]) (.loop 4 2 [(.lit (.b .false)), (.lit (.i 0))] (.br (.lt (.tok 3) (.len (.fld (.tok 1) 0))) (.need [(.le (.lit (.i 0)) (.tok 3)), (.lt (.tok 3) (.len (.fld (.tok 1) 0)))] (.need [(.ok 1 [(.tok 0), (.get (.fld (.tok 1) 0) (.tok 3))])] (.br (.not (.call 1 0 [(.tok 0), (.get (.fld (.tok 1) 0) (.tok 3))])) (.leaf [(.lit (.b .false))]) (.need [(.rng .i64 (.add (.tok 3) (.lit (.i 1))))] (.back 4 [(.tok 2), (.add (.tok 3) (.lit (.i 1)))]))))) (.loop 10 4 [(.tok 2), (.lit (.i 0))] (.br (.lt (.tok 5) (.len (.fld (.tok 1) 1))) (.need [(.le (.lit (.i 0)) (.tok 5)), (.lt (.tok 5) (.len (.fld (.tok 1) 1)))] (.br (.or (.lt (.get (.fld (.tok 1) 1) (.tok 5)) (.lit (.i 0))) (.lt (.len (.fld (.tok 0) 0)) (.get (.fld (.tok 1) 1) (.tok 5)))) (.leaf [(.lit (.b .false))]) (.need [(.rng .i64 (.add (.tok 5) (.lit (.i 1))))] (.back 10 [(.tok 4), (.add (.tok 5) (.lit (.i 1)))])))) (.loop 16 6 [(.tok 4), (.lit (.i 0))] (.br (.lt (.tok 7) (.len (.fld (.tok 1) 2))) (.need [(.le (.lit (.i 0)) (.tok 7)), (.lt (.tok 7) (.len (.fld (.tok 1) 2)))] (.br (.or (.lt (.get (.fld (.tok 1) 2) (.tok 7)) (.lit (.i 0))) (.lt (.len (.fld (.tok 0) 2)) (.get (.fld (.tok 1) 2) (.tok 7)))) (.leaf [(.lit (.b .false))]) (.need [(.rng .i64 (.add (.tok 7) (.lit (.i 1))))] (.back 16 [(.tok 6), (.add (.tok 7) (.lit (.i 1)))])))) (.leaf [(.lit (.b .true))])))))))))
set_option maxRecDepth 100000 in
theorem code_gc_Valid (g0 g1 : List D → Option (List D)) : ∀ cd, Try.f19.body = some cd → treeOf Try.prog [(q0n, g0), (q05, g1)] ann_gc_Valid q0o Try.f19 cd = q2x := by
  intro cd h
  injection h with h
  subst h
  kernel_rfl
theorem fok_gc_Valid {g0 g1 : List D → Option (List D)} {g : List D → Option (List D)} (h0 : FOk q0n g0) (h1 : FOk q05 g1) (h : ∀ ds outs, WfA q0o.ars ds → g ds = some outs → q2x.go (tblS [(q0n, g0), (q05, g1)]) (fun o => o = outs) ds fun _ _ => False) : FOk q0o g :=
  q0a ann_gc_Valid Try.f19 _ (.cons h0 (.cons h1 .nil)) rfl rfl enter_gc_Valid (by decide) fun ds outs hw hg => by rw [code_gc_Valid g0 g1 _ rfl]; exact h ds outs hw hg

def q0b : Ct := ⟨32, [.val (.row 94), .val (.int .i64)], [(.bool, false)], [], none⟩
theorem enter_gc_marks_has (args : Array Value) (w : World) : (callFunc q0b.f args).run Try.prog w = .ok (.enter q0b.f args) w := by kernel_rfl
def ann_gc_marks_has : Ann := ⟨[0, 1, 4], []⟩
def q24 : Tree := (.need [(.rng .i64 (.fn 8 [(.tok 1), (.lit (.i 6))])), (.le (.lit (.i 0)) (.fn 8 [(.tok 1), (.lit (.i 6))])), (.lt (.fn 8 [(.tok 1), (.lit (.i 6))]) (.len (.tok 0))), (.le (.lit (.i 0)) (.tok 1)), (.lit (.b .true)), (.le (.lit (.i 0)) (.fn 13 [(.tok 1), (.lit (.i 63))])), (.le (.fn 13 [(.tok 1), (.lit (.i 63))]) (.lit (.i 64))), (.rng .u64 (.fn 8 [(.get (.tok 0) (.fn 8 [(.tok 1), (.lit (.i 6))])), (.fn 13 [(.tok 1), (.lit (.i 63))])])), (.le (.lit (.i 0)) (.fn 8 [(.get (.tok 0) (.fn 8 [(.tok 1), (.lit (.i 6))])), (.fn 13 [(.tok 1), (.lit (.i 63))])])), (.lit (.b .true))] (.leaf [(.eq (.fn 13 [(.fn 8 [(.get (.tok 0) (.fn 8 [(.tok 1), (.lit (.i 6))])), (.fn 13 [(.tok 1), (.lit (.i 63))])]), (.lit (.i 1))]) (.lit (.i 1)))]))
set_option maxRecDepth 100000 in
theorem code_gc_marks_has : ∀ cd, Try.f32.body = some cd → treeOf Try.prog [] ann_gc_marks_has q0b Try.f32 cd = q24 := by
  intro cd h
  injection h with h
  subst h
  kernel_rfl
theorem fok_gc_marks_has {g : List D → Option (List D)}  (h : ∀ ds outs, WfA q0b.ars ds → g ds = some outs → q24.go (tblS []) (fun o => o = outs) ds fun _ _ => False) : FOk q0b g :=
  q0a ann_gc_marks_has Try.f32 _ .nil rfl rfl enter_gc_marks_has (by decide) fun ds outs hw hg => by rw [code_gc_marks_has  _ rfl]; exact h ds outs hw hg

def q0g : Ct := ⟨58, [.val (.int .i64), .ref (.row 94), .ref (.row 31), .rref (.st 27), .rref (.map 3 23)], [], [], none⟩
theorem enter_gc_mark_1 (args : Array Value) (w : World) : (callFunc q0g.f args).run Try.prog w = .ok (.enter q0g.f args) w := by kernel_rfl
def ann_gc_mark_1 : Ann := ⟨[0, 1, 2, 3, 4, 9], []⟩
def q2i : Tree := (.need [(.ok 0 [(.tok 1), (.tok 0)])] (.br (.not (.call 0 0 [(.tok 1), (.tok 0)])) (.need [(.le (.lit (.i 0)) (.fn 8 [(.tok 0), (.lit (.i 6))])), (.lt (.fn 8 [(.tok 0), (.lit (.i 6))]) (.len (.tok 1))), (.le (.lit (.i 0)) (.get (.tok 1) (.fn 8 [(.tok 0), (.lit (.i 6))]))), (.le (.lit (.i 0)) (.fn 15 [(.lit (.i 1)), (.fn 13 [(.tok 0), (.lit (.i 63))])])), (.le (.lit (.i 0)) (.fn 13 [(.tok 0), (.lit (.i 63))])), (.le (.fn 13 [(.tok 0), (.lit (.i 63))]) (.lit (.i 64))), (.le (.lit (.i 0)) (.tok 0)), (.lit (.b .true)), (.le (.lit (.i 0)) (.fn 8 [(.tok 0), (.lit (.i 6))])), (.lt (.fn 8 [(.tok 0), (.lit (.i 6))]) (.len (.tok 1))), (.rng .i64 (.fn 8 [(.tok 0), (.lit (.i 6))]))] (.need [(.le (.add (.len (.app (.tok 2) (.row [(.get (.fld (.tok 3) 0) (.tok 0))]))) (.len (.fn 0 [(.tok 4), (.tok 0), (.lit (.r []))]))) (.lit (.i 8796093021952))), (.le (.add (.len (.tok 2)) (.lit (.i 1))) (.lit (.i 8796093021952))), (.le (.lit (.i 0)) (.tok 0)), (.lt (.tok 0) (.len (.fld (.tok 3) 0)))] (.leaf [(.put (.tok 1) (.fn 8 [(.tok 0), (.lit (.i 6))]) (.fn 14 [(.get (.tok 1) (.fn 8 [(.tok 0), (.lit (.i 6))])), (.fn 15 [(.lit (.i 1)), (.fn 13 [(.tok 0), (.lit (.i 63))])])])), (.app (.app (.tok 2) (.row [(.get (.fld (.tok 3) 0) (.tok 0))])) (.fn 0 [(.tok 4), (.tok 0), (.lit (.r []))]))]))) (.leaf [(.tok 1), (.tok 2)])))
set_option maxRecDepth 100000 in
theorem code_gc_mark_1 (g0 : List D → Option (List D)) : ∀ cd, Try.f58.body = some cd → treeOf Try.prog [(q0b, g0)] ann_gc_mark_1 q0g Try.f58 cd = q2i := by
  intro cd h
  injection h with h
  subst h
  kernel_rfl
theorem fok_gc_mark_1 {g0 : List D → Option (List D)} {g : List D → Option (List D)} (h0 : FOk q0b g0) (h : ∀ ds outs, WfA q0g.ars ds → g ds = some outs → q2i.go (tblS [(q0b, g0)]) (fun o => o = outs) ds fun _ _ => False) : FOk q0g g :=
  q0a ann_gc_mark_1 Try.f58 _ (.cons h0 .nil) rfl rfl enter_gc_mark_1 (by decide) fun ds outs hw hg => by rw [code_gc_mark_1 g0 _ rfl]; exact h ds outs hw hg

def q18 : Ct := ⟨31, [.val (.st 27), .val (.st 34)], [(.row 94, true)], [], none⟩
theorem enter_gc_mark (args : Array Value) (w : World) : (callFunc q18.f args).run Try.prog w = .ok (.enter q18.f args) w := by kernel_rfl
def ann_gc_mark : Ann := ⟨[0, 1, 2, 3, 4, 5, 6, 8, 9, 10, 12, 13, 14, 15, 16, 25, 26, 27, 28, 49, 50, 51, 52, 65, 80, 81, 83, 96, 99, 100, 101], [(4, ⟨[(27, .int .i64, false)], [], [28, 29, 30, 8, 31, 32, 33, 34, 35, 36, 37, 38, 39, 40, 41, 42], []⟩),
  (12, ⟨[(51, .int .i64, false)], [9], [52, 53, 54, 12, 55, 56, 57, 58, 59, 60, 61, 62], []⟩),
  (16, ⟨[], [5, 9], [63, 64, 65, 66, 67, 68, 69, 70, 71, 13, 72, 73, 74, 75, 76, 77, 78, 14, 15, 79, 80, 82, 81, 84, 83, 85, 86, 87, 88, 89, 90, 91, 92, 93, 94, 95, 97, 96, 98, 99, 100, 101, 102, 16, 103, 104, 105, 106, 107, 108], []⟩),
  (27, ⟨[(100, .int .i64, false)], [5, 9], [101, 102, 16, 103, 104, 105, 106, 107, 108], []⟩)]⟩
def q3j : Tree := (.need [(.rng .i64 (.fn 8 [(.len (.fld (.tok 0) 0)), (.lit (.i 6))])), (.rng .i64 (.add (.fn 8 [(.len (.fld (.tok 0) 0)), (.lit (.i 6))]) (.lit (.i 1)))), (.le (.lit (.i 0)) (.add (.fn 8 [(.len (.fld (.tok 0) 0)), (.lit (.i 6))]) (.lit (.i 1)))), (.le (.add (.fn 8 [(.len (.fld (.tok 0) 0)), (.lit (.i 6))]) (.lit (.i 1))) (.lit (.i 16777216)))] (.need [(.eq (.len (.fld (.tok 0) 2)) (.len (.fld (.tok 0) 2)))] (.need [(.le (.add (.lit (.i 0)) (.len (.fld (.tok 1) 0))) (.lit (.i 8796093021952)))] (.loop 12 2 [(.lit (.i 0)), (.app (.lit (.r [])) (.fld (.tok 1) 0))] (.br (.lt (.tok 2) (.len (.fld (.tok 0) 3))) (.need [(.le (.lit (.i 0)) (.tok 2)), (.lt (.tok 2) (.len (.fld (.tok 0) 3)))] (.need [(.le (.add (.len (.tok 3)) (.lit (.i 2))) (.lit (.i 8796093021952)))] (.need [(.rng .i64 (.add (.tok 2) (.lit (.i 1))))] (.back 12 [(.add (.tok 2) (.lit (.i 1))), (.app (.tok 3) (.row [(.fld (.get (.fld (.tok 0) 3) (.tok 2)) 1), (.fld (.get (.fld (.tok 0) 3) (.tok 2)) 2)]))])))) (.loop 16 4 [(.rep (.add (.fn 8 [(.len (.fld (.tok 0) 0)), (.lit (.i 6))]) (.lit (.i 1))) (.lit (.i 0))), (.tok 3)] (.br (.lt (.lit (.i 0)) (.len (.tok 5))) (.need [(.rng .i64 (.sub (.len (.tok 5)) (.lit (.i 1)))), (.le (.lit (.i 0)) (.sub (.len (.tok 5)) (.lit (.i 1)))), (.lt (.sub (.len (.tok 5)) (.lit (.i 1))) (.len (.tok 5)))] (.need [(.rng .i64 (.sub (.len (.tok 5)) (.lit (.i 1)))), (.le (.lit (.i 0)) (.sub (.len (.tok 5)) (.lit (.i 1)))), (.le (.sub (.len (.tok 5)) (.lit (.i 1))) (.len (.tok 5)))] (.br (.eq (.fld (.get (.tok 5) (.sub (.len (.tok 5)) (.lit (.i 1)))) 0) (.lit (.i 0))) (.need [(.rng .i64 (.lit (.i 1)))] (.loop 27 6 [(.lit (.i 0)), (.tok 4), (.cut (.tok 5) (.lit (.i 0)) (.sub (.len (.tok 5)) (.lit (.i 1))))] (.br (.lt (.tok 6) (.lit (.i 1))) (.need [(.rng .i64 (.add (.fld (.get (.tok 5) (.sub (.len (.tok 5)) (.lit (.i 1)))) 1) (.tok 6))), (.ok 0 [(.add (.fld (.get (.tok 5) (.sub (.len (.tok 5)) (.lit (.i 1)))) 1) (.tok 6)), (.tok 7), (.tok 8), (.tok 0), (.fn 16 [(.fld (.tok 0) 2)])])] (.need [(.rng .i64 (.add (.tok 6) (.lit (.i 1))))] (.back 27 [(.add (.tok 6) (.lit (.i 1))), (.call 0 0 [(.add (.fld (.get (.tok 5) (.sub (.len (.tok 5)) (.lit (.i 1)))) 1) (.tok 6)), (.tok 7), (.tok 8), (.tok 0), (.fn 16 [(.fld (.tok 0) 2)])]), (.call 0 1 [(.add (.fld (.get (.tok 5) (.sub (.len (.tok 5)) (.lit (.i 1)))) 1) (.tok 6)), (.tok 7), (.tok 8), (.tok 0), (.fn 16 [(.fld (.tok 0) 2)])])]))) (.back 16 [(.tok 7), (.tok 8)])))) (.br (.eq (.fld (.get (.tok 5) (.sub (.len (.tok 5)) (.lit (.i 1)))) 0) (.lit (.i 3))) (.need [(.le (.lit (.i 0)) (.fld (.get (.fld (.tok 0) 0) (.fld (.get (.tok 5) (.sub (.len (.tok 5)) (.lit (.i 1)))) 1)) 1)), (.lt (.fld (.get (.fld (.tok 0) 0) (.fld (.get (.tok 5) (.sub (.len (.tok 5)) (.lit (.i 1)))) 1)) 1) (.len (.fld (.tok 0) 1))), (.le (.lit (.i 0)) (.fld (.get (.tok 5) (.sub (.len (.tok 5)) (.lit (.i 1)))) 1)), (.lt (.fld (.get (.tok 5) (.sub (.len (.tok 5)) (.lit (.i 1)))) 1) (.len (.fld (.tok 0) 0)))] (.need [(.rng .i64 (.add (.fld (.get (.fld (.tok 0) 1) (.fld (.get (.fld (.tok 0) 0) (.fld (.get (.tok 5) (.sub (.len (.tok 5)) (.lit (.i 1)))) 1)) 1)) 1) (.lit (.i 1))))] (.loop 27 6 [(.lit (.i 0)), (.tok 4), (.cut (.tok 5) (.lit (.i 0)) (.sub (.len (.tok 5)) (.lit (.i 1))))] (.br (.lt (.tok 6) (.add (.fld (.get (.fld (.tok 0) 1) (.fld (.get (.fld (.tok 0) 0) (.fld (.get (.tok 5) (.sub (.len (.tok 5)) (.lit (.i 1)))) 1)) 1)) 1) (.lit (.i 1)))) (.need [(.rng .i64 (.add (.fld (.get (.tok 5) (.sub (.len (.tok 5)) (.lit (.i 1)))) 1) (.tok 6))), (.ok 0 [(.add (.fld (.get (.tok 5) (.sub (.len (.tok 5)) (.lit (.i 1)))) 1) (.tok 6)), (.tok 7), (.tok 8), (.tok 0), (.fn 16 [(.fld (.tok 0) 2)])])] (.need [(.rng .i64 (.add (.tok 6) (.lit (.i 1))))] (.back 27 [(.add (.tok 6) (.lit (.i 1))), (.call 0 0 [(.add (.fld (.get (.tok 5) (.sub (.len (.tok 5)) (.lit (.i 1)))) 1) (.tok 6)), (.tok 7), (.tok 8), (.tok 0), (.fn 16 [(.fld (.tok 0) 2)])]), (.call 0 1 [(.add (.fld (.get (.tok 5) (.sub (.len (.tok 5)) (.lit (.i 1)))) 1) (.tok 6)), (.tok 7), (.tok 8), (.tok 0), (.fn 16 [(.fld (.tok 0) 2)])])]))) (.back 16 [(.tok 7), (.tok 8)]))))) (.br (.eq (.fld (.get (.tok 5) (.sub (.len (.tok 5)) (.lit (.i 1)))) 0) (.lit (.i 5))) (.need [(.rng .i64 (.lit (.i 3)))] (.loop 27 6 [(.lit (.i 0)), (.tok 4), (.cut (.tok 5) (.lit (.i 0)) (.sub (.len (.tok 5)) (.lit (.i 1))))] (.br (.lt (.tok 6) (.lit (.i 3))) (.need [(.rng .i64 (.add (.fld (.get (.tok 5) (.sub (.len (.tok 5)) (.lit (.i 1)))) 1) (.tok 6))), (.ok 0 [(.add (.fld (.get (.tok 5) (.sub (.len (.tok 5)) (.lit (.i 1)))) 1) (.tok 6)), (.tok 7), (.tok 8), (.tok 0), (.fn 16 [(.fld (.tok 0) 2)])])] (.need [(.rng .i64 (.add (.tok 6) (.lit (.i 1))))] (.back 27 [(.add (.tok 6) (.lit (.i 1))), (.call 0 0 [(.add (.fld (.get (.tok 5) (.sub (.len (.tok 5)) (.lit (.i 1)))) 1) (.tok 6)), (.tok 7), (.tok 8), (.tok 0), (.fn 16 [(.fld (.tok 0) 2)])]), (.call 0 1 [(.add (.fld (.get (.tok 5) (.sub (.len (.tok 5)) (.lit (.i 1)))) 1) (.tok 6)), (.tok 7), (.tok 8), (.tok 0), (.fn 16 [(.fld (.tok 0) 2)])])]))) (.back 16 [(.tok 7), (.tok 8)])))) (.back 16 [(.tok 4), (.cut (.tok 5) (.lit (.i 0)) (.sub (.len (.tok 5)) (.lit (.i 1))))])))))) (.leaf [(.tok 4)]))))))))
set_option maxRecDepth 100000 in
theorem code_gc_mark (g0 : List D → Option (List D)) : treeH Try.prog [(q0g, g0)] ann_gc_mark q18 Try.f31 codeA codeB doOlds = q3j := by kernel_rfl
theorem fok_gc_mark {g0 : List D → Option (List D)} {g : List D → Option (List D)} (h0 : FOk q0g g0) (h : ∀ ds outs, WfA q18.ars ds → g ds = some outs → q3j.go (tblS [(q0g, g0)]) (fun o => o = outs) ds fun _ _ => False) : FOk q18 g :=
  fok_mark ann_gc_mark (.cons h0 .nil) rfl enter_gc_mark (by decide) fun ds outs hw hg => by rw [code_gc_mark g0]; exact h ds outs hw hg

def q11 : Ct := ⟨33, [.val (.st 30), .rref (.row 3)], [(.st 30, false)], [], none⟩
theorem enter_gc_Collect_1 (args : Array Value) (w : World) : (callFunc q11.f args).run Try.prog w = .ok (.enter q11.f args) w := by kernel_rfl
def ann_gc_Collect_1 : Ann := ⟨[0, 1, 2, 3, 16], []⟩
def q25 : Tree := (.br (.or (.or (.eq (.fld (.tok 0) 0) (.lit (.i 0))) (.eq (.fld (.tok 0) 0) (.lit (.i 3)))) (.eq (.fld (.tok 0) 0) (.lit (.i 5)))) (.need [(.le (.lit (.i 0)) (.fld (.tok 0) 1)), (.lt (.fld (.tok 0) 1) (.len (.tok 1)))] (.leaf [(.set (.tok 0) 1 (.get (.tok 1) (.fld (.tok 0) 1)))])) (.leaf [(.tok 0)]))
set_option maxRecDepth 100000 in
theorem code_gc_Collect_1 : ∀ cd, Try.f33.body = some cd → treeOf Try.prog [] ann_gc_Collect_1 q11 Try.f33 cd = q25 := by
  intro cd h
  injection h with h
  subst h
  kernel_rfl
theorem fok_gc_Collect_1 {g : List D → Option (List D)}  (h : ∀ ds outs, WfA q11.ars ds → g ds = some outs → q25.go (tblS []) (fun o => o = outs) ds fun _ _ => False) : FOk q11 g :=
  q0a ann_gc_Collect_1 Try.f33 _ .nil rfl rfl enter_gc_Collect_1 (by decide) fun ds outs hw hg => by rw [code_gc_Collect_1  _ rfl]; exact h ds outs hw hg

def q1w : Ct := ⟨17, [.val (.st 27), .val (.st 34)], [(.int .i64, false), (.int .i64, false)], [], none⟩
theorem enter_gc_Live (args : Array Value) (w : World) : (callFunc q1w.f args).run Try.prog w = .ok (.enter q1w.f args) w := by kernel_rfl
def ann_gc_Live : Ann := ⟨[0, 1, 2, 3, 4, 5, 6, 7, 11, 17, 18, 19, 23], [(5, ⟨[(4, .int .i64, false), (18, .int .i64, false)], [], [19, 20, 7, 21, 22, 23, 24, 25, 26], []⟩)]⟩
def tree_gc_Live : Tree := (.need [(.ok 0 [(.tok 0), (.tok 1)])] (.br (.not (.call 0 0 [(.tok 0), (.tok 1)])) (.leaf [(.lit (.i 0)), (.lit (.i 1))]) (.need [(.ok 1 [(.tok 0), (.tok 1)])] (.loop 5 2 [(.lit (.i 0)), (.lit (.i 0))] (.br (.lt (.tok 3) (.len (.fld (.tok 0) 0))) (.need [(.ok 2 [(.call 1 0 [(.tok 0), (.tok 1)]), (.tok 3)])] (.br (.call 2 0 [(.call 1 0 [(.tok 0), (.tok 1)]), (.tok 3)]) (.need [(.rng .i64 (.add (.tok 2) (.lit (.i 1))))] (.need [(.rng .i64 (.add (.tok 3) (.lit (.i 1))))] (.back 5 [(.add (.tok 2) (.lit (.i 1))), (.add (.tok 3) (.lit (.i 1)))]))) (.need [(.rng .i64 (.add (.tok 3) (.lit (.i 1))))] (.back 5 [(.tok 2), (.add (.tok 3) (.lit (.i 1)))])))) (.leaf [(.tok 2), (.lit (.i 0))]))))))
set_option maxRecDepth 100000 in
theorem code_gc_Live (g0 g1 g2 : List D → Option (List D)) : ∀ cd, Try.f17.body = some cd → treeOf Try.prog [(q0o, g0), (q18, g1), (q0b, g2)] ann_gc_Live q1w Try.f17 cd = tree_gc_Live := by
  intro cd h
  injection h with h
  subst h
  kernel_rfl
theorem fok_gc_Live {g0 g1 g2 : List D → Option (List D)} {g : List D → Option (List D)} (h0 : FOk q0o g0) (h1 : FOk q18 g1) (h2 : FOk q0b g2) (h : ∀ ds outs, WfA q1w.ars ds → g ds = some outs → tree_gc_Live.go (tblS [(q0o, g0), (q18, g1), (q0b, g2)]) (fun o => o = outs) ds fun _ _ => False) : FOk q1w g :=
  q0a ann_gc_Live Try.f17 _ (.cons h0 (.cons h1 (.cons h2 .nil))) rfl rfl enter_gc_Live (by decide) fun ds outs hw hg => by rw [code_gc_Live g0 g1 g2 _ rfl]; exact h ds outs hw hg

def q0v : Ct := ⟨12, [.ref (.st 27), .ref (.st 34)], [(.int .i64, false)], [], none⟩
theorem enter_gc_Collect (args : Array Value) (w : World) : (callFunc q0v.f args).run Try.prog w = .ok (.enter q0v.f args) w := by kernel_rfl
def ann_gc_Collect : Ann := ⟨[0, 1, 4, 5, 6, 7, 8, 9, 10, 11, 12, 13, 14, 15, 16, 18, 19, 21, 23, 25, 41, 60, 61, 62, 74, 87, 88, 89, 90, 96, 114, 115, 116, 117, 124, 148, 149, 150, 151, 185, 186, 187, 188, 203, 204, 205, 206, 222, 223, 224, 225], [(6, ⟨[(61, .int .i64, false)], [6], [62, 63, 7, 64, 65, 66, 67, 68, 69, 70, 71, 72, 73, 74, 75, 76, 77, 78, 79, 80, 81, 82], []⟩),
  (15, ⟨[(9, .row 31, false), (89, .int .i64, false)], [], [90, 91, 92, 93, 11, 10, 94, 95, 96, 97, 98, 99, 100, 101, 102, 103], []⟩),
  (23, ⟨[(13, .row 37, false), (116, .int .i64, false), (12, .row 3, false)], [], [117, 118, 119, 120, 15, 14, 121, 122, 123, 124, 125, 126, 127, 128, 129, 130, 131, 132, 133, 134, 135, 136, 137, 138, 139, 140, 141, 142, 143, 144, 110, 230], []⟩),
  (31, ⟨[(16, .row 63, false), (150, .int .i64, false)], [], [151, 152, 153, 18, 154, 155, 156, 157, 158, 159, 160, 161, 162, 163, 164, 165, 166, 167, 168], []⟩),
  (38, ⟨[(187, .int .i64, false)], [19], [188, 189, 190, 21, 191, 192, 193, 194, 195, 196, 197, 198, 199], []⟩),
  (43, ⟨[(205, .int .i64, false)], [19], [206, 207, 208, 23, 209, 210, 211, 212, 213, 214, 215, 216, 217, 218], []⟩),
  (48, ⟨[(224, .int .i64, false)], [19], [225, 226, 227, 25, 228, 229, 230, 231, 232, 233, 234, 235, 236, 237], []⟩)]⟩
def q2c : Tree := (.need [(.ok 1 [(.tok 0), (.tok 1)])] (.br (.not (.call 1 0 [(.tok 0), (.tok 1)])) (.leaf [(.lit (.i 1)), (.tok 0), (.tok 1)]) (.need [(.ok 2 [(.tok 0), (.tok 1)])] (.need [(.rng .i64 (.add (.len (.fld (.tok 0) 0)) (.lit (.i 1)))), (.le (.lit (.i 0)) (.add (.len (.fld (.tok 0) 0)) (.lit (.i 1)))), (.le (.add (.len (.fld (.tok 0) 0)) (.lit (.i 1))) (.lit (.i 16777216)))] (.loop 6 2 [(.lit (.i 0)), (.rep (.add (.len (.fld (.tok 0) 0)) (.lit (.i 1))) (.lit (.i 0)))] (.br (.lt (.tok 2) (.len (.fld (.tok 0) 0))) (.need [(.le (.lit (.i 0)) (.add (.tok 2) (.lit (.i 1)))), (.lt (.add (.tok 2) (.lit (.i 1))) (.len (.tok 3))), (.le (.lit (.i 0)) (.tok 2)), (.lt (.tok 2) (.len (.tok 3))), (.rng .i64 (.add (.tok 2) (.lit (.i 1))))] (.need [(.ok 3 [(.call 2 0 [(.tok 0), (.tok 1)]), (.tok 2)])] (.br (.call 3 0 [(.call 2 0 [(.tok 0), (.tok 1)]), (.tok 2)]) (.need [(.rng .i64 (.add (.tok 2) (.lit (.i 1)))), (.le (.lit (.i 0)) (.add (.tok 2) (.lit (.i 1)))), (.lt (.add (.tok 2) (.lit (.i 1))) (.len (.put (.tok 3) (.add (.tok 2) (.lit (.i 1))) (.get (.tok 3) (.tok 2))))), (.rng .i64 (.add (.get (.put (.tok 3) (.add (.tok 2) (.lit (.i 1))) (.get (.tok 3) (.tok 2))) (.add (.tok 2) (.lit (.i 1)))) (.lit (.i 1)))), (.le (.lit (.i 0)) (.add (.tok 2) (.lit (.i 1)))), (.lt (.add (.tok 2) (.lit (.i 1))) (.len (.put (.tok 3) (.add (.tok 2) (.lit (.i 1))) (.get (.tok 3) (.tok 2)))))] (.need [(.rng .i64 (.add (.tok 2) (.lit (.i 1))))] (.back 6 [(.add (.tok 2) (.lit (.i 1))), (.put (.put (.tok 3) (.add (.tok 2) (.lit (.i 1))) (.get (.tok 3) (.tok 2))) (.add (.tok 2) (.lit (.i 1))) (.add (.get (.put (.tok 3) (.add (.tok 2) (.lit (.i 1))) (.get (.tok 3) (.tok 2))) (.add (.tok 2) (.lit (.i 1)))) (.lit (.i 1))))]))) (.need [(.rng .i64 (.add (.tok 2) (.lit (.i 1))))] (.back 6 [(.add (.tok 2) (.lit (.i 1))), (.put (.tok 3) (.add (.tok 2) (.lit (.i 1))) (.get (.tok 3) (.tok 2)))]))))) (.loop 15 4 [(.lit (.r [])), (.lit (.i 0))] (.br (.lt (.tok 5) (.len (.fld (.tok 0) 0))) (.need [(.le (.lit (.i 0)) (.tok 5)), (.lt (.tok 5) (.len (.fld (.tok 0) 0)))] (.need [(.ok 3 [(.call 2 0 [(.tok 0), (.tok 1)]), (.tok 5)])] (.br (.call 3 0 [(.call 2 0 [(.tok 0), (.tok 1)]), (.tok 5)]) (.need [(.ok 0 [(.get (.fld (.tok 0) 0) (.tok 5)), (.tok 3)]), (.le (.add (.len (.tok 4)) (.lit (.i 1))) (.lit (.i 8796093021952)))] (.need [(.rng .i64 (.add (.tok 5) (.lit (.i 1))))] (.back 15 [(.app (.tok 4) (.row [(.call 0 0 [(.get (.fld (.tok 0) 0) (.tok 5)), (.tok 3)])])), (.add (.tok 5) (.lit (.i 1)))]))) (.need [(.rng .i64 (.add (.tok 5) (.lit (.i 1))))] (.back 15 [(.tok 4), (.add (.tok 5) (.lit (.i 1)))]))))) (.need [(.rng .i64 (.add (.len (.fld (.tok 0) 2)) (.lit (.i 1)))), (.le (.lit (.i 0)) (.add (.len (.fld (.tok 0) 2)) (.lit (.i 1)))), (.le (.add (.len (.fld (.tok 0) 2)) (.lit (.i 1))) (.lit (.i 16777216)))] (.loop 23 6 [(.lit (.r [])), (.lit (.i 0)), (.rep (.add (.len (.fld (.tok 0) 2)) (.lit (.i 1))) (.lit (.i 0)))] (.br (.lt (.tok 7) (.len (.fld (.tok 0) 2))) (.need [(.le (.lit (.i 0)) (.tok 7)), (.lt (.tok 7) (.len (.fld (.tok 0) 2)))] (.need [(.ok 3 [(.call 2 0 [(.tok 0), (.tok 1)]), (.fld (.get (.fld (.tok 0) 2) (.tok 7)) 0)])] (.br (.call 3 0 [(.call 2 0 [(.tok 0), (.tok 1)]), (.fld (.get (.fld (.tok 0) 2) (.tok 7)) 0)]) (.need [(.le (.add (.len (.tok 6)) (.lit (.i 1))) (.lit (.i 5864062014634))), (.ok 0 [(.fld (.get (.fld (.tok 0) 2) (.tok 7)) 1), (.tok 3)]), (.le (.lit (.i 0)) (.fld (.get (.fld (.tok 0) 2) (.tok 7)) 0)), (.lt (.fld (.get (.fld (.tok 0) 2) (.tok 7)) 0) (.len (.tok 3)))] (.need [(.rng .i64 (.add (.tok 7) (.lit (.i 1)))), (.le (.lit (.i 0)) (.add (.tok 7) (.lit (.i 1)))), (.lt (.add (.tok 7) (.lit (.i 1))) (.len (.tok 8)))] (.need [(.rng .i64 (.add (.tok 7) (.lit (.i 1))))] (.back 23 [(.app (.tok 6) (.row [(.mk [(.get (.tok 3) (.fld (.get (.fld (.tok 0) 2) (.tok 7)) 0)), (.call 0 0 [(.fld (.get (.fld (.tok 0) 2) (.tok 7)) 1), (.tok 3)])])])), (.add (.tok 7) (.lit (.i 1))), (.put (.tok 8) (.add (.tok 7) (.lit (.i 1))) (.len (.app (.tok 6) (.row [(.mk [(.get (.tok 3) (.fld (.get (.fld (.tok 0) 2) (.tok 7)) 0)), (.call 0 0 [(.fld (.get (.fld (.tok 0) 2) (.tok 7)) 1), (.tok 3)])])]))))])))) (.need [(.rng .i64 (.add (.tok 7) (.lit (.i 1)))), (.le (.lit (.i 0)) (.add (.tok 7) (.lit (.i 1)))), (.lt (.add (.tok 7) (.lit (.i 1))) (.len (.tok 8)))] (.need [(.rng .i64 (.add (.tok 7) (.lit (.i 1))))] (.back 23 [(.tok 6), (.add (.tok 7) (.lit (.i 1))), (.put (.tok 8) (.add (.tok 7) (.lit (.i 1))) (.len (.tok 6)))])))))) (.loop 31 9 [(.lit (.r [])), (.lit (.i 0))] (.br (.lt (.tok 10) (.len (.fld (.tok 0) 3))) (.need [(.le (.lit (.i 0)) (.tok 10)), (.lt (.tok 10) (.len (.fld (.tok 0) 3)))] (.need [(.le (.add (.len (.tok 9)) (.lit (.i 1))) (.lit (.i 3518437208780))), (.ok 0 [(.fld (.get (.fld (.tok 0) 3) (.tok 10)) 2), (.tok 3)]), (.ok 0 [(.fld (.get (.fld (.tok 0) 3) (.tok 10)) 1), (.tok 3)])] (.need [(.rng .i64 (.add (.tok 10) (.lit (.i 1))))] (.back 31 [(.app (.tok 9) (.row [(.mk [(.fld (.get (.fld (.tok 0) 3) (.tok 10)) 0), (.call 0 0 [(.fld (.get (.fld (.tok 0) 3) (.tok 10)) 1), (.tok 3)]), (.call 0 0 [(.fld (.get (.fld (.tok 0) 3) (.tok 10)) 2), (.tok 3)])])])), (.add (.tok 10) (.lit (.i 1)))])))) (.loop 38 11 [(.lit (.i 0)), (.lit (.a [(.r []), (.r []), (.r [])]))] (.br (.lt (.tok 11) (.len (.fld (.tok 1) 0))) (.need [(.le (.lit (.i 0)) (.tok 11)), (.lt (.tok 11) (.len (.fld (.tok 1) 0)))] (.need [(.le (.add (.len (.fld (.tok 12) 0)) (.lit (.i 1))) (.lit (.i 8796093021952))), (.ok 0 [(.get (.fld (.tok 1) 0) (.tok 11)), (.tok 3)])] (.need [(.rng .i64 (.add (.tok 11) (.lit (.i 1))))] (.back 38 [(.add (.tok 11) (.lit (.i 1))), (.set (.tok 12) 0 (.app (.fld (.tok 12) 0) (.row [(.call 0 0 [(.get (.fld (.tok 1) 0) (.tok 11)), (.tok 3)])])))])))) (.loop 43 13 [(.lit (.i 0)), (.tok 12)] (.br (.lt (.tok 13) (.len (.fld (.tok 1) 1))) (.need [(.le (.lit (.i 0)) (.tok 13)), (.lt (.tok 13) (.len (.fld (.tok 1) 1)))] (.need [(.le (.add (.len (.fld (.tok 14) 1)) (.lit (.i 1))) (.lit (.i 17592186043904))), (.le (.lit (.i 0)) (.get (.fld (.tok 1) 1) (.tok 13))), (.lt (.get (.fld (.tok 1) 1) (.tok 13)) (.len (.tok 3)))] (.need [(.rng .i64 (.add (.tok 13) (.lit (.i 1))))] (.back 43 [(.add (.tok 13) (.lit (.i 1))), (.set (.tok 14) 1 (.app (.fld (.tok 14) 1) (.row [(.get (.tok 3) (.get (.fld (.tok 1) 1) (.tok 13)))])))])))) (.loop 48 15 [(.lit (.i 0)), (.tok 14)] (.br (.lt (.tok 15) (.len (.fld (.tok 1) 2))) (.need [(.le (.lit (.i 0)) (.tok 15)), (.lt (.tok 15) (.len (.fld (.tok 1) 2)))] (.need [(.le (.add (.len (.fld (.tok 16) 2)) (.lit (.i 1))) (.lit (.i 17592186043904))), (.le (.lit (.i 0)) (.get (.fld (.tok 1) 2) (.tok 15))), (.lt (.get (.fld (.tok 1) 2) (.tok 15)) (.len (.tok 8)))] (.need [(.rng .i64 (.add (.tok 15) (.lit (.i 1))))] (.back 48 [(.add (.tok 15) (.lit (.i 1))), (.set (.tok 16) 2 (.app (.fld (.tok 16) 2) (.row [(.get (.tok 8) (.get (.fld (.tok 1) 2) (.tok 15)))])))])))) (.leaf [(.lit (.i 0)), (.set (.set (.set (.tok 0) 0 (.tok 4)) 2 (.tok 6)) 3 (.tok 9)), (.tok 16)]))))))))))))))))))))
set_option maxRecDepth 100000 in
theorem code_gc_Collect (g0 g1 g2 g3 : List D → Option (List D)) : ∀ cd, Try.f12.body = some cd → treeOf Try.prog [(q11, g0), (q0o, g1), (q18, g2), (q0b, g3)] ann_gc_Collect q0v Try.f12 cd = q2c := by
  intro cd h
  injection h with h
  subst h
  kernel_rfl
theorem fok_gc_Collect {g0 g1 g2 g3 : List D → Option (List D)} {g : List D → Option (List D)} (h0 : FOk q11 g0) (h1 : FOk q0o g1) (h2 : FOk q18 g2) (h3 : FOk q0b g3) (h : ∀ ds outs, WfA q0v.ars ds → g ds = some outs → q2c.go (tblS [(q11, g0), (q0o, g1), (q18, g2), (q0b, g3)]) (fun o => o = outs) ds fun _ _ => False) : FOk q0v g :=
  q0a ann_gc_Collect Try.f12 _ (.cons h0 (.cons h1 (.cons h2 (.cons h3 .nil)))) rfl rfl enter_gc_Collect (by decide) fun ds outs hw hg => by rw [code_gc_Collect g0 g1 g2 g3 _ rfl]; exact h ds outs hw hg

def q1h : Ct := ⟨21, [.val (.st 27), .val (.st 27)], [(.bool, false)], [], none⟩
theorem enter_ref30_Same (args : Array Value) (w : World) : (callFunc q1h.f args).run Try.prog w = .ok (.enter q1h.f args) w := by kernel_rfl
def ann_ref30_Same : Ann := ⟨[0, 1, 2, 3, 4, 5, 6, 7, 8, 56, 61, 74, 79, 92, 97, 110, 115, 128], [(4, ⟨[(4, .bool, false), (5, .int .i64, false)], [], [57, 58, 59, 60, 61, 64, 65, 66, 67, 68, 69, 70, 71, 72, 73, 74, 62, 63], []⟩),
  (9, ⟨[(4, .bool, false), (6, .int .i64, false)], [], [75, 76, 77, 78, 79, 82, 83, 84, 85, 86, 87, 88, 89, 90, 91, 92, 80, 81], []⟩),
  (14, ⟨[(4, .bool, false), (7, .int .i64, false)], [], [93, 94, 95, 96, 97, 100, 101, 102, 103, 104, 105, 106, 107, 108, 109, 110, 98, 99], []⟩),
  (19, ⟨[(4, .bool, false), (8, .int .i64, false)], [], [111, 112, 113, 114, 115, 118, 119, 120, 121, 122, 123, 124, 125, 126, 127, 128, 116, 117], []⟩)]⟩
def q3d : Tree := (.br (.or (.or (.or (.or (.or (.not (.eq (.len (.fld (.tok 0) 0)) (.len (.fld (.tok 1) 0)))) (.not (.eq (.len (.fld (.tok 0) 1)) (.len (.fld (.tok 1) 1))))) (.not (.eq (.len (.fld (.tok 0) 2)) (.len (.fld (.tok 1) 2))))) (.not (.eq (.len (.fld (.tok 0) 3)) (.len (.fld (.tok 1) 3))))) (.not (.eq (.fld (.tok 0) 4) (.fld (.tok 1) 4)))) (.not (.eq (.fld (.tok 0) 5) (.fld (.tok 1) 5)))) (.leaf [(.lit (.b .false))]) (.loop 4 2 [(.lit (.b .false)), (.lit (.i 0))] (.br (.lt (.tok 3) (.len (.fld (.tok 0) 0))) (.need [(.le (.lit (.i 0)) (.tok 3)), (.lt (.tok 3) (.len (.fld (.tok 1) 0))), (.le (.lit (.i 0)) (.tok 3)), (.lt (.tok 3) (.len (.fld (.tok 0) 0)))] (.br (.not (.eq (.get (.fld (.tok 0) 0) (.tok 3)) (.get (.fld (.tok 1) 0) (.tok 3)))) (.leaf [(.lit (.b .false))]) (.need [(.rng .i64 (.add (.tok 3) (.lit (.i 1))))] (.back 4 [(.tok 2), (.add (.tok 3) (.lit (.i 1)))])))) (.loop 9 4 [(.tok 2), (.lit (.i 0))] (.br (.lt (.tok 5) (.len (.fld (.tok 0) 1))) (.need [(.le (.lit (.i 0)) (.tok 5)), (.lt (.tok 5) (.len (.fld (.tok 1) 1))), (.le (.lit (.i 0)) (.tok 5)), (.lt (.tok 5) (.len (.fld (.tok 0) 1)))] (.br (.not (.eq (.get (.fld (.tok 0) 1) (.tok 5)) (.get (.fld (.tok 1) 1) (.tok 5)))) (.leaf [(.lit (.b .false))]) (.need [(.rng .i64 (.add (.tok 5) (.lit (.i 1))))] (.back 9 [(.tok 4), (.add (.tok 5) (.lit (.i 1)))])))) (.loop 14 6 [(.tok 4), (.lit (.i 0))] (.br (.lt (.tok 7) (.len (.fld (.tok 0) 2))) (.need [(.le (.lit (.i 0)) (.tok 7)), (.lt (.tok 7) (.len (.fld (.tok 1) 2))), (.le (.lit (.i 0)) (.tok 7)), (.lt (.tok 7) (.len (.fld (.tok 0) 2)))] (.br (.not (.eq (.get (.fld (.tok 0) 2) (.tok 7)) (.get (.fld (.tok 1) 2) (.tok 7)))) (.leaf [(.lit (.b .false))]) (.need [(.rng .i64 (.add (.tok 7) (.lit (.i 1))))] (.back 14 [(.tok 6), (.add (.tok 7) (.lit (.i 1)))])))) (.loop 19 8 [(.tok 6), (.lit (.i 0))] (.br (.lt (.tok 9) (.len (.fld (.tok 0) 3))) (.need [(.le (.lit (.i 0)) (.tok 9)), (.lt (.tok 9) (.len (.fld (.tok 1) 3))), (.le (.lit (.i 0)) (.tok 9)), (.lt (.tok 9) (.len (.fld (.tok 0) 3)))] (.br (.not (.eq (.get (.fld (.tok 0) 3) (.tok 9)) (.get (.fld (.tok 1) 3) (.tok 9)))) (.leaf [(.lit (.b .false))]) (.need [(.rng .i64 (.add (.tok 9) (.lit (.i 1))))] (.back 19 [(.tok 8), (.add (.tok 9) (.lit (.i 1)))])))) (.leaf [(.lit (.b .true))]))))))))))
set_option maxRecDepth 100000 in
theorem code_ref30_Same : ∀ cd, Try.f21.body = some cd → treeOf Try.prog [] ann_ref30_Same q1h Try.f21 cd = q3d := by
  intro cd h
  injection h with h
  subst h
  kernel_rfl
theorem fok_ref30_Same {g : List D → Option (List D)}  (h : ∀ ds outs, WfA q1h.ars ds → g ds = some outs → q3d.go (tblS []) (fun o => o = outs) ds fun _ _ => False) : FOk q1h g :=
  q0a ann_ref30_Same Try.f21 _ .nil rfl rfl enter_ref30_Same (by decide) fun ds outs hw hg => by rw [code_ref30_Same  _ rfl]; exact h ds outs hw hg

def q1g : Ct := ⟨22, [.val (.st 34), .val (.st 34)], [(.bool, false)], [], none⟩
theorem enter_ref34_Same (args : Array Value) (w : World) : (callFunc q1g.f args).run Try.prog w = .ok (.enter q1g.f args) w := by kernel_rfl
def ann_ref34_Same : Ann := ⟨[0, 1, 2, 3, 4, 5, 6, 7, 32, 37, 50, 55, 68, 73, 86], [(4, ⟨[(4, .bool, false), (5, .int .i64, false)], [], [33, 34, 35, 36, 37, 40, 41, 42, 43, 44, 45, 46, 47, 48, 49, 50, 38, 39], []⟩),
  (9, ⟨[(4, .bool, false), (6, .int .i64, false)], [], [51, 52, 53, 54, 55, 58, 59, 60, 61, 62, 63, 64, 65, 66, 67, 68, 56, 57], []⟩),
  (14, ⟨[(4, .bool, false), (7, .int .i64, false)], [], [69, 70, 71, 72, 73, 76, 77, 78, 79, 80, 81, 82, 83, 84, 85, 86, 74, 75], []⟩)]⟩
def q3g : Tree := (.br (.or (.or (.not (.eq (.len (.fld (.tok 0) 0)) (.len (.fld (.tok 1) 0)))) (.not (.eq (.len (.fld (.tok 0) 1)) (.len (.fld (.tok 1) 1))))) (.not (.eq (.len (.fld (.tok 0) 2)) (.len (.fld (.tok 1) 2))))) (.leaf [(.lit (.b .false))]) (.loop 4 2 [(.lit (.b .false)), (.lit (.i 0))] (.br (.lt (.tok 3) (.len (.fld (.tok 0) 0))) (.need [(.le (.lit (.i 0)) (.tok 3)), (.lt (.tok 3) (.len (.fld (.tok 1) 0))), (.le (.lit (.i 0)) (.tok 3)), (.lt (.tok 3) (.len (.fld (.tok 0) 0)))] (.br (.not (.eq (.get (.fld (.tok 0) 0) (.tok 3)) (.get (.fld (.tok 1) 0) (.tok 3)))) (.leaf [(.lit (.b .false))]) (.need [(.rng .i64 (.add (.tok 3) (.lit (.i 1))))] (.back 4 [(.tok 2), (.add (.tok 3) (.lit (.i 1)))])))) (.loop 9 4 [(.tok 2), (.lit (.i 0))] (.br (.lt (.tok 5) (.len (.fld (.tok 0) 1))) (.need [(.le (.lit (.i 0)) (.tok 5)), (.lt (.tok 5) (.len (.fld (.tok 1) 1))), (.le (.lit (.i 0)) (.tok 5)), (.lt (.tok 5) (.len (.fld (.tok 0) 1)))] (.br (.not (.eq (.get (.fld (.tok 0) 1) (.tok 5)) (.get (.fld (.tok 1) 1) (.tok 5)))) (.leaf [(.lit (.b .false))]) (.need [(.rng .i64 (.add (.tok 5) (.lit (.i 1))))] (.back 9 [(.tok 4), (.add (.tok 5) (.lit (.i 1)))])))) (.loop 14 6 [(.tok 4), (.lit (.i 0))] (.br (.lt (.tok 7) (.len (.fld (.tok 0) 2))) (.need [(.le (.lit (.i 0)) (.tok 7)), (.lt (.tok 7) (.len (.fld (.tok 1) 2))), (.le (.lit (.i 0)) (.tok 7)), (.lt (.tok 7) (.len (.fld (.tok 0) 2)))] (.br (.not (.eq (.get (.fld (.tok 0) 2) (.tok 7)) (.get (.fld (.tok 1) 2) (.tok 7)))) (.leaf [(.lit (.b .false))]) (.need [(.rng .i64 (.add (.tok 7) (.lit (.i 1))))] (.back 14 [(.tok 6), (.add (.tok 7) (.lit (.i 1)))])))) (.leaf [(.lit (.b .true))]))))))))
set_option maxRecDepth 100000 in
theorem code_ref34_Same : ∀ cd, Try.f22.body = some cd → treeOf Try.prog [] ann_ref34_Same q1g Try.f22 cd = q3g := by
  intro cd h
  injection h with h
  subst h
  kernel_rfl
theorem fok_ref34_Same {g : List D → Option (List D)}  (h : ∀ ds outs, WfA q1g.ars ds → g ds = some outs → q3g.go (tblS []) (fun o => o = outs) ds fun _ _ => False) : FOk q1g g :=
  q0a ann_ref34_Same Try.f22 _ .nil rfl rfl enter_ref34_Same (by decide) fun ds outs hw hg => by rw [code_ref34_Same  _ rfl]; exact h ds outs hw hg

def q1n : Ct := ⟨9, [.own (.st 27), .own (.st 34), .val (.row 31), .val (.row 37), .val (.st 34)], [(.bool, false)], [], none⟩
theorem enter_law34_gives (args : Array Value) (w : World) : (callFunc q1n.f args).run Try.prog w = .ok (.enter q1n.f args) w := by kernel_rfl
def ann_law34_gives : Ann := ⟨[0, 1, 2, 3, 4, 5, 6, 9, 10, 11, 12, 13, 14], []⟩
def q30 : Tree := (.need [(.ok 0 [(.tok 0), (.tok 1)])] (.need [(.ok 1 [(.tok 0), (.tok 1)])] (.need [(.imp (.and (.and (.eq (.call 0 1 [(.tok 0), (.tok 1)]) (.lit (.i 0))) (.eq (.call 1 0 [(.tok 0), (.tok 1)]) (.lit (.i 0)))) (.eq (.call 0 0 [(.tok 0), (.tok 1)]) (.len (.tok 2)))) (.ok 2 [(.call 1 1 [(.tok 0), (.tok 1)]), (.set (.set (.set (.set (.lit (.a [(.r []), (.r []), (.r []), (.r []), (.i 0), (.i 0)])) 0 (.tok 2)) 1 (.fld (.call 1 1 [(.tok 0), (.tok 1)]) 1)) 2 (.tok 3)) 5 (.lit (.i 10)))])), (.imp (.and (.and (.and (.eq (.call 0 1 [(.tok 0), (.tok 1)]) (.lit (.i 0))) (.eq (.call 1 0 [(.tok 0), (.tok 1)]) (.lit (.i 0)))) (.eq (.call 0 0 [(.tok 0), (.tok 1)]) (.len (.tok 2)))) (.call 2 0 [(.call 1 1 [(.tok 0), (.tok 1)]), (.set (.set (.set (.set (.lit (.a [(.r []), (.r []), (.r []), (.r []), (.i 0), (.i 0)])) 0 (.tok 2)) 1 (.fld (.call 1 1 [(.tok 0), (.tok 1)]) 1)) 2 (.tok 3)) 5 (.lit (.i 10)))])) (.ok 3 [(.call 1 2 [(.tok 0), (.tok 1)]), (.tok 4)]))] (.leaf [(.and (.and (.and (.and (.eq (.call 0 1 [(.tok 0), (.tok 1)]) (.lit (.i 0))) (.eq (.call 1 0 [(.tok 0), (.tok 1)]) (.lit (.i 0)))) (.eq (.call 0 0 [(.tok 0), (.tok 1)]) (.len (.tok 2)))) (.call 2 0 [(.call 1 1 [(.tok 0), (.tok 1)]), (.set (.set (.set (.set (.lit (.a [(.r []), (.r []), (.r []), (.r []), (.i 0), (.i 0)])) 0 (.tok 2)) 1 (.fld (.call 1 1 [(.tok 0), (.tok 1)]) 1)) 2 (.tok 3)) 5 (.lit (.i 10)))])) (.call 3 0 [(.call 1 2 [(.tok 0), (.tok 1)]), (.tok 4)]))]))))
set_option maxRecDepth 100000 in
theorem code_law34_gives (g0 g1 g2 g3 : List D → Option (List D)) : ∀ cd, Try.f9.body = some cd → treeOf Try.prog [(q1w, g0), (q0v, g1), (q1h, g2), (q1g, g3)] ann_law34_gives q1n Try.f9 cd = q30 := by
  intro cd h
  injection h with h
  subst h
  kernel_rfl
theorem fok_law34_gives {g0 g1 g2 g3 : List D → Option (List D)} {g : List D → Option (List D)} (h0 : FOk q1w g0) (h1 : FOk q0v g1) (h2 : FOk q1h g2) (h3 : FOk q1g g3) (h : ∀ ds outs, WfA q1n.ars ds → g ds = some outs → q30.go (tblS [(q1w, g0), (q0v, g1), (q1h, g2), (q1g, g3)]) (fun o => o = outs) ds fun _ _ => False) : FOk q1n g :=
  q0a ann_law34_gives Try.f9 _ (.cons h0 (.cons h1 (.cons h2 (.cons h3 .nil)))) rfl rfl enter_law34_gives (by decide) fun ds outs hw hg => by rw [code_law34_gives g0 g1 g2 g3 _ rfl]; exact h ds outs hw hg

def q1j : Ct := ⟨13, [], [(.bool, false)], [], none⟩
theorem enter_law34_awake (args : Array Value) (w : World) : (callFunc q1j.f args).run Try.prog w = .ok (.enter q1j.f args) w := by kernel_rfl
def ann_law34_awake : Ann := ⟨[0, 1], []⟩
def tree_law34_awake : Tree := (.need [(.ok 0 [(.lit (.i 4)), (.lit (.i 0))]), (.ok 0 [(.lit (.i 1)), (.lit (.i 7))]), (.ok 0 [(.lit (.i 0)), (.lit (.i 3))]), (.ok 0 [(.lit (.i 0)), (.lit (.i 3))])] (.need [(.ok 1 []), (.ok 0 [(.lit (.i 3)), (.lit (.i 1))]), (.ok 0 [(.lit (.i 3)), (.lit (.i 0))]), (.ok 2 [(.call 1 0 []), (.set (.set (.lit (.a [(.r []), (.r []), (.r [])])) 0 (.row [(.call 0 0 [(.lit (.i 3)), (.lit (.i 1))])])) 1 (.row [(.lit (.i 1)), (.lit (.i 5)), (.lit (.i 6))])), (.row [(.call 0 0 [(.lit (.i 4)), (.lit (.i 0))]), (.call 0 0 [(.lit (.i 1)), (.lit (.i 7))]), (.call 0 0 [(.lit (.i 0)), (.lit (.i 3))]), (.call 0 0 [(.lit (.i 0)), (.lit (.i 3))])]), (.lit (.r [])), (.set (.set (.lit (.a [(.r []), (.r []), (.r [])])) 0 (.row [(.call 0 0 [(.lit (.i 3)), (.lit (.i 0))])])) 1 (.row [(.lit (.i 0)), (.lit (.i 4)), (.lit (.i 4))]))])] (.leaf [(.call 2 0 [(.call 1 0 []), (.set (.set (.lit (.a [(.r []), (.r []), (.r [])])) 0 (.row [(.call 0 0 [(.lit (.i 3)), (.lit (.i 1))])])) 1 (.row [(.lit (.i 1)), (.lit (.i 5)), (.lit (.i 6))])), (.row [(.call 0 0 [(.lit (.i 4)), (.lit (.i 0))]), (.call 0 0 [(.lit (.i 1)), (.lit (.i 7))]), (.call 0 0 [(.lit (.i 0)), (.lit (.i 3))]), (.call 0 0 [(.lit (.i 0)), (.lit (.i 3))])]), (.lit (.r [])), (.set (.set (.lit (.a [(.r []), (.r []), (.r [])])) 0 (.row [(.call 0 0 [(.lit (.i 3)), (.lit (.i 0))])])) 1 (.row [(.lit (.i 0)), (.lit (.i 4)), (.lit (.i 4))]))])])))
set_option maxRecDepth 100000 in
theorem code_law34_awake (g0 g1 g2 : List D → Option (List D)) : ∀ cd, Try.f13.body = some cd → treeOf Try.prog [(q0y, g0), (q1s, g1), (q1n, g2)] ann_law34_awake q1j Try.f13 cd = tree_law34_awake := by
  intro cd h
  injection h with h
  subst h
  kernel_rfl
theorem fok_law34_awake {g0 g1 g2 : List D → Option (List D)} {g : List D → Option (List D)} (h0 : FOk q0y g0) (h1 : FOk q1s g1) (h2 : FOk q1n g2) (h : ∀ ds outs, WfA q1j.ars ds → g ds = some outs → tree_law34_awake.go (tblS [(q0y, g0), (q1s, g1), (q1n, g2)]) (fun o => o = outs) ds fun _ _ => False) : FOk q1j g :=
  q0a ann_law34_awake Try.f13 _ (.cons h0 (.cons h1 (.cons h2 .nil))) rfl rfl enter_law34_awake (by decide) fun ds outs hw hg => by rw [code_law34_awake g0 g1 g2 _ rfl]; exact h ds outs hw hg

def q1l : Ct := ⟨16, [.val (.st 34)], [(.st 34, true)], [], none⟩
theorem enter_ref34_Clone (args : Array Value) (w : World) : (callFunc q1l.f args).run Try.prog w = .ok (.enter q1l.f args) w := by kernel_rfl
def ann_ref34_Clone : Ann := ⟨[0, 1, 2], []⟩
def q38 : Tree := (.need [(.le (.add (.lit (.i 0)) (.len (.fld (.tok 0) 2))) (.lit (.i 17592186043904))), (.le (.add (.lit (.i 0)) (.len (.fld (.tok 0) 1))) (.lit (.i 17592186043904))), (.le (.add (.lit (.i 0)) (.len (.fld (.tok 0) 0))) (.lit (.i 8796093021952))), (.le (.add (.lit (.i 0)) (.len (.fld (.tok 0) 0))) (.lit (.i 8796093021952)))] (.leaf [(.mk [(.app (.row []) (.fld (.tok 0) 0)), (.app (.row []) (.fld (.tok 0) 1)), (.app (.row []) (.fld (.tok 0) 2))])]))
set_option maxRecDepth 100000 in
theorem code_ref34_Clone : ∀ cd, Try.f16.body = some cd → treeOf Try.prog [] ann_ref34_Clone q1l Try.f16 cd = q38 := by
  intro cd h
  injection h with h
  subst h
  kernel_rfl
theorem fok_ref34_Clone {g : List D → Option (List D)}  (h : ∀ ds outs, WfA q1l.ars ds → g ds = some outs → q38.go (tblS []) (fun o => o = outs) ds fun _ _ => False) : FOk q1l g :=
  q0a ann_ref34_Clone Try.f16 _ .nil rfl rfl enter_ref34_Clone (by decide) fun ds outs hw hg => by rw [code_ref34_Clone  _ rfl]; exact h ds outs hw hg

def q0q : Ct := ⟨39, [.val (.row 31)], [(.row 31, true)], [], none⟩
theorem enter_slices_Clone_Cell (args : Array Value) (w : World) : (callFunc q0q.f args).run Try.prog w = .ok (.enter q0q.f args) w := by kernel_rfl
def q39 : Ann := ⟨[0, 2, 4], []⟩
def q2u : Tree := (.amb (.tok 0) .false (.leaf [(.lit (.r []))]) (.need [(.le (.add (.lit (.i 0)) (.len (.tok 0))) (.lit (.i 8796093021952)))] (.leaf [(.app (.row []) (.tok 0))])))
set_option maxRecDepth 100000 in
theorem code_slices_Clone_Cell : ∀ cd, Try.f39.body = some cd → treeOf Try.prog [] q39 q0q Try.f39 cd = q2u := by
  intro cd h
  injection h with h
  subst h
  kernel_rfl
theorem fok_slices_Clone_Cell {g : List D → Option (List D)}  (h : ∀ ds outs, WfA q0q.ars ds → g ds = some outs → q2u.go (tblS []) (fun o => o = outs) ds fun _ _ => False) : FOk q0q g :=
  q0a q39 Try.f39 _ .nil rfl rfl enter_slices_Clone_Cell (by decide) fun ds outs hw hg => by rw [code_slices_Clone_Cell  _ rfl]; exact h ds outs hw hg

def q0m : Ct := ⟨40, [.val (.row 51)], [(.row 51, true)], [], none⟩
theorem q3z (args : Array Value) (w : World) : (callFunc q0m.f args).run Try.prog w = .ok (.enter q0m.f args) w := by kernel_rfl
def q2j : Ann := ⟨[0, 2, 4], []⟩
def q2f : Tree := (.amb (.tok 0) .false (.leaf [(.lit (.r []))]) (.need [(.le (.add (.lit (.i 0)) (.len (.tok 0))) (.lit (.i 5864062014634)))] (.leaf [(.app (.row []) (.tok 0))])))
set_option maxRecDepth 100000 in
theorem q43 : ∀ cd, Try.f40.body = some cd → treeOf Try.prog [] q2j q0m Try.f40 cd = q2f := by
  intro cd h
  injection h with h
  subst h
  kernel_rfl
theorem fok_slices_Clone_Symbol {g : List D → Option (List D)}  (h : ∀ ds outs, WfA q0m.ars ds → g ds = some outs → q2f.go (tblS []) (fun o => o = outs) ds fun _ _ => False) : FOk q0m g :=
  q0a q2j Try.f40 _ .nil rfl rfl q3z (by decide) fun ds outs hw hg => by rw [q43  _ rfl]; exact h ds outs hw hg

def q0r : Ct := ⟨41, [.val (.row 37)], [(.row 37, true)], [], none⟩
theorem enter_slices_Clone_Undo (args : Array Value) (w : World) : (callFunc q0r.f args).run Try.prog w = .ok (.enter q0r.f args) w := by kernel_rfl
def q3b : Ann := ⟨[0, 2, 4], []⟩
def q2r : Tree := (.amb (.tok 0) .false (.leaf [(.lit (.r []))]) (.need [(.le (.add (.lit (.i 0)) (.len (.tok 0))) (.lit (.i 5864062014634)))] (.leaf [(.app (.row []) (.tok 0))])))
set_option maxRecDepth 100000 in
theorem code_slices_Clone_Undo : ∀ cd, Try.f41.body = some cd → treeOf Try.prog [] q3b q0r Try.f41 cd = q2r := by
  intro cd h
  injection h with h
  subst h
  kernel_rfl
theorem fok_slices_Clone_Undo {g : List D → Option (List D)}  (h : ∀ ds outs, WfA q0r.ars ds → g ds = some outs → q2r.go (tblS []) (fun o => o = outs) ds fun _ _ => False) : FOk q0r g :=
  q0a q3b Try.f41 _ .nil rfl rfl enter_slices_Clone_Undo (by decide) fun ds outs hw hg => by rw [code_slices_Clone_Undo  _ rfl]; exact h ds outs hw hg

def q0s : Ct := ⟨42, [.val (.row 63)], [(.row 63, true)], [], none⟩
theorem enter_slices_Clone_Wake (args : Array Value) (w : World) : (callFunc q0s.f args).run Try.prog w = .ok (.enter q0s.f args) w := by kernel_rfl
def q3a : Ann := ⟨[0, 2, 4], []⟩
def q2t : Tree := (.amb (.tok 0) .false (.leaf [(.lit (.r []))]) (.need [(.le (.add (.lit (.i 0)) (.len (.tok 0))) (.lit (.i 3518437208780)))] (.leaf [(.app (.row []) (.tok 0))])))
set_option maxRecDepth 100000 in
theorem code_slices_Clone_Wake : ∀ cd, Try.f42.body = some cd → treeOf Try.prog [] q3a q0s Try.f42 cd = q2t := by
  intro cd h
  injection h with h
  subst h
  kernel_rfl
theorem fok_slices_Clone_Wake {g : List D → Option (List D)}  (h : ∀ ds outs, WfA q0s.ars ds → g ds = some outs → q2t.go (tblS []) (fun o => o = outs) ds fun _ _ => False) : FOk q0s g :=
  q0a q3a Try.f42 _ .nil rfl rfl enter_slices_Clone_Wake (by decide) fun ds outs hw hg => by rw [code_slices_Clone_Wake  _ rfl]; exact h ds outs hw hg

def q1m : Ct := ⟨24, [.val (.st 27)], [(.st 27, true)], [], none⟩
theorem enter_cells_Clone (args : Array Value) (w : World) : (callFunc q1m.f args).run Try.prog w = .ok (.enter q1m.f args) w := by kernel_rfl
def ann_cells_Clone : Ann := ⟨[0, 1, 2], []⟩
def q36 : Tree := (.need [(.ok 0 [(.fld (.tok 0) 0)])] (.need [(.ok 1 [(.fld (.tok 0) 1)])] (.need [(.ok 2 [(.fld (.tok 0) 2)])] (.need [(.ok 3 [(.fld (.tok 0) 3)])] (.leaf [(.set (.set (.set (.set (.tok 0) 0 (.call 0 0 [(.fld (.tok 0) 0)])) 1 (.call 1 0 [(.fld (.tok 0) 1)])) 2 (.call 2 0 [(.fld (.tok 0) 2)])) 3 (.call 3 0 [(.fld (.tok 0) 3)]))])))))
set_option maxRecDepth 100000 in
theorem code_cells_Clone (g0 g1 g2 g3 : List D → Option (List D)) : ∀ cd, Try.f24.body = some cd → treeOf Try.prog [(q0q, g0), (q0m, g1), (q0r, g2), (q0s, g3)] ann_cells_Clone q1m Try.f24 cd = q36 := by
  intro cd h
  injection h with h
  subst h
  kernel_rfl
theorem fok_cells_Clone {g0 g1 g2 g3 : List D → Option (List D)} {g : List D → Option (List D)} (h0 : FOk q0q g0) (h1 : FOk q0m g1) (h2 : FOk q0r g2) (h3 : FOk q0s g3) (h : ∀ ds outs, WfA q1m.ars ds → g ds = some outs → q36.go (tblS [(q0q, g0), (q0m, g1), (q0r, g2), (q0s, g3)]) (fun o => o = outs) ds fun _ _ => False) : FOk q1m g :=
  q0a ann_cells_Clone Try.f24 _ (.cons h0 (.cons h1 (.cons h2 (.cons h3 .nil)))) rfl rfl enter_cells_Clone (by decide) fun ds outs hw hg => by rw [code_cells_Clone g0 g1 g2 g3 _ rfl]; exact h ds outs hw hg

def q1k : Ct := ⟨79, [.val (.st 27), .val (.st 30)], [(.st 30, false)], [], none⟩
theorem enter_cells_Deref (args : Array Value) (w : World) : (callFunc q1k.f args).run Try.prog w = .ok (.enter q1k.f args) w := by kernel_rfl
def ann_cells_Deref : Ann := ⟨[0, 1, 2, 3, 4, 8, 12, 13, 14, 34], [(4, ⟨[(13, .int .i64, false)], [3], [14, 15, 16, 17, 18, 19, 20, 21, 22, 23, 24, 25, 26, 27, 28, 29, 30, 31, 32, 33, 34, 35, 36, 37, 38, 39, 40, 41], []⟩)]⟩
def q32 : Tree := (.need [(.ok 0 [(.tok 0), (.tok 1)])] (.br (.not (.call 0 0 [(.tok 0), (.tok 1)])) (.leaf [(.lit (.a [(.i 0), (.i 0)]))]) (.loop 4 2 [(.lit (.i 0)), (.tok 1)] (.br (.lt (.tok 2) (.len (.fld (.tok 0) 0))) (.need [(.imp (.not (.or (.not (.eq (.fld (.tok 3) 0) (.lit (.i 0)))) (.lt (.call 1 0 [(.tok 0), (.fld (.tok 3) 1)]) (.lit (.i 0))))) (.le (.lit (.i 0)) (.fld (.tok 3) 1))), (.imp (.not (.or (.not (.eq (.fld (.tok 3) 0) (.lit (.i 0)))) (.lt (.call 1 0 [(.tok 0), (.fld (.tok 3) 1)]) (.lit (.i 0))))) (.lt (.fld (.tok 3) 1) (.len (.fld (.tok 0) 0)))), (.imp (.not (.or (.not (.eq (.fld (.tok 3) 0) (.lit (.i 0)))) (.lt (.call 1 0 [(.tok 0), (.fld (.tok 3) 1)]) (.lit (.i 0))))) (.le (.lit (.i 0)) (.fld (.tok 3) 1))), (.imp (.not (.or (.not (.eq (.fld (.tok 3) 0) (.lit (.i 0)))) (.lt (.call 1 0 [(.tok 0), (.fld (.tok 3) 1)]) (.lit (.i 0))))) (.lt (.fld (.tok 3) 1) (.len (.fld (.tok 0) 0)))), (.imp (.not (.not (.eq (.fld (.tok 3) 0) (.lit (.i 0))))) (.ok 1 [(.tok 0), (.fld (.tok 3) 1)]))] (.br (.or (.or (.not (.eq (.fld (.tok 3) 0) (.lit (.i 0)))) (.lt (.call 1 0 [(.tok 0), (.fld (.tok 3) 1)]) (.lit (.i 0)))) (.eq (.get (.fld (.tok 0) 0) (.fld (.tok 3) 1)) (.tok 3))) (.leaf [(.tok 3)]) (.need [(.le (.lit (.i 0)) (.fld (.tok 3) 1)), (.lt (.fld (.tok 3) 1) (.len (.fld (.tok 0) 0)))] (.need [(.rng .i64 (.add (.tok 2) (.lit (.i 1))))] (.back 4 [(.add (.tok 2) (.lit (.i 1))), (.get (.fld (.tok 0) 0) (.fld (.tok 3) 1))]))))) (.leaf [(.tok 3)])))))
set_option maxRecDepth 100000 in
theorem code_cells_Deref (g0 g1 : List D → Option (List D)) : ∀ cd, Try.f79.body = some cd → treeOf Try.prog [(q05, g0), (q09, g1)] ann_cells_Deref q1k Try.f79 cd = q32 := by
  intro cd h
  injection h with h
  subst h
  kernel_rfl
theorem fok_cells_Deref {g0 g1 : List D → Option (List D)} {g : List D → Option (List D)} (h0 : FOk q05 g0) (h1 : FOk q09 g1) (h : ∀ ds outs, WfA q1k.ars ds → g ds = some outs → q32.go (tblS [(q05, g0), (q09, g1)]) (fun o => o = outs) ds fun _ _ => False) : FOk q1k g :=
  q0a ann_cells_Deref Try.f79 _ (.cons h0 (.cons h1 .nil)) rfl rfl enter_cells_Deref (by decide) fun ds outs hw hg => by rw [code_cells_Deref g0 g1 _ rfl]; exact h ds outs hw hg

def q1x : Ct := ⟨80, [.val (.int .i64)], [(.st 80, false)], [], none⟩
theorem enter_term_Int (args : Array Value) (w : World) : (callFunc q1x.f args).run Try.prog w = .ok (.enter q1x.f args) w := by kernel_rfl
def ann_term_Int : Ann := ⟨[0, 2], []⟩
def tree_term_Int : Tree := (.leaf [(.set (.set (.lit (.a [(.i 0), (.i 0), (.s ⟨#[]⟩), (.r [])])) 0 (.lit (.i 1))) 1 (.tok 0))])
set_option maxRecDepth 100000 in
theorem code_term_Int : ∀ cd, Try.f80.body = some cd → treeOf Try.prog [] ann_term_Int q1x Try.f80 cd = tree_term_Int := by
  intro cd h
  injection h with h
  subst h
  kernel_rfl
theorem fok_term_Int {g : List D → Option (List D)}  (h : ∀ ds outs, WfA q1x.ars ds → g ds = some outs → tree_term_Int.go (tblS []) (fun o => o = outs) ds fun _ _ => False) : FOk q1x g :=
  q0a ann_term_Int Try.f80 _ .nil rfl rfl enter_term_Int (by decide) fun ds outs hw hg => by rw [code_term_Int  _ rfl]; exact h ds outs hw hg

def q0z : Ct := ⟨78, [.val (.st 30), .ref (.int .i64), .rref (.st 27), .cell 111 4], [(.st 80, false)], [(.cell 3, .fn 78 [1, 2, 3])], none⟩
theorem enter_cells_Get_1 (args : Array Value) (w : World) : (callFunc q0z.f args).run Try.prog w = .ok (.enter q0z.f args) w := by kernel_rfl
def q19 : Ct := ⟨70, [.val (.str)], [(.st 80, false)], [], none⟩
theorem enter_term_Atom (args : Array Value) (w : World) : (callFunc q19.f args).run Try.prog w = .ok (.enter q19.f args) w := by kernel_rfl
def ann_cells_Get_1 : Ann := ⟨[0, 1, 2, 3, 4, 5, 6, 7, 8, 12, 17, 24, 43, 99], [(13, ⟨[(8, .int .i64, false)], [1, 7], [83, 84, 85, 86, 87, 88, 89, 90, 91, 92, 93, 94, 95, 96, 97, 98, 99, 102, 103, 104, 105, 106, 107, 108, 109, 110, 111, 112, 113, 100, 101], []⟩)]⟩
def q2z : Tree := (.need [(.rng .i64 (.sub (.tok 1) (.lit (.i 1))))] (.br (.lt (.sub (.tok 1) (.lit (.i 1))) (.lit (.i 0))) (.leaf [(.lit (.a [(.i 0), (.i 0), (.s ⟨#[]⟩), (.r [])])), (.sub (.tok 1) (.lit (.i 1)))]) (.need [(.ok 1 [(.tok 2), (.tok 0)])] (.br (.eq (.fld (.call 1 0 [(.tok 2), (.tok 0)]) 0) (.lit (.i 1))) (.need [(.ok 2 [(.fld (.call 1 0 [(.tok 2), (.tok 0)]) 1)])] (.leaf [(.call 2 0 [(.fld (.call 1 0 [(.tok 2), (.tok 0)]) 1)]), (.sub (.tok 1) (.lit (.i 1)))])) (.need [(.imp (.eq (.fld (.call 1 0 [(.tok 2), (.tok 0)]) 0) (.lit (.i 2))) (.ok 3 [(.tok 2), (.fld (.call 1 0 [(.tok 2), (.tok 0)]) 1)]))] (.br (.and (.eq (.fld (.call 1 0 [(.tok 2), (.tok 0)]) 0) (.lit (.i 2))) (.le (.lit (.i 0)) (.call 3 0 [(.tok 2), (.fld (.call 1 0 [(.tok 2), (.tok 0)]) 1)]))) (.need [(.le (.lit (.i 0)) (.fld (.call 1 0 [(.tok 2), (.tok 0)]) 1)), (.lt (.fld (.call 1 0 [(.tok 2), (.tok 0)]) 1) (.len (.fld (.tok 2) 1))), (.ok 4 [(.fld (.get (.fld (.tok 2) 1) (.fld (.call 1 0 [(.tok 2), (.tok 0)]) 1)) 0)])] (.leaf [(.call 4 0 [(.fld (.get (.fld (.tok 2) 1) (.fld (.call 1 0 [(.tok 2), (.tok 0)]) 1)) 0)]), (.sub (.tok 1) (.lit (.i 1)))])) (.need [(.imp (.and (.eq (.fld (.call 1 0 [(.tok 2), (.tok 0)]) 0) (.lit (.i 3))) (.eq (.call 5 0 [(.tok 2), (.fld (.call 1 0 [(.tok 2), (.tok 0)]) 1)]) (.lit (.i 4)))) (.ok 3 [(.tok 2), (.fld (.get (.fld (.tok 2) 0) (.fld (.call 1 0 [(.tok 2), (.tok 0)]) 1)) 1)])), (.imp (.and (.eq (.fld (.call 1 0 [(.tok 2), (.tok 0)]) 0) (.lit (.i 3))) (.eq (.call 5 0 [(.tok 2), (.fld (.call 1 0 [(.tok 2), (.tok 0)]) 1)]) (.lit (.i 4)))) (.le (.lit (.i 0)) (.fld (.call 1 0 [(.tok 2), (.tok 0)]) 1))), (.imp (.and (.eq (.fld (.call 1 0 [(.tok 2), (.tok 0)]) 0) (.lit (.i 3))) (.eq (.call 5 0 [(.tok 2), (.fld (.call 1 0 [(.tok 2), (.tok 0)]) 1)]) (.lit (.i 4)))) (.lt (.fld (.call 1 0 [(.tok 2), (.tok 0)]) 1) (.len (.fld (.tok 2) 0)))), (.imp (.eq (.fld (.call 1 0 [(.tok 2), (.tok 0)]) 0) (.lit (.i 3))) (.ok 5 [(.tok 2), (.fld (.call 1 0 [(.tok 2), (.tok 0)]) 1)]))] (.br (.and (.and (.eq (.fld (.call 1 0 [(.tok 2), (.tok 0)]) 0) (.lit (.i 3))) (.eq (.call 5 0 [(.tok 2), (.fld (.call 1 0 [(.tok 2), (.tok 0)]) 1)]) (.lit (.i 4)))) (.le (.lit (.i 0)) (.call 3 0 [(.tok 2), (.fld (.get (.fld (.tok 2) 0) (.fld (.call 1 0 [(.tok 2), (.tok 0)]) 1)) 1)]))) (.need [(.le (.lit (.i 0)) (.fld (.get (.fld (.tok 2) 0) (.fld (.call 1 0 [(.tok 2), (.tok 0)]) 1)) 1)), (.lt (.fld (.get (.fld (.tok 2) 0) (.fld (.call 1 0 [(.tok 2), (.tok 0)]) 1)) 1) (.len (.fld (.tok 2) 1))), (.le (.lit (.i 0)) (.fld (.call 1 0 [(.tok 2), (.tok 0)]) 1)), (.lt (.fld (.call 1 0 [(.tok 2), (.tok 0)]) 1) (.len (.fld (.tok 2) 0)))] (.need [(.rng .i64 (.add (.fld (.call 1 0 [(.tok 2), (.tok 0)]) 1) (.lit (.i 1))))] (.loop 13 3 [(.add (.fld (.call 1 0 [(.tok 2), (.tok 0)]) 1) (.lit (.i 1))), (.sub (.tok 1) (.lit (.i 1))), (.set (.set (.lit (.a [(.i 0), (.i 0), (.s ⟨#[]⟩), (.r [])])) 0 (.lit (.i 3))) 2 (.fld (.get (.fld (.tok 2) 1) (.fld (.get (.fld (.tok 2) 0) (.fld (.call 1 0 [(.tok 2), (.tok 0)]) 1)) 1)) 0))] (.need [(.rng .i64 (.add (.fld (.call 1 0 [(.tok 2), (.tok 0)]) 1) (.fld (.get (.fld (.tok 2) 1) (.fld (.get (.fld (.tok 2) 0) (.fld (.call 1 0 [(.tok 2), (.tok 0)]) 1)) 1)) 1))), (.imp (.le (.tok 3) (.add (.fld (.call 1 0 [(.tok 2), (.tok 0)]) 1) (.fld (.get (.fld (.tok 2) 1) (.fld (.get (.fld (.tok 2) 0) (.fld (.call 1 0 [(.tok 2), (.tok 0)]) 1)) 1)) 1))) (.ok 5 [(.tok 2), (.tok 3)]))] (.br (.and (.and (.le (.tok 3) (.add (.fld (.call 1 0 [(.tok 2), (.tok 0)]) 1) (.fld (.get (.fld (.tok 2) 1) (.fld (.get (.fld (.tok 2) 0) (.fld (.call 1 0 [(.tok 2), (.tok 0)]) 1)) 1)) 1))) (.le (.lit (.i 0)) (.call 5 0 [(.tok 2), (.tok 3)]))) (.le (.lit (.i 0)) (.tok 4))) (.need [(.le (.add (.len (.fld (.tok 5) 3)) (.lit (.i 1))) (.lit (.i 2513169434843))), (.ok 0 [(.get (.fld (.tok 2) 0) (.tok 3)), (.tok 4), (.tok 2)]), (.le (.lit (.i 0)) (.tok 3)), (.lt (.tok 3) (.len (.fld (.tok 2) 0)))] (.need [(.rng .i64 (.add (.tok 3) (.lit (.i 1))))] (.back 13 [(.add (.tok 3) (.lit (.i 1))), (.call 0 1 [(.get (.fld (.tok 2) 0) (.tok 3)), (.tok 4), (.tok 2)]), (.set (.tok 5) 3 (.app (.fld (.tok 5) 3) (.row [(.call 0 0 [(.get (.fld (.tok 2) 0) (.tok 3)), (.tok 4), (.tok 2)])])))]))) (.leaf [(.tok 5), (.tok 4)])))))) (.leaf [(.set (.set (.lit (.a [(.i 0), (.i 0), (.s ⟨#[]⟩), (.r [])])) 0 (.lit (.i 0))) 1 (.fld (.call 1 0 [(.tok 2), (.tok 0)]) 1)), (.sub (.tok 1) (.lit (.i 1)))])))))))))
set_option maxRecDepth 100000 in
theorem code_cells_Get_1 (g0 g1 g2 g3 g4 g5 : List D → Option (List D)) : ∀ cd, Try.f78.body = some cd → treeOf Try.prog [(q0z, g0), (q1k, g1), (q1x, g2), (q0f, g3), (q19, g4), (q09, g5)] ann_cells_Get_1 q0z Try.f78 cd = q2z := by
  intro cd h
  injection h with h
  subst h
  kernel_rfl
theorem fok_cells_Get_1 {g0 g1 g2 g3 g4 g5 : List D → Option (List D)} {g : List D → Option (List D)} (h0 : FOk q0z g0) (h1 : FOk q1k g1) (h2 : FOk q1x g2) (h3 : FOk q0f g3) (h4 : FOk q19 g4) (h5 : FOk q09 g5) (h : ∀ ds outs, WfA q0z.ars ds → g ds = some outs → q2z.go (tblS [(q0z, g0), (q1k, g1), (q1x, g2), (q0f, g3), (q19, g4), (q09, g5)]) (fun o => o = outs) ds fun _ _ => False) : FOk q0z g :=
  q0a ann_cells_Get_1 Try.f78 _ (.cons h0 (.cons h1 (.cons h2 (.cons h3 (.cons h4 (.cons h5 .nil)))))) rfl rfl enter_cells_Get_1 (by decide) fun ds outs hw hg => by rw [code_cells_Get_1 g0 g1 g2 g3 g4 g5 _ rfl]; exact h ds outs hw hg

def q1r : Ct := ⟨67, [.val (.st 27), .val (.st 30)], [(.st 80, false), (.int .i64, false)], [], none⟩
theorem enter_cells_Get (args : Array Value) (w : World) : (callFunc q1r.f args).run Try.prog w = .ok (.enter q1r.f args) w := by kernel_rfl
def ann_cells_Get : Ann := ⟨[0, 1, 2, 3, 4, 5, 6, 7, 11, 18], []⟩
def q3v : Tree := (.need [(.ok 1 [(.tok 0), (.tok 1)])] (.br (.not (.call 1 0 [(.tok 0), (.tok 1)])) (.leaf [(.lit (.a [(.i 0), (.i 0), (.s ⟨#[]⟩), (.r [])])), (.lit (.i 1))]) (.need [(.ok 0 [(.tok 1), (.lit (.i 2000)), (.tok 0)])] (.br (.lt (.call 0 1 [(.tok 1), (.lit (.i 2000)), (.tok 0)]) (.lit (.i 0))) (.leaf [(.lit (.a [(.i 0), (.i 0), (.s ⟨#[]⟩), (.r [])])), (.lit (.i 2))]) (.leaf [(.call 0 0 [(.tok 1), (.lit (.i 2000)), (.tok 0)]), (.lit (.i 0))])))))
set_option maxRecDepth 100000 in
theorem code_cells_Get (g0 g1 : List D → Option (List D)) : ∀ cd, Try.f67.body = some cd → treeOf Try.prog [(q0z, g0), (q05, g1)] ann_cells_Get q1r Try.f67 cd = q3v := by
  intro cd h
  injection h with h
  subst h
  kernel_rfl
theorem fok_cells_Get {g0 g1 : List D → Option (List D)} {g : List D → Option (List D)} (h0 : FOk q0z g0) (h1 : FOk q05 g1) (h : ∀ ds outs, WfA q1r.ars ds → g ds = some outs → q3v.go (tblS [(q0z, g0), (q05, g1)]) (fun o => o = outs) ds fun _ _ => False) : FOk q1r g :=
  q0a ann_cells_Get Try.f67 _ (.cons h0 (.cons h1 .nil)) rfl rfl enter_cells_Get (by decide) fun ds outs hw hg => by rw [code_cells_Get g0 g1 _ rfl]; exact h ds outs hw hg

def q10 : Ct := ⟨81, [.val (.st 80), .ref (.int .i64), .cell 114 3], [], [(.cell 2, .fn 81 [1, 2])], none⟩
theorem enter_term_Size_1 (args : Array Value) (w : World) : (callFunc q10.f args).run Try.prog w = .ok (.enter q10.f args) w := by kernel_rfl
def ann_term_Size_1 : Ann := ⟨[0, 1, 2, 3, 4, 15], [(3, ⟨[(4, .int .i64, false)], [1], [7, 8, 9, 10, 11, 12, 13, 14, 15, 18, 19, 20, 21, 22, 23, 24, 16, 17], []⟩)]⟩
def q34 : Tree := (.need [(.rng .i64 (.sub (.tok 1) (.lit (.i 1))))] (.loop 3 2 [(.lit (.i 0)), (.sub (.tok 1) (.lit (.i 1)))] (.br (.and (.lt (.tok 2) (.len (.fld (.tok 0) 3))) (.lt (.lit (.i 0)) (.tok 3))) (.need [(.ok 0 [(.get (.fld (.tok 0) 3) (.tok 2)), (.tok 3)]), (.le (.lit (.i 0)) (.tok 2)), (.lt (.tok 2) (.len (.fld (.tok 0) 3)))] (.need [(.rng .i64 (.add (.tok 2) (.lit (.i 1))))] (.back 3 [(.add (.tok 2) (.lit (.i 1))), (.call 0 0 [(.get (.fld (.tok 0) 3) (.tok 2)), (.tok 3)])]))) (.leaf [(.tok 3)]))))
set_option maxRecDepth 100000 in
theorem code_term_Size_1 (g0 : List D → Option (List D)) : ∀ cd, Try.f81.body = some cd → treeOf Try.prog [(q10, g0)] ann_term_Size_1 q10 Try.f81 cd = q34 := by
  intro cd h
  injection h with h
  subst h
  kernel_rfl
theorem fok_term_Size_1 {g0 : List D → Option (List D)} {g : List D → Option (List D)} (h0 : FOk q10 g0) (h : ∀ ds outs, WfA q10.ars ds → g ds = some outs → q34.go (tblS [(q10, g0)]) (fun o => o = outs) ds fun _ _ => False) : FOk q10 g :=
  q0a ann_term_Size_1 Try.f81 _ (.cons h0 .nil) rfl rfl enter_term_Size_1 (by decide) fun ds outs hw hg => by rw [code_term_Size_1 g0 _ rfl]; exact h ds outs hw hg

def q0w : Ct := ⟨68, [.val (.st 80)], [(.int .i64, false)], [], none⟩
theorem enter_term_Size (args : Array Value) (w : World) : (callFunc q0w.f args).run Try.prog w = .ok (.enter q0w.f args) w := by kernel_rfl
def ann_term_Size : Ann := ⟨[0, 1, 2, 3, 4], []⟩
def q3t : Tree := (.need [(.ok 0 [(.tok 0), (.lit (.i 2001))])] (.need [(.rng .i64 (.sub (.lit (.i 2001)) (.call 0 0 [(.tok 0), (.lit (.i 2001))])))] (.leaf [(.sub (.lit (.i 2001)) (.call 0 0 [(.tok 0), (.lit (.i 2001))]))])))
set_option maxRecDepth 100000 in
theorem code_term_Size (g0 : List D → Option (List D)) : ∀ cd, Try.f68.body = some cd → treeOf Try.prog [(q10, g0)] ann_term_Size q0w Try.f68 cd = q3t := by
  intro cd h
  injection h with h
  subst h
  kernel_rfl
theorem fok_term_Size {g0 : List D → Option (List D)} {g : List D → Option (List D)} (h0 : FOk q10 g0) (h : ∀ ds outs, WfA q0w.ars ds → g ds = some outs → q3t.go (tblS [(q10, g0)]) (fun o => o = outs) ds fun _ _ => False) : FOk q0w g :=
  q0a ann_term_Size Try.f68 _ (.cons h0 .nil) rfl rfl enter_term_Size (by decide) fun ds outs hw hg => by rw [code_term_Size g0 _ rfl]; exact h ds outs hw hg

def q0j : Ct := ⟨82, [.val (.st 80)], [(.bool, false)], [], none⟩
theorem enter_term_fits (args : Array Value) (w : World) : (callFunc q0j.f args).run Try.prog w = .ok (.enter q0j.f args) w := by kernel_rfl
def ann_term_fits : Ann := ⟨[0, 1, 2, 3, 4, 6, 7, 28, 39, 56, 86], [(12, ⟨[(3, .bool, false), (4, .int .i64, false)], [], [79, 80, 81, 82, 83, 84, 85, 86, 89, 90, 91, 92, 93, 94, 87, 88], []⟩)]⟩
def q3u : Tree := (.br (.eq (.fld (.tok 0) 0) (.lit (.i 0))) (.loop 12 1 [(.and (.and (.and (.le (.lit (.i 0)) (.fld (.tok 0) 1)) (.le (.fld (.tok 0) 1) (.lit (.i 1099511627776)))) (.eq (.fld (.tok 0) 2) (.lit (.s ⟨#[]⟩)))) (.eq (.len (.fld (.tok 0) 3)) (.lit (.i 0)))), (.lit (.i 0))] (.br (.and (.lt (.tok 2) (.len (.fld (.tok 0) 3))) (.tok 1)) (.need [(.le (.lit (.i 0)) (.tok 2)), (.lt (.tok 2) (.len (.fld (.tok 0) 3))), (.ok 0 [(.get (.fld (.tok 0) 3) (.tok 2))])] (.need [(.rng .i64 (.add (.tok 2) (.lit (.i 1))))] (.back 12 [(.call 0 0 [(.get (.fld (.tok 0) 3) (.tok 2))]), (.add (.tok 2) (.lit (.i 1)))]))) (.leaf [(.tok 1)]))) (.br (.eq (.fld (.tok 0) 0) (.lit (.i 1))) (.loop 12 1 [(.and (.eq (.fld (.tok 0) 2) (.lit (.s ⟨#[]⟩))) (.eq (.len (.fld (.tok 0) 3)) (.lit (.i 0)))), (.lit (.i 0))] (.br (.and (.lt (.tok 2) (.len (.fld (.tok 0) 3))) (.tok 1)) (.need [(.le (.lit (.i 0)) (.tok 2)), (.lt (.tok 2) (.len (.fld (.tok 0) 3))), (.ok 0 [(.get (.fld (.tok 0) 3) (.tok 2))])] (.need [(.rng .i64 (.add (.tok 2) (.lit (.i 1))))] (.back 12 [(.call 0 0 [(.get (.fld (.tok 0) 3) (.tok 2))]), (.add (.tok 2) (.lit (.i 1)))]))) (.leaf [(.tok 1)]))) (.br (.eq (.fld (.tok 0) 0) (.lit (.i 2))) (.loop 12 1 [(.and (.and (.eq (.fld (.tok 0) 1) (.lit (.i 0))) (.le (.slen (.fld (.tok 0) 2)) (.lit (.i 100)))) (.eq (.len (.fld (.tok 0) 3)) (.lit (.i 0)))), (.lit (.i 0))] (.br (.and (.lt (.tok 2) (.len (.fld (.tok 0) 3))) (.tok 1)) (.need [(.le (.lit (.i 0)) (.tok 2)), (.lt (.tok 2) (.len (.fld (.tok 0) 3))), (.ok 0 [(.get (.fld (.tok 0) 3) (.tok 2))])] (.need [(.rng .i64 (.add (.tok 2) (.lit (.i 1))))] (.back 12 [(.call 0 0 [(.get (.fld (.tok 0) 3) (.tok 2))]), (.add (.tok 2) (.lit (.i 1)))]))) (.leaf [(.tok 1)]))) (.br (.eq (.fld (.tok 0) 0) (.lit (.i 3))) (.loop 12 1 [(.and (.and (.and (.eq (.fld (.tok 0) 1) (.lit (.i 0))) (.le (.slen (.fld (.tok 0) 2)) (.lit (.i 100)))) (.lt (.lit (.i 0)) (.len (.fld (.tok 0) 3)))) (.le (.len (.fld (.tok 0) 3)) (.lit (.i 8)))), (.lit (.i 0))] (.br (.and (.lt (.tok 2) (.len (.fld (.tok 0) 3))) (.tok 1)) (.need [(.le (.lit (.i 0)) (.tok 2)), (.lt (.tok 2) (.len (.fld (.tok 0) 3))), (.ok 0 [(.get (.fld (.tok 0) 3) (.tok 2))])] (.need [(.rng .i64 (.add (.tok 2) (.lit (.i 1))))] (.back 12 [(.call 0 0 [(.get (.fld (.tok 0) 3) (.tok 2))]), (.add (.tok 2) (.lit (.i 1)))]))) (.leaf [(.tok 1)]))) (.loop 12 1 [(.lit (.b .false)), (.lit (.i 0))] (.br (.and (.lt (.tok 2) (.len (.fld (.tok 0) 3))) (.tok 1)) (.need [(.le (.lit (.i 0)) (.tok 2)), (.lt (.tok 2) (.len (.fld (.tok 0) 3))), (.ok 0 [(.get (.fld (.tok 0) 3) (.tok 2))])] (.need [(.rng .i64 (.add (.tok 2) (.lit (.i 1))))] (.back 12 [(.call 0 0 [(.get (.fld (.tok 0) 3) (.tok 2))]), (.add (.tok 2) (.lit (.i 1)))]))) (.leaf [(.tok 1)])))))))
set_option maxRecDepth 100000 in
theorem code_term_fits (g0 : List D → Option (List D)) : ∀ cd, Try.f82.body = some cd → treeOf Try.prog [(q0j, g0)] ann_term_fits q0j Try.f82 cd = q3u := by
  intro cd h
  injection h with h
  subst h
  kernel_rfl
theorem fok_term_fits {g0 : List D → Option (List D)} {g : List D → Option (List D)} (h0 : FOk q0j g0) (h : ∀ ds outs, WfA q0j.ars ds → g ds = some outs → q3u.go (tblS [(q0j, g0)]) (fun o => o = outs) ds fun _ _ => False) : FOk q0j g :=
  q0a ann_term_fits Try.f82 _ (.cons h0 .nil) rfl rfl enter_term_fits (by decide) fun ds outs hw hg => by rw [code_term_fits g0 _ rfl]; exact h ds outs hw hg

def q1c : Ct := ⟨86, [.val (.st 80)], [(.st 80, false)], [], none⟩
theorem enter_term_Clone_1 (args : Array Value) (w : World) : (callFunc q1c.f args).run Try.prog w = .ok (.enter q1c.f args) w := by kernel_rfl
def ann_term_Clone_1 : Ann := ⟨[0, 1, 2], []⟩
def q2o : Tree := (.leaf [(.tok 0)])
set_option maxRecDepth 100000 in
theorem code_term_Clone_1 : ∀ cd, Try.f86.body = some cd → treeOf Try.prog [] ann_term_Clone_1 q1c Try.f86 cd = q2o := by
  intro cd h
  injection h with h
  subst h
  kernel_rfl
theorem fok_term_Clone_1 {g : List D → Option (List D)}  (h : ∀ ds outs, WfA q1c.ars ds → g ds = some outs → q2o.go (tblS []) (fun o => o = outs) ds fun _ _ => False) : FOk q1c g :=
  q0a ann_term_Clone_1 Try.f86 _ .nil rfl rfl enter_term_Clone_1 (by decide) fun ds outs hw hg => by rw [code_term_Clone_1  _ rfl]; exact h ds outs hw hg

def q15 : Ct := ⟨84, [.val (.st 80), .fn 86 []], [(.st 80, false)], [], none⟩
theorem enter_term_apply (args : Array Value) (w : World) : (callFunc q15.f args).run Try.prog w = .ok (.enter q15.f args) w := by kernel_rfl
def ann_term_apply : Ann := ⟨[0, 1, 2, 4, 5, 7, 10, 22, 23, 24, 25], [(5, ⟨[(24, .int .i64, false)], [5], [25, 26, 27, 7, 28, 29, 30, 31, 32, 33, 34, 35, 36], []⟩)]⟩
def q3h : Tree := (.br (.eq (.fld (.tok 0) 0) (.lit (.i 0))) (.need [(.ok 0 [(.tok 0)])] (.leaf [(.call 0 0 [(.tok 0)])])) (.loop 5 1 [(.lit (.i 0)), (.set (.set (.set (.lit (.a [(.i 0), (.i 0), (.s ⟨#[]⟩), (.r [])])) 0 (.fld (.tok 0) 0)) 1 (.fld (.tok 0) 1)) 2 (.fld (.tok 0) 2))] (.br (.lt (.tok 1) (.len (.fld (.tok 0) 3))) (.need [(.le (.lit (.i 0)) (.tok 1)), (.lt (.tok 1) (.len (.fld (.tok 0) 3)))] (.need [(.le (.add (.len (.fld (.tok 2) 3)) (.lit (.i 1))) (.lit (.i 2513169434843))), (.ok 1 [(.get (.fld (.tok 0) 3) (.tok 1))])] (.need [(.rng .i64 (.add (.tok 1) (.lit (.i 1))))] (.back 5 [(.add (.tok 1) (.lit (.i 1))), (.set (.tok 2) 3 (.app (.fld (.tok 2) 3) (.row [(.call 1 0 [(.get (.fld (.tok 0) 3) (.tok 1))])])))])))) (.leaf [(.tok 2)]))))
set_option maxRecDepth 100000 in
theorem code_term_apply (g0 g1 : List D → Option (List D)) : ∀ cd, Try.f84.body = some cd → treeOf Try.prog [(q1c, g0), (q15, g1)] ann_term_apply q15 Try.f84 cd = q3h := by
  intro cd h
  injection h with h
  subst h
  kernel_rfl
theorem fok_term_apply {g0 g1 : List D → Option (List D)} {g : List D → Option (List D)} (h0 : FOk q1c g0) (h1 : FOk q15 g1) (h : ∀ ds outs, WfA q15.ars ds → g ds = some outs → q3h.go (tblS [(q1c, g0), (q15, g1)]) (fun o => o = outs) ds fun _ _ => False) : FOk q15 g :=
  q0a ann_term_apply Try.f84 _ (.cons h0 (.cons h1 .nil)) rfl rfl enter_term_apply (by decide) fun ds outs hw hg => by rw [code_term_apply g0 g1 _ rfl]; exact h ds outs hw hg

def q14 : Ct := ⟨83, [.val (.st 80)], [(.st 80, false)], [], none⟩
theorem enter_term_Clone (args : Array Value) (w : World) : (callFunc q14.f args).run Try.prog w = .ok (.enter q14.f args) w := by kernel_rfl
def q0h : Ct := ⟨71, [.val (.st 80)], [(.bool, false)], [], none⟩
theorem enter_term_Valid (args : Array Value) (w : World) : (callFunc q0h.f args).run Try.prog w = .ok (.enter q0h.f args) w := by kernel_rfl
def ann_term_Clone : Ann := ⟨[0, 1, 2, 5], []⟩
def q3k : Tree := (.need [(.ok 0 [(.tok 0)])] (.br (.not (.call 0 0 [(.tok 0)])) (.leaf [(.lit (.a [(.i 0), (.i 0), (.s ⟨#[]⟩), (.r [])]))]) (.need [(.ok 1 [(.tok 0)])] (.leaf [(.call 1 0 [(.tok 0)])]))))
set_option maxRecDepth 100000 in
theorem code_term_Clone (g0 g1 : List D → Option (List D)) : ∀ cd, Try.f83.body = some cd → treeOf Try.prog [(q0h, g0), (q15, g1)] ann_term_Clone q14 Try.f83 cd = q3k := by
  intro cd h
  injection h with h
  subst h
  kernel_rfl
theorem fok_term_Clone {g0 g1 : List D → Option (List D)} {g : List D → Option (List D)} (h0 : FOk q0h g0) (h1 : FOk q15 g1) (h : ∀ ds outs, WfA q14.ars ds → g ds = some outs → q3k.go (tblS [(q0h, g0), (q15, g1)]) (fun o => o = outs) ds fun _ _ => False) : FOk q14 g :=
  q0a ann_term_Clone Try.f83 _ (.cons h0 (.cons h1 .nil)) rfl rfl enter_term_Clone (by decide) fun ds outs hw hg => by rw [code_term_Clone g0 g1 _ rfl]; exact h ds outs hw hg

def ann_term_Valid : Ann := ⟨[0, 1, 2], []⟩
def q3i : Tree := (.need [(.ok 0 [(.tok 0)]), (.imp (.le (.call 0 0 [(.tok 0)]) (.lit (.i 2000))) (.ok 1 [(.tok 0)]))] (.leaf [(.and (.le (.call 0 0 [(.tok 0)]) (.lit (.i 2000))) (.call 1 0 [(.tok 0)]))]))
set_option maxRecDepth 100000 in
theorem code_term_Valid (g0 g1 : List D → Option (List D)) : ∀ cd, Try.f71.body = some cd → treeOf Try.prog [(q0w, g0), (q0j, g1)] ann_term_Valid q0h Try.f71 cd = q3i := by
  intro cd h
  injection h with h
  subst h
  kernel_rfl
theorem fok_term_Valid {g0 g1 : List D → Option (List D)} {g : List D → Option (List D)} (h0 : FOk q0w g0) (h1 : FOk q0j g1) (h : ∀ ds outs, WfA q0h.ars ds → g ds = some outs → q3i.go (tblS [(q0w, g0), (q0j, g1)]) (fun o => o = outs) ds fun _ _ => False) : FOk q0h g :=
  q0a ann_term_Valid Try.f71 _ (.cons h0 (.cons h1 .nil)) rfl rfl enter_term_Valid (by decide) fun ds outs hw hg => by rw [code_term_Valid g0 g1 _ rfl]; exact h ds outs hw hg

def ann_term_Atom : Ann := ⟨[0, 2], []⟩
def q3r : Tree := (.need [(.ok 0 [(.set (.set (.lit (.a [(.i 0), (.i 0), (.s ⟨#[]⟩), (.r [])])) 0 (.lit (.i 2))) 2 (.tok 0))])] (.leaf [(.call 0 0 [(.set (.set (.lit (.a [(.i 0), (.i 0), (.s ⟨#[]⟩), (.r [])])) 0 (.lit (.i 2))) 2 (.tok 0))])]))
set_option maxRecDepth 100000 in
theorem code_term_Atom (g0 : List D → Option (List D)) : ∀ cd, Try.f70.body = some cd → treeOf Try.prog [(q14, g0)] ann_term_Atom q19 Try.f70 cd = q3r := by
  intro cd h
  injection h with h
  subst h
  kernel_rfl
theorem fok_term_Atom {g0 : List D → Option (List D)} {g : List D → Option (List D)} (h0 : FOk q14 g0) (h : ∀ ds outs, WfA q19.ars ds → g ds = some outs → q3r.go (tblS [(q14, g0)]) (fun o => o = outs) ds fun _ _ => False) : FOk q19 g :=
  q0a ann_term_Atom Try.f70 _ (.cons h0 .nil) rfl rfl enter_term_Atom (by decide) fun ds outs hw hg => by rw [code_term_Atom g0 _ rfl]; exact h ds outs hw hg

def q1t : Ct := ⟨69, [.val (.row 81), .val (.st 80)], [(.st 80, false)], [], none⟩
theorem enter_term_List (args : Array Value) (w : World) : (callFunc q1t.f args).run Try.prog w = .ok (.enter q1t.f args) w := by kernel_rfl
def ann_term_List : Ann := ⟨[0, 1, 3, 4, 5, 7, 8, 9, 17, 21, 22, 23, 24, 38, 47], [(5, ⟨[(5, .int .i64, false), (23, .int .i64, false)], [4], [24, 25, 26, 7, 27, 28, 29, 30, 31, 32, 33, 34, 35, 36, 37, 38, 39, 40], []⟩),
  (13, ⟨[(9, .int .i64, false)], [8], [46, 47, 50, 51, 52, 53, 54, 55, 56, 57, 48, 49], []⟩)]⟩
def q3s : Tree := (.need [(.imp (.not (.lt (.lit (.i 2000)) (.len (.tok 0)))) (.ok 0 [(.tok 1)]))] (.br (.or (.lt (.lit (.i 2000)) (.len (.tok 0))) (.not (.call 0 0 [(.tok 1)]))) (.leaf [(.lit (.a [(.i 0), (.i 0), (.s ⟨#[]⟩), (.r [])]))]) (.need [(.ok 1 [(.tok 1)])] (.loop 5 2 [(.call 1 0 [(.tok 1)]), (.lit (.i 0)), (.lit (.a [(.i 0), (.i 0), (.s ⟨#[]⟩), (.r [])]))] (.br (.lt (.tok 3) (.len (.tok 0))) (.need [(.le (.lit (.i 0)) (.tok 3)), (.lt (.tok 3) (.len (.tok 0)))] (.need [(.ok 1 [(.get (.tok 0) (.tok 3))]), (.rng .i64 (.add (.lit (.i 1)) (.call 1 0 [(.get (.tok 0) (.tok 3))]))), (.rng .i64 (.add (.tok 2) (.add (.lit (.i 1)) (.call 1 0 [(.get (.tok 0) (.tok 3))]))))] (.need [(.imp (.not (.lt (.lit (.i 2000)) (.add (.tok 2) (.add (.lit (.i 1)) (.call 1 0 [(.get (.tok 0) (.tok 3))]))))) (.ok 2 [(.get (.tok 0) (.tok 3))]))] (.br (.or (.lt (.lit (.i 2000)) (.add (.tok 2) (.add (.lit (.i 1)) (.call 1 0 [(.get (.tok 0) (.tok 3))])))) (.not (.call 2 0 [(.get (.tok 0) (.tok 3))]))) (.leaf [(.lit (.a [(.i 0), (.i 0), (.s ⟨#[]⟩), (.r [])]))]) (.need [(.rng .i64 (.add (.tok 3) (.lit (.i 1))))] (.back 5 [(.add (.tok 2) (.add (.lit (.i 1)) (.call 1 0 [(.get (.tok 0) (.tok 3))]))), (.add (.tok 3) (.lit (.i 1))), (.tok 4)])))))) (.need [(.ok 3 [(.tok 1)])] (.need [(.rng .i64 (.sub (.len (.tok 0)) (.lit (.i 1))))] (.loop 13 5 [(.sub (.len (.tok 0)) (.lit (.i 1))), (.call 3 0 [(.tok 1)])] (.br (.le (.lit (.i 0)) (.tok 5)) (.need [(.ok 3 [(.get (.tok 0) (.tok 5))]), (.le (.lit (.i 0)) (.tok 5)), (.lt (.tok 5) (.len (.tok 0)))] (.need [(.rng .i64 (.sub (.tok 5) (.lit (.i 1))))] (.back 13 [(.sub (.tok 5) (.lit (.i 1))), (.set (.set (.set (.lit (.a [(.i 0), (.i 0), (.s ⟨#[]⟩), (.r [])])) 0 (.lit (.i 3))) 2 (.lit (.s ⟨#[46]⟩))) 3 (.row [(.call 3 0 [(.get (.tok 0) (.tok 5))]), (.tok 6)]))]))) (.leaf [(.tok 6)]))))))))))
set_option maxRecDepth 100000 in
theorem code_term_List (g0 g1 g2 g3 : List D → Option (List D)) : ∀ cd, Try.f69.body = some cd → treeOf Try.prog [(q0h, g0), (q0w, g1), (q0j, g2), (q14, g3)] ann_term_List q1t Try.f69 cd = q3s := by
  intro cd h
  injection h with h
  subst h
  kernel_rfl
theorem fok_term_List {g0 g1 g2 g3 : List D → Option (List D)} {g : List D → Option (List D)} (h0 : FOk q0h g0) (h1 : FOk q0w g1) (h2 : FOk q0j g2) (h3 : FOk q14 g3) (h : ∀ ds outs, WfA q1t.ars ds → g ds = some outs → q3s.go (tblS [(q0h, g0), (q0w, g1), (q0j, g2), (q14, g3)]) (fun o => o = outs) ds fun _ _ => False) : FOk q1t g :=
  q0a ann_term_List Try.f69 _ (.cons h0 (.cons h1 (.cons h2 (.cons h3 .nil)))) rfl rfl enter_term_List (by decide) fun ds outs hw hg => by rw [code_term_List g0 g1 g2 g3 _ rfl]; exact h ds outs hw hg

def q0l : Ct := ⟨72, [.val (.st 80), .val (.st 80)], [(.bool, false)], [], none⟩
theorem q3e (args : Array Value) (w : World) : (callFunc q0l.f args).run Try.prog w = .ok (.enter q0l.f args) w := by kernel_rfl
def q3x : Ann := ⟨[0, 1, 2, 3, 4, 5, 6, 34, 36, 37, 38, 39, 50], [(4, ⟨[(4, .bool, false), (38, .int .i64, false)], [], [39, 40, 41, 42, 6, 5, 43, 44, 45, 46, 47, 48, 49, 50, 51], []⟩)]⟩
def q2b : Tree := (.br (.or (.or (.or (.not (.eq (.fld (.tok 0) 0) (.fld (.tok 1) 0))) (.not (.eq (.fld (.tok 0) 1) (.fld (.tok 1) 1)))) (.not (.eq (.fld (.tok 0) 2) (.fld (.tok 1) 2)))) (.not (.eq (.len (.fld (.tok 0) 3)) (.len (.fld (.tok 1) 3))))) (.leaf [(.lit (.b .false))]) (.loop 4 2 [(.lit (.b .false)), (.lit (.i 0))] (.br (.lt (.tok 3) (.len (.fld (.tok 0) 3))) (.need [(.le (.lit (.i 0)) (.tok 3)), (.lt (.tok 3) (.len (.fld (.tok 0) 3)))] (.need [(.ok 0 [(.get (.fld (.tok 0) 3) (.tok 3)), (.get (.fld (.tok 1) 3) (.tok 3))]), (.le (.lit (.i 0)) (.tok 3)), (.lt (.tok 3) (.len (.fld (.tok 1) 3)))] (.br (.not (.call 0 0 [(.get (.fld (.tok 0) 3) (.tok 3)), (.get (.fld (.tok 1) 3) (.tok 3))])) (.leaf [(.lit (.b .false))]) (.need [(.rng .i64 (.add (.tok 3) (.lit (.i 1))))] (.back 4 [(.tok 2), (.add (.tok 3) (.lit (.i 1)))]))))) (.leaf [(.lit (.b .true))]))))
set_option maxRecDepth 100000 in
theorem code_term_identical (g0 : List D → Option (List D)) : ∀ cd, Try.f72.body = some cd → treeOf Try.prog [(q0l, g0)] q3x q0l Try.f72 cd = q2b := by
  intro cd h
  injection h with h
  subst h
  kernel_rfl
theorem fok_term_identical {g0 : List D → Option (List D)} {g : List D → Option (List D)} (h0 : FOk q0l g0) (h : ∀ ds outs, WfA q0l.ars ds → g ds = some outs → q2b.go (tblS [(q0l, g0)]) (fun o => o = outs) ds fun _ _ => False) : FOk q0l g :=
  q0a q3x Try.f72 _ (.cons h0 .nil) rfl rfl q3e (by decide) fun ds outs hw hg => by rw [code_term_identical g0 _ rfl]; exact h ds outs hw hg

def q0t : Ct := ⟨85, [.val (.st 80), .ref (.map 2 2)], [(.st 80, false)], [], none⟩
theorem enter_term_Canon_1 (args : Array Value) (w : World) : (callFunc q0t.f args).run Try.prog w = .ok (.enter q0t.f args) w := by kernel_rfl
def ann_term_Canon_1 : Ann := ⟨[0, 1, 2, 3, 4, 5, 14], []⟩
def q2k : Tree := (.br (.not (.fn 1 [(.tok 1), (.fld (.tok 0) 1)])) (.need [(.rng .i64 (.fn 3 [(.tok 1)]))] (.leaf [(.set (.lit (.a [(.i 0), (.i 0), (.s ⟨#[]⟩), (.r [])])) 1 (.fn 3 [(.tok 1)])), (.fn 2 [(.tok 1), (.fld (.tok 0) 1), (.fn 3 [(.tok 1)])])])) (.leaf [(.set (.lit (.a [(.i 0), (.i 0), (.s ⟨#[]⟩), (.r [])])) 1 (.fn 0 [(.tok 1), (.fld (.tok 0) 1), (.lit (.i 0))])), (.tok 1)]))
set_option maxRecDepth 100000 in
theorem code_term_Canon_1 : ∀ cd, Try.f85.body = some cd → treeOf Try.prog [] ann_term_Canon_1 q0t Try.f85 cd = q2k := by
  intro cd h
  injection h with h
  subst h
  kernel_rfl
theorem fok_term_Canon_1 {g : List D → Option (List D)}  (h : ∀ ds outs, WfA q0t.ars ds → g ds = some outs → q2k.go (tblS []) (fun o => o = outs) ds fun _ _ => False) : FOk q0t g :=
  q0a ann_term_Canon_1 Try.f85 _ .nil rfl rfl enter_term_Canon_1 (by decide) fun ds outs hw hg => by rw [code_term_Canon_1  _ rfl]; exact h ds outs hw hg

def q0u : Ct := ⟨84, [.val (.st 80), .fn 85 [2]], [(.st 80, false)], [(.cap 1 0, .ref (.map 2 2))], none⟩
theorem q3w (args : Array Value) (w : World) : (callFunc q0u.f args).run Try.prog w = .ok (.enter q0u.f args) w := by kernel_rfl
def ann_term_apply_c : Ann := ⟨[0, 1, 2, 4, 5, 7, 10, 22, 23, 24, 25], [(5, ⟨[(24, .int .i64, false)], [5, 100000], [25, 26, 27, 7, 28, 29, 30, 31, 32, 33, 34, 35, 36], []⟩)]⟩
def q2m : Tree := (.br (.eq (.fld (.tok 0) 0) (.lit (.i 0))) (.need [(.ok 0 [(.tok 0), (.tok 1)])] (.leaf [(.call 0 0 [(.tok 0), (.tok 1)]), (.call 0 1 [(.tok 0), (.tok 1)])])) (.loop 5 2 [(.lit (.i 0)), (.set (.set (.set (.lit (.a [(.i 0), (.i 0), (.s ⟨#[]⟩), (.r [])])) 0 (.fld (.tok 0) 0)) 1 (.fld (.tok 0) 1)) 2 (.fld (.tok 0) 2)), (.tok 1)] (.br (.lt (.tok 2) (.len (.fld (.tok 0) 3))) (.need [(.le (.lit (.i 0)) (.tok 2)), (.lt (.tok 2) (.len (.fld (.tok 0) 3)))] (.need [(.le (.add (.len (.fld (.tok 3) 3)) (.lit (.i 1))) (.lit (.i 2513169434843))), (.ok 1 [(.get (.fld (.tok 0) 3) (.tok 2)), (.tok 4)])] (.need [(.rng .i64 (.add (.tok 2) (.lit (.i 1))))] (.back 5 [(.add (.tok 2) (.lit (.i 1))), (.set (.tok 3) 3 (.app (.fld (.tok 3) 3) (.row [(.call 1 0 [(.get (.fld (.tok 0) 3) (.tok 2)), (.tok 4)])]))), (.call 1 1 [(.get (.fld (.tok 0) 3) (.tok 2)), (.tok 4)])])))) (.leaf [(.tok 3), (.tok 4)]))))
set_option maxRecDepth 100000 in
theorem code_term_apply_c (g0 g1 : List D → Option (List D)) : ∀ cd, Try.f84.body = some cd → treeOf Try.prog [(q0t, g0), (q0u, g1)] ann_term_apply_c q0u Try.f84 cd = q2m := by
  intro cd h
  injection h with h
  subst h
  kernel_rfl
theorem fok_term_apply_c {g0 g1 : List D → Option (List D)} {g : List D → Option (List D)} (h0 : FOk q0t g0) (h1 : FOk q0u g1) (h : ∀ ds outs, WfA q0u.ars ds → g ds = some outs → q2m.go (tblS [(q0t, g0), (q0u, g1)]) (fun o => o = outs) ds fun _ _ => False) : FOk q0u g :=
  q0a ann_term_apply_c Try.f84 _ (.cons h0 (.cons h1 .nil)) rfl rfl q3w (by decide) fun ds outs hw hg => by rw [code_term_apply_c g0 g1 _ rfl]; exact h ds outs hw hg

def q1q : Ct := ⟨73, [.val (.st 80)], [(.st 80, false)], [], none⟩
theorem enter_term_Canon (args : Array Value) (w : World) : (callFunc q1q.f args).run Try.prog w = .ok (.enter q1q.f args) w := by kernel_rfl
def ann_term_Canon : Ann := ⟨[0, 1, 2, 3, 6], []⟩
def q2d : Tree := (.need [(.ok 1 [(.tok 0)])] (.br (.not (.call 1 0 [(.tok 0)])) (.leaf [(.lit (.a [(.i 0), (.i 0), (.s ⟨#[]⟩), (.r [])]))]) (.need [(.ok 2 [(.tok 0), (.lit (.mp []))])] (.leaf [(.call 2 0 [(.tok 0), (.lit (.mp []))])]))))
set_option maxRecDepth 100000 in
theorem code_term_Canon (g0 g1 g2 : List D → Option (List D)) : ∀ cd, Try.f73.body = some cd → treeOf Try.prog [(q0t, g0), (q0h, g1), (q0u, g2)] ann_term_Canon q1q Try.f73 cd = q2d := by
  intro cd h
  injection h with h
  subst h
  kernel_rfl
theorem fok_term_Canon {g0 g1 g2 : List D → Option (List D)} {g : List D → Option (List D)} (h0 : FOk q0t g0) (h1 : FOk q0h g1) (h2 : FOk q0u g2) (h : ∀ ds outs, WfA q1q.ars ds → g ds = some outs → q2d.go (tblS [(q0t, g0), (q0h, g1), (q0u, g2)]) (fun o => o = outs) ds fun _ _ => False) : FOk q1q g :=
  q0a ann_term_Canon Try.f73 _ (.cons h0 (.cons h1 (.cons h2 .nil))) rfl rfl enter_term_Canon (by decide) fun ds outs hw hg => by rw [code_term_Canon g0 g1 g2 _ rfl]; exact h ds outs hw hg

def q1a : Ct := ⟨52, [.val (.st 80), .val (.st 80)], [(.bool, false)], [], none⟩
theorem enter_term_Variant (args : Array Value) (w : World) : (callFunc q1a.f args).run Try.prog w = .ok (.enter q1a.f args) w := by kernel_rfl
def ann_term_Variant : Ann := ⟨[0, 1, 2, 3, 4], []⟩
def q2p : Tree := (.need [(.imp (.and (.call 0 0 [(.tok 0)]) (.call 0 0 [(.tok 1)])) (.ok 2 [(.call 1 0 [(.tok 0)]), (.call 1 0 [(.tok 1)])])), (.imp (.and (.call 0 0 [(.tok 0)]) (.call 0 0 [(.tok 1)])) (.ok 1 [(.tok 1)])), (.imp (.and (.call 0 0 [(.tok 0)]) (.call 0 0 [(.tok 1)])) (.ok 1 [(.tok 0)])), (.imp (.call 0 0 [(.tok 0)]) (.ok 0 [(.tok 1)])), (.ok 0 [(.tok 0)])] (.leaf [(.and (.and (.call 0 0 [(.tok 0)]) (.call 0 0 [(.tok 1)])) (.call 2 0 [(.call 1 0 [(.tok 0)]), (.call 1 0 [(.tok 1)])]))]))
set_option maxRecDepth 100000 in
theorem code_term_Variant (g0 g1 g2 : List D → Option (List D)) : ∀ cd, Try.f52.body = some cd → treeOf Try.prog [(q0h, g0), (q1q, g1), (q0l, g2)] ann_term_Variant q1a Try.f52 cd = q2p := by
  intro cd h
  injection h with h
  subst h
  kernel_rfl
theorem fok_term_Variant {g0 g1 g2 : List D → Option (List D)} {g : List D → Option (List D)} (h0 : FOk q0h g0) (h1 : FOk q1q g1) (h2 : FOk q0l g2) (h : ∀ ds outs, WfA q1a.ars ds → g ds = some outs → q2p.go (tblS [(q0h, g0), (q1q, g1), (q0l, g2)]) (fun o => o = outs) ds fun _ _ => False) : FOk q1a g :=
  q0a ann_term_Variant Try.f52 _ (.cons h0 (.cons h1 (.cons h2 .nil))) rfl rfl enter_term_Variant (by decide) fun ds outs hw hg => by rw [code_term_Variant g0 g1 g2 _ rfl]; exact h ds outs hw hg

def q12 : Ct := ⟨51, [.val (.st 27), .val (.row 31)], [(.st 80, false), (.row 38, true)], [], none⟩
theorem enter_law34_together (args : Array Value) (w : World) : (callFunc q12.f args).run Try.prog w = .ok (.enter q12.f args) w := by kernel_rfl
def q3y : Ann := ⟨[0, 1, 2, 4, 5, 6, 7, 8, 9, 10, 11, 15, 32, 39], [(5, ⟨[(7, .row 38, false), (8, .int .i64, false), (6, .row 81, false), (9, .int .i64, false)], [], [12, 13, 14, 15, 19, 20, 21, 22, 23, 24, 18, 25, 26, 10, 11, 27, 28, 29, 30, 31, 32, 33, 34, 35, 36, 37, 38, 39, 40, 41, 42, 43, 16, 17], []⟩)]⟩
def q2a : Tree := (.loop 5 2 [(.lit (.r [])), (.lit (.i 1)), (.lit (.r [])), (.lit (.i 0))] (.br (.lt (.tok 5) (.len (.tok 1))) (.need [(.ok 0 [(.tok 0), (.get (.tok 1) (.tok 5))]), (.ok 0 [(.tok 0), (.get (.tok 1) (.tok 5))]), (.le (.lit (.i 0)) (.tok 5)), (.lt (.tok 5) (.len (.tok 1)))] (.need [(.le (.add (.len (.tok 2)) (.lit (.i 1))) (.lit (.i 17592186043904)))] (.br (.not (.eq (.call 0 1 [(.tok 0), (.get (.tok 1) (.tok 5))]) (.lit (.i 0)))) (.need [(.rng .i64 (.add (.tok 5) (.lit (.i 1))))] (.back 5 [(.app (.tok 2) (.row [(.call 0 1 [(.tok 0), (.get (.tok 1) (.tok 5))])])), (.tok 3), (.tok 4), (.add (.tok 5) (.lit (.i 1)))])) (.need [(.rng .i64 (.add (.tok 3) (.lit (.i 1)))), (.ok 1 [(.call 0 0 [(.tok 0), (.get (.tok 1) (.tok 5))])]), (.rng .i64 (.add (.add (.tok 3) (.lit (.i 1))) (.call 1 0 [(.call 0 0 [(.tok 0), (.get (.tok 1) (.tok 5))])])))] (.br (.lt (.lit (.i 2000)) (.add (.add (.tok 3) (.lit (.i 1))) (.call 1 0 [(.call 0 0 [(.tok 0), (.get (.tok 1) (.tok 5))])]))) (.need [(.ok 2 [(.lit (.s ⟨#[91, 93]⟩))]), (.ok 3 [(.tok 4), (.call 2 0 [(.lit (.s ⟨#[91, 93]⟩))])])] (.leaf [(.call 3 0 [(.tok 4), (.call 2 0 [(.lit (.s ⟨#[91, 93]⟩))])]), (.app (.tok 2) (.row [(.call 0 1 [(.tok 0), (.get (.tok 1) (.tok 5))])]))])) (.need [(.le (.add (.len (.tok 4)) (.lit (.i 1))) (.lit (.i 2513169434843)))] (.need [(.rng .i64 (.add (.tok 5) (.lit (.i 1))))] (.back 5 [(.app (.tok 2) (.row [(.call 0 1 [(.tok 0), (.get (.tok 1) (.tok 5))])])), (.add (.add (.tok 3) (.lit (.i 1))) (.call 1 0 [(.call 0 0 [(.tok 0), (.get (.tok 1) (.tok 5))])])), (.app (.tok 4) (.row [(.call 0 0 [(.tok 0), (.get (.tok 1) (.tok 5))])])), (.add (.tok 5) (.lit (.i 1)))])))))))) (.need [(.ok 2 [(.lit (.s ⟨#[91, 93]⟩))]), (.ok 3 [(.tok 4), (.call 2 0 [(.lit (.s ⟨#[91, 93]⟩))])])] (.leaf [(.call 3 0 [(.tok 4), (.call 2 0 [(.lit (.s ⟨#[91, 93]⟩))])]), (.tok 2)]))))
set_option maxRecDepth 100000 in
theorem code_law34_together (g0 g1 g2 g3 : List D → Option (List D)) : ∀ cd, Try.f51.body = some cd → treeOf Try.prog [(q1r, g0), (q0w, g1), (q19, g2), (q1t, g3)] q3y q12 Try.f51 cd = q2a := by
  intro cd h
  injection h with h
  subst h
  kernel_rfl
theorem fok_law34_together {g0 g1 g2 g3 : List D → Option (List D)} {g : List D → Option (List D)} (h0 : FOk q1r g0) (h1 : FOk q0w g1) (h2 : FOk q19 g2) (h3 : FOk q1t g3) (h : ∀ ds outs, WfA q12.ars ds → g ds = some outs → q2a.go (tblS [(q1r, g0), (q0w, g1), (q19, g2), (q1t, g3)]) (fun o => o = outs) ds fun _ _ => False) : FOk q12 g :=
  q0a q3y Try.f51 _ (.cons h0 (.cons h1 (.cons h2 (.cons h3 .nil)))) rfl rfl enter_law34_together (by decide) fun ds outs hw hg => by rw [code_law34_together g0 g1 g2 g3 _ rfl]; exact h ds outs hw hg

def q1i : Ct := ⟨28, [.val (.st 27), .val (.st 27), .val (.row 31), .val (.row 31)], [(.bool, false)], [], none⟩
theorem enter_law34_alike (args : Array Value) (w : World) : (callFunc q1i.f args).run Try.prog w = .ok (.enter q1i.f args) w := by kernel_rfl
def ann_law34_alike : Ann := ⟨[0, 1, 2, 3, 4, 5, 8, 9, 10, 11, 12, 13, 37, 41, 52], [(6, ⟨[(8, .bool, false), (13, .int .i64, false)], [], [38, 39, 40, 41, 44, 45, 46, 47, 48, 49, 50, 51, 52, 42, 43], []⟩)]⟩
def q2y : Tree := (.need [(.ok 0 [(.tok 0), (.tok 2)])] (.need [(.ok 0 [(.tok 1), (.tok 3)])] (.br (.or (.not (.eq (.len (.tok 2)) (.len (.tok 3)))) (.not (.eq (.len (.call 0 1 [(.tok 0), (.tok 2)])) (.len (.call 0 1 [(.tok 1), (.tok 3)]))))) (.leaf [(.lit (.b .false))]) (.loop 6 4 [(.lit (.b .false)), (.lit (.i 0))] (.br (.lt (.tok 5) (.len (.call 0 1 [(.tok 0), (.tok 2)]))) (.need [(.le (.lit (.i 0)) (.tok 5)), (.lt (.tok 5) (.len (.call 0 1 [(.tok 1), (.tok 3)]))), (.le (.lit (.i 0)) (.tok 5)), (.lt (.tok 5) (.len (.call 0 1 [(.tok 0), (.tok 2)])))] (.br (.not (.eq (.get (.call 0 1 [(.tok 0), (.tok 2)]) (.tok 5)) (.get (.call 0 1 [(.tok 1), (.tok 3)]) (.tok 5)))) (.leaf [(.lit (.b .false))]) (.need [(.rng .i64 (.add (.tok 5) (.lit (.i 1))))] (.back 6 [(.tok 4), (.add (.tok 5) (.lit (.i 1)))])))) (.need [(.ok 1 [(.call 0 0 [(.tok 0), (.tok 2)]), (.call 0 0 [(.tok 1), (.tok 3)])])] (.leaf [(.call 1 0 [(.call 0 0 [(.tok 0), (.tok 2)]), (.call 0 0 [(.tok 1), (.tok 3)])])])))))))
set_option maxRecDepth 100000 in
theorem code_law34_alike (g0 g1 : List D → Option (List D)) : ∀ cd, Try.f28.body = some cd → treeOf Try.prog [(q12, g0), (q1a, g1)] ann_law34_alike q1i Try.f28 cd = q2y := by
  intro cd h
  injection h with h
  subst h
  kernel_rfl
theorem fok_law34_alike {g0 g1 : List D → Option (List D)} {g : List D → Option (List D)} (h0 : FOk q12 g0) (h1 : FOk q1a g1) (h : ∀ ds outs, WfA q1i.ars ds → g ds = some outs → q2y.go (tblS [(q12, g0), (q1a, g1)]) (fun o => o = outs) ds fun _ _ => False) : FOk q1i g :=
  q0a ann_law34_alike Try.f28 _ (.cons h0 (.cons h1 .nil)) rfl rfl enter_law34_alike (by decide) fun ds outs hw hg => by rw [code_law34_alike g0 g1 _ rfl]; exact h ds outs hw hg

end Go.Proofs.Ytmebmpgffhajbaa


namespace Go.Proofs.Ytmebmpgffhajbaa
open Go.RowKit
set_option linter.unusedVariables false
set_option linter.unusedSimpArgs false

structure Ce where
  t : Int
  n : Int
structure Un where
  at' : Int
  old : Ce
structure Wk where
  ser : Int
  att : Ce
  val : Ce
structure Sy where
  name : ByteArray
  ar : Int
structure So where
  cs : List Ce
  ys : List Sy
  tr : List Un
  wk : List Wk
  ser : Int
  mx : Int

instance : Inhabited Ce := ⟨⟨0, 0⟩⟩
instance : Inhabited Un := ⟨⟨0, default⟩⟩
instance : Inhabited Wk := ⟨⟨0, default, default⟩⟩
instance : Inhabited Sy := ⟨⟨⟨#[]⟩, 0⟩⟩

def eC (c : Ce) : D := .a [.i c.t, .i c.n]
def eU (u : Un) : D := .a [.i u.at', eC u.old]
def eW (w : Wk) : D := .a [.i w.ser, eC w.att, eC w.val]
def eY (y : Sy) : D := .a [.s y.name, .i y.ar]
def eS (s : So) : D := .a [.r (s.cs.map eC), .r (s.ys.map eY), .r (s.tr.map eU), .r (s.wk.map eW), .i s.ser, .i s.mx]
def dC (d : D) : Ce := ⟨(d.fld 0).int, (d.fld 1).int⟩
def dU (d : D) : Un := ⟨(d.fld 0).int, dC (d.fld 1)⟩
def dW (d : D) : Wk := ⟨(d.fld 0).int, dC (d.fld 1), dC (d.fld 2)⟩
def dY (d : D) : Sy := ⟨(d.fld 0).str, (d.fld 1).int⟩
def dS (d : D) : So := ⟨(d.fld 0).rs.map dC, (d.fld 1).rs.map dY, (d.fld 2).rs.map dU, (d.fld 3).rs.map dW, (d.fld 4).int, (d.fld 5).int⟩

theorem dC_eC (c : Ce) : dC (eC c) = c := rfl
theorem dU_eU (c : Un) : dU (eU c) = c := rfl
theorem dW_eW (c : Wk) : dW (eW c) = c := rfl
theorem dY_eY (c : Sy) : dY (eY c) = c := rfl
theorem map_id' {α : Type} {e : α → D} {d : D → α} (h : ∀ a, d (e a) = a) (l : List α) : (l.map e).map d = l := by
  rw [List.map_map]
  have : d ∘ e = id := funext h
  rw [this, List.map_id]
theorem dS_eS (s : So) : dS (eS s) = s := by
  show So.mk ((s.cs.map eC).map dC) ((s.ys.map eY).map dY) ((s.tr.map eU).map dU) ((s.wk.map eW).map dW) s.ser s.mx = s
  rw [map_id' dC_eC, map_id' dY_eY, map_id' dU_eU, map_id' dW_eW]
theorem eC_inj {a b : Ce} (h : eC a = eC b) : a = b := by rw [← dC_eC a, h, dC_eC b]
theorem eU_inj {a b : Un} (h : eU a = eU b) : a = b := by rw [← dU_eU a, h, dU_eU b]
theorem eW_inj {a b : Wk} (h : eW a = eW b) : a = b := by rw [← dW_eW a, h, dW_eW b]
theorem eY_inj {a b : Sy} (h : eY a = eY b) : a = b := by rw [← dY_eY a, h, dY_eY b]
theorem eS_inj {a b : So} (h : eS a = eS b) : a = b := by rw [← dS_eS a, h, dS_eS b]
theorem eC_eq (a b : Ce) : (eC a = eC b) = (a = b) := propext ⟨eC_inj, fun h => h ▸ rfl⟩
theorem eU_eq (a b : Un) : (eU a = eU b) = (a = b) := propext ⟨eU_inj, fun h => h ▸ rfl⟩
theorem eW_eq (a b : Wk) : (eW a = eW b) = (a = b) := propext ⟨eW_inj, fun h => h ▸ rfl⟩
theorem eY_eq (a b : Sy) : (eY a = eY b) = (a = b) := propext ⟨eY_inj, fun h => h ▸ rfl⟩
theorem eS_eq (a b : So) : (eS a = eS b) = (a = b) := propext ⟨eS_inj, fun h => h ▸ rfl⟩
instance : DecidableEq Ce := fun a b => if h : eC a = eC b then .isTrue (eC_inj h) else .isFalse fun e => h (e ▸ rfl)
instance : DecidableEq Un := fun a b => if h : eU a = eU b then .isTrue (eU_inj h) else .isFalse fun e => h (e ▸ rfl)
instance : DecidableEq Wk := fun a b => if h : eW a = eW b then .isTrue (eW_inj h) else .isFalse fun e => h (e ▸ rfl)
instance : DecidableEq Sy := fun a b => if h : eY a = eY b then .isTrue (eY_inj h) else .isFalse fun e => h (e ▸ rfl)
instance : DecidableEq So := fun a b => if h : eS a = eS b then .isTrue (eS_inj h) else .isFalse fun e => h (e ▸ rfl)
theorem Ce.ext' {a b : Ce} (h1 : a.t = b.t) (h2 : a.n = b.n) : a = b := by
  cases a; cases b; cases h1; cases h2; rfl

theorem eC_0 (c : Ce) : (eC c).fld 0 = .i c.t := rfl
theorem eC_1 (c : Ce) : (eC c).fld 1 = .i c.n := rfl
theorem eU_0 (c : Un) : (eU c).fld 0 = .i c.at' := rfl
theorem eU_1 (c : Un) : (eU c).fld 1 = eC c.old := rfl
theorem eW_0 (c : Wk) : (eW c).fld 0 = .i c.ser := rfl
theorem eW_1 (c : Wk) : (eW c).fld 1 = eC c.att := rfl
theorem eW_2 (c : Wk) : (eW c).fld 2 = eC c.val := rfl
theorem eY_0 (c : Sy) : (eY c).fld 0 = .s c.name := rfl
theorem eY_1 (c : Sy) : (eY c).fld 1 = .i c.ar := rfl
theorem eS_0 (s : So) : (eS s).fld 0 = .r (s.cs.map eC) := rfl
theorem eS_1 (s : So) : (eS s).fld 1 = .r (s.ys.map eY) := rfl
theorem eS_2 (s : So) : (eS s).fld 2 = .r (s.tr.map eU) := rfl
theorem eS_3 (s : So) : (eS s).fld 3 = .r (s.wk.map eW) := rfl
theorem eS_4 (s : So) : (eS s).fld 4 = .i s.ser := rfl
theorem eS_5 (s : So) : (eS s).fld 5 = .i s.mx := rfl
theorem gnE : (∀ (s : So), dS (eS s) = s) ∧ (∀ (c : Ce), dC (eC c) = c) ∧ (∀ (c : Un), dU (eU c) = c) ∧ (∀ (c : Wk), dW (eW c) = c) ∧ (∀ (c : Sy), dY (eY c) = c) ∧ (∀ (c : Ce), (eC c).fld 0 = .i c.t) ∧ (∀ (c : Ce), (eC c).fld 1 = .i c.n) ∧ (∀ (c : Un), (eU c).fld 0 = .i c.at') ∧ (∀ (c : Un), (eU c).fld 1 = eC c.old) ∧ (∀ (c : Wk), (eW c).fld 0 = .i c.ser) ∧ (∀ (c : Wk), (eW c).fld 1 = eC c.att) ∧ (∀ (c : Wk), (eW c).fld 2 = eC c.val) ∧ (∀ (c : Sy), (eY c).fld 0 = .s c.name) ∧ (∀ (c : Sy), (eY c).fld 1 = .i c.ar) ∧ (∀ (s : So), (eS s).fld 0 = .r (s.cs.map eC)) ∧ (∀ (s : So), (eS s).fld 1 = .r (s.ys.map eY)) ∧ (∀ (s : So), (eS s).fld 2 = .r (s.tr.map eU)) ∧ (∀ (s : So), (eS s).fld 3 = .r (s.wk.map eW)) ∧ (∀ (s : So), (eS s).fld 4 = .i s.ser) ∧ (∀ (s : So), (eS s).fld 5 = .i s.mx) :=
  ⟨@dS_eS, @dC_eC, @dU_eU, @dW_eW, @dY_eY, @eC_0, @eC_1, @eU_0, @eU_1, @eW_0, @eW_1, @eW_2, @eY_0, @eY_1, @eS_0, @eS_1, @eS_2, @eS_3, @eS_4, @eS_5⟩
theorem gnF : (∀ (m n : Int), (D.i m = D.i n) = (m = n)) ∧ (∀ (m n : Bool), (D.b m = D.b n) = (m = n)) ∧ (∀ (m n : ByteArray), (D.s m = D.s n) = (m = n)) ∧ (∀ (a b : Ce), (eC a = eC b) = (a = b)) ∧ (∀ (a b : Un), (eU a = eU b) = (a = b)) ∧ (∀ (a b : Wk), (eW a = eW b) = (a = b)) ∧ (∀ (a b : Sy), (eY a = eY b) = (a = b)) ∧ (∀ (a b : So), (eS a = eS b) = (a = b)) ∧ (∀ {n : Int}, rngB .i64 n = true ↔ -9223372036854775808 ≤ n ∧ n ≤ 9223372036854775807) :=
  ⟨@i_inj, @b_inj, @s_inj, @eC_eq, @eU_eq, @eW_eq, @eY_eq, @eS_eq, @rng64⟩
theorem gnL : (∀ {α : Type} (n : Nat) (a : α) (l : List α), (a :: l).take (n + 1) = a :: l.take n) ∧ (∀ {α : Type} (l : List α), l.take 0 = []) ∧ (∀ {α : Type} (l : List α), [] ++ l = l) ∧ (∀ {α : Type} (a : α) (l m : List α), (a :: l) ++ m = a :: (l ++ m)) :=
  ⟨fun _ _ _ => rfl, fun _ => rfl, fun _ => rfl, fun _ _ _ => rfl⟩
theorem eU_mk (n : Int) (c : Ce) : D.a [.i n, eC c] = eU ⟨n, c⟩ := rfl

abbrev i64 (n : Int) : Prop := -9223372036854775808 ≤ n ∧ n ≤ 9223372036854775807
def Ce.ok (c : Ce) : Prop := i64 c.t ∧ i64 c.n
def Un.ok (c : Un) : Prop := i64 c.at' ∧ c.old.ok
def Wk.ok (c : Wk) : Prop := i64 c.ser ∧ c.att.ok ∧ c.val.ok
def Sy.ok (c : Sy) : Prop := c.name.size ≤ LIM ∧ i64 c.ar
structure So.ok (s : So) : Prop where
  cs : s.cs.length ≤ 8796093021952 ∧ ∀ c ∈ s.cs, c.ok
  ys : s.ys.length ≤ 5864062014634 ∧ ∀ c ∈ s.ys, c.ok
  tr : s.tr.length ≤ 5864062014634 ∧ ∀ c ∈ s.tr, c.ok
  wk : s.wk.length ≤ 3518437208780 ∧ ∀ c ∈ s.wk, c.ok
  ser : i64 s.ser
  mx : i64 s.mx

theorem wfI {d : D} (h : Wf d (.int .i64)) : ∃ n, d = .i n ∧ i64 n := by
  obtain ⟨n, rfl, hn⟩ := h.int
  exact ⟨n, rfl, rng64.1 hn⟩
theorem wfC {d : D} (h : Wf d T_Cell) : ∃ c, d = eC c ∧ c.ok := by
  obtain ⟨ds, rfl, hl⟩ := h.st_of (fs := [.int .i64, .int .i64]) rfl
  obtain ⟨a, b, rfl, ha, hb⟩ := wfL2 hl
  obtain ⟨x, rfl, hx⟩ := wfI ha
  obtain ⟨y, rfl, hy⟩ := wfI hb
  exact ⟨⟨x, y⟩, rfl, hx, hy⟩
theorem wfU {d : D} (h : Wf d T_Undo) : ∃ c, d = eU c ∧ c.ok := by
  obtain ⟨ds, rfl, hl⟩ := h.st_of (fs := [.int .i64, T_Cell]) rfl
  obtain ⟨a, b, rfl, ha, hb⟩ := wfL2 hl
  obtain ⟨x, rfl, hx⟩ := wfI ha
  obtain ⟨y, rfl, hy⟩ := wfC hb
  exact ⟨⟨x, y⟩, rfl, hx, hy⟩
theorem wfW {d : D} (h : Wf d T_Wake) : ∃ c, d = eW c ∧ c.ok := by
  obtain ⟨ds, rfl, hl⟩ := h.st_of (fs := [.int .i64, T_Cell, T_Cell]) rfl
  obtain ⟨a, r, rfl, ha, hr⟩ := wfL_cons hl
  obtain ⟨b, c, rfl, hb, hc⟩ := wfL2 hr
  obtain ⟨x, rfl, hx⟩ := wfI ha
  obtain ⟨y, rfl, hy⟩ := wfC hb
  obtain ⟨z, rfl, hz⟩ := wfC hc
  exact ⟨⟨x, y, z⟩, rfl, hx, hy, hz⟩
theorem wfY {d : D} (h : Wf d T_Symbol) : ∃ c, d = eY c ∧ c.ok := by
  obtain ⟨ds, rfl, hl⟩ := h.st_of (fs := [.str, .int .i64]) rfl
  obtain ⟨a, b, rfl, ha, hb⟩ := wfL2 hl
  obtain ⟨x, rfl, hx⟩ := ha.str
  obtain ⟨y, rfl, hy⟩ := wfI hb
  exact ⟨⟨x, y⟩, rfl, hx, hy⟩
theorem wfCs {d : D} (h : Wf d T_Cells) : ∃ l : List Ce, d = .r (l.map eC) ∧ l.length ≤ 8796093021952 ∧ ∀ c ∈ l, c.ok := by
  obtain ⟨l, rfl, h1, h2⟩ := h.row_of (te := T_Cell) rfl
  obtain ⟨m, rfl, h3⟩ := of_all (e := eC) (P := Ce.ok) fun x hx => wfC (h2 x hx)
  have e : LM T_Cell = 8796093021952 := by kernel_rfl
  rw [e, List.length_map] at h1
  exact ⟨m, rfl, h1, h3⟩
theorem wfUs {d : D} (h : Wf d T_Undos) : ∃ l : List Un, d = .r (l.map eU) ∧ l.length ≤ 5864062014634 ∧ ∀ c ∈ l, c.ok := by
  obtain ⟨l, rfl, h1, h2⟩ := h.row_of (te := T_Undo) rfl
  obtain ⟨m, rfl, h3⟩ := of_all (e := eU) (P := Un.ok) fun x hx => wfU (h2 x hx)
  have e : LM T_Undo = 5864062014634 := by kernel_rfl
  rw [e, List.length_map] at h1
  exact ⟨m, rfl, h1, h3⟩
theorem wfWs {d : D} (h : Wf d T_Wakes) : ∃ l : List Wk, d = .r (l.map eW) ∧ l.length ≤ 3518437208780 ∧ ∀ c ∈ l, c.ok := by
  obtain ⟨l, rfl, h1, h2⟩ := h.row_of (te := T_Wake) rfl
  obtain ⟨m, rfl, h3⟩ := of_all (e := eW) (P := Wk.ok) fun x hx => wfW (h2 x hx)
  have e : LM T_Wake = 3518437208780 := by kernel_rfl
  rw [e, List.length_map] at h1
  exact ⟨m, rfl, h1, h3⟩
theorem wfYs {d : D} (h : Wf d T_Symbols) : ∃ l : List Sy, d = .r (l.map eY) ∧ l.length ≤ 5864062014634 ∧ ∀ c ∈ l, c.ok := by
  obtain ⟨l, rfl, h1, h2⟩ := h.row_of (te := T_Symbol) rfl
  obtain ⟨m, rfl, h3⟩ := of_all (e := eY) (P := Sy.ok) fun x hx => wfY (h2 x hx)
  have e : LM T_Symbol = 5864062014634 := by kernel_rfl
  rw [e, List.length_map] at h1
  exact ⟨m, rfl, h1, h3⟩
theorem wfS {d : D} (h : Wf d T_Store) : ∃ s, d = eS s ∧ s.ok := by
  obtain ⟨ds, rfl, hl⟩ := h.st_of (fs := [T_Cells, T_Symbols, T_Undos, T_Wakes, .int .i64, .int .i64]) rfl
  obtain ⟨d0, r, rfl, h0, hl⟩ := wfL_cons hl
  obtain ⟨d1, r, rfl, h1, hl⟩ := wfL_cons hl
  obtain ⟨d2, r, rfl, h2, hl⟩ := wfL_cons hl
  obtain ⟨d3, r, rfl, h3, hl⟩ := wfL_cons hl
  obtain ⟨d4, d5, rfl, h4, h5⟩ := wfL2 hl
  obtain ⟨cs, rfl, q0⟩ := wfCs h0
  obtain ⟨ys, rfl, q1⟩ := wfYs h1
  obtain ⟨tr, rfl, q2⟩ := wfUs h2
  obtain ⟨wk, rfl, q3⟩ := wfWs h3
  obtain ⟨x, rfl, q4⟩ := wfI h4
  obtain ⟨y, rfl, q5⟩ := wfI h5
  exact ⟨⟨cs, ys, tr, wk, x, y⟩, rfl, q0, q1, q2, q3, q4, q5⟩
end Go.Proofs.Ytmebmpgffhajbaa


namespace Go.Proofs.Ytmebmpgffhajbaa
open Go.RowKit
set_option linter.unusedVariables false
set_option linter.unusedSimpArgs false

inductive Te where
  | mk (k n : Int) (s : ByteArray) (l : List Te)
instance : Inhabited Te := ⟨.mk 0 0 ⟨#[]⟩ []⟩
def Te.k : Te → Int | .mk k _ _ _ => k
def Te.n : Te → Int | .mk _ n _ _ => n
def Te.s : Te → ByteArray | .mk _ _ s _ => s
def Te.l : Te → List Te | .mk _ _ _ l => l

mutual
theorem Te.ind0 {P : Te → Prop} (h : ∀ k n s l, (∀ t ∈ l, P t) → P (.mk k n s l)) : ∀ t, P t
  | .mk k n s l => h k n s l (Te.inds h l)
theorem Te.inds {P : Te → Prop} (h : ∀ k n s l, (∀ t ∈ l, P t) → P (.mk k n s l)) : ∀ (l : List Te), ∀ t ∈ l, P t
  | [], _, ht => by cases ht
  | u :: l, t, ht => by
    exact (List.mem_cons.1 ht).elim (fun e => e ▸ Te.ind0 h u) fun h' => Te.inds h l t h'
end
theorem Te.ind {P : Te → Prop} (h : ∀ k n s l, (∀ t ∈ l, P t) → P (.mk k n s l)) (t : Te) : P t := Te.ind0 h t

mutual
def eT : Te → D
  | .mk k n s l => .a [.i k, .i n, .s s, .r (eTs l)]
def eTs : List Te → List D
  | [] => []
  | t :: l => eT t :: eTs l
end
theorem eTs_map : ∀ l, eTs l = l.map eT
  | [] => rfl
  | t :: l => by rw [eTs, eTs_map l, List.map_cons]
theorem eT_mk (k n : Int) (s : ByteArray) (l : List Te) : eT (.mk k n s l) = .a [.i k, .i n, .s s, .r (l.map eT)] := by rw [eT, eTs_map]
mutual
def dT : D → Te
  | .a [.i k, .i n, .s s, .r l] => .mk k n s (dTs l)
  | _ => .mk 0 0 ⟨#[]⟩ []
def dTs : List D → List Te
  | [] => []
  | d :: l => dT d :: dTs l
end
mutual
theorem dT_eT : ∀ t, dT (eT t) = t
  | .mk k n s l => by simp only [eT, dT, dTs_eTs l]
theorem dTs_eTs : ∀ l, dTs (eTs l) = l
  | [] => rfl
  | t :: l => by simp only [eTs, dTs, dT_eT t, dTs_eTs l]
end
theorem eT_inj {t u : Te} (h : eT t = eT u) : t = u := by rw [← dT_eT t, h, dT_eT u]
theorem eT_eq (t u : Te) : (eT t = eT u) = (t = u) := propext ⟨eT_inj, fun h => h ▸ rfl⟩
theorem eT_0 (t : Te) : (eT t).fld 0 = .i t.k := by cases t; rfl
theorem eT_1 (t : Te) : (eT t).fld 1 = .i t.n := by cases t; rfl
theorem eT_2 (t : Te) : (eT t).fld 2 = .s t.s := by cases t; rfl
theorem eT_3 (t : Te) : (eT t).fld 3 = .r (t.l.map eT) := by cases t; rw [eT_mk]; rfl
theorem eT_snoc (k n : Int) (s : ByteArray) (l : List Te) (x : Te) : D.a ((eT (.mk k n s l)).fs.set 3 (.r (l.map eT ++ [eT x]))) = eT (.mk k n s (l ++ [x])) := by
  rw [eT_mk, eT_mk]
  simp [D.fs]
def zT : Te := .mk 0 0 ⟨#[]⟩ []
theorem eT_z : D.a [.i 0, .i 0, .s ⟨#[]⟩, .r []] = eT zT := rfl

mutual
def szT : Te → Nat
  | .mk _ _ _ l => szTs l + 1
def szTs : List Te → Nat
  | [] => 0
  | t :: l => szT t + szTs l
end
theorem szT_pos (t : Te) : 1 ≤ szT t := by cases t; rw [szT]; omega
theorem szTs_mem {t : Te} : ∀ {l : List Te}, t ∈ l → szT t ≤ szTs l
  | u :: l, h => by
    rcases List.mem_cons.1 h with rfl | h
    · rw [szTs]; omega
    · have := szTs_mem h; rw [szTs]; omega
theorem szT_arg {t u : Te} (h : u ∈ t.l) : szT u < szT t := by
  cases t
  have := szTs_mem h
  rw [szT]
  exact Nat.lt_succ_of_le this
theorem szTs_app : ∀ (l m : List Te), szTs (l ++ m) = szTs l + szTs m
  | [], m => by simp [szTs]
  | t :: l, m => by rw [List.cons_append, szTs, szTs, szTs_app l m]; omega
theorem szTs_snoc {l : List Te} {k : Nat} (h : k < l.length) : szTs (l.take (k + 1)) = szTs (l.take k) + szT (l.getD k default) := by
  rw [take_snoc h, szTs_app]
  simp [szTs]
theorem szTs_len : ∀ (l : List Te), l.length ≤ szTs l
  | [] => Nat.le_refl _
  | t :: l => by have := szTs_len l; have := szT_pos t; rw [szTs, List.length_cons]; omega
theorem szT_l (t : Te) : szT t = szTs t.l + 1 := by cases t; rw [szT]; rfl

mutual
def okT : Te → Prop
  | .mk k n s l => i64 k ∧ i64 n ∧ s.size ≤ LIM ∧ l.length ≤ 2513169434843 ∧ okTs l
def okTs : List Te → Prop
  | [] => True
  | t :: l => okT t ∧ okTs l
end
theorem okTs_iff : ∀ {l : List Te}, okTs l ↔ ∀ t ∈ l, okT t
  | [] => ⟨fun _ t h => (by cases h), fun _ => trivial⟩
  | t :: l => by rw [okTs, okTs_iff]; simp
theorem okT_mk {k n : Int} {s : ByteArray} {l : List Te} : okT (.mk k n s l) ↔ i64 k ∧ i64 n ∧ s.size ≤ LIM ∧ l.length ≤ 2513169434843 ∧ ∀ t ∈ l, okT t := by rw [okT, okTs_iff]
theorem okT.k {t : Te} (h : okT t) : i64 t.k := by cases t; exact (okT_mk.1 h).1
theorem okT.n {t : Te} (h : okT t) : i64 t.n := by cases t; exact (okT_mk.1 h).2.1
theorem okT.s {t : Te} (h : okT t) : t.s.size ≤ LIM := by cases t; exact (okT_mk.1 h).2.2.1
theorem okT.l {t : Te} (h : okT t) : t.l.length ≤ 2513169434843 := by cases t; exact (okT_mk.1 h).2.2.2.1
theorem wfT_all (d : D) : (Wf d T_Term → ∃ t, d = eT t ∧ okT t) ∧ (Wf d T_Terms → ∃ l : List Te, d = .r (l.map eT) ∧ l.length ≤ 2513169434843 ∧ ∀ t ∈ l, okT t) := by
  have noS : ∀ {d : D}, Wf d T_Term → ∃ l, d = .a l := fun h => let ⟨l, e, _⟩ := h.st_of (fs := [.int .i64, .int .i64, .str, T_Terms]) rfl; ⟨l, e⟩
  have noR : ∀ {d : D}, Wf d T_Terms → ∃ l, d = .r l := fun h => let ⟨l, e, _⟩ := h.row_of (te := T_Term) rfl; ⟨l, e⟩
  induction d using D.ind with
  | hu => exact ⟨fun h => (by obtain ⟨_, e⟩ := noS h; cases e), fun h => (by obtain ⟨_, e⟩ := noR h; cases e)⟩
  | hi n => exact ⟨fun h => (by obtain ⟨_, e⟩ := noS h; cases e), fun h => (by obtain ⟨_, e⟩ := noR h; cases e)⟩
  | hb n => exact ⟨fun h => (by obtain ⟨_, e⟩ := noS h; cases e), fun h => (by obtain ⟨_, e⟩ := noR h; cases e)⟩
  | hs n => exact ⟨fun h => (by obtain ⟨_, e⟩ := noS h; cases e), fun h => (by obtain ⟨_, e⟩ := noR h; cases e)⟩
  | hm n => exact ⟨fun h => (by obtain ⟨_, e⟩ := noS h; cases e), fun h => (by obtain ⟨_, e⟩ := noR h; cases e)⟩
  | ha l ih =>
    refine ⟨fun h => ?_, fun h => (by obtain ⟨_, e⟩ := noR h; cases e)⟩
    obtain ⟨ds, e, hl⟩ := h.st_of (fs := [.int .i64, .int .i64, .str, T_Terms]) rfl
    injection e with e
    subst e
    obtain ⟨d0, r, rfl, h0, hl⟩ := wfL_cons hl
    obtain ⟨d1, r, rfl, h1, hl⟩ := wfL_cons hl
    obtain ⟨d2, d3, rfl, h2, h3⟩ := wfL2 hl
    obtain ⟨k, rfl, hk⟩ := wfI h0
    obtain ⟨n, rfl, hn⟩ := wfI h1
    obtain ⟨s, rfl, hs⟩ := h2.str
    obtain ⟨ts, rfl, h4, h5⟩ := (ih d3 (by simp)).2 h3
    exact ⟨.mk k n s ts, (eT_mk _ _ _ _).symm, okT_mk.2 ⟨hk, hn, hs, h4, h5⟩⟩
  | hr l ih =>
    refine ⟨fun h => (by obtain ⟨_, e⟩ := noS h; cases e), fun h => ?_⟩
    obtain ⟨l', e, h1, h2⟩ := h.row_of (te := T_Term) rfl
    injection e with e
    subst e
    obtain ⟨m, rfl, h3⟩ := of_all (e := eT) (P := okT) fun x hx => (ih x hx).1 (h2 x hx)
    have e : LM T_Term = 2513169434843 := by kernel_rfl
    rw [e, List.length_map] at h1
    exact ⟨m, rfl, h1, h3⟩
theorem wfT {d : D} (h : Wf d T_Term) : ∃ t, d = eT t ∧ okT t := (wfT_all d).1 h
theorem wfTs {d : D} (h : Wf d T_Terms) : ∃ l : List Te, d = .r (l.map eT) ∧ l.length ≤ 2513169434843 ∧ ∀ t ∈ l, okT t := (wfT_all d).2 h

def nodeT (t : Te) : Bool :=
  if t.k = 0 then decide (0 ≤ t.n) && (decide (t.n ≤ 1099511627776) && (decide (t.s = ⟨#[]⟩) && decide ((t.l.length : Int) = 0)))
  else if t.k = 1 then decide (t.s = ⟨#[]⟩) && decide ((t.l.length : Int) = 0)
  else if t.k = 2 then decide (t.n = 0) && (decide ((t.s.size : Int) ≤ 100) && decide ((t.l.length : Int) = 0))
  else if t.k = 3 then decide (t.n = 0) && (decide ((t.s.size : Int) ≤ 100) && (decide (1 ≤ (t.l.length : Int)) && decide ((t.l.length : Int) ≤ 8)))
  else false
mutual
def nodesT : Te → Bool
  | .mk k n s l => nodeT (.mk k n s l) && nodesTs l
def nodesTs : List Te → Bool
  | [] => true
  | t :: l => nodesT t && nodesTs l
end
theorem nodesTs_iff : ∀ {l : List Te}, nodesTs l = true ↔ ∀ t ∈ l, nodesT t = true
  | [] => ⟨fun _ t h => (by cases h), fun _ => rfl⟩
  | t :: l => by rw [nodesTs, Bool.and_eq_true, nodesTs_iff]; simp
theorem nodesT_all (t : Te) : nodesT t = (nodeT t && (List.range t.l.length).all fun i => nodesT (t.l.getD i default)) := by
  cases t with
  | mk k n s l =>
    rw [nodesT]
    congr 1
    rw [Bool.eq_iff_iff, nodesTs_iff, List.all_eq_true]
    refine ⟨fun h i hi => h _ (getD_mem (List.mem_range.1 hi)), fun h t ht => ?_⟩
    obtain ⟨i, hi, rfl⟩ := List.getElem_of_mem ht
    have := h i (List.mem_range.2 hi)
    rwa [show (Te.mk k n s l).l.getD i default = l[i] by simp [Te.l, List.getD_eq_getElem?_getD, List.getElem?_eq_getElem hi]] at this
def validT (t : Te) : Bool := decide (szT t ≤ 2000) && nodesT t

mutual
def idT : Te → Te → Bool
  | .mk k n s l, .mk k' n' s' l' => decide (k = k') && (decide (n = n') && (decide (s = s') && idTs l l'))
def idTs : List Te → List Te → Bool
  | [], [] => true
  | t :: l, u :: m => idT t u && idTs l m
  | _, _ => false
end
mutual
theorem idT_iff : ∀ (t u : Te), idT t u = true ↔ t = u
  | .mk k n s l, .mk k' n' s' l' => by simp [idT, idTs_iff l l']
theorem idTs_iff : ∀ (l m : List Te), idTs l m = true ↔ l = m
  | [], [] => by simp [idTs]
  | t :: l, u :: m => by simp [idTs, idT_iff t u, idTs_iff l m]
  | [], _ :: _ => by simp [idTs]
  | _ :: _, [] => by simp [idTs]
end
instance : DecidableEq Te := fun t u => if h : idT t u = true then .isTrue ((idT_iff t u).1 h) else .isFalse fun e => h ((idT_iff t u).2 e)
end Go.Proofs.Ytmebmpgffhajbaa


namespace Go.Proofs.Ytmebmpgffhajbaa
open Go.RowKit
set_option linter.unusedVariables false
set_option linter.unusedSimpArgs false

def mT (ds : List D) : Nat := szT (dT (ds.getD 0 .u))
def gTi (f : Te → Int) : List D → Option (List D)
  | [t] => some [.i (f (dT t))]
  | _ => none
def gTb (f : Te → Bool) : List D → Option (List D)
  | [t] => some [.b (f (dT t))]
  | _ => none
def gTT (f : Te → Te) : List D → Option (List D)
  | [t] => some [eT (f (dT t))]
  | _ => none
def gTTb (f : Te → Te → Bool) : List D → Option (List D)
  | [t, v] => some [.b (f (dT t) (dT v))]
  | _ => none

theorem Te_l (k n : Int) (s : ByteArray) (l : List Te) : (Te.mk k n s l).l = l := rfl
theorem get_t {l : List Te} {k : Nat} (h : k < l.length) : (D.r (l.map eT)).get (k : Int) = eT (l.getD k default) := get_n eT h
theorem arg_sz {t : Te} {k : Nat} (h : k < t.l.length) : szT (t.l.getD k default) < szT t := szT_arg (getD_mem h)

theorem nodes_iff (t : Te) : nodesT t = true ↔ nodeT t = true ∧ ∀ j, j < t.l.length → nodesT (t.l.getD j default) = true := by
  rw [nodesT_all, Bool.and_eq_true, List.all_eq_true]
  simp
theorem same_iff {t u : Te} : idT t u = true ↔ t.k = u.k ∧ t.n = u.n ∧ t.s = u.s ∧ t.l.length = u.l.length ∧ ∀ j, j < t.l.length → idT (t.l.getD j default) (u.l.getD j default) = true := by
  rw [idT_iff]
  cases t with
  | mk k n s l =>
    cases u with
    | mk k' n' s' l' =>
      simp only [Te.k, Te.n, Te.s, Te.l, Te.mk.injEq, idT_iff]
      refine ⟨?_, ?_⟩
      · rintro ⟨rfl, rfl, rfl, rfl⟩
        exact ⟨rfl, rfl, rfl, rfl, fun _ _ => rfl⟩
      · rintro ⟨rfl, rfl, rfl, h1, h2⟩
        refine ⟨rfl, rfl, rfl, List.ext_getElem h1 fun i hi hi' => ?_⟩
        have := h2 i hi
        simpa [List.getD_eq_getElem?_getD, List.getElem?_eq_getElem hi, List.getElem?_eq_getElem hi'] using this
def gSz1 : List D → Option (List D)
  | [t, m] => if 1 ≤ m.int then some [.i (m.int - min (szT (dT t) : Int) m.int)] else none
  | _ => none
theorem ok_term_Size_1 : FOk q10 gSz1 := fok_cut (m := mT) enter_term_Size_1 fun N ih => fok_term_Size_1 ih fun ds outs hw hg => by
  obtain ⟨d, r, rfl, hd, e, r', rfl, he, rfl⟩ := hw
  obtain ⟨t, rfl, ht⟩ := wfT hd
  obtain ⟨m, rfl, hm⟩ := wfI he
  simp only [cutM, mT, gSz1, List.getD_cons_zero, dT_eT, int_i, Option.ite_none_right_eq_some, Option.some.injEq] at hg
  obtain ⟨hsz, h1, rfl⟩ := hg
  have hl := ht.l
  rw [q34, q00]
  refine ⟨by simp only [q00, go_br, q01, q02, allSay, X.says, X.ev, X.evs, evl, tblS, List.getD_cons_zero, List.getD_cons_succ, List.getElem?_cons_zero, List.getElem?_cons_succ, tt_b, int_i, str_s, rs_r, Option.isSome_some, Option.getD_some, decide_eq_true_eq, decide_eq_false_iff_not, gnE, List.length_map, gnF, gnL, decide_true, decide_false, Bool.or_true, true_and, and_true, dT_eT, eT_0, eT_1, eT_2, eT_3, eT_eq, eT_z]; omega, ?_⟩
  rw [q17]
  refine ⟨fun st => ∃ k : Nat, k ≤ t.l.length ∧ st = [.i k, .i (m - min ((szTs (t.l.take k) : Int) + 1) m)], fun st => t.l.length - (st.getD 0 .u).int.toNat, ⟨0, Nat.zero_le _, by simp [X.evs, X.ev, szTs, evl, D.int]; omega⟩, ?_⟩
  rintro st - ⟨k, hk, rfl⟩
  rw [go_br]
  refine ⟨fun hlt => ?_, fun hlt => ?_⟩
  · simp only [q00, go_br, q01, q02, allSay, X.says, X.ev, X.evs, evl, tblS, List.getD_cons_zero, List.getD_cons_succ, List.getElem?_cons_zero, List.getElem?_cons_succ, tt_b, int_i, str_s, rs_r, Option.isSome_some, Option.getD_some, decide_eq_true_eq, decide_eq_false_iff_not, gnE, List.length_map, gnF, gnL, decide_true, decide_false, Bool.or_true, true_and, and_true, dT_eT, eT_0, eT_1, eT_2, eT_3, eT_eq, eT_z, Bool.and_eq_true] at hlt
    obtain ⟨hkl, hlm⟩ := hlt
    have hkl' : k < t.l.length := by omega
    have ha := arg_sz hkl'
    have hs := szTs_snoc hkl'
    have hmn : 1 ≤ m - min ((szTs (t.l.take k) : Int) + 1) m := by omega
    simp only [q00, go_br, q01, q02, allSay, X.says, X.ev, X.evs, evl, tblS, List.getD_cons_zero, List.getD_cons_succ, List.getElem?_cons_zero, List.getElem?_cons_succ, tt_b, int_i, str_s, rs_r, Option.isSome_some, Option.getD_some, decide_eq_true_eq, decide_eq_false_iff_not, gnE, List.length_map, gnF, gnL, decide_true, decide_false, Bool.or_true, true_and, and_true, dT_eT, eT_0, eT_1, eT_2, eT_3, eT_eq, eT_z, get_t hkl', cutM, mT, gSz1, if_pos hmn, if_pos (show szT (t.l.getD k default) < N by omega)]
    refine ⟨⟨by omega, by omega⟩, ⟨by omega, by omega⟩, ?_⟩
    rw [updB, if_pos rfl]
    refine ⟨⟨k + 1, by omega, ?_⟩, ?_⟩
    · rw [hs]
      simp
      omega
    · simp [D.int]
      omega
  · simp only [q00, go_br, q01, q02, allSay, X.says, X.ev, X.evs, evl, tblS, List.getD_cons_zero, List.getD_cons_succ, List.getElem?_cons_zero, List.getElem?_cons_succ, tt_b, int_i, str_s, rs_r, Option.isSome_some, Option.getD_some, decide_eq_true_eq, decide_eq_false_iff_not, gnE, List.length_map, gnF, gnL, decide_true, decide_false, Bool.or_true, true_and, and_true, dT_eT, eT_0, eT_1, eT_2, eT_3, eT_eq, eT_z, Bool.and_eq_false_iff] at hlt
    simp only [q00, go_br, q01, q02, allSay, X.says, X.ev, X.evs, evl, tblS, List.getD_cons_zero, List.getD_cons_succ, List.getElem?_cons_zero, List.getElem?_cons_succ, tt_b, int_i, str_s, rs_r, Option.isSome_some, Option.getD_some, decide_eq_true_eq, decide_eq_false_iff_not, gnE, List.length_map, gnF, gnL, decide_true, decide_false, Bool.or_true, true_and, and_true, dT_eT, eT_0, eT_1, eT_2, eT_3, eT_eq, eT_z]
    have hz := szT_l t
    have : m - min ((szTs (t.l.take k) : Int) + 1) m = m - min (szT t : Int) m := by
      rcases hlt with h | h
      · have : k = t.l.length := by omega
        subst this
        rw [List.take_length]
        omega
      · have h2 := szTs_app (t.l.take k) (t.l.drop k)
        rw [List.take_append_drop] at h2
        omega
    rw [this]
theorem ok_term_Size : FOk q0w (gTi fun t => min (szT t : Int) 2001) := fok_term_Size ok_term_Size_1 fun ds outs hw hg => by
  obtain ⟨d, r, rfl, hd, rfl⟩ := hw
  obtain ⟨t, rfl, ht⟩ := wfT hd
  simp only [gTi, dT_eT, Option.some.injEq] at hg
  subst hg
  simp [q3t, q00, go_br, q01, q02, allSay, X.says, X.ev, X.evs, evl, tblS, List.getD_cons_zero, List.getD_cons_succ, List.getElem?_cons_zero, List.getElem?_cons_succ, tt_b, int_i, str_s, rs_r, Option.isSome_some, Option.getD_some, decide_eq_true_eq, decide_eq_false_iff_not, gnE, List.length_map, gnF, gnL, decide_true, decide_false, Bool.or_true, true_and, and_true, dT_eT, eT_0, eT_1, eT_2, eT_3, eT_eq, eT_z, gSz1]
  omega
theorem ok_term_fits : FOk q0j (gTb nodesT) := fok_cut (m := mT) enter_term_fits fun N ih => fok_term_fits ih fun ds outs hw hg => by
  obtain ⟨d, r, rfl, hd, rfl⟩ := hw
  obtain ⟨t, rfl, ht⟩ := wfT hd
  simp only [cutM, mT, gTb, List.getD_cons_zero, dT_eT, int_i, Option.ite_none_right_eq_some, Option.some.injEq] at hg
  obtain ⟨hsz, rfl⟩ := hg
  have hl := ht.l
  have key : ∀ (x : X), x.ev (evl (tblS [(q0j, cutM mT N (gTb nodesT))]) [eT t]) = .b (nodeT t) → Tree.go (tblS [(q0j, cutM mT N (gTb nodesT))]) (fun o => o = [D.b (nodesT t)]) (.loop 12 1 [x, (.lit (.i 0))] (.br (.and (.lt (.tok 2) (.len (.fld (.tok 0) 3))) (.tok 1)) (.need [(.le (.lit (.i 0)) (.tok 2)), (.lt (.tok 2) (.len (.fld (.tok 0) 3))), (.ok 0 [(.get (.fld (.tok 0) 3) (.tok 2))])] (.need [(.rng .i64 (.add (.tok 2) (.lit (.i 1))))] (.back 12 [(.call 0 0 [(.get (.fld (.tok 0) 3) (.tok 2))]), (.add (.tok 2) (.lit (.i 1)))]))) (.leaf [(.tok 1)]))) [eT t] fun _ _ => False := by
    intro x hx
    rw [q17]
    refine ⟨fun st => ∃ (k : Nat) (v : Bool), k ≤ t.l.length ∧ st = [.b v, .i k] ∧ (v = true ↔ nodeT t = true ∧ ∀ j, j < k → nodesT (t.l.getD j default) = true), fun st => t.l.length - (st.getD 1 .u).int.toNat, ⟨0, nodeT t, Nat.zero_le _, by simp only [X.evs, hx, X.ev]; rfl, by simp⟩, ?_⟩
    rintro st - ⟨k, v, hk, rfl, hv⟩
    rw [go_br]
    refine ⟨fun hlt => ?_, fun hlt => ?_⟩
    · simp only [q00, go_br, q01, q02, allSay, X.says, X.ev, X.evs, evl, tblS, List.getD_cons_zero, List.getD_cons_succ, List.getElem?_cons_zero, List.getElem?_cons_succ, tt_b, int_i, str_s, rs_r, Option.isSome_some, Option.getD_some, decide_eq_true_eq, decide_eq_false_iff_not, gnE, List.length_map, gnF, gnL, decide_true, decide_false, Bool.or_true, true_and, and_true, dT_eT, eT_0, eT_1, eT_2, eT_3, eT_eq, eT_z, Bool.and_eq_true] at hlt
      obtain ⟨hlt, rfl⟩ := hlt
      have hkl' : k < t.l.length := by omega
      have ha := arg_sz hkl'
      simp only [q00, go_br, q01, q02, allSay, X.says, X.ev, X.evs, evl, tblS, List.getD_cons_zero, List.getD_cons_succ, List.getElem?_cons_zero, List.getElem?_cons_succ, tt_b, int_i, str_s, rs_r, Option.isSome_some, Option.getD_some, decide_eq_true_eq, decide_eq_false_iff_not, gnE, List.length_map, gnF, gnL, decide_true, decide_false, Bool.or_true, true_and, and_true, dT_eT, eT_0, eT_1, eT_2, eT_3, eT_eq, eT_z, get_t hkl', cutM, mT, gTb, if_pos (show szT (t.l.getD k default) < N by omega)]
      refine ⟨⟨by omega, by omega⟩, ⟨by omega, by omega⟩, ?_⟩
      rw [updB, if_pos rfl]
      have hv' := hv.1 rfl
      refine ⟨⟨k + 1, _, by omega, rfl, ⟨fun h => ⟨hv'.1, upto_succ hv'.2 h⟩, fun h => h.2 k (Nat.lt_succ_self _)⟩⟩, ?_⟩
      simp [D.int]
      omega
    · simp only [q00, go_br, q01, q02, allSay, X.says, X.ev, X.evs, evl, tblS, List.getD_cons_zero, List.getD_cons_succ, List.getElem?_cons_zero, List.getElem?_cons_succ, tt_b, int_i, str_s, rs_r, Option.isSome_some, Option.getD_some, decide_eq_true_eq, decide_eq_false_iff_not, gnE, List.length_map, gnF, gnL, decide_true, decide_false, Bool.or_true, true_and, and_true, dT_eT, eT_0, eT_1, eT_2, eT_3, eT_eq, eT_z, Bool.and_eq_false_iff] at hlt
      simp only [q00, go_br, q01, q02, allSay, X.says, X.ev, X.evs, evl, tblS, List.getD_cons_zero, List.getD_cons_succ, List.getElem?_cons_zero, List.getElem?_cons_succ, tt_b, int_i, str_s, rs_r, Option.isSome_some, Option.getD_some, decide_eq_true_eq, decide_eq_false_iff_not, gnE, List.length_map, gnF, gnL, decide_true, decide_false, Bool.or_true, true_and, and_true, dT_eT, eT_0, eT_1, eT_2, eT_3, eT_eq, eT_z]
      rw [show v = nodesT t from ?_]
      cases hvv : v with
      | false =>
        cases hh : nodesT t with
        | false => rfl
        | true =>
          have h2 := (nodes_iff t).1 hh
          rw [hv.2 ⟨h2.1, fun j hj => h2.2 j (by omega)⟩] at hvv
          cases hvv
      | true =>
        have : k = t.l.length := by
          rcases hlt with h | h
          · omega
          · rw [hvv] at h; cases h
        subst this
        exact ((nodes_iff t).2 (hv.1 hvv)).symm
  rw [q3u]
  simp only [go_br]
  have e0 : ∀ z : Int, (X.eq (.fld (.tok 0) 0) (.lit (.i z))).ev (evl (tblS [(q0j, cutM mT N (gTb nodesT))]) [eT t]) = .b (decide (t.k = z)) := fun z => by
    simp only [q00, go_br, q01, q02, allSay, X.says, X.ev, X.evs, evl, tblS, List.getD_cons_zero, List.getD_cons_succ, List.getElem?_cons_zero, List.getElem?_cons_succ, tt_b, int_i, str_s, rs_r, Option.isSome_some, Option.getD_some, decide_eq_true_eq, decide_eq_false_iff_not, gnE, List.length_map, gnF, gnL, decide_true, decide_false, Bool.or_true, true_and, and_true, dT_eT, eT_0, eT_1, eT_2, eT_3, eT_eq, eT_z]
  simp only [e0, tt_b, decide_eq_true_eq, decide_eq_false_iff_not]
  refine ⟨fun h => key _ ?_, fun h0 => ⟨fun h => key _ ?_, fun h1 => ⟨fun h => key _ ?_, fun h2 => ⟨fun h => key _ ?_, fun h3 => key _ ?_⟩⟩⟩⟩
  all_goals simp only [q00, go_br, q01, q02, allSay, X.says, X.ev, X.evs, evl, tblS, List.getD_cons_zero, List.getD_cons_succ, List.getElem?_cons_zero, List.getElem?_cons_succ, tt_b, int_i, str_s, rs_r, Option.isSome_some, Option.getD_some, decide_eq_true_eq, decide_eq_false_iff_not, gnE, List.length_map, gnF, gnL, decide_true, decide_false, Bool.or_true, true_and, and_true, dT_eT, eT_0, eT_1, eT_2, eT_3, eT_eq, eT_z, nodeT]
  · simp [h, Bool.and_assoc]
  · simp [h, Bool.and_assoc]
  · simp [h, Bool.and_assoc]
  · have e8 : decide (0 < (t.l.length : Int)) = decide (1 ≤ (t.l.length : Int)) := rfl
    rw [e8]
    simp [h, Bool.and_assoc]
  · simp [h0, h1, h2, h3]
theorem q2w : FOk q0h (gTb validT) := fok_term_Valid ok_term_Size ok_term_fits fun ds outs hw hg => by
  obtain ⟨d, r, rfl, hd, rfl⟩ := hw
  obtain ⟨t, rfl, ht⟩ := wfT hd
  simp only [gTb, dT_eT, Option.some.injEq] at hg
  subst hg
  have e : decide (min (szT t : Int) 2001 ≤ 2000) = decide (szT t ≤ 2000) := by rw [decide_eq_decide]; omega
  simp [q3i, q00, go_br, q01, q02, allSay, X.says, X.ev, X.evs, evl, tblS, List.getD_cons_zero, List.getD_cons_succ, List.getElem?_cons_zero, List.getElem?_cons_succ, tt_b, int_i, str_s, rs_r, Option.isSome_some, Option.getD_some, decide_eq_true_eq, decide_eq_false_iff_not, gnE, List.length_map, gnF, gnL, decide_true, decide_false, Bool.or_true, true_and, and_true, dT_eT, eT_0, eT_1, eT_2, eT_3, eT_eq, eT_z, gTi, gTb, validT, e]
theorem ok_term_Clone_1 : FOk q1c (gTT id) := fok_term_Clone_1 fun ds outs hw hg => by
  obtain ⟨d, r, rfl, hd, rfl⟩ := hw
  obtain ⟨t, rfl, ht⟩ := wfT hd
  simp only [gTT, dT_eT, Option.some.injEq] at hg
  subst hg
  simp only [q2o, q00, go_br, q01, q02, allSay, X.says, X.ev, X.evs, evl, tblS, List.getD_cons_zero, List.getD_cons_succ, List.getElem?_cons_zero, List.getElem?_cons_succ, tt_b, int_i, str_s, rs_r, Option.isSome_some, Option.getD_some, decide_eq_true_eq, decide_eq_false_iff_not, gnE, List.length_map, gnF, gnL, decide_true, decide_false, Bool.or_true, true_and, and_true, dT_eT, eT_0, eT_1, eT_2, eT_3, eT_eq, eT_z, id]
theorem ok_term_apply : FOk q15 (gTT id) := fok_cut (m := mT) enter_term_apply fun N ih => fok_term_apply ok_term_Clone_1 ih fun ds outs hw hg => by
  obtain ⟨d, r, rfl, hd, rfl⟩ := hw
  obtain ⟨t, rfl, ht⟩ := wfT hd
  simp only [cutM, mT, gTT, List.getD_cons_zero, dT_eT, int_i, Option.ite_none_right_eq_some, Option.some.injEq] at hg
  obtain ⟨hsz, rfl⟩ := hg
  have hl := ht.l
  rw [q3h, go_br]
  refine ⟨fun h => ?_, fun h => ?_⟩
  · simp only [q00, go_br, q01, q02, allSay, X.says, X.ev, X.evs, evl, tblS, List.getD_cons_zero, List.getD_cons_succ, List.getElem?_cons_zero, List.getElem?_cons_succ, tt_b, int_i, str_s, rs_r, Option.isSome_some, Option.getD_some, decide_eq_true_eq, decide_eq_false_iff_not, gnE, List.length_map, gnF, gnL, decide_true, decide_false, Bool.or_true, true_and, and_true, dT_eT, eT_0, eT_1, eT_2, eT_3, eT_eq, eT_z, gTT, id]
  rw [q17]
  refine ⟨fun st => ∃ k : Nat, k ≤ t.l.length ∧ st = [.i k, eT (.mk t.k t.n t.s (t.l.take k))], fun st => t.l.length - (st.getD 0 .u).int.toNat, ⟨0, Nat.zero_le _, by simp only [X.evs, X.ev, evl, List.getD_cons_zero, eT_0, eT_1, eT_2, eT_mk]; rfl⟩, ?_⟩
  rintro st - ⟨k, hk, rfl⟩
  rw [go_br]
  refine ⟨fun hlt => ?_, fun hlt => ?_⟩
  · simp only [q00, go_br, q01, q02, allSay, X.says, X.ev, X.evs, evl, tblS, List.getD_cons_zero, List.getD_cons_succ, List.getElem?_cons_zero, List.getElem?_cons_succ, tt_b, int_i, str_s, rs_r, Option.isSome_some, Option.getD_some, decide_eq_true_eq, decide_eq_false_iff_not, gnE, List.length_map, gnF, gnL, decide_true, decide_false, Bool.or_true, true_and, and_true, dT_eT, eT_0, eT_1, eT_2, eT_3, eT_eq, eT_z] at hlt
    have hkl' : k < t.l.length := by omega
    have ha := arg_sz hkl'
    simp only [q00, go_br, q01, q02, allSay, X.says, X.ev, X.evs, evl, tblS, List.getD_cons_zero, List.getD_cons_succ, List.getElem?_cons_zero, List.getElem?_cons_succ, tt_b, int_i, str_s, rs_r, Option.isSome_some, Option.getD_some, decide_eq_true_eq, decide_eq_false_iff_not, gnE, List.length_map, gnF, gnL, decide_true, decide_false, Bool.or_true, true_and, and_true, dT_eT, eT_0, eT_1, eT_2, eT_3, eT_eq, eT_z, get_t hkl', cutM, mT, gTT, if_pos (show szT (t.l.getD k default) < N by omega), id, Te_l, List.length_take]
    refine ⟨⟨by omega, by omega⟩, by omega, ⟨by omega, by omega⟩, ?_⟩
    rw [updB, if_pos rfl]
    refine ⟨⟨k + 1, by omega, ?_⟩, ?_⟩
    · rw [take_snoc hkl', eT_snoc]
      rfl
    · simp [D.int]
      omega
  · simp only [q00, go_br, q01, q02, allSay, X.says, X.ev, X.evs, evl, tblS, List.getD_cons_zero, List.getD_cons_succ, List.getElem?_cons_zero, List.getElem?_cons_succ, tt_b, int_i, str_s, rs_r, Option.isSome_some, Option.getD_some, decide_eq_true_eq, decide_eq_false_iff_not, gnE, List.length_map, gnF, gnL, decide_true, decide_false, Bool.or_true, true_and, and_true, dT_eT, eT_0, eT_1, eT_2, eT_3, eT_eq, eT_z] at hlt ⊢
    have : k = t.l.length := by omega
    subst this
    rw [List.take_length]
    cases t
    rfl
theorem ok_term_Clone : FOk q14 (gTT fun t => if validT t then t else zT) := fok_term_Clone q2w ok_term_apply fun ds outs hw hg => by
  obtain ⟨d, r, rfl, hd, rfl⟩ := hw
  obtain ⟨t, rfl, ht⟩ := wfT hd
  simp only [gTT, dT_eT, Option.some.injEq] at hg
  subst hg
  simp only [q3k, q00, go_br, q01, q02, allSay, X.says, X.ev, X.evs, evl, tblS, List.getD_cons_zero, List.getD_cons_succ, List.getElem?_cons_zero, List.getElem?_cons_succ, tt_b, int_i, str_s, rs_r, Option.isSome_some, Option.getD_some, decide_eq_true_eq, decide_eq_false_iff_not, gnE, List.length_map, gnF, gnL, decide_true, decide_false, Bool.or_true, true_and, and_true, dT_eT, eT_0, eT_1, eT_2, eT_3, eT_eq, eT_z, gTb, gTT, id]
  cases validT t <;> simp
def gSt (f : ByteArray → Te) : List D → Option (List D)
  | [s] => some [eT (f s.str)]
  | _ => none
def atomT (s : ByteArray) : Te := if s.size ≤ 100 then .mk 2 0 s [] else zT
theorem atomT_ok {s : ByteArray} (h : s.size ≤ 100) : atomT s = .mk 2 0 s [] := if_pos h
theorem ok_term_Atom : FOk q19 (gSt atomT) := fok_term_Atom ok_term_Clone fun ds outs hw hg => by
  obtain ⟨d, r, rfl, hd, rfl⟩ := hw
  obtain ⟨s, rfl, hs⟩ := hd.str
  simp only [gSt, str_s, Option.some.injEq] at hg
  subst hg
  have e : D.a ((D.a ([D.i 0, .i 0, .s ⟨#[]⟩, .r []].set 0 (.i 2))).fs.set 2 (.s s)) = eT (.mk 2 0 s []) := rfl
  simp only [q3r, q00, go_br, q01, q02, allSay, X.says, X.ev, X.evs, evl, tblS, List.getD_cons_zero, List.getD_cons_succ, List.getElem?_cons_zero, List.getElem?_cons_succ, tt_b, int_i, str_s, rs_r, Option.isSome_some, Option.getD_some, decide_eq_true_eq, decide_eq_false_iff_not, gnE, List.length_map, gnF, gnL, decide_true, decide_false, Bool.or_true, true_and, and_true, dT_eT, eT_0, eT_1, eT_2, eT_3, eT_eq, eT_z, gTT, fs_a]
  have e2 : D.a (((eT zT).fs.set 0 (.i 2)).set 2 (.s s)) = eT (.mk 2 0 s []) := rfl
  simp only [e2]
  have : validT (.mk 2 0 s []) = decide (s.size ≤ 100) := by
    rw [Bool.eq_iff_iff]
    simp [validT, szT, szTs, nodesT, nodesTs, nodeT, Te.k, Te.n, Te.s, Te.l]
    exact Iff.trans decide_eq_true_iff (Int.ofNat_le (n := 100))
  simp only [dT_eT, this, atomT, decide_eq_true_eq]
def gIt (f : Int → Te) : List D → Option (List D)
  | [n] => some [eT (f n.int)]
  | _ => none
theorem ok_term_Int : FOk q1x (gIt fun n => .mk 1 n ⟨#[]⟩ []) := fok_term_Int fun ds outs hw hg => by
  obtain ⟨d, r, rfl, hd, rfl⟩ := hw
  obtain ⟨n, rfl, hn⟩ := wfI hd
  simp only [gIt, int_i, Option.some.injEq] at hg
  subst hg
  simp only [tree_term_Int, q00, go_br, q01, q02, allSay, X.says, X.ev, X.evs, evl, tblS, List.getD_cons_zero, List.getD_cons_succ, List.getElem?_cons_zero, List.getElem?_cons_succ, tt_b, int_i, str_s, rs_r, Option.isSome_some, Option.getD_some, decide_eq_true_eq, decide_eq_false_iff_not, gnE, List.length_map, gnF, gnL, decide_true, decide_false, Bool.or_true, true_and, and_true, dT_eT, eT_0, eT_1, eT_2, eT_3, eT_eq, eT_z]
  rfl
end Go.Proofs.Ytmebmpgffhajbaa


namespace Go.Proofs.Ytmebmpgffhajbaa
open Go.RowKit
set_option linter.unusedVariables false
set_option linter.unusedSimpArgs false

mutual
/-- Variables renumbered. -/
def mapV (f : Int → Int) : Te → Te
  | .mk k n s l => .mk k (if k = 0 then f n else n) s (mapVs f l)
def mapVs (f : Int → Int) : List Te → List Te
  | [] => []
  | t :: l => mapV f t :: mapVs f l
end
mutual
/-- The variables in the order of their first occurrence, behind those given. -/
def varsT (vs : List Int) : Te → List Int
  | .mk k n s l => varsTs (if k = 0 ∧ n ∉ vs then vs ++ [n] else vs) l
def varsTs (vs : List Int) : List Te → List Int
  | [] => vs
  | t :: l => varsTs (varsT vs t) l
end
mutual
def inV (V : List Int) : Te → Prop
  | .mk k n s l => (k = 0 → n ∈ V) ∧ inVs V l
def inVs (V : List Int) : List Te → Prop
  | [] => True
  | t :: l => inV V t ∧ inVs V l
end
def posL : List Int → Int → Int
  | [], _ => -1
  | a :: l, x => if a = x then 0 else if posL l x < 0 then -1 else posL l x + 1
abbrev numT (V : List Int) : Te → Te := mapV (posL V)
section
variable {f g : Int → Int}
theorem mapVs_map : ∀ l, mapVs f l = l.map (mapV f)
  | [] => rfl
  | t :: l => by rw [mapVs, mapVs_map l]; rfl
theorem mapV_mk (k n : Int) (s : ByteArray) (l : List Te) : mapV f (.mk k n s l) = .mk k (if k = 0 then f n else n) s (l.map (mapV f)) := by rw [mapV, mapVs_map]
theorem varsTs_app : ∀ (l m : List Te) (vs : List Int), varsTs vs (l ++ m) = varsTs (varsTs vs l) m
  | [], _, _ => rfl
  | t :: l, m, vs => by rw [List.cons_append, varsTs, varsTs, varsTs_app l]
mutual
theorem szT_mapV : ∀ t, szT (mapV f t) = szT t
  | .mk k n s l => by rw [mapV, szT, szT, szTs_mapV l]
theorem szTs_mapV : ∀ l, szTs (mapVs f l) = szTs l
  | [] => rfl
  | t :: l => by rw [mapVs, szTs, szTs, szT_mapV t, szTs_mapV l]
end
mutual
theorem mapV_congr {V : List Int} (h : ∀ x ∈ V, f x = g x) : ∀ t, inV V t → mapV f t = mapV g t
  | .mk k n s l, hi => by
    rw [mapV, mapV, mapVs_congr h l hi.2]
    by_cases hk : k = 0
    · rw [if_pos hk, if_pos hk, h n (hi.1 hk)]
    · rw [if_neg hk, if_neg hk]
theorem mapVs_congr {V : List Int} (h : ∀ x ∈ V, f x = g x) : ∀ l, inVs V l → mapVs f l = mapVs g l
  | [], _ => rfl
  | t :: l, hi => by rw [mapVs, mapVs, mapV_congr h t hi.1, mapVs_congr h l hi.2]
end
mutual
theorem mapV_comp : ∀ t, mapV f (mapV g t) = mapV (fun x => f (g x)) t
  | .mk k n s l => by
    rw [mapV, mapV, mapV, mapVs_comp l]
    by_cases hk : k = 0
    · simp [hk]
    · simp [hk]
theorem mapVs_comp : ∀ l, mapVs f (mapVs g l) = mapVs (fun x => f (g x)) l
  | [] => rfl
  | t :: l => by rw [mapVs, mapVs, mapVs, mapV_comp t, mapVs_comp l]
end
mutual
theorem inV_mono {V W : List Int} (h : ∀ x ∈ V, x ∈ W) : ∀ t, inV V t → inV W t
  | .mk k n s l, hi => ⟨fun hk => h n (hi.1 hk), inVs_mono h l hi.2⟩
theorem inVs_mono {V W : List Int} (h : ∀ x ∈ V, x ∈ W) : ∀ l, inVs V l → inVs W l
  | [], _ => trivial
  | t :: l, hi => ⟨inV_mono h t hi.1, inVs_mono h l hi.2⟩
end
mutual
theorem varsT_pre : ∀ (t : Te) (vs : List Int), ∃ m, varsT vs t = vs ++ m
  | .mk k n s l, vs => by
    rw [varsT]
    obtain ⟨m, hm⟩ := varsTs_pre l (if k = 0 ∧ n ∉ vs then vs ++ [n] else vs)
    rw [hm]
    split
    · exact ⟨[n] ++ m, by simp⟩
    · exact ⟨m, rfl⟩
theorem varsTs_pre : ∀ (l : List Te) (vs : List Int), ∃ m, varsTs vs l = vs ++ m
  | [], vs => ⟨[], by simp [varsTs]⟩
  | t :: l, vs => by
    rw [varsTs]
    obtain ⟨m, hm⟩ := varsT_pre t vs
    obtain ⟨m', hm'⟩ := varsTs_pre l (varsT vs t)
    exact ⟨m ++ m', by rw [hm', hm]; simp⟩
end
theorem varsTs_sub {t : List Te} {vs : List Int} {x : Int} (h : x ∈ vs) : x ∈ varsTs vs t := by
  obtain ⟨m, hm⟩ := varsTs_pre t vs
  rw [hm]
  exact List.mem_append_left _ h
mutual
theorem varsT_in : ∀ (t : Te) (vs : List Int), inV (varsT vs t) t
  | .mk k n s l, vs => by
    rw [varsT]
    refine ⟨fun hk => varsTs_sub ?_, varsTs_in l _⟩
    split
    · simp
    · rename_i h
      exact Classical.byContradiction fun hn => h ⟨hk, hn⟩
theorem varsTs_in : ∀ (l : List Te) (vs : List Int), inVs (varsTs vs l) l
  | [], vs => trivial
  | t :: l, vs => by
    rw [varsTs]
    exact ⟨inV_mono (fun x hx => varsTs_sub hx) t (varsT_in t vs), varsTs_in l _⟩
end
mutual
theorem varsT_len : ∀ (t : Te) (vs : List Int), (varsT vs t).length ≤ vs.length + szT t
  | .mk k n s l, vs => by
    rw [varsT, szT]
    refine Nat.le_trans (varsTs_len l _) ?_
    split
    · simp; omega
    · omega
theorem varsTs_len : ∀ (l : List Te) (vs : List Int), (varsTs vs l).length ≤ vs.length + szTs l
  | [], vs => by simp [varsTs, szTs]
  | t :: l, vs => by
    rw [varsTs, szTs]
    have h1 := varsTs_len l (varsT vs t)
    have h2 := varsT_len t vs
    omega
end
theorem mem_map_inj {vs : List Int} {n : Int} (h : ∀ x ∈ vs, f x = f n → x = n) : f n ∈ vs.map f ↔ n ∈ vs := by
  rw [List.mem_map]
  exact ⟨fun ⟨x, hx, e⟩ => h x hx e ▸ hx, fun hn => ⟨n, hn, rfl⟩⟩
mutual
theorem varsT_map : ∀ (t : Te) (vs : List Int), (∀ x ∈ varsT vs t, ∀ y ∈ varsT vs t, f x = f y → x = y) → varsT (vs.map f) (mapV f t) = (varsT vs t).map f
  | .mk k n s l, vs, h => by
    rw [mapV, varsT, varsT]
    rw [varsT] at h
    rw [← varsTs_map l _ h]
    congr 1
    by_cases hk : k = 0
    · simp only [if_pos hk]
      by_cases hn : n ∈ vs
      · rw [if_neg (fun q => q.2 (List.mem_map.2 ⟨n, hn, rfl⟩)), if_neg (fun q => q.2 hn)]
      · rw [if_pos ⟨hk, hn⟩] at h
        have hm : f n ∉ vs.map f := fun q => hn ((mem_map_inj (fun x hx e => h x (varsTs_sub (List.mem_append_left _ hx)) n (varsTs_sub (by simp)) e)).1 q)
        rw [if_pos ⟨hk, hm⟩, if_pos ⟨hk, hn⟩]
        simp
    · rw [if_neg (fun q => hk q.1), if_neg (fun q => hk q.1)]
theorem varsTs_map : ∀ (l : List Te) (vs : List Int), (∀ x ∈ varsTs vs l, ∀ y ∈ varsTs vs l, f x = f y → x = y) → varsTs (vs.map f) (mapVs f l) = (varsTs vs l).map f
  | [], vs, _ => rfl
  | t :: l, vs, h => by
    rw [mapVs, varsTs, varsTs]
    rw [varsTs] at h
    rw [varsT_map t vs (fun x hx y hy => h x (varsTs_sub hx) y (varsTs_sub hy)), varsTs_map l _ h]
end
theorem nodeT_mk (k n : Int) (s : ByteArray) (l : List Te) : nodeT (.mk k n s l) = if k = 0 then decide (0 ≤ n) && (decide (n ≤ 1099511627776) && (decide (s = ⟨#[]⟩) && decide ((l.length : Int) = 0)))
  else if k = 1 then decide (s = ⟨#[]⟩) && decide ((l.length : Int) = 0)
  else if k = 2 then decide (n = 0) && (decide ((s.size : Int) ≤ 100) && decide ((l.length : Int) = 0))
  else if k = 3 then decide (n = 0) && (decide ((s.size : Int) ≤ 100) && (decide (1 ≤ (l.length : Int)) && decide ((l.length : Int) ≤ 8)))
  else false := rfl
theorem nodeT_map {V : List Int} (h : ∀ x ∈ V, 0 ≤ f x ∧ f x ≤ 1099511627776) {k n : Int} {s : ByteArray} {l m : List Te} (hm : m.length = l.length) (hi : k = 0 → n ∈ V) (hn : nodeT (.mk k n s l) = true) : nodeT (.mk k (if k = 0 then f n else n) s m) = true := by
  rw [nodeT_mk] at hn ⊢
  rw [hm]
  by_cases hk : k = 0
  · have := h n (hi hk)
    rw [if_pos hk] at hn
    rw [if_pos hk, if_pos hk]
    simp only [Bool.and_eq_true, decide_eq_true_eq] at hn ⊢
    exact ⟨this.1, this.2, hn.2.2⟩
  · rw [if_neg hk] at hn
    rw [if_neg hk, if_neg hk]
    exact hn
mutual
theorem nodesT_map {V : List Int} (h : ∀ x ∈ V, 0 ≤ f x ∧ f x ≤ 1099511627776) : ∀ t, inV V t → nodesT t = true → nodesT (mapV f t) = true
  | .mk k n s l, hi, hn => by
    rw [nodesT, Bool.and_eq_true] at hn
    rw [mapV, nodesT, Bool.and_eq_true]
    exact ⟨nodeT_map h (by rw [mapVs_map, List.length_map]) hi.1 hn.1, nodesTs_map h l hi.2 hn.2⟩
theorem nodesTs_map {V : List Int} (h : ∀ x ∈ V, 0 ≤ f x ∧ f x ≤ 1099511627776) : ∀ l, inVs V l → nodesTs l = true → nodesTs (mapVs f l) = true
  | [], _, _ => rfl
  | t :: l, hi, hn => by
    rw [nodesTs, Bool.and_eq_true] at hn
    rw [mapVs, nodesTs, Bool.and_eq_true]
    exact ⟨nodesT_map h t hi.1 hn.1, nodesTs_map h l hi.2 hn.2⟩
end
theorem validT_map {V : List Int} (h : ∀ x ∈ V, 0 ≤ f x ∧ f x ≤ 1099511627776) {t : Te} (hi : inV V t) (hv : validT t = true) : validT (mapV f t) = true := by
  simp only [validT, Bool.and_eq_true, decide_eq_true_eq, szT_mapV] at hv ⊢
  exact ⟨hv.1, nodesT_map h t hi hv.2⟩
end

theorem posL_mem : ∀ {l : List Int} {x : Int}, x ∈ l → 0 ≤ posL l x ∧ posL l x < l.length
  | a :: l, x, h => by
    unfold posL
    split
    · simp only [List.length_cons]; omega
    · rename_i hne
      have := posL_mem (l := l) (x := x) (by
        rcases List.mem_cons.1 h with rfl | h
        · exact absurd rfl hne
        · exact h)
      rw [if_neg (by omega)]
      simp only [List.length_cons]
      omega
theorem posL_app {l m : List Int} {x : Int} (h : x ∈ l) : posL (l ++ m) x = posL l x := by
  induction l with
  | nil => cases h
  | cons a l ih =>
    rw [List.cons_append]
    unfold posL
    by_cases e : a = x
    · rw [if_pos e, if_pos e]
    · have hx : x ∈ l := by
        rcases List.mem_cons.1 h with rfl | h
        · exact absurd rfl e
        · exact h
      rw [if_neg e, if_neg e, ih hx]
theorem posL_snoc : ∀ {l : List Int} {x : Int}, x ∉ l → posL (l ++ [x]) x = l.length
  | [], x, _ => by simp [posL]
  | a :: l, x, h => by
    rw [List.cons_append]
    unfold posL
    have := posL_snoc (l := l) (x := x) fun q => h (List.mem_cons_of_mem _ q)
    rw [if_neg (fun e : a = x => h (by rw [e]; exact List.mem_cons_self)), this, if_neg (by omega)]
    simp
theorem posL_map {f : Int → Int} : ∀ {V : List Int} {x : Int}, x ∈ V → (∀ y ∈ V, f y = f x → y = x) → posL (V.map f) (f x) = posL V x
  | a :: l, x, h, hi => by
    rw [List.map_cons]
    unfold posL
    by_cases e : a = x
    · rw [if_pos e, if_pos (by rw [e])]
    · have hx : x ∈ l := by
        rcases List.mem_cons.1 h with rfl | h
        · exact absurd rfl e
        · exact h
      rw [if_neg e, if_neg (fun q => e (hi a List.mem_cons_self q)), posL_map hx fun y hy => hi y (List.mem_cons_of_mem _ hy)]
end Go.Proofs.Ytmebmpgffhajbaa


namespace Go.Proofs.Ytmebmpgffhajbaa
open Go.RowKit
set_option linter.unusedVariables false
set_option linter.unusedSimpArgs false

theorem ok_term_identical : FOk q0l (gTTb idT) := fok_cut (m := mT) q3e fun N ih => fok_term_identical ih fun ds outs hw hg => by
  obtain ⟨d, r, rfl, hd, e, r', rfl, he, rfl⟩ := hw
  obtain ⟨t, rfl, ht⟩ := wfT hd
  obtain ⟨u, rfl, hu⟩ := wfT he
  simp only [cutM, mT, gTTb, List.getD_cons_zero, dT_eT, int_i, Option.ite_none_right_eq_some, Option.some.injEq] at hg
  obtain ⟨hsz, rfl⟩ := hg
  have hl := ht.l
  have no : (¬ idT t u = true) → [D.b false] = [D.b (idT t u)] := fun h => by rw [Bool.eq_false_iff.2 h]
  simp only [q2b, q00, go_br, q01, q02, allSay, X.says, X.ev, X.evs, evl, tblS, List.getD_cons_zero, List.getD_cons_succ, List.getElem?_cons_zero, List.getElem?_cons_succ, tt_b, int_i, str_s, rs_r, Option.isSome_some, Option.getD_some, decide_eq_true_eq, decide_eq_false_iff_not, gnE, List.length_map, gnF, gnL, decide_true, decide_false, Bool.or_true, true_and, and_true, dT_eT, eT_0, eT_1, eT_2, eT_3, eT_eq, eT_z, gTTb]
  refine ⟨fun hn => no fun h => ?_, fun hn => ?_⟩
  · obtain ⟨e1, e2, e3, e4, -⟩ := same_iff.1 h
    simp [e1, e2, e3, e4] at hn
  simp only [Bool.or_eq_false_iff, Bool.not_eq_false', decide_eq_true_eq] at hn
  obtain ⟨⟨⟨e1, e2⟩, e3⟩, e4⟩ := hn
  have e4 : t.l.length = u.l.length := by omega
  rw [q17]
  refine ⟨fun st => ∃ k : Nat, k ≤ t.l.length ∧ st = [.b false, .i k] ∧ ∀ j, j < k → idT (t.l.getD j default) (u.l.getD j default) = true, fun st => t.l.length - (st.getD 1 .u).int.toNat, ⟨0, Nat.zero_le _, rfl, fun j hj => absurd hj (Nat.not_lt_zero _)⟩, ?_⟩
  rintro st - ⟨k, hk, rfl, hP⟩
  rw [go_br]
  refine ⟨fun hlt => ?_, fun hlt => ?_⟩
  · simp only [q00, go_br, q01, q02, allSay, X.says, X.ev, X.evs, evl, tblS, List.getD_cons_zero, List.getD_cons_succ, List.getElem?_cons_zero, List.getElem?_cons_succ, tt_b, int_i, str_s, rs_r, Option.isSome_some, Option.getD_some, decide_eq_true_eq, decide_eq_false_iff_not, gnE, List.length_map, gnF, gnL, decide_true, decide_false, Bool.or_true, true_and, and_true, dT_eT, eT_0, eT_1, eT_2, eT_3, eT_eq, eT_z] at hlt
    have hkl' : k < t.l.length := by omega
    have hku' : k < u.l.length := by omega
    have ha := arg_sz hkl'
    simp only [q00, go_br, q01, q02, allSay, X.says, X.ev, X.evs, evl, tblS, List.getD_cons_zero, List.getD_cons_succ, List.getElem?_cons_zero, List.getElem?_cons_succ, tt_b, int_i, str_s, rs_r, Option.isSome_some, Option.getD_some, decide_eq_true_eq, decide_eq_false_iff_not, gnE, List.length_map, gnF, gnL, decide_true, decide_false, Bool.or_true, true_and, and_true, dT_eT, eT_0, eT_1, eT_2, eT_3, eT_eq, eT_z, get_t hkl', get_t hku', cutM, mT, gTTb, if_pos (show szT (t.l.getD k default) < N by omega)]
    refine ⟨⟨by omega, by omega⟩, ⟨by omega, by omega⟩, fun hx => no fun h => ?_, fun hx => ⟨⟨by omega, by omega⟩, ?_⟩⟩
    · rw [(same_iff.1 h).2.2.2.2 k hkl'] at hx
      cases hx
    · rw [updB, if_pos rfl]
      refine ⟨⟨k + 1, by omega, by simp, upto_succ hP (by simpa using hx)⟩, ?_⟩
      simp [D.int]
      omega
  · simp only [q00, go_br, q01, q02, allSay, X.says, X.ev, X.evs, evl, tblS, List.getD_cons_zero, List.getD_cons_succ, List.getElem?_cons_zero, List.getElem?_cons_succ, tt_b, int_i, str_s, rs_r, Option.isSome_some, Option.getD_some, decide_eq_true_eq, decide_eq_false_iff_not, gnE, List.length_map, gnF, gnL, decide_true, decide_false, Bool.or_true, true_and, and_true, dT_eT, eT_0, eT_1, eT_2, eT_3, eT_eq, eT_z] at hlt ⊢
    have : k = t.l.length := by omega
    subst this
    rw [same_iff.2 ⟨e1, e2, e3, e4, hP⟩]
theorem varsTs_snoc {vs : List Int} {l : List Te} {k : Nat} (h : k < l.length) : varsTs vs (l.take (k + 1)) = varsT (varsTs vs (l.take k)) (l.getD k default) := by
  rw [take_snoc h, varsTs_app]
  rfl
theorem varsT_t (vs : List Int) (t : Te) : varsT vs t = varsTs (if t.k = 0 ∧ t.n ∉ vs then vs ++ [t.n] else vs) t.l := by cases t; rfl
theorem sz_take {l : List Te} {k : Nat} (hk : k < l.length) : szTs (l.take k) + szT (l.getD k default) ≤ szTs l := by
  have h2 := szTs_snoc hk
  have := szTs_app (l.take (k + 1)) (l.drop (k + 1))
  rw [List.take_append_drop] at this
  omega
theorem mapV_t (f : Int → Int) (t : Te) : mapV f t = .mk t.k (if t.k = 0 then f t.n else t.n) t.s (t.l.map (mapV f)) := by cases t; rw [mapV_mk]; rfl
end Go.Proofs.Ytmebmpgffhajbaa


namespace Go.Proofs.Ytmebmpgffhajbaa
end Go.Proofs.Ytmebmpgffhajbaa


namespace Go.Proofs.Ytmebmpgffhajbaa
open Go.RowKit
set_option linter.unusedVariables false
set_option linter.unusedSimpArgs false

def cellAt (s : So) (i : Int) : Ce := s.cs.getD i.toNat default
def inS (s : So) (i : Int) : Bool := decide (0 ≤ i) && decide (i < s.cs.length)
def tagS (s : So) (i : Int) : Int := if inS s i then (cellAt s i).t else -1
def arS (s : So) (n : Int) : Int := if 0 ≤ n ∧ n < s.ys.length then (s.ys.getD n.toNat default).ar else -1
def vcR (s : So) (c : Ce) : Bool := if c.t = 0 then inS s c.n && !decide (tagS s c.n = 4) else if c.t = 1 then true else if c.t = 2 then decide (arS s c.n = 0) else if c.t = 3 then decide (tagS s c.n = 4) else if c.t = 5 then decide (tagS s c.n = 5) else false
def vcP (s : So) (c : Ce) : Bool := if c.t = 0 then decide (0 ≤ tagS s c.n) && !decide (tagS s c.n = 4) else if c.t = 1 then true else if c.t = 2 then decide (arS s c.n = 0) else if c.t = 3 then decide (tagS s c.n = 4) else if c.t = 5 then decide (tagS s c.n = 5) else false
def groupS (s : So) (i : Int) : Bool := decide (tagS s (i + 1) = 1) && (decide (1 ≤ (cellAt s (i + 1)).n) && (decide ((cellAt s (i + 1)).n ≤ s.ser) && (decide (0 ≤ tagS s (i + 2)) && (!decide (tagS s (i + 2) = 4) && !decide (tagS s (i + 2) = 5)))))

def gSIi (f : So → Int → Int) : List D → Option (List D)
  | [s, i] => some [.i (f (dS s) i.int)]
  | _ => none
def gSIb (f : So → Int → Bool) : List D → Option (List D)
  | [s, i] => some [.b (f (dS s) i.int)]
  | _ => none
def gSIbP (q : So → Int → Bool) (f : So → Int → Bool) : List D → Option (List D)
  | [s, i] => if q (dS s) i.int then some [.b (f (dS s) i.int)] else none
  | _ => none
def gSCb (f : So → Ce → Bool) : List D → Option (List D)
  | [s, c] => some [.b (f (dS s) (dC c))]
  | _ => none
def gSUb (f : So → Un → Bool) : List D → Option (List D)
  | [s, c] => some [.b (f (dS s) (dU c))]
  | _ => none
def gSb (f : So → Bool) : List D → Option (List D)
  | [s] => some [.b (f (dS s))]
  | _ => none
def gSbP (q : So → Bool) (f : So → Bool) : List D → Option (List D)
  | [s] => if q (dS s) then some [.b (f (dS s))] else none
  | _ => none

theorem inS_iff {s : So} {i : Int} : inS s i = true ↔ 0 ≤ i ∧ i < s.cs.length := by simp [inS]
theorem cell_get {s : So} {i : Int} (h : inS s i = true) : (D.r (s.cs.map eC)).get i = eC (cellAt s i) := get_r eC (inS_iff.1 h).1 (inS_iff.1 h).2
theorem So.ok.cell {s : So} (hs : s.ok) {i : Int} (h : inS s i = true) : (cellAt s i).ok := hs.cs.2 _ (getD_mem (by have := inS_iff.1 h; omega))
theorem tagS_in {s : So} {i : Int} (h : inS s i = true) : tagS s i = (cellAt s i).t := if_pos h
theorem tagS_out {s : So} {i : Int} (h : inS s i = false) : tagS s i = -1 := if_neg (by rw [h]; decide)

theorem q26 : FOk q09 (gSIi tagS) := fok_cells_tag fun ds outs hw hg => by
  obtain ⟨d, r, rfl, hd, e, r', rfl, he, rfl⟩ := hw
  obtain ⟨s, rfl, hs⟩ := wfS hd
  obtain ⟨i, rfl, hi⟩ := wfI he
  simp only [gSIi, dS_eS, int_i, Option.some.injEq] at hg
  subst hg
  simp only [q2g, Tree.go, allSay, X.says, X.ev, X.evs, evl, tblS, List.getD_cons_zero, List.getD_cons_succ, List.getElem?_cons_zero, List.getElem?_cons_succ, tt_b, int_i, str_s, rs_r, Option.isSome_some, Option.getD_some, decide_eq_true_eq, decide_eq_false_iff_not, gnE, List.length_map, gnF, gnL, decide_true, decide_false, Bool.or_true, true_and, and_true, true_and]
  cases h : inS s i with
  | false =>
    have h' : ¬ (0 ≤ i ∧ i < s.cs.length) := fun q => by rw [inS_iff.2 q] at h; cases h
    have h2 : i < 0 ∨ (s.cs.length : Int) ≤ i := by omega
    simp [tagS_out h]
    omega
  | true =>
    have h' := inS_iff.1 h
    have h1 : ¬ i < 0 := by omega
    have h2 : ¬ (s.cs.length : Int) ≤ i := by omega
    simp [cell_get h, eC_0, tagS_in h, h', h1, h2]
theorem ar_get {s : So} {i : Int} (h : 0 ≤ i ∧ i < s.ys.length) : (D.r (s.ys.map eY)).get i = eY (s.ys.getD i.toNat default) := get_r eY h.1 h.2
theorem q3p : FOk q0f (gSIi arS) := fok_cells_arity fun ds outs hw hg => by
  obtain ⟨d, r, rfl, hd, e, r', rfl, he, rfl⟩ := hw
  obtain ⟨s, rfl, hs⟩ := wfS hd
  obtain ⟨i, rfl, hi⟩ := wfI he
  simp only [gSIi, dS_eS, int_i, Option.some.injEq] at hg
  subst hg
  simp only [q28, Tree.go, allSay, X.says, X.ev, X.evs, evl, tblS, List.getD_cons_zero, List.getD_cons_succ, List.getElem?_cons_zero, List.getElem?_cons_succ, tt_b, int_i, str_s, rs_r, Option.isSome_some, Option.getD_some, decide_eq_true_eq, decide_eq_false_iff_not, gnE, List.length_map, gnF, gnL, decide_true, decide_false, Bool.or_true, true_and, and_true, true_and]
  by_cases h : 0 ≤ i ∧ i < s.ys.length
  · have h1 : ¬ i < 0 := by omega
    have h2 : ¬ (s.ys.length : Int) ≤ i := by omega
    simp [ar_get h, eY_1, arS, h, h1, h2]
  · simp [arS, h]
theorem q1f : FOk q05 (gSCb vcP) := q3n q3p q26 fun ds outs hw hg => by
  obtain ⟨d, r, rfl, hd, e, r', rfl, he, rfl⟩ := hw
  obtain ⟨s, rfl, hs⟩ := wfS hd
  obtain ⟨c, rfl, hc⟩ := wfC he
  simp only [gSCb, dS_eS, dC_eC, Option.some.injEq] at hg
  subst hg
  simp only [q21, Tree.go, allSay, X.says, X.ev, X.evs, evl, tblS, List.getD_cons_zero, List.getD_cons_succ, List.getElem?_cons_zero, List.getElem?_cons_succ, tt_b, int_i, str_s, rs_r, Option.isSome_some, Option.getD_some, decide_eq_true_eq, decide_eq_false_iff_not, gnE, List.length_map, gnF, gnL, decide_true, decide_false, Bool.or_true, true_and, and_true, gSIi, vcP, true_and]
  by_cases h0 : c.t = 0
  · simp [h0]
  · by_cases h1 : c.t = 1
    · simp [h1]
    · by_cases h2 : c.t = 2
      · simp [h2]
      · by_cases h3 : c.t = 3
        · simp [h3]
        · by_cases h5 : c.t = 5
          · simp [h5]
          · simp [h0, h1, h2, h3, h5]
theorem tag_in {s : So} {i : Int} (h : tagS s i = 1) : inS s i = true := by
  cases hi : inS s i with
  | true => rfl
  | false => rw [tagS_out hi] at h; cases h
theorem ok_cells_group : FOk q0k (gSIbP inS groupS) := fok_cells_group q26 fun ds outs hw hg => by
  obtain ⟨d, r, rfl, hd, e, r', rfl, he, rfl⟩ := hw
  obtain ⟨s, rfl, hs⟩ := wfS hd
  obtain ⟨i, rfl, hi⟩ := wfI he
  simp only [gSIbP, dS_eS, int_i, Option.ite_none_right_eq_some, Option.some.injEq] at hg
  obtain ⟨hin, rfl⟩ := hg
  have h1 := inS_iff.1 hin
  have hl := hs.cs.1
  have r1 : i64 (i + 1) := ⟨by omega, by omega⟩
  have r2 : i64 (i + 2) := ⟨by omega, by omega⟩
  simp only [q29, Tree.go, allSay, X.says, X.ev, X.evs, evl, tblS, List.getD_cons_zero, List.getD_cons_succ, List.getElem?_cons_zero, List.getElem?_cons_succ, tt_b, int_i, str_s, rs_r, Option.isSome_some, Option.getD_some, decide_eq_true_eq, decide_eq_false_iff_not, gnE, List.length_map, gnF, gnL, decide_true, decide_false, Bool.or_true, true_and, and_true, gSIi, true_and, groupS, r1, r2]
  by_cases ht : tagS s (i + 1) = 1
  · have h2 := tag_in ht
    have h3 := inS_iff.1 h2
    simp [ht, cell_get h2, eC_1, h3.1, h3.2, int_i, Bool.and_assoc, rng64, r1.1, r1.2]
  · simp [ht]
end Go.Proofs.Ytmebmpgffhajbaa


namespace Go.Proofs.Ytmebmpgffhajbaa
open Go.RowKit
set_option linter.unusedVariables false
set_option linter.unusedSimpArgs false

theorem mfind_mset {k k' v : D} : ∀ {l : List D}, mfind k (mset k' v l) = if k' = k then some v else mfind k l
  | [] => by simp [mset, mfind, D.fld, D.fs]
  | p :: l => by
    unfold mset
    split
    · rename_i h
      by_cases hk : k' = k
      · simp [mfind, D.fld, D.fs, hk]
      · have : ¬ (p.fld 0 = k) := fun e => hk (h.symm.trans e)
        simp [mfind, D.fld, D.fs, hk, this]
        intro e
        exact absurd e this
    · rename_i h
      unfold mfind
      by_cases hk : p.fld 0 = k
      · have : ¬ (k' = k) := fun e => h (hk.trans e.symm)
        simp [hk, this]
      · simp only [if_neg hk]
        exact mfind_mset

def okY (y : Sy) : Bool := decide (y.name.size ≤ 100) && (decide (0 ≤ y.ar) && decide (y.ar ≤ 8))
def symAt (l : List Sy) (k : Nat) : Bool := okY (l.getD k default) && !decide (l.getD k default ∈ l.take k)
def symsB (l : List Sy) : Bool := decide (l.length ≤ 1048576) && (List.range l.length).all (symAt l)
def gYsb (f : List Sy → Bool) : List D → Option (List D)
  | [l] => some [.b (f (l.rs.map dY))]
  | _ => none

def SeenY (x : D) (l : List Sy) (k : Nat) (L : List D) : Prop := ∀ y, mfind (eY y) L = if y ∈ l.take k then some x else none
theorem SeenY.nil {x : D} {l : List Sy} : SeenY x l 0 [] := fun y => by simp [mfind]
theorem SeenY.put {x : D} {l : List Sy} {k : Nat} {L : List D} (h : SeenY x l k L) (hk : k < l.length) : SeenY x l (k + 1) (mset (eY (l.getD k default)) x L) := fun y => by
  rw [mfind_mset, take_snoc hk, h y]
  generalize l.getD k default = z
  by_cases hy : y = z
  · subst hy; simp
  · have : ¬ (z = y) := fun e => hy e.symm
    simp [eY_eq, this, hy]

theorem ok_cells_validSymbols : FOk q0e (gYsb symsB) := q2q fun ds outs hw hg => by
  obtain ⟨d, r, rfl, hd, rfl⟩ := hw
  obtain ⟨l, rfl, hl, hok⟩ := wfYs hd
  simp only [gYsb, rs_r, map_id' dY_eY, Option.some.injEq] at hg
  subst hg
  simp only [q1v, Tree.go, allSay, X.says, X.ev, X.evs, evl, tblS, List.getD_cons_zero, List.getD_cons_succ, List.getElem?_cons_zero, List.getElem?_cons_succ, tt_b, int_i, str_s, rs_r, Option.isSome_some, Option.getD_some, decide_eq_true_eq, decide_eq_false_iff_not, gnE, List.length_map, gnF, gnL, decide_true, decide_false, Bool.or_true, true_and, and_true, symsB]
  refine ⟨fun h => ?_, fun h => ?_⟩
  · have : ¬ (l.length ≤ 1048576) := by omega
    simp [this]
  · have h0 : l.length ≤ 1048576 := by omega
    refine ⟨fun st => ∃ (k : Nat) (L : List D), k ≤ l.length ∧ st = [.b false, .i k, .mp L] ∧ (∀ j, j < k → symAt l j = true) ∧ SeenY (.b true) l k L, fun st => l.length - (st.getD 1 .u).int.toNat, ⟨0, [], Nat.zero_le _, rfl, (fun j hj => absurd hj (Nat.not_lt_zero _)), SeenY.nil⟩, ?_⟩
    rintro st - ⟨k, L, hk, rfl, hP, hL⟩
    simp only [Tree.go, allSay, X.says, X.ev, X.evs, evl, tblS, List.getD_cons_zero, List.getD_cons_succ, List.getElem?_cons_zero, List.getElem?_cons_succ, tt_b, int_i, str_s, rs_r, Option.isSome_some, Option.getD_some, decide_eq_true_eq, decide_eq_false_iff_not, gnE, List.length_map, gnF, gnL, decide_true, decide_false, Bool.or_true, true_and, and_true]
    refine ⟨fun hlt => ?_, fun hlt => ?_⟩
    · have hkl : k < l.length := by omega
      have hp : (0 : Int) ≤ k := by omega
      simp only [hlt, hp, get_n eY hkl, eY_0, eY_1, str_s, int_i, true_and, Bool.or_true, decide_true, and_true, Int.toNat_natCast, fnD, ms_mp, hL (l.getD k default)]
      have hr : i64 ((k : Int) + 1) := ⟨by omega, by omega⟩
      have e : ((if l.getD k default ∈ l.take k then some (D.b true) else none).getD (.b false)).tt = decide (l.getD k default ∈ l.take k) := by
        by_cases hm : l.getD k default ∈ l.take k
        · rw [if_pos hm, decide_eq_true hm]; rfl
        · rw [if_neg hm, decide_eq_false hm]; rfl
      rw [e]
      refine ⟨fun hb => ?_, fun hb => ⟨hr, ?_⟩⟩
      · have : symAt l k = false := by
          simp only [symAt, okY]
          generalize l.getD k default = z at hb ⊢
          by_cases hm : z ∈ l.take k
          · simp [hm]
          · simp [hm] at hb ⊢
            intro h1 h2
            omega
        rw [all_not hkl this]
        simp
      · have hs : symAt l k = true := by
          simp only [symAt, okY]
          generalize l.getD k default = z at hb ⊢
          by_cases hm : z ∈ l.take k
          · simp [hm] at hb
          · simp [hm] at hb ⊢
            omega
        rw [updB, if_pos rfl]
        refine ⟨⟨k + 1, _, hkl, ?_, upto_succ hP hs, hL.put hkl⟩, ?_⟩
        · simp
        · simp [D.int]
          omega
    · have : k = l.length := by omega
      subst this
      rw [all_yes hP]
      simp [h0]
end Go.Proofs.Ytmebmpgffhajbaa


namespace Go.Proofs.Ytmebmpgffhajbaa
open Go.RowKit
set_option linter.unusedVariables false
set_option linter.unusedSimpArgs false

theorem symsB_ar {s : So} (h : symsB s.ys = true) (n : Int) : -1 ≤ arS s n ∧ arS s n ≤ 8 := by
  unfold arS
  split
  · rename_i hn
    simp only [symsB, Bool.and_eq_true] at h
    have := all_of h.2 (k := n.toNat) (by omega)
    simp only [symAt, okY, Bool.and_eq_true, decide_eq_true_eq] at this
    omega
  · omega
def endsN (s : So) : Nat → Int → Bool
  | 0, _ => false
  | k + 1, n => if tagS s n = 0 ∧ ¬ (cellAt s n).n = n then endsN s k (cellAt s n).n else true
def endsB (s : So) (n : Int) : Bool := endsN s (s.cs.length + 1) n

theorem tag_in' {s : So} {i : Int} {t : Int} (ht : t ≠ -1) (h : tagS s i = t) : inS s i = true := by
  cases hi : inS s i with
  | true => rfl
  | false => rw [tagS_out hi] at h; exact absurd h.symm ht

def cellR (s : So) (i : Int) : Bool :=
  if (cellAt s i).t = 4 then decide (1 ≤ arS s (cellAt s i).n) && (inS s (i + arS s (cellAt s i).n) && (List.range (arS s (cellAt s i).n).toNat).all fun j => !decide (tagS s (i + ((j : Int) + 1)) = 4))
  else vcR s (cellAt s i) && (endsB s i && (!decide ((cellAt s i).t = 5) || (decide ((cellAt s i).n = i) && groupS s i)))
def cellQ (s : So) (i : Int) : Bool := inS s i && symsB s.ys

def fitsP (s : So) (i : Int) : Bool :=
  if (cellAt s i).t = 4 then decide (1 ≤ arS s (cellAt s i).n) && (List.range (arS s (cellAt s i).n).toNat).all fun j => decide (0 ≤ tagS s (i + ((j : Int) + 1))) && !decide (tagS s (i + ((j : Int) + 1)) = 4)
  else if (cellAt s i).t = 5 then decide ((cellAt s i).n = i) && groupS s i else vcP s (cellAt s i)
theorem ok_cells_fits : FOk q13 (gSIbP cellQ fitsP) := fok_cells_fits q3p q26 ok_cells_group q1f fun ds outs hw hg => by
  obtain ⟨d, r, rfl, hd, e, r', rfl, he, rfl⟩ := hw
  obtain ⟨s, rfl, hs⟩ := wfS hd
  obtain ⟨i, rfl, hi⟩ := wfI he
  simp only [gSIbP, dS_eS, int_i, Option.ite_none_right_eq_some, Option.some.injEq, cellQ, Bool.and_eq_true] at hg
  obtain ⟨⟨hin, hy⟩, rfl⟩ := hg
  have h1 := inS_iff.1 hin
  have hl := hs.cs.1
  obtain ⟨ha, hb⟩ := symsB_ar hy (cellAt s i).n
  simp only [q2e, Tree.go, allSay, X.says, X.ev, X.evs, evl, tblS, List.getD_cons_zero, List.getD_cons_succ, List.getElem?_cons_zero, List.getElem?_cons_succ, tt_b, int_i, str_s, rs_r, Option.isSome_some, Option.getD_some, decide_eq_true_eq, decide_eq_false_iff_not, gnE, List.length_map, gnF, gnL, decide_true, decide_false, Bool.or_true, true_and, and_true, gSIi, gSIb, gSCb, gSIbP, cell_get hin, h1.1, h1.2, hin, if_true]
  unfold fitsP
  generalize arS s (cellAt s i).n = K at ha hb ⊢
  refine ⟨fun h4 => ?_, fun h4 => ?_⟩
  · have hr : i64 (i + K) := ⟨by omega, by omega⟩
    have hr1 : i64 (i + 1) := ⟨by omega, by omega⟩
    simp only [h4, hr, hr1, if_true]
    refine ⟨fun hx => ?_, fun hx => ⟨⟨trivial, trivial⟩, ?_⟩⟩
    · have : ¬ (1 ≤ K) := by omega
      simp [this]
    · have hk : 1 ≤ K := by omega
      simp only [hk]
      refine ⟨fun st => ∃ (j : Nat), (j : Int) ≤ K ∧ st = [.b false, .i (i + ((j : Int) + 1))] ∧ ∀ m : Nat, m < j → (decide (0 ≤ tagS s (i + ((m : Int) + 1))) && !decide (tagS s (i + ((m : Int) + 1)) = 4)) = true, fun st => (i + K + 1 - (st.getD 1 .u).int).toNat, ⟨0, by omega, by simp, fun m hm => absurd hm (Nat.not_lt_zero _)⟩, ?_⟩
      rintro st - ⟨j, hj, rfl, hP⟩
      simp only [Tree.go, allSay, X.says, X.ev, X.evs, evl, tblS, List.getD_cons_zero, List.getD_cons_succ, List.getElem?_cons_zero, List.getElem?_cons_succ, tt_b, int_i, str_s, rs_r, Option.isSome_some, Option.getD_some, decide_eq_true_eq, decide_eq_false_iff_not, gnE, List.length_map, gnF, gnL, decide_true, decide_false, Bool.or_true, true_and, and_true, gSIi]
      refine ⟨fun hlt => ?_, fun hlt => ?_⟩
      · have hr3 : i64 ((i + ((j : Int) + 1)) + 1) := ⟨by omega, by omega⟩
        refine ⟨fun hx => ?_, fun hx => ⟨hr3, ?_⟩⟩
        · have hx' : tagS s (i + ((j : Int) + 1)) < 0 ∨ tagS s (i + ((j : Int) + 1)) = 4 := by simpa using hx
          rw [all_not (k := j) (by omega)]
          · simp
          · rcases hx' with h | h
            · have : ¬ (0 ≤ tagS s (i + ((j : Int) + 1))) := by omega
              simp [this]
            · simp [h]
        · have hx' : ¬ tagS s (i + ((j : Int) + 1)) < 0 ∧ ¬ tagS s (i + ((j : Int) + 1)) = 4 := by simpa using hx
          rw [updB, if_pos rfl]
          refine ⟨⟨j + 1, by omega, by simp; omega, upto_succ hP (by simp [hx'.2]; omega)⟩, ?_⟩
          simp [D.int]
          omega
      · have : j = K.toNat := by omega
        subst this
        rw [all_yes hP]
        simp
  · simp only [h4, if_false]
    refine ⟨fun hx => ?_, fun hx => ?_⟩
    · simp [hx]
    · simp [hx]

def oldB (vc : So → Ce → Bool) (rg : So → Int → Bool) (s : So) (u : Un) : Bool :=
  rg s u.at' && if u.old.t = 0 then decide (u.old.n = u.at') else if u.old.t = 5 then decide (u.old.n = u.at') && (groupS s u.at' && !decide (tagS s (u.at' - 1) = 5)) else if u.old.t = 1 ∨ u.old.t = 2 ∨ u.old.t = 3 then vc s u.old else false
def oldR : So → Un → Bool := oldB vcR inS
def oldP : So → Un → Bool := oldB vcP fun s i => decide (0 ≤ tagS s i)
theorem ok_cells_validUndo : FOk q0i (gSUb oldP) := q3l q26 ok_cells_group q1f fun ds outs hw hg => by
  obtain ⟨d, r, rfl, hd, e, r', rfl, he, rfl⟩ := hw
  obtain ⟨s, rfl, hs⟩ := wfS hd
  obtain ⟨u, rfl, hu⟩ := wfU he
  simp only [gSUb, dS_eS, dU_eU, Option.some.injEq] at hg
  subst hg
  have hl := hs.cs.1
  simp only [q20, Tree.go, allSay, X.says, X.ev, X.evs, evl, tblS, List.getD_cons_zero, List.getD_cons_succ, List.getElem?_cons_zero, List.getElem?_cons_succ, tt_b, int_i, str_s, rs_r, Option.isSome_some, Option.getD_some, decide_eq_true_eq, decide_eq_false_iff_not, gnE, List.length_map, gnF, gnL, decide_true, decide_false, Bool.or_true, true_and, and_true, gSIi, gSIb, gSCb, gSIbP, oldP, oldB]
  by_cases ht : 0 ≤ tagS s u.at'
  · have ht' : ¬ (tagS s u.at' < 0) := by omega
    have hin : inS s u.at' = true := by
      cases hin : inS s u.at' with
      | true => rfl
      | false => rw [tagS_out hin] at ht; omega
    have h1 := inS_iff.1 hin
    have hr : i64 (u.at' - 1) := ⟨by omega, by omega⟩
    simp only [hr, hin, ht, ht', if_true]
    by_cases h0 : u.old.t = 0
    · simp [h0]
    · by_cases h5 : u.old.t = 5
      · simp [h5, Bool.and_assoc, tt_b, rng64, hr.1, hr.2]
      · by_cases h2 : u.old.t = 1
        · simp [h2]
        · by_cases h3 : u.old.t = 2
          · simp [h3]
          · by_cases h4 : u.old.t = 3
            · simp [h4]
            · simp [h0, h5, h2, h3, h4]
  · have ht' : tagS s u.at' < 0 := by omega
    simp [ht, ht']
end Go.Proofs.Ytmebmpgffhajbaa


namespace Go.Proofs.Ytmebmpgffhajbaa
open Go.RowKit
set_option linter.unusedVariables false
set_option linter.unusedSimpArgs false

section
variable {s : So}

def Ns (s : So) (n : Int) : Prop := tagS s n = 0 ∧ ¬ (cellAt s n).n = n
abbrev nx (s : So) (n : Int) : Int := (cellAt s n).n
theorem endsN_ns {k : Nat} {n : Int} (h : Ns s n) : endsN s (k + 1) n = endsN s k (nx s n) := if_pos h
theorem endsN_st {k : Nat} {n : Int} (h : ¬ Ns s n) : endsN s (k + 1) n = true := if_neg h
theorem Ns.inS {n : Int} (h : Ns s n) : inS s n = true := tag_in' (by decide) h.1
theorem endsN_up {k : Nat} : ∀ {n : Int}, endsN s k n = true → endsN s (k + 1) n = true := by
  induction k with
  | zero => intro n h; cases h
  | succ k ih =>
    intro n h
    by_cases hn : Ns s n
    · rw [endsN_ns hn] at h ⊢
      exact ih h
    · exact endsN_st hn
theorem endsN_le {k j : Nat} (hk : k ≤ j) {n : Int} (h : endsN s k n = true) : endsN s j n = true := by
  obtain ⟨d, rfl⟩ := Nat.exists_eq_add_of_le hk
  clear hk
  induction d with
  | zero => exact h
  | succ d ih => exact endsN_up ih
def En (s : So) (n : Int) : Prop := ∃ k, endsN s k n = true
theorem En.st {n : Int} (h : ¬ Ns s n) : En s n := ⟨1, endsN_st h⟩
theorem En.ns {n : Int} (h : Ns s n) (he : En s (nx s n)) : En s n := let ⟨k, hk⟩ := he; ⟨k + 1, (endsN_ns h).trans hk⟩

theorem nodup_lt : ∀ (n : Nat) (l : List Nat), l.Nodup → (∀ x ∈ l, x < n) → l.length ≤ n
  | 0, [], _, _ => Nat.le_refl _
  | 0, x :: l, _, h => absurd (h x List.mem_cons_self) (Nat.not_lt_zero _)
  | n + 1, l, hn, h => by
    have h1 := nodup_lt n (l.erase n) (hn.erase n) fun x hx => by
      have h2 := (hn.mem_erase_iff).1 hx
      have := h x h2.2
      have := h2.1
      omega
    have h2 := List.length_erase (a := n) (l := l)
    split at h2 <;> omega

theorem rank_list : ∀ (k : Nat) (n : Int), endsN s (k + 1) n = true → endsN s k n = false → ∃ l : List Int, l.length = k ∧ l.Nodup ∧ (∀ x ∈ l, inS s x = true) ∧ ∀ x ∈ l, ∃ j, j ≤ k ∧ endsN s (j + 1) x = true
  | 0, n, _, _ => ⟨[], rfl, List.nodup_nil, (fun x hx => by cases hx), fun x hx => by cases hx⟩
  | k + 1, n, h1, h2 => by
    have hn : Ns s n := Classical.byContradiction fun hn => by rw [endsN_st hn] at h2; cases h2
    rw [endsN_ns hn] at h1 h2
    obtain ⟨l, e1, e2, e3, e4⟩ := rank_list k _ h1 h2
    refine ⟨n :: l, by simp [e1], ?_, fun x hx => ?_, fun x hx => ?_⟩
    · refine List.nodup_cons.2 ⟨fun hm => ?_, e2⟩
      obtain ⟨j, hj, he⟩ := e4 n hm
      rw [endsN_ns hn] at he
      rw [endsN_le hj he] at h2
      cases h2
    · rcases List.mem_cons.1 hx with rfl | hx
      · exact hn.inS
      · exact e3 x hx
    · rcases List.mem_cons.1 hx with rfl | hx
      · exact ⟨k + 1, Nat.le_refl _, by rw [endsN_ns hn]; exact h1⟩
      · obtain ⟨j, hj, he⟩ := e4 x hx
        exact ⟨j, by omega, he⟩
theorem En.ends {n : Int} (h : En s n) : endsB s n = true := by
  obtain ⟨k, hk⟩ := h
  induction k with
  | zero => cases hk
  | succ k ih =>
    cases hk' : endsN s k n with
    | true => exact ih hk'
    | false =>
      obtain ⟨l, e1, e2, e3, -⟩ := rank_list k n hk hk'
      have h1 := nodup_lt s.cs.length (l.map Int.toNat) ?_ ?_
      · rw [List.length_map, e1] at h1
        exact endsN_le (by omega) hk
      · refine List.Pairwise.map _ (fun a b h => h) ?_
        refine List.Pairwise.imp_of_mem (R := fun a b => a ≠ b) (fun {a b} ha hb hab e => hab ?_) e2
        have h1 := inS_iff.1 (e3 a ha)
        have h2 := inS_iff.1 (e3 b hb)
        omega
      · intro x hx
        obtain ⟨a, ha, rfl⟩ := List.mem_map.1 hx
        have h1 := inS_iff.1 (e3 a ha)
        omega

def Ch (s : So) : List Int → Int → Prop
  | [], _ => True
  | q :: l, a => Ns s q ∧ nx s q = l.headD a ∧ Ch s l a
theorem Ch.snoc : ∀ {l : List Int} {a b : Int}, Ch s l a → Ns s a → nx s a = b → Ch s (l ++ [a]) b
  | [], a, b, _, h1, h2 => ⟨h1, h2, trivial⟩
  | q :: l, a, b, ⟨g1, g2, g3⟩, h1, h2 => ⟨g1, by cases l <;> exact g2, Ch.snoc g3 h1 h2⟩
theorem Ch.en : ∀ {l : List Int} {a : Int}, Ch s l a → En s a → ∀ q ∈ l, En s q
  | [], a, _, _, q, hq => by cases hq
  | q :: l, a, ⟨g1, g2, g3⟩, he, x, hx => by
    have ih := Ch.en g3 he
    rcases List.mem_cons.1 hx with rfl | hx
    · refine En.ns g1 ?_
      rw [g2]
      cases l with
      | nil => exact he
      | cons y l => exact ih y List.mem_cons_self
    · exact ih x hx
theorem Ch.next : ∀ {l : List Int} {a : Int}, Ch s l a → ∀ q ∈ l, Ns s q ∧ (nx s q ∈ l ∨ nx s q = a)
  | [], a, _, q, hq => by cases hq
  | q :: l, a, ⟨g1, g2, g3⟩, x, hx => by
    rcases List.mem_cons.1 hx with rfl | hx
    · refine ⟨g1, ?_⟩
      rw [g2]
      cases l with
      | nil => exact .inr rfl
      | cons y l => exact .inl (by simp)
    · obtain ⟨h1, h2⟩ := Ch.next g3 x hx
      exact ⟨h1, h2.imp (List.mem_cons_of_mem _) id⟩
theorem closed_no {Q : List Int} (h : ∀ q ∈ Q, Ns s q ∧ nx s q ∈ Q) : ∀ (k : Nat) (q : Int), q ∈ Q → endsN s k q = false
  | 0, q, _ => rfl
  | k + 1, q, hq => by
    rw [endsN_ns (h q hq).1]
    exact closed_no h k _ (h q hq).2

def acyP (s : So) : Bool := (List.range s.cs.length).all fun i => endsB s (i : Nat)
def acyQ (s : So) : Bool := decide (s.cs.length ≤ 16777216) && (List.range s.cs.length).all fun i => !decide ((cellAt s (i : Nat)).t = 0) || inS s (cellAt s (i : Nat)).n

structure Mk0 (s : So) (m : List Int) : Prop where
  len : m.length = s.cs.length
  en : ∀ j : Nat, m.getD j 0 = 2 → En s j
theorem marks_get {m : List Int} {i : Int} (h0 : 0 ≤ i) (h : i < m.length) : (D.r (m.map D.i)).get i = .i (m.getD i.toNat 0) := by
  have : i.toNat < m.length := by omega
  simp [D.get, D.rs, List.getD_eq_getElem?_getD, this]
theorem marks_set {m : List Int} {k : Nat} {x : Int} : (m.map D.i).set k (.i x) = (m.set k x).map D.i := by simp
theorem getD_set {m : List Int} {k j : Nat} {x : Int} (hk : k < m.length) : (m.set k x).getD j 0 = if k = j then x else m.getD j 0 := by
  simp only [List.getD_eq_getElem?_getD, List.getElem?_set, hk]
  split <;> simp_all
end
end Go.Proofs.Ytmebmpgffhajbaa


namespace Go.Proofs.Ytmebmpgffhajbaa
open Go.RowKit
set_option linter.unusedVariables false
set_option linter.unusedSimpArgs false

def markT (P M : X) : Tree := .loop 16 8 [(.lit (.i 0)), M] (.br (.lt (.tok 8) (.len P)) (.need [(.le (.lit (.i 0)) (.tok 8)), (.lt (.tok 8) (.len P))] (.need [(.le (.lit (.i 0)) (.get P (.tok 8))), (.lt (.get P (.tok 8)) (.len (.tok 9)))] (.need [(.rng .i64 (.add (.tok 8) (.lit (.i 1))))] (.back 16 [(.add (.tok 8) (.lit (.i 1))), (.put (.tok 9) (.get P (.tok 8)) (.lit (.i 2)))])))) (.need [(.rng .i64 (.add (.tok 2) (.lit (.i 1))))] (.back 3 [(.tok 6), (.add (.tok 2) (.lit (.i 1))), (.tok 9)])))

theorem take_mem_snoc {l : List Int} {k : Nat} (h : k < l.length) (x : Int) : x ∈ l.take (k + 1) ↔ x ∈ l.take k ∨ x = l.getD k default := by
  rw [take_snoc h]
  simp

theorem mark_ok {S : Nat → List D → Option (List D)} {R : List D → Prop} {L : List D} {B : Nat → List D → Prop} {P M : X} {l m : List Int} {i : Nat} (hL : L.length = 8) (hP : ∀ e, P.ev (evl S (L ++ e)) = .r (l.map D.i)) (hM : M.ev (evl S L) = .r (m.map D.i))
    (h2 : L.getD 2 .u = .i i) (hi : i64 ((i : Int) + 1)) (hl : ∀ x ∈ l, 0 ≤ x ∧ x < m.length) (hll : l.length ≤ 16777216)
    (hB : ∀ f : List Int, f.length = m.length → (∀ j : Nat, j < m.length → f.getD j 0 = if (j : Int) ∈ l then 2 else m.getD j 0) → B 3 [L.getD 6 .u, .i ((i : Int) + 1), .r (f.map D.i)]) : (markT P M).go S R L B := by
  unfold markT
  rw [q17]
  have hM' : (evl S L) = ⟨fun k => L.getD k .u, S⟩ := rfl
  refine ⟨fun st => ∃ (k : Nat) (f : List Int), k ≤ l.length ∧ st = [.i k, .r (f.map D.i)] ∧ f.length = m.length ∧ ∀ j : Nat, j < m.length → f.getD j 0 = if (j : Int) ∈ l.take k then 2 else m.getD j 0, fun st => l.length - (st.getD 0 .u).int.toNat, ⟨0, m, Nat.zero_le _, by simp [X.evs, X.ev, hM], rfl, fun j _ => by simp⟩, ?_⟩
  rintro st - ⟨k, f, hk, rfl, hfl, hf⟩
  rw [List.take_of_length_le (by omega)]
  have t : ∀ j, j < 8 → (L ++ [D.i k, D.r (f.map D.i)]).getD j .u = L.getD j .u := fun j hj => by
    simp only [List.getD_eq_getElem?_getD]
    rw [List.getElem?_append_left (by omega)]
  have t8 : (L ++ [D.i k, D.r (f.map D.i)]).getD 8 .u = .i k := by
    simp only [List.getD_eq_getElem?_getD]
    rw [List.getElem?_append_right (by omega), hL]
    rfl
  have t9 : (L ++ [D.i k, D.r (f.map D.i)]).getD 9 .u = .r (f.map D.i) := by
    simp only [List.getD_eq_getElem?_getD]
    rw [List.getElem?_append_right (by omega), hL]
    rfl
  have hP' := hP [D.i k, D.r (f.map D.i)]
  have e2 : (L ++ [D.i k, D.r (f.map D.i)]).getD 2 .u = .i i := (t 2 (by omega)).trans h2
  have e6 := t 6 (by omega)
  generalize hg : evl S (L ++ [D.i k, D.r (f.map D.i)]) = g at hP'
  have hE : ∀ n, g.E n = (L ++ [D.i k, D.r (f.map D.i)]).getD n .u := fun n => by rw [← hg]; rfl
  simp only [q00, go_br, q02, allSay, X.says, hg, X.evs, X.ev, hP', hE, t8, t9, e2, e6, int_i, rs_r, tt_b, List.length_map, decide_eq_true_eq, decide_eq_false_iff_not, and_true]
  refine ⟨fun hlt => ?_, fun hlt => ?_⟩
  · have hkl : k < l.length := by omega
    have hm := getD_mem hkl
    have hr := hl _ hm
    have hget : (D.r (l.map D.i)).get (k : Int) = .i (l.getD k default) := get_n D.i hkl
    rw [hget]
    generalize hx : l.getD k default = x at hm hr
    simp only [int_i]
    refine ⟨⟨by omega, hlt⟩, ⟨hr.1, by omega⟩, rng64.2 ⟨by omega, by omega⟩, ?_⟩
    rw [updB, if_pos rfl]
    refine ⟨⟨k + 1, f.set x.toNat 2, hkl, by simp, by simp [hfl], fun j hj => ?_⟩, ?_⟩
    · rw [getD_set (by omega), hf j hj]
      by_cases hjx : x.toNat = j
      · have : (j : Int) ∈ l.take (k + 1) := (take_mem_snoc hkl _).2 (.inr (by omega))
        rw [if_pos hjx, if_pos this]
      · rw [if_neg hjx]
        by_cases hm2 : (j : Int) ∈ l.take k
        · rw [if_pos hm2, if_pos ((take_mem_snoc hkl _).2 (.inl hm2))]
        · rw [if_neg hm2, if_neg fun h => ?_]
          rcases (take_mem_snoc hkl _).1 h with h | h
          · exact hm2 h
          · omega
    · simp [D.int]
      omega
  · have : k = l.length := by omega
    subst this
    refine ⟨rng64.2 hi, ?_⟩
    rw [updB, if_neg (by decide)]
    rw [List.take_length] at hf
    exact hB f hfl hf

instance {s : So} {n : Int} : Decidable (Ns s n) := inferInstanceAs (Decidable (_ ∧ _))

theorem ok_cells_acyclic : FOk q0p (gSbP acyQ acyP) := fok_cells_acyclic fun ds outs hw hg => by
  obtain ⟨d, r, rfl, hd, rfl⟩ := hw
  obtain ⟨s, rfl, hs⟩ := wfS hd
  simp only [gSbP, dS_eS, Option.ite_none_right_eq_some, Option.some.injEq, acyQ, Bool.and_eq_true, decide_eq_true_eq] at hg
  obtain ⟨⟨hlen, hrf⟩, rfl⟩ := hg
  have hrange : ∀ n : Int, Ns s n → inS s (nx s n) = true := fun n hn => by
    have h1 := inS_iff.1 hn.inS
    have h2 := all_of hrf (k := n.toNat) (by omega)
    have e : ((n.toNat : Nat) : Int) = n := by omega
    have h0 : (cellAt s n).t = 0 := by rw [← tagS_in hn.inS]; exact hn.1
    rw [e] at h2
    simpa [h0] using h2
  rw [q23, q00]
  refine ⟨by simp only [q00, go_br, q01, q02, allSay, X.says, X.ev, X.evs, evl, tblS, List.getD_cons_zero, List.getD_cons_succ, List.getElem?_cons_zero, List.getElem?_cons_succ, tt_b, int_i, str_s, rs_r, Option.isSome_some, Option.getD_some, decide_eq_true_eq, decide_eq_false_iff_not, gnE, List.length_map, gnF, gnL, decide_true, decide_false, Bool.or_true, true_and, and_true]; omega, ?_⟩
  rw [q17]
  refine ⟨fun st => ∃ (i : Nat) (m : List Int), i ≤ s.cs.length ∧ st = [.b false, .i i, .r (m.map D.i)] ∧ Mk0 s m ∧ (∀ j : Nat, j < s.cs.length → m.getD j 0 = 0 ∨ m.getD j 0 = 2) ∧ ∀ j : Nat, j < i → En s j, fun st => s.cs.length - (st.getD 1 .u).int.toNat,
    ⟨0, List.replicate s.cs.length 0, Nat.zero_le _, by simp [X.evs, X.ev, evl, eS_0, D.int, D.rs], ⟨by simp, fun j hj => ?_⟩, fun j hj => ?_, fun j hj => absurd hj (Nat.not_lt_zero _)⟩, ?_⟩
  · exfalso
    simp only [List.getD_eq_getElem?_getD, List.getElem?_replicate] at hj
    split at hj <;> simp at hj
  · left
    simp [List.getD_eq_getElem?_getD, List.getElem?_replicate, hj]
  rintro st - ⟨i, m, hi, rfl, hm, hm02, hdone⟩
  rw [go_br]
  refine ⟨fun hlt => ?_, fun hlt => ?_⟩
  · have hil : i < s.cs.length := by simpa [X.ev, evl, eS_0, D.int, D.rs, D.tt] using hlt
    rw [q17]
    refine ⟨fun st => ∃ (l : List Int) (a : Int) (f : List Int), st = [.r (l.map D.i), .i a, .b false, .r (f.map D.i)] ∧ inS s a = true ∧ f.length = s.cs.length ∧ Ch s l a ∧ l.headD a = (i : Int) ∧ (∀ x ∈ l, inS s x = true) ∧ l.length ≤ s.cs.length - f.count 0 ∧ ¬ f.getD a.toNat 0 = 1 ∧
      ∀ j : Nat, j < s.cs.length → f.getD j 0 = if (j : Int) ∈ l then 1 else m.getD j 0, fun st => ((st.getD 3 .u).rs.map D.int).count 0, ⟨[], i, m, by simp [X.evs, X.ev, evl], inS_iff.2 ⟨by omega, by omega⟩, hm.len, trivial, rfl, (fun x hx => by cases hx), Nat.zero_le _, ?_, fun j hj => by simp⟩, ?_⟩
    · have := hm02 i hil
      simp only [Int.toNat_natCast]
      omega
    rintro st - ⟨l, a, f, rfl, hin, hfl, hch, hhd, hl, hll, hna, hf⟩
    have ha := inS_iff.1 hin
    have hfa : (f.getD a.toNat 0) = if a ∈ l then 1 else m.getD a.toNat 0 := by
      have := hf a.toNat (by omega)
      rwa [show ((a.toNat : Nat) : Int) = a by omega] at this
    have hal : a ∉ l := fun h => hna (by rw [hfa, if_pos h])
    rw [if_neg hal] at hfa
    have hmark : (D.r (f.map D.i)).get a = .i (f.getD a.toNat 0) := marks_get ha.1 (by omega)
    rw [q00]
    refine ⟨by simp only [q00, go_br, q01, q02, allSay, X.says, X.ev, X.evs, evl, tblS, List.getD_cons_zero, List.getD_cons_succ, List.getElem?_cons_zero, List.getElem?_cons_succ, tt_b, int_i, str_s, rs_r, Option.isSome_some, Option.getD_some, decide_eq_true_eq, decide_eq_false_iff_not, gnE, List.length_map, gnF, gnL, decide_true, decide_false, Bool.or_true, true_and, and_true]; omega, ?_⟩
    rw [go_br]
    -- what the marks are when a path is done
    have finish : ∀ (p : List Int), (∀ x ∈ p, inS s x = true) → (∀ x ∈ p, En s x) → En s i → (∀ x ∈ l, x ∈ p) → ∀ (f' : List Int), f'.length = s.cs.length → (∀ j : Nat, j < s.cs.length → f'.getD j 0 = if (j : Int) ∈ p then 2 else m.getD j 0) →
        updB (fun x x_1 => False) 3 (fun st' => (∃ (i : Nat) (m : List Int), i ≤ s.cs.length ∧ st' = [.b false, .i i, .r (m.map D.i)] ∧ Mk0 s m ∧ (∀ j : Nat, j < s.cs.length → m.getD j 0 = 0 ∨ m.getD j 0 = 2) ∧ ∀ j : Nat, j < i → En s j) ∧ s.cs.length - (st'.getD 1 .u).int.toNat < s.cs.length - (([D.b false, D.i i, D.r (m.map D.i)] : List D).getD 1 .u).int.toNat) 3 [.b false, .i ((i : Int) + 1), .r (f'.map D.i)] := by
      intro p hp1 hp2 hei hlp f' hf1 hf2
      rw [updB, if_pos rfl]
      refine ⟨⟨i + 1, f', hil, by simp, ⟨hf1, fun j hj => ?_⟩, fun j hj => ?_, fun j hj => ?_⟩, ?_⟩
      · by_cases hjl : j < s.cs.length
        · rw [hf2 j hjl] at hj
          split at hj
          · rename_i hjp; exact hp2 _ hjp
          · exact hm.en j hj
        · rw [List.getD_eq_getElem?_getD, List.getElem?_eq_none (by omega)] at hj
          cases hj
      · rw [hf2 j hj]
        split
        · exact .inr rfl
        · exact hm02 j hj
      · rcases Nat.lt_succ_iff_lt_or_eq.1 hj with h | h
        · exact hdone j h
        · rw [h]; exact hei
      · simp [D.int]
        omega
    have hend : En s a → En s i := fun he => by
      cases l with
      | nil => rw [← hhd]; exact he
      | cons y l => rw [← hhd]; exact hch.en he y List.mem_cons_self
    refine ⟨fun hz => ?_, fun hz => ?_⟩
    · -- an unknown cell
      have hz' : f.getD a.toNat 0 = 0 := by
        simp only [q00, go_br, q01, q02, allSay, X.says, X.ev, X.evs, evl, tblS, List.getD_cons_zero, List.getD_cons_succ, List.getElem?_cons_zero, List.getElem?_cons_succ, tt_b, int_i, str_s, rs_r, Option.isSome_some, Option.getD_some, decide_eq_true_eq, decide_eq_false_iff_not, gnE, List.length_map, gnF, gnL, decide_true, decide_false, Bool.or_true, true_and, and_true, hmark] at hz
        exact hz
      have hc0 : 0 < f.count 0 := List.count_pos_iff.2 (by
        rw [List.getD_eq_getElem?_getD, List.getElem?_eq_getElem (by omega)] at hz'
        have : f[a.toNat] = 0 := hz'
        exact List.mem_iff_getElem.2 ⟨a.toNat, by omega, this⟩)
      have hcl : f.count 0 ≤ f.length := List.count_le_length
      have hset : (f.set a.toNat 1).count 0 = f.count 0 - 1 := by
        rw [List.count_set (by omega)]
        have : f[a.toNat]'(by omega) = 0 := by
          rw [List.getD_eq_getElem?_getD, List.getElem?_eq_getElem (by omega)] at hz'
          exact hz'
        simp [this]
      rw [q00, q00, q00]
      refine ⟨by simp only [q00, go_br, q01, q02, allSay, X.says, X.ev, X.evs, evl, tblS, List.getD_cons_zero, List.getD_cons_succ, List.getElem?_cons_zero, List.getElem?_cons_succ, tt_b, int_i, str_s, rs_r, Option.isSome_some, Option.getD_some, decide_eq_true_eq, decide_eq_false_iff_not, gnE, List.length_map, gnF, gnL, decide_true, decide_false, Bool.or_true, true_and, and_true]; omega, by simp only [q00, go_br, q01, q02, allSay, X.says, X.ev, X.evs, evl, tblS, List.getD_cons_zero, List.getD_cons_succ, List.getElem?_cons_zero, List.getElem?_cons_succ, tt_b, int_i, str_s, rs_r, Option.isSome_some, Option.getD_some, decide_eq_true_eq, decide_eq_false_iff_not, gnE, List.length_map, gnF, gnL, decide_true, decide_false, Bool.or_true, true_and, and_true]; omega, by simp only [q00, go_br, q01, q02, allSay, X.says, X.ev, X.evs, evl, tblS, List.getD_cons_zero, List.getD_cons_succ, List.getElem?_cons_zero, List.getElem?_cons_succ, tt_b, int_i, str_s, rs_r, Option.isSome_some, Option.getD_some, decide_eq_true_eq, decide_eq_false_iff_not, gnE, List.length_map, gnF, gnL, decide_true, decide_false, Bool.or_true, true_and, and_true]; omega, ?_⟩
      rw [go_br]
      have hcond : (X.ev (evl (tblS []) ([eS s, D.b false, D.i i, D.r (m.map D.i)] ++ [D.r (l.map D.i), D.i a, D.b false, D.r (f.map D.i)])) ((.or (.not (.eq (.fld (.get (.fld (.tok 0) 0) (.tok 5)) 0) (.lit (.i 0)))) (.eq (.fld (.get (.fld (.tok 0) 0) (.tok 5)) 1) (.tok 5))))).tt = !decide (Ns s a) := by
        simp only [q00, go_br, q01, q02, allSay, X.says, X.ev, X.evs, evl, tblS, List.getD_cons_zero, List.getD_cons_succ, List.getElem?_cons_zero, List.getElem?_cons_succ, tt_b, int_i, str_s, rs_r, Option.isSome_some, Option.getD_some, decide_eq_true_eq, decide_eq_false_iff_not, gnE, List.length_map, gnF, gnL, decide_true, decide_false, Bool.or_true, true_and, and_true, cell_get hin, Ns, tagS_in hin]
        by_cases h0 : (cellAt s a).t = 0 <;> simp [h0]
      refine ⟨fun hst => ?_, fun hst => ?_⟩
      · have hns : ¬ Ns s a := by
          have := hcond.symm.trans hst
          simpa using this
        have hea := En.st hns
        refine mark_ok (P := .app (.tok 4) (.row [.tok 5])) (l := l ++ [a]) (m := f.set a.toNat 1) (i := i) rfl (fun e => by simp [X.ev, X.evs, evl, D.rs]) (by simp [X.ev, evl, D.rs, D.int]) rfl ⟨by omega, by omega⟩ (fun x hx => ?_) (by simp; omega) fun f' hf1 hf2 => ?_
        · rcases List.mem_append.1 hx with hx | hx
          · have := inS_iff.1 (hl x hx); simp; omega
          · obtain rfl : x = a := by simpa using hx
            simp; omega
        · refine finish (l ++ [a]) (fun x hx => ?_) (fun x hx => ?_) (hend hea) (fun x hx => List.mem_append_left _ hx) f' (by simpa [hfl] using hf1) fun j hj => ?_
          · rcases List.mem_append.1 hx with hx | hx
            · exact hl x hx
            · obtain rfl : x = a := by simpa using hx
              exact hin
          · rcases List.mem_append.1 hx with hx | hx
            · exact hch.en hea x hx
            · obtain rfl : x = a := by simpa using hx
              exact hea
          · rw [hf2 j (by simp; omega)]
            by_cases hjm : (j : Int) ∈ l ++ [a]
            · rw [if_pos hjm, if_pos hjm]
            · rw [if_neg hjm, if_neg hjm, getD_set (by omega), if_neg, hf j hj, if_neg fun h => hjm (List.mem_append_left _ h)]
              intro e
              exact hjm (List.mem_append_right _ (by simp; omega))
      · have hns : Ns s a := by
          have := hcond.symm.trans hst
          simpa using this
        have hin2 : inS s (cellAt s a).n = true := hrange a hns
        have hb := inS_iff.1 hin2
        have hgb : (D.r ((f.set a.toNat 1).map D.i)).get ((cellAt s a).n) = .i ((f.set a.toNat 1).getD ((cellAt s a).n).toNat 0) := marks_get hb.1 (by simp; omega)
        have hput : D.r ((f.map D.i).set a.toNat (.i 1)) = D.r ((f.set a.toNat 1).map D.i) := by rw [marks_set]
        rw [q00]
        refine ⟨by simp only [q00, go_br, q01, q02, allSay, X.says, X.ev, X.evs, evl, tblS, List.getD_cons_zero, List.getD_cons_succ, List.getElem?_cons_zero, List.getElem?_cons_succ, tt_b, int_i, str_s, rs_r, Option.isSome_some, Option.getD_some, decide_eq_true_eq, decide_eq_false_iff_not, gnE, List.length_map, gnF, gnL, decide_true, decide_false, Bool.or_true, true_and, and_true, cell_get hin, List.length_set]; omega, ?_⟩
        rw [go_br]
        simp only [q00, go_br, q01, q02, allSay, X.says, X.ev, X.evs, evl, tblS, List.getD_cons_zero, List.getD_cons_succ, List.getElem?_cons_zero, List.getElem?_cons_succ, tt_b, int_i, str_s, rs_r, Option.isSome_some, Option.getD_some, decide_eq_true_eq, decide_eq_false_iff_not, gnE, List.length_map, gnF, gnL, decide_true, decide_false, Bool.or_true, true_and, and_true, cell_get hin, hput, hgb]
        have hf' : ∀ j : Nat, j < s.cs.length → (f.set a.toNat 1).getD j 0 = if (j : Int) ∈ l ++ [a] then 1 else m.getD j 0 := fun j hj => by
          rw [getD_set (by omega), hf j hj]
          by_cases hja : a.toNat = j
          · rw [if_pos hja, if_pos (List.mem_append_right _ (by simp; omega))]
          · rw [if_neg hja]
            by_cases hjl : (j : Int) ∈ l
            · rw [if_pos hjl, if_pos (List.mem_append_left _ hjl)]
            · rw [if_neg hjl, if_neg fun h => ?_]
              rcases List.mem_append.1 h with h | h
              · exact hjl h
              · simp at h; omega
        refine ⟨fun hact => ?_, fun hact => ?_⟩
        · have hmem : (cellAt s a).n ∈ l ++ [a] := by
            rw [hf' _ (by omega), show ((((cellAt s a).n).toNat : Nat) : Int) = (cellAt s a).n by omega] at hact
            split at hact
            · assumption
            · have := hm02 ((cellAt s a).n).toNat (by omega)
              omega
          have hcl := closed_no (s := s) (Q := l ++ [a]) fun q hq => by
            rcases List.mem_append.1 hq with hq | hq
            · obtain ⟨g1, g2⟩ := hch.next q hq
              refine ⟨g1, g2.elim (List.mem_append_left _) fun e => List.mem_append_right _ (by simp [e])⟩
            · obtain rfl : q = a := by simpa using hq
              exact ⟨hns, hmem⟩
          have : acyP s = false := all_not hil (hcl _ _ (by
            rw [← hhd]
            cases l <;> simp))
          rw [this]
        · rw [updB, if_pos rfl]
          refine ⟨⟨l ++ [a], (cellAt s a).n, f.set a.toNat 1, by simp, hin2, by simp [hfl], hch.snoc hns rfl, by cases l <;> simpa using hhd, fun x hx => ?_, ?_, hact, hf'⟩, ?_⟩
          · rcases List.mem_append.1 hx with hx | hx
            · exact hl x hx
            · obtain rfl : x = a := by simpa using hx
              exact hin
          · rw [hset]
            simp
            omega
          · show List.count 0 (((f.set a.toNat 1).map D.i).map D.int) < List.count 0 ((f.map D.i).map D.int)
            rw [map_id' int_i, map_id' int_i, hset]
            omega
    · -- a cell that is done
      have hz' : ¬ f.getD a.toNat 0 = 0 := by
        simp only [q00, go_br, q01, q02, allSay, X.says, X.ev, X.evs, evl, tblS, List.getD_cons_zero, List.getD_cons_succ, List.getElem?_cons_zero, List.getElem?_cons_succ, tt_b, int_i, str_s, rs_r, Option.isSome_some, Option.getD_some, decide_eq_true_eq, decide_eq_false_iff_not, gnE, List.length_map, gnF, gnL, decide_true, decide_false, Bool.or_true, true_and, and_true, hmark] at hz
        exact hz
      have hea : En s a := by
        have h2 : m.getD a.toNat 0 = 2 := by
          have := hm02 a.toNat (by omega)
          omega
        have := hm.en _ h2
        rwa [show ((a.toNat : Nat) : Int) = a by omega] at this
      refine mark_ok (P := .tok 4) (l := l) (m := f) (i := i) rfl (fun e => by simp [X.ev, evl]) (by simp [X.ev, evl]) rfl ⟨by omega, by omega⟩ (fun x hx => ?_) (by omega) fun f' hf1 hf2 => ?_
      · have := inS_iff.1 (hl x hx); omega
      · refine finish l hl (hch.en hea) (hend hea) (fun x hx => hx) f' (by omega) fun j hj => ?_
        rw [hf2 j (by omega)]
        by_cases hjm : (j : Int) ∈ l
        · rw [if_pos hjm, if_pos hjm]
        · rw [if_neg hjm, if_neg hjm, hf j hj, if_neg hjm]
  · have : i = s.cs.length := by
      have : ¬ (i < s.cs.length) := by simpa [X.ev, evl, eS_0, D.int, D.rs, D.tt] using hlt
      omega
    subst this
    have : acyP s = true := all_yes fun j hj => (hdone j hj).ends
    rw [this]
    rfl
end Go.Proofs.Ytmebmpgffhajbaa


namespace Go.Proofs.Ytmebmpgffhajbaa
open Go.RowKit
set_option linter.unusedVariables false
set_option linter.unusedSimpArgs false

theorem scan_ok {S : Nat → List D → Option (List D)} {R : List D → Prop} {id n : Nat} {x0 : X} {body : Tree} {l : List D} {B : Nat → List D → Prop} {v0 : D} (N : Nat) (P : Nat → Bool) (h0 : x0.ev (evl S l) = v0)
    (h : ∀ (k : Nat) (B' : Nat → List D → Prop), k ≤ N → (∀ j, j < k → P j = true) → (k < N → P k = true → B' id [v0, .i ((k : Int) + 1)]) → (∀ j, j ≠ id → B' j = B j) → body.go S R (l.take n ++ [v0, .i k]) B') : (Tree.loop id n [x0, .lit (.i 0)] body).go S R l B := by
  rw [q17]
  refine ⟨fun st => ∃ k : Nat, k ≤ N ∧ st = [v0, .i k] ∧ ∀ j, j < k → P j = true, fun st => N - (st.getD 1 .u).int.toNat, ⟨0, Nat.zero_le _, by simp [X.evs, X.ev, h0], fun j hj => absurd hj (Nat.not_lt_zero _)⟩, ?_⟩
  rintro st - ⟨k, hk, rfl, hP⟩
  refine h k _ hk hP (fun hlt hp => ?_) fun j hj => by rw [updB, if_neg hj]
  rw [updB, if_pos rfl]
  refine ⟨⟨k + 1, hlt, by simp, upto_succ hP hp⟩, ?_⟩
  simp [D.int]
  omega

def wkB (vc : So → Ce → Bool) (s : So) (w : Wk) : Bool := decide (1 ≤ w.ser) && (decide (w.ser ≤ s.ser) && (vc s w.att && vc s w.val))
def headB (s : So) : Bool := decide (1 ≤ s.mx) && (decide (s.mx ≤ 1048576) && (decide ((s.cs.length : Int) ≤ s.mx) && (decide (0 ≤ s.ser) && symsB s.ys)))
def validR (s : So) : Bool := headB s && ((List.range s.cs.length).all (fun i => cellR s (i : Nat)) && ((List.range s.tr.length).all (fun i => oldR s (s.tr.getD i default)) && (List.range s.wk.length).all fun i => wkB vcR s (s.wk.getD i default)))
def validP (s : So) : Bool := headB s && ((List.range s.cs.length).all (fun i => fitsP s (i : Nat)) && (acyP s && ((List.range s.tr.length).all (fun i => oldP s (s.tr.getD i default)) && (List.range s.wk.length).all fun i => wkB vcP s (s.wk.getD i default))))

theorem tag_nn {s : So} {n : Int} (h : 0 ≤ tagS s n) : inS s n = true := by
  cases hi : inS s n with
  | true => rfl
  | false => rw [tagS_out hi] at h; omega
theorem fits_acyQ {s : So} (hh : headB s = true) (h : ∀ j, j < s.cs.length → fitsP s (j : Nat) = true) : acyQ s = true := by
  simp only [headB, Bool.and_eq_true, decide_eq_true_eq] at hh
  simp only [acyQ, Bool.and_eq_true, decide_eq_true_eq]
  refine ⟨by omega, all_yes fun j hj => ?_⟩
  have := h j hj
  by_cases h0 : (cellAt s (j : Nat)).t = 0
  · simp only [fitsP, h0, vcP] at this
    have h1 : 0 ≤ tagS s (cellAt s (j : Nat)).n := by
      simp at this
      exact this.1
    simp [tag_nn h1]
  · simp [h0]

theorem ok_cells_Valid : FOk q0n (gSb validP) := fok_cells_Valid ok_cells_validSymbols ok_cells_fits ok_cells_acyclic ok_cells_validUndo q1f fun ds outs hw hg => by
  obtain ⟨d, r, rfl, hd, rfl⟩ := hw
  obtain ⟨s, rfl, hs⟩ := wfS hd
  simp only [gSb, dS_eS, Option.some.injEq] at hg
  subst hg
  have hl := hs.cs.1
  have hl2 := hs.tr.1
  have hl3 := hs.wk.1
  have hsy : gYsb symsB [D.r (s.ys.map eY)] = some [.b (symsB s.ys)] := by simp [gYsb, rs_r, map_id' dY_eY]
  rw [q27, q00]
  refine ⟨by simp only [q00, go_br, q01, q02, allSay, X.says, X.ev, X.evs, evl, tblS, List.getD_cons_zero, List.getD_cons_succ, List.getElem?_cons_zero, List.getElem?_cons_succ, tt_b, int_i, str_s, rs_r, Option.isSome_some, Option.getD_some, decide_eq_true_eq, decide_eq_false_iff_not, gnE, List.length_map, gnF, gnL, decide_true, decide_false, Bool.or_true, true_and, and_true, hsy], ?_⟩
  rw [go_br]
  have hcond : (X.ev (evl (tblS [(q0e, gYsb symsB), (q13, gSIbP cellQ fitsP), (q0p, gSbP acyQ acyP), (q0i, gSUb oldP), (q05, gSCb vcP)]) [eS s]) (.or (.or (.or (.or (.lt (.fld (.tok 0) 5) (.lit (.i 1))) (.lt (.lit (.i 1048576)) (.fld (.tok 0) 5))) (.lt (.fld (.tok 0) 5) (.len (.fld (.tok 0) 0)))) (.lt (.fld (.tok 0) 4) (.lit (.i 0)))) (.not (.call 0 0 [(.fld (.tok 0) 1)])))).tt = !headB s := by
    simp only [q00, go_br, q01, q02, allSay, X.says, X.ev, X.evs, evl, tblS, List.getD_cons_zero, List.getD_cons_succ, List.getElem?_cons_zero, List.getElem?_cons_succ, tt_b, int_i, str_s, rs_r, Option.isSome_some, Option.getD_some, decide_eq_true_eq, decide_eq_false_iff_not, gnE, List.length_map, gnF, gnL, decide_true, decide_false, Bool.or_true, true_and, and_true, hsy, headB]
    by_cases h1 : s.mx < 1
    · have : ¬ 1 ≤ s.mx := by omega
      simp [h1, this]
    · by_cases h2 : 1048576 < s.mx
      · have : ¬ s.mx ≤ 1048576 := by omega
        simp [h2, this]
      · by_cases h3 : s.mx < s.cs.length
        · have : ¬ (s.cs.length : Int) ≤ s.mx := by omega
          simp [h3, this]
        · by_cases h4 : s.ser < 0
          · have : ¬ 0 ≤ s.ser := by omega
            simp [h4, this]
          · have a1 : 1 ≤ s.mx := by omega
            have a2 : s.mx ≤ 1048576 := by omega
            have a3 : (s.cs.length : Int) ≤ s.mx := by omega
            have a4 : 0 ≤ s.ser := by omega
            simp [h1, h2, h3, h4, a1, a2, a3, a4]
  refine ⟨fun hx => ?_, fun hx => ?_⟩
  · have hh : headB s = false := by
      have := hcond.symm.trans hx
      simpa using this
    simp [q01, X.evs, X.ev, validP, hh]
  have hh : headB s = true := by
    have := hcond.symm.trans hx
    simpa using this
  have hsy2 : symsB s.ys = true := by
    simp only [headB, Bool.and_eq_true] at hh
    exact hh.2.2.2.2
  refine scan_ok s.cs.length (fun i => fitsP s (i : Nat)) (v0 := .b false) rfl fun k B' hk hP hB _ => ?_
  rw [go_br]
  refine ⟨fun hlt => ?_, fun hlt => ?_⟩
  · have hkl : k < s.cs.length := by simpa [X.ev, evl, eS_0, D.int, D.rs, D.tt] using hlt
    have hin : inS s (k : Nat) = true := inS_iff.2 ⟨by omega, by omega⟩
    have hQ : cellQ s (k : Nat) = true := by simp [cellQ, hin, hsy2]
    simp only [q00, go_br, q01, q02, allSay, X.says, X.ev, X.evs, evl, tblS, List.getD_cons_zero, List.getD_cons_succ, List.getElem?_cons_zero, List.getElem?_cons_succ, tt_b, int_i, str_s, rs_r, Option.isSome_some, Option.getD_some, decide_eq_true_eq, decide_eq_false_iff_not, gnE, List.length_map, gnF, gnL, decide_true, decide_false, Bool.or_true, true_and, and_true, gSIbP, hQ, if_true]
    refine ⟨fun hb => ?_, fun hb => ⟨⟨by omega, by omega⟩, ?_⟩⟩
    · have : fitsP s (k : Nat) = false := by simpa using hb
      have := all_not (P := fun i => fitsP s (i : Nat)) hkl this
      simp [validP, this]
    · exact hB hkl (by simpa using hb)
  have hc : (List.range s.cs.length).all (fun i => fitsP s (i : Nat)) = true := by
    have : k = s.cs.length := by
      have : ¬ (k < s.cs.length) := by simpa [X.ev, evl, eS_0, D.int, D.rs, D.tt] using hlt
      omega
    subst this
    exact all_yes hP
  have hq : acyQ s = true := fits_acyQ hh fun j hj => all_of (P := fun i => fitsP s (i : Nat)) hc hj
  rw [q00]
  refine ⟨by simp only [q00, go_br, q01, q02, allSay, X.says, X.ev, X.evs, evl, tblS, List.getD_cons_zero, List.getD_cons_succ, List.getElem?_cons_zero, List.getElem?_cons_succ, tt_b, int_i, str_s, rs_r, Option.isSome_some, Option.getD_some, decide_eq_true_eq, decide_eq_false_iff_not, gnE, List.length_map, gnF, gnL, decide_true, decide_false, Bool.or_true, true_and, and_true, gSbP, hq, if_true], ?_⟩
  rw [go_br]
  refine ⟨fun hb => ?_, fun hb => ?_⟩
  · have : acyP s = false := by
      simp only [q00, go_br, q01, q02, allSay, X.says, X.ev, X.evs, evl, tblS, List.getD_cons_zero, List.getD_cons_succ, List.getElem?_cons_zero, List.getElem?_cons_succ, tt_b, int_i, str_s, rs_r, Option.isSome_some, Option.getD_some, decide_eq_true_eq, decide_eq_false_iff_not, gnE, List.length_map, gnF, gnL, decide_true, decide_false, Bool.or_true, true_and, and_true, gSbP, hq, if_true] at hb
      simpa only [Bool.not_eq_true'] using hb
    simp only [q01, X.evs, X.ev, validP, this, Bool.false_and, Bool.and_false]
  have ha : acyP s = true := by
    simp only [q00, go_br, q01, q02, allSay, X.says, X.ev, X.evs, evl, tblS, List.getD_cons_zero, List.getD_cons_succ, List.getElem?_cons_zero, List.getElem?_cons_succ, tt_b, int_i, str_s, rs_r, Option.isSome_some, Option.getD_some, decide_eq_true_eq, decide_eq_false_iff_not, gnE, List.length_map, gnF, gnL, decide_true, decide_false, Bool.or_true, true_and, and_true, gSbP, hq, if_true] at hb
    simpa only [Bool.not_eq_false'] using hb
  refine scan_ok s.tr.length (fun i => oldP s (s.tr.getD i default)) (v0 := .b false) rfl fun k B' hk hP hB _ => ?_
  rw [go_br]
  refine ⟨fun hlt => ?_, fun hlt => ?_⟩
  · have hkl : k < s.tr.length := by simpa [X.ev, evl, eS_2, D.int, D.rs, D.tt] using hlt
    simp only [q00, go_br, q01, q02, allSay, X.says, X.ev, X.evs, evl, tblS, List.getD_cons_zero, List.getD_cons_succ, List.getElem?_cons_zero, List.getElem?_cons_succ, tt_b, int_i, str_s, rs_r, Option.isSome_some, Option.getD_some, decide_eq_true_eq, decide_eq_false_iff_not, gnE, List.length_map, gnF, gnL, decide_true, decide_false, Bool.or_true, true_and, and_true, gSUb, get_n eU hkl]
    refine ⟨⟨by omega, by omega⟩, fun hb => ?_, fun hb => ⟨⟨by omega, by omega⟩, ?_⟩⟩
    · have : oldP s (s.tr.getD k default) = false := by simpa only [Bool.not_eq_true'] using hb
      have := all_not (P := fun i => oldP s (s.tr.getD i default)) hkl this
      simp only [validP, this, Bool.false_and, Bool.and_false]
    · exact hB hkl (by simpa only [Bool.not_eq_false'] using hb)
  have hc2 : (List.range s.tr.length).all (fun i => oldP s (s.tr.getD i default)) = true := by
    have : k = s.tr.length := by
      have : ¬ (k < s.tr.length) := by simpa [X.ev, evl, eS_2, D.int, D.rs, D.tt] using hlt
      omega
    subst this
    exact all_yes hP
  refine scan_ok s.wk.length (fun i => wkB vcP s (s.wk.getD i default)) (v0 := .b false) rfl fun k B' hk hP hB _ => ?_
  rw [go_br]
  refine ⟨fun hlt => ?_, fun hlt => ?_⟩
  · have hkl : k < s.wk.length := by simpa [X.ev, evl, eS_3, D.int, D.rs, D.tt] using hlt
    simp only [q00, go_br, q01, q02, allSay, X.says, X.ev, X.evs, evl, tblS, List.getD_cons_zero, List.getD_cons_succ, List.getElem?_cons_zero, List.getElem?_cons_succ, tt_b, int_i, str_s, rs_r, Option.isSome_some, Option.getD_some, decide_eq_true_eq, decide_eq_false_iff_not, gnE, List.length_map, gnF, gnL, decide_true, decide_false, Bool.or_true, true_and, and_true, gSCb, get_n eW hkl]
    have hw : ((decide ((s.wk.getD k default).ser < 1) || decide (s.ser < (s.wk.getD k default).ser) || !vcP s (s.wk.getD k default).att || !vcP s (s.wk.getD k default).val)) = !wkB vcP s (s.wk.getD k default) := by
      generalize s.wk.getD k default = w
      simp only [wkB]
      by_cases h1 : w.ser < 1
      · have : ¬ 1 ≤ w.ser := by omega
        simp [h1, this]
      · by_cases h2 : s.ser < w.ser
        · have : ¬ w.ser ≤ s.ser := by omega
          simp [h2, this]
        · have a1 : 1 ≤ w.ser := by omega
          have a2 : w.ser ≤ s.ser := by omega
          simp [h1, h2, a1, a2]
    refine ⟨⟨by omega, by omega⟩, fun hb => ?_, fun hb => ⟨⟨by omega, by omega⟩, ?_⟩⟩
    · rw [hw] at hb
      have := all_not (P := fun i => wkB vcP s (s.wk.getD i default)) hkl (by simpa only [Bool.not_eq_true'] using hb)
      simp only [validP, this, Bool.and_false]
    · rw [hw] at hb
      exact hB hkl (by simpa only [Bool.not_eq_false'] using hb)
  have hc3 : (List.range s.wk.length).all (fun i => wkB vcP s (s.wk.getD i default)) = true := by
    have : k = s.wk.length := by
      have : ¬ (k < s.wk.length) := by simpa [X.ev, evl, eS_3, D.int, D.rs, D.tt] using hlt
      omega
    subst this
    exact all_yes hP
  simp only [q01, X.evs, X.ev, validP, hh, hc, ha, hc2, hc3, Bool.and_true]
end Go.Proofs.Ytmebmpgffhajbaa


namespace Go.Proofs.Ytmebmpgffhajbaa
open Go.RowKit
set_option linter.unusedVariables false
set_option linter.unusedSimpArgs false

def rowQ (n : Nat) (d : D) : Bool := decide (d.rs.length ≤ n)
theorem rowQ_r (n : Nat) (l : List D) : (rowQ n (.r l) = true) = (l.length ≤ n) := by simp only [rowQ, decide_eq_true_eq]; rfl
def gCl (n : Nat) : List D → Option (List D)
  | [a] => if rowQ n a then some [a] else none
  | _ => none
def clT (n : Nat) : Tree := (.amb (.tok 0) .false (.leaf [(.lit (.r []))]) (.need [(.le (.add (.lit (.i 0)) (.len (.tok 0))) (.lit (.i (n : Nat))))] (.leaf [(.app (.row []) (.tok 0))])))
theorem clT_ok {S : Nat → List D → Option (List D)} {l : List D} {R : List D → Prop} {B : Nat → List D → Prop} {n : Nat} (hl : l.length ≤ n) (hR : R [.r l]) : (clT n).go S R [.r l] B := by
  refine ⟨fun h => ?_, fun _ => ?_⟩
  · have : l = [] := h rfl
    subst this
    exact hR
  · rw [q00]
    refine ⟨by simp only [q00, go_br, q01, q02, allSay, X.says, X.ev, X.evs, evl, tblS, List.getD_cons_zero, List.getD_cons_succ, List.getElem?_cons_zero, List.getElem?_cons_succ, tt_b, int_i, str_s, rs_r, Option.isSome_some, Option.getD_some, decide_eq_true_eq, decide_eq_false_iff_not, gnE, List.length_map, gnF, gnL, decide_true, decide_false, Bool.or_true, true_and, and_true]; omega, ?_⟩
    simpa [q01, X.evs, X.ev, evl, D.rs] using hR
theorem ok_slices_Clone_Cell : FOk q0q (gCl 8796093021952) := fok_slices_Clone_Cell fun ds outs hw hg => by
  obtain ⟨d, r, rfl, hd, rfl⟩ := hw
  obtain ⟨l, te, rfl, -⟩ := hd.row
  simp only [gCl, rowQ_r, Option.ite_none_right_eq_some, Option.some.injEq] at hg
  obtain ⟨h1, rfl⟩ := hg
  exact clT_ok h1 rfl
theorem ok_slices_Clone_Symbol : FOk q0m (gCl 5864062014634) := fok_slices_Clone_Symbol fun ds outs hw hg => by
  obtain ⟨d, r, rfl, hd, rfl⟩ := hw
  obtain ⟨l, te, rfl, -⟩ := hd.row
  simp only [gCl, rowQ_r, Option.ite_none_right_eq_some, Option.some.injEq] at hg
  obtain ⟨h1, rfl⟩ := hg
  exact clT_ok h1 rfl
theorem ok_slices_Clone_Undo : FOk q0r (gCl 5864062014634) := fok_slices_Clone_Undo fun ds outs hw hg => by
  obtain ⟨d, r, rfl, hd, rfl⟩ := hw
  obtain ⟨l, te, rfl, -⟩ := hd.row
  simp only [gCl, rowQ_r, Option.ite_none_right_eq_some, Option.some.injEq] at hg
  obtain ⟨h1, rfl⟩ := hg
  exact clT_ok h1 rfl
theorem ok_slices_Clone_Wake : FOk q0s (gCl 3518437208780) := fok_slices_Clone_Wake fun ds outs hw hg => by
  obtain ⟨d, r, rfl, hd, rfl⟩ := hw
  obtain ⟨l, te, rfl, -⟩ := hd.row
  simp only [gCl, rowQ_r, Option.ite_none_right_eq_some, Option.some.injEq] at hg
  obtain ⟨h1, rfl⟩ := hg
  exact clT_ok h1 rfl

def clQ (s : So) : Bool := decide (s.cs.length ≤ 8796093021952) && (decide (s.ys.length ≤ 5864062014634) && (decide (s.tr.length ≤ 5864062014634) && decide (s.wk.length ≤ 3518437208780)))
def gClone : List D → Option (List D)
  | [s] => if clQ (dS s) then some [eS (dS s)] else none
  | _ => none
theorem clQ_of {s : So} (hs : s.ok) : clQ s = true := by
  simp only [clQ, Bool.and_eq_true, decide_eq_true_eq]
  exact ⟨hs.cs.1, hs.ys.1, hs.tr.1, hs.wk.1⟩
theorem ok_cells_Clone : FOk q1m gClone := fok_cells_Clone ok_slices_Clone_Cell ok_slices_Clone_Symbol ok_slices_Clone_Undo ok_slices_Clone_Wake fun ds outs hw hg => by
  obtain ⟨d, r, rfl, hd, rfl⟩ := hw
  obtain ⟨s, rfl, hs⟩ := wfS hd
  simp only [gClone, dS_eS, Option.ite_none_right_eq_some, Option.some.injEq] at hg
  obtain ⟨hq, rfl⟩ := hg
  simp only [clQ, Bool.and_eq_true, decide_eq_true_eq] at hq
  obtain ⟨h1, h2, h3, h4⟩ := hq
  simp only [q36, q00, go_br, q01, q02, allSay, X.says, X.ev, X.evs, evl, tblS, List.getD_cons_zero, List.getD_cons_succ, List.getElem?_cons_zero, List.getElem?_cons_succ, tt_b, int_i, str_s, rs_r, Option.isSome_some, Option.getD_some, decide_eq_true_eq, decide_eq_false_iff_not, gnE, List.length_map, gnF, gnL, decide_true, decide_false, Bool.or_true, true_and, and_true, gCl, rowQ_r, h1, h2, h3, h4, if_true]
  simp [eS, D.fs, D.fld]

end Go.Proofs.Ytmebmpgffhajbaa


namespace Go.Proofs.Ytmebmpgffhajbaa
open Go.RowKit
set_option linter.unusedVariables false
set_option maxRecDepth 100000

def g_law34_cell : List D → Option (List D) := denF [] 60 q3c
theorem ok_law34_cell_c : FOk q0y g_law34_cell := fok_law34_cell  fun ds outs hw hg => q16 hg
def g_law34_six : List D → Option (List D) := denF [(q0y, g_law34_cell)] 60 q3q
theorem ok_law34_six_c : FOk q1s g_law34_six := fok_law34_six ok_law34_cell_c fun ds outs hw hg => q16 hg
def g_cells_validSymbols : List D → Option (List D) := denF [] 60 q1v
theorem ok_cells_validSymbols_c : FOk q0e g_cells_validSymbols := q2q  fun ds outs hw hg => q16 hg
def g_cells_arity : List D → Option (List D) := denF [] 60 q28
theorem ok_cells_arity_c : FOk q0f g_cells_arity := fok_cells_arity  fun ds outs hw hg => q16 hg
def g_cells_tag : List D → Option (List D) := denF [] 60 q2g
theorem q2h : FOk q09 g_cells_tag := fok_cells_tag  fun ds outs hw hg => q16 hg
def g_cells_group : List D → Option (List D) := denF [(q09, g_cells_tag)] 60 q29
theorem ok_cells_group_c : FOk q0k g_cells_group := fok_cells_group q2h fun ds outs hw hg => q16 hg
def g_cells_ValidCell : List D → Option (List D) := denF [(q0f, g_cells_arity), (q09, g_cells_tag)] 60 q21
theorem q1z : FOk q05 g_cells_ValidCell := q3n ok_cells_arity_c q2h fun ds outs hw hg => q16 hg
def g_cells_fits : List D → Option (List D) := denF [(q0f, g_cells_arity), (q09, g_cells_tag), (q0k, g_cells_group), (q05, g_cells_ValidCell)] 60 q2e
theorem ok_cells_fits_c : FOk q13 g_cells_fits := fok_cells_fits ok_cells_arity_c q2h ok_cells_group_c q1z fun ds outs hw hg => q16 hg
def g_cells_acyclic : List D → Option (List D) := denF [] 60 q23
theorem ok_cells_acyclic_c : FOk q0p g_cells_acyclic := fok_cells_acyclic  fun ds outs hw hg => q16 hg
def g_cells_validUndo : List D → Option (List D) := denF [(q09, g_cells_tag), (q0k, g_cells_group), (q05, g_cells_ValidCell)] 60 q20
theorem ok_cells_validUndo_c : FOk q0i g_cells_validUndo := q3l q2h ok_cells_group_c q1z fun ds outs hw hg => q16 hg
def g_cells_Valid : List D → Option (List D) := denF [(q0e, g_cells_validSymbols), (q13, g_cells_fits), (q0p, g_cells_acyclic), (q0i, g_cells_validUndo), (q05, g_cells_ValidCell)] 60 q27
theorem ok_cells_Valid_c : FOk q0n g_cells_Valid := fok_cells_Valid ok_cells_validSymbols_c ok_cells_fits_c ok_cells_acyclic_c ok_cells_validUndo_c q1z fun ds outs hw hg => q16 hg
def g_gc_Valid : List D → Option (List D) := denF [(q0n, g_cells_Valid), (q05, g_cells_ValidCell)] 60 q2x
theorem ok_gc_Valid_c : FOk q0o g_gc_Valid := fok_gc_Valid ok_cells_Valid_c q1z fun ds outs hw hg => q16 hg
def g_gc_marks_has : List D → Option (List D) := denF [] 60 q24
theorem q2n : FOk q0b g_gc_marks_has := fok_gc_marks_has  fun ds outs hw hg => q16 hg
def g_gc_mark_1 : List D → Option (List D) := denF [(q0b, g_gc_marks_has)] 60 q2i
theorem ok_gc_mark_1_c : FOk q0g g_gc_mark_1 := fok_gc_mark_1 q2n fun ds outs hw hg => q16 hg
def g_gc_mark : List D → Option (List D) := denF [(q0g, g_gc_mark_1)] 60 q3j
theorem ok_gc_mark_c : FOk q18 g_gc_mark := fok_gc_mark ok_gc_mark_1_c fun ds outs hw hg => q16 hg
def g_gc_Live : List D → Option (List D) := denF [(q0o, g_gc_Valid), (q18, g_gc_mark), (q0b, g_gc_marks_has)] 60 tree_gc_Live
theorem ok_gc_Live_c : FOk q1w g_gc_Live := fok_gc_Live ok_gc_Valid_c ok_gc_mark_c q2n fun ds outs hw hg => q16 hg
def g_gc_Collect_1 : List D → Option (List D) := denF [] 60 q25
theorem ok_gc_Collect_1_c : FOk q11 g_gc_Collect_1 := fok_gc_Collect_1  fun ds outs hw hg => q16 hg
def g_gc_Collect : List D → Option (List D) := denF [(q11, g_gc_Collect_1), (q0o, g_gc_Valid), (q18, g_gc_mark), (q0b, g_gc_marks_has)] 60 q2c
theorem ok_gc_Collect_c : FOk q0v g_gc_Collect := fok_gc_Collect ok_gc_Collect_1_c ok_gc_Valid_c ok_gc_mark_c q2n fun ds outs hw hg => q16 hg
def g_ref30_Same : List D → Option (List D) := denF [] 60 q3d
theorem ok_ref30_Same_c : FOk q1h g_ref30_Same := fok_ref30_Same  fun ds outs hw hg => q16 hg
def g_ref34_Same : List D → Option (List D) := denF [] 60 q3g
theorem ok_ref34_Same_c : FOk q1g g_ref34_Same := fok_ref34_Same  fun ds outs hw hg => q16 hg
def g_law34_gives : List D → Option (List D) := denF [(q1w, g_gc_Live), (q0v, g_gc_Collect), (q1h, g_ref30_Same), (q1g, g_ref34_Same)] 60 q30
theorem ok_law34_gives_c : FOk q1n g_law34_gives := fok_law34_gives ok_gc_Live_c ok_gc_Collect_c ok_ref30_Same_c ok_ref34_Same_c fun ds outs hw hg => q16 hg
end Go.Proofs.Ytmebmpgffhajbaa


namespace Go.Proofs.Ytmebmpgffhajbaa
open Go.RowKit
set_option linter.unusedVariables false
set_option maxRecDepth 100000

end Go.Proofs.Ytmebmpgffhajbaa


namespace Go.Proofs.Ytmebmpgffhajbaa
open Go.RowKit
set_option linter.unusedVariables false
set_option linter.unusedSimpArgs false

end Go.Proofs.Ytmebmpgffhajbaa


namespace Go.Proofs.Ytmebmpgffhajbaa
open Go.RowKit
set_option linter.unusedVariables false
set_option linter.unusedSimpArgs false

end Go.Proofs.Ytmebmpgffhajbaa


namespace Go.Proofs.Ytmebmpgffhajbaa
open Go.RowKit
set_option linter.unusedVariables false
set_option maxRecDepth 100000

end Go.Proofs.Ytmebmpgffhajbaa


namespace Go.Proofs.Ytmebmpgffhajbaa
open Go.RowKit
set_option linter.unusedVariables false
set_option linter.unusedSimpArgs false

structure VS (s : So) : Prop where
  tag : ∀ i : Int, inS s i = true → 0 ≤ (cellAt s i).t ∧ (cellAt s i).t ≤ 5
theorem vcR_tag {s : So} {c : Ce} (h : vcR s c = true) : c.t = 0 ∨ c.t = 1 ∨ c.t = 2 ∨ c.t = 3 ∨ c.t = 5 := by
  unfold vcR at h
  by_cases h0 : c.t = 0
  · exact .inl h0
  · by_cases h1 : c.t = 1
    · exact .inr (.inl h1)
    · by_cases h2 : c.t = 2
      · exact .inr (.inr (.inl h2))
      · by_cases h3 : c.t = 3
        · exact .inr (.inr (.inr (.inl h3)))
        · by_cases h5 : c.t = 5
          · exact .inr (.inr (.inr (.inr h5)))
          · simp [h0, h1, h2, h3, h5] at h
theorem vcP_tag {s : So} {c : Ce} (h : vcP s c = true) : c.t = 0 ∨ c.t = 1 ∨ c.t = 2 ∨ c.t = 3 ∨ c.t = 5 := by
  unfold vcP at h
  by_cases h0 : c.t = 0
  · exact .inl h0
  · by_cases h1 : c.t = 1
    · exact .inr (.inl h1)
    · by_cases h2 : c.t = 2
      · exact .inr (.inr (.inl h2))
      · by_cases h3 : c.t = 3
        · exact .inr (.inr (.inr (.inl h3)))
        · by_cases h5 : c.t = 5
          · exact .inr (.inr (.inr (.inr h5)))
          · simp [h0, h1, h2, h3, h5] at h
theorem validR_vs {s : So} (h : validR s = true) : VS s := by
  simp only [validR, Bool.and_eq_true] at h
  refine ⟨fun i hi => ?_⟩
  have h1 := inS_iff.1 hi
  have hk := all_of h.2.1 (k := i.toNat) (by omega)
  rw [show ((i.toNat : Nat) : Int) = i by omega] at hk
  unfold cellR at hk
  by_cases h4 : (cellAt s i).t = 4
  · omega
  · rw [if_neg h4] at hk
    simp only [Bool.and_eq_true] at hk
    have := vcR_tag hk.1
    omega
theorem validP_vs {s : So} (h : validP s = true) : VS s := by
  simp only [validP, Bool.and_eq_true] at h
  refine ⟨fun i hi => ?_⟩
  have h1 := inS_iff.1 hi
  have hk := all_of h.2.1 (k := i.toNat) (by omega)
  rw [show ((i.toNat : Nat) : Int) = i by omega] at hk
  unfold fitsP at hk
  by_cases h4 : (cellAt s i).t = 4
  · omega
  · rw [if_neg h4] at hk
    by_cases h5 : (cellAt s i).t = 5
    · omega
    · rw [if_neg h5] at hk
      have := vcP_tag hk
      omega
theorem VS.tag_in {s : So} (h : VS s) (n : Int) : decide (0 ≤ tagS s n) = inS s n := by
  cases hi : inS s n with
  | true =>
    rw [tagS_in hi]
    exact decide_eq_true (h.tag n hi).1
  | false =>
    rw [tagS_out hi]
    decide
theorem VS.vc {s : So} (h : VS s) (c : Ce) : vcP s c = vcR s c := by
  unfold vcP vcR
  rw [h.tag_in]
theorem VS.old {s : So} (h : VS s) (u : Un) : oldP s u = oldR s u := by
  simp only [oldP, oldR, oldB, h.tag_in, h.vc]
theorem VS.cell {s : So} (h : VS s) {i : Int} (hi : inS s i = true) : cellR s i = (fitsP s i && endsB s i) := by
  have h1 := inS_iff.1 hi
  have ht := tagS_in hi
  unfold cellR fitsP
  by_cases h4 : (cellAt s i).t = 4
  · rw [if_pos h4, if_pos h4]
    have he : endsB s i = true := (En.st (fun hn => by have := hn.1; omega)).ends
    rw [he, Bool.and_true]
    by_cases ha : 1 ≤ arS s (cellAt s i).n
    · rw [decide_eq_true ha, Bool.true_and, Bool.true_and]
      generalize harr : arS s (cellAt s i).n = ar at ha
      rw [Bool.eq_iff_iff]
      simp only [Bool.and_eq_true, List.all_eq_true, List.mem_range, Bool.not_eq_true', decide_eq_false_iff_not, decide_eq_true_eq]
      constructor
      · rintro ⟨q1, q2⟩ j hj
        refine ⟨?_, q2 j hj⟩
        have hin : inS s (i + ((j : Int) + 1)) = true := by
          have := inS_iff.1 q1
          exact inS_iff.2 ⟨by omega, by omega⟩
        rw [tagS_in hin]
        exact (h.tag _ hin).1
      · intro q
        refine ⟨?_, fun j hj => (q j hj).2⟩
        have h2 := (q (ar.toNat - 1) (by omega)).1
        have h3 := h.tag_in (i + (((ar.toNat - 1 : Nat) : Int) + 1))
        rw [decide_eq_true h2] at h3
        have e : i + (((ar.toNat - 1 : Nat) : Int) + 1) = i + ar := by omega
        rw [e] at h3
        exact h3.symm
    · rw [decide_eq_false ha]
      rfl
  · rw [if_neg h4, if_neg h4]
    by_cases h5 : (cellAt s i).t = 5
    · rw [if_pos h5]
      have hd : decide ((cellAt s i).t = 5) = true := decide_eq_true h5
      rw [hd]
      by_cases hn : (cellAt s i).n = i
      · have hv : vcR s (cellAt s i) = true := by
          unfold vcR
          simp [h5, hn, ht]
        rw [hv, decide_eq_true hn]
        simp [Bool.and_comm]
      · rw [decide_eq_false hn]
        simp
    · rw [if_neg h5, decide_eq_false h5, h.vc]
      simp
theorem all_congr {n : Nat} {P Q : Nat → Bool} (h : ∀ j, j < n → P j = Q j) : (List.range n).all P = (List.range n).all Q := by
  rw [Bool.eq_iff_iff, List.all_eq_true, List.all_eq_true]
  exact ⟨fun q j hj => (h j (List.mem_range.1 hj)) ▸ q j hj, fun q j hj => (h j (List.mem_range.1 hj)).symm ▸ q j hj⟩
theorem all_and {n : Nat} {P Q : Nat → Bool} : ((List.range n).all fun j => P j && Q j) = ((List.range n).all P && (List.range n).all Q) := by
  rw [Bool.eq_iff_iff]
  simp only [List.all_eq_true, Bool.and_eq_true]
  exact ⟨fun q => ⟨fun j hj => (q j hj).1, fun j hj => (q j hj).2⟩, fun q j hj => ⟨q.1 j hj, q.2 j hj⟩⟩
theorem VS.valid {s : So} (h : VS s) : validP s = validR s := by
  have e1 : ((List.range s.cs.length).all fun i => cellR s (i : Nat)) = ((List.range s.cs.length).all (fun i => fitsP s (i : Nat)) && acyP s) := by
    unfold acyP
    rw [← all_and]
    exact all_congr fun j hj => h.cell (inS_iff.2 ⟨by omega, by omega⟩)
  have e2 : ((List.range s.tr.length).all fun i => oldP s (s.tr.getD i default)) = (List.range s.tr.length).all fun i => oldR s (s.tr.getD i default) := all_congr fun j _ => h.old _
  have e3 : ((List.range s.wk.length).all fun i => wkB vcP s (s.wk.getD i default)) = (List.range s.wk.length).all fun i => wkB vcR s (s.wk.getD i default) := all_congr fun j _ => by
    unfold wkB
    rw [h.vc, h.vc]
  unfold validP validR
  rw [e1, e2, e3, Bool.and_assoc]
theorem valid_eq (s : So) : validP s = validR s := by
  cases hP : validP s with
  | true => rw [← (validP_vs hP).valid, hP]
  | false =>
    cases hR : validR s with
    | false => rfl
    | true => rw [(validR_vs hR).valid, hR] at hP; cases hP

end Go.Proofs.Ytmebmpgffhajbaa

